/- coerce.words: a walk that has come to a group, as the logic sees it, and back. Conditions: none; plain lemmas. -/
import Derived.Test.YtopgmopdjiahmaaDoorMz
set_option linter.unusedVariables false
set_option linter.unusedSimpArgs false
set_option maxRecDepth 100000
namespace Go.Proofs.YtopgmopdjiahmaaDoor.Lg
open Go Go.RowKit Go.Proofs Go.Proofs.YtopgmopdjiahmaaDoor
abbrev strL (ss : List ByteArray) : List (List LV) := ss.map fun s => [LV.imm true (.str s)]
theorem row_shape {w : World} {v : Value} {n : Nat} {xs : List Value} (h : w.ownsRow 0 9 1 v n xs) : ∃ va vc, v = .slice va n vc := by
  rcases h.2 with ⟨rfl, rfl⟩ | ⟨g, cap, cur, rfl, _⟩
  · exact ⟨_, _, rfl⟩
  · exact ⟨_, _, rfl⟩
/-- all that stood at the group's beginning, other than the variable l and its row, stands still -/
def mCx (s : Nat) (v : Value) (w : World) : Cx where
  w := { w with heap := #[] }
  N := fun _ => False
  na := 0
  m := fun _ => 0
  hN := fun b h => h.elim
  hm := fun i h => absurd h (by omega)
  G := fun b => b < w.heap.size ∧ b ≠ s ∧ v.ownBlock ≠ some b
  gh := fun b => w.heap[b]?
  s2 := w.heap.size
def mE (cells : List IV) : Option ByteArray → List (Nat × LV)
  | none => [(1, .imm false (.ptr cells 0)), (2, .loc (.own 2) 0)]
  | some s => [(1, .imm false (.ptr cells 0)), (2, .loc (.own 2) 0), (7, .imm true (.str s))]
def mS (ss : List ByteArray) : Bool → List (Key × Box)
  | true => [(.own 2, .var [.nils])]
  | false => [(.own 2, .var [.row (.own 500) ss.length]), (.own 500, .row 9 1 (strL ss))]
theorem mInv {w0 : World} {v0 : Value} {s : Nat} {w : World} {va : Option Addr} {vc : Nat} {ss : List ByteArray} (m : Mid w0 v0 s w va vc (ss.map .string)) {a : Act} {cells : List IV} {x : Value}
    (hx : RepI w (fun b => b < w.heap.size ∧ b ≠ s ∧ (Value.slice va (ss.map Value.string).length vc).ownBlock ≠ some b) (.ptr cells 0) x)
    (h1 : a.tmps.getD 1 undef = x) (h2 : a.tmps.getD 2 undef = .pointer (some ⟨s, 0, none⟩)) (hd : a.defers = []) (e7 : Option ByteArray) (h7 : ∀ z, e7 = some z → a.tmps.getD 7 undef = .string z) :
    ∃ n M, (n = true → ss = []) ∧ Inv (mCx s (.slice va (ss.map Value.string).length vc) w) ⟨mE cells e7, mS ss n, []⟩ M a w := by
  have hne := m.ne
  have hlt := m.hi
  have hbox := m.box
  have env : ∀ (S : List (Key × Box)) (M : Pl) (hM2 : M (.own 2) = some (s, 0)) (hG : ∀ b, (b < w.heap.size ∧ b ≠ s ∧ (Value.slice va (ss.map Value.string).length vc).ownBlock ≠ some b) → NS (mCx s (.slice va (ss.map Value.string).length vc) w) S [] M w b),
      ∀ t, RR (mCx s (.slice va (ss.map Value.string).length vc) w) S [] M w (getE (mE cells e7) t) (a.tmps.getD t undef) := by
    intro S M hM2 hG t
    have r1 : RR (mCx s (.slice va (ss.map Value.string).length vc) w) S [] M w (.imm false (.ptr cells 0)) (a.tmps.getD 1 undef) := by
      rw [h1]; exact .imm _ _ (hx.mono hG fun b _ o u h => h)
    have r2 : RR (mCx s (.slice va (ss.map Value.string).length vc) w) S [] M w (.loc (.own 2) 0) (a.tmps.getD 2 undef) := by
      rw [h2]; exact .loc _ 0 s 0 hM2
    cases e7 with
    | none =>
      simp only [mE, getE]
      split
      · rename_i h; subst h; exact r1
      · split
        · rename_i h; subst h; exact r2
        · exact .undef _
    | some z =>
      simp only [mE, getE]
      split
      · rename_i h; subst h; exact r1
      · split
        · rename_i h; subst h; exact r2
        · split
          · rename_i h; subst h; rw [h7 z rfl]; exact .fresh _ _ (.str z)
          · exact .undef _
  rcases m.row.2 with ⟨hv, hn⟩ | ⟨g, cap, cur, hv, hbg, hcur, hcap⟩
  · injection hv with hva hlen hvc
    subst hva; subst hvc
    have hs0 : ss = [] := List.eq_nil_of_length_eq_zero (by simpa using hn)
    subst hs0
    have hG : ∀ b, (b < w.heap.size ∧ b ≠ s ∧ (Value.slice none (([] : List ByteArray).map Value.string).length 0).ownBlock ≠ some b) → NS (mCx s (.slice none (([] : List ByteArray).map Value.string).length 0) w) (mS [] true) [] (fun k => if k = .own 2 then some (s, 0) else none) w b := fun b hb =>
      ⟨.inr (Nat.zero_le _), hb.1, fun k c hk _ he => by
        simp only at he
        split at he
        · simp only [Option.some.injEq, Prod.mk.injEq] at he; exact hb.2.1 he.1.symm
        · cases he⟩
    refine ⟨true, fun k => if k = .own 2 then some (s, 0) else none, fun _ => rfl, ?_⟩
    exact
      { os := rfl, tape := rfl, output := rfl, size := Nat.zero_le _
        frame := fun b hb => by simp [mCx] at hb
        plc := fun k hk => by
          simp only [mS, getB] at hk
          split at hk
          · rename_i h; subst h; exact ⟨_, rfl⟩
          · cases hk
        box := fun k b pl hk hpl => by
          simp only [mS, getB] at hk
          split at hk
          · rename_i h; subst h
            simp only [Option.some.injEq] at hk; subst hk
            simp only [if_true, Option.some.injEq] at hpl; subst hpl
            exact ⟨_, _, hbox, Rows2.cons .nils Rows2.nil, by simp [Value.oneCell']⟩
          · cases hk
        own := fun t pl hk hpl => Nat.zero_le _
        arg := fun i hk => by simp [mS, getB] at hk
        argM := fun i hi => by simp [mCx] at hi
        argz := fun i h => by cases h
        inj := fun k k' b c c' hk hk' h h' => by
          simp only [mS, getB] at hk hk'
          split at hk
          · rename_i e1; subst e1
            split at hk'
            · rename_i e2; exact e2
            · cases hk'
          · cases hk
        env := env _ _ rfl hG
        defers := hd
        gho := ⟨Nat.le_refl _, fun b hb => ⟨hG b hb, rfl⟩⟩ }
  · injection hv with hva hlen hvc
    subst hva; subst hvc
    have hgs : g ≠ s := fun e => hne (by rw [← e]; rfl)
    have hG : ∀ b, (b < w.heap.size ∧ b ≠ s ∧ (Value.slice (some ⟨g, 0, none⟩) (ss.map Value.string).length vc).ownBlock ≠ some b) → NS (mCx s (.slice (some ⟨g, 0, none⟩) (ss.map Value.string).length vc) w) (mS ss false) [] (fun k => if k = .own 2 then some (s, 0) else if k = .own 500 then some (g, vc) else none) w b := fun b hb =>
      ⟨.inr (Nat.zero_le _), hb.1, fun k c hk _ he => by
        simp only at he
        split at he
        · simp only [Option.some.injEq, Prod.mk.injEq] at he; exact hb.2.1 he.1.symm
        · split at he
          · simp only [Option.some.injEq, Prod.mk.injEq] at he; exact hb.2.2 (by rw [← he.1]; rfl)
          · cases he⟩
    have hlen2 : (ss.map Value.string).length = ss.length := List.length_map ..
    have hsl : (strL ss).length = ss.length := by simp [strL]
    refine ⟨false, fun k => if k = .own 2 then some (s, 0) else if k = .own 500 then some (g, vc) else none, (fun h => nomatch h), ?_⟩
    exact
      { os := rfl, tape := rfl, output := rfl, size := Nat.zero_le _
        frame := fun b hb => by simp [mCx] at hb
        plc := fun k hk => by
          simp only [mS, getB] at hk
          split at hk
          · rename_i h; subst h; exact ⟨_, rfl⟩
          · split at hk
            · rename_i h; subst h; exact ⟨_, rfl⟩
            · cases hk
        box := fun k b pl hk hpl => by
          simp only [mS, getB] at hk
          split at hk
          · rename_i h; subst h
            simp only [Option.some.injEq] at hk; subst hk
            simp only [if_true, Option.some.injEq] at hpl; subst hpl
            refine ⟨_, _, hbox, Rows2.cons ?_ Rows2.nil, by simp [Value.oneCell']⟩
            rw [hlen2]
            exact .row _ _ g vc rfl
          · split at hk
            · rename_i h; subst h
              simp only [Option.some.injEq] at hk; subst hk
              have hpl : (g, vc) = pl := by simpa using hpl
              subst hpl
              refine ⟨ss.map .string, ?_, rows_ws ss, fun x hx => by obtain ⟨u, _, rfl⟩ := List.mem_map.1 hx; rfl, fun u hu => by obtain ⟨x, _, rfl⟩ := List.mem_map.1 hu; rfl⟩
              have := m.row
              unfold Row at this
              rw [hlen2] at this
              rw [hsl]; exact this
            · cases hk
        own := fun t pl hk hpl => Nat.zero_le _
        arg := fun i hk => by simp [mS, getB] at hk
        argM := fun i hi => by simp [mCx] at hi
        argz := fun i h => by cases h
        inj := fun k k' b c c' hk hk' h h' => by
          simp only [mS, getB] at hk hk'
          split at hk
          · rename_i e1; subst e1
            split at hk'
            · rename_i e2; exact e2
            · split at hk'
              · rename_i e2; subst e2
                simp only [if_true, Option.some.injEq, Prod.mk.injEq] at h
                have h' : g = b ∧ vc = c' := by simpa using h'
                exact absurd (h'.1.trans h.1.symm) hgs
              · cases hk'
          · split at hk
            · rename_i e1; subst e1
              split at hk'
              · rename_i e2; subst e2
                simp only [if_true, Option.some.injEq, Prod.mk.injEq] at h'
                have h : g = b ∧ vc = c := by simpa using h
                exact absurd (h.1.trans h'.1.symm) hgs
              · split at hk'
                · rename_i e2; exact e2
                · cases hk'
            · cases hk
        env := env _ _ rfl hG
        defers := hd
        gho := ⟨Nat.le_refl _, fun b hb => ⟨hG b hb, rfl⟩⟩ }
/-- back: what the group left in temporary 4 is the row that words answers -/
theorem mEnd {w0 : World} {v0 : Value} {s : Nat} {w : World} {va : Option Addr} {vc : Nat} {ss news : List ByteArray} (m : Mid w0 v0 s w va vc (ss.map .string)) {σ : St} {M : Pl} {a : Act} {w' : World} {d : Nat} {n : Nat}
    (hI : Inv (mCx s (.slice va (ss.map Value.string).length vc) w) σ M a w') (he : getE σ.e 4 = .row (.own d) n) (hz : Key.own d ∉ σ.z) (hb : getB σ.s (.own d) = some (.row 9 1 (strL (ss ++ news)))) (hn : n = ss.length + news.length) :
    WEnd w0 v0 (ss.map .string) news (.returned (a.tmps.getD 4 undef)) w' := by
  have h4 := hI.env 4
  rw [he] at h4
  obtain ⟨g, c, hM, hv⟩ : ∃ g c, M (.own d) = some (g, c) ∧ a.tmps.getD 4 undef = .slice (some ⟨g, 0, none⟩) n c := by
    generalize a.tmps.getD 4 undef = x at h4
    cases h4 with
    | row k n b c h => exact ⟨b, c, h, rfl⟩
  obtain ⟨xs, hown, hrows, _⟩ := hI.box _ _ _ hb hM
  have hxs := rows_inv _ _ hrows
  subst hxs
  have hl : (strL (ss ++ news)).length = n := by simp [strL, hn]
  rw [hl] at hown
  have hgs := hI.gho
  have hlo := m.lo
  have hhi := m.hi
  have hfr : ∀ b, b < w0.heap.size → v0.ownBlock ≠ some b → w'.heap[b]? = w0.heap[b]? := fun b hb hv => by
    rw [← m.fr b hb hv]
    refine (hgs.2 b ⟨by omega, by omega, fun e => ?_⟩).2
    rcases m.own with h | ⟨g', h, h'⟩
    · exact hv (by rw [← h]; exact e)
    · rw [h] at e; simp only [Option.some.injEq] at e; omega
  have hs1 : w.heap.size ≤ w'.heap.size := hgs.1
  refine ⟨g, c, by rw [hv, hn, List.length_map], ?_, ⟨hI.os.trans m.os, hI.tape.trans m.tape, hI.output.trans m.output, by omega, fun b hb hv => hfr b hb fun e => hv e.symm⟩, ?_⟩
  · unfold Row
    rw [List.length_map, List.length_append, List.length_map, List.length_map, ← hn, ← List.map_append]
    exact hown
  · have hnG : ¬ (g < w.heap.size ∧ g ≠ s ∧ (Value.slice va (ss.map Value.string).length vc).ownBlock ≠ some g) := fun h =>
      (hgs.2 g h).1.2.2 (.own d) c (by rw [hb]; rfl) hz hM
    by_cases h1 : g < w.heap.size
    · by_cases h2 : g = s
      · right; omega
      · have h3 : (Value.slice va (ss.map Value.string).length vc).ownBlock = some g := by
          by_cases h3 : (Value.slice va (ss.map Value.string).length vc).ownBlock = some g
          · exact h3
          · exact absurd ⟨h1, h2, h3⟩ hnG
        rcases m.own with h | ⟨g', h, h'⟩
        · left; rw [← h]; exact h3
        · rw [h] at h3; simp only [Option.some.injEq] at h3; right; omega
    · right; omega
end Go.Proofs.YtopgmopdjiahmaaDoor.Lg
