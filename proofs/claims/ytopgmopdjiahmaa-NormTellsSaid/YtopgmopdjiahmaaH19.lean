/- Texts of one proof, joined by program (gen/tells.py): Yb Yc Yf. Conditions: none; plain definitions and lemmas. -/
import Derived.Test.YtopgmopdjiahmaaProg
import Derived.WalkKit
import Derived.Outline
import Derived.WalkSpells
import Derived.WalkLawsBesides
import Derived.LoopN
import Derived.Below
/- Writing over a tree of types. Conditions: none; plain definitions and lemmas. -/
set_option linter.unusedVariables false
set_option linter.unusedSimpArgs false
namespace Go.Proofs.Ytopgmopdjiahmaa
open Go Go.RowKit Go.Proofs
noncomputable def loop64 : Code := match Try.f64.body with
  | some (.seq _ (.seq _ (.block _ (.loop c)))) => c
  | _ => .skip
set_option maxRecDepth 100000
set_option maxHeartbeats 1000000 in
theorem spoil_round (w : World) (k : Int) (s b o n cap j : Nat) (hj : j < n) (hn : n ≤ 9223372036854775807) (x0 x3 x4 x5 x6 x7 x8 x9 x10 x11 x12 x13 x14 x15 x16 x17 x18 x19 x20 : Value) (v : Value) (hbox : w.cell? ⟨s, 1, none⟩ = some (.slice (some ⟨b, o, none⟩) n cap))
    (h0 : w.cell? ⟨b, o + j * 2, none⟩ = some (.int .i8 k)) (h1 : w.cell? ⟨b, o + j * 2 + 1, none⟩ = some v) (R : World → Prop) (hR : ∀ w1, R w1 → w1.cell? ⟨s, 1, none⟩ = some (.slice (some ⟨b, o, none⟩) n cap) ∧ (∃ u, w1.cell? ⟨b, o + j * 2, none⟩ = some u) ∧ (∃ u, w1.cell? ⟨b, o + j * 2 + 1, none⟩ = some u) ∧ w1.frozen? ⟨b, o + j * 2, none⟩ = false ∧ w1.frozen? ⟨b, o + j * 2 + 1, none⟩ = false)
    (hcall : Calls Try.prog 64 #[.agg #[.int .i8 k, v]] w fun e w1 => e = .returned (.tuple #[]) ∧ R w1) {Q : Exit → Act → World → Prop} (hQ : ∀ w1 y3 y4 y5 y6 y7 y8 y9 y10 y11 y12 y13 y14 y15 y16 y17 y18 y19 y20, R w1 → Q .normal { tmps := #[x0, .pointer (some ⟨s, 0, none⟩), .int .i64 ((j : Int) + 1), y3, y4, y5, y6, y7, y8, y9, y10, y11, y12, y13, y14, y15, y16, y17, y18, y19, y20], defers := [] } ((w1.setCell ⟨b, o + j * 2, none⟩ (.int .i8 77)).setCell ⟨b, o + j * 2 + 1, none⟩ (.slice none 0 0))) :
    loop64.wp Try.prog Q { tmps := #[x0, .pointer (some ⟨s, 0, none⟩), .int .i64 j, x3, x4, x5, x6, x7, x8, x9, x10, x11, x12, x13, x14, x15, x16, x17, x18, x19, x20], defers := [] } w := by
  unfold loop64
  simp only [Try.f64]
  have hlt : (j : Int) < n := by omega
  go_wp2_with fail
  refine hcall.mono ?_
  rintro e w1 ⟨rfl, hr⟩
  obtain ⟨hb1, ⟨u0, c0⟩, ⟨u1, c1⟩, f0, f1⟩ := hR w1 hr
  go_wp2_with fail
  exact hr
set_option maxRecDepth 100000
set_option maxHeartbeats 1000000 in
theorem spoil_end (w : World) (s n : Nat) (A : Option Addr) (cap : Nat) (j : Nat) (hj : j = n) (x0 x3 x4 x5 x6 x7 x8 x9 x10 x11 x12 x13 x14 x15 x16 x17 x18 x19 x20 : Value) (hbox : w.cell? ⟨s, 1, none⟩ = some (.slice A n cap))
    {Q : Exit → Act → World → Prop} (hQ : ∀ t, Q (.exit 0) { tmps := t, defers := [] } w) :
    loop64.wp Try.prog Q { tmps := #[x0, .pointer (some ⟨s, 0, none⟩), .int .i64 j, x3, x4, x5, x6, x7, x8, x9, x10, x11, x12, x13, x14, x15, x16, x17, x18, x19, x20], defers := [] } w := by
  unfold loop64
  simp only [Try.f64]
  have hlt : ¬ (j : Int) < n := by omega
  go_wp2_with fail
  exact hQ _

/-- what a cell may have become -/
inductive Er : Value → Value → Prop
  | same (v : Value) : Er v v
  | int (k : IntKind) (n n' : Int) : Er (.int k n) (.int k n')
  | bool (b b' : Bool) : Er (.bool b) (.bool b')
  | slice (A : Option Addr) (n c : Nat) : Er (.slice A n c) (.slice none 0 0)
theorem Er.trans {u v x : Value} (h : Er u v) (h' : Er v x) : Er u x := by
  cases h with
  | same => exact h'
  | int k n n' => cases h' with
    | same => exact .int _ _ _
    | int _ _ m => exact .int _ _ _
  | bool b b' => cases h' with
    | same => exact .bool _ _
    | bool _ m => exact .bool _ _
  | slice A n c => cases h' with
    | same => exact .slice _ _ _
    | slice => exact .slice _ _ _
/-- no blocks but those from lo to hi have turned, and these have only been written over -/
structure Erodes (lo hi : Nat) (w w' : World) : Prop where
  os : w'.os = w.os
  tape : w'.tape = w.tape
  output : w'.output = w.output
  size : w.heap.size ≤ w'.heap.size
  far : ∀ x, x < w.heap.size → (x < lo ∨ hi ≤ x) → w'.heap[x]? = w.heap[x]?
  cell : ∀ x o v, lo ≤ x → x < hi → w.cell? ⟨x, o, none⟩ = some v → ∃ v', w'.cell? ⟨x, o, none⟩ = some v' ∧ Er v v'
  froz : ∀ x o, lo ≤ x → x < hi → x < w.heap.size → w.frozen? ⟨x, o, none⟩ = false → w'.frozen? ⟨x, o, none⟩ = false
theorem cell_heap {w w' : World} {b : Nat} (h : w'.heap[b]? = w.heap[b]?) (o : Nat) : w'.cell? ⟨b, o, none⟩ = w.cell? ⟨b, o, none⟩ := by simp only [World.cell?, h]
theorem frozen_heap {w w' : World} {b : Nat} (h : w'.heap[b]? = w.heap[b]?) (o : Nat) : w'.frozen? ⟨b, o, none⟩ = w.frozen? ⟨b, o, none⟩ := by simp only [World.frozen?, h]
theorem cell_lt {w : World} {b o : Nat} {v : Value} (h : w.cell? ⟨b, o, none⟩ = some v) : b < w.heap.size := by
  by_cases hb : b < w.heap.size
  · exact hb
  · simp [World.cell?, Array.getElem?_eq_none (Nat.le_of_not_lt hb)] at h
theorem set_far (w : World) (b o : Nat) (v : Value) (x o' : Nat) (h : x ≠ b ∨ o' ≠ o) : (w.setCell ⟨b, o, none⟩ v).cell? ⟨x, o', none⟩ = w.cell? ⟨x, o', none⟩ := by
  refine World.cell?_setCell_other _ _ _ _ fun e => ?_
  injection e with e1 e2
  rcases h with h | h
  · exact h e1.symm
  · exact h e2.symm
theorem old_heap (w : World) (o : Obj) (x : Nat) (hx : x < w.heap.size) : (w.alloc o).heap[x]? = w.heap[x]? := by
  show (w.heap.push _)[x]? = _
  rw [Array.getElem?_push_lt hx, Array.getElem?_eq_getElem hx]
theorem Erodes.refl (lo hi : Nat) (w : World) : Erodes lo hi w w := ⟨rfl, rfl, rfl, Nat.le_refl _, fun _ _ _ => rfl, fun _ _ v _ _ h => ⟨v, h, .same v⟩, fun _ _ _ _ _ h => h⟩
theorem Erodes.trans {lo hi : Nat} {w w1 w2 : World} (h : Erodes lo hi w w1) (h' : Erodes lo hi w1 w2) : Erodes lo hi w w2 :=
  ⟨h'.os.trans h.os, h'.tape.trans h.tape, h'.output.trans h.output, Nat.le_trans h.size h'.size, fun x hx hn => (h'.far x (Nat.lt_of_lt_of_le hx h.size) hn).trans (h.far x hx hn),
   fun x o v h1 h2 hc => by
    obtain ⟨v1, c1, e1⟩ := h.cell x o v h1 h2 hc
    obtain ⟨v2, c2, e2⟩ := h'.cell x o v1 h1 h2 c1
    exact ⟨v2, c2, e1.trans e2⟩,
   fun x o h1 h2 hx hf => h'.froz x o h1 h2 (Nat.lt_of_lt_of_le hx h.size) (h.froz x o h1 h2 hx hf)⟩
theorem Erodes.alloc (lo hi : Nat) (w : World) (o : Obj) : Erodes lo hi w (w.alloc o) :=
  ⟨rfl, rfl, rfl, by simp, fun x hx _ => old_heap w o x hx, fun x o' v _ _ h => ⟨v, by rw [cell_heap (old_heap w o x (cell_lt h))]; exact h, .same v⟩, fun x o' _ _ hx h => by rw [frozen_heap (old_heap w o x hx)]; exact h⟩
theorem Erodes.set {lo hi : Nat} {w : World} {b o : Nat} {u v : Value} (h1 : lo ≤ b) (h2 : b < hi) (hc : w.cell? ⟨b, o, none⟩ = some u) (he : Er u v) : Erodes lo hi w (w.setCell ⟨b, o, none⟩ v) := by
  refine ⟨rfl, rfl, rfl, by simp, fun x hx hn => ?_, fun x o' v' h3 h4 hc' => ?_, fun x o' _ _ _ hf => by rw [World.frozen?_setCell]; exact hf⟩
  · have hxb : x ≠ b := by omega
    rw [Below.heap_setCell _ _ _ x hxb]
  · by_cases hxo : x = b ∧ o' = o
    · obtain ⟨rfl, rfl⟩ := hxo
      rw [hc] at hc'
      simp only [Option.some.injEq] at hc'; subst hc'
      exact ⟨v, World.cell?_setCell_same _ _ _ hc, he⟩
    · refine ⟨v', ?_, .same v'⟩
      rw [set_far _ _ _ _ _ _ (by omega)]; exact hc'
/-- a row of types in the blocks from lo to hi -/
def T2 (w : World) (lo hi : Nat) : Nat → Value → Prop
  | 0, v => ∃ A c, v = .slice A 0 c
  | d + 1, v => (∃ A c, v = .slice A 0 c) ∨ ∃ b o n cap, v = .slice (some ⟨b, o, none⟩) n cap ∧ n ≤ 9223372036854775807 ∧ lo ≤ b ∧ b < hi ∧
      ∀ i, i < n → ∃ k V, w.cell? ⟨b, o + i * 2, none⟩ = some (.int .i8 k) ∧ w.cell? ⟨b, o + i * 2 + 1, none⟩ = some V ∧ w.frozen? ⟨b, o + i * 2, none⟩ = false ∧ w.frozen? ⟨b, o + i * 2 + 1, none⟩ = false ∧ T2 w lo hi d V
theorem T2.nil {w : World} {lo hi : Nat} : ∀ (d : Nat) (A : Option Addr) (c : Nat), T2 w lo hi d (.slice A 0 c)
  | 0, A, c => ⟨A, c, rfl⟩
  | d + 1, A, c => .inl ⟨A, c, rfl⟩
theorem T2.isSlice {w : World} {lo hi : Nat} : ∀ {d : Nat} {v : Value}, T2 w lo hi d v → ∃ A n c, v = .slice A n c
  | 0, v, ⟨A, c, h⟩ => ⟨A, 0, c, h⟩
  | d + 1, v, .inl ⟨A, c, h⟩ => ⟨A, 0, c, h⟩
  | d + 1, v, .inr ⟨b, o, n, cap, h, _⟩ => ⟨_, n, cap, h⟩
theorem T2.step {w : World} {lo hi : Nat} : ∀ {d : Nat} {v : Value}, T2 w lo hi d v → T2 w lo hi (d + 1) v
  | 0, v, ⟨A, c, h⟩ => .inl ⟨A, c, h⟩
  | d + 1, v, .inl h => .inl h
  | d + 1, v, .inr ⟨b, o, n, cap, h, h1, h2, h3, h4⟩ => .inr ⟨b, o, n, cap, h, h1, h2, h3, fun i hi => by
      obtain ⟨k, V, c0, c1, f0, f1, t⟩ := h4 i hi
      exact ⟨k, V, c0, c1, f0, f1, t.step⟩⟩
theorem T2.le {w : World} {lo hi d d' : Nat} {v : Value} (h : T2 w lo hi d v) (hd : d ≤ d') : T2 w lo hi d' v := by
  obtain ⟨e, rfl⟩ := Nat.le.dest hd
  induction e with
  | zero => exact h
  | succ e ih => exact (ih (by omega)).step
theorem Er.ofInt {k : IntKind} {n : Int} {v : Value} (h : Er (.int k n) v) : ∃ n', v = .int k n' := by
  cases h with
  | same => exact ⟨_, rfl⟩
  | int _ _ n' => exact ⟨_, rfl⟩
theorem Er.ofBool {b : Bool} {v : Value} (h : Er (.bool b) v) : ∃ b', v = .bool b' := by
  cases h with
  | same => exact ⟨_, rfl⟩
  | bool _ b' => exact ⟨_, rfl⟩
theorem T2.er {w w' : World} {lo hi : Nat} (he : Erodes lo hi w w') : ∀ {d : Nat} {v v' : Value}, Er v v' → T2 w lo hi d v → T2 w' lo hi d v'
  | 0, v, v', hv, ⟨A, c, h⟩ => by
    subst h
    cases hv with
    | same => exact ⟨A, c, rfl⟩
    | slice => exact ⟨_, _, rfl⟩
  | d + 1, v, v', hv, .inl ⟨A, c, h⟩ => by
    subst h
    cases hv with
    | same => exact .inl ⟨A, c, rfl⟩
    | slice => exact .inl ⟨_, _, rfl⟩
  | d + 1, v, v', hv, .inr ⟨b, o, n, cap, h, h1, h2, h3, h4⟩ => by
    subst h
    cases hv with
    | slice => exact .inl ⟨_, _, rfl⟩
    | same =>
      refine .inr ⟨b, o, n, cap, rfl, h1, h2, h3, fun i hi => ?_⟩
      obtain ⟨k, V, c0, c1, f0, f1, t⟩ := h4 i hi
      have hb := cell_lt c0
      obtain ⟨u0, d0, e0⟩ := he.cell b _ _ h2 h3 c0
      obtain ⟨u1, d1, e1⟩ := he.cell b _ _ h2 h3 c1
      obtain ⟨k', rfl⟩ := e0.ofInt
      exact ⟨k', u1, d0, d1, he.froz b _ h2 h3 hb f0, he.froz b _ h2 h3 hb f1, T2.er he e1 t⟩
set_option maxRecDepth 100000
set_option maxHeartbeats 2000000 in
theorem spoil_rounds {d lo hi : Nat} {wA : World} {s b o n cap : Nat} (hn : n ≤ 9223372036854775807) (hlo : lo ≤ b) (hhi : b < hi) (hs : hi ≤ s) (hA : hi ≤ wA.heap.size)
    (ih : ∀ (w : World) (v : Value) (k : Int), hi ≤ w.heap.size → T2 w lo hi d v → Calls Try.prog 64 #[.agg #[.int .i8 k, v]] w fun e w' => e = .returned (.tuple #[]) ∧ Erodes lo hi w w')
    (x0 : Value) {Q : Exit → Act → World → Prop} (hQ : ∀ t w', Erodes lo hi wA w' → Q (.exit 0) { tmps := t, defers := [] } w') :
    ∀ m j, j + m = n → ∀ (x3 x4 x5 x6 x7 x8 x9 x10 x11 x12 x13 x14 x15 x16 x17 x18 x19 x20 : Value) (w1 : World), w1.cell? ⟨s, 1, none⟩ = some (.slice (some ⟨b, o, none⟩) n cap) → Erodes lo hi wA w1 → T2 w1 lo hi (d + 1) (.slice (some ⟨b, o, none⟩) n cap) →
      Code.rounds Try.prog loop64 Q (m + 1) { tmps := #[x0, .pointer (some ⟨s, 0, none⟩), .int .i64 j, x3, x4, x5, x6, x7, x8, x9, x10, x11, x12, x13, x14, x15, x16, x17, x18, x19, x20], defers := [] } w1 := by
  intro m
  induction m with
  | zero =>
    intro j hj x3 x4 x5 x6 x7 x8 x9 x10 x11 x12 x13 x14 x15 x16 x17 x18 x19 x20 w1 hbox hE hT
    rw [rounds_succ]
    exact spoil_end w1 s n _ cap j (by omega) _ _ _ _ _ _ _ _ _ _ _ _ _ _ _ _ _ _ _ hbox fun t => hQ t w1 hE
  | succ m ihm =>
    intro j hj x3 x4 x5 x6 x7 x8 x9 x10 x11 x12 x13 x14 x15 x16 x17 x18 x19 x20 w1 hbox hE hT
    rw [rounds_succ]
    have hjn : j < n := by omega
    have hrow : ∀ w2, T2 w2 lo hi (d + 1) (.slice (some ⟨b, o, none⟩) n cap) → ∃ k V, w2.cell? ⟨b, o + j * 2, none⟩ = some (.int .i8 k) ∧ w2.cell? ⟨b, o + j * 2 + 1, none⟩ = some V ∧ w2.frozen? ⟨b, o + j * 2, none⟩ = false ∧ w2.frozen? ⟨b, o + j * 2 + 1, none⟩ = false ∧ T2 w2 lo hi d V := fun w2 h2 => by
      rcases h2 with ⟨A, c, h2⟩ | ⟨b', o', n', cap', h2, h3, h4, h5, h6⟩
      · injection h2 with e1 e2; omega
      · injection h2 with e1 e2 e3
        injection e1 with e1; injection e1 with e1 e4
        subst e1; subst e2; subst e4
        exact h6 j hjn
    obtain ⟨k, V, c0, c1, f0, f1, t⟩ := hrow w1 hT
    have hsl := cell_lt hbox
    have hbl := cell_lt c0
    have hsz1 : hi ≤ w1.heap.size := Nat.le_trans hA hE.size
    have after : ∀ w2, Erodes lo hi w1 w2 → w2.cell? ⟨s, 1, none⟩ = some (.slice (some ⟨b, o, none⟩) n cap) ∧ T2 w2 lo hi (d + 1) (.slice (some ⟨b, o, none⟩) n cap) := fun w2 h2 =>
      ⟨by rw [cell_heap (h2.far s hsl (.inr hs))]; exact hbox, T2.er h2 (.same _) hT⟩
    refine spoil_round w1 k s b o n cap j hjn hn _ _ _ _ _ _ _ _ _ _ _ _ _ _ _ _ _ _ _ V hbox c0 c1 (Erodes lo hi w1) (fun w2 h2 => ?_) (ih w1 V k hsz1 t) fun w2 y3 y4 y5 y6 y7 y8 y9 y10 y11 y12 y13 y14 y15 y16 y17 y18 y19 y20 h2 => ?_
    · obtain ⟨g1, g2⟩ := after w2 h2
      obtain ⟨k', V', c0', c1', f0', f1', t'⟩ := hrow w2 g2
      exact ⟨g1, ⟨_, c0'⟩, ⟨_, c1'⟩, f0', f1'⟩
    · obtain ⟨g1, g2⟩ := after w2 h2
      obtain ⟨k', V', c0', c1', f0', f1', t'⟩ := hrow w2 g2
      obtain ⟨A, n', c', rfl⟩ := t'.isSlice
      have e1 := Erodes.set (v := .int .i8 77) hlo hhi c0' (.int _ _ _)
      have e2 : Erodes lo hi (w2.setCell ⟨b, o + j * 2, none⟩ (.int .i8 77)) ((w2.setCell ⟨b, o + j * 2, none⟩ (.int .i8 77)).setCell ⟨b, o + j * 2 + 1, none⟩ (.slice none 0 0)) :=
        Erodes.set hlo hhi (u := .slice A n' c') (by rw [set_far _ _ _ _ _ _ (by omega)]; exact c1') (.slice _ _ _)
      have e3 := (h2.trans e1).trans e2
      obtain ⟨g3, g4⟩ := after _ e3
      exact ihm (j + 1) (by omega) y3 y4 y5 y6 y7 y8 y9 y10 y11 y12 y13 y14 y15 y16 y17 y18 y19 y20 _ g3 (hE.trans e3) g4
set_option maxRecDepth 100000
set_option maxHeartbeats 2000000 in
theorem spoil2 (lo hi : Nat) : ∀ (d : Nat) (w : World) (v : Value) (k : Int), hi ≤ w.heap.size → T2 w lo hi d v → Calls Try.prog 64 #[.agg #[.int .i8 k, v]] w fun e w' => e = .returned (.tuple #[]) ∧ Erodes lo hi w w' := by
  have nil : ∀ (w : World) (k : Int) (A : Option Addr) (cap : Nat), Calls Try.prog 64 #[.agg #[.int .i8 k, .slice A 0 cap]] w fun e w' => e = .returned (.tuple #[]) ∧ Erodes lo hi w w' := by
    intro w k A cap
    go_enter Try.func64, Try.ntmps64
    go_wp2_with fail
    refine wp_loop_rounds 1 ?_
    refine spoil_end (j := 0) (n := 0) (A := A) (cap := cap) _ _ rfl _ _ _ _ _ _ _ _ _ _ _ _ _ _ _ _ _ _ _ (by simp) (fun t => ?_)
    simp only [Exit.then, Exit.inBlock, if_true]
    exact ⟨rfl, .tuple #[], by simp [results, Try.results64], rfl, Erodes.alloc _ _ _ _⟩
  intro d
  induction d with
  | zero =>
    rintro w v k hw ⟨A, cap, rfl⟩
    exact nil w k A cap
  | succ d ih =>
    rintro w v k hw hT
    rcases hT with ⟨A, cap, rfl⟩ | ⟨b, o, n, cap, rfl, hn, hlo, hhi, h⟩
    · exact nil w k A cap
    · go_enter Try.func64, Try.ntmps64
      go_wp2_with fail
      refine wp_loop_rounds (n + 1) ?_
      have hE := Erodes.alloc lo hi w (Obj.cells #[Value.int IntKind.i8 k, Value.slice (some { block := b, off := o }) n cap] 25)
      refine spoil_rounds (d := d) (lo := lo) (hi := hi) (cap := cap) (o := o) (wA := w.alloc (Obj.cells #[Value.int IntKind.i8 k, Value.slice (some { block := b, off := o }) n cap] 25)) hn hlo hhi hw (Nat.le_trans hw hE.size) (fun w v k => ih w v k) _ (fun t w' h => ?_) n 0 (by omega) _ _ _ _ _ _ _ _ _ _ _ _ _ _ _ _ _ _ _ (by simp) (Erodes.refl _ _ _) ?_
      · simp only [Exit.then, Exit.inBlock, if_true]
        exact ⟨rfl, .tuple #[], by simp [results, Try.results64], rfl, hE.trans h⟩
      · exact T2.er hE (.same _) (.inr ⟨b, o, n, cap, rfl, hn, hlo, hhi, h⟩)
end Go.Proofs.Ytopgmopdjiahmaa

/- Writing over a tree of coercions. Conditions: none; plain definitions and lemmas. -/
set_option linter.unusedVariables false
set_option linter.unusedSimpArgs false
namespace Go.Proofs.Ytopgmopdjiahmaa
open Go Go.RowKit Go.Proofs
noncomputable def loop27 : Code := match Try.f27.body with
  | some (.seq _ (.seq _ (.seq _ (.seq _ (.block _ (.loop c)))))) => c
  | _ => .skip
theorem zap_all {lo hi b p : Nat} {w : World} (hlo : lo ≤ b) (hhi : b < hi) {k0 k1 k3 l : Int} {ng : Bool} {A2 A4 A7 : Option Addr} {n2 n4 n7 c2 c4 c7 : Nat}
    (h0 : w.cell? ⟨b, p, none⟩ = some (.int .i8 k0)) (h1 : w.cell? ⟨b, p + 1, none⟩ = some (.int .i8 k1)) (h2 : w.cell? ⟨b, p + 2, none⟩ = some (.slice A2 n2 c2)) (h3 : w.cell? ⟨b, p + 3, none⟩ = some (.int .i8 k3)) (h4 : w.cell? ⟨b, p + 4, none⟩ = some (.slice A4 n4 c4)) (h5 : w.cell? ⟨b, p + 5, none⟩ = some (.int .i64 l)) (h6 : w.cell? ⟨b, p + 6, none⟩ = some (.bool ng)) (h7 : w.cell? ⟨b, p + 7, none⟩ = some (.slice A7 n7 c7)) :
    Erodes lo hi w ((((((((w.setCell ⟨b, p, none⟩ (.int .i8 77)).setCell ⟨b, p + 1, none⟩ (.int .i8 0)).setCell ⟨b, p + 2, none⟩ (.slice none 0 0)).setCell ⟨b, p + 3, none⟩ (.int .i8 0)).setCell ⟨b, p + 4, none⟩ (.slice none 0 0)).setCell ⟨b, p + 5, none⟩ (.int .i64 0)).setCell ⟨b, p + 6, none⟩ (.bool false)).setCell ⟨b, p + 7, none⟩ (.slice none 0 0)) := by
  have e0 := Erodes.set (w := w) (v := .int .i8 77) hlo hhi h0 (.int _ _ _)
  refine e0.trans ?_
  have go : ∀ {w0 : World} {o : Nat} {u v : Value} {w' : World}, w0.cell? ⟨b, o, none⟩ = some u → Er u v → Erodes lo hi (w0.setCell ⟨b, o, none⟩ v) w' → Erodes lo hi w0 w' := fun hc he h => (Erodes.set hlo hhi hc he).trans h
  have far : ∀ {w0 : World} {o o' : Nat} {u v : Value}, w0.cell? ⟨b, o, none⟩ = some u → o ≠ o' → (w0.setCell ⟨b, o', none⟩ v).cell? ⟨b, o, none⟩ = some u := fun h hne => by rw [set_far _ _ _ _ _ _ (.inr hne)]; exact h
  refine go (v := .int .i8 0) (far h1 (by omega)) (.int _ _ _) ?_
  refine go (v := .slice none 0 0) (far (far h2 (by omega)) (by omega)) (.slice _ _ _) ?_
  refine go (v := .int .i8 0) (far (far (far h3 (by omega)) (by omega)) (by omega)) (.int _ _ _) ?_
  refine go (v := .slice none 0 0) (far (far (far (far h4 (by omega)) (by omega)) (by omega)) (by omega)) (.slice _ _ _) ?_
  refine go (v := .int .i64 0) (far (far (far (far (far h5 (by omega)) (by omega)) (by omega)) (by omega)) (by omega)) (.int _ _ _) ?_
  refine go (v := .bool false) (far (far (far (far (far (far h6 (by omega)) (by omega)) (by omega)) (by omega)) (by omega)) (by omega)) (.bool _ _) ?_
  exact go (v := .slice none 0 0) (far (far (far (far (far (far (far h7 (by omega)) (by omega)) (by omega)) (by omega)) (by omega)) (by omega)) (by omega)) (.slice _ _ _) (Erodes.refl _ _ _)
/-- the eight cells of a coercion -/
def co8 (k0 k1 k3 l : Int) (ng : Bool) (V2 V4 V7 : Value) : Array Value := #[.int .i8 k0, .int .i8 k1, V2, .int .i8 k3, V4, .int .i64 l, .bool ng, V7]
/-- a coercion's cells in memory that may be written -/
def Cells8 (w : World) (b p : Nat) (k0 k1 k3 l : Int) (ng : Bool) (V2 V4 V7 : Value) : Prop :=
  (w.cell? ⟨b, p, none⟩ = some (.int .i8 k0) ∧ w.cell? ⟨b, p + 1, none⟩ = some (.int .i8 k1) ∧ w.cell? ⟨b, p + 2, none⟩ = some V2 ∧ w.cell? ⟨b, p + 3, none⟩ = some (.int .i8 k3) ∧ w.cell? ⟨b, p + 4, none⟩ = some V4 ∧ w.cell? ⟨b, p + 5, none⟩ = some (.int .i64 l) ∧ w.cell? ⟨b, p + 6, none⟩ = some (.bool ng) ∧ w.cell? ⟨b, p + 7, none⟩ = some V7) ∧
  ∀ q, q < 8 → w.frozen? ⟨b, p + q, none⟩ = false
set_option maxRecDepth 100000
set_option maxHeartbeats 8000000 in
theorem spoilt_round (w : World) (k0 k1 k3 l : Int) (ng : Bool) (V2 V4 V7 : Value) (s b o n cap j : Nat) (hj : j < n) (hn : n ≤ 9223372036854775807) (x0 x3 x4 x5 x6 x7 x8 x9 x10 x11 x12 x13 x14 x15 x16 x17 x18 x19 x20 x21 x22 x23 x24 x25 x26 : Value) (hbox : w.cell? ⟨s, 7, none⟩ = some (.slice (some ⟨b, o, none⟩) n cap))
    (h0 : w.cell? ⟨b, o + j * 8, none⟩ = some (.int .i8 k0)) (h1 : w.cell? ⟨b, o + j * 8 + 1, none⟩ = some (.int .i8 k1)) (h2 : w.cell? ⟨b, o + j * 8 + 2, none⟩ = some V2) (h3 : w.cell? ⟨b, o + j * 8 + 3, none⟩ = some (.int .i8 k3)) (h4 : w.cell? ⟨b, o + j * 8 + 4, none⟩ = some V4) (h5 : w.cell? ⟨b, o + j * 8 + 5, none⟩ = some (.int .i64 l)) (h6 : w.cell? ⟨b, o + j * 8 + 6, none⟩ = some (.bool ng)) (h7 : w.cell? ⟨b, o + j * 8 + 7, none⟩ = some V7)
    (R : World → Prop) (Z : World → World → Prop) (hR : ∀ w1, R w1 → w1.cell? ⟨s, 7, none⟩ = some (.slice (some ⟨b, o, none⟩) n cap) ∧ (∀ q, q < 8 → (∃ u, w1.cell? ⟨b, o + j * 8 + q, none⟩ = some u) ∧ w1.frozen? ⟨b, o + j * 8 + q, none⟩ = false) ∧
      Z w1 ((((((((w1.setCell ⟨b, o + j * 8, none⟩ (.int .i8 77)).setCell ⟨b, o + j * 8 + 1, none⟩ (.int .i8 0)).setCell ⟨b, o + j * 8 + 2, none⟩ (.slice none 0 0)).setCell ⟨b, o + j * 8 + 3, none⟩ (.int .i8 0)).setCell ⟨b, o + j * 8 + 4, none⟩ (.slice none 0 0)).setCell ⟨b, o + j * 8 + 5, none⟩ (.int .i64 0)).setCell ⟨b, o + j * 8 + 6, none⟩ (.bool false)).setCell ⟨b, o + j * 8 + 7, none⟩ (.slice none 0 0)))
    (hcall : Calls Try.prog 27 #[.agg #[.int .i8 k0, .int .i8 k1, V2, .int .i8 k3, V4, .int .i64 l, .bool ng, V7]] w fun e w1 => e = .returned (.tuple #[]) ∧ R w1) {Q : Exit → Act → World → Prop}
    (hQ : ∀ w1 w3 y3 y4 y5 y6 y7 y8 y9 y10 y11 y12 y13 y14 y15 y16 y17 y18 y19 y20 y21 y22 y23 y24 y25 y26, R w1 → Z w1 w3 → Q .normal { tmps := #[x0, .pointer (some ⟨s, 0, none⟩), .int .i64 ((j : Int) + 1), y3, y4, y5, y6, y7, y8, y9, y10, y11, y12, y13, y14, y15, y16, y17, y18, y19, y20, y21, y22, y23, y24, y25, y26], defers := [] } w3) :
    loop27.wp Try.prog Q { tmps := #[x0, .pointer (some ⟨s, 0, none⟩), .int .i64 j, x3, x4, x5, x6, x7, x8, x9, x10, x11, x12, x13, x14, x15, x16, x17, x18, x19, x20, x21, x22, x23, x24, x25, x26], defers := [] } w := by
  unfold loop27
  simp only [Try.f27]
  have hlt : (j : Int) < n := by omega
  go_wp2_with fail
  refine hcall.mono ?_
  rintro e w1 ⟨rfl, hr⟩
  obtain ⟨hb1, hc, hz⟩ := hR w1 hr
  obtain ⟨⟨u0, c0⟩, f0⟩ := hc 0 (by omega)
  obtain ⟨⟨u1, c1⟩, f1⟩ := hc 1 (by omega)
  obtain ⟨⟨u2, c2⟩, f2⟩ := hc 2 (by omega)
  obtain ⟨⟨u3, c3⟩, f3⟩ := hc 3 (by omega)
  obtain ⟨⟨u4, c4⟩, f4⟩ := hc 4 (by omega)
  obtain ⟨⟨u5, c5⟩, f5⟩ := hc 5 (by omega)
  obtain ⟨⟨u6, c6⟩, f6⟩ := hc 6 (by omega)
  obtain ⟨⟨u7, c7⟩, f7⟩ := hc 7 (by omega)
  simp only [Nat.add_zero] at c0 f0
  clear hc hR hcall
  have hQ' := fun w3 y3 y4 y5 y6 y7 y8 y9 y10 y11 y12 y13 y14 y15 y16 y17 y18 y19 y20 y21 y22 y23 y24 y25 y26 => hQ w1 w3 y3 y4 y5 y6 y7 y8 y9 y10 y11 y12 y13 y14 y15 y16 y17 y18 y19 y20 y21 y22 y23 y24 y25 y26 hr
  clear hQ
  go_wp2_with fail
  exact hz
set_option maxRecDepth 100000
set_option maxHeartbeats 1000000 in
theorem spoilt_end (w : World) (s n : Nat) (A : Option Addr) (cap : Nat) (j : Nat) (hj : j = n) (x0 x3 x4 x5 x6 x7 x8 x9 x10 x11 x12 x13 x14 x15 x16 x17 x18 x19 x20 x21 x22 x23 x24 x25 x26 : Value) (hbox : w.cell? ⟨s, 7, none⟩ = some (.slice A n cap))
    {Q : Exit → Act → World → Prop} (hQ : ∀ t, Q (.exit 0) { tmps := t, defers := [] } w) :
    loop27.wp Try.prog Q { tmps := #[x0, .pointer (some ⟨s, 0, none⟩), .int .i64 j, x3, x4, x5, x6, x7, x8, x9, x10, x11, x12, x13, x14, x15, x16, x17, x18, x19, x20, x21, x22, x23, x24, x25, x26], defers := [] } w := by
  unfold loop27
  simp only [Try.f27]
  have hlt : ¬ (j : Int) < n := by omega
  go_wp2_with fail
  exact hQ _

/-- a row of coercions in the blocks from lo to hi -/
def T8 (w : World) (lo hi : Nat) : Nat → Value → Prop
  | 0, v => ∃ A c, v = .slice A 0 c
  | d + 1, v => (∃ A c, v = .slice A 0 c) ∨ ∃ b o n cap, v = .slice (some ⟨b, o, none⟩) n cap ∧ n ≤ 9223372036854775807 ∧ lo ≤ b ∧ b < hi ∧
      ∀ i, i < n → ∃ k0 k1 k3 l ng V2 V4 V7, Cells8 w b (o + i * 8) k0 k1 k3 l ng V2 V4 V7 ∧ T2 w lo hi d V2 ∧ T2 w lo hi d V4 ∧ T8 w lo hi d V7
theorem T8.nil {w : World} {lo hi : Nat} : ∀ (d : Nat) (A : Option Addr) (c : Nat), T8 w lo hi d (.slice A 0 c)
  | 0, A, c => ⟨A, c, rfl⟩
  | d + 1, A, c => .inl ⟨A, c, rfl⟩
theorem T8.isSlice {w : World} {lo hi : Nat} : ∀ {d : Nat} {v : Value}, T8 w lo hi d v → ∃ A n c, v = .slice A n c
  | 0, v, ⟨A, c, h⟩ => ⟨A, 0, c, h⟩
  | d + 1, v, .inl ⟨A, c, h⟩ => ⟨A, 0, c, h⟩
  | d + 1, v, .inr ⟨b, o, n, cap, h, _⟩ => ⟨_, n, cap, h⟩
theorem T8.step {w : World} {lo hi : Nat} : ∀ {d : Nat} {v : Value}, T8 w lo hi d v → T8 w lo hi (d + 1) v
  | 0, v, ⟨A, c, h⟩ => .inl ⟨A, c, h⟩
  | d + 1, v, .inl h => .inl h
  | d + 1, v, .inr ⟨b, o, n, cap, h, h1, h2, h3, h4⟩ => .inr ⟨b, o, n, cap, h, h1, h2, h3, fun i hi => by
      obtain ⟨k0, k1, k3, l, ng, V2, V4, V7, c, t2, t4, t7⟩ := h4 i hi
      exact ⟨k0, k1, k3, l, ng, V2, V4, V7, c, t2.step, t4.step, t7.step⟩⟩
theorem T8.le {w : World} {lo hi d d' : Nat} {v : Value} (h : T8 w lo hi d v) (hd : d ≤ d') : T8 w lo hi d' v := by
  obtain ⟨e, rfl⟩ := Nat.le.dest hd
  induction e with
  | zero => exact h
  | succ e ih => exact (ih (by omega)).step
theorem Cells8.er {w w' : World} {lo hi b p : Nat} (he : Erodes lo hi w w') (hlo : lo ≤ b) (hhi : b < hi) {k0 k1 k3 l : Int} {ng : Bool} {V2 V4 V7 : Value} (h : Cells8 w b p k0 k1 k3 l ng V2 V4 V7) :
    ∃ k0' k1' k3' l' ng' V2' V4' V7', Cells8 w' b p k0' k1' k3' l' ng' V2' V4' V7' ∧ Er V2 V2' ∧ Er V4 V4' ∧ Er V7 V7' := by
  obtain ⟨⟨c0, c1, c2, c3, c4, c5, c6, c7⟩, hf⟩ := h
  have hb := cell_lt c0
  obtain ⟨u0, d0, e0⟩ := he.cell b _ _ hlo hhi c0
  obtain ⟨u1, d1, e1⟩ := he.cell b _ _ hlo hhi c1
  obtain ⟨u2, d2, e2⟩ := he.cell b _ _ hlo hhi c2
  obtain ⟨u3, d3, e3⟩ := he.cell b _ _ hlo hhi c3
  obtain ⟨u4, d4, e4⟩ := he.cell b _ _ hlo hhi c4
  obtain ⟨u5, d5, e5⟩ := he.cell b _ _ hlo hhi c5
  obtain ⟨u6, d6, e6⟩ := he.cell b _ _ hlo hhi c6
  obtain ⟨u7, d7, e7⟩ := he.cell b _ _ hlo hhi c7
  obtain ⟨k0', rfl⟩ := e0.ofInt
  obtain ⟨k1', rfl⟩ := e1.ofInt
  obtain ⟨k3', rfl⟩ := e3.ofInt
  obtain ⟨l', rfl⟩ := e5.ofInt
  obtain ⟨ng', rfl⟩ := e6.ofBool
  exact ⟨k0', k1', k3', l', ng', u2, u4, u7, ⟨⟨d0, d1, d2, d3, d4, d5, d6, d7⟩, fun q hq => he.froz b _ hlo hhi hb (hf q hq)⟩, e2, e4, e7⟩
theorem T8.er {w w' : World} {lo hi : Nat} (he : Erodes lo hi w w') : ∀ {d : Nat} {v v' : Value}, Er v v' → T8 w lo hi d v → T8 w' lo hi d v'
  | 0, v, v', hv, ⟨A, c, h⟩ => by
    subst h
    cases hv with
    | same => exact ⟨A, c, rfl⟩
    | slice => exact ⟨_, _, rfl⟩
  | d + 1, v, v', hv, .inl ⟨A, c, h⟩ => by
    subst h
    cases hv with
    | same => exact .inl ⟨A, c, rfl⟩
    | slice => exact .inl ⟨_, _, rfl⟩
  | d + 1, v, v', hv, .inr ⟨b, o, n, cap, h, h1, h2, h3, h4⟩ => by
    subst h
    cases hv with
    | slice => exact .inl ⟨_, _, rfl⟩
    | same =>
      refine .inr ⟨b, o, n, cap, rfl, h1, h2, h3, fun i hi => ?_⟩
      obtain ⟨k0, k1, k3, l, ng, V2, V4, V7, c, t2, t4, t7⟩ := h4 i hi
      obtain ⟨k0', k1', k3', l', ng', V2', V4', V7', c', e2, e4, e7⟩ := c.er he h2 h3
      exact ⟨k0', k1', k3', l', ng', V2', V4', V7', c', T2.er he e2 t2, T2.er he e4 t4, T8.er he e7 t7⟩
set_option maxRecDepth 100000
set_option maxHeartbeats 2000000 in
theorem spoilt_rounds {d lo hi : Nat} {wA : World} {s b o n cap : Nat} (hn : n ≤ 9223372036854775807) (hlo : lo ≤ b) (hhi : b < hi) (hs : hi ≤ s) (hA : hi ≤ wA.heap.size)
    (ih : ∀ (w : World) (k0 k1 k3 l : Int) (ng : Bool) (V2 V4 V7 : Value), hi ≤ w.heap.size → T2 w lo hi d V2 → T2 w lo hi d V4 → T8 w lo hi d V7 → Calls Try.prog 27 #[.agg (co8 k0 k1 k3 l ng V2 V4 V7)] w fun e w' => e = .returned (.tuple #[]) ∧ Erodes lo hi w w')
    (x0 : Value) {Q : Exit → Act → World → Prop} (hQ : ∀ t w', Erodes lo hi wA w' → Q (.exit 0) { tmps := t, defers := [] } w') :
    ∀ m j, j + m = n → ∀ (x3 x4 x5 x6 x7 x8 x9 x10 x11 x12 x13 x14 x15 x16 x17 x18 x19 x20 x21 x22 x23 x24 x25 x26 : Value) (w1 : World), w1.cell? ⟨s, 7, none⟩ = some (.slice (some ⟨b, o, none⟩) n cap) → Erodes lo hi wA w1 → T8 w1 lo hi (d + 1) (.slice (some ⟨b, o, none⟩) n cap) →
      Code.rounds Try.prog loop27 Q (m + 1) { tmps := #[x0, .pointer (some ⟨s, 0, none⟩), .int .i64 j, x3, x4, x5, x6, x7, x8, x9, x10, x11, x12, x13, x14, x15, x16, x17, x18, x19, x20, x21, x22, x23, x24, x25, x26], defers := [] } w1 := by
  intro m
  induction m with
  | zero =>
    intro j hj x3 x4 x5 x6 x7 x8 x9 x10 x11 x12 x13 x14 x15 x16 x17 x18 x19 x20 x21 x22 x23 x24 x25 x26 w1 hbox hE hT
    rw [rounds_succ]
    exact spoilt_end w1 s n _ cap j (by omega) _ _ _ _ _ _ _ _ _ _ _ _ _ _ _ _ _ _ _ _ _ _ _ _ _ hbox fun t => hQ t w1 hE
  | succ m ihm =>
    intro j hj x3 x4 x5 x6 x7 x8 x9 x10 x11 x12 x13 x14 x15 x16 x17 x18 x19 x20 x21 x22 x23 x24 x25 x26 w1 hbox hE hT
    rw [rounds_succ]
    have hjn : j < n := by omega
    have hrow : ∀ w2, T8 w2 lo hi (d + 1) (.slice (some ⟨b, o, none⟩) n cap) → ∃ k0 k1 k3 l ng V2 V4 V7, Cells8 w2 b (o + j * 8) k0 k1 k3 l ng V2 V4 V7 ∧ T2 w2 lo hi d V2 ∧ T2 w2 lo hi d V4 ∧ T8 w2 lo hi d V7 := fun w2 h2 => by
      rcases h2 with ⟨A, c, h2⟩ | ⟨b', o', n', cap', h2, h3, h4, h5, h6⟩
      · injection h2 with e1 e2; omega
      · injection h2 with e1 e2 e3
        injection e1 with e1; injection e1 with e1 e4
        subst e1; subst e2; subst e4
        exact h6 j hjn
    obtain ⟨k0, k1, k3, l, ng, V2, V4, V7, ⟨⟨c0, c1, c2, c3, c4, c5, c6, c7⟩, hf⟩, t2, t4, t7⟩ := hrow w1 hT
    have hsl := cell_lt hbox
    have hbl := cell_lt c0
    have hsz1 : hi ≤ w1.heap.size := Nat.le_trans hA hE.size
    have after : ∀ w2, Erodes lo hi w1 w2 → w2.cell? ⟨s, 7, none⟩ = some (.slice (some ⟨b, o, none⟩) n cap) ∧ T8 w2 lo hi (d + 1) (.slice (some ⟨b, o, none⟩) n cap) := fun w2 h2 =>
      ⟨by rw [cell_heap (h2.far s hsl (.inr hs))]; exact hbox, T8.er h2 (.same _) hT⟩
    refine spoilt_round w1 k0 k1 k3 l ng V2 V4 V7 s b o n cap j hjn hn _ _ _ _ _ _ _ _ _ _ _ _ _ _ _ _ _ _ _ _ _ _ _ _ _ hbox c0 c1 c2 c3 c4 c5 c6 c7 (Erodes lo hi w1) (Erodes lo hi) (fun w2 h2 => ?_) (ih w1 k0 k1 k3 l ng V2 V4 V7 hsz1 t2 t4 t7)
      fun w2 w3 y3 y4 y5 y6 y7 y8 y9 y10 y11 y12 y13 y14 y15 y16 y17 y18 y19 y20 y21 y22 y23 y24 y25 y26 h2 hz => ?_
    · obtain ⟨g1, g2⟩ := after w2 h2
      obtain ⟨k0', k1', k3', l', ng', V2', V4', V7', ⟨⟨d0, d1, d2, d3, d4, d5, d6, d7⟩, hf'⟩, t2', t4', t7'⟩ := hrow w2 g2
      obtain ⟨A2, n2, m2, rfl⟩ := t2'.isSlice
      obtain ⟨A4, n4, m4, rfl⟩ := t4'.isSlice
      obtain ⟨A7, n7, m7, rfl⟩ := t7'.isSlice
      refine ⟨g1, fun q hq => ⟨?_, hf' q hq⟩, zap_all hlo hhi d0 d1 d2 d3 d4 d5 d6 d7⟩
      rcases q with _ | _ | _ | _ | _ | _ | _ | _ | q
      · exact ⟨_, d0⟩
      · exact ⟨_, d1⟩
      · exact ⟨_, d2⟩
      · exact ⟨_, d3⟩
      · exact ⟨_, d4⟩
      · exact ⟨_, d5⟩
      · exact ⟨_, d6⟩
      · exact ⟨_, d7⟩
      · omega
    · have e3 := h2.trans hz
      obtain ⟨g3, g4⟩ := after _ e3
      exact ihm (j + 1) (by omega) y3 y4 y5 y6 y7 y8 y9 y10 y11 y12 y13 y14 y15 y16 y17 y18 y19 y20 y21 y22 y23 y24 y25 y26 w3 g3 (hE.trans e3) g4
set_option maxRecDepth 100000
set_option maxHeartbeats 4000000 in
theorem spoil8 (lo hi : Nat) : ∀ (d : Nat) (w : World) (k0 k1 k3 l : Int) (ng : Bool) (V2 V4 V7 : Value), hi ≤ w.heap.size → T2 w lo hi d V2 → T2 w lo hi d V4 → T8 w lo hi d V7 →
    Calls Try.prog 27 #[.agg (co8 k0 k1 k3 l ng V2 V4 V7)] w fun e w' => e = .returned (.tuple #[]) ∧ Erodes lo hi w w' := by
  intro d
  induction d with
  | zero =>
    intro w k0 k1 k3 l ng V2 V4 V7 hw h2 h4 h7
    obtain ⟨A, cap, rfl⟩ := h7
    unfold co8
    go_enter Try.func27, Try.ntmps27
    go_wp2_with fail
    have hE0 := Erodes.alloc lo hi w (Obj.cells #[Value.int IntKind.i8 k0, Value.int IntKind.i8 k1, V2, Value.int IntKind.i8 k3, V4, Value.int IntKind.i64 l, Value.bool ng, Value.slice A 0 cap] 28)
    refine (spoil2 lo hi 0 _ V2 k1 (Nat.le_trans hw hE0.size) (T2.er hE0 (.same _) h2)).mono ?_
    rintro e w1 ⟨rfl, hE1⟩
    have hs1 : ∀ o, w1.cell? ⟨w.heap.size, o, none⟩ = (co8 k0 k1 k3 l ng V2 V4 (.slice A 0 cap))[o]? := fun o => by
      rw [cell_heap (hE1.far w.heap.size (by simp) (.inr hw)), World.cell?_alloc_new]; rfl
    have c3 : w1.cell? ⟨w.heap.size, 3, none⟩ = some (.int .i8 k3) := (hs1 3).trans rfl
    have c4 : w1.cell? ⟨w.heap.size, 4, none⟩ = some V4 := (hs1 4).trans rfl
    have c7a : w1.cell? ⟨w.heap.size, 7, none⟩ = some (.slice A 0 cap) := (hs1 7).trans rfl
    have hE01 := hE0.trans hE1
    clear hs1 hE1 hE0
    go_wp2_with fail
    refine (spoil2 lo hi 0 w1 V4 k3 (Nat.le_trans hw hE01.size) (T2.er hE01 (.same _) h4)).mono ?_
    rintro e w2 ⟨rfl, hE2⟩
    have c7 : w2.cell? ⟨w.heap.size, 7, none⟩ = some (.slice A 0 cap) := by rw [cell_heap (hE2.far w.heap.size (cell_lt c7a) (.inr hw)), c7a]
    go_wp2_with fail
    refine wp_loop_rounds 1 ?_
    refine spoilt_end w2 _ 0 A cap 0 rfl _ _ _ _ _ _ _ _ _ _ _ _ _ _ _ _ _ _ _ _ _ _ _ _ _ c7 (fun t => ?_)
    simp only [Exit.then, Exit.inBlock, if_true]
    exact ⟨rfl, .tuple #[], by simp [results, Try.results27], rfl, hE01.trans hE2⟩
  | succ d ih =>
    intro w k0 k1 k3 l ng V2 V4 V7 hw h2 h4 h7
    obtain ⟨A7, n, cap, rfl⟩ := h7.isSlice
    unfold co8
    go_enter Try.func27, Try.ntmps27
    go_wp2_with fail
    have hE0 := Erodes.alloc lo hi w (Obj.cells #[Value.int IntKind.i8 k0, Value.int IntKind.i8 k1, V2, Value.int IntKind.i8 k3, V4, Value.int IntKind.i64 l, Value.bool ng, Value.slice A7 n cap] 28)
    refine (spoil2 lo hi (d + 1) _ V2 k1 (Nat.le_trans hw hE0.size) (T2.er hE0 (.same _) h2)).mono ?_
    rintro e w1 ⟨rfl, hE1⟩
    have hs1 : ∀ o, w1.cell? ⟨w.heap.size, o, none⟩ = (co8 k0 k1 k3 l ng V2 V4 (.slice A7 n cap))[o]? := fun o => by
      rw [cell_heap (hE1.far w.heap.size (by simp) (.inr hw)), World.cell?_alloc_new]; rfl
    have c3 : w1.cell? ⟨w.heap.size, 3, none⟩ = some (.int .i8 k3) := (hs1 3).trans rfl
    have c4 : w1.cell? ⟨w.heap.size, 4, none⟩ = some V4 := (hs1 4).trans rfl
    have c7a : w1.cell? ⟨w.heap.size, 7, none⟩ = some (.slice A7 n cap) := (hs1 7).trans rfl
    have hE01 := hE0.trans hE1
    clear hs1 hE1 hE0
    go_wp2_with fail
    refine (spoil2 lo hi (d + 1) w1 V4 k3 (Nat.le_trans hw hE01.size) (T2.er hE01 (.same _) h4)).mono ?_
    rintro e w2 ⟨rfl, hE2⟩
    have c7 : w2.cell? ⟨w.heap.size, 7, none⟩ = some (.slice A7 n cap) := by rw [cell_heap (hE2.far w.heap.size (cell_lt c7a) (.inr hw)), c7a]
    have hE := hE01.trans hE2
    go_wp2_with fail
    have fin : ∀ t w', Erodes lo hi w2 w' → (Exit.inBlock 0 (bodyPost Try.prog Try.f27 fun e w' => e = .returned (.tuple #[]) ∧ Erodes lo hi w w')) (.exit 0) { tmps := t, defers := [] } w' := fun t w' h => by
      simp only [Exit.inBlock, if_true]
      exact ⟨rfl, .tuple #[], by simp [results, Try.results27], rfl, hE.trans h⟩
    have h7' := T8.er hE (.same _) h7
    rcases h7' with ⟨A, c, h8⟩ | ⟨b, o, n', cap', h8, hn, hlo, hhi, hrow⟩
    · injection h8 with e1 e2 e3
      subst e1; subst e2; subst e3
      refine wp_loop_rounds 1 ?_
      refine spoilt_end w2 _ 0 A7 cap 0 rfl _ _ _ _ _ _ _ _ _ _ _ _ _ _ _ _ _ _ _ _ _ _ _ _ _ c7 (fun t => ?_)
      exact fin t w2 (Erodes.refl _ _ _)
    · injection h8 with e1 e2 e3
      subst e1; subst e2; subst e3
      refine wp_loop_rounds (n + 1) ?_
      exact spoilt_rounds (d := d) (lo := lo) (hi := hi) (cap := cap) (o := o) (wA := w2) hn hlo hhi hw (Nat.le_trans hw hE.size) (fun w k0 k1 k3 l ng V2 V4 V7 => ih w k0 k1 k3 l ng V2 V4 V7) _ (fun t w' h => fin t w' h) n 0 (by omega) _ _ _ _ _ _ _ _ _ _ _ _ _ _ _ _ _ _ _ _ _ _ _ _ _ c7 (Erodes.refl _ _ _) (.inr ⟨b, o, n, cap, rfl, hn, hlo, hhi, hrow⟩)
end Go.Proofs.Ytopgmopdjiahmaa

/- NormTells: behind the first comparison: the copy is made, worked on, written over. Conditions: none; plain lemmas. -/
set_option linter.unusedVariables false
set_option linter.unusedSimpArgs false
namespace Go.Proofs.Ytopgmopdjiahmaa
open Go Go.RowKit Go.Proofs
noncomputable def tail4 : Code := match Try.f4.body with
  | some (.seq _ (.seq _ (.seq _ (.seq _ t)))) => t
  | _ => .skip
theorem Below.erode {B lo hi : Nat} {a w w' : World} (h : Below B a w) (he : Erodes lo hi w w') (hB : B ≤ lo) (ha : B ≤ w.heap.size) : Below B a w' :=
  ⟨he.os.trans h.os, he.tape.trans h.tape, he.output.trans h.output, Nat.le_trans h.size he.size, fun k hk => (he.far k (by omega) (.inl (by omega))).trans (h.block k hk)⟩
set_option maxRecDepth 100000
set_option maxHeartbeats 8000000 in
theorem tells_tail (w : World) (b1 o1 b5 : Nat) (c0 c1 c2 c3 c4 c5 c6 c7 m0 m1 m2 m3 m4 m5 m6 m7 : Value) (hc0 : w.cell? ⟨b1, o1, none⟩ = some c0) (hc1 : w.cell? ⟨b1, o1 + 1, none⟩ = some c1) (hc2 : w.cell? ⟨b1, o1 + 2, none⟩ = some c2) (hc3 : w.cell? ⟨b1, o1 + 3, none⟩ = some c3) (hc4 : w.cell? ⟨b1, o1 + 4, none⟩ = some c4) (hc5 : w.cell? ⟨b1, o1 + 5, none⟩ = some c5) (hc6 : w.cell? ⟨b1, o1 + 6, none⟩ = some c6) (hc7 : w.cell? ⟨b1, o1 + 7, none⟩ = some c7) (hm0 : w.cell? ⟨b5, 0, none⟩ = some m0) (hm1 : w.cell? ⟨b5, 1, none⟩ = some m1) (hm2 : w.cell? ⟨b5, 2, none⟩ = some m2) (hm3 : w.cell? ⟨b5, 3, none⟩ = some m3) (hm4 : w.cell? ⟨b5, 4, none⟩ = some m4) (hm5 : w.cell? ⟨b5, 5, none⟩ = some m5) (hm6 : w.cell? ⟨b5, 6, none⟩ = some m6) (hm7 : w.cell? ⟨b5, 7, none⟩ = some m7) (sm : Bool)
    (G : World → World → Array Value → Prop) (X : World → World → World → World → Array Value → Prop)
    (hS : Calls Try.prog 25 #[.agg #[c0, c1, c2, c3, c4, c5, c6, c7]] w fun e w1 => Below w.heap.size w w1 ∧ e = .returned (.bool sm))
    (hC : ∀ w1, sm = true → Below w.heap.size w w1 → Calls Try.prog 26 #[.agg #[c0, c1, c2, c3, c4, c5, c6, c7]] w1 fun e w2 => Below w1.heap.size w1 w2 ∧ ∃ (dk0 dk1 dk3 dl : Int) (dg : Bool) (da2 da4 da7 : Option Addr) (dn2 dc2 dn4 dc4 dn7 dc7 : Nat), e = .returned (.agg (co8 dk0 dk1 dk3 dl dg (.slice da2 dn2 dc2) (.slice da4 dn4 dc4) (.slice da7 dn7 dc7))) ∧ G w1 w2 (co8 dk0 dk1 dk3 dl dg (.slice da2 dn2 dc2) (.slice da4 dn4 dc4) (.slice da7 dn7 dc7)))
    (hN : ∀ w1 w2 w3 (dk0 dk1 dk3 dl : Int) (dg : Bool) (da2 da4 da7 : Option Addr) (dn2 dc2 dn4 dc4 dn7 dc7 : Nat), G w1 w2 (co8 dk0 dk1 dk3 dl dg (.slice da2 dn2 dc2) (.slice da4 dn4 dc4) (.slice da7 dn7 dc7)) → Below w2.heap.size w2 w3 → Calls Try.prog 20 #[.agg (co8 dk0 dk1 dk3 dl dg (.slice da2 dn2 dc2) (.slice da4 dn4 dc4) (.slice da7 dn7 dc7))] w3 fun e w4 => Below w3.heap.size w3 w4 ∧ ∃ (yk0 yk1 yk3 yl : Int) (yg : Bool) (ya2 ya4 ya7 : Option Addr) (yn2 yc2 yn4 yc4 yn7 yc7 : Nat) (r : Value), e = .returned (.tuple #[.agg (co8 yk0 yk1 yk3 yl yg (.slice ya2 yn2 yc2) (.slice ya4 yn4 yc4) (.slice ya7 yn7 yc7)), r]) ∧ X w1 w2 w3 w4 (co8 yk0 yk1 yk3 yl yg (.slice ya2 yn2 yc2) (.slice ya4 yn4 yc4) (.slice ya7 yn7 yc7)))
    (hL1 : ∀ w1 w2 w3 (dk0 dk1 dk3 dl : Int) (dg : Bool) (da2 da4 da7 : Option Addr) (dn2 dc2 dn4 dc4 dn7 dc7 : Nat), Below w.heap.size w w1 → G w1 w2 (co8 dk0 dk1 dk3 dl dg (.slice da2 dn2 dc2) (.slice da4 dn4 dc4) (.slice da7 dn7 dc7)) → Below w1.heap.size w1 w2 → Below w2.heap.size w2 w3 → Calls Try.prog 24 #[.agg (co8 dk0 dk1 dk3 dl dg (.slice da2 dn2 dc2) (.slice da4 dn4 dc4) (.slice da7 dn7 dc7)), .agg #[c0, c1, c2, c3, c4, c5, c6, c7]] w3 fun e w4 => Below w3.heap.size w3 w4 ∧ e = .returned (.bool true))
    (hP : ∀ w1 w2 w3 (dk0 dk1 dk3 dl : Int) (dg : Bool) (da2 da4 da7 : Option Addr) (dn2 dc2 dn4 dc4 dn7 dc7 : Nat), G w1 w2 (co8 dk0 dk1 dk3 dl dg (.slice da2 dn2 dc2) (.slice da4 dn4 dc4) (.slice da7 dn7 dc7)) → Below w1.heap.size w1 w2 → Below w2.heap.size w2 w3 → Calls Try.prog 27 #[.agg (co8 dk0 dk1 dk3 dl dg (.slice da2 dn2 dc2) (.slice da4 dn4 dc4) (.slice da7 dn7 dc7))] w3 fun e w4 => e = .returned (.tuple #[]) ∧ Erodes w1.heap.size w2.heap.size w3 w4)
    (hL2 : ∀ w1 w2 w3 w4 w5 w6 (yk0 yk1 yk3 yl : Int) (yg : Bool) (ya2 ya4 ya7 : Option Addr) (yn2 yc2 yn4 yc4 yn7 yc7 : Nat), Below w.heap.size w w1 → Below w1.heap.size w1 w2 → Below w2.heap.size w2 w3 → Below w3.heap.size w3 w4 → X w1 w2 w3 w4 (co8 yk0 yk1 yk3 yl yg (.slice ya2 yn2 yc2) (.slice ya4 yn4 yc4) (.slice ya7 yn7 yc7)) → Below w4.heap.size w4 w5 → Erodes w1.heap.size w2.heap.size w5 w6 →
      Calls Try.prog 24 #[.agg (co8 yk0 yk1 yk3 yl yg (.slice ya2 yn2 yc2) (.slice ya4 yn4 yc4) (.slice ya7 yn7 yc7)), .agg #[m0, m1, m2, m3, m4, m5, m6, m7]] w6 fun e w7 => Below w6.heap.size w6 w7 ∧ e = .returned (.bool true))
    (hW : ∀ w', Calls Try.prog 28 #[] w' fun e w'' => Below w'.heap.size w' w'' ∧ e = .returned (.bool true))
    {Q : Exit → Act → World → Prop} (hQ : ∀ w' t, t[2]? = some (.bool true) → Below w.heap.size w w' → Q .ret { tmps := t, defers := [] } w') (x0 x2 x3 x4 x6 x7 x8 x9 x10 x11 x12 x13 x14 x15 x16 x17 x18 x19 x20 x21 x22 x23 x24 x25 x26 x27 x28 x29 x30 x31 x32 x33 x34 x35 x36 x37 x38 x39 x40 x41 x42 x43 x44 x45 x46 x47 x48 x49 x50 x51 x52 x53 x54 x55 : Value) :
    tail4.wp Try.prog Q { tmps := #[x0, .pointer (some ⟨b1, o1, none⟩), x2, x3, x4, .pointer (some ⟨b5, 0, none⟩), x6, x7, x8, x9, x10, x11, x12, x13, x14, x15, x16, x17, x18, x19, x20, x21, x22, x23, x24, x25, x26, x27, x28, x29, x30, x31, x32, x33, x34, x35, x36, x37, x38, x39, x40, x41, x42, x43, x44, x45, x46, x47, x48, x49, x50, x51, x52, x53, x54, x55], defers := [] } w := by
  have lb1 := cell_lt hc0
  have lb5 := cell_lt hm0
  unfold tail4
  simp only [Try.f4]
  unfold co8 at *
  go_wp2_with fail
  refine hS.mono ?_
  rintro e w1 ⟨k1, rfl⟩
  clear hS
  cases sm with
  | false =>
    clear hC hN hL1 hP hL2
    go_wp2_with fail
    refine (hW w1).mono ?_
    rintro e w2 ⟨k2, rfl⟩
    go_wp2_with fail
    exact hQ _ _ (by simp) (k1.trans (k2.mono k1.size))
  | true =>
    have hC1 := hC w1 rfl k1
    clear hC
    have hd0 : w1.cell? ⟨b1, o1, none⟩ = some c0 := by rw [cell_heap (k1.block b1 lb1)]; exact hc0
    have hd1 : w1.cell? ⟨b1, o1 + 1, none⟩ = some c1 := by rw [cell_heap (k1.block b1 lb1)]; exact hc1
    have hd2 : w1.cell? ⟨b1, o1 + 2, none⟩ = some c2 := by rw [cell_heap (k1.block b1 lb1)]; exact hc2
    have hd3 : w1.cell? ⟨b1, o1 + 3, none⟩ = some c3 := by rw [cell_heap (k1.block b1 lb1)]; exact hc3
    have hd4 : w1.cell? ⟨b1, o1 + 4, none⟩ = some c4 := by rw [cell_heap (k1.block b1 lb1)]; exact hc4
    have hd5 : w1.cell? ⟨b1, o1 + 5, none⟩ = some c5 := by rw [cell_heap (k1.block b1 lb1)]; exact hc5
    have hd6 : w1.cell? ⟨b1, o1 + 6, none⟩ = some c6 := by rw [cell_heap (k1.block b1 lb1)]; exact hc6
    have hd7 : w1.cell? ⟨b1, o1 + 7, none⟩ = some c7 := by rw [cell_heap (k1.block b1 lb1)]; exact hc7
    go_wp2_with fail
    refine hC1.mono ?_
    rintro e w2 ⟨k2, dk0, dk1, dk3, dl, dg, da2, da4, da7, dn2, dc2, dn4, dc4, dn7, dc7, rfl, hG⟩
    clear hC1
    go_wp2_with fail
    obtain ⟨w3, hw3⟩ : ∃ w3, w3 = w2.alloc (Obj.cells #[.int .i8 dk0, .int .i8 dk1, .slice da2 dn2 dc2, .int .i8 dk3, .slice da4 dn4 dc4, .int .i64 dl, .bool dg, .slice da7 dn7 dc7] 28) := ⟨_, rfl⟩
    rw [← hw3]
    have k3 : Below w2.heap.size w2 w3 := hw3 ▸ (Below.refl _ _).alloc (Nat.le_refl _) _
    have s23 : w2.heap.size < w3.heap.size := by rw [hw3]; simp
    have hv : ∀ j, w3.cell? ⟨w2.heap.size, j, none⟩ = (#[.int .i8 dk0, .int .i8 dk1, .slice da2 dn2 dc2, .int .i8 dk3, .slice da4 dn4 dc4, .int .i64 dl, .bool dg, .slice da7 dn7 dc7] : Array Value)[j]? := fun j => by rw [hw3, World.cell?_alloc_new]
    have s12 := k2.size
    have s01 := k1.size
    refine (hN w1 w2 w3 dk0 dk1 dk3 dl dg da2 da4 da7 dn2 dc2 dn4 dc4 dn7 dc7 hG k3).mono ?_
    rintro e w4 ⟨k4, yk0, yk1, yk3, yl, yg, ya2, ya4, ya7, yn2, yc2, yn4, yc4, yn7, yc7, r, rfl, hX⟩
    have s34 := k4.size
    clear hN hw3
    obtain ⟨w5, hw5⟩ : ∃ w5, w5 = w4.alloc (Obj.cells #[.int .i8 yk0, .int .i8 yk1, .slice ya2 yn2 yc2, .int .i8 yk3, .slice ya4 yn4 yc4, .int .i64 yl, .bool yg, .slice ya7 yn7 yc7] 28) := ⟨_, rfl⟩
    have k5 : Below w4.heap.size w4 w5 := hw5 ▸ (Below.refl _ _).alloc (Nat.le_refl _) _
    have s45 : w4.heap.size < w5.heap.size := by rw [hw5]; simp
    have hu : ∀ j, w5.cell? ⟨w4.heap.size, j, none⟩ = (#[.int .i8 yk0, .int .i8 yk1, .slice ya2 yn2 yc2, .int .i8 yk3, .slice ya4 yn4 yc4, .int .i64 yl, .bool yg, .slice ya7 yn7 yc7] : Array Value)[j]? := fun j => by rw [hw5, World.cell?_alloc_new]
    have l7 : w2.heap.size < w4.heap.size := by omega
    have l1 : b1 < w4.heap.size := by omega
    have he0 : w4.cell? ⟨b1, o1, none⟩ = some c0 := by rw [cell_heap (k4.block b1 (by omega)), cell_heap (k3.block b1 (by omega)), cell_heap (k2.block b1 (by omega))]; exact hd0
    have he1 : w4.cell? ⟨b1, o1 + 1, none⟩ = some c1 := by rw [cell_heap (k4.block b1 (by omega)), cell_heap (k3.block b1 (by omega)), cell_heap (k2.block b1 (by omega))]; exact hd1
    have he2 : w4.cell? ⟨b1, o1 + 2, none⟩ = some c2 := by rw [cell_heap (k4.block b1 (by omega)), cell_heap (k3.block b1 (by omega)), cell_heap (k2.block b1 (by omega))]; exact hd2
    have he3 : w4.cell? ⟨b1, o1 + 3, none⟩ = some c3 := by rw [cell_heap (k4.block b1 (by omega)), cell_heap (k3.block b1 (by omega)), cell_heap (k2.block b1 (by omega))]; exact hd3
    have he4 : w4.cell? ⟨b1, o1 + 4, none⟩ = some c4 := by rw [cell_heap (k4.block b1 (by omega)), cell_heap (k3.block b1 (by omega)), cell_heap (k2.block b1 (by omega))]; exact hd4
    have he5 : w4.cell? ⟨b1, o1 + 5, none⟩ = some c5 := by rw [cell_heap (k4.block b1 (by omega)), cell_heap (k3.block b1 (by omega)), cell_heap (k2.block b1 (by omega))]; exact hd5
    have he6 : w4.cell? ⟨b1, o1 + 6, none⟩ = some c6 := by rw [cell_heap (k4.block b1 (by omega)), cell_heap (k3.block b1 (by omega)), cell_heap (k2.block b1 (by omega))]; exact hd6
    have he7 : w4.cell? ⟨b1, o1 + 7, none⟩ = some c7 := by rw [cell_heap (k4.block b1 (by omega)), cell_heap (k3.block b1 (by omega)), cell_heap (k2.block b1 (by omega))]; exact hd7
    have hf0 : w4.cell? ⟨w2.heap.size, 0, none⟩ = some (.int .i8 dk0) := by rw [cell_heap (k4.block w2.heap.size s23)]; exact (hv 0).trans rfl
    have hf1 : w4.cell? ⟨w2.heap.size, 1, none⟩ = some (.int .i8 dk1) := by rw [cell_heap (k4.block w2.heap.size s23)]; exact (hv 1).trans rfl
    have hf2 : w4.cell? ⟨w2.heap.size, 2, none⟩ = some (.slice da2 dn2 dc2) := by rw [cell_heap (k4.block w2.heap.size s23)]; exact (hv 2).trans rfl
    have hf3 : w4.cell? ⟨w2.heap.size, 3, none⟩ = some (.int .i8 dk3) := by rw [cell_heap (k4.block w2.heap.size s23)]; exact (hv 3).trans rfl
    have hf4 : w4.cell? ⟨w2.heap.size, 4, none⟩ = some (.slice da4 dn4 dc4) := by rw [cell_heap (k4.block w2.heap.size s23)]; exact (hv 4).trans rfl
    have hf5 : w4.cell? ⟨w2.heap.size, 5, none⟩ = some (.int .i64 dl) := by rw [cell_heap (k4.block w2.heap.size s23)]; exact (hv 5).trans rfl
    have hf6 : w4.cell? ⟨w2.heap.size, 6, none⟩ = some (.bool dg) := by rw [cell_heap (k4.block w2.heap.size s23)]; exact (hv 6).trans rfl
    have hf7 : w4.cell? ⟨w2.heap.size, 7, none⟩ = some (.slice da7 dn7 dc7) := by rw [cell_heap (k4.block w2.heap.size s23)]; exact (hv 7).trans rfl
    go_wp2_with fail
    rw [← hw5]
    have k25 : Below w2.heap.size w2 w5 := k3.trans ((k4.trans (k5.mono (by omega))).mono (by omega))
    refine (hL1 w1 w2 w5 dk0 dk1 dk3 dl dg da2 da4 da7 dn2 dc2 dn4 dc4 dn7 dc7 k1 hG k2 k25).mono ?_
    rintro e w6 ⟨k6, rfl⟩
    have s56 := k6.size
    have hg0 : w6.cell? ⟨w2.heap.size, 0, none⟩ = some (.int .i8 dk0) := by rw [cell_heap (k6.block w2.heap.size (by omega)), cell_heap (k5.block w2.heap.size (by omega))]; exact hf0
    have hg1 : w6.cell? ⟨w2.heap.size, 1, none⟩ = some (.int .i8 dk1) := by rw [cell_heap (k6.block w2.heap.size (by omega)), cell_heap (k5.block w2.heap.size (by omega))]; exact hf1
    have hg2 : w6.cell? ⟨w2.heap.size, 2, none⟩ = some (.slice da2 dn2 dc2) := by rw [cell_heap (k6.block w2.heap.size (by omega)), cell_heap (k5.block w2.heap.size (by omega))]; exact hf2
    have hg3 : w6.cell? ⟨w2.heap.size, 3, none⟩ = some (.int .i8 dk3) := by rw [cell_heap (k6.block w2.heap.size (by omega)), cell_heap (k5.block w2.heap.size (by omega))]; exact hf3
    have hg4 : w6.cell? ⟨w2.heap.size, 4, none⟩ = some (.slice da4 dn4 dc4) := by rw [cell_heap (k6.block w2.heap.size (by omega)), cell_heap (k5.block w2.heap.size (by omega))]; exact hf4
    have hg5 : w6.cell? ⟨w2.heap.size, 5, none⟩ = some (.int .i64 dl) := by rw [cell_heap (k6.block w2.heap.size (by omega)), cell_heap (k5.block w2.heap.size (by omega))]; exact hf5
    have hg6 : w6.cell? ⟨w2.heap.size, 6, none⟩ = some (.bool dg) := by rw [cell_heap (k6.block w2.heap.size (by omega)), cell_heap (k5.block w2.heap.size (by omega))]; exact hf6
    have hg7 : w6.cell? ⟨w2.heap.size, 7, none⟩ = some (.slice da7 dn7 dc7) := by rw [cell_heap (k6.block w2.heap.size (by omega)), cell_heap (k5.block w2.heap.size (by omega))]; exact hf7
    clear hL1
    go_wp2_with fail
    have k26 : Below w2.heap.size w2 w6 := k25.trans (k6.mono (by omega))
    refine (hP w1 w2 w6 dk0 dk1 dk3 dl dg da2 da4 da7 dn2 dc2 dn4 dc4 dn7 dc7 hG k2 k26).mono ?_
    rintro e w7 ⟨rfl, k7⟩
    have s67 := k7.size
    have hh0 : w7.cell? ⟨w4.heap.size, 0, none⟩ = some (.int .i8 yk0) := by rw [cell_heap (k7.far w4.heap.size (by omega) (.inr (by omega))), cell_heap (k6.block w4.heap.size s45)]; exact (hu 0).trans rfl
    have hh1 : w7.cell? ⟨w4.heap.size, 1, none⟩ = some (.int .i8 yk1) := by rw [cell_heap (k7.far w4.heap.size (by omega) (.inr (by omega))), cell_heap (k6.block w4.heap.size s45)]; exact (hu 1).trans rfl
    have hh2 : w7.cell? ⟨w4.heap.size, 2, none⟩ = some (.slice ya2 yn2 yc2) := by rw [cell_heap (k7.far w4.heap.size (by omega) (.inr (by omega))), cell_heap (k6.block w4.heap.size s45)]; exact (hu 2).trans rfl
    have hh3 : w7.cell? ⟨w4.heap.size, 3, none⟩ = some (.int .i8 yk3) := by rw [cell_heap (k7.far w4.heap.size (by omega) (.inr (by omega))), cell_heap (k6.block w4.heap.size s45)]; exact (hu 3).trans rfl
    have hh4 : w7.cell? ⟨w4.heap.size, 4, none⟩ = some (.slice ya4 yn4 yc4) := by rw [cell_heap (k7.far w4.heap.size (by omega) (.inr (by omega))), cell_heap (k6.block w4.heap.size s45)]; exact (hu 4).trans rfl
    have hh5 : w7.cell? ⟨w4.heap.size, 5, none⟩ = some (.int .i64 yl) := by rw [cell_heap (k7.far w4.heap.size (by omega) (.inr (by omega))), cell_heap (k6.block w4.heap.size s45)]; exact (hu 5).trans rfl
    have hh6 : w7.cell? ⟨w4.heap.size, 6, none⟩ = some (.bool yg) := by rw [cell_heap (k7.far w4.heap.size (by omega) (.inr (by omega))), cell_heap (k6.block w4.heap.size s45)]; exact (hu 6).trans rfl
    have hh7 : w7.cell? ⟨w4.heap.size, 7, none⟩ = some (.slice ya7 yn7 yc7) := by rw [cell_heap (k7.far w4.heap.size (by omega) (.inr (by omega))), cell_heap (k6.block w4.heap.size s45)]; exact (hu 7).trans rfl
    have hi0 : w7.cell? ⟨b5, 0, none⟩ = some m0 := by rw [cell_heap (k7.far b5 (by omega) (.inl (by omega))), cell_heap (k6.block b5 (by omega)), cell_heap (k5.block b5 (by omega)), cell_heap (k4.block b5 (by omega)), cell_heap (k3.block b5 (by omega)), cell_heap (k2.block b5 (by omega)), cell_heap (k1.block b5 lb5)]; exact hm0
    have hi1 : w7.cell? ⟨b5, 1, none⟩ = some m1 := by rw [cell_heap (k7.far b5 (by omega) (.inl (by omega))), cell_heap (k6.block b5 (by omega)), cell_heap (k5.block b5 (by omega)), cell_heap (k4.block b5 (by omega)), cell_heap (k3.block b5 (by omega)), cell_heap (k2.block b5 (by omega)), cell_heap (k1.block b5 lb5)]; exact hm1
    have hi2 : w7.cell? ⟨b5, 2, none⟩ = some m2 := by rw [cell_heap (k7.far b5 (by omega) (.inl (by omega))), cell_heap (k6.block b5 (by omega)), cell_heap (k5.block b5 (by omega)), cell_heap (k4.block b5 (by omega)), cell_heap (k3.block b5 (by omega)), cell_heap (k2.block b5 (by omega)), cell_heap (k1.block b5 lb5)]; exact hm2
    have hi3 : w7.cell? ⟨b5, 3, none⟩ = some m3 := by rw [cell_heap (k7.far b5 (by omega) (.inl (by omega))), cell_heap (k6.block b5 (by omega)), cell_heap (k5.block b5 (by omega)), cell_heap (k4.block b5 (by omega)), cell_heap (k3.block b5 (by omega)), cell_heap (k2.block b5 (by omega)), cell_heap (k1.block b5 lb5)]; exact hm3
    have hi4 : w7.cell? ⟨b5, 4, none⟩ = some m4 := by rw [cell_heap (k7.far b5 (by omega) (.inl (by omega))), cell_heap (k6.block b5 (by omega)), cell_heap (k5.block b5 (by omega)), cell_heap (k4.block b5 (by omega)), cell_heap (k3.block b5 (by omega)), cell_heap (k2.block b5 (by omega)), cell_heap (k1.block b5 lb5)]; exact hm4
    have hi5 : w7.cell? ⟨b5, 5, none⟩ = some m5 := by rw [cell_heap (k7.far b5 (by omega) (.inl (by omega))), cell_heap (k6.block b5 (by omega)), cell_heap (k5.block b5 (by omega)), cell_heap (k4.block b5 (by omega)), cell_heap (k3.block b5 (by omega)), cell_heap (k2.block b5 (by omega)), cell_heap (k1.block b5 lb5)]; exact hm5
    have hi6 : w7.cell? ⟨b5, 6, none⟩ = some m6 := by rw [cell_heap (k7.far b5 (by omega) (.inl (by omega))), cell_heap (k6.block b5 (by omega)), cell_heap (k5.block b5 (by omega)), cell_heap (k4.block b5 (by omega)), cell_heap (k3.block b5 (by omega)), cell_heap (k2.block b5 (by omega)), cell_heap (k1.block b5 lb5)]; exact hm6
    have hi7 : w7.cell? ⟨b5, 7, none⟩ = some m7 := by rw [cell_heap (k7.far b5 (by omega) (.inl (by omega))), cell_heap (k6.block b5 (by omega)), cell_heap (k5.block b5 (by omega)), cell_heap (k4.block b5 (by omega)), cell_heap (k3.block b5 (by omega)), cell_heap (k2.block b5 (by omega)), cell_heap (k1.block b5 lb5)]; exact hm7
    clear hP
    go_wp2_with fail
    have k46 : Below w4.heap.size w4 w6 := k5.trans (k6.mono (by omega))
    refine (hL2 w1 w2 w3 w4 w6 w7 yk0 yk1 yk3 yl yg ya2 ya4 ya7 yn2 yc2 yn4 yc4 yn7 yc7 k1 k2 k3 k4 hX k46 k7).mono ?_
    rintro e w8 ⟨k8, rfl⟩
    clear hL2
    go_wp2_with fail
    refine (hW w8).mono ?_
    rintro e w9 ⟨k9, rfl⟩
    go_wp2_with fail
    have s78 := k8.size
    have a2 := (k1.trans (k2.mono (by omega))).trans (k3.mono (by omega))
    have a4 := (a2.trans (k4.mono (by omega))).trans (k46.mono (by omega))
    have a7 := Below.erode a4 k7 (by omega) (by omega)
    exact hQ _ _ (by simp) ((a7.trans (k8.mono (by omega))).trans (k9.mono (by omega)))
end Go.Proofs.Ytopgmopdjiahmaa
