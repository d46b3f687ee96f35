/- Code and functions: what is to be shown of a function's text, without memory. Conditions: none; plain definitions and lemmas. -/
import Derived.Test.YtopgmopdjiahmaaDoorLn
import Derived.Deep.LoopGhost
set_option linter.unusedVariables false
set_option linter.unusedSimpArgs false
set_option linter.unusedSectionVars false
namespace Go.Proofs.YtopgmopdjiahmaaDoor.Lg
open Go Go.RowKit

/-! ### One operation behind the other -/
def stepM (P : Program) (σ : St) (o : MO) (K : Eff → Prop) (Kp : TypeId → Eff → Prop) : Prop :=
  match o with
  | .call d fx xs => match σ.ev fx with
    | .fn f caps => match resL (Lg.res σ.s depth0) (xs.map σ.ev ++ caps) with
      | some (_, vs) => ∃ fr v, Does P f (vs.map (.imm false)) [] (.ret fr v) [] ∧
          K { d := d.map (·, .imm fr v), u := [], z := keysL (Lg.keys σ.s depth0) (xs.map σ.ev ++ caps), r := keysL (Lg.keys σ.s depth0) (xs.map σ.ev ++ caps) }
      | none => False
    | _ => False
  | .callB d fx xs ρ => match σ.ev fx with
    | .fn f caps => ρ.Nodup ∧ (∀ k ∈ ρ, k ∉ giveK σ ρ (xs.map σ.ev ++ caps)) ∧ match giveL σ ρ (xs.map σ.ev ++ caps), lendBoxes σ ρ ρ with
      | some args, some S => ∃ o' S', Does P f args S o' S' ∧ match backBoxes ρ ρ S' with
        | some u => (match o' with
          | .ret fr v => K { d := d.map (·, .imm fr v), u := u, z := giveK σ ρ (xs.map σ.ev ++ caps), r := ρ ++ giveK σ ρ (xs.map σ.ev ++ caps) }
          | .pan t => Kp t { d := none, u := u, z := giveK σ ρ (xs.map σ.ev ++ caps), r := ρ ++ giveK σ ρ (xs.map σ.ev ++ caps) })
        | none => False
      | _, _ => False
    | _ => False
  | .pan x => match σ.ev x with
    | .unitI t => Kp t { d := none, u := [], z := [], r := [] }
    | _ => False
  | .acall d fx x xs => match σ.ev fx, resL (Lg.res σ.s depth0) (xs.map σ.ev) with
    | .fn f [], some (_, vs) => ∃ e ws B, DoesA P e f vs ws B ∧ match σ.ev x with
      | .nils => K { d := some (d, .row (.own d) ws.length), u := [(.own d, some (.row e 1 (ws.map fun s => [.imm true (.str s)])))], z := keysL (Lg.keys σ.s depth0) (xs.map σ.ev), r := keysL (Lg.keys σ.s depth0) (xs.map σ.ev) }
      | .row k n => k ∉ σ.z ∧ k ∉ keysL (Lg.keys σ.s depth0) (xs.map σ.ev) ∧ k.isOwn = true ∧ match σ.box k with
        | some (.row e' sz es) => e' = e ∧ sz = 1 ∧ es.length = n ∧ (n ≤ B ∧ ∃ ss : List ByteArray, es = ss.map fun s => [LV.imm true (.str s)]) ∧
          K { d := some (d, .row (.own d) (n + ws.length)), u := [(k, none), (.own d, some (.row e 1 (es ++ ws.map fun s => [.imm true (.str s)])))], z := keysL (Lg.keys σ.s depth0) (xs.map σ.ev), r := k :: keysL (Lg.keys σ.s depth0) (xs.map σ.ev) }
        | _ => False
      | _ => False
    | _, _ => False
  | o => match aop σ o with
    | some E => K E
    | none => False

theorem stepM_spec {P : Program} {σ : St} {o : MO} {K : Eff → Prop} {Kp : TypeId → Eff → Prop} (h : stepM P σ o K Kp) : ∃ E p, Sat P σ o E p ∧ (p = none → K E) ∧ (∀ t, p = some t → Kp t E) := by
  have plain : ∀ E, aop σ o = some E → o.isCall = false → K E → ∃ E p, Sat P σ o E p ∧ (p = none → K E) ∧ (∀ t, p = some t → Kp t E) := by
    intro E hE hc hK
    refine ⟨E, none, ?_, fun _ => hK, fun t ht => by cases ht⟩
    cases o <;> first | exact ⟨hE, rfl⟩ | (simp [MO.isCall] at hc)
  unfold stepM at h
  split at h
  · split at h
    · rename_i f caps hev
      split at h
      · rename_i fl vs hres
        obtain ⟨fr, v, hd, hK⟩ := h
        exact ⟨_, none, ⟨f, caps, fl, vs, fr, v, hev, hres, hd, rfl, rfl⟩, fun _ => hK, fun t ht => by cases ht⟩
      · cases h
    · cases h
  · split at h
    · rename_i f caps hev
      obtain ⟨hn, hdis, h⟩ := h
      split at h
      · rename_i args S hg hS
        obtain ⟨o', S', hd, h⟩ := h
        split at h
        · rename_i u hu
          cases o' with
          | ret fr v => exact ⟨_, none, ⟨f, caps, args, S, .ret fr v, S', u, hev, hn, hdis, hg, hS, hd, hu, rfl, rfl⟩, fun _ => h, fun t ht => by cases ht⟩
          | pan t => exact ⟨_, some t, ⟨f, caps, args, S, .pan t, S', u, hev, hn, hdis, hg, hS, hd, hu, rfl, rfl⟩, (fun hp => nomatch hp), (fun t' ht => by simp only [Option.some.injEq] at ht; subst ht; exact h)⟩
        · cases h
      · cases h
    · cases h
  · split at h
    · rename_i t hev
      exact ⟨_, some t, ⟨t, hev, rfl, rfl⟩, (fun hp => nomatch hp), (fun t' ht => by simp only [Option.some.injEq] at ht; subst ht; exact h)⟩
    · cases h
  · split at h
    · rename_i f fl vs hev hres
      obtain ⟨e, ws, B, hd, h⟩ := h
      split at h
      · rename_i hx
        exact ⟨_, none, ⟨f, e, ws, B, fl, vs, hev, hres, hd, rfl, .inl ⟨hx, rfl⟩⟩, fun _ => h, fun t ht => by cases ht⟩
      · rename_i k n hx
        obtain ⟨h1, h2, h3, h⟩ := h
        split at h
        · rename_i e' sz es hb
          obtain ⟨rfl, rfl, rfl, h4, h⟩ := h
          exact ⟨_, none, ⟨f, e', ws, B, fl, vs, hev, hres, hd, rfl, .inr ⟨k, es, hx, h1, h2, h3, hb, h4, rfl⟩⟩, fun _ => h, fun t ht => by cases ht⟩
        · cases h
      · cases h
    · cases h
  · rename_i hn1 hn2 hn3 hn4
    split at h
    · rename_i E hE
      refine plain E hE ?_ h
      cases o <;> first | rfl | exact absurd rfl (hn1 _ _ _) | exact absurd rfl (hn2 _ _ _ _) | exact absurd rfl (hn3 _) | exact absurd rfl (hn4 _ _ _ _)
    · cases h

def awpOps (P : Program) : List MG → St → List Eff → (St → List Eff → Prop) → (TypeId → St → Prop) → Prop
  | [], σ, acc, K, _ => K σ acc
  | m :: r, σ, acc, K, Kp => match m.g with
    | none => stepM P σ m.o (fun E => awpOps P r (σ.app E) (acc ++ [E]) K Kp) (fun t E => Kp t (σ.app E))
    | some (t, b) => match yes (σ.get t) with
      | some c => (c = some b → stepM P σ m.o (fun E => awpOps P r (σ.app E) (acc ++ [E]) K Kp) (fun t E => Kp t (σ.app E))) ∧ (c ≠ some b → awpOps P r (σ.app (undefEff m.o)) (acc ++ [undefEff m.o]) K Kp)
      | none => False

theorem awpOps_cons {P : Program} {m : MG} {r : List MG} {σ : St} {acc : List Eff} {K : St → List Eff → Prop} {Kp : TypeId → St → Prop} (h : awpOps P (m :: r) σ acc K Kp) :
    ∃ E p, SatG P σ m E p ∧ (p = none → awpOps P r (σ.app E) (acc ++ [E]) K Kp) ∧ (∀ t, p = some t → Kp t (σ.app E)) := by
  unfold awpOps at h
  split at h
  · rename_i hg
    obtain ⟨E, p, h1, h2, h3⟩ := stepM_spec h
    exact ⟨E, p, by unfold SatG; rw [hg]; exact h1, h2, h3⟩
  · rename_i t b hg
    split at h
    · rename_i c hget
      by_cases hcb : c = some b
      · obtain ⟨E, p, h1, h2, h3⟩ := stepM_spec (h.1 hcb)
        exact ⟨E, p, by unfold SatG; rw [hg]; exact ⟨c, hget, .inl ⟨hcb, h1⟩⟩, h2, h3⟩
      · exact ⟨undefEff m.o, none, by unfold SatG; rw [hg]; exact ⟨c, hget, .inr ⟨hcb, rfl, rfl⟩⟩, fun _ => h.2 hcb, fun t ht => by cases ht⟩
    · cases h

section
variable {P : Program} {hts : Hints} {ops : Array Oper} {ms : List MG} {n : Nat} {cx : Cx}

theorem dsts_at : ∀ (l : List MG) (i j : Nat) (x y : MG) (d : Nat), i ≠ j → l[i]? = some x → l[j]? = some y → x.o.dst = some d → y.o.dst = some d → ¬ (dsts l).Nodup
  | [], i, j, x, y, d, _, h, _, _, _ => by simp at h
  | z :: l, i, j, x, y, d, hij, e1, e2, e3, e4 => fun hn => by
    cases i with
    | zero =>
      cases j with
      | zero => exact hij rfl
      | succ j =>
        simp only [List.getElem?_cons_zero, Option.some.injEq] at e1
        subst e1
        simp only [List.getElem?_cons_succ] at e2
        simp only [dsts, List.filterMap_cons, e3, List.nodup_cons] at hn
        exact hn.1 (List.mem_filterMap.2 ⟨y, List.mem_of_getElem? e2, e4⟩)
    | succ i =>
      cases j with
      | zero =>
        simp only [List.getElem?_cons_zero, Option.some.injEq] at e2
        subst e2
        simp only [List.getElem?_cons_succ] at e1
        simp only [dsts, List.filterMap_cons, e4, List.nodup_cons] at hn
        exact hn.1 (List.mem_filterMap.2 ⟨x, List.mem_of_getElem? e1, e3⟩)
      | succ j =>
        refine dsts_at l i j x y d (by omega) (by simpa using e1) (by simpa using e2) e3 e4 ?_
        simp only [dsts, List.filterMap_cons] at hn
        split at hn
        · exact hn
        · exact (List.nodup_cons.1 hn).2
theorem news_dst {m : MG} {d : Nat} (h : m.o.news = some d) : m.o.dst = some d := by
  revert h
  cases m.o <;> simp [MO.news, MO.dst]

theorem seq_sound (htr : ∀ (i : Nat) (o : Oper), ops[i]? = some o → ∃ m : MG, ms[i]? = some m ∧ trG P hts ops o = some m ∧ m.o.dst = o.dst ∧ ∀ d, o.dst = some d → d < n) (hlen : ms.length = ops.size) (hnd : (dsts ms).Nodup)
    {K : St → List Eff → Prop} {Kp : TypeId → St → Prop} {Q : Exit → Act → World → Prop}
    (hK : ∀ σ es M a w, K σ es → Inv cx σ M a w → a.tmps.size = n → Q .normal a w)
    (hKp : ∀ t σ M a w, Kp t σ → Inv cx σ M a w → Q (.panic [{ v := .iface t (.agg #[]), recovered := false }]) a w) :
    ∀ (l : List MG) (i : Nat) (σ : St) (acc : List Eff) (M : Pl) (a : Act) (w : World), ms.drop i = l → awpOps P l σ acc K Kp → Inv cx σ M a w → a.tmps.size = n → (∀ j m d, i ≤ j → ms[j]? = some m → m.o.news = some d → M (.own d) = none) →
      wpOps P ops Q (List.range' i l.length) a w
  | [], i, σ, acc, M, a, w, hdrop, hawp, hI, hn, hnew => by
    simp only [List.length_nil, List.range'_zero, wpOps]
    exact hK _ _ _ _ _ hawp hI hn
  | m :: r, i, σ, acc, M, a, w, hdrop, hawp, hI, hn, hnew => by
    have hi : ms[i]? = some m := by rw [← List.head?_drop, hdrop]; rfl
    have hdrop' : ms.drop (i + 1) = r := by rw [← List.drop_drop, hdrop]; rfl
    have hlt : i < ops.size := by rw [← hlen]; exact (List.getElem?_eq_some_iff.1 hi).1
    obtain ⟨m', hm', htr', hdst, hdlt⟩ := htr i ops[i] (Array.getElem?_eq_getElem hlt)
    rw [hi] at hm'
    simp only [Option.some.injEq] at hm'; subst hm'
    obtain ⟨E, p, hsat, h2, h3⟩ := awpOps_cons hawp
    simp only [List.length_cons, List.range'_succ]
    rw [wpOps_cons]
    refine satG_goes (Array.getElem?_eq_getElem hlt) htr' hsat hI (fun d hd => by rw [hn]; exact hdlt d hd) hdst (fun d hd => hnew i m d (Nat.le_refl _) hi hd) (fun hp a' w' M' hI' hsz hM' => ?_) (fun t ht a' w' M' hI' => hKp _ _ _ _ _ (h3 t ht) hI')
    refine seq_sound htr hlen hnd hK hKp r (i + 1) _ _ M' a' w' hdrop' (h2 hp) hI' (by rw [hsz, hn]) (fun j m1 d hj h1 h4 => ?_)
    refine hM' _ (hnew j m1 d (by omega) h1 h4) fun d' hd' he => ?_
    simp only [Key.own.injEq] at he
    subst he
    exact dsts_at ms i j m m1 d (by omega) hi h1 (by rw [hdst]; exact hd') (news_dst h4) hnd

def dfltEff : Eff := undefEff (.pan (.t 0))

theorem chain_of_awp {K : St → List Eff → Prop} : ∀ (l : List MG) (i : Nat) (σ : St) (acc : List Eff), ms.drop i = l → acc.length = i → awpOps P l σ acc K (fun _ _ => False) →
    ∃ es, es.length = i + l.length ∧ (∀ j, j < i → es[j]? = acc[j]?) ∧ Chain P ms (fun j => es.getD j dfltEff) (List.range' i l.length) σ ∧ K (fin (fun j => es.getD j dfltEff) (List.range' i l.length) σ) es
  | [], i, σ, acc, hdrop, hacc, h => ⟨acc, by simp [hacc], fun j _ => rfl, trivial, h⟩
  | m :: r, i, σ, acc, hdrop, hacc, h => by
    have hi : ms[i]? = some m := by rw [← List.head?_drop, hdrop]; rfl
    have hdrop' : ms.drop (i + 1) = r := by rw [← List.drop_drop, hdrop]; rfl
    obtain ⟨E, p, hsat, h2, h3⟩ := awpOps_cons h
    have hp : p = none := by
      cases p with
      | none => rfl
      | some t => exact (h3 t rfl).elim
    subst hp
    obtain ⟨es, h4, h5, h6, h7⟩ := chain_of_awp r (i + 1) (σ.app E) (acc ++ [E]) hdrop' (by simp [hacc]) (h2 rfl)
    have hE : es.getD i dfltEff = E := by
      have := h5 i (by omega)
      rw [List.getD_eq_getElem?_getD, this, List.getElem?_append_right (by omega)]
      simp [hacc]
    refine ⟨es, by simp only [List.length_cons]; omega, fun j hj => ?_, ?_, ?_⟩
    · rw [h5 j (by omega), List.getElem?_append_left (by omega)]
    · simp only [List.length_cons, List.range'_succ, Chain]
      rw [hE]
      exact ⟨⟨m, hi, hsat⟩, h6⟩
    · simp only [List.length_cons, List.range'_succ, fin]
      rw [hE]
      exact h7
end

/-! ### Before a group: its new boxes' names are made free -/
def renK (D : List Nat) : Key → Option Key
  | .arg i => some (.arg i)
  | .own t => if t ∈ D then some (.own (t + 1000)) else if 1000 ≤ t ∧ (t - 1000) ∈ D then none else some (.own t)
def renL (f : LV → Option LV) : List LV → Option (List LV)
  | [] => some []
  | a :: r => match f a, renL f r with
    | some b, some l => some (b :: l)
    | _, _ => none
def renLL (f : LV → Option LV) : List (List LV) → Option (List (List LV))
  | [] => some []
  | a :: r => match renL f a, renLL f r with
    | some b, some l => some (b :: l)
    | _, _ => none
def renV (D : List Nat) : Nat → LV → Option LV
  | 0, _ => none
  | _ + 1, .undef => some .undef
  | _ + 1, .imm f v => some (.imm f v)
  | _ + 1, .loc k o => match renK D k with
    | some k => some (.loc k o)
    | none => none
  | _ + 1, .row k m => match renK D k with
    | some k => some (.row k m)
    | none => none
  | _ + 1, .nils => some .nils
  | _ + 1, .unitI t => some (.unitI t)
  | n + 1, .agg cs => match renL (renV D n) cs with
    | some l => some (.agg l)
    | none => none
  | n + 1, .tup cs => match renL (renV D n) cs with
    | some l => some (.tup l)
    | none => none
  | n + 1, .fn f cs => match renL (renV D n) cs with
    | some l => some (.fn f l)
    | none => none
def renB (D : List Nat) : Box → Option Box
  | .var cs => match renL (renV D 6) cs with
    | some l => some (.var l)
    | none => none
  | .row e sz es => match renLL (renV D 6) es with
    | some l => some (.row e sz l)
    | none => none
def renS (D : List Nat) : List (Key × Box) → Option (List (Key × Box))
  | [] => some []
  | (k, b) :: r => match renK D k with
    | none => renS D r
    | some k' => match renB D b, renS D r with
      | some b', some r' => some ((k', b') :: r')
      | _, _ => none
def renE (D : List Nat) : List (Nat × LV) → List (Nat × LV)
  | [] => []
  | (t, v) :: r => (t, (renV D 6 v).getD .undef) :: renE D r
def renZ (D : List Nat) : List Key → List Key
  | [] => []
  | k :: r => match renK D k with
    | some k' => k' :: renZ D r
    | none => renZ D r
def St.prep (D : List Nat) (σ : St) : Option St := match D with
  | [] => some σ
  | D => match renS D σ.s with
    | some s => some ⟨renE D σ.e, s, renZ D σ.z⟩
    | none => none
def renM (D : List Nat) (M : Pl) : Pl := fun k => match k with
  | .arg i => M (.arg i)
  | .own t => if t ∈ D then none else if 1000 ≤ t ∧ (t - 1000) ∈ D then M (.own (t - 1000)) else M (.own t)

section
variable {D : List Nat} (hD : ∀ d ∈ D, d < 1000)
include hD
theorem renM_at {M : Pl} {k k' : Key} (h : renK D k = some k') : renM D M k' = M k := by
  cases k with
  | arg i => simp only [renK, Option.some.injEq] at h; subst h; rfl
  | own t =>
    simp only [renK] at h
    split at h
    · rename_i ht
      simp only [Option.some.injEq] at h; subst h
      have h1 : t + 1000 ∉ D := fun hc => by have := hD _ hc; omega
      simp [renM, h1, ht]
    · rename_i ht
      split at h
      · cases h
      · rename_i h2
        simp only [Option.some.injEq] at h; subst h
        simp only [renM, if_neg ht, if_neg h2]
theorem renK_inj {k1 k2 k' : Key} (h1 : renK D k1 = some k') (h2 : renK D k2 = some k') : k1 = k2 := by
  cases k1 with
  | arg i =>
    simp only [renK, Option.some.injEq] at h1; subst h1
    cases k2 with
    | arg j => simp only [renK, Option.some.injEq] at h2; exact h2.symm
    | own t =>
      simp only [renK] at h2
      split at h2
      · cases h2
      · split at h2 <;> cases h2
  | own t =>
    cases k2 with
    | arg j =>
      simp only [renK, Option.some.injEq] at h2; subst h2
      simp only [renK] at h1
      split at h1
      · cases h1
      · split at h1 <;> cases h1
    | own u =>
      simp only [renK] at h1 h2
      split at h1
      · rename_i ht
        simp only [Option.some.injEq] at h1; subst h1
        split at h2
        · simp only [Option.some.injEq, Key.own.injEq] at h2; rw [show t = u by omega]
        · rename_i hu
          split at h2
          · cases h2
          · rename_i h3
            simp only [Option.some.injEq, Key.own.injEq] at h2
            exact absurd ⟨by omega, by rw [h2]; simpa using ht⟩ h3
      · rename_i ht
        split at h1
        · cases h1
        · rename_i h3
          simp only [Option.some.injEq] at h1; subst h1
          split at h2
          · rename_i hu
            simp only [Option.some.injEq, Key.own.injEq] at h2
            exact absurd ⟨by omega, by rw [← h2]; simpa using hu⟩ h3
          · split at h2
            · cases h2
            · simp only [Option.some.injEq, Key.own.injEq] at h2; rw [h2]
omit hD in
theorem renL_spec {f : LV → Option LV} : ∀ {l l' : List LV}, renL f l = some l' → l'.length = l.length ∧ ∀ j (h : j < l.length) (h' : j < l'.length), f l[j] = some l'[j]
  | [], l', h => by simp only [renL, Option.some.injEq] at h; subst h; exact ⟨rfl, fun j h => by simp at h⟩
  | a :: r, l', h => by
    simp only [renL] at h
    split at h
    · rename_i b l e1 e2
      simp only [Option.some.injEq] at h; subst h
      obtain ⟨h1, h2⟩ := renL_spec e2
      refine ⟨by simp [h1], fun j hj hj' => ?_⟩
      cases j with
      | zero => exact e1
      | succ j => exact h2 j (by simpa using hj) (by simpa using hj')
    · cases h
omit hD in
theorem renLL_spec {f : LV → Option LV} : ∀ {l l' : List (List LV)}, renLL f l = some l' → l'.length = l.length ∧ renL f l.flatten = some l'.flatten ∧ ∀ sz, (∀ x ∈ l, x.length = sz) → ∀ x ∈ l', x.length = sz
  | [], l', h => by simp only [renLL, Option.some.injEq] at h; subst h; exact ⟨rfl, rfl, fun sz _ x hx => by cases hx⟩
  | a :: r, l', h => by
    simp only [renLL] at h
    split at h
    · rename_i b l e1 e2
      simp only [Option.some.injEq] at h; subst h
      obtain ⟨h1, h2, h3⟩ := renLL_spec e2
      have app : ∀ (x y x' y' : List LV), renL f x = some x' → renL f y = some y' → renL f (x ++ y) = some (x' ++ y') := by
        intro x
        induction x with
        | nil => intro y x' y' hx hy; simp only [renL, Option.some.injEq] at hx; subst hx; simpa using hy
        | cons c x ih =>
          intro y x' y' hx hy
          simp only [renL] at hx
          split at hx
          · rename_i c' l'' g1 g2
            simp only [Option.some.injEq] at hx; subst hx
            simp only [List.cons_append, renL, g1, ih y l'' y' g2 hy]
          · cases hx
      refine ⟨by simp [h1], by simpa using app a r.flatten b l.flatten e1 h2, fun sz hs x hx => ?_⟩
      rcases List.mem_cons.1 hx with rfl | hx
      · rw [(renL_spec e1).1]; exact hs a List.mem_cons_self
      · exact h3 sz (fun y hy => hs y (List.mem_cons_of_mem _ hy)) x hx
    · cases h
theorem ren_rep {w : World} {N Nf : Nat → Prop} {M : Pl} : ∀ (n : Nat) (v v' : LV) (x : Value), renV D n v = some v' → RepL w N Nf M v x → RepL w N Nf (renM D M) v' x := by
  intro n
  induction n with
  | zero => intro v v' x h; simp [renV] at h
  | succ n ih =>
    intro v v' x h hx
    cases hx with
    | undef x => simp only [renV, Option.some.injEq] at h; subst h; exact .undef x
    | imm v x hr => simp only [renV, Option.some.injEq] at h; subst h; exact .imm v x hr
    | fresh v x hr => simp only [renV, Option.some.injEq] at h; subst h; exact .fresh v x hr
    | loc k off b c hM =>
      simp only [renV] at h
      split at h
      · rename_i k' hk
        simp only [Option.some.injEq] at h; subst h
        exact .loc k' off b c (by rw [renM_at hD hk]; exact hM)
      · cases h
    | row k m b c hM =>
      simp only [renV] at h
      split at h
      · rename_i k' hk
        simp only [Option.some.injEq] at h; subst h
        exact .row k' m b c (by rw [renM_at hD hk]; exact hM)
      · cases h
    | nils => simp only [renV, Option.some.injEq] at h; subst h; exact .nils
    | unitI t => simp only [renV, Option.some.injEq] at h; subst h; exact .unitI t
    | agg cells vs hl h1 hr =>
      simp only [renV] at h
      split at h
      · rename_i l hl'
        simp only [Option.some.injEq] at h; subst h
        obtain ⟨e1, e2⟩ := renL_spec hl'
        exact .agg l vs (by omega) h1 fun j hj hj' => ih _ _ _ (e2 j (by omega) hj) (hr j (by omega) hj')
      · cases h
    | tup cells vs hl hr =>
      simp only [renV] at h
      split at h
      · rename_i l hl'
        simp only [Option.some.injEq] at h; subst h
        obtain ⟨e1, e2⟩ := renL_spec hl'
        exact .tup l vs (by omega) fun j hj hj' => ih _ _ _ (e2 j (by omega) hj) (hr j (by omega) hj')
      · cases h
    | fn f caps vs hl hr =>
      simp only [renV] at h
      split at h
      · rename_i l hl'
        simp only [Option.some.injEq] at h; subst h
        obtain ⟨e1, e2⟩ := renL_spec hl'
        exact .fn f l vs (by omega) fun j hj hj' => ih _ _ _ (e2 j (by omega) hj) (hr j (by omega) hj')
      · cases h
omit hD in
theorem renE_get (e : List (Nat × LV)) (t : Nat) : getE (renE D e) t = (renV D 6 (getE e t)).getD .undef := by
  induction e with
  | nil => rfl
  | cons x e ih =>
    obtain ⟨u, v⟩ := x
    simp only [renE, getE]
    split
    · rfl
    · exact ih
theorem renS_get : ∀ {s s' : List (Key × Box)} {k' : Key} {b' : Box}, renS D s = some s' → getB s' k' = some b' → ∃ k b, getB s k = some b ∧ renK D k = some k' ∧ renB D b = some b'
  | [], s', k', b', h, hb => by simp only [renS, Option.some.injEq] at h; subst h; simp [getB] at hb
  | (k, b) :: r, s', k', b', h, hb => by
    simp only [renS] at h
    split at h
    · rename_i hk
      obtain ⟨k1, b1, h1, h2, h3⟩ := renS_get h hb
      refine ⟨k1, b1, ?_, h2, h3⟩
      simp only [getB]
      rw [if_neg (fun e => by rw [e, h2] at hk; cases hk)]
      exact h1
    · rename_i k0 hk
      split at h
      · rename_i b0 r' e1 e2
        simp only [Option.some.injEq] at h; subst h
        simp only [getB] at hb
        split at hb
        · rename_i he
          subst he
          simp only [Option.some.injEq] at hb; subst hb
          exact ⟨k, b, by simp [getB], hk, e1⟩
        · rename_i hne
          obtain ⟨k1, b1, h1, h2, h3⟩ := renS_get e2 hb
          refine ⟨k1, b1, ?_, h2, h3⟩
          simp only [getB]
          rw [if_neg (fun e => by subst e; rw [hk] at h2; simp only [Option.some.injEq] at h2; exact hne h2)]
          exact h1
      · cases h
omit hD in
theorem mem_renZ {z : List Key} {k k' : Key} (h : k ∈ z) (hk : renK D k = some k') : k' ∈ renZ D z := by
  induction z with
  | nil => cases h
  | cons x z ih =>
    simp only [renZ]
    rcases List.mem_cons.1 h with rfl | h
    · rw [hk]; exact List.mem_cons_self
    · split
      · exact List.mem_cons_of_mem _ (ih h)
      · exact ih h
omit hD in
theorem of_mem_renZ {z : List Key} {k' : Key} (h : k' ∈ renZ D z) : ∃ k ∈ z, renK D k = some k' := by
  induction z with
  | nil => cases h
  | cons x z ih =>
    simp only [renZ] at h
    split at h
    · rename_i k0 hk
      rcases List.mem_cons.1 h with rfl | h
      · exact ⟨x, List.mem_cons_self, hk⟩
      · obtain ⟨k, h1, h2⟩ := ih h
        exact ⟨k, List.mem_cons_of_mem _ h1, h2⟩
    · obtain ⟨k, h1, h2⟩ := ih h
      exact ⟨k, List.mem_cons_of_mem _ h1, h2⟩

theorem Inv.prep {cx : Cx} {σ σ' : St} {M : Pl} {a : Act} {w : World} (h : Inv cx σ M a w) (hp : σ.prep D = some σ') (hne : D ≠ []) : Inv cx σ' (renM D M) a w := by
  have hp' : ∃ s, renS D σ.s = some s ∧ σ' = ⟨renE D σ.e, s, renZ D σ.z⟩ := by
    unfold St.prep at hp
    split at hp
    · exact absurd rfl hne
    · split at hp
      · rename_i s hs
        simp only [Option.some.injEq] at hp
        exact ⟨s, hs, hp.symm⟩
      · cases hp
  obtain ⟨s, hs, rfl⟩ := hp'
  have back : ∀ k' b', getB s k' = some b' → ∃ k b, getB σ.s k = some b ∧ renK D k = some k' ∧ renB D b = some b' ∧ renM D M k' = M k := fun k' b' hb => by
    obtain ⟨k, b, h1, h2, h3⟩ := renS_get hD hs hb
    exact ⟨k, b, h1, h2, h3, renM_at hD h2⟩
  have live : ∀ k', (getB s k').isSome = true → ∃ k, (getB σ.s k).isSome = true ∧ renK D k = some k' ∧ renM D M k' = M k := fun k' hk => by
    obtain ⟨b', hb⟩ := Option.isSome_iff_exists.1 hk
    obtain ⟨k, b, h1, h2, _, h4⟩ := back k' b' hb
    exact ⟨k, by simp [h1], h2, h4⟩
  have hN : ∀ b, NS cx σ.s σ.z M w b → NS cx s (renZ D σ.z) (renM D M) w b := fun b hb => ⟨hb.1, hb.2.1, fun k' c hk hz hM => by
    obtain ⟨k, h1, h2, h3⟩ := live k' hk
    rw [h3] at hM
    exact hb.2.2 k c h1 (fun hc => hz (mem_renZ hc h2)) hM⟩
  have up : ∀ n v v' x, renV D n v = some v' → RR cx σ.s σ.z M w v x → RR cx s (renZ D σ.z) (renM D M) w v' x := fun n v v' x hv hx =>
    RepL.mono (ren_rep hD n v v' x hv hx) hN (fun b hb => ⟨hN b hb.1, hb.2⟩) (fun _ _ h => h) (fun _ _ _ _ h => h)
  have upL : ∀ n l l' xs, renL (renV D n) l = some l' → Rows2 (RR cx σ.s σ.z M w) l xs → Rows2 (RR cx s (renZ D σ.z) (renM D M) w) l' xs := fun n l l' xs hl hr => by
    obtain ⟨e1, e2⟩ := renL_spec hl
    exact ⟨by rw [e1]; exact hr.1, fun j hj hj' => up n _ _ _ (e2 j (by omega) hj) (hr.2 j (by omega) hj')⟩
  exact { os := h.os, tape := h.tape, output := h.output, size := h.size, frame := h.frame, defers := h.defers
          gho := gho_up h.gho (Nat.le_refl _) hN (fun _ _ => rfl)
          argM := fun i hi => h.argM i hi
          plc := fun k' hk => by
            obtain ⟨k, h1, _, h3⟩ := live k' hk
            obtain ⟨pl, hp⟩ := h.plc k h1
            exact ⟨pl, by rw [h3]; exact hp⟩
          box := fun k' b' pl hb hp => by
            obtain ⟨k, b, h1, h2, h3, h4⟩ := back k' b' hb
            rw [h4] at hp
            have hbx := h.box k b pl h1 hp
            cases b with
            | var cs =>
              simp only [renB] at h3
              split at h3
              · rename_i l hl
                simp only [Option.some.injEq] at h3; subst h3
                obtain ⟨vs, e, hh, hr, h1c⟩ := hbx
                exact ⟨vs, e, hh, upL 6 cs l _ hl hr, h1c⟩
              · cases h3
            | row e sz es =>
              simp only [renB] at h3
              split at h3
              · rename_i l hl
                simp only [Option.some.injEq] at h3; subst h3
                obtain ⟨xs, hown, hr, hsz, h1c⟩ := hbx
                obtain ⟨e1, e2, e3⟩ := renLL_spec hl
                exact ⟨xs, by rw [e1]; exact hown, upL 6 _ _ _ e2 hr, e3 sz hsz, h1c⟩
              · cases h3
          own := fun t pl ht hp => by
            obtain ⟨k, h1, h2, h3⟩ := live _ ht
            rw [h3] at hp
            cases k with
            | own u => exact h.own u pl h1 hp
            | arg i => simp [renK] at h2
          arg := fun i hi => by
            obtain ⟨k, h1, h2, h3⟩ := live _ hi
            cases k with
            | arg j => simp only [renK, Option.some.injEq, Key.arg.injEq] at h2; subst h2; exact h.arg j h1
            | own u =>
              simp only [renK] at h2
              split at h2
              · cases h2
              · split at h2 <;> cases h2
          argz := fun i hi => by
            obtain ⟨k, h1, h2⟩ := of_mem_renZ hi
            cases k with
            | arg j => exact h.argz j h1
            | own u =>
              simp only [renK] at h2
              split at h2
              · cases h2
              · split at h2 <;> cases h2
          inj := fun k1 k2 b c c' hk1 hk2 hp1 hp2 => by
            obtain ⟨j1, h1, h2, h3⟩ := live _ hk1
            obtain ⟨j2, g1, g2, g3⟩ := live _ hk2
            rw [h3] at hp1; rw [g3] at hp2
            have := h.inj j1 j2 b c c' h1 g1 hp1 hp2
            subst this
            rw [h2] at g2
            simpa using g2
          env := fun t => by
            rw [renE_get]
            cases hv : renV D 6 (getE σ.e t) with
            | none => exact .undef _
            | some v' => exact up 6 _ _ _ hv (h.env t) }
omit hD in
theorem renM_free {M : Pl} {d : Nat} (h : d ∈ D) : renM D M (.own d) = none := by simp [renM, h]
end

theorem Inv.keep {cx : Cx} {σ : St} {M : Pl} {a : Act} {w : World} (h : Inv cx σ M a w) (l : List Nat) : Inv cx { σ with e := keepE σ.e l } M a w :=
  { os := h.os, tape := h.tape, output := h.output, size := h.size, frame := h.frame, plc := h.plc, box := h.box, own := h.own, arg := h.arg, argM := h.argM, argz := h.argz, inj := h.inj, defers := h.defers, gho := h.gho
    env := fun t => by
      rcases getE_keep σ.e l t with he | he
      · rw [he]; exact h.env t
      · rw [he]; exact .undef _ }
end Go.Proofs.YtopgmopdjiahmaaDoor.Lg
