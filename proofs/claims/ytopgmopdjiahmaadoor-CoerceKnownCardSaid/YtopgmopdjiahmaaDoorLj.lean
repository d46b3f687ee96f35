/- A call, by what the callee is known to do. Conditions: none; plain lemmas. -/
import Derived.Test.YtopgmopdjiahmaaDoorLi
set_option linter.unusedVariables false
set_option linter.unusedSimpArgs false
namespace Go.Proofs.YtopgmopdjiahmaaDoor.Lg
open Go Go.RowKit

theorem getB_appU : ∀ (u : List (Key × Option Box)) (s : List (Key × Box)) (k : Key), (u.map (·.1)).Nodup → getB (appU u s) k = match u.find? (fun p => p.1 = k) with
    | some (_, b) => b
    | none => getB s k
  | [], s, k, _ => rfl
  | (k', b) :: u, s, k, hn => by
    simp only [List.map_cons, List.nodup_cons] at hn
    have step : getB (appU ((k', b) :: u) s) k = match u.find? (fun p => p.1 = k) with
        | some (_, b) => b
        | none => if k' = k then b else getB s k := by
      cases b with
      | none => simp only [appU]; rw [getB_appU u _ k hn.2, getB_del]
      | some b => simp only [appU]; rw [getB_appU u _ k hn.2, getB_set]
    rw [step]
    by_cases hk : k' = k
    · subst hk
      have : u.find? (fun p => p.1 = k') = none := by
        rw [List.find?_eq_none]
        intro p hp
        simp only [decide_eq_true_eq]
        intro he
        exact hn.1 (he ▸ List.mem_map_of_mem hp)
      rw [this]; simp
    · simp [List.find?_cons, hk]

theorem findK_spec : ∀ (ρ : List Key) (n : Nat) (k : Key) (i : Nat), findK ρ n k = some i → ∃ j, i = n + j ∧ ρ[j]? = some k
  | [], n, k, i, h => by simp [findK] at h
  | k' :: r, n, k, i, h => by
    simp only [findK] at h
    split at h
    · rename_i he
      simp only [Option.some.injEq] at h
      exact ⟨0, by omega, by simp [he]⟩
    · obtain ⟨j, hj, hk⟩ := findK_spec r (n + 1) k i h
      exact ⟨j + 1, by omega, by simpa using hk⟩

theorem lendL_spec {f : LV → Option LV} : ∀ {l l' : List LV}, lendL f l = some l' → l'.length = l.length ∧ ∀ j (h : j < l.length) (h' : j < l'.length), f l[j] = some l'[j]
  | [], l', h => by simp only [lendL, Option.some.injEq] at h; subst h; exact ⟨rfl, fun j h => by simp at h⟩
  | a :: r, l', h => by
    simp only [lendL] at h
    split at h
    · rename_i b l e1 e2
      simp only [Option.some.injEq] at h; subst h
      obtain ⟨h1, h2⟩ := lendL_spec e2
      refine ⟨by simp [h1], fun j hj hj' => ?_⟩
      cases j with
      | zero => exact e1
      | succ j => exact h2 j (by simpa using hj) (by simpa using hj')
    · cases h
theorem backL_spec {f : LV → Option LV} : ∀ {l l' : List LV}, backL f l = some l' → l'.length = l.length ∧ ∀ j (h : j < l.length) (h' : j < l'.length), f l[j] = some l'[j]
  | [], l', h => by simp only [backL, Option.some.injEq] at h; subst h; exact ⟨rfl, fun j h => by simp at h⟩
  | a :: r, l', h => by
    simp only [backL] at h
    split at h
    · rename_i b l e1 e2
      simp only [Option.some.injEq] at h; subst h
      obtain ⟨h1, h2⟩ := backL_spec e2
      refine ⟨by simp [h1], fun j hj hj' => ?_⟩
      cases j with
      | zero => exact e1
      | succ j => exact h2 j (by simpa using hj) (by simpa using hj')
    · cases h

theorem lendBoxes_spec {σ : St} {ρ : List Key} : ∀ {r : List Key} {S : List (List LV)}, lendBoxes σ ρ r = some S → S.length = r.length ∧ ∀ i (h : i < r.length) (h' : i < S.length), r[i] ∉ σ.z ∧ ∃ cs, getB σ.s r[i] = some (.var cs) ∧ lendL (lend ρ 4) cs = some S[i]
  | [], S, h => by simp only [lendBoxes, Option.some.injEq] at h; subst h; exact ⟨rfl, fun i h => by simp at h⟩
  | k :: r, S, h => by
    simp only [lendBoxes] at h
    split at h
    · cases h
    · rename_i hz
      split at h
      · rename_i cs hb
        split at h
        · rename_i c l e1 e2
          simp only [Option.some.injEq] at h; subst h
          obtain ⟨h1, h2⟩ := lendBoxes_spec e2
          refine ⟨by simp [h1], fun i hi hi' => ?_⟩
          cases i with
          | zero => exact ⟨hz, cs, hb, e1⟩
          | succ i => exact h2 i (by simpa using hi) (by simpa using hi')
        · cases h
      · cases h
theorem backBoxes_spec {ρ : List Key} : ∀ {r : List Key} {S : List (List LV)} {u : List (Key × Option Box)}, backBoxes ρ r S = some u → S.length = r.length ∧ u.map (·.1) = r ∧ ∀ i (h : i < r.length) (h' : i < S.length), ∃ cs, u[i]? = some (r[i], some (.var cs)) ∧ backL (back ρ 4) S[i] = some cs
  | [], S, u, h => by
    cases S with
    | nil => simp only [backBoxes, Option.some.injEq] at h; subst h; exact ⟨rfl, rfl, fun i h => by simp at h⟩
    | cons c l => simp [backBoxes] at h
  | k :: r, S, u, h => by
    cases S with
    | nil => simp [backBoxes] at h
    | cons c l =>
      simp only [backBoxes] at h
      split at h
      · rename_i cs v e1 e2
        simp only [Option.some.injEq] at h; subst h
        obtain ⟨h1, h2, h3⟩ := backBoxes_spec e2
        refine ⟨by simp [h1], by simp [h2], fun i hi hi' => ?_⟩
        cases i with
        | zero => exact ⟨cs, by simp, e1⟩
        | succ i => simpa using h3 i (by simpa using hi) (by simpa using hi')
      · cases h

section
variable {P : Program} {cx : Cx} {σ : St} {M : Pl} {a : Act} {w : World}

/-- The callee's own beginning. -/
def lentCx (h : Inv cx σ M a w) (ρ : List Key) (hlive : ∀ i (hi : i < ρ.length), ρ[i] ∉ σ.z ∧ (getB σ.s ρ[i]).isSome = true) : Cx where
  w := w
  N := NS cx σ.s σ.z M w
  na := ρ.length
  m := fun i => match ρ[i]? with
    | some k => ((M k).getD (0, 0)).1
    | none => 0
  hN := fun b hb => hb.2.1
  hm := fun i hi => by
    obtain ⟨hz, hk⟩ := hlive i hi
    obtain ⟨pl, hp⟩ := h.plc _ hk
    have hlt := h.lt hk hp
    have e : ρ[i]? = some ρ[i] := by simp
    simp only [e, hp, Option.getD_some]
    exact ⟨hlt, fun hb => hb.2.2 ρ[i] pl.2 hk hz hp⟩
def lentM (M : Pl) (ρ : List Key) : Pl := fun k => match k with
  | .arg i => (ρ[i]?).bind M
  | .own _ => none

variable (h : Inv cx σ M a w) (ρ : List Key) (hlive : ∀ i (hi : i < ρ.length), ρ[i] ∉ σ.z ∧ (getB σ.s ρ[i]).isSome = true)

theorem lent_NS {S : List (List LV)} (hS : S.length = ρ.length) {b : Nat} (hb : NS cx σ.s σ.z M w b) : NS (lentCx h ρ hlive) (argS 0 S) [] (lentM M ρ) w b := by
  refine ⟨.inl hb, hb.2.1, fun k c hk _ hM => ?_⟩
  obtain ⟨bx, hbx⟩ := Option.isSome_iff_exists.1 hk
  obtain ⟨i, rfl, hi, _⟩ := getB_argS S 0 k bx hbx
  simp only [lentM, Nat.zero_add] at hM
  have hi' : i < ρ.length := by omega
  rw [List.getElem?_eq_getElem hi', Option.bind_some] at hM
  exact hb.2.2 _ c (hlive i hi').2 (hlive i hi').1 hM

theorem lend_sound {S : List (List LV)} (hS : S.length = ρ.length) : ∀ (n : Nat) (lv lv' : LV) (x : Value), lend ρ n lv = some lv' → RR cx σ.s σ.z M w lv x → RR (lentCx h ρ hlive) (argS 0 S) [] (lentM M ρ) w lv' x := by
  intro n
  induction n with
  | zero => intro lv lv' x h1; simp [lend] at h1
  | succ n ih =>
    intro lv lv' x h1 hx
    cases lv with
    | imm f v =>
      simp only [lend, Option.some.injEq] at h1; subst h1
      refine RepL.imm_iff.2 ?_
      have := RepL.imm_iff.1 hx
      cases f
      · exact this.mono (fun b hb => lent_NS h ρ hlive hS hb) (fun _ _ _ _ h => h)
      · exact this.mono (fun b hb => lent_NS h ρ hlive hS hb.1) (fun _ _ _ _ h => h)
    | loc k off =>
      simp only [lend, Option.map_eq_some_iff] at h1
      obtain ⟨i, hi, rfl⟩ := h1
      obtain ⟨j, hj, hk⟩ := findK_spec ρ 0 k i hi
      cases hx with
      | loc k off b c hM => exact .loc _ _ b c (by simp [lentM, hj, hk, hM])
    | nils => simp only [lend, Option.some.injEq] at h1; subst h1; cases hx; exact .nils
    | fn f caps =>
      simp only [lend, Option.map_eq_some_iff] at h1
      obtain ⟨l, hl, rfl⟩ := h1
      obtain ⟨e1, e2⟩ := lendL_spec hl
      cases hx with
      | fn f caps vs hl hr => exact .fn f l vs (by omega) fun j hj hj' => ih _ _ _ (e2 j (by omega) hj) (hr j (by omega) hj')
    | undef => simp [lend] at h1
    | row k n => simp [lend] at h1
    | agg cs => simp [lend] at h1
    | tup cs => simp [lend] at h1
    | unitI t => simp [lend] at h1

theorem lent_inv {S : List (List LV)} (hn : ρ.Nodup) (hS : lendBoxes σ ρ ρ = some S) : Inv (lentCx h ρ hlive) ⟨[], argS 0 S, []⟩ (lentM M ρ) ⟨#[], []⟩ w := by
  obtain ⟨hl, hspec⟩ := lendBoxes_spec hS
  have at_ : ∀ k, (getB (argS 0 S) k).isSome = true → ∃ i, k = .arg i ∧ ∃ hi : i < ρ.length, lentM M ρ k = M ρ[i] := by
    intro k hk
    obtain ⟨bx, hbx⟩ := Option.isSome_iff_exists.1 hk
    obtain ⟨i, rfl, hi, _⟩ := getB_argS S 0 k bx hbx
    refine ⟨i, by simp, by omega, ?_⟩
    simp only [lentM, Nat.zero_add]
    rw [List.getElem?_eq_getElem (by omega), Option.bind_some]
  exact { os := rfl, tape := rfl, output := rfl, size := Nat.le_refl _, frame := fun _ _ _ => rfl, defers := rfl
          gho := ⟨Nat.zero_le _, fun b hb => hb.elim⟩
          plc := fun k hk => by
            obtain ⟨i, rfl, hi, hm⟩ := at_ k hk
            obtain ⟨pl, hp⟩ := h.plc _ (hlive i hi).2
            exact ⟨pl, by rw [hm, hp]⟩
          box := fun k b pl hb hp => by
            obtain ⟨i, rfl, hi, rfl⟩ := getB_argS S 0 k b hb
            obtain ⟨i', hk', hi', hm⟩ := at_ (.arg (0 + i)) (by simp only at hb; rw [hb]; rfl)
            simp only [Nat.zero_add, Key.arg.injEq] at hk'
            subst hk'
            obtain ⟨hz, cs, hcs, hlend⟩ := hspec i hi' hi
            rw [hm] at hp
            obtain ⟨vs, e, hh, hr, h1⟩ := h.box _ _ _ hcs hp
            obtain ⟨e1, e2⟩ := lendL_spec hlend
            refine ⟨vs, e, hh, ⟨by rw [e1]; exact hr.1, fun j hj hj' => ?_⟩, h1⟩
            exact lend_sound h ρ hlive hl 4 _ _ _ (e2 j (by omega) hj) (hr.2 j (by omega) hj')
          own := fun t pl ht hp => by simp [lentM] at hp
          arg := fun i hi => by
            obtain ⟨i', hk', hi', _⟩ := at_ _ hi
            simp only [Key.arg.injEq] at hk'
            subst hk'; exact hi'
          argM := fun i hi => by
            obtain ⟨pl, hp⟩ := h.plc _ (hlive i hi).2
            refine ⟨pl.2, ?_⟩
            have e : ρ[i]? = some ρ[i] := List.getElem?_eq_getElem hi
            simp only [lentM, lentCx, e, Option.bind_some, hp, Option.getD_some]
          argz := fun i hi => by cases hi
          inj := fun k k' b c c' hk hk' hp hp' => by
            obtain ⟨i, rfl, hi, hm⟩ := at_ k hk
            obtain ⟨i', rfl, hi', hm'⟩ := at_ k' hk'
            rw [hm] at hp; rw [hm'] at hp'
            have := h.inj _ _ b c c' (hlive i hi).2 (hlive i' hi').2 hp hp'
            rw [(List.getElem_inj hn).1 this]
          env := fun t => .undef _ }

theorem back_NS {S' : List (List LV)} {s' : List (Key × Box)} (hs' : ∀ k, (getB s' k).isSome = true → (getB σ.s k).isSome = true) {w' : World} (hsz : w.heap.size ≤ w'.heap.size) {b : Nat} (hb : NS (lentCx h ρ hlive) (argS 0 S') [] (lentM M ρ) w' b) : NS cx s' σ.z M w' b := by
  obtain ⟨h1, h2, h3⟩ := hb
  refine ⟨?_, h2, fun k c hk hz hM => ?_⟩
  · rcases h1 with h1 | h1
    · exact h1.1
    · exact .inr (Nat.le_trans h.size h1)
  · rcases h1 with h1 | h1
    · exact h1.2.2 k c (hs' k hk) hz hM
    · have := h.lt (hs' k hk) hM
      have h1' : w.heap.size ≤ b := h1
      simp only at this; omega

theorem back_sound {S' : List (List LV)} {s' : List (Key × Box)} (hs' : ∀ k, (getB s' k).isSome = true → (getB σ.s k).isSome = true) {w' : World} (hsz : w.heap.size ≤ w'.heap.size) : ∀ (n : Nat) (lv lv' : LV) (x : Value), back ρ n lv = some lv' → RR (lentCx h ρ hlive) (argS 0 S') [] (lentM M ρ) w' lv x → RR cx s' σ.z M w' lv' x := by
  intro n
  induction n with
  | zero => intro lv lv' x h1; simp [back] at h1
  | succ n ih =>
    intro lv lv' x h1 hx
    cases lv with
    | imm f v =>
      simp only [back, Option.some.injEq] at h1; subst h1
      refine RepL.imm_iff.2 ?_
      have := RepL.imm_iff.1 hx
      cases f
      · exact this.mono (fun b hb => back_NS h ρ hlive hs' hsz hb) (fun _ _ _ _ h => h)
      · exact this.mono (fun b hb => ⟨back_NS h ρ hlive hs' hsz hb.1, Nat.le_trans h.size hb.2.1, hb.2.2⟩) (fun _ _ _ _ h => h)
    | loc k off =>
      cases k with
      | arg i =>
        simp only [back, Option.map_eq_some_iff] at h1
        obtain ⟨k, hk, rfl⟩ := h1
        cases hx with
        | loc k' off b c hM => exact .loc _ _ b c (by simpa [lentM, hk] using hM)
      | own t => simp [back] at h1
    | nils => simp only [back, Option.some.injEq] at h1; subst h1; cases hx; exact .nils
    | fn f caps =>
      simp only [back, Option.map_eq_some_iff] at h1
      obtain ⟨l, hl, rfl⟩ := h1
      obtain ⟨e1, e2⟩ := backL_spec hl
      cases hx with
      | fn f caps vs hl hr => exact .fn f l vs (by omega) fun j hj hj' => ih _ _ _ (e2 j (by omega) hj) (hr j (by omega) hj')
    | undef => simp [back] at h1
    | row k n => simp [back] at h1
    | agg cs => simp [back] at h1
    | tup cs => simp [back] at h1
    | unitI t => simp [back] at h1

/-- Behind the call: the caller's own state. -/
theorem back_inv {S' : List (List LV)} {u : List (Key × Option Box)} {w' : World} (hn : ρ.Nodup) (hu : backBoxes ρ ρ S' = some u) (hpost : Inv (lentCx h ρ hlive) ⟨[], argS 0 S', []⟩ (lentM M ρ) ⟨#[], []⟩ w') :
    Inv cx { σ with s := appU u σ.s } M a w' ∧ ∀ f v x, RR (lentCx h ρ hlive) (argS 0 S') [] (lentM M ρ) w' (.imm f v) x → RR cx (appU u σ.s) σ.z M w' (.imm f v) x := by
  obtain ⟨hl, hmap, hspec⟩ := backBoxes_spec hu
  have hsz : w.heap.size ≤ w'.heap.size := hpost.size
  have hnu : (u.map (·.1)).Nodup := by rw [hmap]; exact hn
  have hul : u.length = ρ.length := by rw [← hmap]; simp
  -- what stands there
  have look : ∀ k, (∃ i, ∃ hi : i < ρ.length, k = ρ[i] ∧ ∃ cs, getB (appU u σ.s) k = some (.var cs) ∧ backL (back ρ 4) (S'[i]'(by omega)) = some cs) ∨ ((∀ i (hi : i < ρ.length), k ≠ ρ[i]) ∧ getB (appU u σ.s) k = getB σ.s k) := by
    intro k
    rw [getB_appU u σ.s k hnu]
    cases hf : u.find? (fun p => decide (p.1 = k)) with
    | none =>
      refine .inr ⟨fun i hi he => ?_, rfl⟩
      obtain ⟨cs, h1, _⟩ := hspec i hi (by omega)
      have := List.find?_eq_none.1 hf _ (List.mem_of_getElem? h1)
      simp at this; exact this he.symm
    | some p =>
      have h1 := List.mem_of_find?_eq_some hf
      have h2 := List.find?_some hf
      obtain ⟨i, hi, he⟩ := List.getElem_of_mem h1
      obtain ⟨cs, h3, h4⟩ := hspec i (by omega) (by omega)
      rw [List.getElem?_eq_getElem hi, he] at h3
      simp only [Option.some.injEq] at h3
      subst h3
      simp only [decide_eq_true_eq] at h2
      exact .inl ⟨i, by omega, h2.symm, cs, rfl, h4⟩
  have live : ∀ k, (getB (appU u σ.s) k).isSome = true → (getB σ.s k).isSome = true := by
    intro k hk
    rcases look k with ⟨i, hi, rfl, _⟩ | ⟨_, he⟩
    · exact (hlive i hi).2
    · rwa [he] at hk
  have notm : ∀ b, (∀ i (hi : i < ρ.length) c, M ρ[i] ≠ some (b, c)) → b < w.heap.size → w'.heap[b]? = w.heap[b]? := by
    intro b hb hlt
    refine hpost.frame b hlt fun i hi e => ?_
    obtain ⟨pl, hp⟩ := h.plc _ (hlive i hi).2
    have e' : ρ[i]? = some ρ[i] := List.getElem?_eq_getElem hi
    simp only [lentCx, e', hp, Option.getD_some] at e
    exact hb i hi pl.2 (by rw [hp, ← e])
  have hN : ∀ b, NS cx σ.s σ.z M w b → NS cx (appU u σ.s) σ.z M w' b := fun b hb => ⟨hb.1, Nat.lt_of_lt_of_le hb.2.1 hsz, fun k c hk hz => hb.2.2 k c (live k hk) hz⟩
  have hw : ∀ b, NS cx σ.s σ.z M w b → w'.heap[b]? = w.heap[b]? := fun b hb => notm b (fun i hi c hM => hb.2.2 _ c (hlive i hi).2 (hlive i hi).1 hM) hb.2.1
  have up : ∀ v x, RR cx σ.s σ.z M w v x → RR cx (appU u σ.s) σ.z M w' v x := fun v x hx => RR.up hN (fun _ _ h => h) hw hx
  refine ⟨?_, fun f v x hx => back_sound h ρ hlive live hsz 1 (.imm f v) _ x rfl hx⟩
  exact { os := hpost.os.trans h.os, tape := hpost.tape.trans h.tape, output := hpost.output.trans h.output, defers := h.defers, argz := h.argz, argM := h.argM
          gho := gho_up h.gho hsz hN hw
          size := Nat.le_trans h.size hsz
          frame := fun b hb hi => by
            refine (notm b (fun i hi' c hM => ?_) (Nat.lt_of_lt_of_le hb h.size)).trans (h.frame b hb hi)
            cases hk : ρ[i] with
            | own t => rw [hk] at hM; have := h.own t _ (hk ▸ (hlive i hi').2) hM; simp only at this; omega
            | arg j =>
              rw [hk] at hM
              have hj := h.arg j (hk ▸ (hlive i hi').2)
              obtain ⟨c', hc'⟩ := h.argM j hj
              rw [hM] at hc'
              simp only [Option.some.injEq, Prod.mk.injEq] at hc'
              exact hi j hj hc'.1.symm
          plc := fun k hk => h.plc k (live k hk)
          box := fun k b pl hb hp => by
            rcases look k with ⟨i, hi, rfl, cs, hcs, hbk⟩ | ⟨hne, he⟩
            · simp only at hb
              rw [hcs] at hb
              simp only [Option.some.injEq] at hb; subst hb
              have hb' := getB_argS_at S' 0 i (by omega)
              rw [Nat.zero_add] at hb'
              have hp' : lentM M ρ (.arg i) = some pl := by simp only [lentM]; rw [List.getElem?_eq_getElem hi, Option.bind_some]; exact hp
              obtain ⟨vs, e, hh, hr, h1⟩ := hpost.box _ _ _ hb' hp'
              obtain ⟨e1, e2⟩ := backL_spec hbk
              refine ⟨vs, e, hh, ⟨by rw [e1]; exact hr.1, fun j hj hj' => ?_⟩, h1⟩
              exact back_sound h ρ hlive live hsz 4 _ _ _ (e2 j (by omega) hj) (hr.2 j (by omega) hj')
            · simp only at hb
              rw [he] at hb
              have hbx := h.box k b pl hb hp
              refine hbx.up up (notm pl.1 (fun i hi c hM => ?_) hbx.lt)
              exact hne i hi (h.inj k ρ[i] pl.1 pl.2 c (by simp [hb]) (hlive i hi).2 hp hM)
          own := fun t pl ht hp => h.own t pl (live _ ht) hp
          arg := fun i hi => h.arg i (live _ hi)
          inj := fun k k' b c c' hk hk' => h.inj k k' b c c' (live _ hk) (live _ hk')
          env := fun t => up _ _ (h.env t) }
end
end Go.Proofs.YtopgmopdjiahmaaDoor.Lg
