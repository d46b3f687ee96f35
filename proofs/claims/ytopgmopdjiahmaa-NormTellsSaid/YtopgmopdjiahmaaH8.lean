/- Texts of one proof, joined by program (gen/tells.py): No Np Nq Nr. Conditions: none; plain definitions and lemmas. -/
import Derived.Test.YtopgmopdjiahmaaH7
/- Coercions of casts: where they go; plain law. Conditions: none; plain lemmas. -/
set_option linter.unusedVariables false
set_option linter.unusedSimpArgs false
set_option maxRecDepth 100000
namespace Go.Proofs.Ytopgmopdjiahmaa.Lg
open Go Go.RowKit Go.Proofs

mutual
theorem Ty.eqv_refl : ∀ t : Ty, t.eqv t = true
  | .mk k ts => by simp only [Ty.eqv, beq_self_eq_true, Bool.true_and]; exact Ty.eqvL_refl ts
theorem Ty.eqvL_refl : ∀ ts : List Ty, Ty.eqvL ts ts = true
  | [] => rfl
  | t :: r => by simp only [Ty.eqvL, Ty.eqv_refl t, Ty.eqvL_refl r, Bool.and_self]
end
theorem Ty.same_refl {t : Ty} (h : t.check = 0) : t.same t = true := by simp [Ty.same, h, Ty.eqv_refl]

theorem ground_of {k : Int} {ts : List Ty} (h : (Ty.mk k ts).check = 0) (hk : k ≠ 0) : (Ty.mk k ts).ground.1.check = 0 ∧ (Ty.mk k ts).ground.1.isG = true ∧ (Ty.mk k ts).ground.1.k = k := by
  rcases right_shape (check_iff.1 h).2.2 with ⟨rfl, _⟩ | ⟨a, b, rfl, _, _, _⟩
  · have e := ground_base h hk
    refine ⟨by rw [e]; exact h, ?_, by rw [e]; rfl⟩
    rw [e]
    have e2 : (Ty.mk k []).ground.2 = true := by simp [Ty.ground, h, Ty.k, hk]
    simp [Ty.isG, e2, e, Ty.same_refl h]
  · have e := ground_pair h hk
    have h2 := (unun h hk).1
    have e3 := ground_pair h2 hk
    refine ⟨by rw [e]; exact h2, ?_, by rw [e]; rfl⟩
    rw [e]
    have e2 : (Ty.mk k [.un, .un]).ground.2 = true := by simp [Ty.ground, h2, Ty.k, hk]
    simp [Ty.isG, e2, e3, Ty.same_refl h2]

theorem right_zero {us : List Ty} (h : (Ty.mk 0 us).check = 0) : us = [] := by
  rcases right_shape (check_iff.1 h).2.2 with ⟨h, _⟩ | ⟨a, b, _, hk, _⟩
  · exact h
  · omega
theorem right_base {k : Int} {us : List Ty} (h : (Ty.mk k []).check = 0) (h' : (Ty.mk k us).check = 0) : us = [] := by
  rcases right_shape (check_iff.1 h).2.2 with ⟨_, hk⟩ | ⟨a, b, he, _⟩
  · rcases right_shape (check_iff.1 h').2.2 with ⟨h, _⟩ | ⟨a, b, _, hk2, _⟩
    · exact h
    · omega
  · cases he

theorem OfR.ends {lab : Int} (hl : labOk lab = true) {neg : Bool} {a b : Ty} {c : Cn} (h : OfR lab neg a b c) : a.check = 0 → b.check = 0 → c.ends = (a, b, true) := by
  induction h with
  | id neg k us =>
    intro ha hb
    have := right_base ha hb
    subst this
    simp [Cn.ends, leafF, leafE, ha]
  | inn neg k ts us c hk hc h ih =>
    intro ha hb
    have := right_zero hb
    subst this
    obtain ⟨g1, g2, g3⟩ := ground_of hc hk
    have e := ih ha g1
    simp only [part, Cn.ends, Cn.endsL, leafF, partsL, e, leafE]
    simp [g1, g2, partsE, Ty.same_refl g1, Ty.un]
  | out neg k ts us c hk hc h ih =>
    intro ha hb
    have := right_zero ha
    subst this
    obtain ⟨g1, g2, g3⟩ := ground_of hc hk
    have e := ih g1 hb
    simp only [part, Cn.ends, Cn.endsL, leafF, partsL, e, leafE]
    simp [g1, g2, hl, partsE, Ty.same_refl g1, Ty.un]
  | fn neg f0 f1 t0 t1 c d h h' ih ih' =>
    intro ha hb
    obtain ⟨a0, a1, _, _⟩ := check_pair ha
    obtain ⟨b0, b1, _, _⟩ := check_pair hb
    have e := ih b0 a0
    have e' := ih' a1 b1
    simp [part, Cn.ends, Cn.endsL, leafF, partsL, e, e', partsE]
  | two neg k f0 f1 t0 t1 c d hk h h' ih ih' =>
    intro ha hb
    obtain ⟨a0, a1, _, _⟩ := check_pair ha
    obtain ⟨b0, b1, _, _⟩ := check_pair hb
    have e := ih a0 b0
    have e' := ih' a1 b1
    rcases hk with rfl | rfl
    · simp [part, Cn.ends, Cn.endsL, leafF, partsL, e, e', partsE]
    · simp [part, Cn.ends, Cn.endsL, leafF, partsL, e, e', partsE]
end Go.Proofs.Ytopgmopdjiahmaa.Lg

/- Coercions of casts: heights, sides, sameness; plain law. Conditions: none; plain lemmas. -/
set_option linter.unusedVariables false
set_option linter.unusedSimpArgs false
set_option maxRecDepth 100000
namespace Go.Proofs.Ytopgmopdjiahmaa.Lg
open Go Go.RowKit Go.Proofs
theorem ground_high {k : Int} {ts : List Ty} (h : (Ty.mk k ts).check = 0) (hk : k ≠ 0) : (Ty.mk k ts).ground.1.high ≤ (Ty.mk k ts).high := by
  rcases right_shape (check_iff.1 h).2.2 with ⟨rfl, _⟩ | ⟨a, b, rfl, _, _, _⟩
  · rw [ground_base h hk]; omega
  · rw [ground_pair h hk]
    have := (unun h hk).2.1
    have e : (Ty.mk k [.un, .un]).rank = (Ty.mk k [.un, .un]).high := by simp [Ty.rank, Ty.k, hk]
    omega
theorem OfR.height {lab : Int} {neg : Bool} {a b : Ty} {c : Cn} (h : OfR lab neg a b c) : a.check = 0 → b.check = 0 → c.height ≤ maxI a.high b.high := by
  induction h with
  | id neg k us =>
    intro ha hb
    have := Ty.high_pos (.mk k [])
    have := (le_maxI (a := (Ty.mk k []).high) (b := (Ty.mk k us).high)).1
    simp [Cn.height]; omega
  | inn neg k ts us c hk hc h ih =>
    intro ha hb
    have e := ih ha (ground_of hc hk).1
    have g := ground_high hc hk
    have m := (le_maxI (a := (Ty.mk k ts).high) (b := (Ty.mk 0 us).high)).1
    have e2 : maxI (Ty.mk k ts).high (Ty.mk k ts).ground.1.high ≤ (Ty.mk k ts).high := maxI_le (by omega) g
    simp only [part, Cn.height, Cn.heightL]
    simp
    exact maxI_le (by omega) (by omega)
  | out neg k ts us c hk hc h ih =>
    intro ha hb
    have e := ih (ground_of hc hk).1 hb
    have g := ground_high hc hk
    have m := (le_maxI (a := (Ty.mk 0 us).high) (b := (Ty.mk k ts).high)).2
    have e2 : maxI (Ty.mk k ts).ground.1.high (Ty.mk k ts).high ≤ (Ty.mk k ts).high := maxI_le g (by omega)
    simp only [part, Cn.height, Cn.heightL]
    simp
    exact maxI_le (by omega) (by omega)
  | fn neg f0 f1 t0 t1 c d h h' ih ih' =>
    intro ha hb
    obtain ⟨a0, a1, a2, a3⟩ := check_pair ha
    obtain ⟨b0, b1, b2, b3⟩ := check_pair hb
    have e := ih b0 a0
    have e' := ih' a1 b1
    have m := le_maxI (a := (Ty.mk 3 [f0, f1]).high) (b := (Ty.mk 3 [t0, t1]).high)
    have e1 : c.height ≤ maxI (Ty.mk 3 [f0, f1]).high (Ty.mk 3 [t0, t1]).high - 1 := Int.le_trans e (maxI_le (by omega) (by omega))
    have e2 : d.height ≤ maxI (Ty.mk 3 [f0, f1]).high (Ty.mk 3 [t0, t1]).high - 1 := Int.le_trans e' (maxI_le (by omega) (by omega))
    have e3 := maxI_le e1 e2
    simp only [part, Cn.height, Cn.heightL]
    simp
    omega
  | two neg k f0 f1 t0 t1 c d hk h h' ih ih' =>
    intro ha hb
    obtain ⟨a0, a1, a2, a3⟩ := check_pair ha
    obtain ⟨b0, b1, b2, b3⟩ := check_pair hb
    have e := ih a0 b0
    have e' := ih' a1 b1
    have m := le_maxI (a := (Ty.mk k [f0, f1]).high) (b := (Ty.mk k [t0, t1]).high)
    have e1 : c.height ≤ maxI (Ty.mk k [f0, f1]).high (Ty.mk k [t0, t1]).high - 1 := Int.le_trans e (maxI_le (by omega) (by omega))
    have e2 : d.height ≤ maxI (Ty.mk k [f0, f1]).high (Ty.mk k [t0, t1]).high - 1 := Int.le_trans e' (maxI_le (by omega) (by omega))
    have e3 := maxI_le e1 e2
    rcases hk with rfl | rfl
    · simp only [part, Cn.height, Cn.heightL]
      simp
      omega
    · simp only [part, Cn.height, Cn.heightL]
      simp
      omega
end Go.Proofs.Ytopgmopdjiahmaa.Lg

/- Coercions of casts: there is one; sides do not count for the check; plain law. Conditions: none; plain lemmas. -/
set_option linter.unusedVariables false
set_option linter.unusedSimpArgs false
set_option maxRecDepth 100000
namespace Go.Proofs.Ytopgmopdjiahmaa.Lg
open Go Go.RowKit Go.Proofs
theorem OfR.det {lab : Int} {neg : Bool} {a b : Ty} {c : Cn} (h : OfR lab neg a b c) : ∀ {d : Cn}, OfR lab neg a b d → c = d := by
  induction h with
  | id neg k us =>
    intro d hd
    cases hd with
    | id => rfl
    | inn _ _ _ _ c hk hc h => exact absurd rfl hk
    | out _ _ _ _ c hk hc h => exact absurd rfl hk
  | inn neg k ts us c hk hc h ih =>
    intro d hd
    cases hd with
    | id => exact absurd rfl hk
    | inn _ _ _ _ c' hk' hc' h' => rw [ih h']
    | out _ _ _ _ c' hk' hc' h' => exact absurd rfl hk
    | two _ _ _ _ _ _ _ _ hk' => omega
  | out neg k ts us c hk hc h ih =>
    intro d hd
    cases hd with
    | id => exact absurd rfl hk
    | inn _ _ _ _ c' hk' hc' h' => exact absurd rfl hk
    | out _ _ _ _ c' hk' hc' h' => rw [ih h']
    | two _ _ _ _ _ _ _ _ hk' => omega
  | fn neg f0 f1 t0 t1 c d h h' ih ih' =>
    intro e he
    cases he with
    | fn _ _ _ _ _ c' d' g g' => rw [ih g, ih' g']
    | two _ _ _ _ _ _ _ _ hk' => omega
  | two neg k f0 f1 t0 t1 c d hk h h' ih ih' =>
    intro e he
    cases he with
    | inn _ _ _ _ c' hk' hc' h' => omega
    | out _ _ _ _ c' hk' hc' h' => omega
    | fn _ _ _ _ _ c' d' g g' => omega
    | two _ _ _ _ _ _ c' d' hk' g g' => rw [ih g, ih' g']
end Go.Proofs.Ytopgmopdjiahmaa.Lg

/- CoerceGoes: the law's walk. Conditions: none; plain lemmas. -/
set_option linter.unusedVariables false
set_option linter.unusedSimpArgs false
set_option maxRecDepth 100000
set_option maxHeartbeats 1000000
namespace Go.Proofs.Ytopgmopdjiahmaa.Lg
open Go Go.RowKit Go.Proofs

theorem OfA.zero {a b : Ty} {lab : Int} {c : Cn} {e : Int} (h : OfA a b lab c e) (he : e ≠ 0) : c = .zero := by
  cases h <;> first | rfl | exact absurd rfl he
theorem OfA.good {a b : Ty} {lab : Int} {c : Cn} {e : Int} (h : OfA a b lab c e) (he : e = 0) : a.check = 0 ∧ b.check = 0 ∧ a.lev b = true ∧ labIn lab = true ∧ OfR (labN lab) (labS lab) a b c ∧ c.chk.2.2 = 0 := by
  cases h with
  | e1 h => exact absurd he h
  | e2 h h' => exact absurd he h'
  | e3 => omega
  | e4 c h h' h2 h3 hc hz => exact absurd he hz
  | ok c h h' h2 h3 hc hz => exact ⟨h, h', h2, h3, hc, hz⟩
theorem labOk_N {lab : Int} (h : labIn lab = true) : labOk (labN lab) = true := by
  have h := of_decide_eq_true h
  have hb : 1 ≤ labN lab ∧ labN lab ≤ 2147483648 := by unfold labN; split <;> omega
  simp only [labOk, Bool.and_eq_true, decide_eq_true_eq]
  omega
end Go.Proofs.Ytopgmopdjiahmaa.Lg
