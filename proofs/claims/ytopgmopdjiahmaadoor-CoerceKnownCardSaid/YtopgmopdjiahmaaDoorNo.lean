/- Coercions of casts: where they go; plain law. Conditions: none; plain lemmas. -/
import Derived.Test.YtopgmopdjiahmaaDoorNl
set_option linter.unusedVariables false
set_option linter.unusedSimpArgs false
set_option maxRecDepth 100000
namespace Go.Proofs.YtopgmopdjiahmaaDoor.Lg
open Go Go.RowKit Go.Proofs

mutual
theorem Ty.eqv_refl : ∀ t : Ty, t.eqv t = true
  | .mk k ts => by simp only [Ty.eqv, beq_self_eq_true, Bool.true_and]; exact Ty.eqvL_refl ts
theorem Ty.eqvL_refl : ∀ ts : List Ty, Ty.eqvL ts ts = true
  | [] => rfl
  | t :: r => by simp only [Ty.eqvL, Ty.eqv_refl t, Ty.eqvL_refl r, Bool.and_self]
end
theorem Ty.same_refl {t : Ty} (h : t.check = 0) : t.same t = true := by simp [Ty.same, h, Ty.eqv_refl]

theorem ground_of {k : Int} {ts : List Ty} (h : (Ty.mk k ts).check = 0) (hk : k ≠ 0) : (Ty.mk k ts).ground.1.check = 0 ∧ (Ty.mk k ts).ground.1.isG = true ∧ (Ty.mk k ts).ground.1.k = k := by
  rcases right_shape (check_iff.1 h).2.2 with ⟨rfl, _⟩ | ⟨a, b, rfl, _, _, _⟩
  · have e := ground_base h hk
    refine ⟨by rw [e]; exact h, ?_, by rw [e]; rfl⟩
    rw [e]
    have e2 : (Ty.mk k []).ground.2 = true := by simp [Ty.ground, h, Ty.k, hk]
    simp [Ty.isG, e2, e, Ty.same_refl h]
  · have e := ground_pair h hk
    have h2 := (unun h hk).1
    have e3 := ground_pair h2 hk
    refine ⟨by rw [e]; exact h2, ?_, by rw [e]; rfl⟩
    rw [e]
    have e2 : (Ty.mk k [.un, .un]).ground.2 = true := by simp [Ty.ground, h2, Ty.k, hk]
    simp [Ty.isG, e2, e3, Ty.same_refl h2]

theorem right_zero {us : List Ty} (h : (Ty.mk 0 us).check = 0) : us = [] := by
  rcases right_shape (check_iff.1 h).2.2 with ⟨h, _⟩ | ⟨a, b, _, hk, _⟩
  · exact h
  · omega
theorem right_base {k : Int} {us : List Ty} (h : (Ty.mk k []).check = 0) (h' : (Ty.mk k us).check = 0) : us = [] := by
  rcases right_shape (check_iff.1 h).2.2 with ⟨_, hk⟩ | ⟨a, b, he, _⟩
  · rcases right_shape (check_iff.1 h').2.2 with ⟨h, _⟩ | ⟨a, b, _, hk2, _⟩
    · exact h
    · omega
  · cases he

theorem OfR.ends {lab : Int} (hl : labOk lab = true) {neg : Bool} {a b : Ty} {c : Cn} (h : OfR lab neg a b c) : a.check = 0 → b.check = 0 → c.ends = (a, b, true) := by
  induction h with
  | id neg k us =>
    intro ha hb
    have := right_base ha hb
    subst this
    simp [Cn.ends, leafF, leafE, ha]
  | inn neg k ts us c hk hc h ih =>
    intro ha hb
    have := right_zero hb
    subst this
    obtain ⟨g1, g2, g3⟩ := ground_of hc hk
    have e := ih ha g1
    simp only [part, Cn.ends, Cn.endsL, leafF, partsL, e, leafE]
    simp [g1, g2, partsE, Ty.same_refl g1, Ty.un]
  | out neg k ts us c hk hc h ih =>
    intro ha hb
    have := right_zero ha
    subst this
    obtain ⟨g1, g2, g3⟩ := ground_of hc hk
    have e := ih g1 hb
    simp only [part, Cn.ends, Cn.endsL, leafF, partsL, e, leafE]
    simp [g1, g2, hl, partsE, Ty.same_refl g1, Ty.un]
  | fn neg f0 f1 t0 t1 c d h h' ih ih' =>
    intro ha hb
    obtain ⟨a0, a1, _, _⟩ := check_pair ha
    obtain ⟨b0, b1, _, _⟩ := check_pair hb
    have e := ih b0 a0
    have e' := ih' a1 b1
    simp [part, Cn.ends, Cn.endsL, leafF, partsL, e, e', partsE]
  | two neg k f0 f1 t0 t1 c d hk h h' ih ih' =>
    intro ha hb
    obtain ⟨a0, a1, _, _⟩ := check_pair ha
    obtain ⟨b0, b1, _, _⟩ := check_pair hb
    have e := ih a0 b0
    have e' := ih' a1 b1
    rcases hk with rfl | rfl
    · simp [part, Cn.ends, Cn.endsL, leafF, partsL, e, e', partsE]
    · simp [part, Cn.ends, Cn.endsL, leafF, partsL, e, e', partsE]
end Go.Proofs.YtopgmopdjiahmaaDoor.Lg
