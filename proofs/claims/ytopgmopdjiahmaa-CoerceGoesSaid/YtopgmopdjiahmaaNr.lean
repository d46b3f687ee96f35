/- CoerceGoes: the law's walk. Conditions: none; plain lemmas. -/
import Derived.Test.YtopgmopdjiahmaaNq
set_option linter.unusedVariables false
set_option linter.unusedSimpArgs false
set_option maxRecDepth 100000
set_option maxHeartbeats 1000000
namespace Go.Proofs.Ytopgmopdjiahmaa.Lg
open Go Go.RowKit Go.Proofs

theorem OfA.zero {a b : Ty} {lab : Int} {c : Cn} {e : Int} (h : OfA a b lab c e) (he : e ≠ 0) : c = .zero := by
  cases h <;> first | rfl | exact absurd rfl he
theorem OfA.good {a b : Ty} {lab : Int} {c : Cn} {e : Int} (h : OfA a b lab c e) (he : e = 0) : a.check = 0 ∧ b.check = 0 ∧ a.lev b = true ∧ labIn lab = true ∧ OfR (labN lab) (labS lab) a b c ∧ c.chk.2.2 = 0 := by
  cases h with
  | e1 h => exact absurd he h
  | e2 h h' => exact absurd he h'
  | e3 => omega
  | e4 c h h' h2 h3 hc hz => exact absurd he hz
  | ok c h h' h2 h3 hc hz => exact ⟨h, h', h2, h3, hc, hz⟩
theorem labOk_N {lab : Int} (h : labIn lab = true) : labOk (labN lab) = true := by
  have h := of_decide_eq_true h
  have hb : 1 ≤ labN lab ∧ labN lab ≤ 2147483648 := by unfold labN; split <;> omega
  simp only [labOk, Bool.and_eq_true, decide_eq_true_eq]
  omega
/-- with the label's side changed -/
theorem OfA.neg {a b : Ty} {lab : Int} {c d : Cn} {e f : Int} (h : OfA a b lab c e) (he : e = 0) (h' : OfA a b (0 - lab) d f) : f = 0 ∧ d = c.sides := by
  obtain ⟨h1, h2, h3, h4, h5, h6⟩ := h.good he
  have hin := of_decide_eq_true h4
  have hin' : labIn (0 - lab) = true := decide_eq_true ⟨by omega, by omega, by omega⟩
  have hN : labN (0 - lab) = labN lab := by unfold labN; split <;> split <;> omega
  have hS : labS (0 - lab) = !labS lab := by
    unfold labS
    by_cases hl : lab < 0
    · rw [decide_eq_true hl, decide_eq_false (by omega)]; rfl
    · rw [decide_eq_false hl, decide_eq_true (by omega)]; rfl
  have hs := h5.sides
  cases h' with
  | e1 g => exact absurd h1 g
  | e2 g g' => exact absurd h2 g'
  | e3 g g' g2 => rcases g2 with g2 | g2
                  · rw [h3] at g2; cases g2
                  · rw [hin'] at g2; cases g2
  | e4 d g g' g2 g3 hc hz =>
    rw [hN, hS] at hc
    have := hs.det hc
    subst this
    rw [Cn.sides_chk] at hz
    exact absurd h6 hz
  | ok d g g' g2 g3 hc hz =>
    rw [hN, hS] at hc
    exact ⟨rfl, (hs.det hc).symm⟩

theorem Cn.sides_fits : ∀ c : Cn, c.fits → c.sides.fits := by
  refine Cn.ind fun k ty to lab neg ks ih hf => ?_
  have hlen : (Cn.sidesL ks).length = ks.length := by
    clear ih hf
    induction ks with
    | nil => rfl
    | cons c r ih => simp [Cn.sidesL, ih]
  have hk : Cn.fitsL (Cn.sidesL ks) := by
    have hfk := hf.2.2.2.2
    clear hlen hf
    induction ks with
    | nil => trivial
    | cons c r ihr => exact ⟨ih c (by simp) hfk.1, ihr (fun d hd => ih d (by simp [hd])) hfk.2⟩
  simp only [Cn.sides]
  exact ⟨hf.1, hf.2.1, by rw [hlen]; exact hf.2.2.1, hf.2.2.2.1, hk⟩
end Go.Proofs.Ytopgmopdjiahmaa.Lg
