/- Coercions of casts: there is one; sides do not count for the check; plain law. Conditions: none; plain lemmas. -/
import Derived.Test.YtopgmopdjiahmaaNp
set_option linter.unusedVariables false
set_option linter.unusedSimpArgs false
set_option maxRecDepth 100000
namespace Go.Proofs.Ytopgmopdjiahmaa.Lg
open Go Go.RowKit Go.Proofs

mutual
theorem Cn.sides_down : ∀ (c : Cn) (n : Int), c.sides.down n = c.down n
  | .mk k ty to lab neg ks, n => by simp only [Cn.sides, Cn.down]; exact Cn.sidesL_down ks _
theorem Cn.sidesL_down : ∀ (ks : List Cn) (m : Int), Cn.downL (Cn.sidesL ks) m = Cn.downL ks m
  | [], m => rfl
  | c :: r, m => by simp only [Cn.sidesL, Cn.downL, Cn.sides_down c, Cn.sidesL_down r]
end
mutual
theorem Cn.sides_deep : ∀ (c : Cn) (n : Int), c.sides.deep n = c.deep n
  | .mk k ty to lab neg ks, n => by simp only [Cn.sides, Cn.deep, Cn.sidesL_deep ks]
theorem Cn.sidesL_deep : ∀ (ks : List Cn) (n d : Int), Cn.deepL (Cn.sidesL ks) n d = Cn.deepL ks n d
  | [], n, d => rfl
  | c :: r, n, d => by simp only [Cn.sidesL, Cn.deepL, Cn.sides_deep c, Cn.sidesL_deep r]
end
mutual
theorem Cn.sides_ends : ∀ c : Cn, c.sides.ends = c.ends
  | .mk k ty to lab neg ks => by
    have e : (Cn.sidesL ks).isEmpty = ks.isEmpty := by cases ks <;> simp [Cn.sidesL]
    simp only [Cn.sides, Cn.ends, Cn.sidesL_ends ks, e]
theorem Cn.sidesL_ends : ∀ ks : List Cn, Cn.endsL (Cn.sidesL ks) = Cn.endsL ks
  | [] => rfl
  | c :: r => by simp only [Cn.sidesL, Cn.endsL, Cn.sides_ends c, Cn.sidesL_ends r]
end
theorem Cn.sides_chk (c : Cn) : c.sides.chk = c.chk := by
  have h : c.sides.few = c.few := by simp [Cn.few, Cn.sides_down]
  unfold Cn.chk
  rw [h, Cn.sides_deep, Cn.sides_ends]

theorem OfR.det {lab : Int} {neg : Bool} {a b : Ty} {c : Cn} (h : OfR lab neg a b c) : ∀ {d : Cn}, OfR lab neg a b d → c = d := by
  induction h with
  | id neg k us =>
    intro d hd
    cases hd with
    | id => rfl
    | inn _ _ _ _ c hk hc h => exact absurd rfl hk
    | out _ _ _ _ c hk hc h => exact absurd rfl hk
  | inn neg k ts us c hk hc h ih =>
    intro d hd
    cases hd with
    | id => exact absurd rfl hk
    | inn _ _ _ _ c' hk' hc' h' => rw [ih h']
    | out _ _ _ _ c' hk' hc' h' => exact absurd rfl hk
    | two _ _ _ _ _ _ _ _ hk' => omega
  | out neg k ts us c hk hc h ih =>
    intro d hd
    cases hd with
    | id => exact absurd rfl hk
    | inn _ _ _ _ c' hk' hc' h' => exact absurd rfl hk
    | out _ _ _ _ c' hk' hc' h' => rw [ih h']
    | two _ _ _ _ _ _ _ _ hk' => omega
  | fn neg f0 f1 t0 t1 c d h h' ih ih' =>
    intro e he
    cases he with
    | fn _ _ _ _ _ c' d' g g' => rw [ih g, ih' g']
    | two _ _ _ _ _ _ _ _ hk' => omega
  | two neg k f0 f1 t0 t1 c d hk h h' ih ih' =>
    intro e he
    cases he with
    | inn _ _ _ _ c' hk' hc' h' => omega
    | out _ _ _ _ c' hk' hc' h' => omega
    | fn _ _ _ _ _ c' d' g g' => omega
    | two _ _ _ _ _ _ c' d' hk' g g' => rw [ih g, ih' g']
end Go.Proofs.Ytopgmopdjiahmaa.Lg
