/- Coercions of casts: there is one; sides do not count for the check; plain law. Conditions: none; plain lemmas. -/
import Derived.Test.YtopgmopdjiahmaaDoorNp
set_option linter.unusedVariables false
set_option linter.unusedSimpArgs false
set_option maxRecDepth 100000
namespace Go.Proofs.YtopgmopdjiahmaaDoor.Lg
open Go Go.RowKit Go.Proofs
theorem OfR.det {lab : Int} {neg : Bool} {a b : Ty} {c : Cn} (h : OfR lab neg a b c) : ∀ {d : Cn}, OfR lab neg a b d → c = d := by
  induction h with
  | id neg k us =>
    intro d hd
    cases hd with
    | id => rfl
    | inn _ _ _ _ c hk hc h => exact absurd rfl hk
    | out _ _ _ _ c hk hc h => exact absurd rfl hk
  | inn neg k ts us c hk hc h ih =>
    intro d hd
    cases hd with
    | id => exact absurd rfl hk
    | inn _ _ _ _ c' hk' hc' h' => rw [ih h']
    | out _ _ _ _ c' hk' hc' h' => exact absurd rfl hk
    | two _ _ _ _ _ _ _ _ hk' => omega
  | out neg k ts us c hk hc h ih =>
    intro d hd
    cases hd with
    | id => exact absurd rfl hk
    | inn _ _ _ _ c' hk' hc' h' => exact absurd rfl hk
    | out _ _ _ _ c' hk' hc' h' => rw [ih h']
    | two _ _ _ _ _ _ _ _ hk' => omega
  | fn neg f0 f1 t0 t1 c d h h' ih ih' =>
    intro e he
    cases he with
    | fn _ _ _ _ _ c' d' g g' => rw [ih g, ih' g']
    | two _ _ _ _ _ _ _ _ hk' => omega
  | two neg k f0 f1 t0 t1 c d hk h h' ih ih' =>
    intro e he
    cases he with
    | inn _ _ _ _ c' hk' hc' h' => omega
    | out _ _ _ _ c' hk' hc' h' => omega
    | fn _ _ _ _ _ c' d' g g' => omega
    | two _ _ _ _ _ _ c' d' hk' g g' => rw [ih g, ih' g']
end Go.Proofs.YtopgmopdjiahmaaDoor.Lg
