/- NormLabels: for every two types and every label the law returns true, and each argument reads behind the call as it read before. Conditions: none. -/
import Derived.Test.YtopgmopdjiahmaaRows
import Derived.Test.YtopgmopdjiahmaaG28
import Derived.Test.YtopgmopdjiahmaaG14
import Derived.ProofKit
set_option linter.unusedVariables false
set_option maxRecDepth 100000
namespace Go.Proofs.Ytopgmopdjiahmaa
open Go.ChangeShapes Go.WideShapes Go.ChangeAt Go.RowKit Go.Proofs.Ytopgmopdjiahmaa.Lg

theorem normLabels_lifted (os : Os) (started : os.Started) (H : Type) (enc : TypeId × Value → H) :
    ReturnsInHanded {} Try.checked os 9 .any (Rows.normLabelsSpec.pre6 enc Try.prog Try.f9 Rows.normLabelsRow.domain false) (Rows.normLabelsSpec.post enc Try.prog Try.f9 false true false false) := by
  refine returnsInHanded_of_change (C := Try.checked) Try.own started (by kernel_rfl) Try.func9
    (ChangeSpec.witness6 (enc := enc) (C := Try.checked) false ⟨#[], #[.agg #[.int .i8 0, .slice none 0 0], .agg #[.int .i8 0, .slice none 0 0], .int .i64 0], []⟩ 8 (by kernel_rfl) (by kernel_rfl) (by kernel_rfl) (by kernel_rfl)) ?_
  intro W base args ds gs before hval0 hW hcnd _
  have hval : ∀ (j : Nat) t v, Try.f9.params[j]? = some t → args[j]? = some v → Value.okWide Try.prog W .any base t v := hval0
  have hW' := hW
  obtain ⟨p, q, hA0, hV, rfl, hfz, hnd⟩ := hW
  have hA : DataW.TrodAll enc Try.prog W 0 (fun _ => true) true Try.f9.params.toList args.toList ds p := hA0
  rw [Try.params9] at hA hval
  obtain ⟨v0, v1, v2, d0, d1, d2, p0, p1, p2, rfl, rfl, rfl, h0, h1, h2⟩ := trodAll_three hA
  obtain ⟨rfl, rfl⟩ := trodVars_none hV
  obtain ⟨a0, f0, r0⟩ := rep_ty h0
  obtain ⟨a1, f1, r1⟩ := rep_ty h1
  obtain ⟨a2, rfl, rfl, rfl, w2⟩ := open_int Try.underlying3 (hval 2 3 v2 rfl rfl) h2
  clear hA0 hval0
  simp only [List.append_nil] at hW'
  have hlt : ∀ x ∈ p0 ++ p1, x.block < W.heap.size := fun x hx => by simpa using hW'.lt x (by simpa using hx)
  refine (calls_of_does (vals := [v0, v1, .int .i64 a2]) (labels_does a0 a1 a2 f0 f1 (int_in w2)) (.cons (repN r0) (.cons (repN r1) (.cons (repN (.int _ _)) .nil)))).mono fun e W' ⟨bel, he⟩ => ?_
  have he := he true rfl
  subst he
  refine ⟨_, rfl, ?_⟩
  refine ⟨_, _, _, [], p0 ++ (p1 ++ ([])), [], hW', trodAll_mk1 (shut_bool Try.underlying4 true), trodAll_mk3 (kept row25 size25 h0 bel fun x hx => hlt x (by simp [hx])) (kept row25 size25 h1 bel fun x hx => hlt x (by simp [hx])) (shut_int Try.underlying3 w2), rfl, bel.frame _, fun h => nomatch h⟩

theorem normLabels_holds : Rows.NormLabelsSaid :=
  OpenClaim.holds_of_wide 9 Try.f9 rfl rfl rfl rfl rfl rfl rfl ⟨rfl, rfl, rfl, rfl, rfl⟩ rfl rfl rfl rfl rfl (by kernel_rfl) Try.func9 (by kernel_rfl)
    (of_decide_eq_true (by kernel_rfl)) (by unfold Func.isWrapper; first | (rw [if_pos (by decide +kernel)]; kernel_rfl) | (rw [if_neg (by decide +kernel)]; exact ⟨rfl, rfl⟩))
    (fun os started H enc _ => normLabels_lifted os started H enc)
#print axioms normLabels_holds
end Go.Proofs.Ytopgmopdjiahmaa
