/- For the rows: a call by what a function does; what an argument stands for. Conditions: none; plain lemmas. -/
import Derived.Test.YtopgmopdjiahmaaChecked
import Derived.Test.YtopgmopdjiahmaaOa
import Derived.ProofKit
set_option linter.unusedVariables false
set_option maxRecDepth 100000
namespace Go.Proofs.Ytopgmopdjiahmaa
open Go.ChangeShapes Go.WideShapes Go.ChangeAt Go.RowKit Go.Proofs.Ytopgmopdjiahmaa.Lg

theorem Try.own : ownKnob Try.prog.godebug = none := by kernel_rfl
theorem Try.laidOut : laidOutB Try.prog = true := by kernel_rfl

def cxOf (W : World) : Cx := { w := W, N := InW W, na := 0, m := fun _ => 0, hN := fun _ h => h, hm := fun i hi => absurd hi (Nat.not_lt_zero i) }
theorem inv0 (W : World) : Inv (cxOf W) ⟨[], argS 0 [], []⟩ (fun _ => Option.none) ⟨#[], []⟩ W := Inv.bare rfl rfl rfl rfl rfl (Nat.le_refl _) fun _ _ => rfl
/-- a call by what the function does, from a world as it stands -/
theorem calls_of_does {f : FuncId} {args : List LV} {o : Out} {vals : List Value} {W : World} (h : Does Try.prog f args [] o []) (hR : Rows2 (RR (cxOf W) (argS 0 []) [] (fun _ => Option.none) W) args vals) :
    Calls Try.prog f vals.toArray W fun e W' => Below W.heap.size W W' ∧ ∀ b, o = .ret true (.bool b) → e = .returned (.bool b) := by
  refine (h.2.2 (cxOf W) _ vals rfl (inv0 W) hR).mono fun e W' ⟨hI, he⟩ => ⟨⟨hI.os, hI.tape, hI.output, hI.size, fun k hk => hI.frame k hk fun i hi => absurd hi (Nat.not_lt_zero i)⟩, ?_⟩
  rintro b rfl
  obtain ⟨x, rfl, hx⟩ := he
  rw [hx.bool_inv]
theorem repN {W : World} {v : IV} {x : Value} (h : RepI W (InW W) v x) : RR (cxOf W) (argS 0 []) [] (fun _ => Option.none) W (.imm false v) x :=
  .imm _ _ (h.mono (fun b hb => ⟨.inl hb, hb, fun k c hk => by simp [argS, getB] at hk⟩) fun _ _ _ _ h => h)
theorem rep_ty {W : World} {H : Type} {enc : TypeId × Value → H} {base : Nat} {sp : Nat → Bool} {hd : Bool} {v : Value} {d : DataW H} {ps : List MemPlace} (h : DataW.Trod enc Try.prog W base sp hd 25 v d ps) :
    ∃ t : Ty, t.fits ∧ RepI W (InW W) (.agg t.cells) v := by
  obtain ⟨fuel, h⟩ := h
  obtain ⟨t, hf, u0, u1, hcs, o0, o1, r0, r1⟩ := open_ty fuel _ _ h
  refine ⟨t, hf, ?_⟩
  have hv : v = .agg #[u0, u1] := by
    cases v with
    | agg cs =>
      simp only [Value.cells] at hcs
      have : cs = #[u0, u1] := Array.toList_inj.1 (by simpa using hcs)
      rw [this]
    | _ => simp [Value.cells] at hcs
  subst hv
  rw [Ty.cells_eq]
  refine .agg _ [u0, u1] rfl (by simp [o0, o1]) fun j hj hj' => ?_
  match j, hj with
  | 0, _ => exact r0
  | 1, _ => exact r1

/-- an argument reads behind the call as it did -/
theorem kept {W W' : World} {H : Type} {enc : TypeId × Value → H} {t : TypeId} {v : Value} {d : DataW H} {ps : List MemPlace} (hr : Try.prog.readableRec t = true) (hrow : t < Try.prog.types.size) (h : DataW.Trod enc Try.prog W 0 (fun _ => true) true t v d ps)
    (bel : Below W.heap.size W W') (hlt : ∀ x ∈ ps, x.block < W.heap.size) : DataW.Trod enc Try.prog W' 0 (fun b => decide (b < W.heap.size)) true t v d ps :=
  Below.trod Try.laidOut hr hrow h bel hlt
theorem row25 : Try.prog.readableRec 25 = true := by kernel_rfl
theorem size25 : 25 < Try.prog.types.size := of_decide_eq_true (by kernel_rfl)
theorem int_in {lab : Int} (wl : (Lit.int .i64 lab).wf = true) : -9223372036854775808 ≤ lab ∧ lab ≤ 9223372036854775807 := by
  simp only [Lit.wf, Bool.and_eq_true, decide_eq_true_eq] at wl
  rw [show IntKind.i64.min = -9223372036854775808 from by kernel_rfl, show IntKind.i64.max = 9223372036854775807 from by kernel_rfl] at wl
  exact wl
end Go.Proofs.Ytopgmopdjiahmaa
