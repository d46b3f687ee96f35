/- CoerceKnown answers true. Conditions: none; plain lemmas. -/
import Derived.Test.YtopgmopdjiahmaaDoorZl
set_option linter.unusedVariables false
set_option linter.unusedSimpArgs false
set_option maxRecDepth 100000
set_option maxHeartbeats 8000000
namespace Go.Proofs.YtopgmopdjiahmaaDoor.Lg
open Go Go.RowKit Go.Proofs Go.Proofs.YtopgmopdjiahmaaDoor
theorem eight (c : Cn) : ∃ c0 c1 c2 c3 c4 c5 c6 c7 : IV, c.cells = [c0, c1, c2, c3, c4, c5, c6, c7] := by
  cases c; exact ⟨_, _, _, _, _, _, _, _, rfl⟩
theorem ren_fn (D : List Nat) (f : FuncId) : (renV D 6 (.fn f [])).getD LV.undef = .fn f [] := rfl
theorem keys_no (s : List (Key × Box)) : keysL (Lg.keys s 6) [] = [] := rfl
theorem res_no (s : List (Key × Box)) : resL (Lg.res s 6) [] = some (true, []) := rfl
theorem known_does : Does Tryd.prog 3 [] [] (.ret true (.bool true)) [] := by
  have o1 := of_c
  have o2 := of_d
  have o3 := of_g
  have o4 := of_k
  have o5 := of_l
  have t1 := text_c
  have t2 := text_d
  have s1 := size_g
  have s2 := height_g
  have f1 := fun_does tI .un
  have f2 := fun_does .un tB
  have f3 := fun_does .un tI
  obtain ⟨a0, a1, a2, a3, a4, a5, a6, a7, ha⟩ := eight kC
  obtain ⟨b0, b1, b2, b3, b4, b5, b6, b7, hb⟩ := eight kD
  obtain ⟨d0, d1, d2, d3, d4, d5, d6, d7, hd⟩ := eight kG
  rw [ha] at o1 t1
  rw [hb] at o2 t2
  rw [hd] at o3 s1 s2
  rw [zero_cells] at o4 o5
  simp only [tI, tB, Ty.un, Ty.cells, Ty.cellsL] at o1 o2 o3 o4 o5 f1 f2 f3
  unfold tC at t1
  unfold tD at t2
  clear ha hb hd
  refine does3 (by rfl) (by rfl) ?_
  (try simp (implicitDefEqProofs := false) only [go_sem, ↓reduceIte, Nat.reduceEqDiff, reduceCtorEq, Nat.reduceAdd, Nat.reduceSub, Nat.reduceLeDiff, Nat.reduceLT, Nat.reduceMul, Int.reduceToNat, Int.reduceLT, Int.reduceLE, ren_fn, keys_no, res_no])
  refine CallK_do o1 ?_
  (try simp (implicitDefEqProofs := false) only [go_sem, ↓reduceIte, Nat.reduceEqDiff, reduceCtorEq, Nat.reduceAdd, Nat.reduceSub, Nat.reduceLeDiff, Nat.reduceLT, Nat.reduceMul, Int.reduceToNat, Int.reduceLT, Int.reduceLE, ren_fn, keys_no, res_no])
  refine CallK_do f1 ?_
  (try simp (implicitDefEqProofs := false) only [go_sem, ↓reduceIte, Nat.reduceEqDiff, reduceCtorEq, Nat.reduceAdd, Nat.reduceSub, Nat.reduceLeDiff, Nat.reduceLT, Nat.reduceMul, Int.reduceToNat, Int.reduceLT, Int.reduceLE, ren_fn, keys_no, res_no])
  refine CallK_do f2 ?_
  (try simp (implicitDefEqProofs := false) only [go_sem, ↓reduceIte, Nat.reduceEqDiff, reduceCtorEq, Nat.reduceAdd, Nat.reduceSub, Nat.reduceLeDiff, Nat.reduceLT, Nat.reduceMul, Int.reduceToNat, Int.reduceLT, Int.reduceLE, ren_fn, keys_no, res_no])
  refine CallK_do o2 ?_
  (try simp (implicitDefEqProofs := false) only [go_sem, ↓reduceIte, Nat.reduceEqDiff, reduceCtorEq, Nat.reduceAdd, Nat.reduceSub, Nat.reduceLeDiff, Nat.reduceLT, Nat.reduceMul, Int.reduceToNat, Int.reduceLT, Int.reduceLE, ren_fn, keys_no, res_no])
  refine CallK_do f3 ?_
  (try simp (implicitDefEqProofs := false) only [go_sem, ↓reduceIte, Nat.reduceEqDiff, reduceCtorEq, Nat.reduceAdd, Nat.reduceSub, Nat.reduceLeDiff, Nat.reduceLT, Nat.reduceMul, Int.reduceToNat, Int.reduceLT, Int.reduceLE, ren_fn, keys_no, res_no])
  refine CallK_do o3 ?_
  (try simp (implicitDefEqProofs := false) only [go_sem, ↓reduceIte, Nat.reduceEqDiff, reduceCtorEq, Nat.reduceAdd, Nat.reduceSub, Nat.reduceLeDiff, Nat.reduceLT, Nat.reduceMul, Int.reduceToNat, Int.reduceLT, Int.reduceLE, ren_fn, keys_no, res_no])
  refine CallK_do o4 ?_
  (try simp (implicitDefEqProofs := false) only [go_sem, ↓reduceIte, Nat.reduceEqDiff, reduceCtorEq, Nat.reduceAdd, Nat.reduceSub, Nat.reduceLeDiff, Nat.reduceLT, Nat.reduceMul, Int.reduceToNat, Int.reduceLT, Int.reduceLE, ren_fn, keys_no, res_no])
  refine CallK_do o5 ?_
  (try simp (implicitDefEqProofs := false) only [go_sem, ↓reduceIte, Nat.reduceEqDiff, reduceCtorEq, Nat.reduceAdd, Nat.reduceSub, Nat.reduceLeDiff, Nat.reduceLT, Nat.reduceMul, Int.reduceToNat, Int.reduceLT, Int.reduceLE, ren_fn, keys_no, res_no])
  refine CallK_do t1 ?_
  (try simp (implicitDefEqProofs := false) only [go_sem, ↓reduceIte, Nat.reduceEqDiff, reduceCtorEq, Nat.reduceAdd, Nat.reduceSub, Nat.reduceLeDiff, Nat.reduceLT, Nat.reduceMul, Int.reduceToNat, Int.reduceLT, Int.reduceLE, ren_fn, keys_no, res_no, beq_self_eq_true])
  refine CallK_do t2 ?_
  (try simp (implicitDefEqProofs := false) only [go_sem, ↓reduceIte, Nat.reduceEqDiff, reduceCtorEq, Nat.reduceAdd, Nat.reduceSub, Nat.reduceLeDiff, Nat.reduceLT, Nat.reduceMul, Int.reduceToNat, Int.reduceLT, Int.reduceLE, ren_fn, keys_no, res_no, beq_self_eq_true])
  refine CallK_do s1 ?_
  (try simp (implicitDefEqProofs := false) only [go_sem, ↓reduceIte, Nat.reduceEqDiff, reduceCtorEq, Nat.reduceAdd, Nat.reduceSub, Nat.reduceLeDiff, Nat.reduceLT, Nat.reduceMul, Int.reduceToNat, Int.reduceLT, Int.reduceLE, ren_fn, keys_no, res_no, beq_self_eq_true])
  refine CallK_do s2 ?_
  (try simp (implicitDefEqProofs := false) only [go_sem, ↓reduceIte, Nat.reduceEqDiff, reduceCtorEq, Nat.reduceAdd, Nat.reduceSub, Nat.reduceLeDiff, Nat.reduceLT, Nat.reduceMul, Int.reduceToNat, Int.reduceLT, Int.reduceLE, ren_fn, keys_no, res_no, beq_self_eq_true])
end Go.Proofs.YtopgmopdjiahmaaDoor.Lg
