/- CoerceGoes: the walk of the law. Conditions: none; plain lemmas. -/
import Derived.Test.YtopgmopdjiahmaaNr
set_option linter.unusedVariables false
set_option linter.unusedSimpArgs false
set_option maxRecDepth 100000
set_option maxHeartbeats 1000000
namespace Go.Proofs.Ytopgmopdjiahmaa.Lg
open Go Go.RowKit Go.Proofs

theorem goes_does (a b : Ty) (ha : a.fits) (hb : b.fits) (lab : Int) (hl : -9223372036854775808 ≤ lab ∧ lab ≤ 9223372036854775807) :
    Does Try.prog 3 [.imm false (.agg a.cells), .imm false (.agg b.cells), .imm false (.int .i64 lab)] [] (.ret true (.bool true)) [] := by
  obtain ⟨c, e, hA, hd⟩ := coerceOf_does a b ha hb lab hl
  have w0 := whole0_does
  by_cases he : e ≠ 0
  · have hz := hA.zero he
    subst hz
    rw [zero_cells] at hd w0
    simp only [Ty.cells_eq] at hd ⊢
    refine does3 (by rfl) (by rfl) ?_
    (try simp (implicitDefEqProofs := false) (maxSteps := 2000000) only [go_sem, ↓reduceIte, Nat.reduceEqDiff, reduceCtorEq, Nat.reduceAdd, Nat.reduceSub, Nat.reduceLeDiff, Nat.reduceLT, Nat.reduceMul, Int.reduceToNat, Int.reduceLT, Int.reduceLE])
    refine CallK_do hd ?_
    (try simp (implicitDefEqProofs := false) (maxSteps := 2000000) only [go_sem, ↓reduceIte, Nat.reduceEqDiff, reduceCtorEq, Nat.reduceAdd, Nat.reduceSub, Nat.reduceLeDiff, Nat.reduceLT, Nat.reduceMul, Int.reduceToNat, Int.reduceLT, Int.reduceLE, show (e != 0) = true from by simpa using he])
    refine CallK_do w0 ?_
    (try simp (implicitDefEqProofs := false) (maxSteps := 2000000) only [go_sem, ↓reduceIte, Nat.reduceEqDiff, reduceCtorEq, Nat.reduceAdd, Nat.reduceSub, Nat.reduceLeDiff, Nat.reduceLT, Nat.reduceMul, Int.reduceToNat, Int.reduceLT, Int.reduceLE])
  have he : e = 0 := Decidable.not_not.1 he
  subst he
  obtain ⟨h1, h2, h3, h4, h5, h6⟩ := hA.good rfl
  have hin := of_decide_eq_true h4
  have hN : 0 ≤ labN lab ∧ labN lab ≤ 2147483648 := by unfold labN; split <;> omega
  have hcf := h5.fits hN
  have hends := h5.ends (labOk_N h4) h1 h2
  have hchk : c.chk = (a, b, 0) := by rw [(ok_iff h6).2.2.2.2.2, hends]
  have ck := cchk_does c hcf
  rw [hchk, chV] at ck
  have sa := same_does a a ha ha
  rw [Ty.same_refl h1] at sa
  have sb := same_does b b hb hb
  rw [Ty.same_refl h2] at sb
  have hh := cheight_does c hcf
  rw [Cn.heightF, if_pos h6] at hh
  have hla := lhigh_does a ha (by have := high_of_check h1; omega)
  have hlb := lhigh_does b hb (by have := high_of_check h2; omega)
  have hle := h5.height h1 h2
  have sc := csameF_does c c hcf hcf
  rw [show c.sameF c = true from by simp [Cn.sameF, h6, Cn.same_refl c (by rw [hends])]] at sc
  have hsd := sides_does c hcf (by rw [hends])
  have sd := csameF_does c.sides c.sides (Cn.sides_fits c hcf) (Cn.sides_fits c hcf)
  rw [show c.sides.sameF c.sides = true from by simp [Cn.sameF, Cn.sides_chk, h6, Cn.same_refl c.sides (by rw [Cn.sides_ends, hends])]] at sd
  obtain ⟨d, f, hA2, hd2⟩ := coerceOf_does a b ha hb (0 - lab) (by omega)
  obtain ⟨rfl, rfl⟩ := hA.neg rfl hA2
  obtain ⟨g, e3, hA3, hd3⟩ := coerceOf_does a a ha ha lab hl
  have hst : e3 = 0 → Does Try.prog 19 [.imm false (.agg g.cells)] [] (.ret true (.bool true)) [] := fun h => by
    have h7 := hA3.good h
    have := straight_does g (h7.2.2.2.2.1.fits hN)
    rw [h7.2.2.2.2.1.straight rfl] at this
    exact this
  generalize c.sides = c2 at hd2 hsd sd
  generalize c.height = ht at hh hle
  clear hA hA2 hA3 h5 h6 hends hchk hcf
  obtain ⟨k, ty, to, lab1, neg, ks⟩ := c
  obtain ⟨k2, ty2, to2, lab2, neg2, ks2⟩ := c2
  obtain ⟨k3, ty3, to3, lab3, neg3, ks3⟩ := g
  simp only [Ty.cells_eq, Cn.cells] at *
  refine does3 (by rfl) (by rfl) ?_
  (try simp (implicitDefEqProofs := false) (maxSteps := 2000000) only [go_sem, ↓reduceIte, Nat.reduceEqDiff, reduceCtorEq, Nat.reduceAdd, Nat.reduceSub, Nat.reduceLeDiff, Nat.reduceLT, Nat.reduceMul, Int.reduceToNat, Int.reduceLT, Int.reduceLE])
  refine CallK_do hd ?_
  (try simp (implicitDefEqProofs := false) (maxSteps := 2000000) only [go_sem, ↓reduceIte, Nat.reduceEqDiff, reduceCtorEq, Nat.reduceAdd, Nat.reduceSub, Nat.reduceLeDiff, Nat.reduceLT, Nat.reduceMul, Int.reduceToNat, Int.reduceLT, Int.reduceLE, show ((0 : Int) != 0) = false from rfl])
  refine CallK_do ck ?_
  (try simp (implicitDefEqProofs := false) (maxSteps := 2000000) only [go_sem, ↓reduceIte, Nat.reduceEqDiff, reduceCtorEq, Nat.reduceAdd, Nat.reduceSub, Nat.reduceLeDiff, Nat.reduceLT, Nat.reduceMul, Int.reduceToNat, Int.reduceLT, Int.reduceLE, show ((0 : Int) != 0) = false from rfl])
  refine CallK_do sa ?_
  (try simp (implicitDefEqProofs := false) (maxSteps := 2000000) only [go_sem, ↓reduceIte, Nat.reduceEqDiff, reduceCtorEq, Nat.reduceAdd, Nat.reduceSub, Nat.reduceLeDiff, Nat.reduceLT, Nat.reduceMul, Int.reduceToNat, Int.reduceLT, Int.reduceLE])
  refine CallK_do sb ?_
  (try simp (implicitDefEqProofs := false) (maxSteps := 2000000) only [go_sem, ↓reduceIte, Nat.reduceEqDiff, reduceCtorEq, Nat.reduceAdd, Nat.reduceSub, Nat.reduceLeDiff, Nat.reduceLT, Nat.reduceMul, Int.reduceToNat, Int.reduceLT, Int.reduceLE])
  refine CallK_do hh ?_
  (try simp (implicitDefEqProofs := false) (maxSteps := 2000000) only [go_sem, ↓reduceIte, Nat.reduceEqDiff, reduceCtorEq, Nat.reduceAdd, Nat.reduceSub, Nat.reduceLeDiff, Nat.reduceLT, Nat.reduceMul, Int.reduceToNat, Int.reduceLT, Int.reduceLE])
  refine CallK_do hla ?_
  (try simp (implicitDefEqProofs := false) (maxSteps := 2000000) only [go_sem, ↓reduceIte, Nat.reduceEqDiff, reduceCtorEq, Nat.reduceAdd, Nat.reduceSub, Nat.reduceLeDiff, Nat.reduceLT, Nat.reduceMul, Int.reduceToNat, Int.reduceLT, Int.reduceLE])
  refine CallK_do hlb ?_
  have hgt : decide (ht > (if b.high > a.high then b.high else a.high)) = false := decide_eq_false (by unfold maxI at hle; omega)
  (try simp (implicitDefEqProofs := false) (maxSteps := 2000000) only [go_sem, ↓reduceIte, Nat.reduceEqDiff, reduceCtorEq, Nat.reduceAdd, Nat.reduceSub, Nat.reduceLeDiff, Nat.reduceLT, Nat.reduceMul, Int.reduceToNat, Int.reduceLT, Int.reduceLE, hgt])
  refine CallK_do sc ?_
  (try simp (implicitDefEqProofs := false) (maxSteps := 2000000) only [go_sem, ↓reduceIte, Nat.reduceEqDiff, reduceCtorEq, Nat.reduceAdd, Nat.reduceSub, Nat.reduceLeDiff, Nat.reduceLT, Nat.reduceMul, Int.reduceToNat, Int.reduceLT, Int.reduceLE, wrap64 (n := 0 - lab) (by omega) (by omega)])
  refine CallK_do hd2 ?_
  (try simp (implicitDefEqProofs := false) (maxSteps := 2000000) only [go_sem, ↓reduceIte, Nat.reduceEqDiff, reduceCtorEq, Nat.reduceAdd, Nat.reduceSub, Nat.reduceLeDiff, Nat.reduceLT, Nat.reduceMul, Int.reduceToNat, Int.reduceLT, Int.reduceLE, show ((0 : Int) != 0) = false from rfl])
  refine CallK_do hsd ?_
  (try simp (implicitDefEqProofs := false) (maxSteps := 2000000) only [go_sem, ↓reduceIte, Nat.reduceEqDiff, reduceCtorEq, Nat.reduceAdd, Nat.reduceSub, Nat.reduceLeDiff, Nat.reduceLT, Nat.reduceMul, Int.reduceToNat, Int.reduceLT, Int.reduceLE])
  refine CallK_do sd ?_
  (try simp (implicitDefEqProofs := false) (maxSteps := 2000000) only [go_sem, ↓reduceIte, Nat.reduceEqDiff, reduceCtorEq, Nat.reduceAdd, Nat.reduceSub, Nat.reduceLeDiff, Nat.reduceLT, Nat.reduceMul, Int.reduceToNat, Int.reduceLT, Int.reduceLE])
  refine CallK_do hd3 ?_
  by_cases hz : e3 = 0
  · (try simp (implicitDefEqProofs := false) (maxSteps := 2000000) only [go_sem, ↓reduceIte, Nat.reduceEqDiff, reduceCtorEq, Nat.reduceAdd, Nat.reduceSub, Nat.reduceLeDiff, Nat.reduceLT, Nat.reduceMul, Int.reduceToNat, Int.reduceLT, Int.reduceLE, show (e3 != 0) = false from by simpa using hz])
    refine CallK_do (hst hz) ?_
    (try simp (implicitDefEqProofs := false) (maxSteps := 2000000) only [go_sem, ↓reduceIte, Nat.reduceEqDiff, reduceCtorEq, Nat.reduceAdd, Nat.reduceSub, Nat.reduceLeDiff, Nat.reduceLT, Nat.reduceMul, Int.reduceToNat, Int.reduceLT, Int.reduceLE])
  · (try simp (implicitDefEqProofs := false) (maxSteps := 2000000) only [go_sem, ↓reduceIte, Nat.reduceEqDiff, reduceCtorEq, Nat.reduceAdd, Nat.reduceSub, Nat.reduceLeDiff, Nat.reduceLT, Nat.reduceMul, Int.reduceToNat, Int.reduceLT, Int.reduceLE, show (e3 != 0) = true from by simpa using hz])
end Go.Proofs.Ytopgmopdjiahmaa.Lg
