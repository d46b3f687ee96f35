/- Texts of one proof, joined by program (gen/tells.py): Ya Ml Yd Ye. Conditions: none; plain definitions and lemmas. -/
import Derived.Test.YtopgmopdjiahmaaH17
import Derived.Test.YtopgmopdjiahmaaH4
import Derived.Test.YtopgmopdjiahmaaProg
import Derived.Test.YtopgmopdjiahmaaH6
import Derived.Test.YtopgmopdjiahmaaH13
/- The reference's Is. Conditions: none; plain lemmas. -/
set_option linter.unusedVariables false
set_option linter.unusedSimpArgs false
set_option maxRecDepth 100000
set_option maxHeartbeats 2000000
namespace Go.Proofs.Ytopgmopdjiahmaa.Lg
open Go Go.RowKit Go.Proofs

def RMidD (c : Cn) : Prop := Does Try.prog 123 [.imm false (.agg c.cells)] [] (.ret true (.bool c.lv.1)) []
def RInnD (c : Cn) : Prop := Does Try.prog 94 [.imm false (.agg c.cells)] [] (.ret true (.bool c.lv.2.1)) []
def RWhlD (c : Cn) : Prop := Does Try.prog 60 [.imm false (.agg c.cells)] [] (.ret true (.bool c.lv.2.2)) []
theorem rmid_leaf {k : Int} {ty to : Ty} {lab : Int} {neg : Bool} (hk : k = 0 ∨ k = 1 ∨ k = 2 ∨ k = 3) : RMidD (.mk k ty to lab neg []) := by
  unfold RMidD
  refine does123 (by rfl) (by rfl) ?_
  rcases hk with rfl | rfl | rfl | rfl
  · (try simp (implicitDefEqProofs := false) only [go_sem, ↓reduceIte, Nat.reduceEqDiff, reduceCtorEq, Nat.reduceAdd, Nat.reduceSub, Nat.reduceLeDiff, Nat.reduceLT, Nat.reduceMul, Int.reduceToNat, Int.reduceLT, Int.reduceLE, Cn.cells, show ((0 : Int) == 0) = true from rfl])
    by_cases h1 : ty.k = 1
    · (try simp (implicitDefEqProofs := false) only [go_sem, ↓reduceIte, Nat.reduceEqDiff, reduceCtorEq, Nat.reduceAdd, Nat.reduceSub, Nat.reduceLeDiff, Nat.reduceLT, Nat.reduceMul, Int.reduceToNat, Int.reduceLT, Int.reduceLE, h1, show ((1 : Int) == 1) = true from rfl])
      simp [Cn.lv, lvM, h1]
    · (try simp (implicitDefEqProofs := false) only [go_sem, ↓reduceIte, Nat.reduceEqDiff, reduceCtorEq, Nat.reduceAdd, Nat.reduceSub, Nat.reduceLeDiff, Nat.reduceLT, Nat.reduceMul, Int.reduceToNat, Int.reduceLT, Int.reduceLE, show (ty.k == 1) = false from by simpa using h1])
      simp [Cn.lv, lvM, h1]
  · (try simp (implicitDefEqProofs := false) only [go_sem, ↓reduceIte, Nat.reduceEqDiff, reduceCtorEq, Nat.reduceAdd, Nat.reduceSub, Nat.reduceLeDiff, Nat.reduceLT, Nat.reduceMul, Int.reduceToNat, Int.reduceLT, Int.reduceLE, Cn.cells, show ((1 : Int) == 0) = false from rfl, show ((1 : Int) == 4) = false from rfl, show ((1 : Int) == 5) = false from rfl, show ((1 : Int) == 6) = false from rfl])
    simp [Cn.lv, lvM]
  · (try simp (implicitDefEqProofs := false) only [go_sem, ↓reduceIte, Nat.reduceEqDiff, reduceCtorEq, Nat.reduceAdd, Nat.reduceSub, Nat.reduceLeDiff, Nat.reduceLT, Nat.reduceMul, Int.reduceToNat, Int.reduceLT, Int.reduceLE, Cn.cells, show ((2 : Int) == 0) = false from rfl, show ((2 : Int) == 4) = false from rfl, show ((2 : Int) == 5) = false from rfl, show ((2 : Int) == 6) = false from rfl])
    simp [Cn.lv, lvM]
  · (try simp (implicitDefEqProofs := false) only [go_sem, ↓reduceIte, Nat.reduceEqDiff, reduceCtorEq, Nat.reduceAdd, Nat.reduceSub, Nat.reduceLeDiff, Nat.reduceLT, Nat.reduceMul, Int.reduceToNat, Int.reduceLT, Int.reduceLE, Cn.cells, show ((3 : Int) == 0) = false from rfl, show ((3 : Int) == 4) = false from rfl, show ((3 : Int) == 5) = false from rfl, show ((3 : Int) == 6) = false from rfl])
    simp [Cn.lv, lvM]
theorem rmid_node {k : Int} {ty to : Ty} {lab : Int} {neg : Bool} {a b : Cn} (hk : k = 4 ∨ k = 5 ∨ k = 6 ∨ k = 7) (ha : RWhlD a) (hb : RWhlD b) : RMidD (.mk k ty to lab neg [a, b]) := by
  unfold RWhlD at ha hb
  unfold RMidD
  have e0 : (Cn.mk k ty to lab neg [a, b]).lv.1 = if k = 7 then false else (a.lv.2.2 && b.lv.2.2) := by
    rcases hk with rfl | rfl | rfl | rfl <;> simp [Cn.lv, Cn.lvL, lvM]
  rw [e0]
  generalize a.lv.2.2 = la at ha
  generalize b.lv.2.2 = lb at hb
  obtain ⟨k1, ty1, to1, lab1, neg1, ks1⟩ := a
  obtain ⟨k2, ty2, to2, lab2, neg2, ks2⟩ := b
  simp only [Cn.cells] at ha hb
  refine does123 (by rfl) (by rfl) ?_
  rcases hk with rfl | rfl | rfl | rfl
  · (try simp (implicitDefEqProofs := false) only [go_sem, ↓reduceIte, Nat.reduceEqDiff, reduceCtorEq, Nat.reduceAdd, Nat.reduceSub, Nat.reduceLeDiff, Nat.reduceLT, Nat.reduceMul, Int.reduceToNat, Int.reduceLT, Int.reduceLE, Cn.cells, Cn.cellsL, show ((4 : Int) == 0) = false from rfl, show ((4 : Int) == 4) = true from rfl, show ¬ ((4 : Int) = 7) from by omega])
    refine CallK_do ha ?_
    cases la with
    | false => (try simp (implicitDefEqProofs := false) only [go_sem, ↓reduceIte, Nat.reduceEqDiff, reduceCtorEq, Nat.reduceAdd, Nat.reduceSub, Nat.reduceLeDiff, Nat.reduceLT, Nat.reduceMul, Int.reduceToNat, Int.reduceLT, Int.reduceLE, Bool.false_and])
    | true =>
      (try simp (implicitDefEqProofs := false) only [go_sem, ↓reduceIte, Nat.reduceEqDiff, reduceCtorEq, Nat.reduceAdd, Nat.reduceSub, Nat.reduceLeDiff, Nat.reduceLT, Nat.reduceMul, Int.reduceToNat, Int.reduceLT, Int.reduceLE])
      refine CallK_do hb ?_
      (try simp (implicitDefEqProofs := false) only [go_sem, ↓reduceIte, Nat.reduceEqDiff, reduceCtorEq, Nat.reduceAdd, Nat.reduceSub, Nat.reduceLeDiff, Nat.reduceLT, Nat.reduceMul, Int.reduceToNat, Int.reduceLT, Int.reduceLE, Bool.true_and])
  · (try simp (implicitDefEqProofs := false) only [go_sem, ↓reduceIte, Nat.reduceEqDiff, reduceCtorEq, Nat.reduceAdd, Nat.reduceSub, Nat.reduceLeDiff, Nat.reduceLT, Nat.reduceMul, Int.reduceToNat, Int.reduceLT, Int.reduceLE, Cn.cells, Cn.cellsL, show ((5 : Int) == 0) = false from rfl, show ((5 : Int) == 4) = false from rfl, show ((5 : Int) == 5) = true from rfl, show ¬ ((5 : Int) = 7) from by omega])
    refine CallK_do ha ?_
    cases la with
    | false => (try simp (implicitDefEqProofs := false) only [go_sem, ↓reduceIte, Nat.reduceEqDiff, reduceCtorEq, Nat.reduceAdd, Nat.reduceSub, Nat.reduceLeDiff, Nat.reduceLT, Nat.reduceMul, Int.reduceToNat, Int.reduceLT, Int.reduceLE, Bool.false_and])
    | true =>
      (try simp (implicitDefEqProofs := false) only [go_sem, ↓reduceIte, Nat.reduceEqDiff, reduceCtorEq, Nat.reduceAdd, Nat.reduceSub, Nat.reduceLeDiff, Nat.reduceLT, Nat.reduceMul, Int.reduceToNat, Int.reduceLT, Int.reduceLE])
      refine CallK_do hb ?_
      (try simp (implicitDefEqProofs := false) only [go_sem, ↓reduceIte, Nat.reduceEqDiff, reduceCtorEq, Nat.reduceAdd, Nat.reduceSub, Nat.reduceLeDiff, Nat.reduceLT, Nat.reduceMul, Int.reduceToNat, Int.reduceLT, Int.reduceLE, Bool.true_and])
  · (try simp (implicitDefEqProofs := false) only [go_sem, ↓reduceIte, Nat.reduceEqDiff, reduceCtorEq, Nat.reduceAdd, Nat.reduceSub, Nat.reduceLeDiff, Nat.reduceLT, Nat.reduceMul, Int.reduceToNat, Int.reduceLT, Int.reduceLE, Cn.cells, Cn.cellsL, show ((6 : Int) == 0) = false from rfl, show ((6 : Int) == 4) = false from rfl, show ((6 : Int) == 5) = false from rfl, show ((6 : Int) == 6) = true from rfl, show ¬ ((6 : Int) = 7) from by omega])
    refine CallK_do ha ?_
    cases la with
    | false => (try simp (implicitDefEqProofs := false) only [go_sem, ↓reduceIte, Nat.reduceEqDiff, reduceCtorEq, Nat.reduceAdd, Nat.reduceSub, Nat.reduceLeDiff, Nat.reduceLT, Nat.reduceMul, Int.reduceToNat, Int.reduceLT, Int.reduceLE, Bool.false_and])
    | true =>
      (try simp (implicitDefEqProofs := false) only [go_sem, ↓reduceIte, Nat.reduceEqDiff, reduceCtorEq, Nat.reduceAdd, Nat.reduceSub, Nat.reduceLeDiff, Nat.reduceLT, Nat.reduceMul, Int.reduceToNat, Int.reduceLT, Int.reduceLE])
      refine CallK_do hb ?_
      (try simp (implicitDefEqProofs := false) only [go_sem, ↓reduceIte, Nat.reduceEqDiff, reduceCtorEq, Nat.reduceAdd, Nat.reduceSub, Nat.reduceLeDiff, Nat.reduceLT, Nat.reduceMul, Int.reduceToNat, Int.reduceLT, Int.reduceLE, Bool.true_and])
  · (try simp (implicitDefEqProofs := false) only [go_sem, ↓reduceIte, Nat.reduceEqDiff, reduceCtorEq, Nat.reduceAdd, Nat.reduceSub, Nat.reduceLeDiff, Nat.reduceLT, Nat.reduceMul, Int.reduceToNat, Int.reduceLT, Int.reduceLE, Cn.cells, Cn.cellsL, show ((7 : Int) == 0) = false from rfl, show ((7 : Int) == 4) = false from rfl, show ((7 : Int) == 5) = false from rfl, show ((7 : Int) == 6) = false from rfl])
theorem rinn_leaf {k : Int} {ty to : Ty} {lab : Int} {neg : Bool} (hk : k = 0 ∨ k = 1 ∨ k = 2 ∨ k = 3) : RInnD (.mk k ty to lab neg []) := by
  have hm := rmid_leaf (ty := ty) (to := to) (lab := lab) (neg := neg) hk
  have e0 : (Cn.mk k ty to lab neg []).lv.2.1 = if k = 1 then true else (Cn.mk k ty to lab neg []).lv.1 := by
    rcases hk with rfl | rfl | rfl | rfl <;> simp [Cn.lv, Cn.lvL, lvI]
  unfold RInnD
  rw [e0]
  unfold RMidD at hm
  generalize (Cn.mk k ty to lab neg []).lv.1 = m at hm
  simp only [Cn.cells] at hm
  refine does94 (by rfl) (by rfl) ?_
  rcases hk with rfl | rfl | rfl | rfl
  · (try simp (implicitDefEqProofs := false) only [go_sem, ↓reduceIte, Nat.reduceEqDiff, reduceCtorEq, Nat.reduceAdd, Nat.reduceSub, Nat.reduceLeDiff, Nat.reduceLT, Nat.reduceMul, Int.reduceToNat, Int.reduceLT, Int.reduceLE, Cn.cells, show ((0 : Int) == 1) = false from rfl, show ((0 : Int) == 7) = false from rfl, show ¬ ((0 : Int) = 1) from by omega])
    refine CallK_do hm ?_
    (try simp (implicitDefEqProofs := false) only [go_sem, ↓reduceIte, Nat.reduceEqDiff, reduceCtorEq, Nat.reduceAdd, Nat.reduceSub, Nat.reduceLeDiff, Nat.reduceLT, Nat.reduceMul, Int.reduceToNat, Int.reduceLT, Int.reduceLE])
  · (try simp (implicitDefEqProofs := false) only [go_sem, ↓reduceIte, Nat.reduceEqDiff, reduceCtorEq, Nat.reduceAdd, Nat.reduceSub, Nat.reduceLeDiff, Nat.reduceLT, Nat.reduceMul, Int.reduceToNat, Int.reduceLT, Int.reduceLE, Cn.cells, show ((1 : Int) == 1) = true from rfl])
  · (try simp (implicitDefEqProofs := false) only [go_sem, ↓reduceIte, Nat.reduceEqDiff, reduceCtorEq, Nat.reduceAdd, Nat.reduceSub, Nat.reduceLeDiff, Nat.reduceLT, Nat.reduceMul, Int.reduceToNat, Int.reduceLT, Int.reduceLE, Cn.cells, show ((2 : Int) == 1) = false from rfl, show ((2 : Int) == 7) = false from rfl, show ¬ ((2 : Int) = 1) from by omega])
    refine CallK_do hm ?_
    (try simp (implicitDefEqProofs := false) only [go_sem, ↓reduceIte, Nat.reduceEqDiff, reduceCtorEq, Nat.reduceAdd, Nat.reduceSub, Nat.reduceLeDiff, Nat.reduceLT, Nat.reduceMul, Int.reduceToNat, Int.reduceLT, Int.reduceLE])
  · (try simp (implicitDefEqProofs := false) only [go_sem, ↓reduceIte, Nat.reduceEqDiff, reduceCtorEq, Nat.reduceAdd, Nat.reduceSub, Nat.reduceLeDiff, Nat.reduceLT, Nat.reduceMul, Int.reduceToNat, Int.reduceLT, Int.reduceLE, Cn.cells, show ((3 : Int) == 1) = false from rfl, show ((3 : Int) == 7) = false from rfl, show ¬ ((3 : Int) = 1) from by omega])
    refine CallK_do hm ?_
    (try simp (implicitDefEqProofs := false) only [go_sem, ↓reduceIte, Nat.reduceEqDiff, reduceCtorEq, Nat.reduceAdd, Nat.reduceSub, Nat.reduceLeDiff, Nat.reduceLT, Nat.reduceMul, Int.reduceToNat, Int.reduceLT, Int.reduceLE])
theorem rinn_node {k : Int} {ty to : Ty} {lab : Int} {neg : Bool} {a b : Cn} (hk : k = 4 ∨ k = 5 ∨ k = 6 ∨ k = 7) (hm : RMidD (.mk k ty to lab neg [a, b])) (ha : RMidD a) : RInnD (.mk k ty to lab neg [a, b]) := by
  have e0 : (Cn.mk k ty to lab neg [a, b]).lv.2.1 = if k = 7 then (b.kd == 2 && a.lv.1) else (Cn.mk k ty to lab neg [a, b]).lv.1 := by
    rcases hk with rfl | rfl | rfl | rfl <;> simp [Cn.lv, Cn.lvL, lvI]
  unfold RInnD
  rw [e0]
  unfold RMidD at hm ha
  generalize (Cn.mk k ty to lab neg [a, b]).lv.1 = m at hm
  generalize a.lv.1 = m2 at ha
  obtain ⟨k2, ty2, to2, lab2, neg2, ks2⟩ := b
  obtain ⟨k1, ty1, to1, lab1, neg1, ks1⟩ := a
  simp only [Cn.cells, Cn.cellsL] at hm ha
  refine does94 (by rfl) (by rfl) ?_
  by_cases h7 : k = 7
  · subst h7
    by_cases h2 : k2 = 2
    · subst h2
      (try simp (implicitDefEqProofs := false) only [go_sem, ↓reduceIte, Nat.reduceEqDiff, reduceCtorEq, Nat.reduceAdd, Nat.reduceSub, Nat.reduceLeDiff, Nat.reduceLT, Nat.reduceMul, Int.reduceToNat, Int.reduceLT, Int.reduceLE, Cn.cells, Cn.cellsL, show ((7 : Int) == 1) = false from rfl, show ((7 : Int) == 7) = true from rfl, show ((2 : Int) == 2) = true from rfl])
      refine CallK_do ha ?_
      (try simp (implicitDefEqProofs := false) only [go_sem, ↓reduceIte, Nat.reduceEqDiff, reduceCtorEq, Nat.reduceAdd, Nat.reduceSub, Nat.reduceLeDiff, Nat.reduceLT, Nat.reduceMul, Int.reduceToNat, Int.reduceLT, Int.reduceLE, Cn.kd_mk, show ((2 : Int) == 2) = true from rfl])
    · (try simp (implicitDefEqProofs := false) only [go_sem, ↓reduceIte, Nat.reduceEqDiff, reduceCtorEq, Nat.reduceAdd, Nat.reduceSub, Nat.reduceLeDiff, Nat.reduceLT, Nat.reduceMul, Int.reduceToNat, Int.reduceLT, Int.reduceLE, Cn.cells, Cn.cellsL, show ((7 : Int) == 1) = false from rfl, show ((7 : Int) == 7) = true from rfl, show (k2 == 2) = false from by simpa using h2, Cn.kd_mk])
  · (try simp (implicitDefEqProofs := false) only [go_sem, ↓reduceIte, Nat.reduceEqDiff, reduceCtorEq, Nat.reduceAdd, Nat.reduceSub, Nat.reduceLeDiff, Nat.reduceLT, Nat.reduceMul, Int.reduceToNat, Int.reduceLT, Int.reduceLE, Cn.cells, Cn.cellsL, show (k == 1) = false from by simp; omega, show (k == 7) = false from by simpa using h7, h7])
    refine CallK_do hm ?_
    (try simp (implicitDefEqProofs := false) only [go_sem, ↓reduceIte, Nat.reduceEqDiff, reduceCtorEq, Nat.reduceAdd, Nat.reduceSub, Nat.reduceLeDiff, Nat.reduceLT, Nat.reduceMul, Int.reduceToNat, Int.reduceLT, Int.reduceLE])
theorem rwhl_leaf {k : Int} {ty to : Ty} {lab : Int} {neg : Bool} (hk : k = 0 ∨ k = 1 ∨ k = 2 ∨ k = 3) : RWhlD (.mk k ty to lab neg []) := by
  have hm := rinn_leaf (ty := ty) (to := to) (lab := lab) (neg := neg) hk
  have e0 : (Cn.mk k ty to lab neg []).lv.2.2 = if k = 0 ∧ ty.k = 0 then true else (Cn.mk k ty to lab neg []).lv.2.1 := by
    rcases hk with rfl | rfl | rfl | rfl <;> simp [Cn.lv, Cn.lvL, lvW]
  unfold RWhlD
  rw [e0]
  unfold RInnD at hm
  generalize (Cn.mk k ty to lab neg []).lv.2.1 = m at hm
  simp only [Cn.cells] at hm
  refine does60 (by rfl) (by rfl) ?_
  by_cases h0 : k = 0
  · subst h0
    by_cases hz : ty.k = 0
    · (try simp (implicitDefEqProofs := false) only [go_sem, ↓reduceIte, Nat.reduceEqDiff, reduceCtorEq, Nat.reduceAdd, Nat.reduceSub, Nat.reduceLeDiff, Nat.reduceLT, Nat.reduceMul, Int.reduceToNat, Int.reduceLT, Int.reduceLE, Cn.cells, show ((0 : Int) == 0) = true from rfl, hz])
    · (try simp (implicitDefEqProofs := false) only [go_sem, ↓reduceIte, Nat.reduceEqDiff, reduceCtorEq, Nat.reduceAdd, Nat.reduceSub, Nat.reduceLeDiff, Nat.reduceLT, Nat.reduceMul, Int.reduceToNat, Int.reduceLT, Int.reduceLE, Cn.cells, show ((0 : Int) == 0) = true from rfl, show (ty.k == 0) = false from by simpa using hz, show ((0 : Int) == 7) = false from rfl, hz])
      refine CallK_do hm ?_
      (try simp (implicitDefEqProofs := false) only [go_sem, ↓reduceIte, Nat.reduceEqDiff, reduceCtorEq, Nat.reduceAdd, Nat.reduceSub, Nat.reduceLeDiff, Nat.reduceLT, Nat.reduceMul, Int.reduceToNat, Int.reduceLT, Int.reduceLE])
  · (try simp (implicitDefEqProofs := false) only [go_sem, ↓reduceIte, Nat.reduceEqDiff, reduceCtorEq, Nat.reduceAdd, Nat.reduceSub, Nat.reduceLeDiff, Nat.reduceLT, Nat.reduceMul, Int.reduceToNat, Int.reduceLT, Int.reduceLE, Cn.cells, show (k == 0) = false from by simpa using h0, show (k == 7) = false from by simp; omega, h0])
    refine CallK_do hm ?_
    (try simp (implicitDefEqProofs := false) only [go_sem, ↓reduceIte, Nat.reduceEqDiff, reduceCtorEq, Nat.reduceAdd, Nat.reduceSub, Nat.reduceLeDiff, Nat.reduceLT, Nat.reduceMul, Int.reduceToNat, Int.reduceLT, Int.reduceLE])
theorem rwhl_node {k : Int} {ty to : Ty} {lab : Int} {neg : Bool} {a b : Cn} (hk : k = 4 ∨ k = 5 ∨ k = 6 ∨ k = 7) (hm : RInnD (.mk k ty to lab neg [a, b])) (hb : RInnD b) : RWhlD (.mk k ty to lab neg [a, b]) := by
  have e0 : (Cn.mk k ty to lab neg [a, b]).lv.2.2 = if k = 7 ∧ a.kd = 3 then b.lv.2.1 else (Cn.mk k ty to lab neg [a, b]).lv.2.1 := by
    rcases hk with rfl | rfl | rfl | rfl <;> simp [Cn.lv, Cn.lvL, lvW]
  unfold RWhlD
  rw [e0]
  unfold RInnD at hm hb
  generalize (Cn.mk k ty to lab neg [a, b]).lv.2.1 = m at hm
  generalize b.lv.2.1 = m2 at hb
  obtain ⟨k2, ty2, to2, lab2, neg2, ks2⟩ := a
  obtain ⟨k1, ty1, to1, lab1, neg1, ks1⟩ := b
  simp only [Cn.cells, Cn.cellsL] at hm hb
  refine does60 (by rfl) (by rfl) ?_
  by_cases h7 : k = 7
  · subst h7
    by_cases h2 : k2 = 3
    · subst h2
      (try simp (implicitDefEqProofs := false) only [go_sem, ↓reduceIte, Nat.reduceEqDiff, reduceCtorEq, Nat.reduceAdd, Nat.reduceSub, Nat.reduceLeDiff, Nat.reduceLT, Nat.reduceMul, Int.reduceToNat, Int.reduceLT, Int.reduceLE, Cn.cells, Cn.cellsL, show ((7 : Int) == 0) = false from rfl, show ((7 : Int) == 7) = true from rfl, show ((3 : Int) == 3) = true from rfl, Cn.kd_mk])
      refine CallK_do hb ?_
      (try simp (implicitDefEqProofs := false) only [go_sem, ↓reduceIte, Nat.reduceEqDiff, reduceCtorEq, Nat.reduceAdd, Nat.reduceSub, Nat.reduceLeDiff, Nat.reduceLT, Nat.reduceMul, Int.reduceToNat, Int.reduceLT, Int.reduceLE])
    · (try simp (implicitDefEqProofs := false) only [go_sem, ↓reduceIte, Nat.reduceEqDiff, reduceCtorEq, Nat.reduceAdd, Nat.reduceSub, Nat.reduceLeDiff, Nat.reduceLT, Nat.reduceMul, Int.reduceToNat, Int.reduceLT, Int.reduceLE, Cn.cells, Cn.cellsL, show ((7 : Int) == 0) = false from rfl, show ((7 : Int) == 7) = true from rfl, show (k2 == 3) = false from by simpa using h2, Cn.kd_mk, h2])
      refine CallK_do hm ?_
      (try simp (implicitDefEqProofs := false) only [go_sem, ↓reduceIte, Nat.reduceEqDiff, reduceCtorEq, Nat.reduceAdd, Nat.reduceSub, Nat.reduceLeDiff, Nat.reduceLT, Nat.reduceMul, Int.reduceToNat, Int.reduceLT, Int.reduceLE])
  · (try simp (implicitDefEqProofs := false) only [go_sem, ↓reduceIte, Nat.reduceEqDiff, reduceCtorEq, Nat.reduceAdd, Nat.reduceSub, Nat.reduceLeDiff, Nat.reduceLT, Nat.reduceMul, Int.reduceToNat, Int.reduceLT, Int.reduceLE, Cn.cells, Cn.cellsL, show (k == 0) = false from by simp; omega, show (k == 7) = false from by simpa using h7, h7])
    refine CallK_do hm ?_
    (try simp (implicitDefEqProofs := false) only [go_sem, ↓reduceIte, Nat.reduceEqDiff, reduceCtorEq, Nat.reduceAdd, Nat.reduceSub, Nat.reduceLeDiff, Nat.reduceLT, Nat.reduceMul, Int.reduceToNat, Int.reduceLT, Int.reduceLE])
theorem rlv_does : ∀ c : Cn, c.ends.2.2 = true → RMidD c ∧ RInnD c ∧ RWhlD c := by
  refine Cn.ind fun k ty to lab neg ks ih he => ?_
  rcases ends_shape he with ⟨rfl, hk, _⟩ | ⟨a, b, rfl, hk, ha, hb⟩
  · exact ⟨rmid_leaf hk, rinn_leaf hk, rwhl_leaf hk⟩
  · have h1 := ih a (by simp) ha
    have h2 := ih b (by simp) hb
    have m := rmid_node (ty := ty) (to := to) (lab := lab) (neg := neg) hk h1.2.2 h2.2.2
    have i := rinn_node hk m h1.1
    exact ⟨m, i, rwhl_node hk i h2.2.1⟩

theorem ris_does (c : Cn) (hf : c.fits) : Does Try.prog 23 [.imm false (.agg c.cells)] [] (.ret true (.bool c.isB)) [] := by
  have h1 := rcchk_does c hf
  have h2 : c.chk.2.2 = 0 → RWhlD c := fun h => (rlv_does c (ok_iff h).2.2.1).2.2
  unfold RWhlD at h2
  unfold chV at h1
  unfold Cn.isB
  generalize c.chk = e at h1 h2
  generalize c.lv.2.2 = w at h2
  obtain ⟨e1, e2, e3⟩ := e
  obtain ⟨k, ty, to, lab, neg, ks⟩ := c
  simp only [Ty.cells_eq, Cn.cells] at h1
  simp only [Cn.cells] at h2
  refine does23 (by rfl) (by rfl) ?_
  (try simp (implicitDefEqProofs := false) only [go_sem, ↓reduceIte, Nat.reduceEqDiff, reduceCtorEq, Nat.reduceAdd, Nat.reduceSub, Nat.reduceLeDiff, Nat.reduceLT, Nat.reduceMul, Int.reduceToNat, Int.reduceLT, Int.reduceLE, Cn.cells])
  refine CallK_do h1 ?_
  by_cases hz : e3 = 0
  · have h2 := h2 hz
    (try simp (implicitDefEqProofs := false) only [go_sem, ↓reduceIte, Nat.reduceEqDiff, reduceCtorEq, Nat.reduceAdd, Nat.reduceSub, Nat.reduceLeDiff, Nat.reduceLT, Nat.reduceMul, Int.reduceToNat, Int.reduceLT, Int.reduceLE, hz, show ((0 : Int) == 0) = true from rfl])
    refine CallK_do h2 ?_
    (try simp (implicitDefEqProofs := false) only [go_sem, ↓reduceIte, Nat.reduceEqDiff, reduceCtorEq, Nat.reduceAdd, Nat.reduceSub, Nat.reduceLeDiff, Nat.reduceLT, Nat.reduceMul, Int.reduceToNat, Int.reduceLT, Int.reduceLE])
  · (try simp (implicitDefEqProofs := false) only [go_sem, ↓reduceIte, Nat.reduceEqDiff, reduceCtorEq, Nat.reduceAdd, Nat.reduceSub, Nat.reduceLeDiff, Nat.reduceLT, Nat.reduceMul, Int.reduceToNat, Int.reduceLT, Int.reduceLE, show (e3 == 0) = false from by simpa using hz])

end Go.Proofs.Ytopgmopdjiahmaa.Lg

/- MADE BY PROGRAM (gen/mk.py): the code of functions, as the logic sees it. Conditions: none; plain definitions and lemmas. -/
set_option linter.unusedVariables false
set_option linter.defProp false
set_option maxRecDepth 100000
namespace Go.Proofs.Ytopgmopdjiahmaa.Lg
open Go Go.RowKit Go.Proofs
variable {Q : AEx → St → Prop} {σ : St}

/-! ### 63: lychgate/lychgatelaw02.CopiedType -/
def r63_0 : MC := .reg [⟨none, (.boxc 1 (.t 0))⟩, ⟨none, (.alloc 2 z2)⟩] none (some ([1, 2], [2, 18, 36]))
def w63_0 := @awpR_get Try.prog Q σ r63_0 _ _ [2] ⟨rfl, rfl⟩
def r63_1 : MC := .reg [⟨none, (.fad 5 (.t 1) 1)⟩, ⟨none, (.load 6 (.t 5) none)⟩, ⟨none, (.len 7 (.t 6))⟩, ⟨none, (.bin 8 .eql (.t 7) (.c (.imm true (.int .i64 0))))⟩] none (some ([1, 2, 8], [2, 18, 36]))
def w63_1 := @awpR_no Try.prog Q σ r63_1 _ _ ⟨rfl, rfl⟩
def r63_2 : MC := .reg [⟨none, (.fad 9 (.t 1) 0)⟩, ⟨none, (.load 10 (.t 9) none)⟩, ⟨none, (.build 11 z2 [(0, (1, (.t 10)))])⟩, ⟨none, (.store (.t 2) (.t 11) 2)⟩] none (some ([2], [2, 18, 36]))
def w63_2 := @awpR_no Try.prog Q σ r63_2 _ _ ⟨rfl, rfl⟩
def r63_3 : MC := .reg [⟨none, (.fad 12 (.t 1) 0)⟩, ⟨none, (.load 13 (.t 12) none)⟩, ⟨none, (.fad 14 (.t 1) 1)⟩, ⟨none, (.load 15 (.t 14) none)⟩, ⟨none, (.len 16 (.t 15))⟩, ⟨none, (.bin 17 .add (.t 16) (.c (.imm true (.int .i64 1))))⟩, ⟨none, (.mkrow 18 (.t 17) 25 2 32)⟩, ⟨none, (.build 19 z2 [(0, (1, (.t 13))), (1, (1, (.t 18)))])⟩, ⟨none, (.alloc 3 z2)⟩, ⟨none, (.store (.t 3) (.t 19) 2)⟩] (some [(0, 6), (1, 6), (0, 8), (1, 8), (2, 8), (3, 8), (4, 8), (5, 8), (6, 8), (7, 8)]) (some ([1, 2, 3], [2, 3, 18, 36]))
def w63_3 := @awpD_get Try.prog Q σ r63_3 _ _ _ [18, 3] ⟨rfl, rfl⟩
def r63_4 : MC := .reg [⟨none, (.mv 4 (.c (.imm true (.int .i64 0))))⟩] none (some ([1, 2, 3, 4], [2, 3, 18, 36]))
def w63_4 := @awpR_no Try.prog Q σ r63_4 _ _ ⟨rfl, rfl⟩
def r63_5 : MC := .reg [⟨none, (.mv 20 (.t 4))⟩, ⟨none, (.fad 21 (.t 1) 1)⟩, ⟨none, (.load 22 (.t 21) none)⟩, ⟨none, (.len 23 (.t 22))⟩, ⟨none, (.bin 24 .lss (.t 20) (.t 23))⟩] none (some ([1, 2, 3, 4, 24], [2, 3, 18, 36]))
def w63_5 := @awpR_no Try.prog Q σ r63_5 _ _ ⟨rfl, rfl⟩
def r63_6 : MC := .reg [⟨none, (.fad 27 (.t 3) 1)⟩, ⟨none, (.load 28 (.t 27) none)⟩, ⟨none, (.fad 29 (.t 1) 1)⟩, ⟨none, (.load 30 (.t 29) none)⟩, ⟨none, (.mv 31 (.t 4))⟩, ⟨none, (.iad 32 (.t 30) (.t 31) 2)⟩, ⟨none, (.load 33 (.t 32) (some 2))⟩, ⟨none, (.call (some 34) (.c (.fn 63 [])) [(.t 33)])⟩, ⟨none, (.lit 35 2 [(.t 34)])⟩, ⟨none, (.append 36 (.t 28) (.t 35) 25 2 32)⟩, ⟨none, (.fad 37 (.t 3) 1)⟩, ⟨none, (.store (.t 37) (.t 36) 1)⟩] (some []) (some ([1, 2, 3, 4], [2, 3, 18, 36]))
def w63_6 := @awpD_get Try.prog Q σ r63_6 _ _ _ [36] ⟨rfl, rfl⟩
def r63_7 : MC := .reg [⟨none, (.mv 25 (.t 4))⟩, ⟨none, (.bin 26 .add (.t 25) (.c (.imm true (.int .i64 1))))⟩, ⟨none, (.mv 4 (.t 26))⟩] none (some ([1, 2, 3, 4], [2, 3, 18, 36]))
def w63_7 := @awpR_no Try.prog Q σ r63_7 _ _ ⟨rfl, rfl⟩
def l63_0 : MC := (.seq (.seq r63_5 (.cond (.t 24) .skip (.exit 0))) (.seq (.block 1 r63_6) r63_7))
def r63_8 : MC := .reg [⟨none, (.load 38 (.t 3) (some 2))⟩, ⟨none, (.store (.t 2) (.t 38) 2)⟩] none (some ([2], [2, 18, 36]))
def w63_8 := @awpR_no Try.prog Q σ r63_8 _ _ ⟨rfl, rfl⟩
def my63 : MC := (.seq r63_0 (.seq (.seq r63_1 (.cond (.t 8) (.seq r63_2 .ret) .skip)) (.seq r63_3 (.seq (.seq r63_4 (.block 0 (.loop l63_0))) (.seq r63_8 .ret)))))
theorem my63_is : trC Try.prog ⟨[1], []⟩ ⟨[(3, [[], [0], [], [2], [2, 3], [2, 3, 4], [2, 3, 4, 5], [0, 1, 2, 3, 4, 5, 6], [], [0, 1, 2, 3, 4, 5, 6, 7, 8]], [(0, 6), (1, 6), (0, 8), (1, 8), (2, 8), (3, 8), (4, 8), (5, 8), (6, 8), (7, 8)]), (7, [[], [0], [], [2], [], [2, 3, 4], [2, 3, 4, 5], [2, 3, 4, 5, 6], [2, 3, 4, 5, 6, 7], [0, 1, 2, 3, 4, 5, 6, 7, 8], [0, 1, 2, 3, 4, 5, 6, 7, 8, 9], [0, 1, 2, 3, 4, 5, 6, 7, 8, 9, 10]], [])],
  [(0, [1, 2], [2, 18, 36]), (1, [1, 2, 8], [2, 18, 36]), (2, [2], [2, 18, 36]), (3, [1, 2, 3], [2, 3, 18, 36]), (4, [1, 2, 3, 4], [2, 3, 18, 36]), (5, [1, 2, 3, 4, 24], [2, 3, 18, 36]), (7, [1, 2, 3, 4], [2, 3, 18, 36]), (6, [1, 2, 3, 4], [2, 3, 18, 36]), (8, [2], [2, 18, 36])]⟩ 39 (Try.f63.body.getD .skip) = some my63 := by kernel_rfl
theorem does63 {args : List LV} (hl : args.length.ble 39 = true) {S S' : List (List LV)} (hS : S'.length = S.length) {o : Out} (h : Lt ⟨numE 0 args, argS 0 S, []⟩ (awp Try.prog my63 (Fin [(.c 2 (some 2))] o S'))) : Does Try.prog 63 args S o S' :=
  does_of_awp mixed Try.func63 (by kernel_rfl) (by kernel_rfl) my63_is (by kernel_rfl) (Nat.le_of_ble_eq_true hl) hS h
attribute [go_sem ↓] w63_0 w63_1 w63_2 w63_3 w63_4 w63_5 w63_6 w63_7 w63_8
attribute [go_sem] my63
/-! ### 26: lychgate/lychgatelaw16.copied -/
def r26_0 : MC := .reg [⟨none, (.boxc 1 (.t 0))⟩, ⟨none, (.alloc 2 z8)⟩] none (some ([1, 2], [2, 31]))
def w26_0 := @awpR_get Try.prog Q σ r26_0 _ _ [2] ⟨rfl, rfl⟩
def r26_1 : MC := .reg [⟨none, (.load 5 (.t 1) (some 8))⟩, ⟨none, (.alloc 3 z8)⟩, ⟨none, (.store (.t 3) (.t 5) 8)⟩] none (some ([1, 2, 3], [2, 3, 31]))
def w26_1 := @awpR_get Try.prog Q σ r26_1 _ _ [3] ⟨rfl, rfl⟩
def r26_2 : MC := .reg [⟨none, (.fad 6 (.t 1) 1)⟩, ⟨none, (.load 7 (.t 6) (some 2))⟩, ⟨none, (.call (some 8) (.c (.fn 63 [])) [(.t 7)])⟩, ⟨none, (.fad 9 (.t 3) 1)⟩, ⟨none, (.store (.t 9) (.t 8) 2)⟩] none (some ([1, 2, 3], [2, 3, 31]))
def w26_2 := @awpR_no Try.prog Q σ r26_2 _ _ ⟨rfl, rfl⟩
def r26_3 : MC := .reg [⟨none, (.fad 10 (.t 1) 3)⟩, ⟨none, (.load 11 (.t 10) (some 2))⟩, ⟨none, (.call (some 12) (.c (.fn 63 [])) [(.t 11)])⟩, ⟨none, (.fad 13 (.t 3) 3)⟩, ⟨none, (.store (.t 13) (.t 12) 2)⟩] none (some ([1, 2, 3], [2, 3, 31]))
def w26_3 := @awpR_no Try.prog Q σ r26_3 _ _ ⟨rfl, rfl⟩
def r26_4 : MC := .reg [⟨none, (.fad 14 (.t 3) 7)⟩, ⟨none, (.store (.t 14) (.c .nils) 1)⟩] none (some ([1, 2, 3], [2, 3, 31]))
def w26_4 := @awpR_no Try.prog Q σ r26_4 _ _ ⟨rfl, rfl⟩
def r26_5 : MC := .reg [⟨none, (.mv 4 (.c (.imm true (.int .i64 0))))⟩] none (some ([1, 2, 3, 4], [2, 3, 31]))
def w26_5 := @awpR_no Try.prog Q σ r26_5 _ _ ⟨rfl, rfl⟩
def r26_6 : MC := .reg [⟨none, (.mv 15 (.t 4))⟩, ⟨none, (.fad 16 (.t 1) 7)⟩, ⟨none, (.load 17 (.t 16) none)⟩, ⟨none, (.len 18 (.t 17))⟩, ⟨none, (.bin 19 .lss (.t 15) (.t 18))⟩] none (some ([1, 2, 3, 4, 19], [2, 3, 31]))
def w26_6 := @awpR_no Try.prog Q σ r26_6 _ _ ⟨rfl, rfl⟩
def r26_7 : MC := .reg [⟨none, (.fad 22 (.t 3) 7)⟩, ⟨none, (.load 23 (.t 22) none)⟩, ⟨none, (.fad 24 (.t 1) 7)⟩, ⟨none, (.load 25 (.t 24) none)⟩, ⟨none, (.mv 26 (.t 4))⟩, ⟨none, (.iad 27 (.t 25) (.t 26) 8)⟩, ⟨none, (.load 28 (.t 27) (some 8))⟩, ⟨none, (.call (some 29) (.c (.fn 26 [])) [(.t 28)])⟩, ⟨none, (.lit 30 8 [(.t 29)])⟩, ⟨none, (.append 31 (.t 23) (.t 30) 28 8 112)⟩, ⟨none, (.fad 32 (.t 3) 7)⟩, ⟨none, (.store (.t 32) (.t 31) 1)⟩] (some []) (some ([1, 2, 3, 4], [2, 3, 31]))
def w26_7 := @awpD_get Try.prog Q σ r26_7 _ _ _ [31] ⟨rfl, rfl⟩
def r26_8 : MC := .reg [⟨none, (.mv 20 (.t 4))⟩, ⟨none, (.bin 21 .add (.t 20) (.c (.imm true (.int .i64 1))))⟩, ⟨none, (.mv 4 (.t 21))⟩] none (some ([1, 2, 3, 4], [2, 3, 31]))
def w26_8 := @awpR_no Try.prog Q σ r26_8 _ _ ⟨rfl, rfl⟩
def l26_0 : MC := (.seq (.seq r26_6 (.cond (.t 19) .skip (.exit 0))) (.seq (.block 1 r26_7) r26_8))
def r26_9 : MC := .reg [⟨none, (.load 33 (.t 3) (some 8))⟩, ⟨none, (.store (.t 2) (.t 33) 8)⟩] none (some ([2], [2, 31]))
def w26_9 := @awpR_no Try.prog Q σ r26_9 _ _ ⟨rfl, rfl⟩
def my26 : MC := (.seq r26_0 (.seq r26_1 (.seq r26_2 (.seq r26_3 (.seq r26_4 (.seq (.seq r26_5 (.block 0 (.loop l26_0))) (.seq r26_9 .ret)))))))
theorem my26_is : trC Try.prog ⟨[1], []⟩ ⟨[(8, [[], [0], [], [2], [], [2, 3, 4], [2, 3, 4, 5], [2, 3, 4, 5, 6], [2, 3, 4, 5, 6, 7], [0, 1, 2, 3, 4, 5, 6, 7, 8], [0, 1, 2, 3, 4, 5, 6, 7, 8, 9], [0, 1, 2, 3, 4, 5, 6, 7, 8, 9, 10]], [])],
  [(0, [1, 2], [2, 31]), (1, [1, 2, 3], [2, 3, 31]), (2, [1, 2, 3], [2, 3, 31]), (3, [1, 2, 3], [2, 3, 31]), (4, [1, 2, 3], [2, 3, 31]), (5, [1, 2, 3, 4], [2, 3, 31]), (6, [1, 2, 3, 4, 19], [2, 3, 31]), (8, [1, 2, 3, 4], [2, 3, 31]), (7, [1, 2, 3, 4], [2, 3, 31]), (9, [2], [2, 31])]⟩ 34 (Try.f26.body.getD .skip) = some my26 := by kernel_rfl
theorem does26 {args : List LV} (hl : args.length.ble 34 = true) {S S' : List (List LV)} (hS : S'.length = S.length) {o : Out} (h : Lt ⟨numE 0 args, argS 0 S, []⟩ (awp Try.prog my26 (Fin [(.c 2 (some 8))] o S'))) : Does Try.prog 26 args S o S' :=
  does_of_awp mixed Try.func26 (by kernel_rfl) (by kernel_rfl) my26_is (by kernel_rfl) (Nat.le_of_ble_eq_true hl) hS h
attribute [go_sem ↓] w26_0 w26_1 w26_2 w26_3 w26_4 w26_5 w26_6 w26_7 w26_8 w26_9
attribute [go_sem] my26
end Go.Proofs.Ytopgmopdjiahmaa.Lg

/- Copying a tree of types. Conditions: none; plain definitions and lemmas. -/
set_option linter.unusedVariables false
set_option linter.unusedSimpArgs false
set_option maxRecDepth 100000
set_option maxHeartbeats 2000000
namespace Go.Proofs.Ytopgmopdjiahmaa.Lg
open Go Go.RowKit Go.Proofs

/-- a row of types, each handed back by a call -/
def tx (f : Bool) (t : Ty) : List LV := [.imm f (.int .i8 t.k), .imm f (.slice (Ty.cellsL t.ts))]
theorem resLL_tx (s : List (Key × Box)) (n : Nat) : ∀ C : List Ty, resLL (res s (n + 1)) (C.map (tx true)) = some (true, C.map Ty.cells)
  | [] => rfl
  | c :: C => by
    have := resLL_tx s n C
    simp only [List.map_cons, resLL, this, tx, resL, res, Ty.cells_eq, Bool.true_or, Bool.and_self]
theorem keysLL_tx (s : List (Key × Box)) (n : Nat) (f : Bool) : ∀ C : List Ty, keysLL (keys s (n + 1)) (C.map (tx f)) = []
  | [] => rfl
  | c :: C => by
    have := keysLL_tx s n f C
    simp only [List.map_cons, keysLL, this, tx, keysL, keys, List.append_nil]
theorem renLL_tx (l : List Nat) (n : Nat) (f : Bool) : ∀ C : List Ty, renLL (renV l (n + 1)) (C.map (tx f)) = some (C.map (tx f))
  | [] => rfl
  | c :: C => by
    have := renLL_tx l n f C
    simp only [List.map_cons, renLL, this, tx, renL, renV]
theorem Ty.cellsL_map : ∀ ts : List Ty, Ty.cellsL ts = ts.map Ty.cells
  | [] => rfl
  | t :: r => by simp only [Ty.cellsL, List.map_cons, Ty.cellsL_map r]
mutual
def Ty.few : Ty → Prop
  | .mk _ ts => ts.length ≤ 16384 ∧ Ty.fewL ts
def Ty.fewL : List Ty → Prop
  | [] => True
  | t :: r => t.few ∧ Ty.fewL r
end
theorem Ty.fewL_mem : ∀ {ts : List Ty}, Ty.fewL ts → ∀ t ∈ ts, t.few
  | a :: r, h, t, ht => by
    simp only [Ty.fewL] at h
    rcases List.mem_cons.1 ht with rfl | ht
    · exact h.1
    · exact Ty.fewL_mem h.2 t ht
theorem copyt_does : ∀ t : Ty, t.few → Does Try.prog 63 [.imm false (.agg t.cells)] [] (.ret true (.agg t.cells)) [] := by
  refine Ty.ind fun k ts ih hf => ?_
  obtain ⟨hn, hks⟩ : ts.length ≤ 16384 ∧ Ty.fewL ts := by unfold Ty.few at hf; exact hf
  refine does63 (by rfl) (by rfl) ?_
  by_cases h0 : ts = []
  · subst h0
    (try simp (implicitDefEqProofs := false) only [go_sem, ↓reduceIte, Nat.reduceEqDiff, reduceCtorEq, Nat.reduceAdd, Nat.reduceSub, Nat.reduceLeDiff, Nat.reduceLT, Nat.reduceMul, Int.reduceToNat, Int.reduceLT, Int.reduceLE, Ty.cells, Ty.cellsL, ncast0, show ((0 : Int) == 0) = true from rfl])
  · have hpos : 0 < ts.length := List.length_pos_iff.2 h0
    have c1 : (0 : Int) ≤ (ts.length : Int) + 1 ↔ True := by simp; omega
    have c2 : (ts.length : Int) + 1 ≤ 1000000 ↔ True := by simp; omega
    (try simp (implicitDefEqProofs := false) only [go_sem, ↓reduceIte, Nat.reduceEqDiff, reduceCtorEq, Nat.reduceAdd, Nat.reduceSub, Nat.reduceLeDiff, Nat.reduceLT, Nat.reduceMul, Int.reduceToNat, Int.reduceLT, Int.reduceLE, Ty.cells, Ty.cellsL_len, show ((ts.length : Int) == 0) = false from by simp; omega, wrap64 (n := (ts.length : Int) + 1) (by omega) (by omega), c1, c2])
    refine ⟨fun m σ => ∃ j f r, j ≤ ts.length ∧ m = ts.length - j ∧ ((r = 18 ∧ j = 0) ∨ r = 36) ∧ σ = ⟨[(1, .imm false (.ptr (Ty.mk k ts).cells 0)), (2, .loc (.own 2) 0), (3, .loc (.own 3) 0), (4, .imm f (.int .i64 (j : Nat)))],
      [(.own 2, .var [.imm true (.int .i8 0), .nils]), (.own 3, .var [.imm false (.int .i8 k), .row (.own r) j]), (.own r, .row 25 2 ((ts.take j).map (tx true)))], []⟩, ⟨_, 0, true, 18, by omega, rfl, .inl ⟨rfl, rfl⟩, by simp only [Ty.cells, List.take_zero, List.map_nil]; rfl⟩, ?_⟩
    rintro m σ ⟨j, f, r, hj, rfl, hr, rfl⟩
    unfold l63_0
    by_cases hlt : j < ts.length
    · obtain ⟨k', ts', hm, hat, hdr, hat2⟩ := Ty.kid hlt
      have ihc := ih _ hm (Ty.fewL_mem hks _ hm)
      simp only [Ty.cells] at hat ihc
      have hlen : ((ts.take j).map (tx true)).length = j := by simp; omega
      have hcap : (j + 1) * 32 ≤ 140737488355328 ↔ True := by simp; omega
      have htk : (ts.take (j + 1)).map (tx true) = (ts.take j).map (tx true) ++ [[.imm true (.int .i8 k'), .imm true (.slice (Ty.cellsL ts'))]] := by
        rw [List.take_add_one, List.map_append, hat2]; rfl
      rcases hr with ⟨rfl, rfl⟩ | rfl
      · (try simp (implicitDefEqProofs := false) only [go_sem, ↓reduceIte, Nat.reduceEqDiff, reduceCtorEq, Nat.reduceAdd, Nat.reduceSub, Nat.reduceLeDiff, Nat.reduceLT, Nat.reduceMul, Int.reduceToNat, Int.reduceLT, Int.reduceLE, Ty.cells, Ty.cellsL_len, renLL_tx, hat, Int.toNat_natCast, Int.natCast_nonneg, show decide ((0 : Int) < (ts.length : Int)) = true from by simpa using hlt])
        refine CallK_do ihc ?_
        (try simp (implicitDefEqProofs := false) only [go_sem, ↓reduceIte, Nat.reduceEqDiff, reduceCtorEq, Nat.reduceAdd, Nat.reduceSub, Nat.reduceLeDiff, Nat.reduceLT, Nat.reduceMul, Int.reduceToNat, Int.reduceLT, Int.reduceLE, hlen, hcap, renLL_tx, wrap01])
        exact ⟨_, by omega, 1, true, 36, by omega, rfl, .inr rfl, by rw [htk]; rfl⟩
      · (try simp (implicitDefEqProofs := false) only [go_sem, ↓reduceIte, Nat.reduceEqDiff, reduceCtorEq, Nat.reduceAdd, Nat.reduceSub, Nat.reduceLeDiff, Nat.reduceLT, Nat.reduceMul, Int.reduceToNat, Int.reduceLT, Int.reduceLE, Ty.cells, Ty.cellsL_len, renLL_tx, hat, Int.toNat_natCast, Int.natCast_nonneg, show decide ((j : Int) < (ts.length : Int)) = true from by simpa using hlt])
        refine CallK_do ihc ?_
        (try simp (implicitDefEqProofs := false) only [go_sem, ↓reduceIte, Nat.reduceEqDiff, reduceCtorEq, Nat.reduceAdd, Nat.reduceSub, Nat.reduceLeDiff, Nat.reduceLT, Nat.reduceMul, Int.reduceToNat, Int.reduceLT, Int.reduceLE, hlen, hcap, renLL_tx, wrap64 (n := (j : Int) + 1) (by omega) (by omega)])
        exact ⟨_, by omega, j + 1, true, 36, by omega, rfl, .inr rfl, by rw [htk]; rfl⟩
    · have hge : j = ts.length := by omega
      subst hge
      rcases hr with ⟨rfl, hz⟩ | rfl
      · omega
      · (try simp (implicitDefEqProofs := false) only [go_sem, ↓reduceIte, Nat.reduceEqDiff, reduceCtorEq, Nat.reduceAdd, Nat.reduceSub, Nat.reduceLeDiff, Nat.reduceLT, Nat.reduceMul, Int.reduceToNat, Int.reduceLT, Int.reduceLE, Ty.cells, Ty.cellsL_len, renLL_tx, show decide ((ts.length : Int) < (ts.length : Int)) = false from by simp, resLL_tx, keysLL_tx, List.take_length, List.length_map])
        rw [Ty.cellsL_map]
end Go.Proofs.Ytopgmopdjiahmaa.Lg

/- Copying a tree of coercions. Conditions: none; plain definitions and lemmas. -/
set_option linter.unusedVariables false
set_option linter.unusedSimpArgs false
set_option maxRecDepth 100000
set_option maxHeartbeats 2000000
namespace Go.Proofs.Ytopgmopdjiahmaa.Lg
open Go Go.RowKit Go.Proofs

/-- a row of coercions, each handed back by a call -/
def ux (f : Bool) : Cn → List LV
  | .mk k ty to lab neg ks => [.imm f (.int .i8 k), .imm f (.int .i8 ty.k), .imm f (.slice (Ty.cellsL ty.ts)), .imm f (.int .i8 to.k), .imm f (.slice (Ty.cellsL to.ts)), .imm f (.int .i64 lab), .imm f (.bool neg), .imm f (.slice (Cn.cellsL ks))]
theorem resLL_ux (s : List (Key × Box)) (n : Nat) : ∀ C : List Cn, resLL (res s (n + 1)) (C.map (ux true)) = some (true, C.map Cn.cells)
  | [] => rfl
  | .mk k ty to lab neg ks :: C => by
    have := resLL_ux s n C
    simp only [List.map_cons, resLL, this, ux, resL, res, Cn.cells, Bool.true_or, Bool.and_self]
theorem keysLL_ux (s : List (Key × Box)) (n : Nat) (f : Bool) : ∀ C : List Cn, keysLL (keys s (n + 1)) (C.map (ux f)) = []
  | [] => rfl
  | .mk k ty to lab neg ks :: C => by
    have := keysLL_ux s n f C
    simp only [List.map_cons, keysLL, this, ux, keysL, keys, List.append_nil]
theorem renLL_ux (l : List Nat) (n : Nat) (f : Bool) : ∀ C : List Cn, renLL (renV l (n + 1)) (C.map (ux f)) = some (C.map (ux f))
  | [] => rfl
  | .mk k ty to lab neg ks :: C => by
    have := renLL_ux l n f C
    simp only [List.map_cons, renLL, this, ux, renL, renV]
theorem Cn.cellsL_map : ∀ ts : List Cn, Cn.cellsL ts = ts.map Cn.cells
  | [] => rfl
  | t :: r => by simp only [Cn.cellsL, List.map_cons, Cn.cellsL_map r]
mutual
def Cn.brief : Cn → Prop
  | .mk _ ty to _ _ ks => ty.few ∧ to.few ∧ ks.length ≤ 16384 ∧ Cn.briefL ks
def Cn.briefL : List Cn → Prop
  | [] => True
  | t :: r => t.brief ∧ Cn.briefL r
end
theorem Cn.briefL_mem : ∀ {ts : List Cn}, Cn.briefL ts → ∀ t ∈ ts, t.brief
  | a :: r, h, t, ht => by
    simp only [Cn.briefL] at h
    rcases List.mem_cons.1 ht with rfl | ht
    · exact h.1
    · exact Cn.briefL_mem h.2 t ht
mutual
theorem Ty.tyd_few : ∀ (t : Ty) (n : Int), 0 ≤ n → t.tyd n ≤ 16384 → n + 1 ≤ t.tyd n ∧ t.few
  | .mk k ts, n, h, h' => by
    simp only [Ty.tyd] at h' ⊢
    obtain ⟨h1, h2⟩ := Ty.tydL_few ts (n + 1) (by omega) h'
    refine ⟨by omega, ?_⟩
    unfold Ty.few
    exact ⟨by omega, h2⟩
theorem Ty.tydL_few : ∀ (ts : List Ty) (n : Int), 0 ≤ n → Ty.tydL ts n ≤ 16384 → n + ts.length ≤ Ty.tydL ts n ∧ Ty.fewL ts
  | [], n, h, h' => by simp [Ty.tydL, Ty.fewL]
  | t :: r, n, h, h' => by
    simp only [Ty.tydL] at h' ⊢
    split at h'
    · omega
    · rename_i hn
      rw [if_neg hn]
      have hle : t.tyd n ≤ 16384 := by
        by_cases hc : t.tyd n ≤ 16384
        · exact hc
        · rw [Ty.tydL_gt _ _ (by omega)] at h'; omega
      obtain ⟨h1, h2⟩ := Ty.tyd_few t n h hle
      obtain ⟨h3, h4⟩ := Ty.tydL_few r (t.tyd n) (by omega) h'
      refine ⟨by simp only [List.length_cons]; omega, ?_⟩
      unfold Ty.fewL
      exact ⟨h2, h4⟩
end
mutual
theorem Cn.cyd_brief : ∀ (t : Cn) (n : Int), 0 ≤ n → t.cyd n ≤ 16384 → n + 1 ≤ t.cyd n ∧ t.brief
  | .mk k ty to _ _ ks, n, h, h' => by
    simp only [Cn.cyd] at h' ⊢
    have b1 : to.tyd (ty.tyd (n + 1)) ≤ 16384 := by
      by_cases hc : to.tyd (ty.tyd (n + 1)) ≤ 16384
      · exact hc
      · rw [Cn.cydL_gt _ _ (by omega)] at h'; omega
    have b2 : ty.tyd (n + 1) ≤ 16384 := by
      by_cases hc : ty.tyd (n + 1) ≤ 16384
      · exact hc
      · obtain ⟨k2, us⟩ := to
        simp only [Ty.tyd] at b1
        rw [Ty.tydL_gt _ _ (by omega)] at b1; omega
    obtain ⟨h1, h2⟩ := Ty.tyd_few ty (n + 1) (by omega) b2
    obtain ⟨h3, h4⟩ := Ty.tyd_few to (ty.tyd (n + 1)) (by omega) b1
    obtain ⟨h5, h6⟩ := Cn.cydL_brief ks (to.tyd (ty.tyd (n + 1))) (by omega) h'
    refine ⟨by omega, ?_⟩
    unfold Cn.brief
    exact ⟨h2, h4, by omega, h6⟩
theorem Cn.cydL_brief : ∀ (ts : List Cn) (n : Int), 0 ≤ n → Cn.cydL ts n ≤ 16384 → n + ts.length ≤ Cn.cydL ts n ∧ Cn.briefL ts
  | [], n, h, h' => by simp [Cn.cydL, Cn.briefL]
  | t :: r, n, h, h' => by
    simp only [Cn.cydL] at h' ⊢
    split at h'
    · omega
    · rename_i hn
      rw [if_neg hn]
      have hle : t.cyd n ≤ 16384 := by
        by_cases hc : t.cyd n ≤ 16384
        · exact hc
        · rw [Cn.cydL_gt _ _ (by omega)] at h'; omega
      obtain ⟨h1, h2⟩ := Cn.cyd_brief t n h hle
      obtain ⟨h3, h4⟩ := Cn.cydL_brief r (t.cyd n) (by omega) h'
      refine ⟨by simp only [List.length_cons]; omega, ?_⟩
      unfold Cn.briefL
      exact ⟨h2, h4⟩
end
theorem small_brief {c : Cn} (h : c.smallB = true) : c.brief := by
  simp only [Cn.smallB, decide_eq_true_eq] at h
  exact (Cn.cyd_brief c 0 (by omega) h).2

theorem copied_does : ∀ c : Cn, c.brief → Does Try.prog 26 [.imm false (.agg c.cells)] [] (.ret true (.agg c.cells)) [] := by
  refine Cn.ind fun k ty to lab neg ks ih hf => ?_
  obtain ⟨hty, hto, hn, hks⟩ : ty.few ∧ to.few ∧ ks.length ≤ 16384 ∧ Cn.briefL ks := by unfold Cn.brief at hf; exact hf
  have t1 := copyt_does ty hty
  have t2 := copyt_does to hto
  simp only [Ty.cells_eq] at t1 t2
  refine does26 (by rfl) (by rfl) ?_
  (try simp (implicitDefEqProofs := false) only [go_sem, ↓reduceIte, Nat.reduceEqDiff, reduceCtorEq, Nat.reduceAdd, Nat.reduceSub, Nat.reduceLeDiff, Nat.reduceLT, Nat.reduceMul, Int.reduceToNat, Int.reduceLT, Int.reduceLE, Cn.cells])
  refine CallK_do t1 ?_
  (try simp (implicitDefEqProofs := false) only [go_sem, ↓reduceIte, Nat.reduceEqDiff, reduceCtorEq, Nat.reduceAdd, Nat.reduceSub, Nat.reduceLeDiff, Nat.reduceLT, Nat.reduceMul, Int.reduceToNat, Int.reduceLT, Int.reduceLE])
  refine CallK_do t2 ?_
  (try simp (implicitDefEqProofs := false) only [go_sem, ↓reduceIte, Nat.reduceEqDiff, reduceCtorEq, Nat.reduceAdd, Nat.reduceSub, Nat.reduceLeDiff, Nat.reduceLT, Nat.reduceMul, Int.reduceToNat, Int.reduceLT, Int.reduceLE])
  refine ⟨fun m σ => ∃ j f, j ≤ ks.length ∧ m = ks.length - j ∧ σ = ⟨[(1, .imm false (.ptr (Cn.mk k ty to lab neg ks).cells 0)), (2, .loc (.own 2) 0), (3, .loc (.own 3) 0), (4, .imm f (.int .i64 (j : Nat)))],
      [(.own 2, .var z8), (.own 3, .var [.imm false (.int .i8 k), .imm true (.int .i8 ty.k), .imm true (.slice (Ty.cellsL ty.ts)), .imm true (.int .i8 to.k), .imm true (.slice (Ty.cellsL to.ts)), .imm false (.int .i64 lab), .imm false (.bool neg), if j = 0 then .nils else .row (.own 31) j])] ++ (if j = 0 then [] else [(.own 31, .row 28 8 ((ks.take j).map (ux true)))]), []⟩, ⟨_, 0, true, by omega, rfl, by simp only [Cn.cells, if_true, List.append_nil, z8]; rfl⟩, ?_⟩
  rintro m σ ⟨j, f, hj, rfl, rfl⟩
  unfold l26_0
  by_cases hlt : j < ks.length
  · obtain ⟨c, hm, hat, hdr, hat2⟩ := Cn.kid hlt
    have ihc := ih _ hm (Cn.briefL_mem hks _ hm)
    have htk : (ks.take (j + 1)).map (ux true) = (ks.take j).map (ux true) ++ [ux true c] := by
      rw [List.take_add_one, List.map_append, hat2]; rfl
    have hlc := Cn.cells_len c
    obtain ⟨k2, ty2, to2, lab2, neg2, ks2⟩ := c
    simp only [Cn.cells] at hat ihc
    have hlen : ((ks.take j).map (ux true)).length = j := by simp; omega
    have hcap : (j + 1) * 112 ≤ 140737488355328 ↔ True := by simp; omega
    by_cases hz : j = 0
    · subst hz
      (try simp (implicitDefEqProofs := false) only [go_sem, ↓reduceIte, Nat.reduceEqDiff, reduceCtorEq, Nat.reduceAdd, Nat.reduceSub, Nat.reduceLeDiff, Nat.reduceLT, Nat.reduceMul, Int.reduceToNat, Int.reduceLT, Int.reduceLE, Cn.cells, Cn.cellsL_len, renLL_ux, hat, Int.toNat_natCast, Int.natCast_nonneg, show decide ((0 : Int) < (ks.length : Int)) = true from by simpa using hlt])
      refine CallK_do ihc ?_
      (try simp (implicitDefEqProofs := false) only [go_sem, ↓reduceIte, Nat.reduceEqDiff, reduceCtorEq, Nat.reduceAdd, Nat.reduceSub, Nat.reduceLeDiff, Nat.reduceLT, Nat.reduceMul, Int.reduceToNat, Int.reduceLT, Int.reduceLE, hlen, hcap, renLL_ux, wrap01])
      refine ⟨_, by omega, 1, true, by omega, rfl, ?_⟩
      rw [htk]
      rfl
    · have h1 : (j + 1 = 0) ↔ False := by simp
      (try simp (implicitDefEqProofs := false) only [go_sem, ↓reduceIte, Nat.reduceEqDiff, reduceCtorEq, Nat.reduceAdd, Nat.reduceSub, Nat.reduceLeDiff, Nat.reduceLT, Nat.reduceMul, Int.reduceToNat, Int.reduceLT, Int.reduceLE, Cn.cells, Cn.cellsL_len, renLL_ux, hz, hat, Int.toNat_natCast, Int.natCast_nonneg, show decide ((j : Int) < (ks.length : Int)) = true from by simpa using hlt])
      refine CallK_do ihc ?_
      (try simp (implicitDefEqProofs := false) only [go_sem, ↓reduceIte, Nat.reduceEqDiff, reduceCtorEq, Nat.reduceAdd, Nat.reduceSub, Nat.reduceLeDiff, Nat.reduceLT, Nat.reduceMul, Int.reduceToNat, Int.reduceLT, Int.reduceLE, hlen, hcap, renLL_ux, wrap64 (n := (j : Int) + 1) (by omega) (by omega)])
      refine ⟨_, by omega, j + 1, true, by omega, rfl, ?_⟩
      rw [htk]
      simp only [h1, if_false]
      rfl
  · have hge : j = ks.length := by omega
    subst hge
    by_cases hz : ks.length = 0
    · have hnil : ks = [] := List.length_eq_zero_iff.1 hz
      subst hnil
      (try simp (implicitDefEqProofs := false) only [go_sem, ↓reduceIte, Nat.reduceEqDiff, reduceCtorEq, Nat.reduceAdd, Nat.reduceSub, Nat.reduceLeDiff, Nat.reduceLT, Nat.reduceMul, Int.reduceToNat, Int.reduceLT, Int.reduceLE, Cn.cells, Cn.cellsL, List.length_nil, ncast0, show decide ((0 : Int) < 0) = false from rfl])
    · (try simp (implicitDefEqProofs := false) only [go_sem, ↓reduceIte, Nat.reduceEqDiff, reduceCtorEq, Nat.reduceAdd, Nat.reduceSub, Nat.reduceLeDiff, Nat.reduceLT, Nat.reduceMul, Int.reduceToNat, Int.reduceLT, Int.reduceLE, Cn.cells, Cn.cellsL_len, renLL_ux, hz, show decide ((ks.length : Int) < (ks.length : Int)) = false from by simp, resLL_ux, keysLL_ux, List.take_length, List.length_map])
      rw [Cn.cellsL_map]
end Go.Proofs.Ytopgmopdjiahmaa.Lg
