/- The law's own functions: whole, straight. Conditions: none; plain definitions and lemmas. -/
import Derived.Test.YtopgmopdjiahmaaNl
set_option linter.unusedVariables false
set_option linter.unusedSimpArgs false
set_option maxRecDepth 100000
set_option maxHeartbeats 1000000
namespace Go.Proofs.Ytopgmopdjiahmaa.Lg
open Go Go.RowKit Go.Proofs

theorem kind0_does : Does Try.prog 45 [.imm false (.agg [.int .i8 0, .slice []]), .imm false (.agg [.int .i8 0, .slice []])] [] (.ret true (.bool true)) [] := by
  refine does45 (by rfl) (by rfl) ?_
  (try simp (implicitDefEqProofs := false) (maxSteps := 2000000) only [go_sem, ↓reduceIte, Nat.reduceEqDiff, reduceCtorEq, Nat.reduceAdd, Nat.reduceSub, Nat.reduceLeDiff, Nat.reduceLT, Nat.reduceMul, Int.reduceToNat, Int.reduceLT, Int.reduceLE, show ((0 : Int) != 0) = false from rfl, ncast0])
  refine ⟨fun n σ => n = 0 ∧ σ = ⟨[(2, .imm false (.ptr [.int .i8 0, .slice []] 0)), (3, .imm false (.ptr [.int .i8 0, .slice []] 0)), (22, .imm true (.int .i64 0)), (23, .imm true (.int .i64 0))], [], []⟩, ⟨_, rfl, rfl⟩, ?_⟩
  rintro n σ ⟨rfl, rfl⟩
  unfold l45_0
  (try simp (implicitDefEqProofs := false) (maxSteps := 2000000) only [go_sem, ↓reduceIte, Nat.reduceEqDiff, reduceCtorEq, Nat.reduceAdd, Nat.reduceSub, Nat.reduceLeDiff, Nat.reduceLT, Nat.reduceMul, Int.reduceToNat, Int.reduceLT, Int.reduceLE, show decide ((0 : Int) < 0) = false from rfl])

def crossK (k : Int) : Bool := k == 2 || (k == 3 || k == 1)
mutual
def Cn.straight : Cn → Bool
  | .mk k _ _ _ _ ks => !(crossK k) && Cn.straightL ks
def Cn.straightL : List Cn → Bool
  | [] => true
  | c :: r => c.straight && Cn.straightL r
end
theorem straight_does : ∀ c : Cn, c.fits → Does Try.prog 19 [.imm false (.agg c.cells)] [] (.ret true (.bool c.straight)) [] := by
  refine Cn.ind fun k ty to lab neg ks ih hf => ?_
  have hfl : ks.length ≤ 9223372036854775807 := hf.2.2.1
  refine does19 (by rfl) (by rfl) ?_
  by_cases k2 : k = 2
  · (try simp (implicitDefEqProofs := false) (maxSteps := 2000000) only [go_sem, ↓reduceIte, Nat.reduceEqDiff, reduceCtorEq, Nat.reduceAdd, Nat.reduceSub, Nat.reduceLeDiff, Nat.reduceLT, Nat.reduceMul, Int.reduceToNat, Int.reduceLT, Int.reduceLE, Cn.cells, show (k == 2) = true from by simpa using k2])
    simp [Cn.straight, crossK, k2]
  by_cases k3 : k = 3
  · (try simp (implicitDefEqProofs := false) (maxSteps := 2000000) only [go_sem, ↓reduceIte, Nat.reduceEqDiff, reduceCtorEq, Nat.reduceAdd, Nat.reduceSub, Nat.reduceLeDiff, Nat.reduceLT, Nat.reduceMul, Int.reduceToNat, Int.reduceLT, Int.reduceLE, Cn.cells, show (k == 2) = false from by simpa using k2, show (k == 3) = true from by simpa using k3])
    simp [Cn.straight, crossK, k3]
  by_cases k1 : k = 1
  · (try simp (implicitDefEqProofs := false) (maxSteps := 2000000) only [go_sem, ↓reduceIte, Nat.reduceEqDiff, reduceCtorEq, Nat.reduceAdd, Nat.reduceSub, Nat.reduceLeDiff, Nat.reduceLT, Nat.reduceMul, Int.reduceToNat, Int.reduceLT, Int.reduceLE, Cn.cells, show (k == 2) = false from by simpa using k2, show (k == 3) = false from by simpa using k3, show (k == 1) = true from by simpa using k1])
    simp [Cn.straight, crossK, k1]
  have e0 : (Cn.mk k ty to lab neg ks).straight = Cn.straightL ks := by simp [Cn.straight, crossK, k1, k2, k3]
  (try simp (implicitDefEqProofs := false) (maxSteps := 2000000) only [go_sem, ↓reduceIte, Nat.reduceEqDiff, reduceCtorEq, Nat.reduceAdd, Nat.reduceSub, Nat.reduceLeDiff, Nat.reduceLT, Nat.reduceMul, Int.reduceToNat, Int.reduceLT, Int.reduceLE, Cn.cells, Cn.cellsL_len, show (k == 2) = false from by simpa using k2, show (k == 3) = false from by simpa using k3, show (k == 1) = false from by simpa using k1])
  refine ⟨fun n σ => ∃ j, j ≤ ks.length ∧ n = ks.length - j ∧ Cn.straightL ks = Cn.straightL (ks.drop j) ∧ σ = ⟨[(19, .imm false (.slice (Cn.cellsL ks))), (20, .imm true (.int .i64 ks.length)), (21, .imm true (.int .i64 j))], [], []⟩, ⟨_, 0, by omega, rfl, rfl, rfl⟩, ?_⟩
  rintro n σ ⟨j, hj, rfl, hs, rfl⟩
  unfold l19_0
  (try simp (implicitDefEqProofs := false) (maxSteps := 2000000) only [go_sem, ↓reduceIte, Nat.reduceEqDiff, reduceCtorEq, Nat.reduceAdd, Nat.reduceSub, Nat.reduceLeDiff, Nat.reduceLT, Nat.reduceMul, Int.reduceToNat, Int.reduceLT, Int.reduceLE, CondOn_imm])
  refine ⟨fun hlt => ?_, fun hlt => ?_⟩
  · have hlt : j < ks.length := by simpa using hlt
    obtain ⟨c, hm, hat, hdr, _⟩ := Cn.kid hlt
    rw [hdr, Cn.straightL] at hs
    have ihc := ih c hm (Cn.fitsL_mem hf.2.2.2.2 _ hm)
    obtain ⟨k', ty', to', lab', neg', ks'⟩ := c
    simp only [Cn.cells] at hat ihc
    (try simp (implicitDefEqProofs := false) (maxSteps := 2000000) only [go_sem, ↓reduceIte, Nat.reduceEqDiff, reduceCtorEq, Nat.reduceAdd, Nat.reduceSub, Nat.reduceLeDiff, Nat.reduceLT, Nat.reduceMul, Int.reduceToNat, Int.reduceLT, Int.reduceLE, hat, Int.toNat_natCast, Int.natCast_nonneg])
    refine CallK_do ihc ?_
    cases hb : (Cn.mk k' ty' to' lab' neg' ks').straight with
    | false =>
      (try simp (implicitDefEqProofs := false) (maxSteps := 2000000) only [go_sem, ↓reduceIte, Nat.reduceEqDiff, reduceCtorEq, Nat.reduceAdd, Nat.reduceSub, Nat.reduceLeDiff, Nat.reduceLT, Nat.reduceMul, Int.reduceToNat, Int.reduceLT, Int.reduceLE])
      rw [e0, hs, hb]; simp
    | true =>
      (try simp (implicitDefEqProofs := false) (maxSteps := 2000000) only [go_sem, ↓reduceIte, Nat.reduceEqDiff, reduceCtorEq, Nat.reduceAdd, Nat.reduceSub, Nat.reduceLeDiff, Nat.reduceLT, Nat.reduceMul, Int.reduceToNat, Int.reduceLT, Int.reduceLE, wrap64 (n := (j : Int) + 1) (by omega) (by omega)])
      exact ⟨_, by omega, j + 1, by omega, rfl, by rw [hs, hb, Bool.true_and], rfl⟩
  · have hge : j = ks.length := by have : ¬ j < ks.length := by simpa using hlt
                                   omega
    subst hge
    (try simp (implicitDefEqProofs := false) (maxSteps := 2000000) only [go_sem, ↓reduceIte, Nat.reduceEqDiff, reduceCtorEq, Nat.reduceAdd, Nat.reduceSub, Nat.reduceLeDiff, Nat.reduceLT, Nat.reduceMul, Int.reduceToNat, Int.reduceLT, Int.reduceLE])
    rw [e0, hs]; simp [Cn.straightL]

theorem whole0_does : Does Try.prog 12 [.imm false (.agg Cn.zero.cells), .imm false (.agg Cn.zero.cells)] [] (.ret true (.bool true)) [] := by
  rw [zero_cells]
  refine does12 (by rfl) (by rfl) ?_
  (try simp (implicitDefEqProofs := false) (maxSteps := 2000000) only [go_sem, ↓reduceIte, Nat.reduceEqDiff, reduceCtorEq, Nat.reduceAdd, Nat.reduceSub, Nat.reduceLeDiff, Nat.reduceLT, Nat.reduceMul, Int.reduceToNat, Int.reduceLT, Int.reduceLE, show ((0 : Int) != 0) = false from rfl, show (false == false) = true from rfl, ncast0, Bool.not_true])
  refine CallK_do kind0_does ?_
  (try simp (implicitDefEqProofs := false) (maxSteps := 2000000) only [go_sem, ↓reduceIte, Nat.reduceEqDiff, reduceCtorEq, Nat.reduceAdd, Nat.reduceSub, Nat.reduceLeDiff, Nat.reduceLT, Nat.reduceMul, Int.reduceToNat, Int.reduceLT, Int.reduceLE, Bool.not_true])
  refine CallK_do kind0_does ?_
  (try simp (implicitDefEqProofs := false) (maxSteps := 2000000) only [go_sem, ↓reduceIte, Nat.reduceEqDiff, reduceCtorEq, Nat.reduceAdd, Nat.reduceSub, Nat.reduceLeDiff, Nat.reduceLT, Nat.reduceMul, Int.reduceToNat, Int.reduceLT, Int.reduceLE, Bool.not_true, ncast0])
  refine ⟨fun n σ => n = 0 ∧ σ = ⟨[(2, .imm false (.ptr [.int .i8 0, .int .i8 0, .slice [], .int .i8 0, .slice [], .int .i64 0, .bool false, .slice []] 0)), (3, .imm false (.ptr [.int .i8 0, .int .i8 0, .slice [], .int .i8 0, .slice [], .int .i64 0, .bool false, .slice []] 0)), (52, .imm true (.int .i64 0)), (53, .imm true (.int .i64 0))], [], []⟩, ⟨_, rfl, rfl⟩, ?_⟩
  rintro n σ ⟨rfl, rfl⟩
  unfold l12_0
  (try simp (implicitDefEqProofs := false) (maxSteps := 2000000) only [go_sem, ↓reduceIte, Nat.reduceEqDiff, reduceCtorEq, Nat.reduceAdd, Nat.reduceSub, Nat.reduceLeDiff, Nat.reduceLT, Nat.reduceMul, Int.reduceToNat, Int.reduceLT, Int.reduceLE, show decide ((0 : Int) < 0) = false from rfl])

/-! ### all sides changed -/
mutual
def Cn.sides : Cn → Cn
  | .mk k ty to lab neg ks => .mk k ty to lab (if k = 3 ∨ k = 1 then !neg else neg) (Cn.sidesL ks)
def Cn.sidesL : List Cn → List Cn
  | [] => []
  | c :: r => c.sides :: Cn.sidesL r
end
theorem sides_does : ∀ c : Cn, c.fits → c.ends.2.2 = true → Does Try.prog 18 [.imm false (.agg c.cells)] [] (.ret false (.agg c.sides.cells)) [] := by
  refine Cn.ind fun k ty to lab neg ks ih hf he => ?_
  refine does18 (by rfl) (by rfl) ?_
  have tailN : ∀ (n1 : Bool) (g : Bool), n1 = (if k = 3 ∨ k = 1 then !neg else neg) →
      awp Try.prog (.seq r18_3 (.seq (.seq r18_4 (.block 0 (.loop l18_0))) (.seq r18_9 (.seq r18_10 .ret)))) (Fin [MR.c 2 (some 8)] (.ret false (.agg (Cn.mk k ty to lab neg ks).sides.cells)) [])
        ⟨[(1, .loc (.own 1) 0), (2, .loc (.own 2) 0)], [(.own 1, .var [.imm false (.int .i8 k), .imm false (.int .i8 ty.k), .imm false (.slice (Ty.cellsL ty.ts)), .imm false (.int .i8 to.k), .imm false (.slice (Ty.cellsL to.ts)), .imm false (.int .i64 lab), .imm g (.bool n1), .imm false (.slice (Cn.cellsL ks))]),
          (.own 2, .var [.imm true (.int .i8 0), .imm true (.int .i8 0), .nils, .imm true (.int .i8 0), .nils, .imm true (.int .i64 0), .imm true (.bool false), .nils])], []⟩ := by
    intro n1 g hn1
    have e0 : (Cn.mk k ty to lab neg ks).sides = .mk k ty to lab n1 (Cn.sidesL ks) := by simp only [Cn.sides, hn1]
    rw [e0]
    let B1 : LV → Box := fun v => .var [.imm false (.int .i8 k), .imm false (.int .i8 ty.k), .imm false (.slice (Ty.cellsL ty.ts)), .imm false (.int .i8 to.k), .imm false (.slice (Ty.cellsL to.ts)), .imm false (.int .i64 lab), .imm g (.bool n1), v]
    let B2 : Box := .var [.imm true (.int .i8 0), .imm true (.int .i8 0), .nils, .imm true (.int .i8 0), .nils, .imm true (.int .i64 0), .imm true (.bool false), .nils]
    rcases ends_shape he with ⟨rfl, _, _⟩ | ⟨a, b, rfl, _, ha, hb⟩
    · (try simp (implicitDefEqProofs := false) (maxSteps := 2000000) only [go_sem, ↓reduceIte, Nat.reduceEqDiff, reduceCtorEq, Nat.reduceAdd, Nat.reduceSub, Nat.reduceLeDiff, Nat.reduceLT, Nat.reduceMul, Int.reduceToNat, Int.reduceLT, Int.reduceLE, Cn.cellsL, Cn.sidesL, ncast0, Cn.cells])
      refine ⟨fun n σ => n = 0 ∧ σ = ⟨[(1, .loc (.own 1) 0), (2, .loc (.own 2) 0), (3, .nils), (19, .imm false (.slice [])), (20, .imm true (.int .i64 0)), (21, .imm true (.int .i64 0))], [(.own 1, B1 (.imm false (.slice []))), (.own 2, B2)], []⟩, ⟨_, rfl, rfl⟩, ?_⟩
      rintro n σ ⟨rfl, rfl⟩
      unfold l18_0
      (try simp (implicitDefEqProofs := false) (maxSteps := 2000000) only [go_sem, ↓reduceIte, Nat.reduceEqDiff, reduceCtorEq, Nat.reduceAdd, Nat.reduceSub, Nat.reduceLeDiff, Nat.reduceLT, Nat.reduceMul, Int.reduceToNat, Int.reduceLT, Int.reduceLE, B1, B2, show decide ((0 : Int) < 0) = false from rfl])
    · have hk := hf.2.2.2.2
      have h1 := ih a (by simp) hk.1 ha
      have h2 := ih b (by simp) hk.2.1 hb
      have hla := Cn.cells_len a
      have hlb := Cn.cells_len b
      simp only [Cn.sidesL]
      generalize a.sides = a' at h1
      generalize b.sides = b' at h2
      obtain ⟨k1, ty1, to1, lab1, neg1, ks1⟩ := a'
      obtain ⟨k2, ty2, to2, lab2, neg2, ks2⟩ := b'
      obtain ⟨k3, ty3, to3, lab3, neg3, ks3⟩ := a
      obtain ⟨k4, ty4, to4, lab4, neg4, ks4⟩ := b
      (try simp (implicitDefEqProofs := false) (maxSteps := 2000000) only [go_sem, ↓reduceIte, Nat.reduceEqDiff, reduceCtorEq, Nat.reduceAdd, Nat.reduceSub, Nat.reduceLeDiff, Nat.reduceLT, Nat.reduceMul, Int.reduceToNat, Int.reduceLT, Int.reduceLE, Cn.cellsL, ncast2, Cn.cells])
      simp only [Cn.cells] at h1 h2
      let L : List (List IV) := [(Cn.mk k3 ty3 to3 lab3 neg3 ks3).cells, (Cn.mk k4 ty4 to4 lab4 neg4 ks4).cells]
      let S : Int → LV → List (Key × Box) → St := fun j v r => ⟨[(1, .loc (.own 1) 0), (2, .loc (.own 2) 0), (3, v), (19, .imm false (.slice L)), (20, .imm true (.int .i64 2)), (21, .imm true (.int .i64 j))], (.own 1, B1 (.imm false (.slice L))) :: (.own 2, B2) :: r, []⟩
      refine ⟨fun n σ => (n = 2 ∧ σ = S 0 .nils []) ∨ (n = 1 ∧ σ = S 1 (.row (.own 29) 1) [(.own 29, .row 28 8 [(Cn.mk k1 ty1 to1 lab1 neg1 ks1).cells.map (.imm false)])]) ∨
        (n = 0 ∧ σ = S 2 (.row (.own 29) 2) [(.own 29, .row 28 8 [(Cn.mk k1 ty1 to1 lab1 neg1 ks1).cells.map (.imm false), (Cn.mk k2 ty2 to2 lab2 neg2 ks2).cells.map (.imm false)])]), ⟨_, .inl ⟨rfl, by simp only [S, L, B1, B2, Cn.cells]⟩⟩, ?_⟩
      rintro n σ (⟨rfl, rfl⟩ | ⟨rfl, rfl⟩ | ⟨rfl, rfl⟩)
      · unfold l18_0
        (try simp (implicitDefEqProofs := false) (maxSteps := 2000000) only [go_sem, ↓reduceIte, Nat.reduceEqDiff, reduceCtorEq, Nat.reduceAdd, Nat.reduceSub, Nat.reduceLeDiff, Nat.reduceLT, Nat.reduceMul, Int.reduceToNat, Int.reduceLT, Int.reduceLE, S, L, B1, B2, Cn.cells, show decide ((0 : Int) < 2) = true from rfl])
        refine CallK_do h1 ?_
        (try simp (implicitDefEqProofs := false) (maxSteps := 2000000) only [go_sem, ↓reduceIte, Nat.reduceEqDiff, reduceCtorEq, Nat.reduceAdd, Nat.reduceSub, Nat.reduceLeDiff, Nat.reduceLT, Nat.reduceMul, Int.reduceToNat, Int.reduceLT, Int.reduceLE, wrap01])
        exact ⟨1, by omega, by simp⟩
      · unfold l18_0
        (try simp (implicitDefEqProofs := false) (maxSteps := 2000000) only [go_sem, ↓reduceIte, Nat.reduceEqDiff, reduceCtorEq, Nat.reduceAdd, Nat.reduceSub, Nat.reduceLeDiff, Nat.reduceLT, Nat.reduceMul, Int.reduceToNat, Int.reduceLT, Int.reduceLE, S, L, B1, B2, Cn.cells, show decide ((1 : Int) < 2) = true from rfl])
        refine CallK_do h2 ?_
        (try simp (implicitDefEqProofs := false) (maxSteps := 2000000) only [go_sem, ↓reduceIte, Nat.reduceEqDiff, reduceCtorEq, Nat.reduceAdd, Nat.reduceSub, Nat.reduceLeDiff, Nat.reduceLT, Nat.reduceMul, Int.reduceToNat, Int.reduceLT, Int.reduceLE, wrap12])
        exact ⟨0, by omega, by simp⟩
      · unfold l18_0
        (try simp (implicitDefEqProofs := false) (maxSteps := 2000000) only [go_sem, ↓reduceIte, Nat.reduceEqDiff, reduceCtorEq, Nat.reduceAdd, Nat.reduceSub, Nat.reduceLeDiff, Nat.reduceLT, Nat.reduceMul, Int.reduceToNat, Int.reduceLT, Int.reduceLE, S, L, B1, B2, Cn.cells, show decide ((2 : Int) < 2) = false from rfl])
  by_cases k3 : k = 3
  · have := tailN (!neg) true (by simp [k3])
    (try simp (implicitDefEqProofs := false) (maxSteps := 2000000) only [go_sem, ↓reduceIte, Nat.reduceEqDiff, reduceCtorEq, Nat.reduceAdd, Nat.reduceSub, Nat.reduceLeDiff, Nat.reduceLT, Nat.reduceMul, Int.reduceToNat, Int.reduceLT, Int.reduceLE] at this)
    (try simp (implicitDefEqProofs := false) (maxSteps := 2000000) only [go_sem, ↓reduceIte, Nat.reduceEqDiff, reduceCtorEq, Nat.reduceAdd, Nat.reduceSub, Nat.reduceLeDiff, Nat.reduceLT, Nat.reduceMul, Int.reduceToNat, Int.reduceLT, Int.reduceLE, Cn.cells, show (k == 3) = true from by simpa using k3])
    exact this
  by_cases k1 : k = 1
  · have := tailN (!neg) true (by simp [k1])
    (try simp (implicitDefEqProofs := false) (maxSteps := 2000000) only [go_sem, ↓reduceIte, Nat.reduceEqDiff, reduceCtorEq, Nat.reduceAdd, Nat.reduceSub, Nat.reduceLeDiff, Nat.reduceLT, Nat.reduceMul, Int.reduceToNat, Int.reduceLT, Int.reduceLE] at this)
    (try simp (implicitDefEqProofs := false) (maxSteps := 2000000) only [go_sem, ↓reduceIte, Nat.reduceEqDiff, reduceCtorEq, Nat.reduceAdd, Nat.reduceSub, Nat.reduceLeDiff, Nat.reduceLT, Nat.reduceMul, Int.reduceToNat, Int.reduceLT, Int.reduceLE, Cn.cells, show (k == 3) = false from by simpa using k3, show (k == 1) = true from by simpa using k1])
    exact this
  · have := tailN neg false (by simp [k1, k3])
    (try simp (implicitDefEqProofs := false) (maxSteps := 2000000) only [go_sem, ↓reduceIte, Nat.reduceEqDiff, reduceCtorEq, Nat.reduceAdd, Nat.reduceSub, Nat.reduceLeDiff, Nat.reduceLT, Nat.reduceMul, Int.reduceToNat, Int.reduceLT, Int.reduceLE] at this)
    (try simp (implicitDefEqProofs := false) (maxSteps := 2000000) only [go_sem, ↓reduceIte, Nat.reduceEqDiff, reduceCtorEq, Nat.reduceAdd, Nat.reduceSub, Nat.reduceLeDiff, Nat.reduceLT, Nat.reduceMul, Int.reduceToNat, Int.reduceLT, Int.reduceLE, Cn.cells, show (k == 3) = false from by simpa using k3, show (k == 1) = false from by simpa using k1])
    exact this
end Go.Proofs.Ytopgmopdjiahmaa.Lg
