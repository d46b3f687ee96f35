/- Texts of one proof, joined by program (gen/merge.py): Nm No Np Nq Nr. Conditions: none; plain definitions and lemmas. -/
import Derived.Test.YtopgmopdjiahmaaG7
/- The law's own functions: whole, straight. Conditions: none; plain definitions and lemmas. -/
set_option linter.unusedVariables false
set_option linter.unusedSimpArgs false
set_option maxRecDepth 100000
set_option maxHeartbeats 1000000
namespace Go.Proofs.Ytopgmopdjiahmaa.Lg
open Go Go.RowKit Go.Proofs

theorem kind0_does : Does Try.prog 45 [.imm false (.agg [.int .i8 0, .slice []]), .imm false (.agg [.int .i8 0, .slice []])] [] (.ret true (.bool true)) [] := by
  refine does45 (by rfl) (by rfl) ?_
  (try simp (implicitDefEqProofs := false) (maxSteps := 2000000) only [go_sem, ↓reduceIte, Nat.reduceEqDiff, reduceCtorEq, Nat.reduceAdd, Nat.reduceSub, Nat.reduceLeDiff, Nat.reduceLT, Nat.reduceMul, Int.reduceToNat, Int.reduceLT, Int.reduceLE, show ((0 : Int) != 0) = false from rfl, ncast0])
  refine ⟨fun n σ => n = 0 ∧ σ = ⟨[(2, .imm false (.ptr [.int .i8 0, .slice []] 0)), (3, .imm false (.ptr [.int .i8 0, .slice []] 0)), (22, .imm true (.int .i64 0)), (23, .imm true (.int .i64 0))], [], []⟩, ⟨_, rfl, rfl⟩, ?_⟩
  rintro n σ ⟨rfl, rfl⟩
  unfold l45_0
  (try simp (implicitDefEqProofs := false) (maxSteps := 2000000) only [go_sem, ↓reduceIte, Nat.reduceEqDiff, reduceCtorEq, Nat.reduceAdd, Nat.reduceSub, Nat.reduceLeDiff, Nat.reduceLT, Nat.reduceMul, Int.reduceToNat, Int.reduceLT, Int.reduceLE, show decide ((0 : Int) < 0) = false from rfl])

def crossK (k : Int) : Bool := k == 2 || (k == 3 || k == 1)
mutual
def Cn.straight : Cn → Bool
  | .mk k _ _ _ _ ks => !(crossK k) && Cn.straightL ks
def Cn.straightL : List Cn → Bool
  | [] => true
  | c :: r => c.straight && Cn.straightL r
end
theorem straight_does : ∀ c : Cn, c.fits → Does Try.prog 19 [.imm false (.agg c.cells)] [] (.ret true (.bool c.straight)) [] := by
  refine Cn.ind fun k ty to lab neg ks ih hf => ?_
  have hfl : ks.length ≤ 9223372036854775807 := hf.2.2.1
  refine does19 (by rfl) (by rfl) ?_
  by_cases k2 : k = 2
  · (try simp (implicitDefEqProofs := false) (maxSteps := 2000000) only [go_sem, ↓reduceIte, Nat.reduceEqDiff, reduceCtorEq, Nat.reduceAdd, Nat.reduceSub, Nat.reduceLeDiff, Nat.reduceLT, Nat.reduceMul, Int.reduceToNat, Int.reduceLT, Int.reduceLE, Cn.cells, show (k == 2) = true from by simpa using k2])
    simp [Cn.straight, crossK, k2]
  by_cases k3 : k = 3
  · (try simp (implicitDefEqProofs := false) (maxSteps := 2000000) only [go_sem, ↓reduceIte, Nat.reduceEqDiff, reduceCtorEq, Nat.reduceAdd, Nat.reduceSub, Nat.reduceLeDiff, Nat.reduceLT, Nat.reduceMul, Int.reduceToNat, Int.reduceLT, Int.reduceLE, Cn.cells, show (k == 2) = false from by simpa using k2, show (k == 3) = true from by simpa using k3])
    simp [Cn.straight, crossK, k3]
  by_cases k1 : k = 1
  · (try simp (implicitDefEqProofs := false) (maxSteps := 2000000) only [go_sem, ↓reduceIte, Nat.reduceEqDiff, reduceCtorEq, Nat.reduceAdd, Nat.reduceSub, Nat.reduceLeDiff, Nat.reduceLT, Nat.reduceMul, Int.reduceToNat, Int.reduceLT, Int.reduceLE, Cn.cells, show (k == 2) = false from by simpa using k2, show (k == 3) = false from by simpa using k3, show (k == 1) = true from by simpa using k1])
    simp [Cn.straight, crossK, k1]
  have e0 : (Cn.mk k ty to lab neg ks).straight = Cn.straightL ks := by simp [Cn.straight, crossK, k1, k2, k3]
  (try simp (implicitDefEqProofs := false) (maxSteps := 2000000) only [go_sem, ↓reduceIte, Nat.reduceEqDiff, reduceCtorEq, Nat.reduceAdd, Nat.reduceSub, Nat.reduceLeDiff, Nat.reduceLT, Nat.reduceMul, Int.reduceToNat, Int.reduceLT, Int.reduceLE, Cn.cells, Cn.cellsL_len, show (k == 2) = false from by simpa using k2, show (k == 3) = false from by simpa using k3, show (k == 1) = false from by simpa using k1])
  refine ⟨fun n σ => ∃ j, j ≤ ks.length ∧ n = ks.length - j ∧ Cn.straightL ks = Cn.straightL (ks.drop j) ∧ σ = ⟨[(19, .imm false (.slice (Cn.cellsL ks))), (20, .imm true (.int .i64 ks.length)), (21, .imm true (.int .i64 j))], [], []⟩, ⟨_, 0, by omega, rfl, rfl, rfl⟩, ?_⟩
  rintro n σ ⟨j, hj, rfl, hs, rfl⟩
  unfold l19_0
  (try simp (implicitDefEqProofs := false) (maxSteps := 2000000) only [go_sem, ↓reduceIte, Nat.reduceEqDiff, reduceCtorEq, Nat.reduceAdd, Nat.reduceSub, Nat.reduceLeDiff, Nat.reduceLT, Nat.reduceMul, Int.reduceToNat, Int.reduceLT, Int.reduceLE, CondOn_imm])
  refine ⟨fun hlt => ?_, fun hlt => ?_⟩
  · have hlt : j < ks.length := by simpa using hlt
    obtain ⟨c, hm, hat, hdr, _⟩ := Cn.kid hlt
    rw [hdr, Cn.straightL] at hs
    have ihc := ih c hm (Cn.fitsL_mem hf.2.2.2.2 _ hm)
    obtain ⟨k', ty', to', lab', neg', ks'⟩ := c
    simp only [Cn.cells] at hat ihc
    (try simp (implicitDefEqProofs := false) (maxSteps := 2000000) only [go_sem, ↓reduceIte, Nat.reduceEqDiff, reduceCtorEq, Nat.reduceAdd, Nat.reduceSub, Nat.reduceLeDiff, Nat.reduceLT, Nat.reduceMul, Int.reduceToNat, Int.reduceLT, Int.reduceLE, hat, Int.toNat_natCast, Int.natCast_nonneg])
    refine CallK_do ihc ?_
    cases hb : (Cn.mk k' ty' to' lab' neg' ks').straight with
    | false =>
      (try simp (implicitDefEqProofs := false) (maxSteps := 2000000) only [go_sem, ↓reduceIte, Nat.reduceEqDiff, reduceCtorEq, Nat.reduceAdd, Nat.reduceSub, Nat.reduceLeDiff, Nat.reduceLT, Nat.reduceMul, Int.reduceToNat, Int.reduceLT, Int.reduceLE])
      rw [e0, hs, hb]; simp
    | true =>
      (try simp (implicitDefEqProofs := false) (maxSteps := 2000000) only [go_sem, ↓reduceIte, Nat.reduceEqDiff, reduceCtorEq, Nat.reduceAdd, Nat.reduceSub, Nat.reduceLeDiff, Nat.reduceLT, Nat.reduceMul, Int.reduceToNat, Int.reduceLT, Int.reduceLE, wrap64 (n := (j : Int) + 1) (by omega) (by omega)])
      exact ⟨_, by omega, j + 1, by omega, rfl, by rw [hs, hb, Bool.true_and], rfl⟩
  · have hge : j = ks.length := by have : ¬ j < ks.length := by simpa using hlt
                                   omega
    subst hge
    (try simp (implicitDefEqProofs := false) (maxSteps := 2000000) only [go_sem, ↓reduceIte, Nat.reduceEqDiff, reduceCtorEq, Nat.reduceAdd, Nat.reduceSub, Nat.reduceLeDiff, Nat.reduceLT, Nat.reduceMul, Int.reduceToNat, Int.reduceLT, Int.reduceLE])
    rw [e0, hs]; simp [Cn.straightL]

theorem whole0_does : Does Try.prog 12 [.imm false (.agg Cn.zero.cells), .imm false (.agg Cn.zero.cells)] [] (.ret true (.bool true)) [] := by
  rw [zero_cells]
  refine does12 (by rfl) (by rfl) ?_
  (try simp (implicitDefEqProofs := false) (maxSteps := 2000000) only [go_sem, ↓reduceIte, Nat.reduceEqDiff, reduceCtorEq, Nat.reduceAdd, Nat.reduceSub, Nat.reduceLeDiff, Nat.reduceLT, Nat.reduceMul, Int.reduceToNat, Int.reduceLT, Int.reduceLE, show ((0 : Int) != 0) = false from rfl, show (false == false) = true from rfl, ncast0, Bool.not_true])
  refine CallK_do kind0_does ?_
  (try simp (implicitDefEqProofs := false) (maxSteps := 2000000) only [go_sem, ↓reduceIte, Nat.reduceEqDiff, reduceCtorEq, Nat.reduceAdd, Nat.reduceSub, Nat.reduceLeDiff, Nat.reduceLT, Nat.reduceMul, Int.reduceToNat, Int.reduceLT, Int.reduceLE, Bool.not_true])
  refine CallK_do kind0_does ?_
  (try simp (implicitDefEqProofs := false) (maxSteps := 2000000) only [go_sem, ↓reduceIte, Nat.reduceEqDiff, reduceCtorEq, Nat.reduceAdd, Nat.reduceSub, Nat.reduceLeDiff, Nat.reduceLT, Nat.reduceMul, Int.reduceToNat, Int.reduceLT, Int.reduceLE, Bool.not_true, ncast0])
  refine ⟨fun n σ => n = 0 ∧ σ = ⟨[(2, .imm false (.ptr [.int .i8 0, .int .i8 0, .slice [], .int .i8 0, .slice [], .int .i64 0, .bool false, .slice []] 0)), (3, .imm false (.ptr [.int .i8 0, .int .i8 0, .slice [], .int .i8 0, .slice [], .int .i64 0, .bool false, .slice []] 0)), (52, .imm true (.int .i64 0)), (53, .imm true (.int .i64 0))], [], []⟩, ⟨_, rfl, rfl⟩, ?_⟩
  rintro n σ ⟨rfl, rfl⟩
  unfold l12_0
  (try simp (implicitDefEqProofs := false) (maxSteps := 2000000) only [go_sem, ↓reduceIte, Nat.reduceEqDiff, reduceCtorEq, Nat.reduceAdd, Nat.reduceSub, Nat.reduceLeDiff, Nat.reduceLT, Nat.reduceMul, Int.reduceToNat, Int.reduceLT, Int.reduceLE, show decide ((0 : Int) < 0) = false from rfl])

/-! ### all sides changed -/
mutual
def Cn.sides : Cn → Cn
  | .mk k ty to lab neg ks => .mk k ty to lab (if k = 3 ∨ k = 1 then !neg else neg) (Cn.sidesL ks)
def Cn.sidesL : List Cn → List Cn
  | [] => []
  | c :: r => c.sides :: Cn.sidesL r
end
theorem sides_does : ∀ c : Cn, c.fits → c.ends.2.2 = true → Does Try.prog 18 [.imm false (.agg c.cells)] [] (.ret false (.agg c.sides.cells)) [] := by
  refine Cn.ind fun k ty to lab neg ks ih hf he => ?_
  refine does18 (by rfl) (by rfl) ?_
  have tailN : ∀ (n1 : Bool) (g : Bool), n1 = (if k = 3 ∨ k = 1 then !neg else neg) →
      awp Try.prog (.seq r18_3 (.seq (.seq r18_4 (.block 0 (.loop l18_0))) (.seq r18_9 (.seq r18_10 .ret)))) (Fin [MR.c 2 (some 8)] (.ret false (.agg (Cn.mk k ty to lab neg ks).sides.cells)) [])
        ⟨[(1, .loc (.own 1) 0), (2, .loc (.own 2) 0)], [(.own 1, .var [.imm false (.int .i8 k), .imm false (.int .i8 ty.k), .imm false (.slice (Ty.cellsL ty.ts)), .imm false (.int .i8 to.k), .imm false (.slice (Ty.cellsL to.ts)), .imm false (.int .i64 lab), .imm g (.bool n1), .imm false (.slice (Cn.cellsL ks))]),
          (.own 2, .var [.imm true (.int .i8 0), .imm true (.int .i8 0), .nils, .imm true (.int .i8 0), .nils, .imm true (.int .i64 0), .imm true (.bool false), .nils])], []⟩ := by
    intro n1 g hn1
    have e0 : (Cn.mk k ty to lab neg ks).sides = .mk k ty to lab n1 (Cn.sidesL ks) := by simp only [Cn.sides, hn1]
    rw [e0]
    let B1 : LV → Box := fun v => .var [.imm false (.int .i8 k), .imm false (.int .i8 ty.k), .imm false (.slice (Ty.cellsL ty.ts)), .imm false (.int .i8 to.k), .imm false (.slice (Ty.cellsL to.ts)), .imm false (.int .i64 lab), .imm g (.bool n1), v]
    let B2 : Box := .var [.imm true (.int .i8 0), .imm true (.int .i8 0), .nils, .imm true (.int .i8 0), .nils, .imm true (.int .i64 0), .imm true (.bool false), .nils]
    rcases ends_shape he with ⟨rfl, _, _⟩ | ⟨a, b, rfl, _, ha, hb⟩
    · (try simp (implicitDefEqProofs := false) (maxSteps := 2000000) only [go_sem, ↓reduceIte, Nat.reduceEqDiff, reduceCtorEq, Nat.reduceAdd, Nat.reduceSub, Nat.reduceLeDiff, Nat.reduceLT, Nat.reduceMul, Int.reduceToNat, Int.reduceLT, Int.reduceLE, Cn.cellsL, Cn.sidesL, ncast0, Cn.cells])
      refine ⟨fun n σ => n = 0 ∧ σ = ⟨[(1, .loc (.own 1) 0), (2, .loc (.own 2) 0), (3, .nils), (19, .imm false (.slice [])), (20, .imm true (.int .i64 0)), (21, .imm true (.int .i64 0))], [(.own 1, B1 (.imm false (.slice []))), (.own 2, B2)], []⟩, ⟨_, rfl, rfl⟩, ?_⟩
      rintro n σ ⟨rfl, rfl⟩
      unfold l18_0
      (try simp (implicitDefEqProofs := false) (maxSteps := 2000000) only [go_sem, ↓reduceIte, Nat.reduceEqDiff, reduceCtorEq, Nat.reduceAdd, Nat.reduceSub, Nat.reduceLeDiff, Nat.reduceLT, Nat.reduceMul, Int.reduceToNat, Int.reduceLT, Int.reduceLE, B1, B2, show decide ((0 : Int) < 0) = false from rfl])
    · have hk := hf.2.2.2.2
      have h1 := ih a (by simp) hk.1 ha
      have h2 := ih b (by simp) hk.2.1 hb
      have hla := Cn.cells_len a
      have hlb := Cn.cells_len b
      simp only [Cn.sidesL]
      generalize a.sides = a' at h1
      generalize b.sides = b' at h2
      obtain ⟨k1, ty1, to1, lab1, neg1, ks1⟩ := a'
      obtain ⟨k2, ty2, to2, lab2, neg2, ks2⟩ := b'
      obtain ⟨k3, ty3, to3, lab3, neg3, ks3⟩ := a
      obtain ⟨k4, ty4, to4, lab4, neg4, ks4⟩ := b
      (try simp (implicitDefEqProofs := false) (maxSteps := 2000000) only [go_sem, ↓reduceIte, Nat.reduceEqDiff, reduceCtorEq, Nat.reduceAdd, Nat.reduceSub, Nat.reduceLeDiff, Nat.reduceLT, Nat.reduceMul, Int.reduceToNat, Int.reduceLT, Int.reduceLE, Cn.cellsL, ncast2, Cn.cells])
      simp only [Cn.cells] at h1 h2
      let L : List (List IV) := [(Cn.mk k3 ty3 to3 lab3 neg3 ks3).cells, (Cn.mk k4 ty4 to4 lab4 neg4 ks4).cells]
      let S : Int → LV → List (Key × Box) → St := fun j v r => ⟨[(1, .loc (.own 1) 0), (2, .loc (.own 2) 0), (3, v), (19, .imm false (.slice L)), (20, .imm true (.int .i64 2)), (21, .imm true (.int .i64 j))], (.own 1, B1 (.imm false (.slice L))) :: (.own 2, B2) :: r, []⟩
      refine ⟨fun n σ => (n = 2 ∧ σ = S 0 .nils []) ∨ (n = 1 ∧ σ = S 1 (.row (.own 29) 1) [(.own 29, .row 28 8 [(Cn.mk k1 ty1 to1 lab1 neg1 ks1).cells.map (.imm false)])]) ∨
        (n = 0 ∧ σ = S 2 (.row (.own 29) 2) [(.own 29, .row 28 8 [(Cn.mk k1 ty1 to1 lab1 neg1 ks1).cells.map (.imm false), (Cn.mk k2 ty2 to2 lab2 neg2 ks2).cells.map (.imm false)])]), ⟨_, .inl ⟨rfl, by simp only [S, L, B1, B2, Cn.cells]⟩⟩, ?_⟩
      rintro n σ (⟨rfl, rfl⟩ | ⟨rfl, rfl⟩ | ⟨rfl, rfl⟩)
      · unfold l18_0
        (try simp (implicitDefEqProofs := false) (maxSteps := 2000000) only [go_sem, ↓reduceIte, Nat.reduceEqDiff, reduceCtorEq, Nat.reduceAdd, Nat.reduceSub, Nat.reduceLeDiff, Nat.reduceLT, Nat.reduceMul, Int.reduceToNat, Int.reduceLT, Int.reduceLE, S, L, B1, B2, Cn.cells, show decide ((0 : Int) < 2) = true from rfl])
        refine CallK_do h1 ?_
        (try simp (implicitDefEqProofs := false) (maxSteps := 2000000) only [go_sem, ↓reduceIte, Nat.reduceEqDiff, reduceCtorEq, Nat.reduceAdd, Nat.reduceSub, Nat.reduceLeDiff, Nat.reduceLT, Nat.reduceMul, Int.reduceToNat, Int.reduceLT, Int.reduceLE, wrap01])
        exact ⟨1, by omega, by simp⟩
      · unfold l18_0
        (try simp (implicitDefEqProofs := false) (maxSteps := 2000000) only [go_sem, ↓reduceIte, Nat.reduceEqDiff, reduceCtorEq, Nat.reduceAdd, Nat.reduceSub, Nat.reduceLeDiff, Nat.reduceLT, Nat.reduceMul, Int.reduceToNat, Int.reduceLT, Int.reduceLE, S, L, B1, B2, Cn.cells, show decide ((1 : Int) < 2) = true from rfl])
        refine CallK_do h2 ?_
        (try simp (implicitDefEqProofs := false) (maxSteps := 2000000) only [go_sem, ↓reduceIte, Nat.reduceEqDiff, reduceCtorEq, Nat.reduceAdd, Nat.reduceSub, Nat.reduceLeDiff, Nat.reduceLT, Nat.reduceMul, Int.reduceToNat, Int.reduceLT, Int.reduceLE, wrap12])
        exact ⟨0, by omega, by simp⟩
      · unfold l18_0
        (try simp (implicitDefEqProofs := false) (maxSteps := 2000000) only [go_sem, ↓reduceIte, Nat.reduceEqDiff, reduceCtorEq, Nat.reduceAdd, Nat.reduceSub, Nat.reduceLeDiff, Nat.reduceLT, Nat.reduceMul, Int.reduceToNat, Int.reduceLT, Int.reduceLE, S, L, B1, B2, Cn.cells, show decide ((2 : Int) < 2) = false from rfl])
  by_cases k3 : k = 3
  · have := tailN (!neg) true (by simp [k3])
    (try simp (implicitDefEqProofs := false) (maxSteps := 2000000) only [go_sem, ↓reduceIte, Nat.reduceEqDiff, reduceCtorEq, Nat.reduceAdd, Nat.reduceSub, Nat.reduceLeDiff, Nat.reduceLT, Nat.reduceMul, Int.reduceToNat, Int.reduceLT, Int.reduceLE] at this)
    (try simp (implicitDefEqProofs := false) (maxSteps := 2000000) only [go_sem, ↓reduceIte, Nat.reduceEqDiff, reduceCtorEq, Nat.reduceAdd, Nat.reduceSub, Nat.reduceLeDiff, Nat.reduceLT, Nat.reduceMul, Int.reduceToNat, Int.reduceLT, Int.reduceLE, Cn.cells, show (k == 3) = true from by simpa using k3])
    exact this
  by_cases k1 : k = 1
  · have := tailN (!neg) true (by simp [k1])
    (try simp (implicitDefEqProofs := false) (maxSteps := 2000000) only [go_sem, ↓reduceIte, Nat.reduceEqDiff, reduceCtorEq, Nat.reduceAdd, Nat.reduceSub, Nat.reduceLeDiff, Nat.reduceLT, Nat.reduceMul, Int.reduceToNat, Int.reduceLT, Int.reduceLE] at this)
    (try simp (implicitDefEqProofs := false) (maxSteps := 2000000) only [go_sem, ↓reduceIte, Nat.reduceEqDiff, reduceCtorEq, Nat.reduceAdd, Nat.reduceSub, Nat.reduceLeDiff, Nat.reduceLT, Nat.reduceMul, Int.reduceToNat, Int.reduceLT, Int.reduceLE, Cn.cells, show (k == 3) = false from by simpa using k3, show (k == 1) = true from by simpa using k1])
    exact this
  · have := tailN neg false (by simp [k1, k3])
    (try simp (implicitDefEqProofs := false) (maxSteps := 2000000) only [go_sem, ↓reduceIte, Nat.reduceEqDiff, reduceCtorEq, Nat.reduceAdd, Nat.reduceSub, Nat.reduceLeDiff, Nat.reduceLT, Nat.reduceMul, Int.reduceToNat, Int.reduceLT, Int.reduceLE] at this)
    (try simp (implicitDefEqProofs := false) (maxSteps := 2000000) only [go_sem, ↓reduceIte, Nat.reduceEqDiff, reduceCtorEq, Nat.reduceAdd, Nat.reduceSub, Nat.reduceLeDiff, Nat.reduceLT, Nat.reduceMul, Int.reduceToNat, Int.reduceLT, Int.reduceLE, Cn.cells, show (k == 3) = false from by simpa using k3, show (k == 1) = false from by simpa using k1])
    exact this
end Go.Proofs.Ytopgmopdjiahmaa.Lg

/- Coercions of casts: where they go; plain law. Conditions: none; plain lemmas. -/
set_option linter.unusedVariables false
set_option linter.unusedSimpArgs false
set_option maxRecDepth 100000
namespace Go.Proofs.Ytopgmopdjiahmaa.Lg
open Go Go.RowKit Go.Proofs

mutual
theorem Ty.eqv_refl : ∀ t : Ty, t.eqv t = true
  | .mk k ts => by simp only [Ty.eqv, beq_self_eq_true, Bool.true_and]; exact Ty.eqvL_refl ts
theorem Ty.eqvL_refl : ∀ ts : List Ty, Ty.eqvL ts ts = true
  | [] => rfl
  | t :: r => by simp only [Ty.eqvL, Ty.eqv_refl t, Ty.eqvL_refl r, Bool.and_self]
end
theorem Ty.same_refl {t : Ty} (h : t.check = 0) : t.same t = true := by simp [Ty.same, h, Ty.eqv_refl]

theorem ground_of {k : Int} {ts : List Ty} (h : (Ty.mk k ts).check = 0) (hk : k ≠ 0) : (Ty.mk k ts).ground.1.check = 0 ∧ (Ty.mk k ts).ground.1.isG = true ∧ (Ty.mk k ts).ground.1.k = k := by
  rcases right_shape (check_iff.1 h).2.2 with ⟨rfl, _⟩ | ⟨a, b, rfl, _, _, _⟩
  · have e := ground_base h hk
    refine ⟨by rw [e]; exact h, ?_, by rw [e]; rfl⟩
    rw [e]
    have e2 : (Ty.mk k []).ground.2 = true := by simp [Ty.ground, h, Ty.k, hk]
    simp [Ty.isG, e2, e, Ty.same_refl h]
  · have e := ground_pair h hk
    have h2 := (unun h hk).1
    have e3 := ground_pair h2 hk
    refine ⟨by rw [e]; exact h2, ?_, by rw [e]; rfl⟩
    rw [e]
    have e2 : (Ty.mk k [.un, .un]).ground.2 = true := by simp [Ty.ground, h2, Ty.k, hk]
    simp [Ty.isG, e2, e3, Ty.same_refl h2]

theorem right_zero {us : List Ty} (h : (Ty.mk 0 us).check = 0) : us = [] := by
  rcases right_shape (check_iff.1 h).2.2 with ⟨h, _⟩ | ⟨a, b, _, hk, _⟩
  · exact h
  · omega
theorem right_base {k : Int} {us : List Ty} (h : (Ty.mk k []).check = 0) (h' : (Ty.mk k us).check = 0) : us = [] := by
  rcases right_shape (check_iff.1 h).2.2 with ⟨_, hk⟩ | ⟨a, b, he, _⟩
  · rcases right_shape (check_iff.1 h').2.2 with ⟨h, _⟩ | ⟨a, b, _, hk2, _⟩
    · exact h
    · omega
  · cases he

theorem OfR.ends {lab : Int} (hl : labOk lab = true) {neg : Bool} {a b : Ty} {c : Cn} (h : OfR lab neg a b c) : a.check = 0 → b.check = 0 → c.ends = (a, b, true) := by
  induction h with
  | id neg k us =>
    intro ha hb
    have := right_base ha hb
    subst this
    simp [Cn.ends, leafF, leafE, ha]
  | inn neg k ts us c hk hc h ih =>
    intro ha hb
    have := right_zero hb
    subst this
    obtain ⟨g1, g2, g3⟩ := ground_of hc hk
    have e := ih ha g1
    simp only [part, Cn.ends, Cn.endsL, leafF, partsL, e, leafE]
    simp [g1, g2, partsE, Ty.same_refl g1, Ty.un]
  | out neg k ts us c hk hc h ih =>
    intro ha hb
    have := right_zero ha
    subst this
    obtain ⟨g1, g2, g3⟩ := ground_of hc hk
    have e := ih g1 hb
    simp only [part, Cn.ends, Cn.endsL, leafF, partsL, e, leafE]
    simp [g1, g2, hl, partsE, Ty.same_refl g1, Ty.un]
  | fn neg f0 f1 t0 t1 c d h h' ih ih' =>
    intro ha hb
    obtain ⟨a0, a1, _, _⟩ := check_pair ha
    obtain ⟨b0, b1, _, _⟩ := check_pair hb
    have e := ih b0 a0
    have e' := ih' a1 b1
    simp [part, Cn.ends, Cn.endsL, leafF, partsL, e, e', partsE]
  | two neg k f0 f1 t0 t1 c d hk h h' ih ih' =>
    intro ha hb
    obtain ⟨a0, a1, _, _⟩ := check_pair ha
    obtain ⟨b0, b1, _, _⟩ := check_pair hb
    have e := ih a0 b0
    have e' := ih' a1 b1
    rcases hk with rfl | rfl
    · simp [part, Cn.ends, Cn.endsL, leafF, partsL, e, e', partsE]
    · simp [part, Cn.ends, Cn.endsL, leafF, partsL, e, e', partsE]
end Go.Proofs.Ytopgmopdjiahmaa.Lg

/- Coercions of casts: heights, sides, sameness; plain law. Conditions: none; plain lemmas. -/
set_option linter.unusedVariables false
set_option linter.unusedSimpArgs false
set_option maxRecDepth 100000
namespace Go.Proofs.Ytopgmopdjiahmaa.Lg
open Go Go.RowKit Go.Proofs

theorem Cn.same_refl : ∀ c : Cn, c.ends.2.2 = true → c.same c = true := by
  refine Cn.ind fun k ty to lab neg ks ih he => ?_
  rcases ends_shape he with ⟨rfl, hk, hc⟩ | ⟨a, b, rfl, hk, ha, hb⟩
  · have h1 := Ty.same_refl hc
    have h2 : k = 1 → to.same to = true := by
      rintro rfl
      refine Ty.same_refl ?_
      simp only [Cn.ends, leafF, leafE] at he
      simpa [hc] using (by simpa [hc, Bool.and_eq_true] using he : _ ∧ to.check = 0).2
    by_cases k1 : k = 1
    · simp [Cn.same, headSame, h1, h2 k1, Cn.sameL]
    · simp [Cn.same, headSame, h1, k1, Cn.sameL]
  · have h1 := ih a (by simp) ha
    have h2 := ih b (by simp) hb
    have hlk : leafF k = false := by rcases hk with rfl | rfl | rfl | rfl <;> rfl
    have k1 : k ≠ 1 := by omega
    simp [Cn.same, headSame, hlk, k1, Cn.sameL, h1, h2]

theorem ground_high {k : Int} {ts : List Ty} (h : (Ty.mk k ts).check = 0) (hk : k ≠ 0) : (Ty.mk k ts).ground.1.high ≤ (Ty.mk k ts).high := by
  rcases right_shape (check_iff.1 h).2.2 with ⟨rfl, _⟩ | ⟨a, b, rfl, _, _, _⟩
  · rw [ground_base h hk]; omega
  · rw [ground_pair h hk]
    have := (unun h hk).2.1
    have e : (Ty.mk k [.un, .un]).rank = (Ty.mk k [.un, .un]).high := by simp [Ty.rank, Ty.k, hk]
    omega
theorem OfR.height {lab : Int} {neg : Bool} {a b : Ty} {c : Cn} (h : OfR lab neg a b c) : a.check = 0 → b.check = 0 → c.height ≤ maxI a.high b.high := by
  induction h with
  | id neg k us =>
    intro ha hb
    have := Ty.high_pos (.mk k [])
    have := (le_maxI (a := (Ty.mk k []).high) (b := (Ty.mk k us).high)).1
    simp [Cn.height]; omega
  | inn neg k ts us c hk hc h ih =>
    intro ha hb
    have e := ih ha (ground_of hc hk).1
    have g := ground_high hc hk
    have m := (le_maxI (a := (Ty.mk k ts).high) (b := (Ty.mk 0 us).high)).1
    have e2 : maxI (Ty.mk k ts).high (Ty.mk k ts).ground.1.high ≤ (Ty.mk k ts).high := maxI_le (by omega) g
    simp only [part, Cn.height, Cn.heightL]
    simp
    exact maxI_le (by omega) (by omega)
  | out neg k ts us c hk hc h ih =>
    intro ha hb
    have e := ih (ground_of hc hk).1 hb
    have g := ground_high hc hk
    have m := (le_maxI (a := (Ty.mk 0 us).high) (b := (Ty.mk k ts).high)).2
    have e2 : maxI (Ty.mk k ts).ground.1.high (Ty.mk k ts).high ≤ (Ty.mk k ts).high := maxI_le g (by omega)
    simp only [part, Cn.height, Cn.heightL]
    simp
    exact maxI_le (by omega) (by omega)
  | fn neg f0 f1 t0 t1 c d h h' ih ih' =>
    intro ha hb
    obtain ⟨a0, a1, a2, a3⟩ := check_pair ha
    obtain ⟨b0, b1, b2, b3⟩ := check_pair hb
    have e := ih b0 a0
    have e' := ih' a1 b1
    have m := le_maxI (a := (Ty.mk 3 [f0, f1]).high) (b := (Ty.mk 3 [t0, t1]).high)
    have e1 : c.height ≤ maxI (Ty.mk 3 [f0, f1]).high (Ty.mk 3 [t0, t1]).high - 1 := Int.le_trans e (maxI_le (by omega) (by omega))
    have e2 : d.height ≤ maxI (Ty.mk 3 [f0, f1]).high (Ty.mk 3 [t0, t1]).high - 1 := Int.le_trans e' (maxI_le (by omega) (by omega))
    have e3 := maxI_le e1 e2
    simp only [part, Cn.height, Cn.heightL]
    simp
    omega
  | two neg k f0 f1 t0 t1 c d hk h h' ih ih' =>
    intro ha hb
    obtain ⟨a0, a1, a2, a3⟩ := check_pair ha
    obtain ⟨b0, b1, b2, b3⟩ := check_pair hb
    have e := ih a0 b0
    have e' := ih' a1 b1
    have m := le_maxI (a := (Ty.mk k [f0, f1]).high) (b := (Ty.mk k [t0, t1]).high)
    have e1 : c.height ≤ maxI (Ty.mk k [f0, f1]).high (Ty.mk k [t0, t1]).high - 1 := Int.le_trans e (maxI_le (by omega) (by omega))
    have e2 : d.height ≤ maxI (Ty.mk k [f0, f1]).high (Ty.mk k [t0, t1]).high - 1 := Int.le_trans e' (maxI_le (by omega) (by omega))
    have e3 := maxI_le e1 e2
    rcases hk with rfl | rfl
    · simp only [part, Cn.height, Cn.heightL]
      simp
      omega
    · simp only [part, Cn.height, Cn.heightL]
      simp
      omega

theorem OfR.sides {lab : Int} {neg : Bool} {a b : Ty} {c : Cn} (h : OfR lab neg a b c) : OfR lab (!neg) a b c.sides := by
  induction h with
  | id neg k us => simpa [Cn.sides, Cn.sidesL] using OfR.id (lab := lab) (!neg) k us
  | inn neg k ts us c hk hc h ih => simpa [part, Cn.sides, Cn.sidesL] using OfR.inn (!neg) k ts us _ hk hc ih
  | out neg k ts us c hk hc h ih => simpa [part, Cn.sides, Cn.sidesL] using OfR.out (!neg) k ts us _ hk hc ih
  | fn neg f0 f1 t0 t1 c d h h' ih ih' => simpa [part, Cn.sides, Cn.sidesL] using OfR.fn (!neg) f0 f1 t0 t1 _ _ ih ih'
  | two neg k f0 f1 t0 t1 c d hk h h' ih ih' =>
    rcases hk with rfl | rfl
    · simpa [part, Cn.sides, Cn.sidesL] using OfR.two (!neg) 4 f0 f1 t0 t1 _ _ (.inl rfl) ih ih'
    · simpa [part, Cn.sides, Cn.sidesL] using OfR.two (!neg) 5 f0 f1 t0 t1 _ _ (.inr rfl) ih ih'

theorem OfR.straight {lab : Int} {neg : Bool} {a b : Ty} {c : Cn} (h : OfR lab neg a b c) : a = b → c.straight = true := by
  induction h with
  | id neg k us => intro _; simp [Cn.straight, Cn.straightL, crossK]
  | inn neg k ts us c hk hc h ih => intro e; simp only [Ty.mk.injEq] at e; exact absurd e.1 hk
  | out neg k ts us c hk hc h ih => intro e; simp only [Ty.mk.injEq] at e; exact absurd e.1.symm hk
  | fn neg f0 f1 t0 t1 c d h h' ih ih' =>
    intro e
    simp only [Ty.mk.injEq, List.cons.injEq, and_true, true_and] at e
    simp [part, Cn.straight, Cn.straightL, crossK, ih e.1.symm, ih' e.2]
  | two neg k f0 f1 t0 t1 c d hk h h' ih ih' =>
    intro e
    simp only [Ty.mk.injEq, List.cons.injEq, and_true, true_and] at e
    rcases hk with rfl | rfl <;> simp [part, Cn.straight, Cn.straightL, crossK, ih e.1, ih' e.2]
end Go.Proofs.Ytopgmopdjiahmaa.Lg

/- Coercions of casts: there is one; sides do not count for the check; plain law. Conditions: none; plain lemmas. -/
set_option linter.unusedVariables false
set_option linter.unusedSimpArgs false
set_option maxRecDepth 100000
namespace Go.Proofs.Ytopgmopdjiahmaa.Lg
open Go Go.RowKit Go.Proofs

mutual
theorem Cn.sides_down : ∀ (c : Cn) (n : Int), c.sides.down n = c.down n
  | .mk k ty to lab neg ks, n => by simp only [Cn.sides, Cn.down]; exact Cn.sidesL_down ks _
theorem Cn.sidesL_down : ∀ (ks : List Cn) (m : Int), Cn.downL (Cn.sidesL ks) m = Cn.downL ks m
  | [], m => rfl
  | c :: r, m => by simp only [Cn.sidesL, Cn.downL, Cn.sides_down c, Cn.sidesL_down r]
end
mutual
theorem Cn.sides_deep : ∀ (c : Cn) (n : Int), c.sides.deep n = c.deep n
  | .mk k ty to lab neg ks, n => by simp only [Cn.sides, Cn.deep, Cn.sidesL_deep ks]
theorem Cn.sidesL_deep : ∀ (ks : List Cn) (n d : Int), Cn.deepL (Cn.sidesL ks) n d = Cn.deepL ks n d
  | [], n, d => rfl
  | c :: r, n, d => by simp only [Cn.sidesL, Cn.deepL, Cn.sides_deep c, Cn.sidesL_deep r]
end
mutual
theorem Cn.sides_ends : ∀ c : Cn, c.sides.ends = c.ends
  | .mk k ty to lab neg ks => by
    have e : (Cn.sidesL ks).isEmpty = ks.isEmpty := by cases ks <;> simp [Cn.sidesL]
    simp only [Cn.sides, Cn.ends, Cn.sidesL_ends ks, e]
theorem Cn.sidesL_ends : ∀ ks : List Cn, Cn.endsL (Cn.sidesL ks) = Cn.endsL ks
  | [] => rfl
  | c :: r => by simp only [Cn.sidesL, Cn.endsL, Cn.sides_ends c, Cn.sidesL_ends r]
end
theorem Cn.sides_chk (c : Cn) : c.sides.chk = c.chk := by
  have h : c.sides.few = c.few := by simp [Cn.few, Cn.sides_down]
  unfold Cn.chk
  rw [h, Cn.sides_deep, Cn.sides_ends]

theorem OfR.det {lab : Int} {neg : Bool} {a b : Ty} {c : Cn} (h : OfR lab neg a b c) : ∀ {d : Cn}, OfR lab neg a b d → c = d := by
  induction h with
  | id neg k us =>
    intro d hd
    cases hd with
    | id => rfl
    | inn _ _ _ _ c hk hc h => exact absurd rfl hk
    | out _ _ _ _ c hk hc h => exact absurd rfl hk
  | inn neg k ts us c hk hc h ih =>
    intro d hd
    cases hd with
    | id => exact absurd rfl hk
    | inn _ _ _ _ c' hk' hc' h' => rw [ih h']
    | out _ _ _ _ c' hk' hc' h' => exact absurd rfl hk
    | two _ _ _ _ _ _ _ _ hk' => omega
  | out neg k ts us c hk hc h ih =>
    intro d hd
    cases hd with
    | id => exact absurd rfl hk
    | inn _ _ _ _ c' hk' hc' h' => exact absurd rfl hk
    | out _ _ _ _ c' hk' hc' h' => rw [ih h']
    | two _ _ _ _ _ _ _ _ hk' => omega
  | fn neg f0 f1 t0 t1 c d h h' ih ih' =>
    intro e he
    cases he with
    | fn _ _ _ _ _ c' d' g g' => rw [ih g, ih' g']
    | two _ _ _ _ _ _ _ _ hk' => omega
  | two neg k f0 f1 t0 t1 c d hk h h' ih ih' =>
    intro e he
    cases he with
    | inn _ _ _ _ c' hk' hc' h' => omega
    | out _ _ _ _ c' hk' hc' h' => omega
    | fn _ _ _ _ _ c' d' g g' => omega
    | two _ _ _ _ _ _ c' d' hk' g g' => rw [ih g, ih' g']
end Go.Proofs.Ytopgmopdjiahmaa.Lg

/- CoerceGoes: the law's walk. Conditions: none; plain lemmas. -/
set_option linter.unusedVariables false
set_option linter.unusedSimpArgs false
set_option maxRecDepth 100000
set_option maxHeartbeats 1000000
namespace Go.Proofs.Ytopgmopdjiahmaa.Lg
open Go Go.RowKit Go.Proofs

theorem OfA.zero {a b : Ty} {lab : Int} {c : Cn} {e : Int} (h : OfA a b lab c e) (he : e ≠ 0) : c = .zero := by
  cases h <;> first | rfl | exact absurd rfl he
theorem OfA.good {a b : Ty} {lab : Int} {c : Cn} {e : Int} (h : OfA a b lab c e) (he : e = 0) : a.check = 0 ∧ b.check = 0 ∧ a.lev b = true ∧ labIn lab = true ∧ OfR (labN lab) (labS lab) a b c ∧ c.chk.2.2 = 0 := by
  cases h with
  | e1 h => exact absurd he h
  | e2 h h' => exact absurd he h'
  | e3 => omega
  | e4 c h h' h2 h3 hc hz => exact absurd he hz
  | ok c h h' h2 h3 hc hz => exact ⟨h, h', h2, h3, hc, hz⟩
theorem labOk_N {lab : Int} (h : labIn lab = true) : labOk (labN lab) = true := by
  have h := of_decide_eq_true h
  have hb : 1 ≤ labN lab ∧ labN lab ≤ 2147483648 := by unfold labN; split <;> omega
  simp only [labOk, Bool.and_eq_true, decide_eq_true_eq]
  omega
/-- with the label's side changed -/
theorem OfA.neg {a b : Ty} {lab : Int} {c d : Cn} {e f : Int} (h : OfA a b lab c e) (he : e = 0) (h' : OfA a b (0 - lab) d f) : f = 0 ∧ d = c.sides := by
  obtain ⟨h1, h2, h3, h4, h5, h6⟩ := h.good he
  have hin := of_decide_eq_true h4
  have hin' : labIn (0 - lab) = true := decide_eq_true ⟨by omega, by omega, by omega⟩
  have hN : labN (0 - lab) = labN lab := by unfold labN; split <;> split <;> omega
  have hS : labS (0 - lab) = !labS lab := by
    unfold labS
    by_cases hl : lab < 0
    · rw [decide_eq_true hl, decide_eq_false (by omega)]; rfl
    · rw [decide_eq_false hl, decide_eq_true (by omega)]; rfl
  have hs := h5.sides
  cases h' with
  | e1 g => exact absurd h1 g
  | e2 g g' => exact absurd h2 g'
  | e3 g g' g2 => rcases g2 with g2 | g2
                  · rw [h3] at g2; cases g2
                  · rw [hin'] at g2; cases g2
  | e4 d g g' g2 g3 hc hz =>
    rw [hN, hS] at hc
    have := hs.det hc
    subst this
    rw [Cn.sides_chk] at hz
    exact absurd h6 hz
  | ok d g g' g2 g3 hc hz =>
    rw [hN, hS] at hc
    exact ⟨rfl, (hs.det hc).symm⟩

theorem Cn.sides_fits : ∀ c : Cn, c.fits → c.sides.fits := by
  refine Cn.ind fun k ty to lab neg ks ih hf => ?_
  have hlen : (Cn.sidesL ks).length = ks.length := by
    clear ih hf
    induction ks with
    | nil => rfl
    | cons c r ih => simp [Cn.sidesL, ih]
  have hk : Cn.fitsL (Cn.sidesL ks) := by
    have hfk := hf.2.2.2.2
    clear hlen hf
    induction ks with
    | nil => trivial
    | cons c r ihr => exact ⟨ih c (by simp) hfk.1, ihr (fun d hd => ih d (by simp [hd])) hfk.2⟩
  simp only [Cn.sides]
  exact ⟨hf.1, hf.2.1, by rw [hlen]; exact hf.2.2.1, hf.2.2.2.1, hk⟩
end Go.Proofs.Ytopgmopdjiahmaa.Lg
