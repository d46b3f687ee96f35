/- Coercions: sameness; of two types. Conditions: none; plain definitions and lemmas. -/
import Derived.Test.YtopgmopdjiahmaaNi
set_option linter.unusedVariables false
set_option linter.unusedSimpArgs false
set_option maxRecDepth 100000
set_option maxHeartbeats 1000000
namespace Go.Proofs.Ytopgmopdjiahmaa.Lg
open Go Go.RowKit Go.Proofs

def headSame (k : Int) (ty to : Ty) (lab : Int) (neg : Bool) (ty' to' : Ty) (lab' : Int) (neg' : Bool) : Bool :=
  if leafF k = true ∧ ty.same ty' = false then false else if k = 1 ∧ to.same to' = false then false else if (k = 1 ∨ k = 3) ∧ (lab ≠ lab' ∨ neg ≠ neg') then false else true
mutual
def Cn.same : Cn → Cn → Bool
  | .mk k ty to lab neg ks, .mk k' ty' to' lab' neg' ks' => k == k' && (headSame k ty to lab neg ty' to' lab' neg' && Cn.sameL ks ks')
def Cn.sameL : List Cn → List Cn → Bool
  | [], _ => true
  | _ :: _, [] => false
  | c :: r, d :: s => c.same d && Cn.sameL r s
end

theorem csame_does : ∀ a : Cn, a.fits → a.ends.2.2 = true → ∀ b : Cn, b.fits → b.ends.2.2 = true → Does Try.prog 52 [.imm false (.ptr a.cells 0), .imm false (.ptr b.cells 0)] [] (.ret true (.bool (a.same b))) [] := by
  refine Cn.ind fun k ty to lab neg ks ih hf he b hfb heb => ?_
  obtain ⟨k', ty', to', lab', neg', ks'⟩ := b
  have s1 := same_does ty ty' hf.1 hfb.1
  have s2 := same_does to to' hf.2.1 hfb.2.1
  have hl := leaf_does k
  simp only [Ty.cells_eq] at s1 s2
  refine does52 (by rfl) (by rfl) ?_
  by_cases hk : k ≠ k'
  · (try simp (implicitDefEqProofs := false) (maxSteps := 2000000) only [go_sem, ↓reduceIte, Nat.reduceEqDiff, reduceCtorEq, Nat.reduceAdd, Nat.reduceSub, Nat.reduceLeDiff, Nat.reduceLT, Nat.reduceMul, Int.reduceToNat, Int.reduceLT, Int.reduceLE, Cn.cells, show (k != k') = true from by simpa using hk])
    simp [Cn.same, hk]
  have hk : k = k' := Decidable.not_not.1 hk
  subst hk
  have e0 : (Cn.mk k ty to lab neg ks).same (.mk k ty' to' lab' neg' ks') = (headSame k ty to lab neg ty' to' lab' neg' && Cn.sameL ks ks') := by simp [Cn.same]
  rw [e0]
  -- the kids
  have loop : headSame k ty to lab neg ty' to' lab' neg' = true →
      awp Try.prog (.seq (.seq r52_10 (.block 3 (.loop l52_0))) (.seq r52_16 .ret)) (Fin [MR.t 4] (.ret true (.bool (headSame k ty to lab neg ty' to' lab' neg' && Cn.sameL ks ks'))) [])
        ⟨[(0, .imm false (.ptr (Cn.mk k ty to lab neg ks).cells 0)), (1, .imm false (.ptr (Cn.mk k ty' to' lab' neg' ks').cells 0))], [], []⟩ := by
    intro hh
    rw [hh]
    rcases ends_shape he with ⟨rfl, hk, hc⟩ | ⟨a1, a2, rfl, hk, ha1, ha2⟩
    · (try simp (implicitDefEqProofs := false) (maxSteps := 2000000) only [go_sem, ↓reduceIte, Nat.reduceEqDiff, reduceCtorEq, Nat.reduceAdd, Nat.reduceSub, Nat.reduceLeDiff, Nat.reduceLT, Nat.reduceMul, Int.reduceToNat, Int.reduceLT, Int.reduceLE, Cn.cells, Cn.cellsL, ncast0])
      refine ⟨fun q σ => q = 0 ∧ σ = ⟨[(0, .imm false (.ptr (Cn.mk k ty to lab neg []).cells 0)), (1, .imm false (.ptr (Cn.mk k ty' to' lab' neg' ks').cells 0)), (76, .imm true (.int .i64 0)), (77, .imm true (.int .i64 0))], [], []⟩, ⟨_, rfl, by first | rfl | simp only [Cn.cells, Cn.cellsL] | (simp only [Cn.cells, Cn.cellsL]; rfl)⟩, ?_⟩
      rintro q σ ⟨rfl, rfl⟩
      unfold l52_0
      (try simp (implicitDefEqProofs := false) (maxSteps := 2000000) only [go_sem, ↓reduceIte, Nat.reduceEqDiff, reduceCtorEq, Nat.reduceAdd, Nat.reduceSub, Nat.reduceLeDiff, Nat.reduceLT, Nat.reduceMul, Int.reduceToNat, Int.reduceLT, Int.reduceLE, Cn.cells, show decide ((0 : Int) < 0) = false from rfl])
      simp [Cn.sameL]
    · rcases ends_shape heb with ⟨rfl, hk2, hc2⟩ | ⟨b1, b2, rfl, hk2, hb1, hb2⟩
      · omega
      have hla1 := Cn.cells_len a1
      have hla2 := Cn.cells_len a2
      have hlb1 := Cn.cells_len b1
      have hlb2 := Cn.cells_len b2
      have d1 := ih a1 (by simp) hf.2.2.2.2.1 ha1 b1 hfb.2.2.2.2.1 hb1
      have d2 := ih a2 (by simp) hf.2.2.2.2.2.1 ha2 b2 hfb.2.2.2.2.2.1 hb2
      (try simp (implicitDefEqProofs := false) (maxSteps := 2000000) only [go_sem, ↓reduceIte, Nat.reduceEqDiff, reduceCtorEq, Nat.reduceAdd, Nat.reduceSub, Nat.reduceLeDiff, Nat.reduceLT, Nat.reduceMul, Int.reduceToNat, Int.reduceLT, Int.reduceLE, Cn.cells, Cn.cellsL, ncast2])
      let S : Int → St := fun j => ⟨[(0, .imm false (.ptr (Cn.mk k ty to lab neg [a1, a2]).cells 0)), (1, .imm false (.ptr (Cn.mk k ty' to' lab' neg' [b1, b2]).cells 0)), (76, .imm true (.int .i64 2)), (77, .imm true (.int .i64 j))], [], []⟩
      refine ⟨fun n σ => (n = 2 ∧ σ = S 0) ∨ (n = 1 ∧ a1.same b1 = true ∧ σ = S 1) ∨ (n = 0 ∧ a1.same b1 = true ∧ a2.same b2 = true ∧ σ = S 2), ⟨_, .inl ⟨rfl, by first | rfl | simp only [S, Cn.cells, Cn.cellsL]⟩⟩, ?_⟩
      rintro n σ (⟨rfl, rfl⟩ | ⟨rfl, z1, rfl⟩ | ⟨rfl, z1, z2, rfl⟩)
      · unfold l52_0
        (try simp (implicitDefEqProofs := false) (maxSteps := 2000000) only [go_sem, ↓reduceIte, Nat.reduceEqDiff, reduceCtorEq, Nat.reduceAdd, Nat.reduceSub, Nat.reduceLeDiff, Nat.reduceLT, Nat.reduceMul, Int.reduceToNat, Int.reduceLT, Int.reduceLE, S, Cn.cells, Cn.cellsL, hla1, hlb1, show decide ((0 : Int) < 2) = true from rfl])
        refine CallK_do d1 ?_
        cases z1 : a1.same b1 with
        | true =>
          (try simp (implicitDefEqProofs := false) (maxSteps := 2000000) only [go_sem, ↓reduceIte, Nat.reduceEqDiff, reduceCtorEq, Nat.reduceAdd, Nat.reduceSub, Nat.reduceLeDiff, Nat.reduceLT, Nat.reduceMul, Int.reduceToNat, Int.reduceLT, Int.reduceLE, wrap01])
          exact ⟨1, by omega, by simp⟩
        | false =>
          (try simp (implicitDefEqProofs := false) (maxSteps := 2000000) only [go_sem, ↓reduceIte, Nat.reduceEqDiff, reduceCtorEq, Nat.reduceAdd, Nat.reduceSub, Nat.reduceLeDiff, Nat.reduceLT, Nat.reduceMul, Int.reduceToNat, Int.reduceLT, Int.reduceLE])
          simp [Cn.sameL, z1]
      · unfold l52_0
        (try simp (implicitDefEqProofs := false) (maxSteps := 2000000) only [go_sem, ↓reduceIte, Nat.reduceEqDiff, reduceCtorEq, Nat.reduceAdd, Nat.reduceSub, Nat.reduceLeDiff, Nat.reduceLT, Nat.reduceMul, Int.reduceToNat, Int.reduceLT, Int.reduceLE, S, Cn.cells, Cn.cellsL, hla2, hlb2, show decide ((1 : Int) < 2) = true from rfl])
        refine CallK_do d2 ?_
        cases z2 : a2.same b2 with
        | true =>
          (try simp (implicitDefEqProofs := false) (maxSteps := 2000000) only [go_sem, ↓reduceIte, Nat.reduceEqDiff, reduceCtorEq, Nat.reduceAdd, Nat.reduceSub, Nat.reduceLeDiff, Nat.reduceLT, Nat.reduceMul, Int.reduceToNat, Int.reduceLT, Int.reduceLE, wrap12])
          exact ⟨0, by omega, by simp [z1]⟩
        | false =>
          (try simp (implicitDefEqProofs := false) (maxSteps := 2000000) only [go_sem, ↓reduceIte, Nat.reduceEqDiff, reduceCtorEq, Nat.reduceAdd, Nat.reduceSub, Nat.reduceLeDiff, Nat.reduceLT, Nat.reduceMul, Int.reduceToNat, Int.reduceLT, Int.reduceLE])
          simp [Cn.sameL, z1, z2]
      · unfold l52_0
        (try simp (implicitDefEqProofs := false) (maxSteps := 2000000) only [go_sem, ↓reduceIte, Nat.reduceEqDiff, reduceCtorEq, Nat.reduceAdd, Nat.reduceSub, Nat.reduceLeDiff, Nat.reduceLT, Nat.reduceMul, Int.reduceToNat, Int.reduceLT, Int.reduceLE, S, Cn.cells, Cn.cellsL, show decide ((2 : Int) < 2) = false from rfl])
        simp [Cn.sameL, z1, z2]
  -- the labels
  (try simp (implicitDefEqProofs := false) (maxSteps := 2000000) only [go_sem, ↓reduceIte, Nat.reduceEqDiff, reduceCtorEq, Nat.reduceAdd, Nat.reduceSub, Nat.reduceLeDiff, Nat.reduceLT, Nat.reduceMul, Int.reduceToNat, Int.reduceLT, Int.reduceLE, Cn.cells, bne_self_eq_false])
  refine CallK_do hl ?_
  have hk : k = 0 ∨ k = 1 ∨ k = 2 ∨ k = 3 ∨ (leafF k = false ∧ k ≠ 1 ∧ k ≠ 3) := by
    by_cases h0 : k = 0; · exact .inl h0
    by_cases h1 : k = 1; · exact .inr (.inl h1)
    by_cases h2 : k = 2; · exact .inr (.inr (.inl h2))
    by_cases h3 : k = 3; · exact .inr (.inr (.inr (.inl h3)))
    exact .inr (.inr (.inr (.inr ⟨by simp [leafF, h0, h1, h2, h3], h1, h3⟩)))
  rcases hk with rfl | rfl | rfl | rfl | ⟨hlk, k1, k3⟩
  · (try simp (implicitDefEqProofs := false) (maxSteps := 2000000) only [go_sem, ↓reduceIte, Nat.reduceEqDiff, reduceCtorEq, Nat.reduceAdd, Nat.reduceSub, Nat.reduceLeDiff, Nat.reduceLT, Nat.reduceMul, Int.reduceToNat, Int.reduceLT, Int.reduceLE, show leafF 0 = true from rfl])
    refine CallK_do s1 ?_
    cases z1 : ty.same ty' with
    | false =>
      (try simp (implicitDefEqProofs := false) (maxSteps := 2000000) only [go_sem, ↓reduceIte, Nat.reduceEqDiff, reduceCtorEq, Nat.reduceAdd, Nat.reduceSub, Nat.reduceLeDiff, Nat.reduceLT, Nat.reduceMul, Int.reduceToNat, Int.reduceLT, Int.reduceLE])
      simp [headSame, leafF, z1]
    | true =>
      (try simp (implicitDefEqProofs := false) (maxSteps := 2000000) only [go_sem, ↓reduceIte, Nat.reduceEqDiff, reduceCtorEq, Nat.reduceAdd, Nat.reduceSub, Nat.reduceLeDiff, Nat.reduceLT, Nat.reduceMul, Int.reduceToNat, Int.reduceLT, Int.reduceLE, show ((0 : Int) == 1) = false from rfl, show ((0 : Int) == 3) = false from rfl])
      have := loop (by simp [headSame, leafF, z1])
      (try simp (implicitDefEqProofs := false) (maxSteps := 2000000) only [go_sem, ↓reduceIte, Nat.reduceEqDiff, reduceCtorEq, Nat.reduceAdd, Nat.reduceSub, Nat.reduceLeDiff, Nat.reduceLT, Nat.reduceMul, Int.reduceToNat, Int.reduceLT, Int.reduceLE, Cn.cells] at this)
      exact this
  · (try simp (implicitDefEqProofs := false) (maxSteps := 2000000) only [go_sem, ↓reduceIte, Nat.reduceEqDiff, reduceCtorEq, Nat.reduceAdd, Nat.reduceSub, Nat.reduceLeDiff, Nat.reduceLT, Nat.reduceMul, Int.reduceToNat, Int.reduceLT, Int.reduceLE, show leafF 1 = true from rfl])
    refine CallK_do s1 ?_
    cases z1 : ty.same ty' with
    | false =>
      (try simp (implicitDefEqProofs := false) (maxSteps := 2000000) only [go_sem, ↓reduceIte, Nat.reduceEqDiff, reduceCtorEq, Nat.reduceAdd, Nat.reduceSub, Nat.reduceLeDiff, Nat.reduceLT, Nat.reduceMul, Int.reduceToNat, Int.reduceLT, Int.reduceLE])
      simp [headSame, leafF, z1]
    | true =>
      (try simp (implicitDefEqProofs := false) (maxSteps := 2000000) only [go_sem, ↓reduceIte, Nat.reduceEqDiff, reduceCtorEq, Nat.reduceAdd, Nat.reduceSub, Nat.reduceLeDiff, Nat.reduceLT, Nat.reduceMul, Int.reduceToNat, Int.reduceLT, Int.reduceLE, show ((1 : Int) == 1) = true from rfl, show ((1 : Int) == 3) = false from rfl])
      refine CallK_do s2 ?_
      cases z2 : to.same to' with
      | false =>
        (try simp (implicitDefEqProofs := false) (maxSteps := 2000000) only [go_sem, ↓reduceIte, Nat.reduceEqDiff, reduceCtorEq, Nat.reduceAdd, Nat.reduceSub, Nat.reduceLeDiff, Nat.reduceLT, Nat.reduceMul, Int.reduceToNat, Int.reduceLT, Int.reduceLE])
        simp [headSame, leafF, z1, z2]
      | true =>
        (try simp (implicitDefEqProofs := false) (maxSteps := 2000000) only [go_sem, ↓reduceIte, Nat.reduceEqDiff, reduceCtorEq, Nat.reduceAdd, Nat.reduceSub, Nat.reduceLeDiff, Nat.reduceLT, Nat.reduceMul, Int.reduceToNat, Int.reduceLT, Int.reduceLE])
        by_cases hlab : lab = lab'
        · by_cases hneg : neg = neg'
          · have := loop (by simp [headSame, leafF, z1, z2, hlab, hneg])
            (try simp (implicitDefEqProofs := false) (maxSteps := 2000000) only [go_sem, ↓reduceIte, Nat.reduceEqDiff, reduceCtorEq, Nat.reduceAdd, Nat.reduceSub, Nat.reduceLeDiff, Nat.reduceLT, Nat.reduceMul, Int.reduceToNat, Int.reduceLT, Int.reduceLE, Cn.cells] at this)
            (try simp (implicitDefEqProofs := false) (maxSteps := 2000000) only [go_sem, ↓reduceIte, Nat.reduceEqDiff, reduceCtorEq, Nat.reduceAdd, Nat.reduceSub, Nat.reduceLeDiff, Nat.reduceLT, Nat.reduceMul, Int.reduceToNat, Int.reduceLT, Int.reduceLE, Cn.cells, show (lab != lab') = false from by simpa using hlab, show (neg == neg') = true from by simpa using hneg])
            exact this
          · (try simp (implicitDefEqProofs := false) (maxSteps := 2000000) only [go_sem, ↓reduceIte, Nat.reduceEqDiff, reduceCtorEq, Nat.reduceAdd, Nat.reduceSub, Nat.reduceLeDiff, Nat.reduceLT, Nat.reduceMul, Int.reduceToNat, Int.reduceLT, Int.reduceLE, Cn.cells, show (lab != lab') = false from by simpa using hlab, show (neg == neg') = false from by simpa using hneg])
            simp [headSame, leafF, z1, z2, hlab, hneg]
        · (try simp (implicitDefEqProofs := false) (maxSteps := 2000000) only [go_sem, ↓reduceIte, Nat.reduceEqDiff, reduceCtorEq, Nat.reduceAdd, Nat.reduceSub, Nat.reduceLeDiff, Nat.reduceLT, Nat.reduceMul, Int.reduceToNat, Int.reduceLT, Int.reduceLE, Cn.cells, show (lab != lab') = true from by simpa using hlab])
          simp [headSame, leafF, z1, z2, hlab]
  · (try simp (implicitDefEqProofs := false) (maxSteps := 2000000) only [go_sem, ↓reduceIte, Nat.reduceEqDiff, reduceCtorEq, Nat.reduceAdd, Nat.reduceSub, Nat.reduceLeDiff, Nat.reduceLT, Nat.reduceMul, Int.reduceToNat, Int.reduceLT, Int.reduceLE, show leafF 2 = true from rfl])
    refine CallK_do s1 ?_
    cases z1 : ty.same ty' with
    | false =>
      (try simp (implicitDefEqProofs := false) (maxSteps := 2000000) only [go_sem, ↓reduceIte, Nat.reduceEqDiff, reduceCtorEq, Nat.reduceAdd, Nat.reduceSub, Nat.reduceLeDiff, Nat.reduceLT, Nat.reduceMul, Int.reduceToNat, Int.reduceLT, Int.reduceLE])
      simp [headSame, leafF, z1]
    | true =>
      (try simp (implicitDefEqProofs := false) (maxSteps := 2000000) only [go_sem, ↓reduceIte, Nat.reduceEqDiff, reduceCtorEq, Nat.reduceAdd, Nat.reduceSub, Nat.reduceLeDiff, Nat.reduceLT, Nat.reduceMul, Int.reduceToNat, Int.reduceLT, Int.reduceLE, show ((2 : Int) == 1) = false from rfl, show ((2 : Int) == 3) = false from rfl])
      have := loop (by simp [headSame, leafF, z1])
      (try simp (implicitDefEqProofs := false) (maxSteps := 2000000) only [go_sem, ↓reduceIte, Nat.reduceEqDiff, reduceCtorEq, Nat.reduceAdd, Nat.reduceSub, Nat.reduceLeDiff, Nat.reduceLT, Nat.reduceMul, Int.reduceToNat, Int.reduceLT, Int.reduceLE, Cn.cells] at this)
      exact this
  · (try simp (implicitDefEqProofs := false) (maxSteps := 2000000) only [go_sem, ↓reduceIte, Nat.reduceEqDiff, reduceCtorEq, Nat.reduceAdd, Nat.reduceSub, Nat.reduceLeDiff, Nat.reduceLT, Nat.reduceMul, Int.reduceToNat, Int.reduceLT, Int.reduceLE, show leafF 3 = true from rfl])
    refine CallK_do s1 ?_
    cases z1 : ty.same ty' with
    | false =>
      (try simp (implicitDefEqProofs := false) (maxSteps := 2000000) only [go_sem, ↓reduceIte, Nat.reduceEqDiff, reduceCtorEq, Nat.reduceAdd, Nat.reduceSub, Nat.reduceLeDiff, Nat.reduceLT, Nat.reduceMul, Int.reduceToNat, Int.reduceLT, Int.reduceLE])
      simp [headSame, leafF, z1]
    | true =>
      (try simp (implicitDefEqProofs := false) (maxSteps := 2000000) only [go_sem, ↓reduceIte, Nat.reduceEqDiff, reduceCtorEq, Nat.reduceAdd, Nat.reduceSub, Nat.reduceLeDiff, Nat.reduceLT, Nat.reduceMul, Int.reduceToNat, Int.reduceLT, Int.reduceLE, show ((3 : Int) == 1) = false from rfl, show ((3 : Int) == 3) = true from rfl])
      by_cases hlab : lab = lab'
      · by_cases hneg : neg = neg'
        · have := loop (by simp [headSame, leafF, z1, hlab, hneg])
          (try simp (implicitDefEqProofs := false) (maxSteps := 2000000) only [go_sem, ↓reduceIte, Nat.reduceEqDiff, reduceCtorEq, Nat.reduceAdd, Nat.reduceSub, Nat.reduceLeDiff, Nat.reduceLT, Nat.reduceMul, Int.reduceToNat, Int.reduceLT, Int.reduceLE, Cn.cells] at this)
          (try simp (implicitDefEqProofs := false) (maxSteps := 2000000) only [go_sem, ↓reduceIte, Nat.reduceEqDiff, reduceCtorEq, Nat.reduceAdd, Nat.reduceSub, Nat.reduceLeDiff, Nat.reduceLT, Nat.reduceMul, Int.reduceToNat, Int.reduceLT, Int.reduceLE, Cn.cells, show (lab != lab') = false from by simpa using hlab, show (neg == neg') = true from by simpa using hneg])
          exact this
        · (try simp (implicitDefEqProofs := false) (maxSteps := 2000000) only [go_sem, ↓reduceIte, Nat.reduceEqDiff, reduceCtorEq, Nat.reduceAdd, Nat.reduceSub, Nat.reduceLeDiff, Nat.reduceLT, Nat.reduceMul, Int.reduceToNat, Int.reduceLT, Int.reduceLE, Cn.cells, show (lab != lab') = false from by simpa using hlab, show (neg == neg') = false from by simpa using hneg])
          simp [headSame, leafF, z1, hlab, hneg]
      · (try simp (implicitDefEqProofs := false) (maxSteps := 2000000) only [go_sem, ↓reduceIte, Nat.reduceEqDiff, reduceCtorEq, Nat.reduceAdd, Nat.reduceSub, Nat.reduceLeDiff, Nat.reduceLT, Nat.reduceMul, Int.reduceToNat, Int.reduceLT, Int.reduceLE, Cn.cells, show (lab != lab') = true from by simpa using hlab])
        simp [headSame, leafF, z1, hlab]
  · (try simp (implicitDefEqProofs := false) (maxSteps := 2000000) only [go_sem, ↓reduceIte, Nat.reduceEqDiff, reduceCtorEq, Nat.reduceAdd, Nat.reduceSub, Nat.reduceLeDiff, Nat.reduceLT, Nat.reduceMul, Int.reduceToNat, Int.reduceLT, Int.reduceLE, hlk, show (k == 1) = false from by simpa using k1, show (k == 3) = false from by simpa using k3])
    have := loop (by simp [headSame, hlk, k1, k3])
    (try simp (implicitDefEqProofs := false) (maxSteps := 2000000) only [go_sem, ↓reduceIte, Nat.reduceEqDiff, reduceCtorEq, Nat.reduceAdd, Nat.reduceSub, Nat.reduceLeDiff, Nat.reduceLT, Nat.reduceMul, Int.reduceToNat, Int.reduceLT, Int.reduceLE, Cn.cells] at this)
    exact this
end Go.Proofs.Ytopgmopdjiahmaa.Lg
