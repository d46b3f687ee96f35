/- Coercions: how deep, grounds. Conditions: none; plain definitions and lemmas. -/
import Derived.Test.YtopgmopdjiahmaaDoorNe
set_option linter.unusedVariables false
set_option linter.unusedSimpArgs false
set_option maxRecDepth 100000
set_option maxHeartbeats 1000000
namespace Go.Proofs.YtopgmopdjiahmaaDoor.Lg
open Go Go.RowKit Go.Proofs

/-! ### how deep -/
def maxI (a b : Int) : Int := if b > a then b else a
def minI (a b : Int) : Int := if b < a then b else a
theorem maxI_le {a b c : Int} (h : a ≤ c) (h' : b ≤ c) : maxI a b ≤ c := by unfold maxI; split <;> omega
theorem le_maxI {a b : Int} : a ≤ maxI a b ∧ b ≤ maxI a b := by unfold maxI; split <;> omega
def deep0 (k : Int) (ty to : Ty) : Int := if k = 1 then maxI ty.depth to.depth else if leafF k = true then ty.depth else 0
mutual
def Cn.deep : Cn → Int → Int
  | .mk k ty to _ _ ks, n => if n = 1 then 1 else minI (Cn.deepL ks (n - 1) (deep0 k ty to) + 1) n
def Cn.deepL : List Cn → Int → Int → Int
  | [], _, d => d
  | c :: r, n, d => Cn.deepL r n (maxI d (c.deep n))
end
theorem depth_le (t : Ty) : 0 ≤ t.depth ∧ t.depth ≤ 201 := by
  unfold Ty.depth
  split
  · have := Ty.deep_le t 201; omega
  · omega
theorem deep0_le (k : Int) (ty to : Ty) : 0 ≤ deep0 k ty to ∧ deep0 k ty to ≤ 201 := by
  have := depth_le ty
  have := depth_le to
  unfold deep0 maxI
  split
  · split <;> omega
  · split <;> omega
mutual
theorem Cn.deep_le : ∀ (c : Cn) (n : Int), 1 ≤ n → n ≤ 201 → 0 ≤ c.deep n ∧ c.deep n ≤ n
  | .mk k ty to lab neg ks, n, h, h' => by
    simp only [Cn.deep]
    have h0 := deep0_le k ty to
    split
    · omega
    · have := Cn.deepL_le ks (n - 1) (deep0 k ty to) (by omega) (by omega) h0.1 h0.2
      unfold minI; split <;> omega
theorem Cn.deepL_le : ∀ (ks : List Cn) (n d : Int), 1 ≤ n → n ≤ 201 → 0 ≤ d → d ≤ 201 → 0 ≤ Cn.deepL ks n d ∧ Cn.deepL ks n d ≤ 201
  | [], n, d, h, h', h2, h3 => by simp only [Cn.deepL]; omega
  | c :: r, n, d, h, h', h2, h3 => by
    simp only [Cn.deepL]
    have h1 := Cn.deep_le c n h h'
    exact Cn.deepL_le r n _ h h' (by unfold maxI; split <;> omega) (by unfold maxI; split <;> omega)
end
theorem cdeep_does : ∀ c : Cn, c.fits → ∀ n : Int, 1 ≤ n → n ≤ 201 → Does Tryd.prog 24 [.imm false (.ptr c.cells 0), .imm false (.int .i64 n)] [] (.ret true (.int .i64 (c.deep n))) [] := by
  refine Cn.ind fun k ty to lab neg ks ih hf n hn hn' => ?_
  have hf1 : ty.fits := hf.1
  have hf2 : to.fits := hf.2.1
  have hfl : ks.length ≤ 9223372036854775807 := hf.2.2.1
  have dty := depth_does ty hf1
  have dto := depth_does to hf2
  rw [Ty.cells_eq] at dty dto
  have b1 := depth_le ty
  have b2 := depth_le to
  have b0 := deep0_le k ty to
  refine does24 (by rfl) (by rfl) ?_
  by_cases h1 : n = 1
  · subst h1
    (try simp (implicitDefEqProofs := false) only [go_sem, ↓reduceIte, Nat.reduceEqDiff, reduceCtorEq, Nat.reduceAdd, Nat.reduceSub, Nat.reduceLeDiff, Nat.reduceLT, Nat.reduceMul, Int.reduceToNat, Int.reduceLT, Int.reduceLE, Cn.cells])
    simp [Cn.deep]
  have hnb : (n == 1) = false := by simpa using h1
  have e0 : (Cn.mk k ty to lab neg ks).deep n = minI (Cn.deepL ks (n - 1) (deep0 k ty to) + 1) n := by simp only [Cn.deep, if_neg h1]
  have loop : ∀ (d : Int) , d = deep0 k ty to →
      awp Tryd.prog (.seq (.seq r24_8 (.block 0 (.loop l24_0))) (.seq r24_13 .ret)) (Fin [MR.t 4] (.ret true (.int .i64 ((Cn.mk k ty to lab neg ks).deep n))) [])
        ⟨[(0, .imm false (.ptr (Cn.mk k ty to lab neg ks).cells 0)), (1, .imm false (.int .i64 n)), (5, .imm true (.int .i64 d))], [], []⟩ := by
    intro d hd
    (try simp (implicitDefEqProofs := false) only [go_sem, ↓reduceIte, Nat.reduceEqDiff, reduceCtorEq, Nat.reduceAdd, Nat.reduceSub, Nat.reduceLeDiff, Nat.reduceLT, Nat.reduceMul, Int.reduceToNat, Int.reduceLT, Int.reduceLE, Cn.cells, Cn.cellsL_len])
    refine ⟨fun q σ => ∃ j d, j ≤ ks.length ∧ q = ks.length - j ∧ 0 ≤ d ∧ d ≤ 201 ∧ Cn.deepL ks (n - 1) (deep0 k ty to) = Cn.deepL (ks.drop j) (n - 1) d ∧ σ = ⟨[(0, .imm false (.ptr (Cn.mk k ty to lab neg ks).cells 0)), (1, .imm false (.int .i64 n)), (5, .imm true (.int .i64 d)), (35, .imm true (.int .i64 ks.length)), (36, .imm true (.int .i64 j))], [], []⟩, ⟨_, 0, d, by omega, rfl, by omega, by omega, by rw [hd]; rfl, by first | rfl | simp only [Cn.cells] | (simp only [Cn.cells]; rfl)⟩, ?_⟩
    rintro q σ ⟨j, d, hj, rfl, hd0, hd1, hs, rfl⟩
    unfold l24_0
    (try simp (implicitDefEqProofs := false) only [go_sem, ↓reduceIte, Nat.reduceEqDiff, reduceCtorEq, Nat.reduceAdd, Nat.reduceSub, Nat.reduceLeDiff, Nat.reduceLT, Nat.reduceMul, Int.reduceToNat, Int.reduceLT, Int.reduceLE, CondOn_imm, Cn.cells])
    refine ⟨fun hlt => ?_, fun hlt => ?_⟩
    · have hlt : j < ks.length := by simpa using hlt
      obtain ⟨c', hmem, hat, hdr, _⟩ := Cn.kid hlt
      rw [hdr, Cn.deepL] at hs
      have hcl := Cn.cells_len c'
      have hb := Cn.deep_le c' (n - 1) (by omega) (by omega)
      (try simp (implicitDefEqProofs := false) only [go_sem, ↓reduceIte, Nat.reduceEqDiff, reduceCtorEq, Nat.reduceAdd, Nat.reduceSub, Nat.reduceLeDiff, Nat.reduceLT, Nat.reduceMul, Int.reduceToNat, Int.reduceLT, Int.reduceLE, hat, hcl, Int.toNat_natCast, Int.natCast_nonneg, wrap64 (n := n - 1) (by omega) (by omega)])
      refine CallK_do (ih c' hmem (Cn.fitsL_mem hf.2.2.2.2 _ hmem) (n - 1) (by omega) (by omega)) ?_
      (try simp (implicitDefEqProofs := false) only [go_sem, ↓reduceIte, Nat.reduceEqDiff, reduceCtorEq, Nat.reduceAdd, Nat.reduceSub, Nat.reduceLeDiff, Nat.reduceLT, Nat.reduceMul, Int.reduceToNat, Int.reduceLT, Int.reduceLE, wrap64 (n := (j : Int) + 1) (by omega) (by omega)])
      exact ⟨_, by omega, j + 1, _, by omega, rfl, by unfold maxI at *; split <;> omega, by unfold maxI at *; split <;> omega, hs, by first | rfl | simp only [Cn.cells] | (simp only [Cn.cells]; rfl)⟩
    · have hge : j = ks.length := by have : ¬ j < ks.length := by simpa using hlt
                                     omega
      subst hge
      simp only [List.drop_length, Cn.deepL] at hs
      (try simp (implicitDefEqProofs := false) only [go_sem, ↓reduceIte, Nat.reduceEqDiff, reduceCtorEq, Nat.reduceAdd, Nat.reduceSub, Nat.reduceLeDiff, Nat.reduceLT, Nat.reduceMul, Int.reduceToNat, Int.reduceLT, Int.reduceLE, wrap64 (n := d + 1) (by omega) (by omega)])
      rw [e0, hs, minI]
  (try simp (implicitDefEqProofs := false) only [go_sem, ↓reduceIte, Nat.reduceEqDiff, reduceCtorEq, Nat.reduceAdd, Nat.reduceSub, Nat.reduceLeDiff, Nat.reduceLT, Nat.reduceMul, Int.reduceToNat, Int.reduceLT, Int.reduceLE, Cn.cells, hnb])
  refine CallK_do (leaf_does k) ?_
  have second : ∀ (d : Int), d = (if leafF k = true then ty.depth else 0) →
      awp Tryd.prog (.seq (.seq r24_6 (.cond (.t 23) r24_7 .skip)) (.seq (.seq r24_8 (.block 0 (.loop l24_0))) (.seq r24_13 .ret))) (Fin [MR.t 4] (.ret true (.int .i64 ((Cn.mk k ty to lab neg ks).deep n))) [])
        ⟨[(0, .imm false (.ptr (Cn.mk k ty to lab neg ks).cells 0)), (1, .imm false (.int .i64 n)), (5, .imm true (.int .i64 d))], [], []⟩ := by
    intro d hd
    by_cases h1 : k = 1
    · have hl : leafF k = true := by subst h1; rfl
      have hb1 : (k == 1) = true := by simpa using h1
      (try simp (implicitDefEqProofs := false) only [go_sem, ↓reduceIte, Nat.reduceEqDiff, reduceCtorEq, Nat.reduceAdd, Nat.reduceSub, Nat.reduceLeDiff, Nat.reduceLT, Nat.reduceMul, Int.reduceToNat, Int.reduceLT, Int.reduceLE, Cn.cells, hb1])
      refine CallK_do dto ?_
      have := loop (maxI ty.depth to.depth) (by rw [deep0, if_pos h1])
      (try simp (implicitDefEqProofs := false) only [go_sem, ↓reduceIte, Nat.reduceEqDiff, reduceCtorEq, Nat.reduceAdd, Nat.reduceSub, Nat.reduceLeDiff, Nat.reduceLT, Nat.reduceMul, Int.reduceToNat, Int.reduceLT, Int.reduceLE, Cn.cells, maxI] at this)
      rw [if_pos hl] at hd
      subst hd
      (try simp (implicitDefEqProofs := false) only [go_sem, ↓reduceIte, Nat.reduceEqDiff, reduceCtorEq, Nat.reduceAdd, Nat.reduceSub, Nat.reduceLeDiff, Nat.reduceLT, Nat.reduceMul, Int.reduceToNat, Int.reduceLT, Int.reduceLE])
      exact this
    · have hb1 : (k == 1) = false := by simpa using h1
      have := loop d (by rw [hd, deep0, if_neg h1])
      (try simp (implicitDefEqProofs := false) only [go_sem, ↓reduceIte, Nat.reduceEqDiff, reduceCtorEq, Nat.reduceAdd, Nat.reduceSub, Nat.reduceLeDiff, Nat.reduceLT, Nat.reduceMul, Int.reduceToNat, Int.reduceLT, Int.reduceLE, Cn.cells] at this)
      (try simp (implicitDefEqProofs := false) only [go_sem, ↓reduceIte, Nat.reduceEqDiff, reduceCtorEq, Nat.reduceAdd, Nat.reduceSub, Nat.reduceLeDiff, Nat.reduceLT, Nat.reduceMul, Int.reduceToNat, Int.reduceLT, Int.reduceLE, Cn.cells, hb1])
      exact this
  cases hlk : leafF k with
  | true =>
    (try simp (implicitDefEqProofs := false) only [go_sem, ↓reduceIte, Nat.reduceEqDiff, reduceCtorEq, Nat.reduceAdd, Nat.reduceSub, Nat.reduceLeDiff, Nat.reduceLT, Nat.reduceMul, Int.reduceToNat, Int.reduceLT, Int.reduceLE])
    refine CallK_do dty ?_
    have := second ty.depth (by rw [hlk]; simp)
    (try simp (implicitDefEqProofs := false) only [go_sem, ↓reduceIte, Nat.reduceEqDiff, reduceCtorEq, Nat.reduceAdd, Nat.reduceSub, Nat.reduceLeDiff, Nat.reduceLT, Nat.reduceMul, Int.reduceToNat, Int.reduceLT, Int.reduceLE, Cn.cells] at this)
    (try simp (implicitDefEqProofs := false) only [go_sem, ↓reduceIte, Nat.reduceEqDiff, reduceCtorEq, Nat.reduceAdd, Nat.reduceSub, Nat.reduceLeDiff, Nat.reduceLT, Nat.reduceMul, Int.reduceToNat, Int.reduceLT, Int.reduceLE])
    exact this
  | false =>
    (try simp (implicitDefEqProofs := false) only [go_sem, ↓reduceIte, Nat.reduceEqDiff, reduceCtorEq, Nat.reduceAdd, Nat.reduceSub, Nat.reduceLeDiff, Nat.reduceLT, Nat.reduceMul, Int.reduceToNat, Int.reduceLT, Int.reduceLE])
    have := second 0 (by rw [hlk]; simp)
    (try simp (implicitDefEqProofs := false) only [go_sem, ↓reduceIte, Nat.reduceEqDiff, reduceCtorEq, Nat.reduceAdd, Nat.reduceSub, Nat.reduceLeDiff, Nat.reduceLT, Nat.reduceMul, Int.reduceToNat, Int.reduceLT, Int.reduceLE, Cn.cells] at this)
    exact this
end Go.Proofs.YtopgmopdjiahmaaDoor.Lg
