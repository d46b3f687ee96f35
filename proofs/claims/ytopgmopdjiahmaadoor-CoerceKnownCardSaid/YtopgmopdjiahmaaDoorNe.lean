/- Coercions: how many nodes, how deep. Conditions: none; plain definitions and lemmas. -/
import Derived.Test.YtopgmopdjiahmaaDoorNd
set_option linter.unusedVariables false
set_option linter.unusedSimpArgs false
set_option maxRecDepth 100000
set_option maxHeartbeats 1000000
namespace Go.Proofs.YtopgmopdjiahmaaDoor.Lg
open Go Go.RowKit Go.Proofs

theorem nodesF_le (n : Nat) : 0 ≤ nodesF n ∧ nodesF n ≤ 8193 ∧ (n ≤ 8192 → nodesF n = n) ∧ (¬ n ≤ 8192 → nodesF n = 8193) := by
  unfold nodesF; split <;> omega
def headN (k : Int) (ty to : Ty) : Int := 1 + (if leafF k = true then nodesF ty.nodes else 0) + (if k = 1 then nodesF to.nodes else 0)
mutual
def Cn.down : Cn → Int → Int
  | .mk k ty to _ _ ks, n => Cn.downL ks (n + headN k ty to)
def Cn.downL : List Cn → Int → Int
  | [], m => m
  | c :: r, m => if m > 8192 then m else Cn.downL r (c.down m)
end
theorem headN_le (k : Int) (ty to : Ty) : 1 ≤ headN k ty to ∧ headN k ty to ≤ 16387 := by
  unfold headN
  have := nodesF_le ty.nodes
  have := nodesF_le to.nodes
  split <;> split <;> omega
mutual
theorem Cn.down_le : ∀ (c : Cn) (n : Int), 0 ≤ n → n ≤ 8192 → 0 ≤ c.down n ∧ c.down n ≤ 24579
  | .mk k ty to lab neg ks, n, h, h' => by
    simp only [Cn.down]
    have := headN_le k ty to
    exact Cn.downL_le ks _ (by omega) (by omega)
theorem Cn.downL_le : ∀ (ks : List Cn) (m : Int), 0 ≤ m → m ≤ 24579 → 0 ≤ Cn.downL ks m ∧ Cn.downL ks m ≤ 24579
  | [], m, h, h' => by simp only [Cn.downL]; omega
  | c :: r, m, h, h' => by
    simp only [Cn.downL]
    split
    · omega
    · have := Cn.down_le c m h (by omega)
      exact Cn.downL_le r _ this.1 this.2
end
theorem Cn.downL_gt : ∀ (ks : List Cn) (m : Int), m > 8192 → Cn.downL ks m = m
  | [], m, h => rfl
  | c :: r, m, h => by simp only [Cn.downL, if_pos h]

def DownD (c : Cn) (n n' : Int) (b : Bool) : Prop := Does Tryd.prog 38 [.imm false (.ptr c.cells 0), .loc (.arg 0) 0, .loc (.arg 1) 0] [[.imm false (.int .i64 n)], [.fn 38 [.loc (.arg 0) 0, .loc (.arg 1) 0]]] (.ret true (.bool b)) [[.imm false (.int .i64 n')], [.fn 38 [.loc (.arg 0) 0, .loc (.arg 1) 0]]]

theorem down_does : ∀ c : Cn, c.fits → ∀ n : Int, 0 ≤ n → n ≤ 8192 → DownD c n (c.down n) (decide (c.down n ≤ 8192)) := by
  refine Cn.ind fun k ty to lab neg ks ih hf n hn0 hn => ?_
  have hf1 : ty.fits := hf.1
  have hf2 : to.fits := hf.2.1
  have hfl : ks.length ≤ 9223372036854775807 := hf.2.2.1
  have hty := nodesF_le ty.nodes
  have hto := nodesF_le to.nodes
  have nty := nodes_does ty hf1
  have nto := nodes_does to hf2
  rw [Ty.cells_eq] at nty nto
  have e0 : (Cn.mk k ty to lab neg ks).down n = Cn.downL ks (n + headN k ty to) := by simp only [Cn.down]
  have hhd := headN_le k ty to
  -- the last part
  have loop : ∀ (m : Int) (g : Bool), m = n + headN k ty to →
      awp Tryd.prog (.seq (.seq r38_6 (.block 0 (.loop l38_0))) (.seq r38_12 .ret)) (Fin [MR.t 4] (.ret true (.bool (decide (Cn.downL ks (n + headN k ty to) ≤ 8192)))) [[.imm false (.int .i64 (Cn.downL ks (n + headN k ty to)))], [.fn 38 [.loc (.arg 0) 0, .loc (.arg 1) 0]]])
        ⟨[(0, .imm false (.ptr (Cn.mk k ty to lab neg ks).cells 0)), (1, .loc (.arg 0) 0), (2, .loc (.arg 1) 0)], [(.arg 0, .var [.imm g (.int .i64 m)]), (.arg 1, .var [.fn 38 [.loc (.arg 0) 0, .loc (.arg 1) 0]])], []⟩ := by
    intro m g hm
    (try simp (implicitDefEqProofs := false) only [go_sem, ↓reduceIte, Nat.reduceEqDiff, reduceCtorEq, Nat.reduceAdd, Nat.reduceSub, Nat.reduceLeDiff, Nat.reduceLT, Nat.reduceMul, Int.reduceToNat, Int.reduceLT, Int.reduceLE, Cn.cells, Cn.cellsL_len])
    refine ⟨fun q σ => ∃ j m g, j ≤ ks.length ∧ q = ks.length - j ∧ 0 ≤ m ∧ m ≤ 24579 ∧ Cn.downL ks (n + headN k ty to) = Cn.downL (ks.drop j) m ∧ σ = ⟨[(0, .imm false (.ptr (Cn.mk k ty to lab neg ks).cells 0)), (1, .loc (.arg 0) 0), (2, .loc (.arg 1) 0), (36, .imm true (.int .i64 ks.length)), (37, .imm true (.int .i64 j))], [(.arg 0, .var [.imm g (.int .i64 m)]), (.arg 1, .var [.fn 38 [.loc (.arg 0) 0, .loc (.arg 1) 0]])], []⟩, ⟨_, 0, m, g, by omega, rfl, by omega, by omega, by rw [hm]; rfl, by first | rfl | simp only [Cn.cells] | (simp only [Cn.cells]; rfl)⟩, ?_⟩
    rintro q σ ⟨j, m, g, hj, rfl, hm0, hm1, hs, rfl⟩
    unfold l38_0
    (try simp (implicitDefEqProofs := false) only [go_sem, ↓reduceIte, Nat.reduceEqDiff, reduceCtorEq, Nat.reduceAdd, Nat.reduceSub, Nat.reduceLeDiff, Nat.reduceLT, Nat.reduceMul, Int.reduceToNat, Int.reduceLT, Int.reduceLE, CondOn_imm, Cn.cells])
    refine ⟨fun hlt => ?_, fun hlt => ?_⟩
    · have hlt : j < ks.length := by simpa using hlt
      obtain ⟨c', hmem, hat, hdr, _⟩ := Cn.kid hlt
      rw [hdr, Cn.downL] at hs
      have hcl := Cn.cells_len c'
      by_cases hgt : m > 8192
      · rw [if_pos hgt] at hs
        (try simp (implicitDefEqProofs := false) only [go_sem, ↓reduceIte, Nat.reduceEqDiff, reduceCtorEq, Nat.reduceAdd, Nat.reduceSub, Nat.reduceLeDiff, Nat.reduceLT, Nat.reduceMul, Int.reduceToNat, Int.reduceLT, Int.reduceLE, show decide (m > 8192) = true from by simpa using hgt])
        rw [hs, decide_eq_false (by omega)]; exact ⟨rfl, rfl⟩
      · rw [if_neg hgt] at hs
        have hb := Cn.down_le c' m hm0 (by omega)
        (try simp (implicitDefEqProofs := false) only [go_sem, ↓reduceIte, Nat.reduceEqDiff, reduceCtorEq, Nat.reduceAdd, Nat.reduceSub, Nat.reduceLeDiff, Nat.reduceLT, Nat.reduceMul, Int.reduceToNat, Int.reduceLT, Int.reduceLE, show decide (m > 8192) = false from by simpa using hgt, hat, hcl, Int.toNat_natCast, Int.natCast_nonneg])
        refine CallBK_do (ih c' hmem (Cn.fitsL_mem hf.2.2.2.2 _ hmem) m hm0 (by omega)) ?_
        by_cases hc : c'.down m ≤ 8192
        · (try simp (implicitDefEqProofs := false) only [go_sem, ↓reduceIte, Nat.reduceEqDiff, reduceCtorEq, Nat.reduceAdd, Nat.reduceSub, Nat.reduceLeDiff, Nat.reduceLT, Nat.reduceMul, Int.reduceToNat, Int.reduceLT, Int.reduceLE, decide_eq_true hc, wrap64 (n := (j : Int) + 1) (by omega) (by omega)])
          exact ⟨_, by omega, j + 1, _, _, by omega, rfl, hb.1, hb.2, hs, by first | rfl | simp only [Cn.cells] | (simp only [Cn.cells]; rfl)⟩
        · rw [Cn.downL_gt (ks.drop (j + 1)) (c'.down m) (by omega)] at hs
          (try simp (implicitDefEqProofs := false) only [go_sem, ↓reduceIte, Nat.reduceEqDiff, reduceCtorEq, Nat.reduceAdd, Nat.reduceSub, Nat.reduceLeDiff, Nat.reduceLT, Nat.reduceMul, Int.reduceToNat, Int.reduceLT, Int.reduceLE, decide_eq_false hc])
          rw [hs, decide_eq_false hc]; exact ⟨rfl, rfl⟩
    · have hge : j = ks.length := by have : ¬ j < ks.length := by simpa using hlt
                                     omega
      subst hge
      simp only [List.drop_length, Cn.downL] at hs
      (try simp (implicitDefEqProofs := false) only [go_sem, ↓reduceIte, Nat.reduceEqDiff, reduceCtorEq, Nat.reduceAdd, Nat.reduceSub, Nat.reduceLeDiff, Nat.reduceLT, Nat.reduceMul, Int.reduceToNat, Int.reduceLT, Int.reduceLE])
      rw [hs]; exact ⟨rfl, rfl⟩
  rw [e0]
  refine does38 (by rfl) (by rfl) ?_
  have w1 := wrap64 (n := n + 1) (by omega) (by omega)
  (try simp (implicitDefEqProofs := false) only [go_sem, ↓reduceIte, Nat.reduceEqDiff, reduceCtorEq, Nat.reduceAdd, Nat.reduceSub, Nat.reduceLeDiff, Nat.reduceLT, Nat.reduceMul, Int.reduceToNat, Int.reduceLT, Int.reduceLE, my38, Cn.cells, w1])
  refine CallK_do (leaf_does k) ?_
  have second : ∀ (m : Int) (g : Bool), m = n + 1 + (if leafF k = true then nodesF ty.nodes else 0) →
      awp Tryd.prog (.seq (.seq r38_4 (.cond (.t 24) r38_5 .skip)) (.seq (.seq r38_6 (.block 0 (.loop l38_0))) (.seq r38_12 .ret))) (Fin [MR.t 4] (.ret true (.bool (decide (Cn.downL ks (n + headN k ty to) ≤ 8192)))) [[.imm false (.int .i64 (Cn.downL ks (n + headN k ty to)))], [.fn 38 [.loc (.arg 0) 0, .loc (.arg 1) 0]]])
        ⟨[(0, .imm false (.ptr (Cn.mk k ty to lab neg ks).cells 0)), (1, .loc (.arg 0) 0), (2, .loc (.arg 1) 0)], [(.arg 0, .var [.imm g (.int .i64 m)]), (.arg 1, .var [.fn 38 [.loc (.arg 0) 0, .loc (.arg 1) 0]])], []⟩ := by
    intro m g hm
    have hmb : 0 ≤ m ∧ m ≤ 16386 := by rw [hm]; split <;> omega
    rw [awp_seq]
    (try simp (implicitDefEqProofs := false) only [go_sem, ↓reduceIte, Nat.reduceEqDiff, reduceCtorEq, Nat.reduceAdd, Nat.reduceSub, Nat.reduceLeDiff, Nat.reduceLT, Nat.reduceMul, Int.reduceToNat, Int.reduceLT, Int.reduceLE, Cn.cells, CondOn_imm])
    refine ⟨fun h1 => ?_, fun h1 => ?_⟩
    · have h1 : k = 1 := by simpa using h1
      (try simp (implicitDefEqProofs := false) only [go_sem, ↓reduceIte, Nat.reduceEqDiff, reduceCtorEq, Nat.reduceAdd, Nat.reduceSub, Nat.reduceLeDiff, Nat.reduceLT, Nat.reduceMul, Int.reduceToNat, Int.reduceLT, Int.reduceLE])
      refine CallK_do nto ?_
      have := loop (m + nodesF to.nodes) true (by rw [hm, headN, if_pos h1]; omega)
      (try simp (implicitDefEqProofs := false) only [go_sem, ↓reduceIte, Nat.reduceEqDiff, reduceCtorEq, Nat.reduceAdd, Nat.reduceSub, Nat.reduceLeDiff, Nat.reduceLT, Nat.reduceMul, Int.reduceToNat, Int.reduceLT, Int.reduceLE, Cn.cells] at this)
      (try simp (implicitDefEqProofs := false) only [go_sem, ↓reduceIte, Nat.reduceEqDiff, reduceCtorEq, Nat.reduceAdd, Nat.reduceSub, Nat.reduceLeDiff, Nat.reduceLT, Nat.reduceMul, Int.reduceToNat, Int.reduceLT, Int.reduceLE, wrap64 (n := m + nodesF to.nodes) (by omega) (by omega)])
      exact this
    · have h1 : k ≠ 1 := by simpa using h1
      have := loop m g (by rw [hm, headN, if_neg h1]; omega)
      (try simp (implicitDefEqProofs := false) only [go_sem, ↓reduceIte, Nat.reduceEqDiff, reduceCtorEq, Nat.reduceAdd, Nat.reduceSub, Nat.reduceLeDiff, Nat.reduceLT, Nat.reduceMul, Int.reduceToNat, Int.reduceLT, Int.reduceLE, Cn.cells] at this)
      (try simp (implicitDefEqProofs := false) only [go_sem, ↓reduceIte, Nat.reduceEqDiff, reduceCtorEq, Nat.reduceAdd, Nat.reduceSub, Nat.reduceLeDiff, Nat.reduceLT, Nat.reduceMul, Int.reduceToNat, Int.reduceLT, Int.reduceLE])
      exact this
  cases hlk : leafF k with
  | true =>
    (try simp (implicitDefEqProofs := false) only [go_sem, ↓reduceIte, Nat.reduceEqDiff, reduceCtorEq, Nat.reduceAdd, Nat.reduceSub, Nat.reduceLeDiff, Nat.reduceLT, Nat.reduceMul, Int.reduceToNat, Int.reduceLT, Int.reduceLE])
    refine CallK_do nty ?_
    have := second (n + 1 + nodesF ty.nodes) true (by rw [hlk]; simp)
    (try simp (implicitDefEqProofs := false) only [go_sem, ↓reduceIte, Nat.reduceEqDiff, reduceCtorEq, Nat.reduceAdd, Nat.reduceSub, Nat.reduceLeDiff, Nat.reduceLT, Nat.reduceMul, Int.reduceToNat, Int.reduceLT, Int.reduceLE, Cn.cells] at this)
    (try simp (implicitDefEqProofs := false) only [go_sem, ↓reduceIte, Nat.reduceEqDiff, reduceCtorEq, Nat.reduceAdd, Nat.reduceSub, Nat.reduceLeDiff, Nat.reduceLT, Nat.reduceMul, Int.reduceToNat, Int.reduceLT, Int.reduceLE, wrap64 (n := n + 1 + nodesF ty.nodes) (by omega) (by omega)])
    exact this
  | false =>
    have := second (n + 1) true (by rw [hlk]; simp)
    (try simp (implicitDefEqProofs := false) only [go_sem, ↓reduceIte, Nat.reduceEqDiff, reduceCtorEq, Nat.reduceAdd, Nat.reduceSub, Nat.reduceLeDiff, Nat.reduceLT, Nat.reduceMul, Int.reduceToNat, Int.reduceLT, Int.reduceLE, Cn.cells] at this)
    (try simp (implicitDefEqProofs := false) only [go_sem, ↓reduceIte, Nat.reduceEqDiff, reduceCtorEq, Nat.reduceAdd, Nat.reduceSub, Nat.reduceLeDiff, Nat.reduceLT, Nat.reduceMul, Int.reduceToNat, Int.reduceLT, Int.reduceLE])
    exact this

def Cn.few (c : Cn) : Bool := decide (c.down 0 ≤ 8192)
theorem counted_does (c : Cn) (hf : c.fits) : Does Tryd.prog 23 [.imm false (.ptr c.cells 0)] [] (.ret true (.bool c.few)) [] := by
  have h := down_does c hf 0 (by omega) (by omega)
  refine does23 (by rfl) (by rfl) ?_
  (try simp (implicitDefEqProofs := false) only [go_sem, ↓reduceIte, Nat.reduceEqDiff, reduceCtorEq, Nat.reduceAdd, Nat.reduceSub, Nat.reduceLeDiff, Nat.reduceLT, Nat.reduceMul, Int.reduceToNat, Int.reduceLT, Int.reduceLE])
  refine CallBK_do h ?_
  (try simp (implicitDefEqProofs := false) only [go_sem, ↓reduceIte, Nat.reduceEqDiff, reduceCtorEq, Nat.reduceAdd, Nat.reduceSub, Nat.reduceLeDiff, Nat.reduceLT, Nat.reduceMul, Int.reduceToNat, Int.reduceLT, Int.reduceLE, Cn.few])

end Go.Proofs.YtopgmopdjiahmaaDoor.Lg
