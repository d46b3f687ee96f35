/- Texts of one proof, joined by program (gen/tells.py): Ne Nf Ng Nh. Conditions: none; plain definitions and lemmas. -/
import Derived.Test.YtopgmopdjiahmaaH5
/- Coercions: how many nodes, how deep. Conditions: none; plain definitions and lemmas. -/
set_option linter.unusedVariables false
set_option linter.unusedSimpArgs false
set_option maxRecDepth 100000
set_option maxHeartbeats 1000000
namespace Go.Proofs.Ytopgmopdjiahmaa.Lg
open Go Go.RowKit Go.Proofs

theorem nodesF_le (n : Nat) : 0 ≤ nodesF n ∧ nodesF n ≤ 8193 ∧ (n ≤ 8192 → nodesF n = n) ∧ (¬ n ≤ 8192 → nodesF n = 8193) := by
  unfold nodesF; split <;> omega
def headN (k : Int) (ty to : Ty) : Int := 1 + (if leafF k = true then nodesF ty.nodes else 0) + (if k = 1 then nodesF to.nodes else 0)
mutual
def Cn.down : Cn → Int → Int
  | .mk k ty to _ _ ks, n => Cn.downL ks (n + headN k ty to)
def Cn.downL : List Cn → Int → Int
  | [], m => m
  | c :: r, m => if m > 8192 then m else Cn.downL r (c.down m)
end
theorem headN_le (k : Int) (ty to : Ty) : 1 ≤ headN k ty to ∧ headN k ty to ≤ 16387 := by
  unfold headN
  have := nodesF_le ty.nodes
  have := nodesF_le to.nodes
  split <;> split <;> omega
mutual
theorem Cn.down_le : ∀ (c : Cn) (n : Int), 0 ≤ n → n ≤ 8192 → 0 ≤ c.down n ∧ c.down n ≤ 24579
  | .mk k ty to lab neg ks, n, h, h' => by
    simp only [Cn.down]
    have := headN_le k ty to
    exact Cn.downL_le ks _ (by omega) (by omega)
theorem Cn.downL_le : ∀ (ks : List Cn) (m : Int), 0 ≤ m → m ≤ 24579 → 0 ≤ Cn.downL ks m ∧ Cn.downL ks m ≤ 24579
  | [], m, h, h' => by simp only [Cn.downL]; omega
  | c :: r, m, h, h' => by
    simp only [Cn.downL]
    split
    · omega
    · have := Cn.down_le c m h (by omega)
      exact Cn.downL_le r _ this.1 this.2
end
theorem Cn.downL_gt : ∀ (ks : List Cn) (m : Int), m > 8192 → Cn.downL ks m = m
  | [], m, h => rfl
  | c :: r, m, h => by simp only [Cn.downL, if_pos h]

def DownD (c : Cn) (n n' : Int) (b : Bool) : Prop := Does Try.prog 77 [.imm false (.ptr c.cells 0), .loc (.arg 0) 0, .loc (.arg 1) 0] [[.imm false (.int .i64 n)], [.fn 77 [.loc (.arg 0) 0, .loc (.arg 1) 0]]] (.ret true (.bool b)) [[.imm false (.int .i64 n')], [.fn 77 [.loc (.arg 0) 0, .loc (.arg 1) 0]]]

theorem down_does : ∀ c : Cn, c.fits → ∀ n : Int, 0 ≤ n → n ≤ 8192 → DownD c n (c.down n) (decide (c.down n ≤ 8192)) := by
  refine Cn.ind fun k ty to lab neg ks ih hf n hn0 hn => ?_
  have hf1 : ty.fits := hf.1
  have hf2 : to.fits := hf.2.1
  have hfl : ks.length ≤ 9223372036854775807 := hf.2.2.1
  have hty := nodesF_le ty.nodes
  have hto := nodesF_le to.nodes
  have nty := nodes_does ty hf1
  have nto := nodes_does to hf2
  rw [Ty.cells_eq] at nty nto
  have e0 : (Cn.mk k ty to lab neg ks).down n = Cn.downL ks (n + headN k ty to) := by simp only [Cn.down]
  have hhd := headN_le k ty to
  -- the last part
  have loop : ∀ (m : Int) (g : Bool), m = n + headN k ty to →
      awp Try.prog (.seq (.seq r77_6 (.block 0 (.loop l77_0))) (.seq r77_12 .ret)) (Fin [MR.t 4] (.ret true (.bool (decide (Cn.downL ks (n + headN k ty to) ≤ 8192)))) [[.imm false (.int .i64 (Cn.downL ks (n + headN k ty to)))], [.fn 77 [.loc (.arg 0) 0, .loc (.arg 1) 0]]])
        ⟨[(0, .imm false (.ptr (Cn.mk k ty to lab neg ks).cells 0)), (1, .loc (.arg 0) 0), (2, .loc (.arg 1) 0)], [(.arg 0, .var [.imm g (.int .i64 m)]), (.arg 1, .var [.fn 77 [.loc (.arg 0) 0, .loc (.arg 1) 0]])], []⟩ := by
    intro m g hm
    (try simp (implicitDefEqProofs := false) only [go_sem, ↓reduceIte, Nat.reduceEqDiff, reduceCtorEq, Nat.reduceAdd, Nat.reduceSub, Nat.reduceLeDiff, Nat.reduceLT, Nat.reduceMul, Int.reduceToNat, Int.reduceLT, Int.reduceLE, Cn.cells, Cn.cellsL_len])
    refine ⟨fun q σ => ∃ j m g, j ≤ ks.length ∧ q = ks.length - j ∧ 0 ≤ m ∧ m ≤ 24579 ∧ Cn.downL ks (n + headN k ty to) = Cn.downL (ks.drop j) m ∧ σ = ⟨[(0, .imm false (.ptr (Cn.mk k ty to lab neg ks).cells 0)), (1, .loc (.arg 0) 0), (2, .loc (.arg 1) 0), (36, .imm true (.int .i64 ks.length)), (37, .imm true (.int .i64 j))], [(.arg 0, .var [.imm g (.int .i64 m)]), (.arg 1, .var [.fn 77 [.loc (.arg 0) 0, .loc (.arg 1) 0]])], []⟩, ⟨_, 0, m, g, by omega, rfl, by omega, by omega, by rw [hm]; rfl, by first | rfl | simp only [Cn.cells] | (simp only [Cn.cells]; rfl)⟩, ?_⟩
    rintro q σ ⟨j, m, g, hj, rfl, hm0, hm1, hs, rfl⟩
    unfold l77_0
    (try simp (implicitDefEqProofs := false) only [go_sem, ↓reduceIte, Nat.reduceEqDiff, reduceCtorEq, Nat.reduceAdd, Nat.reduceSub, Nat.reduceLeDiff, Nat.reduceLT, Nat.reduceMul, Int.reduceToNat, Int.reduceLT, Int.reduceLE, CondOn_imm, Cn.cells])
    refine ⟨fun hlt => ?_, fun hlt => ?_⟩
    · have hlt : j < ks.length := by simpa using hlt
      obtain ⟨c', hmem, hat, hdr, _⟩ := Cn.kid hlt
      rw [hdr, Cn.downL] at hs
      have hcl := Cn.cells_len c'
      by_cases hgt : m > 8192
      · rw [if_pos hgt] at hs
        (try simp (implicitDefEqProofs := false) only [go_sem, ↓reduceIte, Nat.reduceEqDiff, reduceCtorEq, Nat.reduceAdd, Nat.reduceSub, Nat.reduceLeDiff, Nat.reduceLT, Nat.reduceMul, Int.reduceToNat, Int.reduceLT, Int.reduceLE, show decide (m > 8192) = true from by simpa using hgt])
        rw [hs, decide_eq_false (by omega)]; exact ⟨rfl, rfl⟩
      · rw [if_neg hgt] at hs
        have hb := Cn.down_le c' m hm0 (by omega)
        (try simp (implicitDefEqProofs := false) only [go_sem, ↓reduceIte, Nat.reduceEqDiff, reduceCtorEq, Nat.reduceAdd, Nat.reduceSub, Nat.reduceLeDiff, Nat.reduceLT, Nat.reduceMul, Int.reduceToNat, Int.reduceLT, Int.reduceLE, show decide (m > 8192) = false from by simpa using hgt, hat, hcl, Int.toNat_natCast, Int.natCast_nonneg])
        refine CallBK_do (ih c' hmem (Cn.fitsL_mem hf.2.2.2.2 _ hmem) m hm0 (by omega)) ?_
        by_cases hc : c'.down m ≤ 8192
        · (try simp (implicitDefEqProofs := false) only [go_sem, ↓reduceIte, Nat.reduceEqDiff, reduceCtorEq, Nat.reduceAdd, Nat.reduceSub, Nat.reduceLeDiff, Nat.reduceLT, Nat.reduceMul, Int.reduceToNat, Int.reduceLT, Int.reduceLE, decide_eq_true hc, wrap64 (n := (j : Int) + 1) (by omega) (by omega)])
          exact ⟨_, by omega, j + 1, _, _, by omega, rfl, hb.1, hb.2, hs, by first | rfl | simp only [Cn.cells] | (simp only [Cn.cells]; rfl)⟩
        · rw [Cn.downL_gt (ks.drop (j + 1)) (c'.down m) (by omega)] at hs
          (try simp (implicitDefEqProofs := false) only [go_sem, ↓reduceIte, Nat.reduceEqDiff, reduceCtorEq, Nat.reduceAdd, Nat.reduceSub, Nat.reduceLeDiff, Nat.reduceLT, Nat.reduceMul, Int.reduceToNat, Int.reduceLT, Int.reduceLE, decide_eq_false hc])
          rw [hs, decide_eq_false hc]; exact ⟨rfl, rfl⟩
    · have hge : j = ks.length := by have : ¬ j < ks.length := by simpa using hlt
                                     omega
      subst hge
      simp only [List.drop_length, Cn.downL] at hs
      (try simp (implicitDefEqProofs := false) only [go_sem, ↓reduceIte, Nat.reduceEqDiff, reduceCtorEq, Nat.reduceAdd, Nat.reduceSub, Nat.reduceLeDiff, Nat.reduceLT, Nat.reduceMul, Int.reduceToNat, Int.reduceLT, Int.reduceLE])
      rw [hs]; exact ⟨rfl, rfl⟩
  rw [e0]
  refine does77 (by rfl) (by rfl) ?_
  have w1 := wrap64 (n := n + 1) (by omega) (by omega)
  (try simp (implicitDefEqProofs := false) only [go_sem, ↓reduceIte, Nat.reduceEqDiff, reduceCtorEq, Nat.reduceAdd, Nat.reduceSub, Nat.reduceLeDiff, Nat.reduceLT, Nat.reduceMul, Int.reduceToNat, Int.reduceLT, Int.reduceLE, my77, Cn.cells, w1])
  refine CallK_do (leaf_does k) ?_
  have second : ∀ (m : Int) (g : Bool), m = n + 1 + (if leafF k = true then nodesF ty.nodes else 0) →
      awp Try.prog (.seq (.seq r77_4 (.cond (.t 24) r77_5 .skip)) (.seq (.seq r77_6 (.block 0 (.loop l77_0))) (.seq r77_12 .ret))) (Fin [MR.t 4] (.ret true (.bool (decide (Cn.downL ks (n + headN k ty to) ≤ 8192)))) [[.imm false (.int .i64 (Cn.downL ks (n + headN k ty to)))], [.fn 77 [.loc (.arg 0) 0, .loc (.arg 1) 0]]])
        ⟨[(0, .imm false (.ptr (Cn.mk k ty to lab neg ks).cells 0)), (1, .loc (.arg 0) 0), (2, .loc (.arg 1) 0)], [(.arg 0, .var [.imm g (.int .i64 m)]), (.arg 1, .var [.fn 77 [.loc (.arg 0) 0, .loc (.arg 1) 0]])], []⟩ := by
    intro m g hm
    have hmb : 0 ≤ m ∧ m ≤ 16386 := by rw [hm]; split <;> omega
    rw [awp_seq]
    (try simp (implicitDefEqProofs := false) only [go_sem, ↓reduceIte, Nat.reduceEqDiff, reduceCtorEq, Nat.reduceAdd, Nat.reduceSub, Nat.reduceLeDiff, Nat.reduceLT, Nat.reduceMul, Int.reduceToNat, Int.reduceLT, Int.reduceLE, Cn.cells, CondOn_imm])
    refine ⟨fun h1 => ?_, fun h1 => ?_⟩
    · have h1 : k = 1 := by simpa using h1
      (try simp (implicitDefEqProofs := false) only [go_sem, ↓reduceIte, Nat.reduceEqDiff, reduceCtorEq, Nat.reduceAdd, Nat.reduceSub, Nat.reduceLeDiff, Nat.reduceLT, Nat.reduceMul, Int.reduceToNat, Int.reduceLT, Int.reduceLE])
      refine CallK_do nto ?_
      have := loop (m + nodesF to.nodes) true (by rw [hm, headN, if_pos h1]; omega)
      (try simp (implicitDefEqProofs := false) only [go_sem, ↓reduceIte, Nat.reduceEqDiff, reduceCtorEq, Nat.reduceAdd, Nat.reduceSub, Nat.reduceLeDiff, Nat.reduceLT, Nat.reduceMul, Int.reduceToNat, Int.reduceLT, Int.reduceLE, Cn.cells] at this)
      (try simp (implicitDefEqProofs := false) only [go_sem, ↓reduceIte, Nat.reduceEqDiff, reduceCtorEq, Nat.reduceAdd, Nat.reduceSub, Nat.reduceLeDiff, Nat.reduceLT, Nat.reduceMul, Int.reduceToNat, Int.reduceLT, Int.reduceLE, wrap64 (n := m + nodesF to.nodes) (by omega) (by omega)])
      exact this
    · have h1 : k ≠ 1 := by simpa using h1
      have := loop m g (by rw [hm, headN, if_neg h1]; omega)
      (try simp (implicitDefEqProofs := false) only [go_sem, ↓reduceIte, Nat.reduceEqDiff, reduceCtorEq, Nat.reduceAdd, Nat.reduceSub, Nat.reduceLeDiff, Nat.reduceLT, Nat.reduceMul, Int.reduceToNat, Int.reduceLT, Int.reduceLE, Cn.cells] at this)
      (try simp (implicitDefEqProofs := false) only [go_sem, ↓reduceIte, Nat.reduceEqDiff, reduceCtorEq, Nat.reduceAdd, Nat.reduceSub, Nat.reduceLeDiff, Nat.reduceLT, Nat.reduceMul, Int.reduceToNat, Int.reduceLT, Int.reduceLE])
      exact this
  cases hlk : leafF k with
  | true =>
    (try simp (implicitDefEqProofs := false) only [go_sem, ↓reduceIte, Nat.reduceEqDiff, reduceCtorEq, Nat.reduceAdd, Nat.reduceSub, Nat.reduceLeDiff, Nat.reduceLT, Nat.reduceMul, Int.reduceToNat, Int.reduceLT, Int.reduceLE])
    refine CallK_do nty ?_
    have := second (n + 1 + nodesF ty.nodes) true (by rw [hlk]; simp)
    (try simp (implicitDefEqProofs := false) only [go_sem, ↓reduceIte, Nat.reduceEqDiff, reduceCtorEq, Nat.reduceAdd, Nat.reduceSub, Nat.reduceLeDiff, Nat.reduceLT, Nat.reduceMul, Int.reduceToNat, Int.reduceLT, Int.reduceLE, Cn.cells] at this)
    (try simp (implicitDefEqProofs := false) only [go_sem, ↓reduceIte, Nat.reduceEqDiff, reduceCtorEq, Nat.reduceAdd, Nat.reduceSub, Nat.reduceLeDiff, Nat.reduceLT, Nat.reduceMul, Int.reduceToNat, Int.reduceLT, Int.reduceLE, wrap64 (n := n + 1 + nodesF ty.nodes) (by omega) (by omega)])
    exact this
  | false =>
    have := second (n + 1) true (by rw [hlk]; simp)
    (try simp (implicitDefEqProofs := false) only [go_sem, ↓reduceIte, Nat.reduceEqDiff, reduceCtorEq, Nat.reduceAdd, Nat.reduceSub, Nat.reduceLeDiff, Nat.reduceLT, Nat.reduceMul, Int.reduceToNat, Int.reduceLT, Int.reduceLE, Cn.cells] at this)
    (try simp (implicitDefEqProofs := false) only [go_sem, ↓reduceIte, Nat.reduceEqDiff, reduceCtorEq, Nat.reduceAdd, Nat.reduceSub, Nat.reduceLeDiff, Nat.reduceLT, Nat.reduceMul, Int.reduceToNat, Int.reduceLT, Int.reduceLE])
    exact this

def Cn.few (c : Cn) : Bool := decide (c.down 0 ≤ 8192)
theorem counted_does (c : Cn) (hf : c.fits) : Does Try.prog 46 [.imm false (.ptr c.cells 0)] [] (.ret true (.bool c.few)) [] := by
  have h := down_does c hf 0 (by omega) (by omega)
  refine does46 (by rfl) (by rfl) ?_
  (try simp (implicitDefEqProofs := false) only [go_sem, ↓reduceIte, Nat.reduceEqDiff, reduceCtorEq, Nat.reduceAdd, Nat.reduceSub, Nat.reduceLeDiff, Nat.reduceLT, Nat.reduceMul, Int.reduceToNat, Int.reduceLT, Int.reduceLE])
  refine CallBK_do h ?_
  (try simp (implicitDefEqProofs := false) only [go_sem, ↓reduceIte, Nat.reduceEqDiff, reduceCtorEq, Nat.reduceAdd, Nat.reduceSub, Nat.reduceLeDiff, Nat.reduceLT, Nat.reduceMul, Int.reduceToNat, Int.reduceLT, Int.reduceLE, Cn.few])

end Go.Proofs.Ytopgmopdjiahmaa.Lg

/- Coercions: how deep, grounds. Conditions: none; plain definitions and lemmas. -/
set_option linter.unusedVariables false
set_option linter.unusedSimpArgs false
set_option maxRecDepth 100000
set_option maxHeartbeats 1000000
namespace Go.Proofs.Ytopgmopdjiahmaa.Lg
open Go Go.RowKit Go.Proofs

/-! ### how deep -/
def maxI (a b : Int) : Int := if b > a then b else a
def minI (a b : Int) : Int := if b < a then b else a
theorem maxI_le {a b c : Int} (h : a ≤ c) (h' : b ≤ c) : maxI a b ≤ c := by unfold maxI; split <;> omega
theorem le_maxI {a b : Int} : a ≤ maxI a b ∧ b ≤ maxI a b := by unfold maxI; split <;> omega
def deep0 (k : Int) (ty to : Ty) : Int := if k = 1 then maxI ty.depth to.depth else if leafF k = true then ty.depth else 0
mutual
def Cn.deep : Cn → Int → Int
  | .mk k ty to _ _ ks, n => if n = 1 then 1 else minI (Cn.deepL ks (n - 1) (deep0 k ty to) + 1) n
def Cn.deepL : List Cn → Int → Int → Int
  | [], _, d => d
  | c :: r, n, d => Cn.deepL r n (maxI d (c.deep n))
end
theorem depth_le (t : Ty) : 0 ≤ t.depth ∧ t.depth ≤ 201 := by
  unfold Ty.depth
  split
  · have := Ty.deep_le t 201; omega
  · omega
theorem deep0_le (k : Int) (ty to : Ty) : 0 ≤ deep0 k ty to ∧ deep0 k ty to ≤ 201 := by
  have := depth_le ty
  have := depth_le to
  unfold deep0 maxI
  split
  · split <;> omega
  · split <;> omega
mutual
theorem Cn.deep_le : ∀ (c : Cn) (n : Int), 1 ≤ n → n ≤ 201 → 0 ≤ c.deep n ∧ c.deep n ≤ n
  | .mk k ty to lab neg ks, n, h, h' => by
    simp only [Cn.deep]
    have h0 := deep0_le k ty to
    split
    · omega
    · have := Cn.deepL_le ks (n - 1) (deep0 k ty to) (by omega) (by omega) h0.1 h0.2
      unfold minI; split <;> omega
theorem Cn.deepL_le : ∀ (ks : List Cn) (n d : Int), 1 ≤ n → n ≤ 201 → 0 ≤ d → d ≤ 201 → 0 ≤ Cn.deepL ks n d ∧ Cn.deepL ks n d ≤ 201
  | [], n, d, h, h', h2, h3 => by simp only [Cn.deepL]; omega
  | c :: r, n, d, h, h', h2, h3 => by
    simp only [Cn.deepL]
    have h1 := Cn.deep_le c n h h'
    exact Cn.deepL_le r n _ h h' (by unfold maxI; split <;> omega) (by unfold maxI; split <;> omega)
end
theorem cdeep_does : ∀ c : Cn, c.fits → ∀ n : Int, 1 ≤ n → n ≤ 201 → Does Try.prog 47 [.imm false (.ptr c.cells 0), .imm false (.int .i64 n)] [] (.ret true (.int .i64 (c.deep n))) [] := by
  refine Cn.ind fun k ty to lab neg ks ih hf n hn hn' => ?_
  have hf1 : ty.fits := hf.1
  have hf2 : to.fits := hf.2.1
  have hfl : ks.length ≤ 9223372036854775807 := hf.2.2.1
  have dty := depth_does ty hf1
  have dto := depth_does to hf2
  rw [Ty.cells_eq] at dty dto
  have b1 := depth_le ty
  have b2 := depth_le to
  have b0 := deep0_le k ty to
  refine does47 (by rfl) (by rfl) ?_
  by_cases h1 : n = 1
  · subst h1
    (try simp (implicitDefEqProofs := false) only [go_sem, ↓reduceIte, Nat.reduceEqDiff, reduceCtorEq, Nat.reduceAdd, Nat.reduceSub, Nat.reduceLeDiff, Nat.reduceLT, Nat.reduceMul, Int.reduceToNat, Int.reduceLT, Int.reduceLE, Cn.cells])
    simp [Cn.deep]
  have hnb : (n == 1) = false := by simpa using h1
  have e0 : (Cn.mk k ty to lab neg ks).deep n = minI (Cn.deepL ks (n - 1) (deep0 k ty to) + 1) n := by simp only [Cn.deep, if_neg h1]
  have loop : ∀ (d : Int) , d = deep0 k ty to →
      awp Try.prog (.seq (.seq r47_8 (.block 0 (.loop l47_0))) (.seq r47_13 .ret)) (Fin [MR.t 4] (.ret true (.int .i64 ((Cn.mk k ty to lab neg ks).deep n))) [])
        ⟨[(0, .imm false (.ptr (Cn.mk k ty to lab neg ks).cells 0)), (1, .imm false (.int .i64 n)), (5, .imm true (.int .i64 d))], [], []⟩ := by
    intro d hd
    (try simp (implicitDefEqProofs := false) only [go_sem, ↓reduceIte, Nat.reduceEqDiff, reduceCtorEq, Nat.reduceAdd, Nat.reduceSub, Nat.reduceLeDiff, Nat.reduceLT, Nat.reduceMul, Int.reduceToNat, Int.reduceLT, Int.reduceLE, Cn.cells, Cn.cellsL_len])
    refine ⟨fun q σ => ∃ j d, j ≤ ks.length ∧ q = ks.length - j ∧ 0 ≤ d ∧ d ≤ 201 ∧ Cn.deepL ks (n - 1) (deep0 k ty to) = Cn.deepL (ks.drop j) (n - 1) d ∧ σ = ⟨[(0, .imm false (.ptr (Cn.mk k ty to lab neg ks).cells 0)), (1, .imm false (.int .i64 n)), (5, .imm true (.int .i64 d)), (35, .imm true (.int .i64 ks.length)), (36, .imm true (.int .i64 j))], [], []⟩, ⟨_, 0, d, by omega, rfl, by omega, by omega, by rw [hd]; rfl, by first | rfl | simp only [Cn.cells] | (simp only [Cn.cells]; rfl)⟩, ?_⟩
    rintro q σ ⟨j, d, hj, rfl, hd0, hd1, hs, rfl⟩
    unfold l47_0
    (try simp (implicitDefEqProofs := false) only [go_sem, ↓reduceIte, Nat.reduceEqDiff, reduceCtorEq, Nat.reduceAdd, Nat.reduceSub, Nat.reduceLeDiff, Nat.reduceLT, Nat.reduceMul, Int.reduceToNat, Int.reduceLT, Int.reduceLE, CondOn_imm, Cn.cells])
    refine ⟨fun hlt => ?_, fun hlt => ?_⟩
    · have hlt : j < ks.length := by simpa using hlt
      obtain ⟨c', hmem, hat, hdr, _⟩ := Cn.kid hlt
      rw [hdr, Cn.deepL] at hs
      have hcl := Cn.cells_len c'
      have hb := Cn.deep_le c' (n - 1) (by omega) (by omega)
      (try simp (implicitDefEqProofs := false) only [go_sem, ↓reduceIte, Nat.reduceEqDiff, reduceCtorEq, Nat.reduceAdd, Nat.reduceSub, Nat.reduceLeDiff, Nat.reduceLT, Nat.reduceMul, Int.reduceToNat, Int.reduceLT, Int.reduceLE, hat, hcl, Int.toNat_natCast, Int.natCast_nonneg, wrap64 (n := n - 1) (by omega) (by omega)])
      refine CallK_do (ih c' hmem (Cn.fitsL_mem hf.2.2.2.2 _ hmem) (n - 1) (by omega) (by omega)) ?_
      (try simp (implicitDefEqProofs := false) only [go_sem, ↓reduceIte, Nat.reduceEqDiff, reduceCtorEq, Nat.reduceAdd, Nat.reduceSub, Nat.reduceLeDiff, Nat.reduceLT, Nat.reduceMul, Int.reduceToNat, Int.reduceLT, Int.reduceLE, wrap64 (n := (j : Int) + 1) (by omega) (by omega)])
      exact ⟨_, by omega, j + 1, _, by omega, rfl, by unfold maxI at *; split <;> omega, by unfold maxI at *; split <;> omega, hs, by first | rfl | simp only [Cn.cells] | (simp only [Cn.cells]; rfl)⟩
    · have hge : j = ks.length := by have : ¬ j < ks.length := by simpa using hlt
                                     omega
      subst hge
      simp only [List.drop_length, Cn.deepL] at hs
      (try simp (implicitDefEqProofs := false) only [go_sem, ↓reduceIte, Nat.reduceEqDiff, reduceCtorEq, Nat.reduceAdd, Nat.reduceSub, Nat.reduceLeDiff, Nat.reduceLT, Nat.reduceMul, Int.reduceToNat, Int.reduceLT, Int.reduceLE, wrap64 (n := d + 1) (by omega) (by omega)])
      rw [e0, hs, minI]
  (try simp (implicitDefEqProofs := false) only [go_sem, ↓reduceIte, Nat.reduceEqDiff, reduceCtorEq, Nat.reduceAdd, Nat.reduceSub, Nat.reduceLeDiff, Nat.reduceLT, Nat.reduceMul, Int.reduceToNat, Int.reduceLT, Int.reduceLE, Cn.cells, hnb])
  refine CallK_do (leaf_does k) ?_
  have second : ∀ (d : Int), d = (if leafF k = true then ty.depth else 0) →
      awp Try.prog (.seq (.seq r47_6 (.cond (.t 23) r47_7 .skip)) (.seq (.seq r47_8 (.block 0 (.loop l47_0))) (.seq r47_13 .ret))) (Fin [MR.t 4] (.ret true (.int .i64 ((Cn.mk k ty to lab neg ks).deep n))) [])
        ⟨[(0, .imm false (.ptr (Cn.mk k ty to lab neg ks).cells 0)), (1, .imm false (.int .i64 n)), (5, .imm true (.int .i64 d))], [], []⟩ := by
    intro d hd
    by_cases h1 : k = 1
    · have hl : leafF k = true := by subst h1; rfl
      have hb1 : (k == 1) = true := by simpa using h1
      (try simp (implicitDefEqProofs := false) only [go_sem, ↓reduceIte, Nat.reduceEqDiff, reduceCtorEq, Nat.reduceAdd, Nat.reduceSub, Nat.reduceLeDiff, Nat.reduceLT, Nat.reduceMul, Int.reduceToNat, Int.reduceLT, Int.reduceLE, Cn.cells, hb1])
      refine CallK_do dto ?_
      have := loop (maxI ty.depth to.depth) (by rw [deep0, if_pos h1])
      (try simp (implicitDefEqProofs := false) only [go_sem, ↓reduceIte, Nat.reduceEqDiff, reduceCtorEq, Nat.reduceAdd, Nat.reduceSub, Nat.reduceLeDiff, Nat.reduceLT, Nat.reduceMul, Int.reduceToNat, Int.reduceLT, Int.reduceLE, Cn.cells, maxI] at this)
      rw [if_pos hl] at hd
      subst hd
      (try simp (implicitDefEqProofs := false) only [go_sem, ↓reduceIte, Nat.reduceEqDiff, reduceCtorEq, Nat.reduceAdd, Nat.reduceSub, Nat.reduceLeDiff, Nat.reduceLT, Nat.reduceMul, Int.reduceToNat, Int.reduceLT, Int.reduceLE])
      exact this
    · have hb1 : (k == 1) = false := by simpa using h1
      have := loop d (by rw [hd, deep0, if_neg h1])
      (try simp (implicitDefEqProofs := false) only [go_sem, ↓reduceIte, Nat.reduceEqDiff, reduceCtorEq, Nat.reduceAdd, Nat.reduceSub, Nat.reduceLeDiff, Nat.reduceLT, Nat.reduceMul, Int.reduceToNat, Int.reduceLT, Int.reduceLE, Cn.cells] at this)
      (try simp (implicitDefEqProofs := false) only [go_sem, ↓reduceIte, Nat.reduceEqDiff, reduceCtorEq, Nat.reduceAdd, Nat.reduceSub, Nat.reduceLeDiff, Nat.reduceLT, Nat.reduceMul, Int.reduceToNat, Int.reduceLT, Int.reduceLE, Cn.cells, hb1])
      exact this
  cases hlk : leafF k with
  | true =>
    (try simp (implicitDefEqProofs := false) only [go_sem, ↓reduceIte, Nat.reduceEqDiff, reduceCtorEq, Nat.reduceAdd, Nat.reduceSub, Nat.reduceLeDiff, Nat.reduceLT, Nat.reduceMul, Int.reduceToNat, Int.reduceLT, Int.reduceLE])
    refine CallK_do dty ?_
    have := second ty.depth (by rw [hlk]; simp)
    (try simp (implicitDefEqProofs := false) only [go_sem, ↓reduceIte, Nat.reduceEqDiff, reduceCtorEq, Nat.reduceAdd, Nat.reduceSub, Nat.reduceLeDiff, Nat.reduceLT, Nat.reduceMul, Int.reduceToNat, Int.reduceLT, Int.reduceLE, Cn.cells] at this)
    (try simp (implicitDefEqProofs := false) only [go_sem, ↓reduceIte, Nat.reduceEqDiff, reduceCtorEq, Nat.reduceAdd, Nat.reduceSub, Nat.reduceLeDiff, Nat.reduceLT, Nat.reduceMul, Int.reduceToNat, Int.reduceLT, Int.reduceLE])
    exact this
  | false =>
    (try simp (implicitDefEqProofs := false) only [go_sem, ↓reduceIte, Nat.reduceEqDiff, reduceCtorEq, Nat.reduceAdd, Nat.reduceSub, Nat.reduceLeDiff, Nat.reduceLT, Nat.reduceMul, Int.reduceToNat, Int.reduceLT, Int.reduceLE])
    have := second 0 (by rw [hlk]; simp)
    (try simp (implicitDefEqProofs := false) only [go_sem, ↓reduceIte, Nat.reduceEqDiff, reduceCtorEq, Nat.reduceAdd, Nat.reduceSub, Nat.reduceLeDiff, Nat.reduceLT, Nat.reduceMul, Int.reduceToNat, Int.reduceLT, Int.reduceLE, Cn.cells] at this)
    exact this
end Go.Proofs.Ytopgmopdjiahmaa.Lg

/- Coercions: where they go from and to. Conditions: none; plain definitions and lemmas. -/
set_option linter.unusedVariables false
set_option linter.unusedSimpArgs false
set_option maxRecDepth 100000
set_option maxHeartbeats 1000000
namespace Go.Proofs.Ytopgmopdjiahmaa.Lg
open Go Go.RowKit Go.Proofs

theorem partsF_le (k : Int) : partsF k ≤ 2 := by unfold partsF; split; omega; split <;> omega
theorem fitsL_replicate : ∀ n : Nat, Ty.fitsL (List.replicate n (.mk 0 []))
  | 0 => trivial
  | n + 1 => by
    rw [List.replicate_succ]
    exact ⟨⟨by simp, trivial⟩, fitsL_replicate n⟩
theorem ground_fits (t : Ty) : t.ground.1.fits := by
  unfold Ty.ground
  split
  · exact ⟨by simp, trivial⟩
  · have := partsF_le t.k
    exact ⟨by rw [List.length_replicate]; omega, fitsL_replicate _⟩
def Ty.isG (t : Ty) : Bool := t.ground.2 && t.same t.ground.1
theorem isG_does (t : Ty) (hf : t.fits) : Does Try.prog 80 [.imm false (.agg t.cells)] [] (.ret false (.bool t.isG)) [] := by
  have hg := ground_does t hf
  have hs := same_does t t.ground.1 hf (ground_fits t)
  have e : t.isG = (t.ground.2 && t.same t.ground.1) := rfl
  rw [e]
  generalize t.ground = g at hg hs
  obtain ⟨g, b⟩ := g
  rw [Ty.cells_eq] at hg hs ⊢
  simp only [Ty.cells_eq g] at hg hs
  refine does80 (by rfl) (by rfl) ?_
  (try simp (implicitDefEqProofs := false) only [go_sem, ↓reduceIte, Nat.reduceEqDiff, reduceCtorEq, Nat.reduceAdd, Nat.reduceSub, Nat.reduceLeDiff, Nat.reduceLT, Nat.reduceMul, Int.reduceToNat, Int.reduceLT, Int.reduceLE])
  refine CallK_do hg ?_
  (try simp (implicitDefEqProofs := false) only [go_sem, ↓reduceIte, Nat.reduceEqDiff, reduceCtorEq, Nat.reduceAdd, Nat.reduceSub, Nat.reduceLeDiff, Nat.reduceLT, Nat.reduceMul, Int.reduceToNat, Int.reduceLT, Int.reduceLE])
  cases b with
  | true =>
    (try simp (implicitDefEqProofs := false) only [go_sem, ↓reduceIte, Nat.reduceEqDiff, reduceCtorEq, Nat.reduceAdd, Nat.reduceSub, Nat.reduceLeDiff, Nat.reduceLT, Nat.reduceMul, Int.reduceToNat, Int.reduceLT, Int.reduceLE])
    refine CallK_do hs ?_
    (try simp (implicitDefEqProofs := false) only [go_sem, ↓reduceIte, Nat.reduceEqDiff, reduceCtorEq, Nat.reduceAdd, Nat.reduceSub, Nat.reduceLeDiff, Nat.reduceLT, Nat.reduceMul, Int.reduceToNat, Int.reduceLT, Int.reduceLE])
  | false => (try simp (implicitDefEqProofs := false) only [go_sem, ↓reduceIte, Nat.reduceEqDiff, reduceCtorEq, Nat.reduceAdd, Nat.reduceSub, Nat.reduceLeDiff, Nat.reduceLT, Nat.reduceMul, Int.reduceToNat, Int.reduceLT, Int.reduceLE])

abbrev En := Ty × Ty × Bool
def noE : En := (.un, .un, false)
def partsE (k : Int) (e f : En) : En :=
  if (e.2.2 && f.2.2) = false then noE else if k = 4 then (.mk 3 [e.2.1, f.1], .mk 3 [e.1, f.2.1], true) else if k = 5 then (.mk 4 [e.1, f.1], .mk 4 [e.2.1, f.2.1], true)
  else if k = 6 then (.mk 5 [e.1, f.1], .mk 5 [e.2.1, f.2.1], true) else if k = 7 then (e.1, f.2.1, e.2.1.same f.1) else noE
def partsL (k : Int) : List En → En
  | [e, f] => partsE k e f
  | _ => noE
def labOk (lab : Int) : Bool := decide (lab ≥ 1) && decide (lab ≤ 2147483648)
def leafE (k : Int) (ty to : Ty) (lab : Int) (none : Bool) : En :=
  if none = false ∨ ty.check ≠ 0 then noE else if k = 0 then (ty, ty, true) else if k = 2 then (ty, .un, ty.isG) else if k = 3 then (.un, ty, ty.isG && labOk lab)
  else (ty, to, labOk lab && ty.k != 0 && to.check == 0)
mutual
def Cn.ends : Cn → En
  | .mk k ty to lab _ ks => if leafF k = true then leafE k ty to lab ks.isEmpty else partsL k (Cn.endsL ks)
def Cn.endsL : List Cn → List En
  | [] => []
  | c :: r => c.ends :: Cn.endsL r
end
def enV (e : En) : IV := .tup [.agg e.1.cells, .agg e.2.1.cells, .bool e.2.2]
def EndsD (c : Cn) : Prop := Does Try.prog 48 [.imm false (.ptr c.cells 0)] [] (.ret false (enV c.ends)) []
def PartsD (c : Cn) (e : En) : Prop := Does Try.prog 79 [.imm false (.ptr c.cells 0)] [] (.ret false (enV e)) []
theorem noE_v : enV noE = .tup [.agg [.int .i8 0, .slice []], .agg [.int .i8 0, .slice []], .bool false] := by
  simp [enV, noE, Ty.un, Ty.cells, Ty.cellsL]

theorem two_does (k : Int) (a b : Ty) : Does Try.prog 110 [.imm false (.int .i8 k), .imm false (.agg a.cells), .imm false (.agg b.cells)] [] (.ret false (.agg [.int .i8 k, .slice [a.cells, b.cells]])) [] := by
  rw [Ty.cells_eq a, Ty.cells_eq b]
  refine does110 (by rfl) (by rfl) ?_
  (try simp (implicitDefEqProofs := false) only [go_sem, ↓reduceIte, Nat.reduceEqDiff, reduceCtorEq, Nat.reduceAdd, Nat.reduceSub, Nat.reduceLeDiff, Nat.reduceLT, Nat.reduceMul, Int.reduceToNat, Int.reduceLT, Int.reduceLE])

theorem two_cells (k : Int) (a b : Ty) : (Ty.mk k [a, b]).cells = [.int .i8 k, .slice [a.cells, b.cells]] := by simp [Ty.cells, Ty.cellsL]

theorem parts_two {k : Int} {ty to : Ty} {lab : Int} {neg : Bool} {a b : Cn} (ha : EndsD a) (hb : EndsD b) (hfa : a.ends.2.1.fits) (hfb : b.ends.1.fits) :
    PartsD (.mk k ty to lab neg [a, b]) (partsE k a.ends b.ends) := by
  have hla := Cn.cells_len a
  have hlb := Cn.cells_len b
  unfold EndsD at ha hb
  generalize a.ends = e at ha hfa
  generalize b.ends = f at hb hfb
  obtain ⟨e1, e2, e3⟩ := e
  obtain ⟨f1, f2, f3⟩ := f
  have hs := same_does e2 f1 hfa hfb
  simp only [enV] at ha hb
  refine does79 (by rfl) (by rfl) ?_
  (try simp (implicitDefEqProofs := false) only [go_sem, ↓reduceIte, Nat.reduceEqDiff, reduceCtorEq, Nat.reduceAdd, Nat.reduceSub, Nat.reduceLeDiff, Nat.reduceLT, Nat.reduceMul, Int.reduceToNat, Int.reduceLT, Int.reduceLE, Cn.cells, Cn.cellsL, show ((2 : Int) != 2) = false from rfl, hla, hlb])
  refine CallK_do ha ?_
  (try simp (implicitDefEqProofs := false) only [go_sem, ↓reduceIte, Nat.reduceEqDiff, reduceCtorEq, Nat.reduceAdd, Nat.reduceSub, Nat.reduceLeDiff, Nat.reduceLT, Nat.reduceMul, Int.reduceToNat, Int.reduceLT, Int.reduceLE, Ty.cells_eq, hla, hlb])
  refine CallK_do hb ?_
  rw [Ty.cells_eq e2, Ty.cells_eq f1] at hs
  have h2 := two_does 3 e2 f1
  have h3 := two_does 3 e1 f2
  have h4 := two_does 4 e1 f1
  have h5 := two_does 4 e2 f2
  have h6 := two_does 5 e1 f1
  have h7 := two_does 5 e2 f2
  simp only [Ty.cells_eq] at h2 h3 h4 h5 h6 h7
  cases e3 with
  | false =>
    (try simp (implicitDefEqProofs := false) only [go_sem, ↓reduceIte, Nat.reduceEqDiff, reduceCtorEq, Nat.reduceAdd, Nat.reduceSub, Nat.reduceLeDiff, Nat.reduceLT, Nat.reduceMul, Int.reduceToNat, Int.reduceLT, Int.reduceLE, Ty.cells_eq])
    simp [partsE, noE_v]
  | true =>
  cases f3 with
  | false =>
    (try simp (implicitDefEqProofs := false) only [go_sem, ↓reduceIte, Nat.reduceEqDiff, reduceCtorEq, Nat.reduceAdd, Nat.reduceSub, Nat.reduceLeDiff, Nat.reduceLT, Nat.reduceMul, Int.reduceToNat, Int.reduceLT, Int.reduceLE, Ty.cells_eq])
    simp [partsE, noE_v]
  | true =>
  by_cases k4 : k = 4
  · subst k4
    (try simp (implicitDefEqProofs := false) only [go_sem, ↓reduceIte, Nat.reduceEqDiff, reduceCtorEq, Nat.reduceAdd, Nat.reduceSub, Nat.reduceLeDiff, Nat.reduceLT, Nat.reduceMul, Int.reduceToNat, Int.reduceLT, Int.reduceLE, Ty.cells_eq])
    refine CallK_do h2 ?_
    (try simp (implicitDefEqProofs := false) only [go_sem, ↓reduceIte, Nat.reduceEqDiff, reduceCtorEq, Nat.reduceAdd, Nat.reduceSub, Nat.reduceLeDiff, Nat.reduceLT, Nat.reduceMul, Int.reduceToNat, Int.reduceLT, Int.reduceLE])
    refine CallK_do h3 ?_
    (try simp (implicitDefEqProofs := false) only [go_sem, ↓reduceIte, Nat.reduceEqDiff, reduceCtorEq, Nat.reduceAdd, Nat.reduceSub, Nat.reduceLeDiff, Nat.reduceLT, Nat.reduceMul, Int.reduceToNat, Int.reduceLT, Int.reduceLE])
    simp [partsE, enV, Ty.cells_eq, Ty.k, Ty.ts, Ty.cellsL]
  have n4 : (k == 4) = false := by simpa using k4
  by_cases k5 : k = 5
  · subst k5
    (try simp (implicitDefEqProofs := false) only [go_sem, ↓reduceIte, Nat.reduceEqDiff, reduceCtorEq, Nat.reduceAdd, Nat.reduceSub, Nat.reduceLeDiff, Nat.reduceLT, Nat.reduceMul, Int.reduceToNat, Int.reduceLT, Int.reduceLE, Ty.cells_eq, n4])
    refine CallK_do h4 ?_
    (try simp (implicitDefEqProofs := false) only [go_sem, ↓reduceIte, Nat.reduceEqDiff, reduceCtorEq, Nat.reduceAdd, Nat.reduceSub, Nat.reduceLeDiff, Nat.reduceLT, Nat.reduceMul, Int.reduceToNat, Int.reduceLT, Int.reduceLE])
    refine CallK_do h5 ?_
    (try simp (implicitDefEqProofs := false) only [go_sem, ↓reduceIte, Nat.reduceEqDiff, reduceCtorEq, Nat.reduceAdd, Nat.reduceSub, Nat.reduceLeDiff, Nat.reduceLT, Nat.reduceMul, Int.reduceToNat, Int.reduceLT, Int.reduceLE])
    simp [partsE, enV, Ty.cells_eq, Ty.k, Ty.ts, Ty.cellsL]
  have n5 : (k == 5) = false := by simpa using k5
  by_cases k6 : k = 6
  · subst k6
    (try simp (implicitDefEqProofs := false) only [go_sem, ↓reduceIte, Nat.reduceEqDiff, reduceCtorEq, Nat.reduceAdd, Nat.reduceSub, Nat.reduceLeDiff, Nat.reduceLT, Nat.reduceMul, Int.reduceToNat, Int.reduceLT, Int.reduceLE, Ty.cells_eq, n4, n5])
    refine CallK_do h6 ?_
    (try simp (implicitDefEqProofs := false) only [go_sem, ↓reduceIte, Nat.reduceEqDiff, reduceCtorEq, Nat.reduceAdd, Nat.reduceSub, Nat.reduceLeDiff, Nat.reduceLT, Nat.reduceMul, Int.reduceToNat, Int.reduceLT, Int.reduceLE])
    refine CallK_do h7 ?_
    (try simp (implicitDefEqProofs := false) only [go_sem, ↓reduceIte, Nat.reduceEqDiff, reduceCtorEq, Nat.reduceAdd, Nat.reduceSub, Nat.reduceLeDiff, Nat.reduceLT, Nat.reduceMul, Int.reduceToNat, Int.reduceLT, Int.reduceLE])
    simp [partsE, enV, Ty.cells_eq, Ty.k, Ty.ts, Ty.cellsL]
  have n6 : (k == 6) = false := by simpa using k6
  by_cases k7 : k = 7
  · subst k7
    (try simp (implicitDefEqProofs := false) only [go_sem, ↓reduceIte, Nat.reduceEqDiff, reduceCtorEq, Nat.reduceAdd, Nat.reduceSub, Nat.reduceLeDiff, Nat.reduceLT, Nat.reduceMul, Int.reduceToNat, Int.reduceLT, Int.reduceLE, Ty.cells_eq, n4, n5, n6])
    refine CallK_do hs ?_
    (try simp (implicitDefEqProofs := false) only [go_sem, ↓reduceIte, Nat.reduceEqDiff, reduceCtorEq, Nat.reduceAdd, Nat.reduceSub, Nat.reduceLeDiff, Nat.reduceLT, Nat.reduceMul, Int.reduceToNat, Int.reduceLT, Int.reduceLE])
    simp [partsE, enV, Ty.cells_eq]
  have n7 : (k == 7) = false := by simpa using k7
  (try simp (implicitDefEqProofs := false) only [go_sem, ↓reduceIte, Nat.reduceEqDiff, reduceCtorEq, Nat.reduceAdd, Nat.reduceSub, Nat.reduceLeDiff, Nat.reduceLT, Nat.reduceMul, Int.reduceToNat, Int.reduceLT, Int.reduceLE, Ty.cells_eq, n4, n5, n6, n7])
  simp [partsE, k4, k5, k6, k7, noE_v]

theorem parts_not {k : Int} {ty to : Ty} {lab : Int} {neg : Bool} {ks : List Cn} (h : ks.length ≠ 2) : PartsD (.mk k ty to lab neg ks) noE := by
  have hb : ((ks.length : Int) != 2) = true := by simp; omega
  refine does79 (by rfl) (by rfl) ?_
  (try simp (implicitDefEqProofs := false) only [go_sem, ↓reduceIte, Nat.reduceEqDiff, reduceCtorEq, Nat.reduceAdd, Nat.reduceSub, Nat.reduceLeDiff, Nat.reduceLT, Nat.reduceMul, Int.reduceToNat, Int.reduceLT, Int.reduceLE, Cn.cells, Cn.cellsL_len, hb])
  rw [noE_v]

theorem Cn.endsL_len : ∀ ks : List Cn, (Cn.endsL ks).length = ks.length
  | [] => rfl
  | c :: r => by simp [Cn.endsL, Cn.endsL_len r]
theorem un_fits : Ty.un.fits := ⟨by simp, trivial⟩
theorem two_fits {k : Int} {a b : Ty} (ha : a.fits) (hb : b.fits) : (Ty.mk k [a, b]).fits := ⟨by simp, ha, hb, trivial⟩
theorem partsE_fits {k : Int} {e f : En} (h1 : e.1.fits) (h2 : e.2.1.fits) (h3 : f.1.fits) (h4 : f.2.1.fits) : (partsE k e f).1.fits ∧ (partsE k e f).2.1.fits := by
  unfold partsE
  repeat' split
  all_goals first | exact ⟨un_fits, un_fits⟩ | exact ⟨two_fits h2 h3, two_fits h1 h4⟩ | exact ⟨two_fits h1 h3, two_fits h2 h4⟩ | exact ⟨h1, h4⟩
theorem leafE_fits {k : Int} {ty to : Ty} {lab : Int} {b : Bool} (h : ty.fits) (h' : to.fits) : (leafE k ty to lab b).1.fits ∧ (leafE k ty to lab b).2.1.fits := by
  unfold leafE
  repeat' split
  all_goals first | exact ⟨un_fits, un_fits⟩ | exact ⟨h, h⟩ | exact ⟨h, un_fits⟩ | exact ⟨un_fits, h⟩ | exact ⟨h, h'⟩
theorem Cn.ends_fits : ∀ c : Cn, c.fits → c.ends.1.fits ∧ c.ends.2.1.fits := by
  refine Cn.ind fun k ty to lab neg ks ih hf => ?_
  simp only [Cn.ends]
  split
  · exact leafE_fits hf.1 hf.2.1
  · match ks, ih, hf with
    | [], _, _ => exact ⟨un_fits, un_fits⟩
    | [a], _, _ => exact ⟨un_fits, un_fits⟩
    | [a, b], ih, hf =>
      have hk := hf.2.2.2.2
      have h1 := ih a (by simp) hk.1
      have h2 := ih b (by simp) hk.2.1
      exact partsE_fits h1.1 h1.2 h2.1 h2.2
    | a :: b :: c :: r, _, _ => exact ⟨un_fits, un_fits⟩

theorem ends_does : ∀ c : Cn, c.fits → EndsD c := by
  refine Cn.ind fun k ty to lab neg ks ih hf => ?_
  have hf1 : ty.fits := hf.1
  have hf2 : to.fits := hf.2.1
  have hfl : ks.length ≤ 9223372036854775807 := hf.2.2.1
  cases hlk : leafF k with
  | false =>
    have hp : PartsD (.mk k ty to lab neg ks) (partsL k (Cn.endsL ks)) := by
      match ks, ih, hf with
      | [], _, _ => exact parts_not (by simp)
      | [a], _, _ => exact parts_not (by simp)
      | [a, b], ih, hf =>
        have hk := hf.2.2.2.2
        exact parts_two (ih a (by simp) hk.1) (ih b (by simp) hk.2.1) (Cn.ends_fits a hk.1).2 (Cn.ends_fits b hk.2.1).1
      | a :: b :: c :: r, _, _ => exact parts_not (by simp)
    unfold EndsD
    simp only [Cn.ends, hlk, Bool.false_eq_true, if_false]
    generalize partsL k (Cn.endsL ks) = e at hp
    obtain ⟨e1, e2, e3⟩ := e
    unfold PartsD at hp
    simp only [enV, Ty.cells_eq] at hp ⊢
    refine does48 (by rfl) (by rfl) ?_
    have hl := leaf_does k
    rw [hlk] at hl
    simp only [Cn.cells] at hp
    (try simp (implicitDefEqProofs := false) only [go_sem, ↓reduceIte, Nat.reduceEqDiff, reduceCtorEq, Nat.reduceAdd, Nat.reduceSub, Nat.reduceLeDiff, Nat.reduceLT, Nat.reduceMul, Int.reduceToNat, Int.reduceLT, Int.reduceLE, Cn.cells])
    refine CallK_do hl ?_
    (try simp (implicitDefEqProofs := false) only [go_sem, ↓reduceIte, Nat.reduceEqDiff, reduceCtorEq, Nat.reduceAdd, Nat.reduceSub, Nat.reduceLeDiff, Nat.reduceLT, Nat.reduceMul, Int.reduceToNat, Int.reduceLT, Int.reduceLE])
    refine CallK_do hp ?_
    (try simp (implicitDefEqProofs := false) only [go_sem, ↓reduceIte, Nat.reduceEqDiff, reduceCtorEq, Nat.reduceAdd, Nat.reduceSub, Nat.reduceLeDiff, Nat.reduceLT, Nat.reduceMul, Int.reduceToNat, Int.reduceLT, Int.reduceLE])
  | true =>
    have hl := leaf_does k
    rw [hlk] at hl
    have c1 := check_does ty hf1
    have c2 := check_does to hf2
    have g1 := isG_does ty hf1
    rw [Ty.cells_eq] at c1 c2 g1
    unfold EndsD
    have e0 : (Cn.mk k ty to lab neg ks).ends = leafE k ty to lab ks.isEmpty := by simp only [Cn.ends, hlk, if_true]
    rw [e0]
    by_cases hk0 : ks = []
    · subst hk0
      by_cases hc : ty.check = 0
      · have hkk : k = 0 ∨ k = 1 ∨ k = 2 ∨ k = 3 := by
          simp only [leafF, Bool.or_eq_true, beq_iff_eq] at hlk; omega
        have hnot : ¬ ((([] : List Cn).isEmpty = false) ∨ ty.check ≠ 0) := by simp [hc]
        simp only [leafE, if_neg hnot]
        refine does48 (by rfl) (by rfl) ?_
        (try simp (implicitDefEqProofs := false) only [go_sem, ↓reduceIte, Nat.reduceEqDiff, reduceCtorEq, Nat.reduceAdd, Nat.reduceSub, Nat.reduceLeDiff, Nat.reduceLT, Nat.reduceMul, Int.reduceToNat, Int.reduceLT, Int.reduceLE, Cn.cells, Cn.cellsL])
        refine CallK_do hl ?_
        (try simp (implicitDefEqProofs := false) only [go_sem, ↓reduceIte, Nat.reduceEqDiff, reduceCtorEq, Nat.reduceAdd, Nat.reduceSub, Nat.reduceLeDiff, Nat.reduceLT, Nat.reduceMul, Int.reduceToNat, Int.reduceLT, Int.reduceLE, show ((0 : Int) != 0) = false from rfl, ncast0])
        refine CallK_do c1 ?_
        (try simp (implicitDefEqProofs := false) only [go_sem, ↓reduceIte, Nat.reduceEqDiff, reduceCtorEq, Nat.reduceAdd, Nat.reduceSub, Nat.reduceLeDiff, Nat.reduceLT, Nat.reduceMul, Int.reduceToNat, Int.reduceLT, Int.reduceLE, hc, show ((0 : Int) != 0) = false from rfl])
        by_cases d1 : lab ≥ 1
        · by_cases d2 : lab ≤ 2147483648
          · have hlab : labOk lab = true := by simp [labOk, d1, d2]
            (try simp (implicitDefEqProofs := false) only [go_sem, ↓reduceIte, Nat.reduceEqDiff, reduceCtorEq, Nat.reduceAdd, Nat.reduceSub, Nat.reduceLeDiff, Nat.reduceLT, Nat.reduceMul, Int.reduceToNat, Int.reduceLT, Int.reduceLE, decide_eq_true d1, decide_eq_true d2])
            rcases hkk with hkk | hkk | hkk | hkk
            · subst hkk
              (try simp (implicitDefEqProofs := false) only [go_sem, ↓reduceIte, Nat.reduceEqDiff, reduceCtorEq, Nat.reduceAdd, Nat.reduceSub, Nat.reduceLeDiff, Nat.reduceLT, Nat.reduceMul, Int.reduceToNat, Int.reduceLT, Int.reduceLE, show ((0 : Int) == 0) = true from rfl])
              simp [enV, Ty.cells_eq]
            · subst hkk
              (try simp (implicitDefEqProofs := false) only [go_sem, ↓reduceIte, Nat.reduceEqDiff, reduceCtorEq, Nat.reduceAdd, Nat.reduceSub, Nat.reduceLeDiff, Nat.reduceLT, Nat.reduceMul, Int.reduceToNat, Int.reduceLT, Int.reduceLE, show ((1 : Int) == 0) = false from rfl, show ((1 : Int) == 2) = false from rfl, show ((1 : Int) == 3) = false from rfl])
              by_cases hz : ty.k = 0
              · (try simp (implicitDefEqProofs := false) only [go_sem, ↓reduceIte, Nat.reduceEqDiff, reduceCtorEq, Nat.reduceAdd, Nat.reduceSub, Nat.reduceLeDiff, Nat.reduceLT, Nat.reduceMul, Int.reduceToNat, Int.reduceLT, Int.reduceLE, show (ty.k != 0) = false from by simpa using hz])
                simp [enV, Ty.cells_eq, hlab, hz]
              · (try simp (implicitDefEqProofs := false) only [go_sem, ↓reduceIte, Nat.reduceEqDiff, reduceCtorEq, Nat.reduceAdd, Nat.reduceSub, Nat.reduceLeDiff, Nat.reduceLT, Nat.reduceMul, Int.reduceToNat, Int.reduceLT, Int.reduceLE, show (ty.k != 0) = true from by simpa using hz])
                refine CallK_do c2 ?_
                (try simp (implicitDefEqProofs := false) only [go_sem, ↓reduceIte, Nat.reduceEqDiff, reduceCtorEq, Nat.reduceAdd, Nat.reduceSub, Nat.reduceLeDiff, Nat.reduceLT, Nat.reduceMul, Int.reduceToNat, Int.reduceLT, Int.reduceLE])
                simp [enV, Ty.cells_eq, hlab, hz]
            · subst hkk
              (try simp (implicitDefEqProofs := false) only [go_sem, ↓reduceIte, Nat.reduceEqDiff, reduceCtorEq, Nat.reduceAdd, Nat.reduceSub, Nat.reduceLeDiff, Nat.reduceLT, Nat.reduceMul, Int.reduceToNat, Int.reduceLT, Int.reduceLE, show ((2 : Int) == 0) = false from rfl, show ((2 : Int) == 2) = true from rfl])
              refine CallK_do g1 ?_
              (try simp (implicitDefEqProofs := false) only [go_sem, ↓reduceIte, Nat.reduceEqDiff, reduceCtorEq, Nat.reduceAdd, Nat.reduceSub, Nat.reduceLeDiff, Nat.reduceLT, Nat.reduceMul, Int.reduceToNat, Int.reduceLT, Int.reduceLE])
              simp [enV, Ty.cells_eq, Ty.un, Ty.k, Ty.ts, Ty.cellsL]
            · subst hkk
              (try simp (implicitDefEqProofs := false) only [go_sem, ↓reduceIte, Nat.reduceEqDiff, reduceCtorEq, Nat.reduceAdd, Nat.reduceSub, Nat.reduceLeDiff, Nat.reduceLT, Nat.reduceMul, Int.reduceToNat, Int.reduceLT, Int.reduceLE, show ((3 : Int) == 0) = false from rfl, show ((3 : Int) == 2) = false from rfl, show ((3 : Int) == 3) = true from rfl])
              refine CallK_do g1 ?_
              cases hg : ty.isG with
              | true =>
                (try simp (implicitDefEqProofs := false) only [go_sem, ↓reduceIte, Nat.reduceEqDiff, reduceCtorEq, Nat.reduceAdd, Nat.reduceSub, Nat.reduceLeDiff, Nat.reduceLT, Nat.reduceMul, Int.reduceToNat, Int.reduceLT, Int.reduceLE])
                simp [enV, Ty.cells_eq, Ty.un, Ty.k, Ty.ts, Ty.cellsL, hlab]
              | false =>
                (try simp (implicitDefEqProofs := false) only [go_sem, ↓reduceIte, Nat.reduceEqDiff, reduceCtorEq, Nat.reduceAdd, Nat.reduceSub, Nat.reduceLeDiff, Nat.reduceLT, Nat.reduceMul, Int.reduceToNat, Int.reduceLT, Int.reduceLE])
                simp [enV, Ty.cells_eq, Ty.un, Ty.k, Ty.ts, Ty.cellsL]
          · have hlab : labOk lab = false := by simp [labOk, d2]
            (try simp (implicitDefEqProofs := false) only [go_sem, ↓reduceIte, Nat.reduceEqDiff, reduceCtorEq, Nat.reduceAdd, Nat.reduceSub, Nat.reduceLeDiff, Nat.reduceLT, Nat.reduceMul, Int.reduceToNat, Int.reduceLT, Int.reduceLE, decide_eq_true d1, decide_eq_false d2])
            rcases hkk with hkk | hkk | hkk | hkk
            · subst hkk
              (try simp (implicitDefEqProofs := false) only [go_sem, ↓reduceIte, Nat.reduceEqDiff, reduceCtorEq, Nat.reduceAdd, Nat.reduceSub, Nat.reduceLeDiff, Nat.reduceLT, Nat.reduceMul, Int.reduceToNat, Int.reduceLT, Int.reduceLE, show ((0 : Int) == 0) = true from rfl])
              simp [enV, Ty.cells_eq]
            · subst hkk
              (try simp (implicitDefEqProofs := false) only [go_sem, ↓reduceIte, Nat.reduceEqDiff, reduceCtorEq, Nat.reduceAdd, Nat.reduceSub, Nat.reduceLeDiff, Nat.reduceLT, Nat.reduceMul, Int.reduceToNat, Int.reduceLT, Int.reduceLE, show ((1 : Int) == 0) = false from rfl, show ((1 : Int) == 2) = false from rfl, show ((1 : Int) == 3) = false from rfl])
              simp [enV, Ty.cells_eq, hlab]
            · subst hkk
              (try simp (implicitDefEqProofs := false) only [go_sem, ↓reduceIte, Nat.reduceEqDiff, reduceCtorEq, Nat.reduceAdd, Nat.reduceSub, Nat.reduceLeDiff, Nat.reduceLT, Nat.reduceMul, Int.reduceToNat, Int.reduceLT, Int.reduceLE, show ((2 : Int) == 0) = false from rfl, show ((2 : Int) == 2) = true from rfl])
              refine CallK_do g1 ?_
              (try simp (implicitDefEqProofs := false) only [go_sem, ↓reduceIte, Nat.reduceEqDiff, reduceCtorEq, Nat.reduceAdd, Nat.reduceSub, Nat.reduceLeDiff, Nat.reduceLT, Nat.reduceMul, Int.reduceToNat, Int.reduceLT, Int.reduceLE])
              simp [enV, Ty.cells_eq, Ty.un, Ty.k, Ty.ts, Ty.cellsL]
            · subst hkk
              (try simp (implicitDefEqProofs := false) only [go_sem, ↓reduceIte, Nat.reduceEqDiff, reduceCtorEq, Nat.reduceAdd, Nat.reduceSub, Nat.reduceLeDiff, Nat.reduceLT, Nat.reduceMul, Int.reduceToNat, Int.reduceLT, Int.reduceLE, show ((3 : Int) == 0) = false from rfl, show ((3 : Int) == 2) = false from rfl, show ((3 : Int) == 3) = true from rfl])
              refine CallK_do g1 ?_
              cases hg : ty.isG with
              | true =>
                (try simp (implicitDefEqProofs := false) only [go_sem, ↓reduceIte, Nat.reduceEqDiff, reduceCtorEq, Nat.reduceAdd, Nat.reduceSub, Nat.reduceLeDiff, Nat.reduceLT, Nat.reduceMul, Int.reduceToNat, Int.reduceLT, Int.reduceLE])
                simp [enV, Ty.cells_eq, Ty.un, Ty.k, Ty.ts, Ty.cellsL, hlab]
              | false =>
                (try simp (implicitDefEqProofs := false) only [go_sem, ↓reduceIte, Nat.reduceEqDiff, reduceCtorEq, Nat.reduceAdd, Nat.reduceSub, Nat.reduceLeDiff, Nat.reduceLT, Nat.reduceMul, Int.reduceToNat, Int.reduceLT, Int.reduceLE])
                simp [enV, Ty.cells_eq, Ty.un, Ty.k, Ty.ts, Ty.cellsL]
        · have hlab : labOk lab = false := by simp [labOk, d1]
          (try simp (implicitDefEqProofs := false) only [go_sem, ↓reduceIte, Nat.reduceEqDiff, reduceCtorEq, Nat.reduceAdd, Nat.reduceSub, Nat.reduceLeDiff, Nat.reduceLT, Nat.reduceMul, Int.reduceToNat, Int.reduceLT, Int.reduceLE, decide_eq_false d1])
          rcases hkk with hkk | hkk | hkk | hkk
          · subst hkk
            (try simp (implicitDefEqProofs := false) only [go_sem, ↓reduceIte, Nat.reduceEqDiff, reduceCtorEq, Nat.reduceAdd, Nat.reduceSub, Nat.reduceLeDiff, Nat.reduceLT, Nat.reduceMul, Int.reduceToNat, Int.reduceLT, Int.reduceLE, show ((0 : Int) == 0) = true from rfl])
            simp [enV, Ty.cells_eq]
          · subst hkk
            (try simp (implicitDefEqProofs := false) only [go_sem, ↓reduceIte, Nat.reduceEqDiff, reduceCtorEq, Nat.reduceAdd, Nat.reduceSub, Nat.reduceLeDiff, Nat.reduceLT, Nat.reduceMul, Int.reduceToNat, Int.reduceLT, Int.reduceLE, show ((1 : Int) == 0) = false from rfl, show ((1 : Int) == 2) = false from rfl, show ((1 : Int) == 3) = false from rfl])
            simp [enV, Ty.cells_eq, hlab]
          · subst hkk
            (try simp (implicitDefEqProofs := false) only [go_sem, ↓reduceIte, Nat.reduceEqDiff, reduceCtorEq, Nat.reduceAdd, Nat.reduceSub, Nat.reduceLeDiff, Nat.reduceLT, Nat.reduceMul, Int.reduceToNat, Int.reduceLT, Int.reduceLE, show ((2 : Int) == 0) = false from rfl, show ((2 : Int) == 2) = true from rfl])
            refine CallK_do g1 ?_
            (try simp (implicitDefEqProofs := false) only [go_sem, ↓reduceIte, Nat.reduceEqDiff, reduceCtorEq, Nat.reduceAdd, Nat.reduceSub, Nat.reduceLeDiff, Nat.reduceLT, Nat.reduceMul, Int.reduceToNat, Int.reduceLT, Int.reduceLE])
            simp [enV, Ty.cells_eq, Ty.un, Ty.k, Ty.ts, Ty.cellsL]
          · subst hkk
            (try simp (implicitDefEqProofs := false) only [go_sem, ↓reduceIte, Nat.reduceEqDiff, reduceCtorEq, Nat.reduceAdd, Nat.reduceSub, Nat.reduceLeDiff, Nat.reduceLT, Nat.reduceMul, Int.reduceToNat, Int.reduceLT, Int.reduceLE, show ((3 : Int) == 0) = false from rfl, show ((3 : Int) == 2) = false from rfl, show ((3 : Int) == 3) = true from rfl])
            refine CallK_do g1 ?_
            cases hg : ty.isG with
            | true =>
              (try simp (implicitDefEqProofs := false) only [go_sem, ↓reduceIte, Nat.reduceEqDiff, reduceCtorEq, Nat.reduceAdd, Nat.reduceSub, Nat.reduceLeDiff, Nat.reduceLT, Nat.reduceMul, Int.reduceToNat, Int.reduceLT, Int.reduceLE])
              simp [enV, Ty.cells_eq, Ty.un, Ty.k, Ty.ts, Ty.cellsL, hlab]
            | false =>
              (try simp (implicitDefEqProofs := false) only [go_sem, ↓reduceIte, Nat.reduceEqDiff, reduceCtorEq, Nat.reduceAdd, Nat.reduceSub, Nat.reduceLeDiff, Nat.reduceLT, Nat.reduceMul, Int.reduceToNat, Int.reduceLT, Int.reduceLE])
              simp [enV, Ty.cells_eq, Ty.un, Ty.k, Ty.ts, Ty.cellsL]
      · refine does48 (by rfl) (by rfl) ?_
        (try simp (implicitDefEqProofs := false) only [go_sem, ↓reduceIte, Nat.reduceEqDiff, reduceCtorEq, Nat.reduceAdd, Nat.reduceSub, Nat.reduceLeDiff, Nat.reduceLT, Nat.reduceMul, Int.reduceToNat, Int.reduceLT, Int.reduceLE, Cn.cells, Cn.cellsL])
        refine CallK_do hl ?_
        (try simp (implicitDefEqProofs := false) only [go_sem, ↓reduceIte, Nat.reduceEqDiff, reduceCtorEq, Nat.reduceAdd, Nat.reduceSub, Nat.reduceLeDiff, Nat.reduceLT, Nat.reduceMul, Int.reduceToNat, Int.reduceLT, Int.reduceLE, show ((0 : Int) != 0) = false from rfl, ncast0])
        refine CallK_do c1 ?_
        (try simp (implicitDefEqProofs := false) only [go_sem, ↓reduceIte, Nat.reduceEqDiff, reduceCtorEq, Nat.reduceAdd, Nat.reduceSub, Nat.reduceLeDiff, Nat.reduceLT, Nat.reduceMul, Int.reduceToNat, Int.reduceLT, Int.reduceLE, show (ty.check != 0) = true from by simpa using hc])
        simp [leafE, hc, noE_v]
    · have hb : ((ks.length : Int) != 0) = true := by
        have : ks.length ≠ 0 := by simpa using hk0
        simp; omega
      have he : ks.isEmpty = false := by cases ks <;> simp_all
      refine does48 (by rfl) (by rfl) ?_
      (try simp (implicitDefEqProofs := false) only [go_sem, ↓reduceIte, Nat.reduceEqDiff, reduceCtorEq, Nat.reduceAdd, Nat.reduceSub, Nat.reduceLeDiff, Nat.reduceLT, Nat.reduceMul, Int.reduceToNat, Int.reduceLT, Int.reduceLE, Cn.cells, Cn.cellsL_len])
      refine CallK_do hl ?_
      (try simp (implicitDefEqProofs := false) only [go_sem, ↓reduceIte, Nat.reduceEqDiff, reduceCtorEq, Nat.reduceAdd, Nat.reduceSub, Nat.reduceLeDiff, Nat.reduceLT, Nat.reduceMul, Int.reduceToNat, Int.reduceLT, Int.reduceLE, hb, Cn.cellsL_len])
      simp [leafE, he, noE_v]
end Go.Proofs.Ytopgmopdjiahmaa.Lg

/- Coercions: copies of types; the check. Conditions: none; plain definitions and lemmas. -/
set_option linter.unusedVariables false
set_option linter.unusedSimpArgs false
set_option maxRecDepth 100000
set_option maxHeartbeats 1000000
namespace Go.Proofs.Ytopgmopdjiahmaa.Lg
open Go Go.RowKit Go.Proofs

theorem wrap01 : IntKind.i64.wrap (0 + 1) = 1 := by decide +kernel
theorem wrap12 : IntKind.i64.wrap (1 + 1) = 2 := by decide +kernel
theorem right_shape {k : Int} {ts : List Ty} (h : (Ty.mk k ts).right = true) : (ts = [] ∧ (k = 0 ∨ k = 1 ∨ k = 2)) ∨ ∃ a b, ts = [a, b] ∧ (k = 3 ∨ k = 4 ∨ k = 5) ∧ a.right = true ∧ b.right = true := by
  obtain ⟨h1, h2⟩ := Ty.right_kids h
  unfold partsF at h1
  match ts, h1, h2 with
  | [], h1, _ =>
    refine .inl ⟨rfl, ?_⟩
    split at h1
    · assumption
    · split at h1
      · simp at h1
      · simp at h1
  | [a], h1, _ =>
    split at h1
    · simp at h1
    · split at h1 <;> simp at h1
  | [a, b], h1, h2 =>
    simp only [Ty.rightL, Bool.and_eq_true] at h2
    refine .inr ⟨a, b, rfl, ?_, h2.1, h2.2.1⟩
    split at h1
    · simp at h1
    · split at h1
      · assumption
      · simp at h1
  | a :: b :: c :: r, h1, _ =>
    split at h1
    · simp at h1; omega
    · split at h1
      · simp at h1; omega
      · simp at h1; omega

theorem whole_does : ∀ t : Ty, t.right = true → Does Try.prog 49 [.imm false (.ptr t.cells 0)] [] (.ret true (.agg t.cells)) [] := by
  refine Ty.ind fun k ts ih hr => ?_
  rcases right_shape hr with ⟨rfl, _⟩ | ⟨a, b, rfl, _, ha, hb⟩
  · refine does49 (by rfl) (by rfl) ?_
    (try simp (implicitDefEqProofs := false) only [go_sem, ↓reduceIte, Nat.reduceEqDiff, reduceCtorEq, Nat.reduceAdd, Nat.reduceSub, Nat.reduceLeDiff, Nat.reduceLT, Nat.reduceMul, Int.reduceToNat, Int.reduceLT, Int.reduceLE, Ty.cells, Ty.cellsL, ncast0])
    refine ⟨fun n σ => n = 0 ∧ σ = ⟨[(0, .imm false (.ptr (Ty.mk k []).cells 0)), (2, .loc (.own 2) 0), (3, .loc (.own 3) 0), (14, .imm true (.int .i64 0)), (15, .imm true (.int .i64 0))], [(.own 2, .var [.imm true (.int .i8 0), .nils]), (.own 3, .var [.imm false (.int .i8 k), .nils])], []⟩, ⟨_, rfl, by first | rfl | simp only [Ty.cells, Ty.cellsL]⟩, ?_⟩
    rintro n σ ⟨rfl, rfl⟩
    unfold l49_0
    (try simp (implicitDefEqProofs := false) only [go_sem, ↓reduceIte, Nat.reduceEqDiff, reduceCtorEq, Nat.reduceAdd, Nat.reduceSub, Nat.reduceLeDiff, Nat.reduceLT, Nat.reduceMul, Int.reduceToNat, Int.reduceLT, Int.reduceLE, Ty.cells, Ty.cellsL, show decide ((0 : Int) < 0) = false from rfl])
  · have h1 := ih a (by simp) ha
    have h2 := ih b (by simp) hb
    obtain ⟨ka, at1⟩ := a
    obtain ⟨kb, bt1⟩ := b
    refine does49 (by rfl) (by rfl) ?_
    (try simp (implicitDefEqProofs := false) only [go_sem, ↓reduceIte, Nat.reduceEqDiff, reduceCtorEq, Nat.reduceAdd, Nat.reduceSub, Nat.reduceLeDiff, Nat.reduceLT, Nat.reduceMul, Int.reduceToNat, Int.reduceLT, Int.reduceLE, Ty.cells, Ty.cellsL, ncast2])
    let S : Int → List (Key × Box) → St := fun j r => ⟨[(0, .imm false (.ptr (Ty.mk k [.mk ka at1, .mk kb bt1]).cells 0)), (2, .loc (.own 2) 0), (3, .loc (.own 3) 0), (14, .imm true (.int .i64 2)), (15, .imm true (.int .i64 j))], (.own 2, .var [.imm true (.int .i8 0), .nils]) :: r, []⟩
    refine ⟨fun n σ => (n = 2 ∧ σ = S 0 [(.own 3, .var [.imm false (.int .i8 k), .nils])]) ∨ (n = 1 ∧ σ = S 1 [(.own 3, .var [.imm false (.int .i8 k), .row (.own 28) 1]), (.own 28, .row 25 2 [[.imm true (.int .i8 ka), .imm true (.slice (Ty.cellsL at1))]])]) ∨
      (n = 0 ∧ σ = S 2 [(.own 3, .var [.imm false (.int .i8 k), .row (.own 28) 2]), (.own 28, .row 25 2 [[.imm true (.int .i8 ka), .imm true (.slice (Ty.cellsL at1))], [.imm true (.int .i8 kb), .imm true (.slice (Ty.cellsL bt1))]])]), ⟨_, .inl ⟨rfl, by first | rfl | simp only [S, Ty.cells, Ty.cellsL]⟩⟩, ?_⟩
    rintro n σ (⟨rfl, rfl⟩ | ⟨rfl, rfl⟩ | ⟨rfl, rfl⟩)
    · unfold l49_0
      (try simp (implicitDefEqProofs := false) only [go_sem, ↓reduceIte, Nat.reduceEqDiff, reduceCtorEq, Nat.reduceAdd, Nat.reduceSub, Nat.reduceLeDiff, Nat.reduceLT, Nat.reduceMul, Int.reduceToNat, Int.reduceLT, Int.reduceLE, S, Ty.cells, Ty.cellsL, show decide ((0 : Int) < 2) = true from rfl])
      refine CallK_do h1 ?_
      (try simp (implicitDefEqProofs := false) only [go_sem, ↓reduceIte, Nat.reduceEqDiff, reduceCtorEq, Nat.reduceAdd, Nat.reduceSub, Nat.reduceLeDiff, Nat.reduceLT, Nat.reduceMul, Int.reduceToNat, Int.reduceLT, Int.reduceLE, Ty.cells, wrap01])
      exact ⟨1, by omega, by simp⟩
    · unfold l49_0
      (try simp (implicitDefEqProofs := false) only [go_sem, ↓reduceIte, Nat.reduceEqDiff, reduceCtorEq, Nat.reduceAdd, Nat.reduceSub, Nat.reduceLeDiff, Nat.reduceLT, Nat.reduceMul, Int.reduceToNat, Int.reduceLT, Int.reduceLE, S, Ty.cells, Ty.cellsL, show decide ((1 : Int) < 2) = true from rfl])
      refine CallK_do h2 ?_
      (try simp (implicitDefEqProofs := false) only [go_sem, ↓reduceIte, Nat.reduceEqDiff, reduceCtorEq, Nat.reduceAdd, Nat.reduceSub, Nat.reduceLeDiff, Nat.reduceLT, Nat.reduceMul, Int.reduceToNat, Int.reduceLT, Int.reduceLE, Ty.cells, wrap12])
      exact ⟨0, by omega, by simp⟩
    · unfold l49_0
      (try simp (implicitDefEqProofs := false) only [go_sem, ↓reduceIte, Nat.reduceEqDiff, reduceCtorEq, Nat.reduceAdd, Nat.reduceSub, Nat.reduceLeDiff, Nat.reduceLT, Nat.reduceMul, Int.reduceToNat, Int.reduceLT, Int.reduceLE, S, Ty.cells, Ty.cellsL, show decide ((2 : Int) < 2) = false from rfl])

/-! ### the check -/
def Cn.deepB (c : Cn) : Bool := decide (c.deep 201 > 200)
def Cn.chk (c : Cn) : Ty × Ty × Int :=
  if c.few = false then (.un, .un, 32) else if c.deep 201 > 200 then (.un, .un, 31) else if c.ends.2.2 = false then (.un, .un, 150)
  else if c.ends.1.check ≠ 0 then (.un, .un, c.ends.1.check) else if c.ends.2.1.check ≠ 0 then (.un, .un, c.ends.2.1.check) else (c.ends.1, c.ends.2.1, 0)
def chV (e : Ty × Ty × Int) : IV := .tup [.agg e.1.cells, .agg e.2.1.cells, .int .i64 e.2.2]
theorem un_cells : Ty.un.cells = [.int .i8 0, .slice []] := by simp [Ty.un, Ty.cells, Ty.cellsL]

theorem cchk_does (c : Cn) (hf : c.fits) : Does Try.prog 13 [.imm false (.agg c.cells)] [] (.ret false (chV c.chk)) [] := by
  have h1 := counted_does c hf
  have h2 := cdeep_does c hf 201 (by omega) (by omega)
  have h3 := ends_does c hf
  have hef := Cn.ends_fits c hf
  unfold EndsD enV at h3
  unfold Cn.chk
  generalize c.few = b1 at h1
  generalize c.deep 201 = d at h2
  generalize c.ends = e at h3 hef
  obtain ⟨e1, e2, e3⟩ := e
  simp only at hef
  obtain ⟨k, ty, to, lab, neg, ks⟩ := c
  simp only [Cn.cells] at h1 h2 h3
  simp only [Ty.cells_eq] at h3
  have c1 := check_does e1 hef.1
  have c2 := check_does e2 hef.2
  rw [Ty.cells_eq] at c1 c2
  refine does13 (by rfl) (by rfl) ?_
  (try simp (implicitDefEqProofs := false) only [go_sem, ↓reduceIte, Nat.reduceEqDiff, reduceCtorEq, Nat.reduceAdd, Nat.reduceSub, Nat.reduceLeDiff, Nat.reduceLT, Nat.reduceMul, Int.reduceToNat, Int.reduceLT, Int.reduceLE, Cn.cells])
  refine CallK_do h1 ?_
  cases b1 with
  | false =>
    (try simp (implicitDefEqProofs := false) only [go_sem, ↓reduceIte, Nat.reduceEqDiff, reduceCtorEq, Nat.reduceAdd, Nat.reduceSub, Nat.reduceLeDiff, Nat.reduceLT, Nat.reduceMul, Int.reduceToNat, Int.reduceLT, Int.reduceLE])
    simp [chV, un_cells]
  | true =>
  (try simp (implicitDefEqProofs := false) only [go_sem, ↓reduceIte, Nat.reduceEqDiff, reduceCtorEq, Nat.reduceAdd, Nat.reduceSub, Nat.reduceLeDiff, Nat.reduceLT, Nat.reduceMul, Int.reduceToNat, Int.reduceLT, Int.reduceLE])
  refine CallK_do h2 ?_
  by_cases hd : d > 200
  · (try simp (implicitDefEqProofs := false) only [go_sem, ↓reduceIte, Nat.reduceEqDiff, reduceCtorEq, Nat.reduceAdd, Nat.reduceSub, Nat.reduceLeDiff, Nat.reduceLT, Nat.reduceMul, Int.reduceToNat, Int.reduceLT, Int.reduceLE, decide_eq_true hd])
    simp [chV, un_cells, hd]
  (try simp (implicitDefEqProofs := false) only [go_sem, ↓reduceIte, Nat.reduceEqDiff, reduceCtorEq, Nat.reduceAdd, Nat.reduceSub, Nat.reduceLeDiff, Nat.reduceLT, Nat.reduceMul, Int.reduceToNat, Int.reduceLT, Int.reduceLE, decide_eq_false hd])
  refine CallK_do h3 ?_
  cases e3 with
  | false =>
    (try simp (implicitDefEqProofs := false) only [go_sem, ↓reduceIte, Nat.reduceEqDiff, reduceCtorEq, Nat.reduceAdd, Nat.reduceSub, Nat.reduceLeDiff, Nat.reduceLT, Nat.reduceMul, Int.reduceToNat, Int.reduceLT, Int.reduceLE])
    simp [chV, un_cells, hd]
  | true =>
  (try simp (implicitDefEqProofs := false) only [go_sem, ↓reduceIte, Nat.reduceEqDiff, reduceCtorEq, Nat.reduceAdd, Nat.reduceSub, Nat.reduceLeDiff, Nat.reduceLT, Nat.reduceMul, Int.reduceToNat, Int.reduceLT, Int.reduceLE, ncast2])
  have hd' : ¬ d > 200 := hd
  let S : Int → St := fun j => ⟨[(2, .loc (.own 2) 0), (3, .loc (.own 3) 0), (5, .loc (.own 5) 0), (6, .loc (.own 6) 0), (30, .imm false (.slice [[.int .i8 e1.k, .slice (Ty.cellsL e1.ts)], [.int .i8 e2.k, .slice (Ty.cellsL e2.ts)]])), (31, .imm true (.int .i64 2)), (32, .imm true (.int .i64 j))],
    [(.own 2, .var [.imm true (.int .i8 0), .nils]), (.own 3, .var [.imm true (.int .i8 0), .nils]), (.own 5, .var [.imm false (.int .i8 e1.k), .imm false (.slice (Ty.cellsL e1.ts))]), (.own 6, .var [.imm false (.int .i8 e2.k), .imm false (.slice (Ty.cellsL e2.ts))])], []⟩
  refine ⟨fun n σ => (n = 2 ∧ σ = S 0) ∨ (n = 1 ∧ e1.check = 0 ∧ σ = S 1) ∨ (n = 0 ∧ e1.check = 0 ∧ e2.check = 0 ∧ σ = S 2), ⟨_, .inl ⟨rfl, rfl⟩⟩, ?_⟩
  rintro n σ (⟨rfl, rfl⟩ | ⟨rfl, z1, rfl⟩ | ⟨rfl, z1, z2, rfl⟩)
  · unfold l13_0
    (try simp (implicitDefEqProofs := false) only [go_sem, ↓reduceIte, Nat.reduceEqDiff, reduceCtorEq, Nat.reduceAdd, Nat.reduceSub, Nat.reduceLeDiff, Nat.reduceLT, Nat.reduceMul, Int.reduceToNat, Int.reduceLT, Int.reduceLE, S, show decide ((0 : Int) < 2) = true from rfl])
    refine CallK_do c1 ?_
    by_cases z1 : e1.check = 0
    · (try simp (implicitDefEqProofs := false) only [go_sem, ↓reduceIte, Nat.reduceEqDiff, reduceCtorEq, Nat.reduceAdd, Nat.reduceSub, Nat.reduceLeDiff, Nat.reduceLT, Nat.reduceMul, Int.reduceToNat, Int.reduceLT, Int.reduceLE, show (e1.check != 0) = false from by simpa using z1, wrap01])
      exact ⟨1, by omega, by simp [z1]⟩
    · (try simp (implicitDefEqProofs := false) only [go_sem, ↓reduceIte, Nat.reduceEqDiff, reduceCtorEq, Nat.reduceAdd, Nat.reduceSub, Nat.reduceLeDiff, Nat.reduceLT, Nat.reduceMul, Int.reduceToNat, Int.reduceLT, Int.reduceLE, show (e1.check != 0) = true from by simpa using z1])
      simp [chV, un_cells, z1, hd']
  · unfold l13_0
    (try simp (implicitDefEqProofs := false) only [go_sem, ↓reduceIte, Nat.reduceEqDiff, reduceCtorEq, Nat.reduceAdd, Nat.reduceSub, Nat.reduceLeDiff, Nat.reduceLT, Nat.reduceMul, Int.reduceToNat, Int.reduceLT, Int.reduceLE, S, show decide ((1 : Int) < 2) = true from rfl])
    refine CallK_do c2 ?_
    by_cases z2 : e2.check = 0
    · (try simp (implicitDefEqProofs := false) only [go_sem, ↓reduceIte, Nat.reduceEqDiff, reduceCtorEq, Nat.reduceAdd, Nat.reduceSub, Nat.reduceLeDiff, Nat.reduceLT, Nat.reduceMul, Int.reduceToNat, Int.reduceLT, Int.reduceLE, show (e2.check != 0) = false from by simpa using z2, wrap12])
      exact ⟨0, by omega, by simp [z1, z2]⟩
    · (try simp (implicitDefEqProofs := false) only [go_sem, ↓reduceIte, Nat.reduceEqDiff, reduceCtorEq, Nat.reduceAdd, Nat.reduceSub, Nat.reduceLeDiff, Nat.reduceLT, Nat.reduceMul, Int.reduceToNat, Int.reduceLT, Int.reduceLE, show (e2.check != 0) = true from by simpa using z2])
      simp [chV, un_cells, z1, z2, hd']
  · unfold l13_0
    have w1 := whole_does e1 (check_zero z1).2.2
    have w2 := whole_does e2 (check_zero z2).2.2
    rw [Ty.cells_eq] at w1 w2
    (try simp (implicitDefEqProofs := false) only [go_sem, ↓reduceIte, Nat.reduceEqDiff, reduceCtorEq, Nat.reduceAdd, Nat.reduceSub, Nat.reduceLeDiff, Nat.reduceLT, Nat.reduceMul, Int.reduceToNat, Int.reduceLT, Int.reduceLE, S, show decide ((2 : Int) < 2) = false from rfl])
    refine CallK_do w1 ?_
    (try simp (implicitDefEqProofs := false) only [go_sem, ↓reduceIte, Nat.reduceEqDiff, reduceCtorEq, Nat.reduceAdd, Nat.reduceSub, Nat.reduceLeDiff, Nat.reduceLT, Nat.reduceMul, Int.reduceToNat, Int.reduceLT, Int.reduceLE])
    refine CallK_do w2 ?_
    (try simp (implicitDefEqProofs := false) only [go_sem, ↓reduceIte, Nat.reduceEqDiff, reduceCtorEq, Nat.reduceAdd, Nat.reduceSub, Nat.reduceLeDiff, Nat.reduceLT, Nat.reduceMul, Int.reduceToNat, Int.reduceLT, Int.reduceLE])
    simp [chV, un_cells, z1, z2, hd', Ty.cells_eq]
end Go.Proofs.Ytopgmopdjiahmaa.Lg
