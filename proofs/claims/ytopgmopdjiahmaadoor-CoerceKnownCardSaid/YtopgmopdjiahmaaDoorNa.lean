/- Types: what the functions on types answer. Conditions: none; plain definitions and lemmas. -/
import Derived.Test.YtopgmopdjiahmaaDoorMa
set_option linter.unusedVariables false
set_option linter.unusedSimpArgs false
set_option maxRecDepth 100000
namespace Go.Proofs.YtopgmopdjiahmaaDoor.Lg
open Go Go.RowKit Go.Proofs

inductive Ty where
  | mk (k : Int) (ts : List Ty)
theorem Ty.ind {motive : Ty → Prop} (h : ∀ k ts, (∀ t ∈ ts, motive t) → motive (.mk k ts)) : ∀ t, motive t
  | .mk k ts => h k ts fun t ht => Ty.ind h t
termination_by t => SizeOf.sizeOf t
decreasing_by have := List.sizeOf_lt_of_mem ht; simp; omega
mutual
def Ty.cells : Ty → List IV
  | .mk k ts => [.int .i8 k, .slice (Ty.cellsL ts)]
def Ty.cellsL : List Ty → List (List IV)
  | [] => []
  | t :: r => t.cells :: Ty.cellsL r
end
theorem Ty.cellsL_len : ∀ ts : List Ty, (Ty.cellsL ts).length = ts.length
  | [] => rfl
  | t :: r => by simp [Ty.cellsL, Ty.cellsL_len r]
theorem Ty.cellsL_at : ∀ (ts : List Ty) (j : Nat) (h : j < ts.length), (Ty.cellsL ts)[j]? = some ts[j].cells
  | t :: r, 0, h => by simp [Ty.cellsL]
  | t :: r, j + 1, h => by simpa [Ty.cellsL] using Ty.cellsL_at r j (by simpa using h)
theorem Ty.cells_len (t : Ty) : t.cells.length = 2 := by cases t; simp [Ty.cells]
mutual
def Ty.fits : Ty → Prop
  | .mk _ ts => ts.length ≤ 9223372036854775807 ∧ Ty.fitsL ts
def Ty.fitsL : List Ty → Prop
  | [] => True
  | t :: r => t.fits ∧ Ty.fitsL r
end
theorem Ty.fitsL_mem : ∀ {ts : List Ty}, Ty.fitsL ts → ∀ t ∈ ts, t.fits
  | a :: r, h, t, ht => by
    simp only [Ty.fitsL] at h
    rcases List.mem_cons.1 ht with rfl | ht
    · exact h.1
    · exact Ty.fitsL_mem h.2 t ht

theorem Ty.kid {ts : List Ty} {j : Nat} (h : j < ts.length) : ∃ k' ts', Ty.mk k' ts' ∈ ts ∧ (Ty.cellsL ts)[j]? = some [.int .i8 k', .slice (Ty.cellsL ts')] ∧ ts.drop j = .mk k' ts' :: ts.drop (j + 1) ∧ ts[j]? = some (.mk k' ts') := by
  have hat := Ty.cellsL_at ts j h
  have hdr := List.drop_eq_getElem_cons h
  have hm := List.getElem_mem h
  have hg : ts[j]? = some ts[j] := by simp
  generalize ts[j] = t at hat hdr hm hg
  obtain ⟨k', ts'⟩ := t
  exact ⟨k', ts', hm, hat, hdr, hg⟩
theorem wrap64 {n : Int} (h : -9223372036854775808 ≤ n) (h' : n ≤ 9223372036854775807) : IntKind.i64.wrap n = n := by
  unfold IntKind.wrap
  simp only [show IntKind.i64.bits = 64 from rfl, show IntKind.i64.signed = true from rfl, Bool.true_and, decide_eq_true_eq]
  rw [show (2:Int)^64 = 18446744073709551616 from rfl, show (2:Int)^(64-1) = 9223372036854775808 from rfl]
  split <;> omega

def partsF (k : Int) : Int := if k = 0 ∨ k = 1 ∨ k = 2 then 0 else if k = 3 ∨ k = 4 ∨ k = 5 then 2 else -1
mutual
def Ty.right : Ty → Bool
  | .mk k ts => (partsF k == ts.length) && Ty.rightL ts
def Ty.rightL : List Ty → Bool
  | [] => true
  | t :: r => t.right && Ty.rightL r
end

theorem parts_does (k : Int) (b : Bool) : Does Tryd.prog 37 [.imm b (.int .i8 k)] [] (.ret true (.int .i64 (partsF k))) [] := by
  refine does37 (by rfl) (by rfl) ?_
  (try simp (implicitDefEqProofs := false) only [go_sem, ↓reduceIte, Nat.reduceEqDiff, reduceCtorEq, Nat.reduceAdd, Nat.reduceSub, Nat.reduceLeDiff, Nat.reduceLT, Nat.reduceMul, Int.reduceToNat, Int.reduceLT, Int.reduceLE, CondOn_imm])
  simp only [beq_iff_eq, beq_eq_false_iff_ne, partsF]
  refine ⟨?_, ?_⟩ <;> intros <;> (repeat' (first | refine And.intro ?_ ?_ | intro _)) <;> simp_all

theorem right_does : ∀ t : Ty, t.fits → Does Tryd.prog 18 [.imm false (.agg t.cells)] [] (.ret true (.bool t.right)) [] := by
  refine Ty.ind fun k ts ih hf => ?_
  refine does18 (by rfl) (by rfl) ?_
  (try simp (implicitDefEqProofs := false) only [go_sem, ↓reduceIte, Nat.reduceEqDiff, reduceCtorEq, Nat.reduceAdd, Nat.reduceSub, Nat.reduceLeDiff, Nat.reduceLT, Nat.reduceMul, Int.reduceToNat, Int.reduceLT, Int.reduceLE, Ty.cells])
  refine CallK_do (parts_does k false) ?_
  (try simp (implicitDefEqProofs := false) only [go_sem, ↓reduceIte, Nat.reduceEqDiff, reduceCtorEq, Nat.reduceAdd, Nat.reduceSub, Nat.reduceLeDiff, Nat.reduceLT, Nat.reduceMul, Int.reduceToNat, Int.reduceLT, Int.reduceLE, Ty.cellsL_len, CondOn_imm])
  refine ⟨fun h => ?_, fun h => ?_⟩
  · simp only [Ty.right]
    simp_all
  have hk : partsF k = ts.length := by simpa using h
  refine ⟨fun n σ => ∃ j f, j ≤ ts.length ∧ n = ts.length - j ∧ (Ty.rightL ts = Ty.rightL (ts.drop j)) ∧ σ = ⟨[(13, .imm f (.slice (Ty.cellsL ts))), (14, .imm true (.int .i64 ts.length)), (15, .imm true (.int .i64 j))], [], []⟩, ⟨_, 0, _, by omega, rfl, rfl, rfl⟩, ?_⟩
  rintro n σ ⟨j, f, hj, rfl, hr, rfl⟩
  unfold l18_0
  (try simp (implicitDefEqProofs := false) only [go_sem, ↓reduceIte, Nat.reduceEqDiff, reduceCtorEq, Nat.reduceAdd, Nat.reduceSub, Nat.reduceLeDiff, Nat.reduceLT, Nat.reduceMul, Int.reduceToNat, Int.reduceLT, Int.reduceLE, CondOn_imm])
  refine ⟨fun hlt => ?_, fun hlt => ?_⟩
  · have hlt : j < ts.length := by simpa using hlt
    obtain ⟨k', ts', hm, hat, hdr, _⟩ := Ty.kid hlt
    (try simp (implicitDefEqProofs := false) only [go_sem, ↓reduceIte, Nat.reduceEqDiff, reduceCtorEq, Nat.reduceAdd, Nat.reduceSub, Nat.reduceLeDiff, Nat.reduceLT, Nat.reduceMul, Int.reduceToNat, Int.reduceLT, Int.reduceLE, hat, Int.toNat_natCast, Int.natCast_nonneg])
    refine CallK_do (ih _ hm (Ty.fitsL_mem (by simpa [Ty.fits] using hf.2) _ hm)) ?_
    (try simp (implicitDefEqProofs := false) only [go_sem, ↓reduceIte, Nat.reduceEqDiff, reduceCtorEq, Nat.reduceAdd, Nat.reduceSub, Nat.reduceLeDiff, Nat.reduceLT, Nat.reduceMul, Int.reduceToNat, Int.reduceLT, Int.reduceLE, CondOn_imm])
    rw [hdr, Ty.rightL] at hr
    refine ⟨fun hb => ?_, fun hb => ?_⟩
    · have hb : (Ty.mk k' ts').right = false := by simpa using hb
      rw [Ty.right, hr, hb]; simp
    · have hb : (Ty.mk k' ts').right = true := by simpa using hb
      have hfl : ts.length ≤ 9223372036854775807 := hf.1
      (try simp (implicitDefEqProofs := false) only [go_sem, ↓reduceIte, Nat.reduceEqDiff, reduceCtorEq, Nat.reduceAdd, Nat.reduceSub, Nat.reduceLeDiff, Nat.reduceLT, Nat.reduceMul, Int.reduceToNat, Int.reduceLT, Int.reduceLE, wrap64 (n := (j : Int) + 1) (by omega) (by omega)])
      exact ⟨_, by omega, j + 1, _, by omega, rfl, by rw [hr, hb, Bool.true_and], rfl⟩
  · have hge : j = ts.length := by have : ¬ j < ts.length := by simpa using hlt
                                   omega
    (try simp (implicitDefEqProofs := false) only [go_sem, ↓reduceIte, Nat.reduceEqDiff, reduceCtorEq, Nat.reduceAdd, Nat.reduceSub, Nat.reduceLeDiff, Nat.reduceLT, Nat.reduceMul, Int.reduceToNat, Int.reduceLT, Int.reduceLE])
    subst hge
    simp [Ty.right, hk, hr, Ty.rightL]

mutual
def Ty.nodes : Ty → Nat
  | .mk _ ts => 1 + Ty.nodesL ts
def Ty.nodesL : List Ty → Nat
  | [] => 0
  | t :: r => t.nodes + Ty.nodesL r
end

def countO (n : Nat) (t : Ty) : Out := if n + t.nodes ≤ 8192 then .ret true (.tup []) else .pan 82
def countN (n : Nat) (t : Ty) : Int := if n + t.nodes ≤ 8192 then ((n + t.nodes : Nat) : Int) else 8193
theorem count_does : ∀ t : Ty, t.fits → ∀ n : Nat, n ≤ 8192 → Does Tryd.prog 35 [.loc (.arg 0) 0, .imm false (.agg t.cells)] [[.imm false (.int .i64 n)]] (countO n t) [[.imm false (.int .i64 (countN n t))]] := by
  refine Ty.ind fun k ts ih hf n hn => ?_
  refine does35 (by rfl) (by rfl) ?_
  have w1 := wrap64 (n := (n : Int) + 1) (by omega) (by omega)
  (try simp (implicitDefEqProofs := false) only [go_sem, ↓reduceIte, Nat.reduceEqDiff, reduceCtorEq, Nat.reduceAdd, Nat.reduceSub, Nat.reduceLeDiff, Nat.reduceLT, Nat.reduceMul, Int.reduceToNat, Int.reduceLT, Int.reduceLE, Ty.cells, w1, CondOn_imm])
  refine ⟨fun h => ?_, fun h => ?_⟩
  · have h : (n : Int) = 8192 := by have : (8192 : Int) < (n : Int) + 1 := by simpa using h
                                    omega
    have h2 : ¬ (n + (Ty.mk k ts).nodes ≤ 8192) := by simp [Ty.nodes]; omega
    (try simp (implicitDefEqProofs := false) only [go_sem, ↓reduceIte, Nat.reduceEqDiff, reduceCtorEq, Nat.reduceAdd, Nat.reduceSub, Nat.reduceLeDiff, Nat.reduceLT, Nat.reduceMul, Int.reduceToNat, Int.reduceLT, Int.reduceLE, countO, countN, h2, if_false, h])
    simp
  have hn' : n + 1 ≤ 8192 := by have : ¬ ((8192 : Int) < (n : Int) + 1) := by simpa using h
                                omega
  have hl : ts.length ≤ 9223372036854775807 := hf.1
  rw [Ty.cellsL_len]
  refine ⟨fun m σ => ∃ j f g n', j ≤ ts.length ∧ m = ts.length - j ∧ n' ≤ 8192 ∧ n + 1 + Ty.nodesL ts = n' + Ty.nodesL (ts.drop j) ∧ σ = ⟨[(0, .loc (.arg 0) 0), (21, .imm f (.slice (Ty.cellsL ts))), (22, .imm true (.int .i64 ts.length)), (23, .imm true (.int .i64 j))], [(.arg 0, .var [.imm g (.int .i64 (n' : Nat))])], []⟩, ⟨_, 0, _, _, n + 1, by omega, rfl, hn', rfl, rfl⟩, ?_⟩
  rintro m σ ⟨j, f, g, n', hj, rfl, hn2, hs, rfl⟩
  unfold l35_0
  (try simp (implicitDefEqProofs := false) only [go_sem, ↓reduceIte, Nat.reduceEqDiff, reduceCtorEq, Nat.reduceAdd, Nat.reduceSub, Nat.reduceLeDiff, Nat.reduceLT, Nat.reduceMul, Int.reduceToNat, Int.reduceLT, Int.reduceLE, CondOn_imm])
  refine ⟨fun hlt => ?_, fun hlt => ?_⟩
  · have hlt : j < ts.length := by simpa using hlt
    obtain ⟨k', ts', hm, hat, hdr, _⟩ := Ty.kid hlt
    rw [hdr, Ty.nodesL] at hs
    (try simp (implicitDefEqProofs := false) only [go_sem, ↓reduceIte, Nat.reduceEqDiff, reduceCtorEq, Nat.reduceAdd, Nat.reduceSub, Nat.reduceLeDiff, Nat.reduceLT, Nat.reduceMul, Int.reduceToNat, Int.reduceLT, Int.reduceLE, hat, Int.toNat_natCast, Int.natCast_nonneg])
    refine CallBK_do (ih _ hm (Ty.fitsL_mem (by simpa [Ty.fits] using hf.2) _ hm) n' hn2) ?_
    by_cases hc : n' + (Ty.mk k' ts').nodes ≤ 8192
    · simp only [countO, countN, if_pos hc]
      (try simp (implicitDefEqProofs := false) only [go_sem, ↓reduceIte, Nat.reduceEqDiff, reduceCtorEq, Nat.reduceAdd, Nat.reduceSub, Nat.reduceLeDiff, Nat.reduceLT, Nat.reduceMul, Int.reduceToNat, Int.reduceLT, Int.reduceLE, wrap64 (n := (j : Int) + 1) (by omega) (by omega)])
      exact ⟨_, by omega, j + 1, _, _, n' + (Ty.mk k' ts').nodes, by omega, rfl, hc, by omega, rfl⟩
    · have h2 : ¬ (n + (Ty.mk k ts).nodes ≤ 8192) := by simp [Ty.nodes]; omega
      simp only [countO, countN, if_neg hc, if_neg h2]
      (try simp (implicitDefEqProofs := false) only [go_sem, ↓reduceIte, Nat.reduceEqDiff, reduceCtorEq, Nat.reduceAdd, Nat.reduceSub, Nat.reduceLeDiff, Nat.reduceLT, Nat.reduceMul, Int.reduceToNat, Int.reduceLT, Int.reduceLE])
  · have hge : j = ts.length := by have : ¬ j < ts.length := by simpa using hlt
                                   omega
    subst hge
    simp only [List.drop_length, Ty.nodesL] at hs
    have h2 : (n + (Ty.mk k ts).nodes ≤ 8192) := by simp [Ty.nodes]; omega
    have h3 : ((n + (Ty.mk k ts).nodes : Nat) : Int) = (n' : Int) := by simp only [Ty.nodes]; omega
    (try simp (implicitDefEqProofs := false) only [go_sem, ↓reduceIte, Nat.reduceEqDiff, reduceCtorEq, Nat.reduceAdd, Nat.reduceSub, Nat.reduceLeDiff, Nat.reduceLT, Nat.reduceMul, Int.reduceToNat, Int.reduceLT, Int.reduceLE, countO, countN, if_pos h2, h3])

/-! ### how deep -/
mutual
def Ty.deep : Ty → Int → Int
  | .mk _ ts, n => if n ≤ 1 then n else Ty.deepL ts (n - 1) 0 + 1
def Ty.deepL : List Ty → Int → Int → Int
  | [], _, d => d
  | t :: r, n, d => Ty.deepL r n (if t.deep n > d then t.deep n else d)
end
mutual
theorem Ty.deep_le : ∀ (t : Ty) (n : Int), t.deep n ≤ max n 1 ∧ (0 < n → 0 < t.deep n)
  | .mk _ ts, n => by
    simp only [Ty.deep]
    split
    · omega
    · have := Ty.deepL_le ts (n - 1) 0 (by omega) (by omega)
      omega
theorem Ty.deepL_le : ∀ (ts : List Ty) (n d : Int), 0 ≤ d → d ≤ max n 1 → d ≤ Ty.deepL ts n d ∧ Ty.deepL ts n d ≤ max n 1
  | [], n, d, h, h' => by simp only [Ty.deepL]; omega
  | t :: r, n, d, h, h' => by
    simp only [Ty.deepL]
    have h1 := Ty.deep_le t n
    have h2 := Ty.deepL_le r n (if t.deep n > d then t.deep n else d) (by split <;> omega) (by split <;> omega)
    constructor
    · have := h2.1; split at this <;> split <;> omega
    · exact h2.2
end
theorem deep_does : ∀ t : Ty, t.fits → ∀ n : Int, n ≤ 201 → -1000 ≤ n → Does Tryd.prog 36 [.imm false (.agg t.cells), .imm false (.int .i64 n)] [] (.ret true (.int .i64 (t.deep n))) [] := by
  refine Ty.ind fun k ts ih hf n hn hn0 => ?_
  refine does36 (by rfl) (by rfl) ?_
  (try simp (implicitDefEqProofs := false) only [go_sem, ↓reduceIte, Nat.reduceEqDiff, reduceCtorEq, Nat.reduceAdd, Nat.reduceSub, Nat.reduceLeDiff, Nat.reduceLT, Nat.reduceMul, Int.reduceToNat, Int.reduceLT, Int.reduceLE, Ty.cells, CondOn_imm, Ty.cellsL_len])
  refine ⟨fun h => ?_, fun h => ?_⟩
  · simp only [Ty.deep, if_pos (of_decide_eq_true h)]
  have h1 : ¬ (n ≤ 1) := by simpa using h
  have hfl : ts.length ≤ 9223372036854775807 := hf.1
  have e0 : (Ty.mk k ts).deep n = Ty.deepL ts (n - 1) 0 + 1 := by simp only [Ty.deep, if_neg h1]
  refine ⟨fun m σ => ∃ j f d, j ≤ ts.length ∧ m = ts.length - j ∧ 0 ≤ d ∧ d ≤ 200 ∧ Ty.deepL ts (n - 1) 0 = Ty.deepL (ts.drop j) (n - 1) d ∧ σ = ⟨[(1, .imm false (.int .i64 n)), (5, .imm true (.int .i64 d)), (12, .imm f (.slice (Ty.cellsL ts))), (13, .imm true (.int .i64 ts.length)), (14, .imm true (.int .i64 j))], [], []⟩, ⟨_, 0, _, 0, by omega, rfl, by omega, by omega, rfl, rfl⟩, ?_⟩
  rintro m σ ⟨j, f, d, hj, rfl, hd0, hd1, hs, rfl⟩
  unfold l36_0
  (try simp (implicitDefEqProofs := false) only [go_sem, ↓reduceIte, Nat.reduceEqDiff, reduceCtorEq, Nat.reduceAdd, Nat.reduceSub, Nat.reduceLeDiff, Nat.reduceLT, Nat.reduceMul, Int.reduceToNat, Int.reduceLT, Int.reduceLE, CondOn_imm])
  refine ⟨fun hlt => ?_, fun hlt => ?_⟩
  · have hlt : j < ts.length := by simpa using hlt
    obtain ⟨k', ts', hm, hat, hdr, _⟩ := Ty.kid hlt
    rw [hdr, Ty.deepL] at hs
    have hb := Ty.deep_le (.mk k' ts') (n - 1)
    (try simp (implicitDefEqProofs := false) only [go_sem, ↓reduceIte, Nat.reduceEqDiff, reduceCtorEq, Nat.reduceAdd, Nat.reduceSub, Nat.reduceLeDiff, Nat.reduceLT, Nat.reduceMul, Int.reduceToNat, Int.reduceLT, Int.reduceLE, hat, Int.toNat_natCast, Int.natCast_nonneg, wrap64 (n := n - 1) (by omega) (by omega)])
    refine CallK_do (ih _ hm (Ty.fitsL_mem (by simpa [Ty.fits] using hf.2) _ hm) (n - 1) (by omega) (by omega)) ?_
    (try simp (implicitDefEqProofs := false) only [go_sem, ↓reduceIte, Nat.reduceEqDiff, reduceCtorEq, Nat.reduceAdd, Nat.reduceSub, Nat.reduceLeDiff, Nat.reduceLT, Nat.reduceMul, Int.reduceToNat, Int.reduceLT, Int.reduceLE, wrap64 (n := (j : Int) + 1) (by omega) (by omega)])
    exact ⟨_, by omega, j + 1, _, _, by omega, rfl, by split <;> omega, by split <;> omega, hs, rfl⟩
  · have hge : j = ts.length := by have : ¬ j < ts.length := by simpa using hlt
                                   omega
    subst hge
    simp only [List.drop_length, Ty.deepL] at hs
    (try simp (implicitDefEqProofs := false) only [go_sem, ↓reduceIte, Nat.reduceEqDiff, reduceCtorEq, Nat.reduceAdd, Nat.reduceSub, Nat.reduceLeDiff, Nat.reduceLT, Nat.reduceMul, Int.reduceToNat, Int.reduceLT, Int.reduceLE, wrap64 (n := d + 1) (by omega) (by omega), e0, hs])
end Go.Proofs.YtopgmopdjiahmaaDoor.Lg
