/- Coercions: the coercion of a cast. Conditions: none; plain definitions and lemmas. -/
import Derived.Test.YtopgmopdjiahmaaDoorNk
set_option linter.unusedVariables false
set_option linter.unusedSimpArgs false
set_option maxRecDepth 100000
set_option maxHeartbeats 1000000
namespace Go.Proofs.YtopgmopdjiahmaaDoor.Lg
open Go Go.RowKit Go.Proofs

theorem zero_cells : Cn.zero.cells = [.int .i8 0, .int .i8 0, .slice [], .int .i8 0, .slice [], .int .i64 0, .bool false, .slice []] := by
  simp [Cn.zero, Cn.cells, Cn.cellsL, Ty.un, Ty.k, Ty.ts, Ty.cellsL]
/-- a label as a number with a side -/
def labN (lab : Int) : Int := if lab < 0 then -lab else lab
def labS (lab : Int) : Bool := decide (lab < 0)
def labIn (lab : Int) : Bool := decide (lab ≠ 0 ∧ -2147483648 ≤ lab ∧ lab ≤ 2147483648)

/-- the answer of coerce.Of: the coercion, the error -/
inductive OfA (a b : Ty) (lab : Int) : Cn → Int → Prop
  | e1 (h : a.check ≠ 0) : OfA a b lab .zero a.check
  | e2 (h : a.check = 0) (h' : b.check ≠ 0) : OfA a b lab .zero b.check
  | e3 (h : a.check = 0) (h' : b.check = 0) (h2 : a.lev b = false ∨ labIn lab = false) : OfA a b lab .zero 150
  | e4 (c : Cn) (h : a.check = 0) (h' : b.check = 0) (h2 : a.lev b = true) (h3 : labIn lab = true) (hc : OfR (labN lab) (labS lab) a b c) (he : c.chk.2.2 ≠ 0) : OfA a b lab .zero c.chk.2.2
  | ok (c : Cn) (h : a.check = 0) (h' : b.check = 0) (h2 : a.lev b = true) (h3 : labIn lab = true) (hc : OfR (labN lab) (labS lab) a b c) (he : c.chk.2.2 = 0) : OfA a b lab c 0

theorem part_fits {k : Int} {a b : Cn} (ha : a.fits) (hb : b.fits) : (part k a b).fits := ⟨un_fits, un_fits, by simp, by omega, ha, hb, trivial⟩
theorem OfR.fits {lab : Int} (hlab : 0 ≤ lab ∧ lab ≤ 2147483648) {neg : Bool} {a b : Ty} {c : Cn} (h : OfR lab neg a b c) : c.fits := by
  induction h with
  | id neg k us => exact ⟨⟨by simp, trivial⟩, un_fits, by simp, by omega, trivial⟩
  | inn neg k ts us c hk hc h ih => exact part_fits ih ⟨ground_fits _, un_fits, by simp, by omega, trivial⟩
  | out neg k ts us c hk hc h ih => exact part_fits ⟨ground_fits _, un_fits, by simp, by omega, trivial⟩ ih
  | fn neg f0 f1 t0 t1 c d h h' ih ih' => exact part_fits ih ih'
  | two neg k f0 f1 t0 t1 c d hk h h' ih ih' => exact part_fits ih ih'

theorem coerceOf_does (a b : Ty) (ha : a.fits) (hb : b.fits) (lab : Int) (hl : -9223372036854775808 ≤ lab ∧ lab ≤ 9223372036854775807) :
    ∃ c e, OfA a b lab c e ∧ Does Tryd.prog 5 [.imm false (.agg a.cells), .imm false (.agg b.cells), .imm false (.int .i64 lab)] [] (.ret false (.tup [.agg c.cells, .int .i64 e])) [] := by
  have c1 := check_does a ha
  have c2 := check_does b hb
  have g := agree_does a b ha hb
  simp only [Ty.cells_eq] at c1 c2 g
  by_cases h1 : a.check ≠ 0
  · refine ⟨_, _, .e1 h1, ?_⟩
    rw [zero_cells]
    simp only [Ty.cells_eq]
    refine does5 (by rfl) (by rfl) ?_
    (try simp (implicitDefEqProofs := false) only [go_sem, ↓reduceIte, Nat.reduceEqDiff, reduceCtorEq, Nat.reduceAdd, Nat.reduceSub, Nat.reduceLeDiff, Nat.reduceLT, Nat.reduceMul, Int.reduceToNat, Int.reduceLT, Int.reduceLE])
    refine CallK_do c1 ?_
    (try simp (implicitDefEqProofs := false) only [go_sem, ↓reduceIte, Nat.reduceEqDiff, reduceCtorEq, Nat.reduceAdd, Nat.reduceSub, Nat.reduceLeDiff, Nat.reduceLT, Nat.reduceMul, Int.reduceToNat, Int.reduceLT, Int.reduceLE, show (a.check != 0) = true from by simpa using h1])
  have h1 : a.check = 0 := Decidable.not_not.1 h1
  by_cases h2 : b.check ≠ 0
  · refine ⟨_, _, .e2 h1 h2, ?_⟩
    rw [zero_cells]
    simp only [Ty.cells_eq]
    refine does5 (by rfl) (by rfl) ?_
    (try simp (implicitDefEqProofs := false) only [go_sem, ↓reduceIte, Nat.reduceEqDiff, reduceCtorEq, Nat.reduceAdd, Nat.reduceSub, Nat.reduceLeDiff, Nat.reduceLT, Nat.reduceMul, Int.reduceToNat, Int.reduceLT, Int.reduceLE])
    refine CallK_do c1 ?_
    (try simp (implicitDefEqProofs := false) only [go_sem, ↓reduceIte, Nat.reduceEqDiff, reduceCtorEq, Nat.reduceAdd, Nat.reduceSub, Nat.reduceLeDiff, Nat.reduceLT, Nat.reduceMul, Int.reduceToNat, Int.reduceLT, Int.reduceLE, h1, show ((0 : Int) != 0) = false from rfl])
    refine CallK_do c2 ?_
    (try simp (implicitDefEqProofs := false) only [go_sem, ↓reduceIte, Nat.reduceEqDiff, reduceCtorEq, Nat.reduceAdd, Nat.reduceSub, Nat.reduceLeDiff, Nat.reduceLT, Nat.reduceMul, Int.reduceToNat, Int.reduceLT, Int.reduceLE, show (b.check != 0) = true from by simpa using h2])
  have h2 : b.check = 0 := Decidable.not_not.1 h2
  have hag : a.agree b = a.lev b := by simp [Ty.agree, h1, h2]
  rw [hag] at g
  by_cases h3 : a.lev b = false ∨ labIn lab = false
  · refine ⟨_, _, .e3 h1 h2 h3, ?_⟩
    rw [zero_cells]
    simp only [Ty.cells_eq]
    refine does5 (by rfl) (by rfl) ?_
    (try simp (implicitDefEqProofs := false) only [go_sem, ↓reduceIte, Nat.reduceEqDiff, reduceCtorEq, Nat.reduceAdd, Nat.reduceSub, Nat.reduceLeDiff, Nat.reduceLT, Nat.reduceMul, Int.reduceToNat, Int.reduceLT, Int.reduceLE])
    refine CallK_do c1 ?_
    (try simp (implicitDefEqProofs := false) only [go_sem, ↓reduceIte, Nat.reduceEqDiff, reduceCtorEq, Nat.reduceAdd, Nat.reduceSub, Nat.reduceLeDiff, Nat.reduceLT, Nat.reduceMul, Int.reduceToNat, Int.reduceLT, Int.reduceLE, h1, show ((0 : Int) != 0) = false from rfl])
    refine CallK_do c2 ?_
    (try simp (implicitDefEqProofs := false) only [go_sem, ↓reduceIte, Nat.reduceEqDiff, reduceCtorEq, Nat.reduceAdd, Nat.reduceSub, Nat.reduceLeDiff, Nat.reduceLT, Nat.reduceMul, Int.reduceToNat, Int.reduceLT, Int.reduceLE, h2, show ((0 : Int) != 0) = false from rfl])
    refine CallK_do g ?_
    cases hlv : a.lev b with
    | false => (try simp (implicitDefEqProofs := false) only [go_sem, ↓reduceIte, Nat.reduceEqDiff, reduceCtorEq, Nat.reduceAdd, Nat.reduceSub, Nat.reduceLeDiff, Nat.reduceLT, Nat.reduceMul, Int.reduceToNat, Int.reduceLT, Int.reduceLE])
    | true =>
      have h3 : labIn lab = false := by simpa [hlv] using h3
      by_cases l0 : lab = 0
      · (try simp (implicitDefEqProofs := false) only [go_sem, ↓reduceIte, Nat.reduceEqDiff, reduceCtorEq, Nat.reduceAdd, Nat.reduceSub, Nat.reduceLeDiff, Nat.reduceLT, Nat.reduceMul, Int.reduceToNat, Int.reduceLT, Int.reduceLE, show (lab == 0) = true from by simpa using l0])
      by_cases l1 : lab < -2147483648
      · (try simp (implicitDefEqProofs := false) only [go_sem, ↓reduceIte, Nat.reduceEqDiff, reduceCtorEq, Nat.reduceAdd, Nat.reduceSub, Nat.reduceLeDiff, Nat.reduceLT, Nat.reduceMul, Int.reduceToNat, Int.reduceLT, Int.reduceLE, show (lab == 0) = false from by simpa using l0, decide_eq_true l1])
      have l2 : lab > 2147483648 := by simp [labIn] at h3; omega
      (try simp (implicitDefEqProofs := false) only [go_sem, ↓reduceIte, Nat.reduceEqDiff, reduceCtorEq, Nat.reduceAdd, Nat.reduceSub, Nat.reduceLeDiff, Nat.reduceLT, Nat.reduceMul, Int.reduceToNat, Int.reduceLT, Int.reduceLE, show (lab == 0) = false from by simpa using l0, decide_eq_false l1, decide_eq_true l2])
  have hlv : a.lev b = true := by
    cases h : a.lev b with
    | true => rfl
    | false => exact absurd (.inl h) h3
  have hin : labIn lab = true := by
    cases h : labIn lab with
    | true => rfl
    | false => exact absurd (.inr h) h3
  have hin2 := of_decide_eq_true hin
  have l0 := hin2.1
  have l1 : ¬ lab < -2147483648 := by omega
  have l2 : ¬ lab > 2147483648 := by omega
  have hn : 0 ≤ labN lab ∧ labN lab ≤ 2147483648 := by unfold labN; split <;> omega
  have hra := rank_le a
  have hrb := rank_le b
  obtain ⟨c, hc⟩ := of_exists (labN lab) (2 * maxI a.rank b.rank + 1).toNat (labS lab) a b h1 h2 hlv (by
    have := (le_maxI (a := a.rank) (b := b.rank)).1
    split <;> omega)
  have hd := hc.does
  have hcf := hc.fits hn
  have hck := cchk_does c hcf
  unfold OfD at hd
  by_cases he : c.chk.2.2 = 0
  · refine ⟨c, 0, .ok c h1 h2 hlv hin hc he, ?_⟩
    simp only [Ty.cells_eq] at hd ⊢
    refine does5 (by rfl) (by rfl) ?_
    (try simp (implicitDefEqProofs := false) only [go_sem, ↓reduceIte, Nat.reduceEqDiff, reduceCtorEq, Nat.reduceAdd, Nat.reduceSub, Nat.reduceLeDiff, Nat.reduceLT, Nat.reduceMul, Int.reduceToNat, Int.reduceLT, Int.reduceLE])
    refine CallK_do c1 ?_
    (try simp (implicitDefEqProofs := false) only [go_sem, ↓reduceIte, Nat.reduceEqDiff, reduceCtorEq, Nat.reduceAdd, Nat.reduceSub, Nat.reduceLeDiff, Nat.reduceLT, Nat.reduceMul, Int.reduceToNat, Int.reduceLT, Int.reduceLE, h1, show ((0 : Int) != 0) = false from rfl])
    refine CallK_do c2 ?_
    (try simp (implicitDefEqProofs := false) only [go_sem, ↓reduceIte, Nat.reduceEqDiff, reduceCtorEq, Nat.reduceAdd, Nat.reduceSub, Nat.reduceLeDiff, Nat.reduceLT, Nat.reduceMul, Int.reduceToNat, Int.reduceLT, Int.reduceLE, h2, show ((0 : Int) != 0) = false from rfl])
    refine CallK_do g ?_
    rw [hlv]
    (try simp (implicitDefEqProofs := false) only [go_sem, ↓reduceIte, Nat.reduceEqDiff, reduceCtorEq, Nat.reduceAdd, Nat.reduceSub, Nat.reduceLeDiff, Nat.reduceLT, Nat.reduceMul, Int.reduceToNat, Int.reduceLT, Int.reduceLE, show (lab == 0) = false from by simpa using l0, decide_eq_false l1, decide_eq_false l2])
    have rest : ∀ (f1 f2 : Bool) (t : List (Nat × LV)), (t = [(3, .imm false (.ptr [.int .i8 a.k, .slice (Ty.cellsL a.ts)] 0)), (4, .imm false (.ptr [.int .i8 b.k, .slice (Ty.cellsL b.ts)] 0)), (6, .loc (.own 6) 0), (10, .loc (.own 46) 0)] ∨ t = [(2, .imm false (.int .i64 lab)), (3, .imm false (.ptr [.int .i8 a.k, .slice (Ty.cellsL a.ts)] 0)), (4, .imm false (.ptr [.int .i8 b.k, .slice (Ty.cellsL b.ts)] 0)), (6, .loc (.own 6) 0), (10, .loc (.own 46) 0), (48, .imm true (.bool false))]) → awp Tryd.prog (.seq r5_12 (.seq (.seq r5_13 (.seq r5_14 (.cond (.t 66) (.seq r5_15 .ret) .skip))) (.seq r5_16 .ret))) (Fin [MR.c 6 (some 8), MR.t 7] (.ret false (.tup [.agg c.cells, .int .i64 0])) [])
        ⟨t,
          [(.own 6, .var [.imm true (.int .i8 0), .imm true (.int .i8 0), .nils, .imm true (.int .i8 0), .nils, .imm true (.int .i64 0), .imm true (.bool false), .nils]), (.own 46, .var [.imm f1 (.int .i64 (labN lab)), .imm f2 (.bool (labS lab))])], []⟩ := by
      intro f1 f2 t ht
      rcases ht with rfl | rfl
      · (try simp (implicitDefEqProofs := false) only [go_sem, ↓reduceIte, Nat.reduceEqDiff, reduceCtorEq, Nat.reduceAdd, Nat.reduceSub, Nat.reduceLeDiff, Nat.reduceLT, Nat.reduceMul, Int.reduceToNat, Int.reduceLT, Int.reduceLE])
        refine CallBK_do hd ?_
        obtain ⟨k, ty, to, lab2, neg2, ks⟩ := c
        simp only [Cn.cells] at hck ⊢
        (try simp (implicitDefEqProofs := false) only [go_sem, ↓reduceIte, Nat.reduceEqDiff, reduceCtorEq, Nat.reduceAdd, Nat.reduceSub, Nat.reduceLeDiff, Nat.reduceLT, Nat.reduceMul, Int.reduceToNat, Int.reduceLT, Int.reduceLE])
        unfold chV at hck
        generalize (Cn.mk k ty to lab2 neg2 ks).chk = e at hck he
        obtain ⟨e1, e2, e3⟩ := e
        simp only [Ty.cells_eq] at hck
        refine CallK_do hck ?_
        have he : e3 = 0 := he
        subst he
        (try simp (implicitDefEqProofs := false) only [go_sem, ↓reduceIte, Nat.reduceEqDiff, reduceCtorEq, Nat.reduceAdd, Nat.reduceSub, Nat.reduceLeDiff, Nat.reduceLT, Nat.reduceMul, Int.reduceToNat, Int.reduceLT, Int.reduceLE, show ((0 : Int) != 0) = false from rfl])
      · (try simp (implicitDefEqProofs := false) only [go_sem, ↓reduceIte, Nat.reduceEqDiff, reduceCtorEq, Nat.reduceAdd, Nat.reduceSub, Nat.reduceLeDiff, Nat.reduceLT, Nat.reduceMul, Int.reduceToNat, Int.reduceLT, Int.reduceLE])
        refine CallBK_do hd ?_
        obtain ⟨k, ty, to, lab2, neg2, ks⟩ := c
        simp only [Cn.cells] at hck ⊢
        (try simp (implicitDefEqProofs := false) only [go_sem, ↓reduceIte, Nat.reduceEqDiff, reduceCtorEq, Nat.reduceAdd, Nat.reduceSub, Nat.reduceLeDiff, Nat.reduceLT, Nat.reduceMul, Int.reduceToNat, Int.reduceLT, Int.reduceLE])
        unfold chV at hck
        generalize (Cn.mk k ty to lab2 neg2 ks).chk = e at hck he
        obtain ⟨e1, e2, e3⟩ := e
        simp only [Ty.cells_eq] at hck
        refine CallK_do hck ?_
        have he : e3 = 0 := he
        subst he
        (try simp (implicitDefEqProofs := false) only [go_sem, ↓reduceIte, Nat.reduceEqDiff, reduceCtorEq, Nat.reduceAdd, Nat.reduceSub, Nat.reduceLeDiff, Nat.reduceLT, Nat.reduceMul, Int.reduceToNat, Int.reduceLT, Int.reduceLE, show ((0 : Int) != 0) = false from rfl])
    by_cases hneg : lab < 0
    · have e1 : labN lab = 0 - lab := by unfold labN; rw [if_pos hneg]; omega
      have e2 : labS lab = true := by simp [labS, hneg]
      have := rest true true _ (.inl rfl)
      rw [e1, e2] at this
      (try simp (implicitDefEqProofs := false) only [go_sem, ↓reduceIte, Nat.reduceEqDiff, reduceCtorEq, Nat.reduceAdd, Nat.reduceSub, Nat.reduceLeDiff, Nat.reduceLT, Nat.reduceMul, Int.reduceToNat, Int.reduceLT, Int.reduceLE] at this)
      (try simp (implicitDefEqProofs := false) only [go_sem, ↓reduceIte, Nat.reduceEqDiff, reduceCtorEq, Nat.reduceAdd, Nat.reduceSub, Nat.reduceLeDiff, Nat.reduceLT, Nat.reduceMul, Int.reduceToNat, Int.reduceLT, Int.reduceLE, decide_eq_true hneg, wrap64 (n := 0 - lab) (by omega) (by omega)])
      exact this
    · have e1 : labN lab = lab := by unfold labN; rw [if_neg hneg]
      have e2 : labS lab = false := by simp [labS, hneg]
      have := rest false true _ (.inr rfl)
      rw [e1, e2] at this
      (try simp (implicitDefEqProofs := false) only [go_sem, ↓reduceIte, Nat.reduceEqDiff, reduceCtorEq, Nat.reduceAdd, Nat.reduceSub, Nat.reduceLeDiff, Nat.reduceLT, Nat.reduceMul, Int.reduceToNat, Int.reduceLT, Int.reduceLE] at this)
      (try simp (implicitDefEqProofs := false) only [go_sem, ↓reduceIte, Nat.reduceEqDiff, reduceCtorEq, Nat.reduceAdd, Nat.reduceSub, Nat.reduceLeDiff, Nat.reduceLT, Nat.reduceMul, Int.reduceToNat, Int.reduceLT, Int.reduceLE, decide_eq_false hneg])
      exact this
  · refine ⟨_, _, .e4 c h1 h2 hlv hin hc he, ?_⟩
    simp only [Ty.cells_eq] at hd ⊢
    refine does5 (by rfl) (by rfl) ?_
    (try simp (implicitDefEqProofs := false) only [go_sem, ↓reduceIte, Nat.reduceEqDiff, reduceCtorEq, Nat.reduceAdd, Nat.reduceSub, Nat.reduceLeDiff, Nat.reduceLT, Nat.reduceMul, Int.reduceToNat, Int.reduceLT, Int.reduceLE])
    refine CallK_do c1 ?_
    (try simp (implicitDefEqProofs := false) only [go_sem, ↓reduceIte, Nat.reduceEqDiff, reduceCtorEq, Nat.reduceAdd, Nat.reduceSub, Nat.reduceLeDiff, Nat.reduceLT, Nat.reduceMul, Int.reduceToNat, Int.reduceLT, Int.reduceLE, h1, show ((0 : Int) != 0) = false from rfl])
    refine CallK_do c2 ?_
    (try simp (implicitDefEqProofs := false) only [go_sem, ↓reduceIte, Nat.reduceEqDiff, reduceCtorEq, Nat.reduceAdd, Nat.reduceSub, Nat.reduceLeDiff, Nat.reduceLT, Nat.reduceMul, Int.reduceToNat, Int.reduceLT, Int.reduceLE, h2, show ((0 : Int) != 0) = false from rfl])
    refine CallK_do g ?_
    rw [hlv]
    (try simp (implicitDefEqProofs := false) only [go_sem, ↓reduceIte, Nat.reduceEqDiff, reduceCtorEq, Nat.reduceAdd, Nat.reduceSub, Nat.reduceLeDiff, Nat.reduceLT, Nat.reduceMul, Int.reduceToNat, Int.reduceLT, Int.reduceLE, show (lab == 0) = false from by simpa using l0, decide_eq_false l1, decide_eq_false l2])
    have rest : ∀ (f1 f2 : Bool) (t : List (Nat × LV)), (t = [(3, .imm false (.ptr [.int .i8 a.k, .slice (Ty.cellsL a.ts)] 0)), (4, .imm false (.ptr [.int .i8 b.k, .slice (Ty.cellsL b.ts)] 0)), (6, .loc (.own 6) 0), (10, .loc (.own 46) 0)] ∨ t = [(2, .imm false (.int .i64 lab)), (3, .imm false (.ptr [.int .i8 a.k, .slice (Ty.cellsL a.ts)] 0)), (4, .imm false (.ptr [.int .i8 b.k, .slice (Ty.cellsL b.ts)] 0)), (6, .loc (.own 6) 0), (10, .loc (.own 46) 0), (48, .imm true (.bool false))]) → awp Tryd.prog (.seq r5_12 (.seq (.seq r5_13 (.seq r5_14 (.cond (.t 66) (.seq r5_15 .ret) .skip))) (.seq r5_16 .ret))) (Fin [MR.c 6 (some 8), MR.t 7] (.ret false (.tup [.agg Cn.zero.cells, .int .i64 c.chk.2.2])) [])
        ⟨t,
          [(.own 6, .var [.imm true (.int .i8 0), .imm true (.int .i8 0), .nils, .imm true (.int .i8 0), .nils, .imm true (.int .i64 0), .imm true (.bool false), .nils]), (.own 46, .var [.imm f1 (.int .i64 (labN lab)), .imm f2 (.bool (labS lab))])], []⟩ := by
      intro f1 f2 t ht
      rcases ht with rfl | rfl
      · (try simp (implicitDefEqProofs := false) only [go_sem, ↓reduceIte, Nat.reduceEqDiff, reduceCtorEq, Nat.reduceAdd, Nat.reduceSub, Nat.reduceLeDiff, Nat.reduceLT, Nat.reduceMul, Int.reduceToNat, Int.reduceLT, Int.reduceLE])
        refine CallBK_do hd ?_
        unfold chV at hck
        generalize c.chk = e at hck he
        obtain ⟨k, ty, to, lab2, neg2, ks⟩ := c
        simp only [Cn.cells] at hck
        rw [zero_cells]
        simp only [Cn.cells]
        (try simp (implicitDefEqProofs := false) only [go_sem, ↓reduceIte, Nat.reduceEqDiff, reduceCtorEq, Nat.reduceAdd, Nat.reduceSub, Nat.reduceLeDiff, Nat.reduceLT, Nat.reduceMul, Int.reduceToNat, Int.reduceLT, Int.reduceLE])
        obtain ⟨e1, e2, e3⟩ := e
        simp only [Ty.cells_eq] at hck
        refine CallK_do hck ?_
        (try simp (implicitDefEqProofs := false) only [go_sem, ↓reduceIte, Nat.reduceEqDiff, reduceCtorEq, Nat.reduceAdd, Nat.reduceSub, Nat.reduceLeDiff, Nat.reduceLT, Nat.reduceMul, Int.reduceToNat, Int.reduceLT, Int.reduceLE, show (e3 != 0) = true from by simpa using he])
      · (try simp (implicitDefEqProofs := false) only [go_sem, ↓reduceIte, Nat.reduceEqDiff, reduceCtorEq, Nat.reduceAdd, Nat.reduceSub, Nat.reduceLeDiff, Nat.reduceLT, Nat.reduceMul, Int.reduceToNat, Int.reduceLT, Int.reduceLE])
        refine CallBK_do hd ?_
        unfold chV at hck
        generalize c.chk = e at hck he
        obtain ⟨k, ty, to, lab2, neg2, ks⟩ := c
        simp only [Cn.cells] at hck
        rw [zero_cells]
        simp only [Cn.cells]
        (try simp (implicitDefEqProofs := false) only [go_sem, ↓reduceIte, Nat.reduceEqDiff, reduceCtorEq, Nat.reduceAdd, Nat.reduceSub, Nat.reduceLeDiff, Nat.reduceLT, Nat.reduceMul, Int.reduceToNat, Int.reduceLT, Int.reduceLE])
        obtain ⟨e1, e2, e3⟩ := e
        simp only [Ty.cells_eq] at hck
        refine CallK_do hck ?_
        (try simp (implicitDefEqProofs := false) only [go_sem, ↓reduceIte, Nat.reduceEqDiff, reduceCtorEq, Nat.reduceAdd, Nat.reduceSub, Nat.reduceLeDiff, Nat.reduceLT, Nat.reduceMul, Int.reduceToNat, Int.reduceLT, Int.reduceLE, show (e3 != 0) = true from by simpa using he])
    by_cases hneg : lab < 0
    · have e1 : labN lab = 0 - lab := by unfold labN; rw [if_pos hneg]; omega
      have e2 : labS lab = true := by simp [labS, hneg]
      have := rest true true _ (.inl rfl)
      rw [e1, e2] at this
      (try simp (implicitDefEqProofs := false) only [go_sem, ↓reduceIte, Nat.reduceEqDiff, reduceCtorEq, Nat.reduceAdd, Nat.reduceSub, Nat.reduceLeDiff, Nat.reduceLT, Nat.reduceMul, Int.reduceToNat, Int.reduceLT, Int.reduceLE] at this)
      (try simp (implicitDefEqProofs := false) only [go_sem, ↓reduceIte, Nat.reduceEqDiff, reduceCtorEq, Nat.reduceAdd, Nat.reduceSub, Nat.reduceLeDiff, Nat.reduceLT, Nat.reduceMul, Int.reduceToNat, Int.reduceLT, Int.reduceLE, decide_eq_true hneg, wrap64 (n := 0 - lab) (by omega) (by omega)])
      exact this
    · have e1 : labN lab = lab := by unfold labN; rw [if_neg hneg]
      have e2 : labS lab = false := by simp [labS, hneg]
      have := rest false true _ (.inr rfl)
      rw [e1, e2] at this
      (try simp (implicitDefEqProofs := false) only [go_sem, ↓reduceIte, Nat.reduceEqDiff, reduceCtorEq, Nat.reduceAdd, Nat.reduceSub, Nat.reduceLeDiff, Nat.reduceLT, Nat.reduceMul, Int.reduceToNat, Int.reduceLT, Int.reduceLE] at this)
      (try simp (implicitDefEqProofs := false) only [go_sem, ↓reduceIte, Nat.reduceEqDiff, reduceCtorEq, Nat.reduceAdd, Nat.reduceSub, Nat.reduceLeDiff, Nat.reduceLT, Nat.reduceMul, Int.reduceToNat, Int.reduceLT, Int.reduceLE, decide_eq_false hneg])
      exact this
end Go.Proofs.YtopgmopdjiahmaaDoor.Lg
