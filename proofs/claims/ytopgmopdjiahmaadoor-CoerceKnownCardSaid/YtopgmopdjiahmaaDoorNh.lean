/- Coercions: copies of types; the check. Conditions: none; plain definitions and lemmas. -/
import Derived.Test.YtopgmopdjiahmaaDoorNg
set_option linter.unusedVariables false
set_option linter.unusedSimpArgs false
set_option maxRecDepth 100000
set_option maxHeartbeats 1000000
namespace Go.Proofs.YtopgmopdjiahmaaDoor.Lg
open Go Go.RowKit Go.Proofs

theorem wrap01 : IntKind.i64.wrap (0 + 1) = 1 := by decide +kernel
theorem wrap12 : IntKind.i64.wrap (1 + 1) = 2 := by decide +kernel
theorem right_shape {k : Int} {ts : List Ty} (h : (Ty.mk k ts).right = true) : (ts = [] ∧ (k = 0 ∨ k = 1 ∨ k = 2)) ∨ ∃ a b, ts = [a, b] ∧ (k = 3 ∨ k = 4 ∨ k = 5) ∧ a.right = true ∧ b.right = true := by
  obtain ⟨h1, h2⟩ := Ty.right_kids h
  unfold partsF at h1
  match ts, h1, h2 with
  | [], h1, _ =>
    refine .inl ⟨rfl, ?_⟩
    split at h1
    · assumption
    · split at h1
      · simp at h1
      · simp at h1
  | [a], h1, _ =>
    split at h1
    · simp at h1
    · split at h1 <;> simp at h1
  | [a, b], h1, h2 =>
    simp only [Ty.rightL, Bool.and_eq_true] at h2
    refine .inr ⟨a, b, rfl, ?_, h2.1, h2.2.1⟩
    split at h1
    · simp at h1
    · split at h1
      · assumption
      · simp at h1
  | a :: b :: c :: r, h1, _ =>
    split at h1
    · simp at h1; omega
    · split at h1
      · simp at h1; omega
      · simp at h1; omega

theorem whole_does : ∀ t : Ty, t.right = true → Does Tryd.prog 26 [.imm false (.ptr t.cells 0)] [] (.ret true (.agg t.cells)) [] := by
  refine Ty.ind fun k ts ih hr => ?_
  rcases right_shape hr with ⟨rfl, _⟩ | ⟨a, b, rfl, _, ha, hb⟩
  · refine does26 (by rfl) (by rfl) ?_
    (try simp (implicitDefEqProofs := false) only [go_sem, ↓reduceIte, Nat.reduceEqDiff, reduceCtorEq, Nat.reduceAdd, Nat.reduceSub, Nat.reduceLeDiff, Nat.reduceLT, Nat.reduceMul, Int.reduceToNat, Int.reduceLT, Int.reduceLE, Ty.cells, Ty.cellsL, ncast0])
    refine ⟨fun n σ => n = 0 ∧ σ = ⟨[(0, .imm false (.ptr (Ty.mk k []).cells 0)), (2, .loc (.own 2) 0), (3, .loc (.own 3) 0), (14, .imm true (.int .i64 0)), (15, .imm true (.int .i64 0))], [(.own 2, .var [.imm true (.int .i8 0), .nils]), (.own 3, .var [.imm false (.int .i8 k), .nils])], []⟩, ⟨_, rfl, by first | rfl | simp only [Ty.cells, Ty.cellsL]⟩, ?_⟩
    rintro n σ ⟨rfl, rfl⟩
    unfold l26_0
    (try simp (implicitDefEqProofs := false) only [go_sem, ↓reduceIte, Nat.reduceEqDiff, reduceCtorEq, Nat.reduceAdd, Nat.reduceSub, Nat.reduceLeDiff, Nat.reduceLT, Nat.reduceMul, Int.reduceToNat, Int.reduceLT, Int.reduceLE, Ty.cells, Ty.cellsL, show decide ((0 : Int) < 0) = false from rfl])
  · have h1 := ih a (by simp) ha
    have h2 := ih b (by simp) hb
    obtain ⟨ka, at1⟩ := a
    obtain ⟨kb, bt1⟩ := b
    refine does26 (by rfl) (by rfl) ?_
    (try simp (implicitDefEqProofs := false) only [go_sem, ↓reduceIte, Nat.reduceEqDiff, reduceCtorEq, Nat.reduceAdd, Nat.reduceSub, Nat.reduceLeDiff, Nat.reduceLT, Nat.reduceMul, Int.reduceToNat, Int.reduceLT, Int.reduceLE, Ty.cells, Ty.cellsL, ncast2])
    let S : Int → List (Key × Box) → St := fun j r => ⟨[(0, .imm false (.ptr (Ty.mk k [.mk ka at1, .mk kb bt1]).cells 0)), (2, .loc (.own 2) 0), (3, .loc (.own 3) 0), (14, .imm true (.int .i64 2)), (15, .imm true (.int .i64 j))], (.own 2, .var [.imm true (.int .i8 0), .nils]) :: r, []⟩
    refine ⟨fun n σ => (n = 2 ∧ σ = S 0 [(.own 3, .var [.imm false (.int .i8 k), .nils])]) ∨ (n = 1 ∧ σ = S 1 [(.own 3, .var [.imm false (.int .i8 k), .row (.own 28) 1]), (.own 28, .row 25 2 [[.imm true (.int .i8 ka), .imm true (.slice (Ty.cellsL at1))]])]) ∨
      (n = 0 ∧ σ = S 2 [(.own 3, .var [.imm false (.int .i8 k), .row (.own 28) 2]), (.own 28, .row 25 2 [[.imm true (.int .i8 ka), .imm true (.slice (Ty.cellsL at1))], [.imm true (.int .i8 kb), .imm true (.slice (Ty.cellsL bt1))]])]), ⟨_, .inl ⟨rfl, by first | rfl | simp only [S, Ty.cells, Ty.cellsL]⟩⟩, ?_⟩
    rintro n σ (⟨rfl, rfl⟩ | ⟨rfl, rfl⟩ | ⟨rfl, rfl⟩)
    · unfold l26_0
      (try simp (implicitDefEqProofs := false) only [go_sem, ↓reduceIte, Nat.reduceEqDiff, reduceCtorEq, Nat.reduceAdd, Nat.reduceSub, Nat.reduceLeDiff, Nat.reduceLT, Nat.reduceMul, Int.reduceToNat, Int.reduceLT, Int.reduceLE, S, Ty.cells, Ty.cellsL, show decide ((0 : Int) < 2) = true from rfl])
      refine CallK_do h1 ?_
      (try simp (implicitDefEqProofs := false) only [go_sem, ↓reduceIte, Nat.reduceEqDiff, reduceCtorEq, Nat.reduceAdd, Nat.reduceSub, Nat.reduceLeDiff, Nat.reduceLT, Nat.reduceMul, Int.reduceToNat, Int.reduceLT, Int.reduceLE, Ty.cells, wrap01])
      exact ⟨1, by omega, by simp⟩
    · unfold l26_0
      (try simp (implicitDefEqProofs := false) only [go_sem, ↓reduceIte, Nat.reduceEqDiff, reduceCtorEq, Nat.reduceAdd, Nat.reduceSub, Nat.reduceLeDiff, Nat.reduceLT, Nat.reduceMul, Int.reduceToNat, Int.reduceLT, Int.reduceLE, S, Ty.cells, Ty.cellsL, show decide ((1 : Int) < 2) = true from rfl])
      refine CallK_do h2 ?_
      (try simp (implicitDefEqProofs := false) only [go_sem, ↓reduceIte, Nat.reduceEqDiff, reduceCtorEq, Nat.reduceAdd, Nat.reduceSub, Nat.reduceLeDiff, Nat.reduceLT, Nat.reduceMul, Int.reduceToNat, Int.reduceLT, Int.reduceLE, Ty.cells, wrap12])
      exact ⟨0, by omega, by simp⟩
    · unfold l26_0
      (try simp (implicitDefEqProofs := false) only [go_sem, ↓reduceIte, Nat.reduceEqDiff, reduceCtorEq, Nat.reduceAdd, Nat.reduceSub, Nat.reduceLeDiff, Nat.reduceLT, Nat.reduceMul, Int.reduceToNat, Int.reduceLT, Int.reduceLE, S, Ty.cells, Ty.cellsL, show decide ((2 : Int) < 2) = false from rfl])

/-! ### the check -/
def Cn.deepB (c : Cn) : Bool := decide (c.deep 201 > 200)
def Cn.chk (c : Cn) : Ty × Ty × Int :=
  if c.few = false then (.un, .un, 32) else if c.deep 201 > 200 then (.un, .un, 31) else if c.ends.2.2 = false then (.un, .un, 150)
  else if c.ends.1.check ≠ 0 then (.un, .un, c.ends.1.check) else if c.ends.2.1.check ≠ 0 then (.un, .un, c.ends.2.1.check) else (c.ends.1, c.ends.2.1, 0)
def chV (e : Ty × Ty × Int) : IV := .tup [.agg e.1.cells, .agg e.2.1.cells, .int .i64 e.2.2]
theorem un_cells : Ty.un.cells = [.int .i8 0, .slice []] := by simp [Ty.un, Ty.cells, Ty.cellsL]

theorem cchk_does (c : Cn) (hf : c.fits) : Does Tryd.prog 12 [.imm false (.agg c.cells)] [] (.ret false (chV c.chk)) [] := by
  have h1 := counted_does c hf
  have h2 := cdeep_does c hf 201 (by omega) (by omega)
  have h3 := ends_does c hf
  have hef := Cn.ends_fits c hf
  unfold EndsD enV at h3
  unfold Cn.chk
  generalize c.few = b1 at h1
  generalize c.deep 201 = d at h2
  generalize c.ends = e at h3 hef
  obtain ⟨e1, e2, e3⟩ := e
  simp only at hef
  obtain ⟨k, ty, to, lab, neg, ks⟩ := c
  simp only [Cn.cells] at h1 h2 h3
  simp only [Ty.cells_eq] at h3
  have c1 := check_does e1 hef.1
  have c2 := check_does e2 hef.2
  rw [Ty.cells_eq] at c1 c2
  refine does12 (by rfl) (by rfl) ?_
  (try simp (implicitDefEqProofs := false) only [go_sem, ↓reduceIte, Nat.reduceEqDiff, reduceCtorEq, Nat.reduceAdd, Nat.reduceSub, Nat.reduceLeDiff, Nat.reduceLT, Nat.reduceMul, Int.reduceToNat, Int.reduceLT, Int.reduceLE, Cn.cells])
  refine CallK_do h1 ?_
  cases b1 with
  | false =>
    (try simp (implicitDefEqProofs := false) only [go_sem, ↓reduceIte, Nat.reduceEqDiff, reduceCtorEq, Nat.reduceAdd, Nat.reduceSub, Nat.reduceLeDiff, Nat.reduceLT, Nat.reduceMul, Int.reduceToNat, Int.reduceLT, Int.reduceLE])
    simp [chV, un_cells]
  | true =>
  (try simp (implicitDefEqProofs := false) only [go_sem, ↓reduceIte, Nat.reduceEqDiff, reduceCtorEq, Nat.reduceAdd, Nat.reduceSub, Nat.reduceLeDiff, Nat.reduceLT, Nat.reduceMul, Int.reduceToNat, Int.reduceLT, Int.reduceLE])
  refine CallK_do h2 ?_
  by_cases hd : d > 200
  · (try simp (implicitDefEqProofs := false) only [go_sem, ↓reduceIte, Nat.reduceEqDiff, reduceCtorEq, Nat.reduceAdd, Nat.reduceSub, Nat.reduceLeDiff, Nat.reduceLT, Nat.reduceMul, Int.reduceToNat, Int.reduceLT, Int.reduceLE, decide_eq_true hd])
    simp [chV, un_cells, hd]
  (try simp (implicitDefEqProofs := false) only [go_sem, ↓reduceIte, Nat.reduceEqDiff, reduceCtorEq, Nat.reduceAdd, Nat.reduceSub, Nat.reduceLeDiff, Nat.reduceLT, Nat.reduceMul, Int.reduceToNat, Int.reduceLT, Int.reduceLE, decide_eq_false hd])
  refine CallK_do h3 ?_
  cases e3 with
  | false =>
    (try simp (implicitDefEqProofs := false) only [go_sem, ↓reduceIte, Nat.reduceEqDiff, reduceCtorEq, Nat.reduceAdd, Nat.reduceSub, Nat.reduceLeDiff, Nat.reduceLT, Nat.reduceMul, Int.reduceToNat, Int.reduceLT, Int.reduceLE])
    simp [chV, un_cells, hd]
  | true =>
  (try simp (implicitDefEqProofs := false) only [go_sem, ↓reduceIte, Nat.reduceEqDiff, reduceCtorEq, Nat.reduceAdd, Nat.reduceSub, Nat.reduceLeDiff, Nat.reduceLT, Nat.reduceMul, Int.reduceToNat, Int.reduceLT, Int.reduceLE, ncast2])
  have hd' : ¬ d > 200 := hd
  let S : Int → St := fun j => ⟨[(2, .loc (.own 2) 0), (3, .loc (.own 3) 0), (5, .loc (.own 5) 0), (6, .loc (.own 6) 0), (30, .imm false (.slice [[.int .i8 e1.k, .slice (Ty.cellsL e1.ts)], [.int .i8 e2.k, .slice (Ty.cellsL e2.ts)]])), (31, .imm true (.int .i64 2)), (32, .imm true (.int .i64 j))],
    [(.own 2, .var [.imm true (.int .i8 0), .nils]), (.own 3, .var [.imm true (.int .i8 0), .nils]), (.own 5, .var [.imm false (.int .i8 e1.k), .imm false (.slice (Ty.cellsL e1.ts))]), (.own 6, .var [.imm false (.int .i8 e2.k), .imm false (.slice (Ty.cellsL e2.ts))])], []⟩
  refine ⟨fun n σ => (n = 2 ∧ σ = S 0) ∨ (n = 1 ∧ e1.check = 0 ∧ σ = S 1) ∨ (n = 0 ∧ e1.check = 0 ∧ e2.check = 0 ∧ σ = S 2), ⟨_, .inl ⟨rfl, rfl⟩⟩, ?_⟩
  rintro n σ (⟨rfl, rfl⟩ | ⟨rfl, z1, rfl⟩ | ⟨rfl, z1, z2, rfl⟩)
  · unfold l12_0
    (try simp (implicitDefEqProofs := false) only [go_sem, ↓reduceIte, Nat.reduceEqDiff, reduceCtorEq, Nat.reduceAdd, Nat.reduceSub, Nat.reduceLeDiff, Nat.reduceLT, Nat.reduceMul, Int.reduceToNat, Int.reduceLT, Int.reduceLE, S, show decide ((0 : Int) < 2) = true from rfl])
    refine CallK_do c1 ?_
    by_cases z1 : e1.check = 0
    · (try simp (implicitDefEqProofs := false) only [go_sem, ↓reduceIte, Nat.reduceEqDiff, reduceCtorEq, Nat.reduceAdd, Nat.reduceSub, Nat.reduceLeDiff, Nat.reduceLT, Nat.reduceMul, Int.reduceToNat, Int.reduceLT, Int.reduceLE, show (e1.check != 0) = false from by simpa using z1, wrap01])
      exact ⟨1, by omega, by simp [z1]⟩
    · (try simp (implicitDefEqProofs := false) only [go_sem, ↓reduceIte, Nat.reduceEqDiff, reduceCtorEq, Nat.reduceAdd, Nat.reduceSub, Nat.reduceLeDiff, Nat.reduceLT, Nat.reduceMul, Int.reduceToNat, Int.reduceLT, Int.reduceLE, show (e1.check != 0) = true from by simpa using z1])
      simp [chV, un_cells, z1, hd']
  · unfold l12_0
    (try simp (implicitDefEqProofs := false) only [go_sem, ↓reduceIte, Nat.reduceEqDiff, reduceCtorEq, Nat.reduceAdd, Nat.reduceSub, Nat.reduceLeDiff, Nat.reduceLT, Nat.reduceMul, Int.reduceToNat, Int.reduceLT, Int.reduceLE, S, show decide ((1 : Int) < 2) = true from rfl])
    refine CallK_do c2 ?_
    by_cases z2 : e2.check = 0
    · (try simp (implicitDefEqProofs := false) only [go_sem, ↓reduceIte, Nat.reduceEqDiff, reduceCtorEq, Nat.reduceAdd, Nat.reduceSub, Nat.reduceLeDiff, Nat.reduceLT, Nat.reduceMul, Int.reduceToNat, Int.reduceLT, Int.reduceLE, show (e2.check != 0) = false from by simpa using z2, wrap12])
      exact ⟨0, by omega, by simp [z1, z2]⟩
    · (try simp (implicitDefEqProofs := false) only [go_sem, ↓reduceIte, Nat.reduceEqDiff, reduceCtorEq, Nat.reduceAdd, Nat.reduceSub, Nat.reduceLeDiff, Nat.reduceLT, Nat.reduceMul, Int.reduceToNat, Int.reduceLT, Int.reduceLE, show (e2.check != 0) = true from by simpa using z2])
      simp [chV, un_cells, z1, z2, hd']
  · unfold l12_0
    have w1 := whole_does e1 (check_zero z1).2.2
    have w2 := whole_does e2 (check_zero z2).2.2
    rw [Ty.cells_eq] at w1 w2
    (try simp (implicitDefEqProofs := false) only [go_sem, ↓reduceIte, Nat.reduceEqDiff, reduceCtorEq, Nat.reduceAdd, Nat.reduceSub, Nat.reduceLeDiff, Nat.reduceLT, Nat.reduceMul, Int.reduceToNat, Int.reduceLT, Int.reduceLE, S, show decide ((2 : Int) < 2) = false from rfl])
    refine CallK_do w1 ?_
    (try simp (implicitDefEqProofs := false) only [go_sem, ↓reduceIte, Nat.reduceEqDiff, reduceCtorEq, Nat.reduceAdd, Nat.reduceSub, Nat.reduceLeDiff, Nat.reduceLT, Nat.reduceMul, Int.reduceToNat, Int.reduceLT, Int.reduceLE])
    refine CallK_do w2 ?_
    (try simp (implicitDefEqProofs := false) only [go_sem, ↓reduceIte, Nat.reduceEqDiff, reduceCtorEq, Nat.reduceAdd, Nat.reduceSub, Nat.reduceLeDiff, Nat.reduceLT, Nat.reduceMul, Int.reduceToNat, Int.reduceLT, Int.reduceLE])
    simp [chV, un_cells, z1, z2, hd', Ty.cells_eq]
end Go.Proofs.YtopgmopdjiahmaaDoor.Lg
