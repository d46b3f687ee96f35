/- Texts of one proof, joined by program (gen/tells.py): Tb Tc. Conditions: none; plain definitions and lemmas. -/
import Derived.Test.YtopgmopdjiahmaaH10
/- Merging: the walk. Conditions: none; plain lemmas. -/
set_option linter.unusedVariables false
set_option linter.unusedSimpArgs false
set_option maxRecDepth 100000
set_option maxHeartbeats 2000000
namespace Go.Proofs.Ytopgmopdjiahmaa.Lg
open Go Go.RowKit Go.Proofs

def ThD (a b c : Cn) : Prop := Does Try.prog 67 [.imm false (.ptr a.cells 0), .imm false (.ptr b.cells 0)] [] (.ret false (.ptr c.cells 0)) []
def inC (g : Ty) : Cn := .mk 2 g .un 0 false []
def outC (g : Ty) (p : Int) (n : Bool) : Cn := .mk 3 g .un p n []
def unC : Cn := .mk 0 .un .un 0 false []
def failC (A B : Ty) (p : Int) (n : Bool) : Cn := .mk 1 A B p n []
theorem inC_cells (g : Ty) : (inC g).cells = [.int .i8 2, .int .i8 g.k, .slice (Ty.cellsL g.ts), .int .i8 0, .slice [], .int .i64 0, .bool false, .slice []] := by simp [inC, Cn.cells, Cn.cellsL, Ty.un, Ty.k, Ty.ts, Ty.cellsL]
theorem outC_cells (g : Ty) (p : Int) (n : Bool) : (outC g p n).cells = [.int .i8 3, .int .i8 g.k, .slice (Ty.cellsL g.ts), .int .i8 0, .slice [], .int .i64 p, .bool n, .slice []] := by simp [outC, Cn.cells, Cn.cellsL, Ty.un, Ty.k, Ty.ts, Ty.cellsL]
theorem unC_cells : unC.cells = [.int .i8 0, .int .i8 0, .slice [], .int .i8 0, .slice [], .int .i64 0, .bool false, .slice []] := by simp [unC, Cn.cells, Cn.cellsL, Ty.un, Ty.k, Ty.ts, Ty.cellsL]
theorem failC_cells (A B : Ty) (p : Int) (n : Bool) : (failC A B p n).cells = [.int .i8 1, .int .i8 A.k, .slice (Ty.cellsL A.ts), .int .i8 B.k, .slice (Ty.cellsL B.ts), .int .i64 p, .bool n, .slice []] := by simp [failC, Cn.cells, Cn.cellsL]
/-- is it one that stays at the unknown type? -/
def Cn.isU : Cn → Bool
  | .mk k ty _ _ _ _ => (k == 0 && ty.k == 0)
theorem munk (c : Cn) : Does Try.prog 99 [.imm false (.ptr c.cells 0)] [] (.ret true (.bool c.isU)) [] := munk_does c _ (by cases c; rfl)
theorem isU_part (k : Int) (a b : Cn) (h : k ≠ 0) : (part k a b).isU = false := by simp [Cn.isU, part, h]

theorem th_un (b : Cn) : ThD unC b b := by
  have h1 := munk unC
  rw [show unC.isU = true from rfl] at h1
  refine does67 (by rfl) (by rfl) ?_
  (try simp (implicitDefEqProofs := false) only [go_sem, ↓reduceIte, Nat.reduceEqDiff, reduceCtorEq, Nat.reduceAdd, Nat.reduceSub, Nat.reduceLeDiff, Nat.reduceLT, Nat.reduceMul, Int.reduceToNat, Int.reduceLT, Int.reduceLE])
  refine CallK_do h1 ?_
  (try simp (implicitDefEqProofs := false) only [go_sem, ↓reduceIte, Nat.reduceEqDiff, reduceCtorEq, Nat.reduceAdd, Nat.reduceSub, Nat.reduceLeDiff, Nat.reduceLT, Nat.reduceMul, Int.reduceToNat, Int.reduceLT, Int.reduceLE])
theorem th_out {i b c : Cn} (g : Ty) (p : Int) (n : Bool) (h : ThD i b c) : ThD (part 7 (outC g p n) i) b (part 7 (outC g p n) c) := by
  have h1 := munk (part 7 (outC g p n) i)
  rw [isU_part _ _ _ (by omega)] at h1
  have h2 := mout_yes (outC g p n) i
  rw [show (outC g p n).kd = 3 from rfl] at h2
  have h3 := mseq_does (outC g p n) c
  have hli := Cn.cells_len i
  unfold ThD at h ⊢
  obtain ⟨k2, ty2, to2, lab2, neg2, ks2⟩ := c
  simp only [part_cells, outC_cells] at h1 h2 h3 ⊢
  simp only [Cn.cells] at h h3 ⊢
  refine does67 (by rfl) (by rfl) ?_
  (try simp (implicitDefEqProofs := false) only [go_sem, ↓reduceIte, Nat.reduceEqDiff, reduceCtorEq, Nat.reduceAdd, Nat.reduceSub, Nat.reduceLeDiff, Nat.reduceLT, Nat.reduceMul, Int.reduceToNat, Int.reduceLT, Int.reduceLE])
  refine CallK_do h1 ?_
  (try simp (implicitDefEqProofs := false) only [go_sem, ↓reduceIte, Nat.reduceEqDiff, reduceCtorEq, Nat.reduceAdd, Nat.reduceSub, Nat.reduceLeDiff, Nat.reduceLT, Nat.reduceMul, Int.reduceToNat, Int.reduceLT, Int.reduceLE])
  refine CallK_do h2 ?_
  (try simp (implicitDefEqProofs := false) only [go_sem, ↓reduceIte, Nat.reduceEqDiff, reduceCtorEq, Nat.reduceAdd, Nat.reduceSub, Nat.reduceLeDiff, Nat.reduceLT, Nat.reduceMul, Int.reduceToNat, Int.reduceLT, Int.reduceLE, show ((3 : Int) == 3) = true from rfl, hli])
  refine CallK_do h ?_
  (try simp (implicitDefEqProofs := false) only [go_sem, ↓reduceIte, Nat.reduceEqDiff, reduceCtorEq, Nat.reduceAdd, Nat.reduceSub, Nat.reduceLeDiff, Nat.reduceLT, Nat.reduceMul, Int.reduceToNat, Int.reduceLT, Int.reduceLE])
  refine CallK_do h3 ?_
  (try simp (implicitDefEqProofs := false) only [go_sem, ↓reduceIte, Nat.reduceEqDiff, reduceCtorEq, Nat.reduceAdd, Nat.reduceSub, Nat.reduceLeDiff, Nat.reduceLT, Nat.reduceMul, Int.reduceToNat, Int.reduceLT, Int.reduceLE])

theorem th_fail {b : Cn} {e : Ty × Ty} (A B : Ty) (p : Int) (n : Bool) (h : EnD b e) : ThD (failC A B p n) b (failC A e.2 p n) := by
  have h1 := munk (failC A B p n)
  rw [show (failC A B p n).isU = false from rfl] at h1
  have h2 := mout_no (c := failC A B p n) (by simp [failC, Cn.kd])
  have h3 := mfail_does (en_fail A B p n []) h (f := failC A B p n) (failC A e.2 p n) rfl
  have e0 : (Cn.mk 1 A B p n []).cells = (failC A B p n).cells := rfl
  rw [e0] at h3
  unfold ThD
  simp only [failC_cells] at h1 h2 h3 ⊢
  refine does67 (by rfl) (by rfl) ?_
  (try simp (implicitDefEqProofs := false) only [go_sem, ↓reduceIte, Nat.reduceEqDiff, reduceCtorEq, Nat.reduceAdd, Nat.reduceSub, Nat.reduceLeDiff, Nat.reduceLT, Nat.reduceMul, Int.reduceToNat, Int.reduceLT, Int.reduceLE])
  refine CallK_do h1 ?_
  (try simp (implicitDefEqProofs := false) only [go_sem, ↓reduceIte, Nat.reduceEqDiff, reduceCtorEq, Nat.reduceAdd, Nat.reduceSub, Nat.reduceLeDiff, Nat.reduceLT, Nat.reduceMul, Int.reduceToNat, Int.reduceLT, Int.reduceLE])
  refine CallK_do h2 ?_
  (try simp (implicitDefEqProofs := false) only [go_sem, ↓reduceIte, Nat.reduceEqDiff, reduceCtorEq, Nat.reduceAdd, Nat.reduceSub, Nat.reduceLeDiff, Nat.reduceLT, Nat.reduceMul, Int.reduceToNat, Int.reduceLT, Int.reduceLE, show ((1 : Int) == 1) = true from rfl])
  refine CallK_do h3 ?_
  (try simp (implicitDefEqProofs := false) only [go_sem, ↓reduceIte, Nat.reduceEqDiff, reduceCtorEq, Nat.reduceAdd, Nat.reduceSub, Nat.reduceLeDiff, Nat.reduceLT, Nat.reduceMul, Int.reduceToNat, Int.reduceLT, Int.reduceLE])

theorem th_inn_un (i : Cn) (g : Ty) (hi : i.kd ≠ 3) : ThD (part 7 i (inC g)) unC (part 7 i (inC g)) := by
  have h1 := munk (part 7 i (inC g))
  rw [isU_part _ _ _ (by omega)] at h1
  have h2 := mout_yes i (inC g)
  rw [show (i.kd == 3) = false from by simpa using hi] at h2
  have h3 := min_yes i (inC g)
  rw [show (inC g).kd = 2 from rfl] at h3
  have h4 := munk unC
  rw [show unC.isU = true from rfl] at h4
  unfold ThD
  simp only [part_cells, inC_cells] at h1 h2 h3 h4 ⊢
  refine does67 (by rfl) (by rfl) ?_
  (try simp (implicitDefEqProofs := false) only [go_sem, ↓reduceIte, Nat.reduceEqDiff, reduceCtorEq, Nat.reduceAdd, Nat.reduceSub, Nat.reduceLeDiff, Nat.reduceLT, Nat.reduceMul, Int.reduceToNat, Int.reduceLT, Int.reduceLE])
  refine CallK_do h1 ?_
  (try simp (implicitDefEqProofs := false) only [go_sem, ↓reduceIte, Nat.reduceEqDiff, reduceCtorEq, Nat.reduceAdd, Nat.reduceSub, Nat.reduceLeDiff, Nat.reduceLT, Nat.reduceMul, Int.reduceToNat, Int.reduceLT, Int.reduceLE])
  refine CallK_do h2 ?_
  (try simp (implicitDefEqProofs := false) only [go_sem, ↓reduceIte, Nat.reduceEqDiff, reduceCtorEq, Nat.reduceAdd, Nat.reduceSub, Nat.reduceLeDiff, Nat.reduceLT, Nat.reduceMul, Int.reduceToNat, Int.reduceLT, Int.reduceLE, show ((7 : Int) == 1) = false from rfl])
  refine CallK_do h3 ?_
  (try simp (implicitDefEqProofs := false) only [go_sem, ↓reduceIte, Nat.reduceEqDiff, reduceCtorEq, Nat.reduceAdd, Nat.reduceSub, Nat.reduceLeDiff, Nat.reduceLT, Nat.reduceMul, Int.reduceToNat, Int.reduceLT, Int.reduceLE, show ((2 : Int) == 2) = true from rfl])
  refine CallK_do h4 ?_
  (try simp (implicitDefEqProofs := false) only [go_sem, ↓reduceIte, Nat.reduceEqDiff, reduceCtorEq, Nat.reduceAdd, Nat.reduceSub, Nat.reduceLeDiff, Nat.reduceLT, Nat.reduceMul, Int.reduceToNat, Int.reduceLT, Int.reduceLE])

theorem th_inn_eq {i j c : Cn} (g g' : Ty) (p : Int) (n : Bool) (hi : i.kd ≠ 3) (hg : g.k = g'.k) (h : ThD i j c) : ThD (part 7 i (inC g)) (part 7 (outC g' p n) j) c := by
  have h1 := munk (part 7 i (inC g))
  rw [isU_part _ _ _ (by omega)] at h1
  have h2 := mout_yes i (inC g)
  rw [show (i.kd == 3) = false from by simpa using hi] at h2
  have h3 := min_yes i (inC g)
  rw [show (inC g).kd = 2 from rfl] at h3
  have h4 := munk (part 7 (outC g' p n) j)
  rw [isU_part _ _ _ (by omega)] at h4
  have h5 := mout_yes (outC g' p n) j
  rw [show (outC g' p n).kd = 3 from rfl] at h5
  have h6 := msame_does (inC g) (outC g' p n) true (by simp [inC, outC, hg])
  have hli := Cn.cells_len i
  have hlj := Cn.cells_len j
  unfold ThD at h ⊢
  simp only [part_cells, inC_cells, outC_cells] at h1 h2 h3 h4 h5 h6 ⊢
  refine does67 (by rfl) (by rfl) ?_
  (try simp (implicitDefEqProofs := false) only [go_sem, ↓reduceIte, Nat.reduceEqDiff, reduceCtorEq, Nat.reduceAdd, Nat.reduceSub, Nat.reduceLeDiff, Nat.reduceLT, Nat.reduceMul, Int.reduceToNat, Int.reduceLT, Int.reduceLE])
  refine CallK_do h1 ?_
  (try simp (implicitDefEqProofs := false) only [go_sem, ↓reduceIte, Nat.reduceEqDiff, reduceCtorEq, Nat.reduceAdd, Nat.reduceSub, Nat.reduceLeDiff, Nat.reduceLT, Nat.reduceMul, Int.reduceToNat, Int.reduceLT, Int.reduceLE])
  refine CallK_do h2 ?_
  (try simp (implicitDefEqProofs := false) only [go_sem, ↓reduceIte, Nat.reduceEqDiff, reduceCtorEq, Nat.reduceAdd, Nat.reduceSub, Nat.reduceLeDiff, Nat.reduceLT, Nat.reduceMul, Int.reduceToNat, Int.reduceLT, Int.reduceLE, show ((7 : Int) == 1) = false from rfl])
  refine CallK_do h3 ?_
  (try simp (implicitDefEqProofs := false) only [go_sem, ↓reduceIte, Nat.reduceEqDiff, reduceCtorEq, Nat.reduceAdd, Nat.reduceSub, Nat.reduceLeDiff, Nat.reduceLT, Nat.reduceMul, Int.reduceToNat, Int.reduceLT, Int.reduceLE, show ((2 : Int) == 2) = true from rfl])
  refine CallK_do h4 ?_
  (try simp (implicitDefEqProofs := false) only [go_sem, ↓reduceIte, Nat.reduceEqDiff, reduceCtorEq, Nat.reduceAdd, Nat.reduceSub, Nat.reduceLeDiff, Nat.reduceLT, Nat.reduceMul, Int.reduceToNat, Int.reduceLT, Int.reduceLE])
  refine CallK_do h3 ?_
  (try simp (implicitDefEqProofs := false) only [go_sem, ↓reduceIte, Nat.reduceEqDiff, reduceCtorEq, Nat.reduceAdd, Nat.reduceSub, Nat.reduceLeDiff, Nat.reduceLT, Nat.reduceMul, Int.reduceToNat, Int.reduceLT, Int.reduceLE, show ((2 : Int) == 2) = true from rfl])
  refine CallK_do h5 ?_
  (try simp (implicitDefEqProofs := false) only [go_sem, ↓reduceIte, Nat.reduceEqDiff, reduceCtorEq, Nat.reduceAdd, Nat.reduceSub, Nat.reduceLeDiff, Nat.reduceLT, Nat.reduceMul, Int.reduceToNat, Int.reduceLT, Int.reduceLE, show ((3 : Int) == 3) = true from rfl])
  refine CallK_do h6 ?_
  (try simp (implicitDefEqProofs := false) only [go_sem, ↓reduceIte, Nat.reduceEqDiff, reduceCtorEq, Nat.reduceAdd, Nat.reduceSub, Nat.reduceLeDiff, Nat.reduceLT, Nat.reduceMul, Int.reduceToNat, Int.reduceLT, Int.reduceLE, hli, hlj])
  refine CallK_do h ?_
  (try simp (implicitDefEqProofs := false) only [go_sem, ↓reduceIte, Nat.reduceEqDiff, reduceCtorEq, Nat.reduceAdd, Nat.reduceSub, Nat.reduceLeDiff, Nat.reduceLT, Nat.reduceMul, Int.reduceToNat, Int.reduceLT, Int.reduceLE])

theorem th_inn_ne {i j : Cn} {e e' : Ty × Ty} (g g' : Ty) (p : Int) (n : Bool) (hi : i.kd ≠ 3) (hg : g.k ≠ g'.k) (he : EnD (part 7 i (inC g)) e) (he' : EnD (part 7 (outC g' p n) j) e') :
    ThD (part 7 i (inC g)) (part 7 (outC g' p n) j) (failC e.1 e'.2 p n) := by
  have h1 := munk (part 7 i (inC g))
  rw [isU_part _ _ _ (by omega)] at h1
  have h2 := mout_yes i (inC g)
  rw [show (i.kd == 3) = false from by simpa using hi] at h2
  have h3 := min_yes i (inC g)
  rw [show (inC g).kd = 2 from rfl] at h3
  have h4 := munk (part 7 (outC g' p n) j)
  rw [isU_part _ _ _ (by omega)] at h4
  have h5 := mout_yes (outC g' p n) j
  rw [show (outC g' p n).kd = 3 from rfl] at h5
  have h6 := msame_does (inC g) (outC g' p n) false (by simp [inC, outC, hg])
  have h7 := mfail_does he he' (f := outC g' p n) (failC e.1 e'.2 p n) rfl
  unfold ThD
  simp only [part_cells, inC_cells, outC_cells] at h1 h2 h3 h4 h5 h6 h7 ⊢
  refine does67 (by rfl) (by rfl) ?_
  (try simp (implicitDefEqProofs := false) only [go_sem, ↓reduceIte, Nat.reduceEqDiff, reduceCtorEq, Nat.reduceAdd, Nat.reduceSub, Nat.reduceLeDiff, Nat.reduceLT, Nat.reduceMul, Int.reduceToNat, Int.reduceLT, Int.reduceLE])
  refine CallK_do h1 ?_
  (try simp (implicitDefEqProofs := false) only [go_sem, ↓reduceIte, Nat.reduceEqDiff, reduceCtorEq, Nat.reduceAdd, Nat.reduceSub, Nat.reduceLeDiff, Nat.reduceLT, Nat.reduceMul, Int.reduceToNat, Int.reduceLT, Int.reduceLE])
  refine CallK_do h2 ?_
  (try simp (implicitDefEqProofs := false) only [go_sem, ↓reduceIte, Nat.reduceEqDiff, reduceCtorEq, Nat.reduceAdd, Nat.reduceSub, Nat.reduceLeDiff, Nat.reduceLT, Nat.reduceMul, Int.reduceToNat, Int.reduceLT, Int.reduceLE, show ((7 : Int) == 1) = false from rfl])
  refine CallK_do h3 ?_
  (try simp (implicitDefEqProofs := false) only [go_sem, ↓reduceIte, Nat.reduceEqDiff, reduceCtorEq, Nat.reduceAdd, Nat.reduceSub, Nat.reduceLeDiff, Nat.reduceLT, Nat.reduceMul, Int.reduceToNat, Int.reduceLT, Int.reduceLE, show ((2 : Int) == 2) = true from rfl])
  refine CallK_do h4 ?_
  (try simp (implicitDefEqProofs := false) only [go_sem, ↓reduceIte, Nat.reduceEqDiff, reduceCtorEq, Nat.reduceAdd, Nat.reduceSub, Nat.reduceLeDiff, Nat.reduceLT, Nat.reduceMul, Int.reduceToNat, Int.reduceLT, Int.reduceLE])
  refine CallK_do h3 ?_
  (try simp (implicitDefEqProofs := false) only [go_sem, ↓reduceIte, Nat.reduceEqDiff, reduceCtorEq, Nat.reduceAdd, Nat.reduceSub, Nat.reduceLeDiff, Nat.reduceLT, Nat.reduceMul, Int.reduceToNat, Int.reduceLT, Int.reduceLE, show ((2 : Int) == 2) = true from rfl])
  refine CallK_do h5 ?_
  (try simp (implicitDefEqProofs := false) only [go_sem, ↓reduceIte, Nat.reduceEqDiff, reduceCtorEq, Nat.reduceAdd, Nat.reduceSub, Nat.reduceLeDiff, Nat.reduceLT, Nat.reduceMul, Int.reduceToNat, Int.reduceLT, Int.reduceLE, show ((3 : Int) == 3) = true from rfl])
  refine CallK_do h6 ?_
  (try simp (implicitDefEqProofs := false) only [go_sem, ↓reduceIte, Nat.reduceEqDiff, reduceCtorEq, Nat.reduceAdd, Nat.reduceSub, Nat.reduceLeDiff, Nat.reduceLT, Nat.reduceMul, Int.reduceToNat, Int.reduceLT, Int.reduceLE])
  refine CallK_do h7 ?_
  (try simp (implicitDefEqProofs := false) only [go_sem, ↓reduceIte, Nat.reduceEqDiff, reduceCtorEq, Nat.reduceAdd, Nat.reduceSub, Nat.reduceLeDiff, Nat.reduceLT, Nat.reduceMul, Int.reduceToNat, Int.reduceLT, Int.reduceLE])

/-- a middle one: neither unknown, nor a failure, nor of two in a row -/
def Cn.isM : Cn → Bool
  | .mk k ty _ _ _ _ => (k == 0 && ty.k != 0) || k == 4 || k == 5 || k == 6
theorem isM_spec {c : Cn} (h : c.isM = true) : c.isU = false ∧ c.kd ≠ 7 ∧ c.kd ≠ 1 ∧ c.kd ≠ 3 := by
  obtain ⟨k, ty, to, lab, neg, ks⟩ := c
  simp only [Cn.isM, Bool.or_eq_true, Bool.and_eq_true, beq_iff_eq, bne_iff_ne, ne_eq] at h
  refine ⟨?_, ?_, ?_, ?_⟩
  · simp only [Cn.isU, Bool.and_eq_false_iff, beq_eq_false_iff_ne]
    rcases h with ((⟨rfl, h⟩ | rfl) | rfl) | rfl
    · exact .inr h
    all_goals exact .inl (by omega)
  all_goals simp only [Cn.kd]; omega

theorem th_mid_fail {a : Cn} {e : Ty × Ty} (A B : Ty) (p : Int) (n : Bool) (ha : a.isM = true) (he : EnD a e) : ThD a (failC A B p n) (failC e.1 B p n) := by
  obtain ⟨m1, m2, m3, m4⟩ := isM_spec ha
  have h1 := munk a
  rw [m1] at h1
  have h2 := mout_no m2
  have h3 := min_no m2
  have h7 := mfail_does he (en_fail A B p n []) (f := failC A B p n) (failC e.1 B p n) rfl
  have e0 : (Cn.mk 1 A B p n []).cells = (failC A B p n).cells := rfl
  rw [e0] at h7
  obtain ⟨k, ty, to, lab, neg, ks⟩ := a
  unfold ThD
  simp only [failC_cells] at h7 ⊢
  simp only [Cn.cells] at h1 h2 h3 h7 ⊢
  refine does67 (by rfl) (by rfl) ?_
  (try simp (implicitDefEqProofs := false) only [go_sem, ↓reduceIte, Nat.reduceEqDiff, reduceCtorEq, Nat.reduceAdd, Nat.reduceSub, Nat.reduceLeDiff, Nat.reduceLT, Nat.reduceMul, Int.reduceToNat, Int.reduceLT, Int.reduceLE])
  refine CallK_do h1 ?_
  (try simp (implicitDefEqProofs := false) only [go_sem, ↓reduceIte, Nat.reduceEqDiff, reduceCtorEq, Nat.reduceAdd, Nat.reduceSub, Nat.reduceLeDiff, Nat.reduceLT, Nat.reduceMul, Int.reduceToNat, Int.reduceLT, Int.reduceLE])
  refine CallK_do h2 ?_
  (try simp (implicitDefEqProofs := false) only [go_sem, ↓reduceIte, Nat.reduceEqDiff, reduceCtorEq, Nat.reduceAdd, Nat.reduceSub, Nat.reduceLeDiff, Nat.reduceLT, Nat.reduceMul, Int.reduceToNat, Int.reduceLT, Int.reduceLE, show (k == 1) = false from by simpa [Cn.kd] using m3])
  refine CallK_do h3 ?_
  (try simp (implicitDefEqProofs := false) only [go_sem, ↓reduceIte, Nat.reduceEqDiff, reduceCtorEq, Nat.reduceAdd, Nat.reduceSub, Nat.reduceLeDiff, Nat.reduceLT, Nat.reduceMul, Int.reduceToNat, Int.reduceLT, Int.reduceLE])
  refine CallK_do h3 ?_
  (try simp (implicitDefEqProofs := false) only [go_sem, ↓reduceIte, Nat.reduceEqDiff, reduceCtorEq, Nat.reduceAdd, Nat.reduceSub, Nat.reduceLeDiff, Nat.reduceLT, Nat.reduceMul, Int.reduceToNat, Int.reduceLT, Int.reduceLE, show ((1 : Int) == 1) = true from rfl])
  refine CallK_do h7 ?_
  (try simp (implicitDefEqProofs := false) only [go_sem, ↓reduceIte, Nat.reduceEqDiff, reduceCtorEq, Nat.reduceAdd, Nat.reduceSub, Nat.reduceLeDiff, Nat.reduceLT, Nat.reduceMul, Int.reduceToNat, Int.reduceLT, Int.reduceLE])

theorem th_mid_inn {a i c : Cn} (g : Ty) (ha : a.isM = true) (h : ThD a i c) : ThD a (part 7 i (inC g)) (part 7 c (inC g)) := by
  obtain ⟨m1, m2, m3, m4⟩ := isM_spec ha
  have h1 := munk a
  rw [m1] at h1
  have h2 := mout_no m2
  have h3 := min_no m2
  have h4 := min_yes i (inC g)
  rw [show (inC g).kd = 2 from rfl] at h4
  have h5 := mseq_does c (inC g)
  have hli := Cn.cells_len i
  obtain ⟨k, ty, to, lab, neg, ks⟩ := a
  obtain ⟨k2, ty2, to2, lab2, neg2, ks2⟩ := c
  unfold ThD at h ⊢
  simp only [part_cells, inC_cells] at h4 h5 ⊢
  simp only [Cn.cells] at h h1 h2 h3 h5 ⊢
  refine does67 (by rfl) (by rfl) ?_
  (try simp (implicitDefEqProofs := false) only [go_sem, ↓reduceIte, Nat.reduceEqDiff, reduceCtorEq, Nat.reduceAdd, Nat.reduceSub, Nat.reduceLeDiff, Nat.reduceLT, Nat.reduceMul, Int.reduceToNat, Int.reduceLT, Int.reduceLE])
  refine CallK_do h1 ?_
  (try simp (implicitDefEqProofs := false) only [go_sem, ↓reduceIte, Nat.reduceEqDiff, reduceCtorEq, Nat.reduceAdd, Nat.reduceSub, Nat.reduceLeDiff, Nat.reduceLT, Nat.reduceMul, Int.reduceToNat, Int.reduceLT, Int.reduceLE])
  refine CallK_do h2 ?_
  (try simp (implicitDefEqProofs := false) only [go_sem, ↓reduceIte, Nat.reduceEqDiff, reduceCtorEq, Nat.reduceAdd, Nat.reduceSub, Nat.reduceLeDiff, Nat.reduceLT, Nat.reduceMul, Int.reduceToNat, Int.reduceLT, Int.reduceLE, show (k == 1) = false from by simpa [Cn.kd] using m3])
  refine CallK_do h3 ?_
  (try simp (implicitDefEqProofs := false) only [go_sem, ↓reduceIte, Nat.reduceEqDiff, reduceCtorEq, Nat.reduceAdd, Nat.reduceSub, Nat.reduceLeDiff, Nat.reduceLT, Nat.reduceMul, Int.reduceToNat, Int.reduceLT, Int.reduceLE])
  refine CallK_do h3 ?_
  (try simp (implicitDefEqProofs := false) only [go_sem, ↓reduceIte, Nat.reduceEqDiff, reduceCtorEq, Nat.reduceAdd, Nat.reduceSub, Nat.reduceLeDiff, Nat.reduceLT, Nat.reduceMul, Int.reduceToNat, Int.reduceLT, Int.reduceLE, show ((7 : Int) == 1) = false from rfl])
  refine CallK_do h4 ?_
  (try simp (implicitDefEqProofs := false) only [go_sem, ↓reduceIte, Nat.reduceEqDiff, reduceCtorEq, Nat.reduceAdd, Nat.reduceSub, Nat.reduceLeDiff, Nat.reduceLT, Nat.reduceMul, Int.reduceToNat, Int.reduceLT, Int.reduceLE, show ((2 : Int) == 2) = true from rfl, hli])
  refine CallK_do h ?_
  (try simp (implicitDefEqProofs := false) only [go_sem, ↓reduceIte, Nat.reduceEqDiff, reduceCtorEq, Nat.reduceAdd, Nat.reduceSub, Nat.reduceLeDiff, Nat.reduceLT, Nat.reduceMul, Int.reduceToNat, Int.reduceLT, Int.reduceLE])
  refine CallK_do h5 ?_
  (try simp (implicitDefEqProofs := false) only [go_sem, ↓reduceIte, Nat.reduceEqDiff, reduceCtorEq, Nat.reduceAdd, Nat.reduceSub, Nat.reduceLeDiff, Nat.reduceLT, Nat.reduceMul, Int.reduceToNat, Int.reduceLT, Int.reduceLE])

theorem th_two {k : Int} {x y u v c d : Cn} (hk : k = 4 ∨ k = 5 ∨ k = 6) (h : if k = 4 then ThD u x c else ThD x u c) (h' : ThD y v d) : ThD (part k x y) (part k u v) (part k c d) := by
  have hM : (part k x y).isM = true := by rcases hk with rfl | rfl | rfl <;> rfl
  have hM2 : (part k u v).isM = true := by rcases hk with rfl | rfl | rfl <;> rfl
  obtain ⟨m1, m2, m3, m4⟩ := isM_spec hM
  obtain ⟨n1, n2, n3, n4⟩ := isM_spec hM2
  have h1 := munk (part k x y)
  rw [m1] at h1
  have h2 := mout_no m2
  have h3 := min_no m2
  have h4 := min_no n2
  have hlx := Cn.cells_len x
  have hly := Cn.cells_len y
  have hlu := Cn.cells_len u
  have hlv := Cn.cells_len v
  obtain ⟨k1, ty1, to1, lab1, neg1, ks1⟩ := c
  obtain ⟨k2, ty2, to2, lab2, neg2, ks2⟩ := d
  have k0 : (k == 0) = false := by simp; omega
  have k1 : (k == 1) = false := by simp; omega
  unfold ThD at h h' ⊢
  simp only [part_cells] at h1 h2 h3 h4 ⊢
  simp only [Cn.cells] at h h' ⊢
  rcases hk with rfl | hk
  · simp only [if_true] at h
    refine does67 (by rfl) (by rfl) ?_
    (try simp (implicitDefEqProofs := false) only [go_sem, ↓reduceIte, Nat.reduceEqDiff, reduceCtorEq, Nat.reduceAdd, Nat.reduceSub, Nat.reduceLeDiff, Nat.reduceLT, Nat.reduceMul, Int.reduceToNat, Int.reduceLT, Int.reduceLE])
    refine CallK_do h1 ?_
    (try simp (implicitDefEqProofs := false) only [go_sem, ↓reduceIte, Nat.reduceEqDiff, reduceCtorEq, Nat.reduceAdd, Nat.reduceSub, Nat.reduceLeDiff, Nat.reduceLT, Nat.reduceMul, Int.reduceToNat, Int.reduceLT, Int.reduceLE])
    refine CallK_do h2 ?_
    (try simp (implicitDefEqProofs := false) only [go_sem, ↓reduceIte, Nat.reduceEqDiff, reduceCtorEq, Nat.reduceAdd, Nat.reduceSub, Nat.reduceLeDiff, Nat.reduceLT, Nat.reduceMul, Int.reduceToNat, Int.reduceLT, Int.reduceLE, k1])
    refine CallK_do h3 ?_
    (try simp (implicitDefEqProofs := false) only [go_sem, ↓reduceIte, Nat.reduceEqDiff, reduceCtorEq, Nat.reduceAdd, Nat.reduceSub, Nat.reduceLeDiff, Nat.reduceLT, Nat.reduceMul, Int.reduceToNat, Int.reduceLT, Int.reduceLE])
    refine CallK_do h3 ?_
    (try simp (implicitDefEqProofs := false) only [go_sem, ↓reduceIte, Nat.reduceEqDiff, reduceCtorEq, Nat.reduceAdd, Nat.reduceSub, Nat.reduceLeDiff, Nat.reduceLT, Nat.reduceMul, Int.reduceToNat, Int.reduceLT, Int.reduceLE, k1])
    refine CallK_do h4 ?_
    (try simp (implicitDefEqProofs := false) only [go_sem, ↓reduceIte, Nat.reduceEqDiff, reduceCtorEq, Nat.reduceAdd, Nat.reduceSub, Nat.reduceLeDiff, Nat.reduceLT, Nat.reduceMul, Int.reduceToNat, Int.reduceLT, Int.reduceLE, k0, show ((4 : Int) == 4) = true from rfl, hlx, hly, hlu, hlv])
    refine CallK_do h ?_
    (try simp (implicitDefEqProofs := false) only [go_sem, ↓reduceIte, Nat.reduceEqDiff, reduceCtorEq, Nat.reduceAdd, Nat.reduceSub, Nat.reduceLeDiff, Nat.reduceLT, Nat.reduceMul, Int.reduceToNat, Int.reduceLT, Int.reduceLE, hlx, hly, hlu, hlv])
    refine CallK_do h' ?_
    (try simp (implicitDefEqProofs := false) only [go_sem, ↓reduceIte, Nat.reduceEqDiff, reduceCtorEq, Nat.reduceAdd, Nat.reduceSub, Nat.reduceLeDiff, Nat.reduceLT, Nat.reduceMul, Int.reduceToNat, Int.reduceLT, Int.reduceLE])
  · rw [if_neg (by omega)] at h
    refine does67 (by rfl) (by rfl) ?_
    (try simp (implicitDefEqProofs := false) only [go_sem, ↓reduceIte, Nat.reduceEqDiff, reduceCtorEq, Nat.reduceAdd, Nat.reduceSub, Nat.reduceLeDiff, Nat.reduceLT, Nat.reduceMul, Int.reduceToNat, Int.reduceLT, Int.reduceLE])
    refine CallK_do h1 ?_
    (try simp (implicitDefEqProofs := false) only [go_sem, ↓reduceIte, Nat.reduceEqDiff, reduceCtorEq, Nat.reduceAdd, Nat.reduceSub, Nat.reduceLeDiff, Nat.reduceLT, Nat.reduceMul, Int.reduceToNat, Int.reduceLT, Int.reduceLE])
    refine CallK_do h2 ?_
    (try simp (implicitDefEqProofs := false) only [go_sem, ↓reduceIte, Nat.reduceEqDiff, reduceCtorEq, Nat.reduceAdd, Nat.reduceSub, Nat.reduceLeDiff, Nat.reduceLT, Nat.reduceMul, Int.reduceToNat, Int.reduceLT, Int.reduceLE, k1])
    refine CallK_do h3 ?_
    (try simp (implicitDefEqProofs := false) only [go_sem, ↓reduceIte, Nat.reduceEqDiff, reduceCtorEq, Nat.reduceAdd, Nat.reduceSub, Nat.reduceLeDiff, Nat.reduceLT, Nat.reduceMul, Int.reduceToNat, Int.reduceLT, Int.reduceLE])
    refine CallK_do h3 ?_
    (try simp (implicitDefEqProofs := false) only [go_sem, ↓reduceIte, Nat.reduceEqDiff, reduceCtorEq, Nat.reduceAdd, Nat.reduceSub, Nat.reduceLeDiff, Nat.reduceLT, Nat.reduceMul, Int.reduceToNat, Int.reduceLT, Int.reduceLE, k1])
    refine CallK_do h4 ?_
    (try simp (implicitDefEqProofs := false) only [go_sem, ↓reduceIte, Nat.reduceEqDiff, reduceCtorEq, Nat.reduceAdd, Nat.reduceSub, Nat.reduceLeDiff, Nat.reduceLT, Nat.reduceMul, Int.reduceToNat, Int.reduceLT, Int.reduceLE, k0, show (k == 4) = false from by simp; omega, hlx, hly, hlu, hlv])
    refine CallK_do h ?_
    (try simp (implicitDefEqProofs := false) only [go_sem, ↓reduceIte, Nat.reduceEqDiff, reduceCtorEq, Nat.reduceAdd, Nat.reduceSub, Nat.reduceLeDiff, Nat.reduceLT, Nat.reduceMul, Int.reduceToNat, Int.reduceLT, Int.reduceLE, hlx, hly, hlu, hlv])
    refine CallK_do h' ?_
    (try simp (implicitDefEqProofs := false) only [go_sem, ↓reduceIte, Nat.reduceEqDiff, reduceCtorEq, Nat.reduceAdd, Nat.reduceSub, Nat.reduceLeDiff, Nat.reduceLT, Nat.reduceMul, Int.reduceToNat, Int.reduceLT, Int.reduceLE])

theorem th_base {k k' : Int} (hk : k ≠ 0) (hk' : k' ≠ 0) : ThD (.mk 0 (.mk k []) .un 0 false []) (.mk 0 (.mk k' []) .un 0 false []) (.mk 0 (.mk k []) .un 0 false []) := by
  have hM : (Cn.mk 0 (.mk k []) .un 0 false []).isM = true := by simp [Cn.isM, Ty.k, hk]
  have hM2 : (Cn.mk 0 (.mk k' []) .un 0 false []).isM = true := by simp [Cn.isM, Ty.k, hk']
  obtain ⟨m1, m2, m3, m4⟩ := isM_spec hM
  obtain ⟨n1, n2, n3, n4⟩ := isM_spec hM2
  have h1 := munk (.mk 0 (.mk k []) .un 0 false [])
  rw [m1] at h1
  have h2 := mout_no m2
  have h3 := min_no m2
  have h4 := min_no n2
  unfold ThD
  simp only [Cn.cells] at h1 h2 h3 h4 ⊢
  refine does67 (by rfl) (by rfl) ?_
  (try simp (implicitDefEqProofs := false) only [go_sem, ↓reduceIte, Nat.reduceEqDiff, reduceCtorEq, Nat.reduceAdd, Nat.reduceSub, Nat.reduceLeDiff, Nat.reduceLT, Nat.reduceMul, Int.reduceToNat, Int.reduceLT, Int.reduceLE])
  refine CallK_do h1 ?_
  (try simp (implicitDefEqProofs := false) only [go_sem, ↓reduceIte, Nat.reduceEqDiff, reduceCtorEq, Nat.reduceAdd, Nat.reduceSub, Nat.reduceLeDiff, Nat.reduceLT, Nat.reduceMul, Int.reduceToNat, Int.reduceLT, Int.reduceLE])
  refine CallK_do h2 ?_
  (try simp (implicitDefEqProofs := false) only [go_sem, ↓reduceIte, Nat.reduceEqDiff, reduceCtorEq, Nat.reduceAdd, Nat.reduceSub, Nat.reduceLeDiff, Nat.reduceLT, Nat.reduceMul, Int.reduceToNat, Int.reduceLT, Int.reduceLE, show ((0 : Int) == 1) = false from rfl])
  refine CallK_do h3 ?_
  (try simp (implicitDefEqProofs := false) only [go_sem, ↓reduceIte, Nat.reduceEqDiff, reduceCtorEq, Nat.reduceAdd, Nat.reduceSub, Nat.reduceLeDiff, Nat.reduceLT, Nat.reduceMul, Int.reduceToNat, Int.reduceLT, Int.reduceLE])
  refine CallK_do h3 ?_
  (try simp (implicitDefEqProofs := false) only [go_sem, ↓reduceIte, Nat.reduceEqDiff, reduceCtorEq, Nat.reduceAdd, Nat.reduceSub, Nat.reduceLeDiff, Nat.reduceLT, Nat.reduceMul, Int.reduceToNat, Int.reduceLT, Int.reduceLE, show ((0 : Int) == 1) = false from rfl])
  refine CallK_do h4 ?_
  (try simp (implicitDefEqProofs := false) only [go_sem, ↓reduceIte, Nat.reduceEqDiff, reduceCtorEq, Nat.reduceAdd, Nat.reduceSub, Nat.reduceLeDiff, Nat.reduceLT, Nat.reduceMul, Int.reduceToNat, Int.reduceLT, Int.reduceLE, show ((0 : Int) == 0) = true from rfl])

theorem mid_isM {a : Nf} {l : Nat} (h : a.wf l) (hm : a.mid = true) : a.cn.isM = true := by
  cases a <;> simp [Nf.mid] at hm <;> simp only [Nf.wf] at h
  · simp only [Nf.cn, Cn.isM, Ty.k]; rcases h with rfl | rfl <;> rfl
  · simp only [Nf.cn, Cn.isM, part]; rcases h.1 with rfl | rfl | rfl <;> rfl

/-- merging, as the program does it -/
theorem then_does : ∀ (N : Nat) (a b : Nf), a.sz + b.sz ≤ N → a.wf 2 → b.wf 2 → a.en.2 = b.en.1 → ThD a.cn b.cn (join a b).cn := by
  intro N
  induction N with
  | zero => intro a b hN; have := a.sz_pos; omega
  | succ N ih =>
    intro a b hN ha hb he
    have mid : a.mid = true → ThD a.cn b.cn (join a b).cn := by
      intro hm
      have hM := mid_isM ha hm
      rcases Nf.meets ha hb hm he with ⟨A, B, p, n, rfl⟩ | ⟨i, g, rfl⟩ | ⟨k, rfl, rfl⟩ | ⟨k, x, y, u, v, rfl, rfl⟩
      · rw [join_mid_fail hm]
        exact th_mid_fail A B p n hM (en_does a 2 ha)
      · rw [join_mid_inn hm]
        simp only [Nf.wf] at hb
        exact th_mid_inn (gty g) hM (ih a i (by simp only [Nf.sz] at hN; omega) ha (Nf.wf_up hb.2.2.1 (by omega) (by omega)) he)
      · rw [join_base]
        simp only [Nf.wf] at ha
        exact th_base (by omega) (by omega)
      · simp only [Nf.wf] at ha hb
        have hN2 : x.sz + y.sz + u.sz + v.sz + 2 ≤ N + 1 := by simp only [Nf.sz] at hN; omega
        by_cases h3 : k = 3
        · subst h3
          rw [join_fn]
          simp only [Nf.en_fn, Ty.mk.injEq, List.cons.injEq, and_true, true_and] at he
          exact th_two (k := 4) (by omega) (by rw [if_pos rfl]; exact ih u x (by omega) hb.2.1 ha.2.1 he.1.symm) (ih y v (by omega) ha.2.2 hb.2.2 he.2)
        · rw [join_two h3]
          simp only [Nf.en_two h3, Ty.mk.injEq, List.cons.injEq, and_true, true_and] at he
          exact th_two (k := k + 1) (by omega) (by rw [if_neg (by omega)]; exact ih x u (by omega) ha.2.1 hb.2.1 he.1) (ih y v (by omega) ha.2.2 hb.2.2 he.2)
    cases a with
    | un => rw [join_un]; exact th_un b.cn
    | out g p n i =>
      simp only [Nf.wf] at ha
      rw [join_out]
      exact th_out (gty g) p n (ih i b (by simp only [Nf.sz] at hN; omega) (Nf.wf_up ha.2.2.2.1 (by omega) (by omega)) hb he)
    | fail A B p n => rw [join_fail]; exact th_fail A B p n (en_does b 2 hb)
    | inn i g =>
      have ha' := ha
      simp only [Nf.wf] at ha
      have hi : i.cn.kd ≠ 3 := (isM_spec (mid_isM ha.2.2.1 (Nf.wf0 ha.2.2.1))).2.2.2
      rcases Nf.out_k hb (by rw [← he]; rfl) with rfl | ⟨h, p, n, j, rfl⟩
      · rw [join_inn_un]; exact th_inn_un i.cn (gty g) hi
      · have hb' := hb
        simp only [Nf.wf] at hb
        by_cases hgh : g = h
        · subst hgh
          rw [join_inn_eq]
          exact th_inn_eq (gty g) (gty g) p n hi rfl (ih i j (by simp only [Nf.sz] at hN; omega) (Nf.wf_up ha.2.2.1 (by omega) (by omega)) (Nf.wf_up hb.2.2.2.1 (by omega) (by omega)) (by rw [ha.2.2.2, hb.2.2.2.2]))
        · rw [join_inn_ne _ _ _ _ _ _ hgh]
          exact th_inn_ne (e := (Nf.inn i g).en) (e' := (Nf.out h p n j).en) (gty g) (gty h) p n hi (by rw [gty_k, gty_k]; exact hgh) (en_does _ 2 ha') (en_does _ 2 hb')
    | base k => exact mid rfl
    | two k x y => exact mid rfl
end Go.Proofs.Ytopgmopdjiahmaa.Lg

/- Normal forms: cleaning, copying, staying at a type. Conditions: none; plain lemmas. -/
set_option linter.unusedVariables false
set_option linter.unusedSimpArgs false
set_option maxRecDepth 100000
set_option maxHeartbeats 2000000
namespace Go.Proofs.Ytopgmopdjiahmaa.Lg
open Go Go.RowKit Go.Proofs

theorem Ty.k_mk (k : Int) (ts : List Ty) : (Ty.mk k ts).k = k := rfl
theorem Ty.ts_mk (k : Int) (ts : List Ty) : (Ty.mk k ts).ts = ts := rfl
theorem id_does : ∀ t : Ty, t.right = true → Does Try.prog 83 [.imm false (.agg t.cells)] [] (.ret false (.agg t.idn.cn.cells)) [] := by
  refine Ty.ind fun k ts ih hr => ?_
  rcases right_shape hr with ⟨rfl, hk⟩ | ⟨a, b, rfl, hk, ha, hb⟩
  · refine does83 (by rfl) (by rfl) ?_
    (try simp (implicitDefEqProofs := false) only [go_sem, ↓reduceIte, Nat.reduceEqDiff, reduceCtorEq, Nat.reduceAdd, Nat.reduceSub, Nat.reduceLeDiff, Nat.reduceLT, Nat.reduceMul, Int.reduceToNat, Int.reduceLT, Int.reduceLE, Ty.cells, Ty.cellsL, show ((0 : Int) == 0) = true from rfl, ncast0])
    rcases hk with rfl | rfl | rfl <;> simp [Ty.idn, Ty.idnL, idnK, Nf.cn, Cn.cells, Cn.cellsL, Ty.un, Ty.k, Ty.ts, Ty.cellsL]
  · have h1 := ih a (by simp) ha
    have h2 := ih b (by simp) hb
    rw [idn_two]
    have hkk : partsF k = 2 := by unfold partsF; rw [if_neg (by omega), if_pos hk]
    simp only [Nf.cn, part_cells]
    generalize a.idn.cn = c at h1
    generalize b.idn.cn = d at h2
    obtain ⟨k1, ty1, to1, lab1, neg1, ks1⟩ := c
    obtain ⟨k2, ty2, to2, lab2, neg2, ks2⟩ := d
    simp only [Ty.cells_eq, Cn.cells] at h1 h2 ⊢
    refine does83 (by rfl) (by rfl) ?_
    rcases hk with rfl | rfl | rfl
    all_goals
      (try simp (implicitDefEqProofs := false) only [go_sem, ↓reduceIte, Nat.reduceEqDiff, reduceCtorEq, Nat.reduceAdd, Nat.reduceSub, Nat.reduceLeDiff, Nat.reduceLT, Nat.reduceMul, Int.reduceToNat, Int.reduceLT, Int.reduceLE, Ty.ts_mk, Ty.k_mk, Ty.cellsL, show ((2 : Int) == 0) = false from rfl, ncast2, Ty.cells_eq, show (3 : Int).toNat = 3 from rfl, show (4 : Int).toNat = 4 from rfl, show (5 : Int).toNat = 5 from rfl])
      refine CallK_do h1 ?_
      (try simp (implicitDefEqProofs := false) only [go_sem, ↓reduceIte, Nat.reduceEqDiff, reduceCtorEq, Nat.reduceAdd, Nat.reduceSub, Nat.reduceLeDiff, Nat.reduceLT, Nat.reduceMul, Int.reduceToNat, Int.reduceLT, Int.reduceLE, Ty.ts_mk, Ty.k_mk, Ty.cellsL, Ty.cells_eq])
      refine CallK_do h2 ?_
      (try simp (implicitDefEqProofs := false) only [go_sem, ↓reduceIte, Nat.reduceEqDiff, reduceCtorEq, Nat.reduceAdd, Nat.reduceSub, Nat.reduceLeDiff, Nat.reduceLT, Nat.reduceMul, Int.reduceToNat, Int.reduceLT, Int.reduceLE, show (3 : Int) + 1 = 4 from rfl, show (4 : Int) + 1 = 5 from rfl, show (5 : Int) + 1 = 6 from rfl])

/-! ### copies -/
theorem kind_does : ∀ t : Ty, t.right = true → ∀ (cs : List IV) (off : Nat), cs[off]? = some (.int .i8 t.k) → cs[off + 1]? = some (.slice (Ty.cellsL t.ts)) → Does Try.prog 111 [.imm false (.ptr cs off)] [] (.ret true (.agg t.cells)) [] := by
  refine Ty.ind fun k ts ih hr cs off hc0 hc1 => ?_
  simp only [Ty.k] at hc0
  simp only [Ty.ts] at hc1
  have hc0' : cs[off + 0]? = some (.int .i8 k) := hc0
  rcases right_shape hr with ⟨rfl, _⟩ | ⟨a, b, rfl, _, ha, hb⟩
  · simp only [Ty.cellsL] at hc1
    refine does111 (by rfl) (by rfl) ?_
    (try simp (implicitDefEqProofs := false) only [go_sem, ↓reduceIte, Nat.reduceEqDiff, reduceCtorEq, Nat.reduceAdd, Nat.reduceSub, Nat.reduceLeDiff, Nat.reduceLT, Nat.reduceMul, Int.reduceToNat, Int.reduceLT, Int.reduceLE, hc0, hc0', hc1, Ty.cellsL, ncast0])
    refine ⟨fun n σ => n = 0 ∧ σ = ⟨[(0, .imm false (.ptr cs off)), (2, .loc (.own 2) 0), (3, .loc (.own 3) 0), (14, .imm true (.int .i64 0)), (15, .imm true (.int .i64 0))], [(.own 2, .var [.imm true (.int .i8 0), .nils]), (.own 3, .var [.imm false (.int .i8 k), .nils])], []⟩, ⟨_, rfl, rfl⟩, ?_⟩
    rintro n σ ⟨rfl, rfl⟩
    unfold l111_0
    (try simp (implicitDefEqProofs := false) only [go_sem, ↓reduceIte, Nat.reduceEqDiff, reduceCtorEq, Nat.reduceAdd, Nat.reduceSub, Nat.reduceLeDiff, Nat.reduceLT, Nat.reduceMul, Int.reduceToNat, Int.reduceLT, Int.reduceLE, Ty.cells, Ty.cellsL, show decide ((0 : Int) < 0) = false from rfl])
  · have h1 := ih a (by simp) ha a.cells 0 (by simp [Ty.cells_eq]) (by simp [Ty.cells_eq])
    have h2 := ih b (by simp) hb b.cells 0 (by simp [Ty.cells_eq]) (by simp [Ty.cells_eq])
    obtain ⟨ka, at1⟩ := a
    obtain ⟨kb, bt1⟩ := b
    simp only [Ty.cellsL, Ty.cells] at hc1
    refine does111 (by rfl) (by rfl) ?_
    (try simp (implicitDefEqProofs := false) only [go_sem, ↓reduceIte, Nat.reduceEqDiff, reduceCtorEq, Nat.reduceAdd, Nat.reduceSub, Nat.reduceLeDiff, Nat.reduceLT, Nat.reduceMul, Int.reduceToNat, Int.reduceLT, Int.reduceLE, hc0, hc0', hc1, Ty.cellsL, ncast2])
    let S : Int → List (Key × Box) → St := fun j r => ⟨[(0, .imm false (.ptr cs off)), (2, .loc (.own 2) 0), (3, .loc (.own 3) 0), (14, .imm true (.int .i64 2)), (15, .imm true (.int .i64 j))], (.own 2, .var [.imm true (.int .i8 0), .nils]) :: r, []⟩
    refine ⟨fun n σ => (n = 2 ∧ σ = S 0 [(.own 3, .var [.imm false (.int .i8 k), .nils])]) ∨ (n = 1 ∧ σ = S 1 [(.own 3, .var [.imm false (.int .i8 k), .row (.own 28) 1]), (.own 28, .row 25 2 [[.imm true (.int .i8 ka), .imm true (.slice (Ty.cellsL at1))]])]) ∨
      (n = 0 ∧ σ = S 2 [(.own 3, .var [.imm false (.int .i8 k), .row (.own 28) 2]), (.own 28, .row 25 2 [[.imm true (.int .i8 ka), .imm true (.slice (Ty.cellsL at1))], [.imm true (.int .i8 kb), .imm true (.slice (Ty.cellsL bt1))]])]), ⟨_, .inl ⟨rfl, rfl⟩⟩, ?_⟩
    rintro n σ (⟨rfl, rfl⟩ | ⟨rfl, rfl⟩ | ⟨rfl, rfl⟩)
    · unfold l111_0
      (try simp (implicitDefEqProofs := false) only [go_sem, ↓reduceIte, Nat.reduceEqDiff, reduceCtorEq, Nat.reduceAdd, Nat.reduceSub, Nat.reduceLeDiff, Nat.reduceLT, Nat.reduceMul, Int.reduceToNat, Int.reduceLT, Int.reduceLE, S, hc1, Ty.cells, Ty.cellsL, show decide ((0 : Int) < 2) = true from rfl])
      refine CallK_do h1 ?_
      (try simp (implicitDefEqProofs := false) only [go_sem, ↓reduceIte, Nat.reduceEqDiff, reduceCtorEq, Nat.reduceAdd, Nat.reduceSub, Nat.reduceLeDiff, Nat.reduceLT, Nat.reduceMul, Int.reduceToNat, Int.reduceLT, Int.reduceLE, Ty.cells, wrap01])
      exact ⟨1, by omega, by simp⟩
    · unfold l111_0
      (try simp (implicitDefEqProofs := false) only [go_sem, ↓reduceIte, Nat.reduceEqDiff, reduceCtorEq, Nat.reduceAdd, Nat.reduceSub, Nat.reduceLeDiff, Nat.reduceLT, Nat.reduceMul, Int.reduceToNat, Int.reduceLT, Int.reduceLE, S, hc1, Ty.cells, Ty.cellsL, show decide ((1 : Int) < 2) = true from rfl])
      refine CallK_do h2 ?_
      (try simp (implicitDefEqProofs := false) only [go_sem, ↓reduceIte, Nat.reduceEqDiff, reduceCtorEq, Nat.reduceAdd, Nat.reduceSub, Nat.reduceLeDiff, Nat.reduceLT, Nat.reduceMul, Int.reduceToNat, Int.reduceLT, Int.reduceLE, Ty.cells, wrap12])
      exact ⟨0, by omega, by simp⟩
    · unfold l111_0
      (try simp (implicitDefEqProofs := false) only [go_sem, ↓reduceIte, Nat.reduceEqDiff, reduceCtorEq, Nat.reduceAdd, Nat.reduceSub, Nat.reduceLeDiff, Nat.reduceLT, Nat.reduceMul, Int.reduceToNat, Int.reduceLT, Int.reduceLE, S, Ty.cells, Ty.cellsL, show decide ((2 : Int) < 2) = false from rfl])

def zero8 : Box := .var [.imm true (.int .i8 0), .imm true (.int .i8 0), .nils, .imm true (.int .i8 0), .nils, .imm true (.int .i64 0), .imm true (.bool false), .nils]
def CopyD (c : Cn) : Prop := Does Try.prog 82 [.imm false (.ptr c.cells 0)] [] (.ret true (.agg c.cells)) []
theorem copy_node {k : Int} {ty to : Ty} {lab : Int} {neg : Bool} {ks : List Cn} (h1 : ty.right = true) (h2 : to.right = true) (hk : ks = [] ∨ ∃ a b, ks = [a, b] ∧ CopyD a ∧ CopyD b) : CopyD (.mk k ty to lab neg ks) := by
  have t1 := kind_does ty h1 (Cn.mk k ty to lab neg ks).cells 1 (by simp [Cn.cells]) (by simp [Cn.cells])
  have t2 := kind_does to h2 (Cn.mk k ty to lab neg ks).cells 3 (by simp [Cn.cells]) (by simp [Cn.cells])
  let B3 : LV → Box := fun v => .var [.imm false (.int .i8 k), .imm true (.int .i8 ty.k), .imm true (.slice (Ty.cellsL ty.ts)), .imm true (.int .i8 to.k), .imm true (.slice (Ty.cellsL to.ts)), .imm false (.int .i64 lab), .imm false (.bool neg), v]
  unfold CopyD
  rcases hk with rfl | ⟨a, b, rfl, ha, hb⟩
  · simp only [Cn.cells, Cn.cellsL, Ty.cells_eq] at t1 t2 ⊢
    refine does82 (by rfl) (by rfl) ?_
    (try simp (implicitDefEqProofs := false) only [go_sem, ↓reduceIte, Nat.reduceEqDiff, reduceCtorEq, Nat.reduceAdd, Nat.reduceSub, Nat.reduceLeDiff, Nat.reduceLT, Nat.reduceMul, Int.reduceToNat, Int.reduceLT, Int.reduceLE])
    refine CallK_do t1 ?_
    (try simp (implicitDefEqProofs := false) only [go_sem, ↓reduceIte, Nat.reduceEqDiff, reduceCtorEq, Nat.reduceAdd, Nat.reduceSub, Nat.reduceLeDiff, Nat.reduceLT, Nat.reduceMul, Int.reduceToNat, Int.reduceLT, Int.reduceLE])
    refine CallK_do t2 ?_
    (try simp (implicitDefEqProofs := false) only [go_sem, ↓reduceIte, Nat.reduceEqDiff, reduceCtorEq, Nat.reduceAdd, Nat.reduceSub, Nat.reduceLeDiff, Nat.reduceLT, Nat.reduceMul, Int.reduceToNat, Int.reduceLT, Int.reduceLE, ncast0])
    refine ⟨fun n σ => n = 0 ∧ σ = ⟨[(0, .imm false (.ptr (Cn.mk k ty to lab neg []).cells 0)), (2, .loc (.own 2) 0), (3, .loc (.own 3) 0), (23, .imm true (.int .i64 0)), (24, .imm true (.int .i64 0))], [(.own 2, zero8), (.own 3, B3 .nils)], []⟩, ⟨_, rfl, by simp only [zero8, B3, Cn.cells, Cn.cellsL]⟩, ?_⟩
    rintro n σ ⟨rfl, rfl⟩
    unfold l82_0
    (try simp (implicitDefEqProofs := false) only [go_sem, ↓reduceIte, Nat.reduceEqDiff, reduceCtorEq, Nat.reduceAdd, Nat.reduceSub, Nat.reduceLeDiff, Nat.reduceLT, Nat.reduceMul, Int.reduceToNat, Int.reduceLT, Int.reduceLE, zero8, B3, show decide ((0 : Int) < 0) = false from rfl])
  · unfold CopyD at ha hb
    have hla := Cn.cells_len a
    have hlb := Cn.cells_len b
    obtain ⟨k1, ty1, to1, lab1, neg1, ks1⟩ := a
    obtain ⟨k2, ty2, to2, lab2, neg2, ks2⟩ := b
    simp only [Cn.cells, Cn.cellsL, Ty.cells_eq] at t1 t2 ha hb ⊢
    refine does82 (by rfl) (by rfl) ?_
    (try simp (implicitDefEqProofs := false) only [go_sem, ↓reduceIte, Nat.reduceEqDiff, reduceCtorEq, Nat.reduceAdd, Nat.reduceSub, Nat.reduceLeDiff, Nat.reduceLT, Nat.reduceMul, Int.reduceToNat, Int.reduceLT, Int.reduceLE])
    refine CallK_do t1 ?_
    (try simp (implicitDefEqProofs := false) only [go_sem, ↓reduceIte, Nat.reduceEqDiff, reduceCtorEq, Nat.reduceAdd, Nat.reduceSub, Nat.reduceLeDiff, Nat.reduceLT, Nat.reduceMul, Int.reduceToNat, Int.reduceLT, Int.reduceLE])
    refine CallK_do t2 ?_
    (try simp (implicitDefEqProofs := false) only [go_sem, ↓reduceIte, Nat.reduceEqDiff, reduceCtorEq, Nat.reduceAdd, Nat.reduceSub, Nat.reduceLeDiff, Nat.reduceLT, Nat.reduceMul, Int.reduceToNat, Int.reduceLT, Int.reduceLE, ncast2])
    let S : Int → LV → List (Key × Box) → St := fun j v r => ⟨[(0, .imm false (.ptr (Cn.mk k ty to lab neg [.mk k1 ty1 to1 lab1 neg1 ks1, .mk k2 ty2 to2 lab2 neg2 ks2]).cells 0)), (2, .loc (.own 2) 0), (3, .loc (.own 3) 0), (23, .imm true (.int .i64 2)), (24, .imm true (.int .i64 j))], (.own 2, zero8) :: (.own 3, B3 v) :: r, []⟩
    refine ⟨fun n σ => (n = 2 ∧ σ = S 0 .nils []) ∨ (n = 1 ∧ σ = S 1 (.row (.own 37) 1) [(.own 37, .row 28 8 [(Cn.mk k1 ty1 to1 lab1 neg1 ks1).cells.map (.imm true)])]) ∨
      (n = 0 ∧ σ = S 2 (.row (.own 37) 2) [(.own 37, .row 28 8 [(Cn.mk k1 ty1 to1 lab1 neg1 ks1).cells.map (.imm true), (Cn.mk k2 ty2 to2 lab2 neg2 ks2).cells.map (.imm true)])]), ⟨_, .inl ⟨rfl, by simp only [S, zero8, B3, Cn.cells, Cn.cellsL]⟩⟩, ?_⟩
    rintro n σ (⟨rfl, rfl⟩ | ⟨rfl, rfl⟩ | ⟨rfl, rfl⟩)
    · unfold l82_0
      (try simp (implicitDefEqProofs := false) only [go_sem, ↓reduceIte, Nat.reduceEqDiff, reduceCtorEq, Nat.reduceAdd, Nat.reduceSub, Nat.reduceLeDiff, Nat.reduceLT, Nat.reduceMul, Int.reduceToNat, Int.reduceLT, Int.reduceLE, S, zero8, B3, Cn.cells, Cn.cellsL, show decide ((0 : Int) < 2) = true from rfl])
      refine CallK_do ha ?_
      (try simp (implicitDefEqProofs := false) only [go_sem, ↓reduceIte, Nat.reduceEqDiff, reduceCtorEq, Nat.reduceAdd, Nat.reduceSub, Nat.reduceLeDiff, Nat.reduceLT, Nat.reduceMul, Int.reduceToNat, Int.reduceLT, Int.reduceLE, wrap01])
      exact ⟨1, by omega, by simp⟩
    · unfold l82_0
      (try simp (implicitDefEqProofs := false) only [go_sem, ↓reduceIte, Nat.reduceEqDiff, reduceCtorEq, Nat.reduceAdd, Nat.reduceSub, Nat.reduceLeDiff, Nat.reduceLT, Nat.reduceMul, Int.reduceToNat, Int.reduceLT, Int.reduceLE, S, zero8, B3, Cn.cells, Cn.cellsL, show decide ((1 : Int) < 2) = true from rfl])
      refine CallK_do hb ?_
      (try simp (implicitDefEqProofs := false) only [go_sem, ↓reduceIte, Nat.reduceEqDiff, reduceCtorEq, Nat.reduceAdd, Nat.reduceSub, Nat.reduceLeDiff, Nat.reduceLT, Nat.reduceMul, Int.reduceToNat, Int.reduceLT, Int.reduceLE, wrap12])
      exact ⟨0, by omega, by simp⟩
    · unfold l82_0
      (try simp (implicitDefEqProofs := false) only [go_sem, ↓reduceIte, Nat.reduceEqDiff, reduceCtorEq, Nat.reduceAdd, Nat.reduceSub, Nat.reduceLeDiff, Nat.reduceLT, Nat.reduceMul, Int.reduceToNat, Int.reduceLT, Int.reduceLE, S, zero8, B3, Cn.cells, Cn.cellsL, show decide ((2 : Int) < 2) = false from rfl])
theorem gty_right {g : Int} (h : okG g) : (gty g).right = true := by
  unfold okG at h
  have : g = 1 ∨ g = 2 ∨ g = 3 ∨ g = 4 ∨ g = 5 := by omega
  rcases this with rfl | rfl | rfl | rfl | rfl <;> simp [gty, Ty.right, Ty.rightL, partsF, un_right]
theorem copy_does : ∀ (a : Nf) (l : Nat), a.wf l → CopyD a.cn
  | .un, l, h => copy_node un_right un_right (.inl rfl)
  | .out g p n i, l, h => by
    simp only [Nf.wf] at h
    exact copy_node un_right un_right (.inr ⟨_, _, rfl, copy_node (gty_right h.2.1) un_right (.inl rfl), copy_does i 1 h.2.2.2.1⟩)
  | .fail A B p n, l, h => by
    simp only [Nf.wf] at h
    exact copy_node h.2.2.1 h.2.2.2.1 (.inl rfl)
  | .inn i g, l, h => by
    simp only [Nf.wf] at h
    exact copy_node un_right un_right (.inr ⟨_, _, rfl, copy_does i 0 h.2.2.1, copy_node (gty_right h.2.1) un_right (.inl rfl)⟩)
  | .base k, l, h => by
    simp only [Nf.wf] at h
    exact copy_node (by rcases h with rfl | rfl <;> simp [Ty.right, Ty.rightL, partsF]) un_right (.inl rfl)
  | .two k a b, l, h => by
    simp only [Nf.wf] at h
    exact copy_node un_right un_right (.inr ⟨_, _, rfl, copy_does a 2 h.2.1, copy_does b 2 h.2.2⟩)

/-! ### without what does not count -/
mutual
def Cn.clean : Cn → Cn
  | .mk k ty to lab neg ks => if k = 1 then .mk 1 ty to lab neg (Cn.cleanL ks) else if k = 3 then .mk 3 ty .un lab neg (Cn.cleanL ks) else if k = 0 ∨ k = 2 then .mk k ty .un 0 false (Cn.cleanL ks) else .mk k .un .un 0 false (Cn.cleanL ks)
def Cn.cleanL : List Cn → List Cn
  | [] => []
  | c :: r => c.clean :: Cn.cleanL r
end
def CleanD (c : Cn) : Prop := Does Try.prog 53 [.imm false (.ptr c.cells 0)] [] (.ret false (.agg c.clean.cells)) []
theorem clean_tail {k : Int} {ty to : Ty} {lab : Int} {neg : Bool} {ks : List Cn} {a1 a3 a5 : Int} {a6 : Bool} {f1 f3 f5 f6 : Bool} {v2 v4 : LV} {s2 s4 : List (List IV)} (h2 : (v2 = .nils ∧ s2 = []) ∨ v2 = .imm false (.slice s2)) (h4 : (v4 = .nils ∧ s4 = []) ∨ v4 = .imm false (.slice s4))
    (hk : ks = [] ∨ ∃ a b, ks = [a, b] ∧ CleanD a ∧ CleanD b) :
    awp Try.prog (.seq (.seq r53_10 (.block 1 (.loop l53_0))) (.seq r53_15 .ret)) (Fin [MR.c 2 (some 8)] (.ret false (.agg [.int .i8 k, .int .i8 a1, .slice s2, .int .i8 a3, .slice s4, .int .i64 a5, .bool a6, .slice (Cn.cellsL (Cn.cleanL ks))])) [])
      ⟨[(0, .imm false (.ptr (Cn.mk k ty to lab neg ks).cells 0)), (2, .loc (.own 2) 0), (3, .loc (.own 3) 0)], [(.own 2, zero8), (.own 3, .var [.imm false (.int .i8 k), .imm f1 (.int .i8 a1), v2, .imm f3 (.int .i8 a3), v4, .imm f5 (.int .i64 a5), .imm f6 (.bool a6), .nils])], []⟩ := by
  let B3 : LV → Box := fun v => .var [.imm false (.int .i8 k), .imm f1 (.int .i8 a1), v2, .imm f3 (.int .i8 a3), v4, .imm f5 (.int .i64 a5), .imm f6 (.bool a6), v]
  rcases hk with rfl | ⟨a, b, rfl, ha, hb⟩
  · (try simp (implicitDefEqProofs := false) only [go_sem, ↓reduceIte, Nat.reduceEqDiff, reduceCtorEq, Nat.reduceAdd, Nat.reduceSub, Nat.reduceLeDiff, Nat.reduceLT, Nat.reduceMul, Int.reduceToNat, Int.reduceLT, Int.reduceLE, Cn.cells, Cn.cellsL, ncast0, zero8])
    refine ⟨fun n σ => n = 0 ∧ σ = ⟨[(0, .imm false (.ptr (Cn.mk k ty to lab neg []).cells 0)), (2, .loc (.own 2) 0), (3, .loc (.own 3) 0), (65, .imm true (.int .i64 0)), (66, .imm true (.int .i64 0))], [(.own 2, zero8), (.own 3, B3 .nils)], []⟩, ⟨_, rfl, by simp only [zero8, B3, Cn.cells, Cn.cellsL]⟩, ?_⟩
    rintro n σ ⟨rfl, rfl⟩
    unfold l53_0
    rcases h2 with ⟨rfl, rfl⟩ | rfl <;> rcases h4 with ⟨rfl, rfl⟩ | rfl
    all_goals (try simp (implicitDefEqProofs := false) only [go_sem, ↓reduceIte, Nat.reduceEqDiff, reduceCtorEq, Nat.reduceAdd, Nat.reduceSub, Nat.reduceLeDiff, Nat.reduceLT, Nat.reduceMul, Int.reduceToNat, Int.reduceLT, Int.reduceLE, zero8, B3, Cn.cleanL, Cn.cellsL, show decide ((0 : Int) < 0) = false from rfl])
  · unfold CleanD at ha hb
    simp only [Cn.cleanL]
    have hla := Cn.cells_len a
    have hlb := Cn.cells_len b
    generalize a.clean = a' at ha
    generalize b.clean = b' at hb
    obtain ⟨k1, ty1, to1, lab1, neg1, ks1⟩ := a'
    obtain ⟨k2, ty2, to2, lab2, neg2, ks2⟩ := b'
    simp only [Cn.cells, Cn.cellsL] at ha hb ⊢
    (try simp (implicitDefEqProofs := false) only [go_sem, ↓reduceIte, Nat.reduceEqDiff, reduceCtorEq, Nat.reduceAdd, Nat.reduceSub, Nat.reduceLeDiff, Nat.reduceLT, Nat.reduceMul, Int.reduceToNat, Int.reduceLT, Int.reduceLE, Cn.cells, Cn.cellsL, ncast2, zero8])
    let S : Int → LV → List (Key × Box) → St := fun j v r => ⟨[(0, .imm false (.ptr (Cn.mk k ty to lab neg [a, b]).cells 0)), (2, .loc (.own 2) 0), (3, .loc (.own 3) 0), (65, .imm true (.int .i64 2)), (66, .imm true (.int .i64 j))], (.own 2, zero8) :: (.own 3, B3 v) :: r, []⟩
    refine ⟨fun n σ => (n = 2 ∧ σ = S 0 .nils []) ∨ (n = 1 ∧ σ = S 1 (.row (.own 79) 1) [(.own 79, .row 28 8 [(Cn.mk k1 ty1 to1 lab1 neg1 ks1).cells.map (.imm false)])]) ∨
      (n = 0 ∧ σ = S 2 (.row (.own 79) 2) [(.own 79, .row 28 8 [(Cn.mk k1 ty1 to1 lab1 neg1 ks1).cells.map (.imm false), (Cn.mk k2 ty2 to2 lab2 neg2 ks2).cells.map (.imm false)])]), ⟨_, .inl ⟨rfl, by simp only [S, zero8, B3, Cn.cells, Cn.cellsL]⟩⟩, ?_⟩
    rintro n σ (⟨rfl, rfl⟩ | ⟨rfl, rfl⟩ | ⟨rfl, rfl⟩)
    · unfold l53_0
      rcases h2 with ⟨rfl, rfl⟩ | rfl <;> rcases h4 with ⟨rfl, rfl⟩ | rfl
      all_goals
        (try simp (implicitDefEqProofs := false) only [go_sem, ↓reduceIte, Nat.reduceEqDiff, reduceCtorEq, Nat.reduceAdd, Nat.reduceSub, Nat.reduceLeDiff, Nat.reduceLT, Nat.reduceMul, Int.reduceToNat, Int.reduceLT, Int.reduceLE, S, zero8, B3, Cn.cells, Cn.cellsL, hla, hlb, show decide ((0 : Int) < 2) = true from rfl])
        refine CallK_do ha ?_
        (try simp (implicitDefEqProofs := false) only [go_sem, ↓reduceIte, Nat.reduceEqDiff, reduceCtorEq, Nat.reduceAdd, Nat.reduceSub, Nat.reduceLeDiff, Nat.reduceLT, Nat.reduceMul, Int.reduceToNat, Int.reduceLT, Int.reduceLE, wrap01])
        exact ⟨1, by omega, by simp⟩
    · unfold l53_0
      rcases h2 with ⟨rfl, rfl⟩ | rfl <;> rcases h4 with ⟨rfl, rfl⟩ | rfl
      all_goals
        (try simp (implicitDefEqProofs := false) only [go_sem, ↓reduceIte, Nat.reduceEqDiff, reduceCtorEq, Nat.reduceAdd, Nat.reduceSub, Nat.reduceLeDiff, Nat.reduceLT, Nat.reduceMul, Int.reduceToNat, Int.reduceLT, Int.reduceLE, S, zero8, B3, Cn.cells, Cn.cellsL, hla, hlb, show decide ((1 : Int) < 2) = true from rfl])
        refine CallK_do hb ?_
        (try simp (implicitDefEqProofs := false) only [go_sem, ↓reduceIte, Nat.reduceEqDiff, reduceCtorEq, Nat.reduceAdd, Nat.reduceSub, Nat.reduceLeDiff, Nat.reduceLT, Nat.reduceMul, Int.reduceToNat, Int.reduceLT, Int.reduceLE, wrap12])
        exact ⟨0, by omega, by simp⟩
    · unfold l53_0
      rcases h2 with ⟨rfl, rfl⟩ | rfl <;> rcases h4 with ⟨rfl, rfl⟩ | rfl
      all_goals (try simp (implicitDefEqProofs := false) only [go_sem, ↓reduceIte, Nat.reduceEqDiff, reduceCtorEq, Nat.reduceAdd, Nat.reduceSub, Nat.reduceLeDiff, Nat.reduceLT, Nat.reduceMul, Int.reduceToNat, Int.reduceLT, Int.reduceLE, S, zero8, B3, Cn.cells, Cn.cellsL, show decide ((2 : Int) < 2) = false from rfl])

theorem clean_does : ∀ c : Cn, c.ends.2.2 = true → CleanD c := by
  refine Cn.ind fun k ty to lab neg ks ih he => ?_
  have hk : ks = [] ∨ ∃ a b, ks = [a, b] ∧ CleanD a ∧ CleanD b := by
    rcases ends_shape he with ⟨rfl, _, _⟩ | ⟨a, b, rfl, _, ha, hb⟩
    · exact .inl rfl
    · exact .inr ⟨a, b, rfl, ih a (by simp) ha, ih b (by simp) hb⟩
  unfold CleanD
  by_cases k1 : k = 1
  · subst k1
    have := clean_tail (k := 1) (ty := ty) (to := to) (lab := lab) (neg := neg) (ks := ks) (a1 := ty.k) (a3 := to.k) (a5 := lab) (a6 := neg) (f1 := false) (f3 := false) (f5 := false) (f6 := false) (.inr rfl) (.inr rfl) hk (s2 := Ty.cellsL ty.ts) (s4 := Ty.cellsL to.ts)
    simp only [Cn.clean, Cn.cells, if_true]
    (try simp (implicitDefEqProofs := false) only [go_sem, ↓reduceIte, Nat.reduceEqDiff, reduceCtorEq, Nat.reduceAdd, Nat.reduceSub, Nat.reduceLeDiff, Nat.reduceLT, Nat.reduceMul, Int.reduceToNat, Int.reduceLT, Int.reduceLE, Cn.cells, zero8] at this)
    refine does53 (by rfl) (by rfl) ?_
    (try simp (implicitDefEqProofs := false) only [go_sem, ↓reduceIte, Nat.reduceEqDiff, reduceCtorEq, Nat.reduceAdd, Nat.reduceSub, Nat.reduceLeDiff, Nat.reduceLT, Nat.reduceMul, Int.reduceToNat, Int.reduceLT, Int.reduceLE, show ((1 : Int) == 1) = true from rfl])
    exact this
  by_cases k3 : k = 3
  · subst k3
    have := clean_tail (k := 3) (ty := ty) (to := to) (lab := lab) (neg := neg) (ks := ks) (a1 := ty.k) (a3 := 0) (a5 := lab) (a6 := neg) (f1 := false) (f3 := true) (f5 := false) (f6 := false) (.inr rfl) (.inl ⟨rfl, rfl⟩) hk (s2 := Ty.cellsL ty.ts) (s4 := [])
    simp only [Cn.clean, Cn.cells, if_true, if_neg k1, Ty.un, Ty.k, Ty.ts, Ty.cellsL]
    (try simp (implicitDefEqProofs := false) only [go_sem, ↓reduceIte, Nat.reduceEqDiff, reduceCtorEq, Nat.reduceAdd, Nat.reduceSub, Nat.reduceLeDiff, Nat.reduceLT, Nat.reduceMul, Int.reduceToNat, Int.reduceLT, Int.reduceLE, Cn.cells, zero8] at this)
    refine does53 (by rfl) (by rfl) ?_
    (try simp (implicitDefEqProofs := false) only [go_sem, ↓reduceIte, Nat.reduceEqDiff, reduceCtorEq, Nat.reduceAdd, Nat.reduceSub, Nat.reduceLeDiff, Nat.reduceLT, Nat.reduceMul, Int.reduceToNat, Int.reduceLT, Int.reduceLE, show ((3 : Int) == 1) = false from rfl, show ((3 : Int) == 3) = true from rfl])
    exact this
  by_cases k0 : k = 0
  · subst k0
    have := clean_tail (k := 0) (ty := ty) (to := to) (lab := lab) (neg := neg) (ks := ks) (a1 := ty.k) (a3 := 0) (a5 := 0) (a6 := false) (f1 := false) (f3 := true) (f5 := true) (f6 := true) (.inr rfl) (.inl ⟨rfl, rfl⟩) hk (s2 := Ty.cellsL ty.ts) (s4 := [])
    simp only [Cn.clean, Cn.cells, if_true, if_neg k1, if_neg k3, true_or, Ty.un, Ty.k, Ty.ts, Ty.cellsL]
    (try simp (implicitDefEqProofs := false) only [go_sem, ↓reduceIte, Nat.reduceEqDiff, reduceCtorEq, Nat.reduceAdd, Nat.reduceSub, Nat.reduceLeDiff, Nat.reduceLT, Nat.reduceMul, Int.reduceToNat, Int.reduceLT, Int.reduceLE, Cn.cells, zero8] at this)
    refine does53 (by rfl) (by rfl) ?_
    (try simp (implicitDefEqProofs := false) only [go_sem, ↓reduceIte, Nat.reduceEqDiff, reduceCtorEq, Nat.reduceAdd, Nat.reduceSub, Nat.reduceLeDiff, Nat.reduceLT, Nat.reduceMul, Int.reduceToNat, Int.reduceLT, Int.reduceLE, show ((0 : Int) == 1) = false from rfl, show ((0 : Int) == 3) = false from rfl, show ((0 : Int) == 0) = true from rfl])
    exact this
  by_cases k2 : k = 2
  · subst k2
    have := clean_tail (k := 2) (ty := ty) (to := to) (lab := lab) (neg := neg) (ks := ks) (a1 := ty.k) (a3 := 0) (a5 := 0) (a6 := false) (f1 := false) (f3 := true) (f5 := true) (f6 := true) (.inr rfl) (.inl ⟨rfl, rfl⟩) hk (s2 := Ty.cellsL ty.ts) (s4 := [])
    simp only [Cn.clean, Cn.cells, if_true, if_neg k1, if_neg k3, or_true, Ty.un, Ty.k, Ty.ts, Ty.cellsL]
    (try simp (implicitDefEqProofs := false) only [go_sem, ↓reduceIte, Nat.reduceEqDiff, reduceCtorEq, Nat.reduceAdd, Nat.reduceSub, Nat.reduceLeDiff, Nat.reduceLT, Nat.reduceMul, Int.reduceToNat, Int.reduceLT, Int.reduceLE, Cn.cells, zero8] at this)
    refine does53 (by rfl) (by rfl) ?_
    (try simp (implicitDefEqProofs := false) only [go_sem, ↓reduceIte, Nat.reduceEqDiff, reduceCtorEq, Nat.reduceAdd, Nat.reduceSub, Nat.reduceLeDiff, Nat.reduceLT, Nat.reduceMul, Int.reduceToNat, Int.reduceLT, Int.reduceLE, show ((2 : Int) == 1) = false from rfl, show ((2 : Int) == 3) = false from rfl, show ((2 : Int) == 0) = false from rfl, show ((2 : Int) == 2) = true from rfl])
    exact this
  · have := clean_tail (k := k) (ty := ty) (to := to) (lab := lab) (neg := neg) (ks := ks) (a1 := 0) (a3 := 0) (a5 := 0) (a6 := false) (f1 := true) (f3 := true) (f5 := true) (f6 := true) (.inl ⟨rfl, rfl⟩) (.inl ⟨rfl, rfl⟩) hk (s2 := []) (s4 := [])
    have k02 : ¬ (k = 0 ∨ k = 2) := by omega
    simp only [Cn.clean, Cn.cells, if_neg k1, if_neg k3, if_neg k02, Ty.un, Ty.k, Ty.ts, Ty.cellsL]
    (try simp (implicitDefEqProofs := false) only [go_sem, ↓reduceIte, Nat.reduceEqDiff, reduceCtorEq, Nat.reduceAdd, Nat.reduceSub, Nat.reduceLeDiff, Nat.reduceLT, Nat.reduceMul, Int.reduceToNat, Int.reduceLT, Int.reduceLE, Cn.cells, zero8] at this)
    refine does53 (by rfl) (by rfl) ?_
    (try simp (implicitDefEqProofs := false) only [go_sem, ↓reduceIte, Nat.reduceEqDiff, reduceCtorEq, Nat.reduceAdd, Nat.reduceSub, Nat.reduceLeDiff, Nat.reduceLT, Nat.reduceMul, Int.reduceToNat, Int.reduceLT, Int.reduceLE, show (k == 1) = false from by simpa using k1, show (k == 3) = false from by simpa using k3, show (k == 0) = false from by simpa using k0, show (k == 2) = false from by simpa using k2])
    exact this
end Go.Proofs.Ytopgmopdjiahmaa.Lg
