/- Texts of one proof, joined by program (gen/merge.py): Vd Ve Vf Vg. Conditions: none; plain definitions and lemmas. -/
import Derived.Test.YtopgmopdjiahmaaG22
/- Casts, one behind the other: the walk's end. Conditions: none; plain definitions and lemmas. -/
set_option linter.unusedVariables false
set_option linter.unusedSimpArgs false
set_option maxRecDepth 100000
set_option maxHeartbeats 4000000
namespace Go.Proofs.Ytopgmopdjiahmaa.Lg
open Go Go.RowKit Go.Proofs

theorem flat_len (f : Bool) : ∀ C : List Cn, (C.map (vx f)).flatten.length = C.length * 8
  | [] => rfl
  | c :: C => by
    have := flat_len f C
    simp only [List.map_cons, List.flatten_cons, List.length_append, List.length_cons, this, vx, List.length_nil]; omega
theorem flat_at (f : Bool) : ∀ (C : List Cn) (i : Nat) (h : i < C.length), ((C.map (vx f)).flatten.drop (i * 8)).take 8 = vx f C[i]
  | c :: C, 0, h => by simp [vx]
  | c :: C, i + 1, h => by
    have := flat_at f C i (by simpa using h)
    simp only [List.map_cons, List.flatten_cons, List.getElem_cons_succ]
    rw [show (i + 1) * 8 = (vx f c).length + i * 8 by simp [vx]; omega, List.drop_append, List.drop_eq_nil_of_le (by omega), List.nil_append, Nat.add_sub_cancel_left]
    exact this
theorem resLL_vx (s : List (Key × Box)) (n : Nat) : ∀ C : List Cn, resLL (res s (n + 1)) (C.map (vx true)) = some (true, C.map Cn.cells)
  | [] => rfl
  | c :: C => by
    have := resLL_vx s n C
    simp only [List.map_cons, resLL, this, vx, resL, res, Cn.cells_ex, Bool.true_or, Bool.and_self]
theorem keysLL_vx (s : List (Key × Box)) (n : Nat) (f : Bool) : ∀ C : List Cn, keysLL (keys s (n + 1)) (C.map (vx f)) = []
  | [] => rfl
  | c :: C => by
    have := keysLL_vx s n f C
    simp only [List.map_cons, keysLL, this, vx, keysL, keys, List.append_nil]
theorem renLL_vx (l : List Nat) (n : Nat) (f : Bool) : ∀ C : List Cn, renLL (renV l (n + 1)) (C.map (vx f)) = some (C.map (vx f))
  | [] => rfl
  | c :: C => by
    have := renLL_vx l n f C
    simp only [List.map_cons, renLL, this, vx, renL, renV]
/-- the cells of a type in a box -/
def IsTy (t : Ty) (l : List LV) : Prop := ∃ f y, l = [.imm f (.int .i8 t.k), y] ∧ ((y = .nils ∧ Ty.cellsL t.ts = []) ∨ ∃ f, y = .imm f (.slice (Ty.cellsL t.ts)))

theorem tail_does {C : List Cn} {s : Nat → Nat → Cn} (h : Segs C s) (h2 : 2 ≤ C.length) (h8 : C.length ≤ 8) {A B M : Ty} {lb : List LV} (hlb : IsTy B lb) {H at_ hh z : Int} {fl : Bool} (hH : 0 ≤ H ∧ H ≤ 60) (hat : -9223372036854775808 ≤ at_ ∧ at_ ≤ 9223372036854775807)
    (ck1 : Does Try.prog 13 [.imm false (.agg (s 0 C.length).cells)] [] (.ret false (chV (A, B, 0))) []) (ck2 : Does Try.prog 13 [.imm false (.agg (s 0 1).cells)] [] (.ret false (chV (A, M, 0))) [])
    (sa : Does Try.prog 14 [.imm false (.agg A.cells), .imm false (.agg A.cells)] [] (.ret true (.bool true)) []) (sb : Does Try.prog 14 [.imm false (.agg B.cells), .imm false (.agg B.cells)] [] (.ret true (.bool true)) [])
    (cs : Does Try.prog 17 [.imm false (.agg (s 0 C.length).cells), .imm false (.agg (s 0 C.length).cells)] [] (.ret true (.bool true)) []) (ci : Does Try.prog 22 [.imm false (.agg (s 0 C.length).cells)] [] (.ret true (.bool true)) [])
    (ch : Does Try.prog 15 [.imm false (.agg (s 0 C.length).cells)] [] (.ret true (.int .i64 hh)) []) (cz : Does Try.prog 43 [.imm false (.agg (s 0 C.length).cells)] [] (.ret true (.int .i64 z)) []) (hhH : hh ≤ H) (hz : z ≤ 4 * 2 ^ (minI H 40).toNat) :
    awp Try.prog (.seq r10_21 (.seq (.seq r10_22 (.block 2 (.loop l10_1))) (.seq r10_30 (.seq r10_31 (.seq r10_32 (.seq r10_33 (.seq (.seq r10_34 (.cond (.t 209) (.seq r10_35 .ret) .skip)) (.seq r10_36 .ret))))))))
      (Fin [MR.t 6] (.ret true (.bool true)) []) ⟨[(2, .imm fl (.int .i64 at_)), (7, .row (.own 100) C.length), (8, .imm true (.int .i64 H)), (9, .loc (.own 9) 0), (109, .imm true (.bool false))], [(.own 9, .var lb), (.own 100, .row 28 8 (C.map (vx true)))], []⟩ := by
  have f1 := flat_len true C
  have f2 : ∀ i (hi : i < C.length), ((C.map (vx true)).flatten.drop (i * 8)).take 8 = vx true (s i (i + 1)) := fun i hi => by rw [flat_at true C i hi, h.one i hi]
  have f0 := f2 0 (by omega)
  simp only [Nat.zero_mul, List.drop_zero] at f0
  have w1 := wrap64 (n := (C.length : Int) - 1) (by omega) (by omega)
  have n1 : ((C.length : Int) - 1).toNat = C.length - 1 := by omega
  have fl1 := f2 (C.length - 1) (by omega)
  rw [show C.length - 1 + 1 = C.length by omega] at fl1
  have g1 : 0 + 8 ≤ C.length * 8 ↔ True := by simp; omega
  have g2 : (C.length - 1) * 8 + 8 ≤ C.length * 8 ↔ True := by simp; omega
  have c1 : (0 : Int) ≤ (C.length : Int) - 1 ↔ True := by simp; omega
  have c2 : (C.length : Int) - 1 < C.length ↔ True := by simp; omega
  have c3 : (0 : Int) < C.length ↔ True := by simp; omega
  obtain ⟨fb, y, rfl, hy⟩ := hlb
  simp only [chV, Cn.cells_ex, Ty.cells_eq] at ck1 ck2 sa sb cs ci ch cz
  generalize Ty.cellsL B.ts = tb at hy ck1 sb
  have two : ∀ i j m, i < j → j < m → m ≤ C.length → _ := h.two
  have pd : ∀ k : Nat, 0 < k → k < C.length → _ := fun k h1 h2 => parted_does h h1 h2 h8
  simp only [coV, Cn.cells_ex] at two pd
  have hm0 : ((C.length : Int) - 1 = 0) ↔ False := by simp; omega
  obtain ⟨r, hr, hr1, hr2⟩ : ∃ r, at_.tmod ((C.length : Int) - 1) = r ∧ -((C.length : Int) - 1) < r ∧ r < (C.length : Int) - 1 := by
    have a1 := Int.tmod_lt_of_pos at_ (show (0 : Int) < (C.length : Int) - 1 by omega)
    have a2 := Int.lt_tmod_of_pos at_ (show (0 : Int) < (C.length : Int) - 1 by omega)
    exact ⟨_, rfl, by omega, a1⟩
  obtain ⟨k, hk, hk1, hk2⟩ : ∃ k : Nat, (r + (C.length : Int) - 1).tmod ((C.length : Int) - 1) = k ∧ 0 ≤ k ∧ k + 1 < C.length := by
    have a1 := Int.tmod_lt_of_pos (r + (C.length : Int) - 1) (show (0 : Int) < (C.length : Int) - 1 by omega)
    have a2 := Int.tmod_nonneg ((C.length : Int) - 1) (show (0 : Int) ≤ r + (C.length : Int) - 1 by omega)
    exact ⟨((r + (C.length : Int) - 1).tmod ((C.length : Int) - 1)).toNat, by omega, by omega, by omega⟩
  have w2 := wrap64 (n := r + (C.length : Int)) (by omega) (by omega)
  have w3 := wrap64 (n := r + (C.length : Int) - 1) (by omega) (by omega)
  have w4 := wrap64 (n := (k : Int) + 1) (by omega) (by omega)
  obtain ⟨N, hN, hN40⟩ : ∃ N : Nat, (if 40 < H then 40 else H) = (N : Int) ∧ N ≤ 40 := ⟨(if 40 < H then 40 else H).toNat, by split <;> omega, by split <;> omega⟩
  have hN0 : ((N : Int) < 0) ↔ False := by simp
  have hN64 : min N 64 = N := by omega
  have hz : z ≤ 4 * 2 ^ N := by
    have e : minI H 40 = (N : Int) := hN
    rw [e, Int.toNat_natCast] at hz; exact hz
  have wN := wrap64 (n := 4 * 2 ^ N) (by have : (0 : Int) ≤ 2 ^ N := Int.le_of_lt (Int.pow_pos (by omega)); omega) (by
    have : (2 : Int) ^ N ≤ 2 ^ 40 := by exact_mod_cast Nat.pow_le_pow_right (by omega : 0 < 2) hN40
    omega)
  rcases hy with ⟨rfl, rfl⟩ | ⟨fs, rfl⟩
  · (try simp (implicitDefEqProofs := false) only [go_sem, ↓reduceIte, Nat.reduceEqDiff, reduceCtorEq, Nat.reduceAdd, Nat.reduceSub, Nat.reduceLeDiff, Nat.reduceLT, Nat.reduceMul, Int.reduceToNat, Int.reduceLT, Int.reduceLE, f1, f0, fl1, w1, n1, g1, g2, c1, c2, c3, renLL_vx, vx])
    refine ⟨fun q σ => ∃ (i : Nat), 1 ≤ i ∧ i ≤ C.length ∧ q = C.length - i ∧ σ = ⟨[(2, .imm fl (.int .i64 at_)), (7, .row (.own 100) C.length), (8, .imm true (.int .i64 H)), (9, .loc (.own 9) 0), (15, .loc (.own 15) 0), (16, .loc (.own 16) 0), (17, .imm true (.int .i64 i))],
      [(.own 9, .var [.imm fb (.int .i8 B.k), .nils]), (.own 15, .var (vx true (s 0 i))), (.own 16, .var (vx true (s (C.length - i) C.length))), (.own 100, .row 28 8 (C.map (vx true)))], []⟩, ⟨_, 1, by omega, by omega, rfl, rfl⟩, ?_⟩
    rintro q σ ⟨i, hi1, hi2, rfl, rfl⟩
    unfold l10_1
    (try simp (implicitDefEqProofs := false) only [go_sem, ↓reduceIte, Nat.reduceEqDiff, reduceCtorEq, Nat.reduceAdd, Nat.reduceSub, Nat.reduceLeDiff, Nat.reduceLT, Nat.reduceMul, Int.reduceToNat, Int.reduceLT, Int.reduceLE, CondOn_imm, vx, renLL_vx])
    refine ⟨fun hlt => ?_, fun hlt => ?_⟩
    · have hlt : i < C.length := by simpa using hlt
      have d1 := two 0 i (i + 1) (by omega) (by omega) (by omega)
      have d2 := two (C.length - 1 - i) (C.length - i) C.length (by omega) (by omega) (by omega)
      have fi := f2 i hlt
      have gi : i * 8 + 8 ≤ C.length * 8 ↔ True := by simp; omega
      have ci1 : (i : Int) < C.length ↔ True := by simp; omega
      have fj := f2 (C.length - 1 - i) (by omega)
      rw [show C.length - 1 - i + 1 = C.length - i by omega] at fj
      have gj : (C.length - 1 - i) * 8 + 8 ≤ C.length * 8 ↔ True := by simp; omega
      have wj := wrap64 (n := (C.length : Int) - 1 - i) (by omega) (by omega)
      have nj : ((C.length : Int) - 1 - i).toNat = C.length - 1 - i := by omega
      have cj1 : (0 : Int) ≤ (C.length : Int) - 1 - i ↔ True := by simp; omega
      have cj2 : (C.length : Int) - 1 - i < C.length ↔ True := by simp; omega
      (try simp (implicitDefEqProofs := false) only [go_sem, ↓reduceIte, Nat.reduceEqDiff, reduceCtorEq, Nat.reduceAdd, Nat.reduceSub, Nat.reduceLeDiff, Nat.reduceLT, Nat.reduceMul, Int.reduceToNat, Int.reduceLT, Int.reduceLE, f1, fi, gi, ci1, Int.toNat_natCast, Int.natCast_nonneg, renLL_vx, vx])
      refine CallK_do d1 ?_
      (try simp (implicitDefEqProofs := false) only [go_sem, ↓reduceIte, Nat.reduceEqDiff, reduceCtorEq, Nat.reduceAdd, Nat.reduceSub, Nat.reduceLeDiff, Nat.reduceLT, Nat.reduceMul, Int.reduceToNat, Int.reduceLT, Int.reduceLE, f1, fj, gj, w1, wj, nj, cj1, cj2, renLL_vx, vx])
      refine CallK_do d2 ?_
      (try simp (implicitDefEqProofs := false) only [go_sem, ↓reduceIte, Nat.reduceEqDiff, reduceCtorEq, Nat.reduceAdd, Nat.reduceSub, Nat.reduceLeDiff, Nat.reduceLT, Nat.reduceMul, Int.reduceToNat, Int.reduceLT, Int.reduceLE, show ((0 : Int) != 0) = false from rfl, wrap64 (n := (i : Int) + 1) (by omega) (by omega), renLL_vx, vx])
      exact ⟨_, by omega, i + 1, by omega, by omega, rfl, by simp [vx, Nat.sub_add_eq, Nat.sub_right_comm]⟩
    · have hge : i = C.length := by have : ¬ i < C.length := by simpa using hlt
                                    omega
      subst hge
      have pk := pd (k + 1) (by omega) (by omega)
      have e31 : ((k + 1 : Nat) : Int) = (k : Int) + 1 := by omega
      rw [e31] at pk
      have hmn : minI H 40 = (if 40 < H then 40 else H) := rfl
      have ne0 : ((0 : Int) != 0) = false := rfl
      (try simp (implicitDefEqProofs := false) only [go_sem, ↓reduceIte, Nat.reduceEqDiff, reduceCtorEq, Nat.reduceAdd, Nat.reduceSub, Nat.reduceLeDiff, Nat.reduceLT, Nat.reduceMul, Int.reduceToNat, Int.reduceLT, Int.reduceLE, w1, w2, w3, w4, hr, hk, hm0, renLL_vx, vx, Nat.sub_self, List.length_map, resLL_vx, keysLL_vx])
      refine CallK_do pk ?_
      (try simp (implicitDefEqProofs := false) only [go_sem, ↓reduceIte, Nat.reduceEqDiff, reduceCtorEq, Nat.reduceAdd, Nat.reduceSub, Nat.reduceLeDiff, Nat.reduceLT, Nat.reduceMul, Int.reduceToNat, Int.reduceLT, Int.reduceLE, renLL_vx, vx])
      refine CallK_do ck1 ?_
      (try simp (implicitDefEqProofs := false) only [go_sem, ↓reduceIte, Nat.reduceEqDiff, reduceCtorEq, Nat.reduceAdd, Nat.reduceSub, Nat.reduceLeDiff, Nat.reduceLT, Nat.reduceMul, Int.reduceToNat, Int.reduceLT, Int.reduceLE, renLL_vx, vx, f1, f0, g1, c3])
      refine CallK_do ck2 ?_
      (try simp (implicitDefEqProofs := false) only [go_sem, ↓reduceIte, Nat.reduceEqDiff, reduceCtorEq, Nat.reduceAdd, Nat.reduceSub, Nat.reduceLeDiff, Nat.reduceLT, Nat.reduceMul, Int.reduceToNat, Int.reduceLT, Int.reduceLE, renLL_vx, vx, ne0])
      refine CallK_do sa ?_
      (try simp (implicitDefEqProofs := false) only [go_sem, ↓reduceIte, Nat.reduceEqDiff, reduceCtorEq, Nat.reduceAdd, Nat.reduceSub, Nat.reduceLeDiff, Nat.reduceLT, Nat.reduceMul, Int.reduceToNat, Int.reduceLT, Int.reduceLE, Bool.not_true])
      refine CallK_do sb ?_
      (try simp (implicitDefEqProofs := false) only [go_sem, ↓reduceIte, Nat.reduceEqDiff, reduceCtorEq, Nat.reduceAdd, Nat.reduceSub, Nat.reduceLeDiff, Nat.reduceLT, Nat.reduceMul, Int.reduceToNat, Int.reduceLT, Int.reduceLE, Bool.not_true])
      refine CallK_do cs ?_
      (try simp (implicitDefEqProofs := false) only [go_sem, ↓reduceIte, Nat.reduceEqDiff, reduceCtorEq, Nat.reduceAdd, Nat.reduceSub, Nat.reduceLeDiff, Nat.reduceLT, Nat.reduceMul, Int.reduceToNat, Int.reduceLT, Int.reduceLE])
      refine CallK_do cs ?_
      (try simp (implicitDefEqProofs := false) only [go_sem, ↓reduceIte, Nat.reduceEqDiff, reduceCtorEq, Nat.reduceAdd, Nat.reduceSub, Nat.reduceLeDiff, Nat.reduceLT, Nat.reduceMul, Int.reduceToNat, Int.reduceLT, Int.reduceLE])
      refine CallK_do ci ?_
      (try simp (implicitDefEqProofs := false) only [go_sem, ↓reduceIte, Nat.reduceEqDiff, reduceCtorEq, Nat.reduceAdd, Nat.reduceSub, Nat.reduceLeDiff, Nat.reduceLT, Nat.reduceMul, Int.reduceToNat, Int.reduceLT, Int.reduceLE])
      refine CallK_do ch ?_
      (try simp (implicitDefEqProofs := false) only [go_sem, ↓reduceIte, Nat.reduceEqDiff, reduceCtorEq, Nat.reduceAdd, Nat.reduceSub, Nat.reduceLeDiff, Nat.reduceLT, Nat.reduceMul, Int.reduceToNat, Int.reduceLT, Int.reduceLE, show decide (hh ≤ H) = true from by simpa using hhH])
      refine CallK_do cz ?_
      (try simp (implicitDefEqProofs := false) only [go_sem, ↓reduceIte, Nat.reduceEqDiff, reduceCtorEq, Nat.reduceAdd, Nat.reduceSub, Nat.reduceLeDiff, Nat.reduceLT, Nat.reduceMul, Int.reduceToNat, Int.reduceLT, Int.reduceLE, hN, hN0, Int.toNat_natCast, hN64, wN, show decide (z ≤ 4 * 2 ^ N) = true from by simpa using hz])
      refine CallK_do merges_does ?_
      (try simp (implicitDefEqProofs := false) only [go_sem, ↓reduceIte, Nat.reduceEqDiff, reduceCtorEq, Nat.reduceAdd, Nat.reduceSub, Nat.reduceLeDiff, Nat.reduceLT, Nat.reduceMul, Int.reduceToNat, Int.reduceLT, Int.reduceLE])
  · (try simp (implicitDefEqProofs := false) only [go_sem, ↓reduceIte, Nat.reduceEqDiff, reduceCtorEq, Nat.reduceAdd, Nat.reduceSub, Nat.reduceLeDiff, Nat.reduceLT, Nat.reduceMul, Int.reduceToNat, Int.reduceLT, Int.reduceLE, f1, f0, fl1, w1, n1, g1, g2, c1, c2, c3, renLL_vx, vx])
    refine ⟨fun q σ => ∃ (i : Nat), 1 ≤ i ∧ i ≤ C.length ∧ q = C.length - i ∧ σ = ⟨[(2, .imm fl (.int .i64 at_)), (7, .row (.own 100) C.length), (8, .imm true (.int .i64 H)), (9, .loc (.own 9) 0), (15, .loc (.own 15) 0), (16, .loc (.own 16) 0), (17, .imm true (.int .i64 i))],
      [(.own 9, .var [.imm fb (.int .i8 B.k), .imm fs (.slice tb)]), (.own 15, .var (vx true (s 0 i))), (.own 16, .var (vx true (s (C.length - i) C.length))), (.own 100, .row 28 8 (C.map (vx true)))], []⟩, ⟨_, 1, by omega, by omega, rfl, rfl⟩, ?_⟩
    rintro q σ ⟨i, hi1, hi2, rfl, rfl⟩
    unfold l10_1
    (try simp (implicitDefEqProofs := false) only [go_sem, ↓reduceIte, Nat.reduceEqDiff, reduceCtorEq, Nat.reduceAdd, Nat.reduceSub, Nat.reduceLeDiff, Nat.reduceLT, Nat.reduceMul, Int.reduceToNat, Int.reduceLT, Int.reduceLE, CondOn_imm, vx, renLL_vx])
    refine ⟨fun hlt => ?_, fun hlt => ?_⟩
    · have hlt : i < C.length := by simpa using hlt
      have d1 := two 0 i (i + 1) (by omega) (by omega) (by omega)
      have d2 := two (C.length - 1 - i) (C.length - i) C.length (by omega) (by omega) (by omega)
      have fi := f2 i hlt
      have gi : i * 8 + 8 ≤ C.length * 8 ↔ True := by simp; omega
      have ci1 : (i : Int) < C.length ↔ True := by simp; omega
      have fj := f2 (C.length - 1 - i) (by omega)
      rw [show C.length - 1 - i + 1 = C.length - i by omega] at fj
      have gj : (C.length - 1 - i) * 8 + 8 ≤ C.length * 8 ↔ True := by simp; omega
      have wj := wrap64 (n := (C.length : Int) - 1 - i) (by omega) (by omega)
      have nj : ((C.length : Int) - 1 - i).toNat = C.length - 1 - i := by omega
      have cj1 : (0 : Int) ≤ (C.length : Int) - 1 - i ↔ True := by simp; omega
      have cj2 : (C.length : Int) - 1 - i < C.length ↔ True := by simp; omega
      (try simp (implicitDefEqProofs := false) only [go_sem, ↓reduceIte, Nat.reduceEqDiff, reduceCtorEq, Nat.reduceAdd, Nat.reduceSub, Nat.reduceLeDiff, Nat.reduceLT, Nat.reduceMul, Int.reduceToNat, Int.reduceLT, Int.reduceLE, f1, fi, gi, ci1, Int.toNat_natCast, Int.natCast_nonneg, renLL_vx, vx])
      refine CallK_do d1 ?_
      (try simp (implicitDefEqProofs := false) only [go_sem, ↓reduceIte, Nat.reduceEqDiff, reduceCtorEq, Nat.reduceAdd, Nat.reduceSub, Nat.reduceLeDiff, Nat.reduceLT, Nat.reduceMul, Int.reduceToNat, Int.reduceLT, Int.reduceLE, f1, fj, gj, w1, wj, nj, cj1, cj2, renLL_vx, vx])
      refine CallK_do d2 ?_
      (try simp (implicitDefEqProofs := false) only [go_sem, ↓reduceIte, Nat.reduceEqDiff, reduceCtorEq, Nat.reduceAdd, Nat.reduceSub, Nat.reduceLeDiff, Nat.reduceLT, Nat.reduceMul, Int.reduceToNat, Int.reduceLT, Int.reduceLE, show ((0 : Int) != 0) = false from rfl, wrap64 (n := (i : Int) + 1) (by omega) (by omega), renLL_vx, vx])
      exact ⟨_, by omega, i + 1, by omega, by omega, rfl, by simp [vx, Nat.sub_add_eq, Nat.sub_right_comm]⟩
    · have hge : i = C.length := by have : ¬ i < C.length := by simpa using hlt
                                    omega
      subst hge
      have pk := pd (k + 1) (by omega) (by omega)
      have e31 : ((k + 1 : Nat) : Int) = (k : Int) + 1 := by omega
      rw [e31] at pk
      have hmn : minI H 40 = (if 40 < H then 40 else H) := rfl
      have ne0 : ((0 : Int) != 0) = false := rfl
      (try simp (implicitDefEqProofs := false) only [go_sem, ↓reduceIte, Nat.reduceEqDiff, reduceCtorEq, Nat.reduceAdd, Nat.reduceSub, Nat.reduceLeDiff, Nat.reduceLT, Nat.reduceMul, Int.reduceToNat, Int.reduceLT, Int.reduceLE, w1, w2, w3, w4, hr, hk, hm0, renLL_vx, vx, Nat.sub_self, List.length_map, resLL_vx, keysLL_vx])
      refine CallK_do pk ?_
      (try simp (implicitDefEqProofs := false) only [go_sem, ↓reduceIte, Nat.reduceEqDiff, reduceCtorEq, Nat.reduceAdd, Nat.reduceSub, Nat.reduceLeDiff, Nat.reduceLT, Nat.reduceMul, Int.reduceToNat, Int.reduceLT, Int.reduceLE, renLL_vx, vx])
      refine CallK_do ck1 ?_
      (try simp (implicitDefEqProofs := false) only [go_sem, ↓reduceIte, Nat.reduceEqDiff, reduceCtorEq, Nat.reduceAdd, Nat.reduceSub, Nat.reduceLeDiff, Nat.reduceLT, Nat.reduceMul, Int.reduceToNat, Int.reduceLT, Int.reduceLE, renLL_vx, vx, f1, f0, g1, c3])
      refine CallK_do ck2 ?_
      (try simp (implicitDefEqProofs := false) only [go_sem, ↓reduceIte, Nat.reduceEqDiff, reduceCtorEq, Nat.reduceAdd, Nat.reduceSub, Nat.reduceLeDiff, Nat.reduceLT, Nat.reduceMul, Int.reduceToNat, Int.reduceLT, Int.reduceLE, renLL_vx, vx, ne0])
      refine CallK_do sa ?_
      (try simp (implicitDefEqProofs := false) only [go_sem, ↓reduceIte, Nat.reduceEqDiff, reduceCtorEq, Nat.reduceAdd, Nat.reduceSub, Nat.reduceLeDiff, Nat.reduceLT, Nat.reduceMul, Int.reduceToNat, Int.reduceLT, Int.reduceLE, Bool.not_true])
      refine CallK_do sb ?_
      (try simp (implicitDefEqProofs := false) only [go_sem, ↓reduceIte, Nat.reduceEqDiff, reduceCtorEq, Nat.reduceAdd, Nat.reduceSub, Nat.reduceLeDiff, Nat.reduceLT, Nat.reduceMul, Int.reduceToNat, Int.reduceLT, Int.reduceLE, Bool.not_true])
      refine CallK_do cs ?_
      (try simp (implicitDefEqProofs := false) only [go_sem, ↓reduceIte, Nat.reduceEqDiff, reduceCtorEq, Nat.reduceAdd, Nat.reduceSub, Nat.reduceLeDiff, Nat.reduceLT, Nat.reduceMul, Int.reduceToNat, Int.reduceLT, Int.reduceLE])
      refine CallK_do cs ?_
      (try simp (implicitDefEqProofs := false) only [go_sem, ↓reduceIte, Nat.reduceEqDiff, reduceCtorEq, Nat.reduceAdd, Nat.reduceSub, Nat.reduceLeDiff, Nat.reduceLT, Nat.reduceMul, Int.reduceToNat, Int.reduceLT, Int.reduceLE])
      refine CallK_do ci ?_
      (try simp (implicitDefEqProofs := false) only [go_sem, ↓reduceIte, Nat.reduceEqDiff, reduceCtorEq, Nat.reduceAdd, Nat.reduceSub, Nat.reduceLeDiff, Nat.reduceLT, Nat.reduceMul, Int.reduceToNat, Int.reduceLT, Int.reduceLE])
      refine CallK_do ch ?_
      (try simp (implicitDefEqProofs := false) only [go_sem, ↓reduceIte, Nat.reduceEqDiff, reduceCtorEq, Nat.reduceAdd, Nat.reduceSub, Nat.reduceLeDiff, Nat.reduceLT, Nat.reduceMul, Int.reduceToNat, Int.reduceLT, Int.reduceLE, show decide (hh ≤ H) = true from by simpa using hhH])
      refine CallK_do cz ?_
      (try simp (implicitDefEqProofs := false) only [go_sem, ↓reduceIte, Nat.reduceEqDiff, reduceCtorEq, Nat.reduceAdd, Nat.reduceSub, Nat.reduceLeDiff, Nat.reduceLT, Nat.reduceMul, Int.reduceToNat, Int.reduceLT, Int.reduceLE, hN, hN0, Int.toNat_natCast, hN64, wN, show decide (z ≤ 4 * 2 ^ N) = true from by simpa using hz])
      refine CallK_do merges_does ?_
      (try simp (implicitDefEqProofs := false) only [go_sem, ↓reduceIte, Nat.reduceEqDiff, reduceCtorEq, Nat.reduceAdd, Nat.reduceSub, Nat.reduceLeDiff, Nat.reduceLT, Nat.reduceMul, Int.reduceToNat, Int.reduceLT, Int.reduceLE])
end Go.Proofs.Ytopgmopdjiahmaa.Lg

/- Casts, one behind the other: the loop's body. Conditions: none; plain definitions and lemmas. -/
set_option linter.unusedVariables false
set_option linter.unusedSimpArgs false
set_option maxRecDepth 100000
set_option maxHeartbeats 4000000
namespace Go.Proofs.Ytopgmopdjiahmaa.Lg
open Go Go.RowKit Go.Proofs

/-- a value that is a row, whichever way -/
structure IsY (y : LV) (tb : List (List IV)) (fy : Bool) : Prop where
  r : ∀ (s : List (Key × Box)) (n : Nat), res s (n + 1) y = some (fy, .slice tb)
  n : ∀ (l : List Nat) (n : Nat), renV l (n + 1) y = some y
  k : ∀ (s : List (Key × Box)) (n : Nat), keys s (n + 1) y = []
theorem IsTy.y {t : Ty} {l : List LV} (h : IsTy t l) : ∃ f y fy, l = [.imm f (.int .i8 t.k), y] ∧ IsY y (Ty.cellsL t.ts) fy := by
  obtain ⟨f, y, rfl, ⟨rfl, h2⟩ | ⟨f2, rfl⟩⟩ := h
  · exact ⟨f, _, true, rfl, fun s n => by rw [h2]; rfl, fun l n => rfl, fun s n => rfl⟩
  · exact ⟨f, _, _, rfl, fun s n => rfl, fun l n => rfl, fun s n => rfl⟩
def rowV : List Cn → LV
  | [] => .nils
  | C => .row (.own 100) C.length
def rowB : List Cn → List (Key × Box)
  | [] => []
  | C => [(.own 100, .row 28 8 (C.map (vx true)))]
theorem rowV_ne {C : List Cn} (h : C ≠ []) : rowV C = .row (.own 100) C.length := by cases C with
  | nil => exact absurd rfl h
  | cons c C => rfl
theorem rowB_ne {C : List Cn} (h : C ≠ []) : rowB C = [(.own 100, .row 28 8 (C.map (vx true)))] := by cases C with
  | nil => exact absurd rfl h
  | cons c C => rfl

theorem body3_does {C : List Cn} (h8 : C.length < 8) {lab H at_ nn jj : Int} {fl : Bool} {lc tc : List (List IV)} {B a : Ty} {lb la : List LV} (hlb : IsTy B lb) (hla : IsTy a la) {c : Cn}
    (dc : Does Try.prog 29 [.imm false (.agg B.cells), .imm false (.agg a.cells), .imm false (.int .i64 lab)] [] (.ret true (coV (c, 0))) []) (di : Does Try.prog 22 [.imm false (.agg c.cells)] [] (.ret true (.bool true)) []) {ex : List (Nat × LV)} (hx : ex = [] ∨ ex = [(76, .imm true (.bool false))]) {Q : AEx → St → Prop}
    (hQ : Q .normal ⟨[(1, .imm false (.slice lc)), (2, .imm fl (.int .i64 at_)), (7, .row (.own 100) (C.length + 1)), (8, .imm true (.int .i64 H)), (9, .loc (.own 9) 0), (11, .loc (.own 11) 0), (30, .imm false (.slice tc)), (31, .imm true (.int .i64 nn)), (32, .imm true (.int .i64 jj))],
      [(.own 9, .var lb), (.own 11, .var la), (.own 100, .row 28 8 ((C ++ [c]).map (vx true)))], []⟩) :
    awp Try.prog (.seq r10_13 (.seq (.seq r10_14 (.cond (.t 96) (.seq r10_15 .ret) .skip)) r10_16)) Q
      ⟨[(1, .imm false (.slice lc)), (2, .imm fl (.int .i64 at_)), (7, rowV C), (8, .imm true (.int .i64 H)), (9, .loc (.own 9) 0), (11, .loc (.own 11) 0), (12, .imm true (.int .i64 lab)), (30, .imm false (.slice tc)), (31, .imm true (.int .i64 nn)), (32, .imm true (.int .i64 jj))] ++ ex,
      (.own 9, .var lb) :: (.own 11, .var la) :: rowB C, []⟩ := by
  obtain ⟨fb, yb, gb, rfl, hb⟩ := hlb.y
  obtain ⟨fa, ya, ga, rfl, ha⟩ := hla.y
  simp only [coV, Cn.cells_ex, Ty.cells_eq] at dc di
  rw [List.map_append, List.map_cons, List.map_nil] at hQ
  simp only [vx] at hQ
  have ne0 : ((0 : Int) != 0) = false := rfl
  by_cases hC : C = []
  · subst hC
    simp only [rowV, rowB]
    rcases hx with rfl | rfl
    all_goals
      simp only [List.cons_append, List.nil_append]
      (try simp (implicitDefEqProofs := false) only [go_sem, ↓reduceIte, Nat.reduceEqDiff, reduceCtorEq, Nat.reduceAdd, Nat.reduceSub, Nat.reduceLeDiff, Nat.reduceLT, Nat.reduceMul, Int.reduceToNat, Int.reduceLT, Int.reduceLE, hb.r, hb.n, hb.k, ha.r, ha.n, ha.k])
      refine CallK_do dc ?_
      (try simp (implicitDefEqProofs := false) only [go_sem, ↓reduceIte, Nat.reduceEqDiff, reduceCtorEq, Nat.reduceAdd, Nat.reduceSub, Nat.reduceLeDiff, Nat.reduceLT, Nat.reduceMul, Int.reduceToNat, Int.reduceLT, Int.reduceLE, hb.r, hb.n, hb.k, ha.r, ha.n, ha.k, ne0])
      refine CallK_do di ?_
      (try simp (implicitDefEqProofs := false) only [go_sem, ↓reduceIte, Nat.reduceEqDiff, reduceCtorEq, Nat.reduceAdd, Nat.reduceSub, Nat.reduceLeDiff, Nat.reduceLT, Nat.reduceMul, Int.reduceToNat, Int.reduceLT, Int.reduceLE, hb.r, hb.n, hb.k, ha.r, ha.n, ha.k, Bool.not_true])
      exact hQ
  · rw [rowV_ne hC, rowB_ne hC]
    have hsz : (C.length + 1) * 112 ≤ 140737488355328 ↔ True := by simp; omega
    rcases hx with rfl | rfl
    all_goals
      simp only [List.cons_append, List.nil_append]
      (try simp (implicitDefEqProofs := false) only [go_sem, ↓reduceIte, Nat.reduceEqDiff, reduceCtorEq, Nat.reduceAdd, Nat.reduceSub, Nat.reduceLeDiff, Nat.reduceLT, Nat.reduceMul, Int.reduceToNat, Int.reduceLT, Int.reduceLE, hb.r, hb.n, hb.k, ha.r, ha.n, ha.k, renLL_vx])
      refine CallK_do dc ?_
      (try simp (implicitDefEqProofs := false) only [go_sem, ↓reduceIte, Nat.reduceEqDiff, reduceCtorEq, Nat.reduceAdd, Nat.reduceSub, Nat.reduceLeDiff, Nat.reduceLT, Nat.reduceMul, Int.reduceToNat, Int.reduceLT, Int.reduceLE, hb.r, hb.n, hb.k, ha.r, ha.n, ha.k, renLL_vx, ne0])
      refine CallK_do di ?_
      (try simp (implicitDefEqProofs := false) only [go_sem, ↓reduceIte, Nat.reduceEqDiff, reduceCtorEq, Nat.reduceAdd, Nat.reduceSub, Nat.reduceLeDiff, Nat.reduceLT, Nat.reduceMul, Int.reduceToNat, Int.reduceLT, Int.reduceLE, hb.r, hb.n, hb.k, ha.r, ha.n, ha.k, renLL_vx, Bool.not_true, List.length_map, hsz])
      exact hQ

theorem labIn_small {l : Int} (h : l.tmod 1000 ≠ 0) : labIn (l.tmod 1000) = true := by
  have a1 := Int.tmod_lt_of_pos l (show (0 : Int) < 1000 by omega)
  have a2 := Int.lt_tmod_of_pos l (show (0 : Int) < 1000 by omega)
  exact decide_eq_true ⟨h, by omega, by omega⟩
def restM : MC := .seq r10_10 (.seq (.seq r10_11 (.cond (.t 76) r10_12 .skip)) (.seq r10_13 (.seq (.seq r10_14 (.cond (.t 96) (.seq r10_15 .ret) .skip)) r10_16)))
theorem next_does {C : List Cn} (h8 : C.length < 8) {H at_ nn jj ha : Int} (hH : 0 < H) {fl : Bool} {labels : List Int} (hll : labels.length ≤ 9223372036854775807) {tc : List (List IV)} {B a : Ty} {lb la : List LV} (hlb : IsTy B lb) (hla : IsTy a la)
    (dt : Does Try.prog 40 [.imm false (.agg a.cells)] [] (.ret true (.int .i64 ha)) []) {Q : AEx → St → Prop}
    (hc : ∀ lab, labIn lab = true → ∃ c, Does Try.prog 29 [.imm false (.agg B.cells), .imm false (.agg a.cells), .imm false (.int .i64 lab)] [] (.ret true (coV (c, 0))) [] ∧ Does Try.prog 22 [.imm false (.agg c.cells)] [] (.ret true (.bool true)) [] ∧
      Q .normal ⟨[(1, .imm false (.slice (labels.map fun l => [.int .i64 l]))), (2, .imm fl (.int .i64 at_)), (7, .row (.own 100) (C.length + 1)), (8, .imm true (.int .i64 (maxI H ha))), (9, .loc (.own 9) 0), (30, .imm false (.slice tc)), (31, .imm true (.int .i64 nn)), (32, .imm true (.int .i64 jj))],
        [(.own 9, .var la), (.own 100, .row 28 8 ((C ++ [c]).map (vx true)))], []⟩) :
    awp Try.prog restM (Then (awp Try.prog r10_17 Q) Q)
      ⟨[(1, .imm false (.slice (labels.map fun l => [.int .i64 l]))), (2, .imm fl (.int .i64 at_)), (7, rowV C), (8, .imm true (.int .i64 H)), (9, .loc (.own 9) 0), (11, .loc (.own 11) 0), (30, .imm false (.slice tc)), (31, .imm true (.int .i64 nn)), (32, .imm true (.int .i64 jj)), (59, .imm true (.bool true))],
      (.own 9, .var lb) :: (.own 11, .var la) :: rowB C, []⟩ := by
  unfold restM
  obtain ⟨fb, yb, gb, e1, hb⟩ := hlb.y
  obtain ⟨fa, ya, ga, e2, hA⟩ := hla.y
  subst e1 e2
  have k0 : ((1000 : Int) = 0) ↔ False := by simp
  have last : ∀ lab, labIn lab = true → ∀ ex, (ex = [] ∨ ex = [(76, .imm true (.bool false))]) → awp Try.prog (.seq r10_13 (.seq (.seq r10_14 (.cond (.t 96) (.seq r10_15 .ret) .skip)) r10_16)) (Then (awp Try.prog r10_17 Q) Q)
      ⟨[(1, .imm false (.slice (labels.map fun l => [.int .i64 l]))), (2, .imm fl (.int .i64 at_)), (7, rowV C), (8, .imm true (.int .i64 H)), (9, .loc (.own 9) 0), (11, .loc (.own 11) 0), (12, .imm true (.int .i64 lab)), (30, .imm false (.slice tc)), (31, .imm true (.int .i64 nn)), (32, .imm true (.int .i64 jj))] ++ ex,
      (.own 9, .var [.imm fb (.int .i8 B.k), yb]) :: (.own 11, .var [.imm fa (.int .i8 a.k), ya]) :: rowB C, []⟩ := by
    intro lab hl ex hx
    obtain ⟨c, d1, d2, q⟩ := hc lab hl
    refine body3_does h8 hlb hla d1 d2 hx ?_
    simp only [Ty.cells_eq] at dt
    (try simp (implicitDefEqProofs := false) only [go_sem, ↓reduceIte, Nat.reduceEqDiff, reduceCtorEq, Nat.reduceAdd, Nat.reduceSub, Nat.reduceLeDiff, Nat.reduceLT, Nat.reduceMul, Int.reduceToNat, Int.reduceLT, Int.reduceLE, hb.r, hb.n, hb.k, hA.r, hA.n, hA.k, renLL_vx])
    refine CallK_do dt ?_
    (try simp (implicitDefEqProofs := false) only [go_sem, ↓reduceIte, Nat.reduceEqDiff, reduceCtorEq, Nat.reduceAdd, Nat.reduceSub, Nat.reduceLeDiff, Nat.reduceLT, Nat.reduceMul, Int.reduceToNat, Int.reduceLT, Int.reduceLE, hb.r, hb.n, hb.k, hA.r, hA.n, hA.k, renLL_vx])
    exact q
  obtain ⟨b3, hb3⟩ : ∃ b, MC.seq r10_13 (.seq (.seq r10_14 (.cond (.t 96) (.seq r10_15 .ret) .skip)) r10_16) = b := ⟨_, rfl⟩
  rw [hb3] at last ⊢
  have hw := wrap64 (n := (C.length : Int) + 1) (by omega) (by omega)
  have hsz : labIn ((C.length : Int) + 1) = true := decide_eq_true ⟨by omega, by omega, by omega⟩
  have lt : C.length < labels.length → ((labels.map fun l => [IV.int .i64 l])[C.length]?) = some [.int .i64 (labels.getD C.length 0)] := by
    intro h; simp [List.getD, h]
  by_cases hC : C = []
  · subst hC
    simp only [rowV, rowB, List.length_nil] at lt last ⊢
    by_cases h1 : 0 < labels.length
    · have d1 : decide ((0 : Int) < labels.length) = true := by simpa using h1
      have lt := lt h1
      by_cases h2 : (labels.getD 0 0).tmod 1000 = 0
      · have d2 : ((labels.getD 0 0).tmod 1000 != 0) = false := by simpa using h2
        (try simp (implicitDefEqProofs := false) only [go_sem, ↓reduceIte, Nat.reduceEqDiff, reduceCtorEq, Nat.reduceAdd, Nat.reduceSub, Nat.reduceLeDiff, Nat.reduceLT, Nat.reduceMul, Int.reduceToNat, Int.reduceLT, Int.reduceLE, hb.r, hb.n, hb.k, hA.r, hA.n, hA.k, List.length_map, d1, lt, d2, wrap01, k0])
        exact last _ lab1 _ (.inr rfl)
      · have d2 : ((labels.getD 0 0).tmod 1000 != 0) = true := by simpa using h2
        (try simp (implicitDefEqProofs := false) only [go_sem, ↓reduceIte, Nat.reduceEqDiff, reduceCtorEq, Nat.reduceAdd, Nat.reduceSub, Nat.reduceLeDiff, Nat.reduceLT, Nat.reduceMul, Int.reduceToNat, Int.reduceLT, Int.reduceLE, hb.r, hb.n, hb.k, hA.r, hA.n, hA.k, List.length_map, d1, lt, d2, wrap01, k0])
        exact last _ (labIn_small h2) _ (.inl rfl)
    · have d1 : decide ((0 : Int) < labels.length) = false := by simpa using h1
      (try simp (implicitDefEqProofs := false) only [go_sem, ↓reduceIte, Nat.reduceEqDiff, reduceCtorEq, Nat.reduceAdd, Nat.reduceSub, Nat.reduceLeDiff, Nat.reduceLT, Nat.reduceMul, Int.reduceToNat, Int.reduceLT, Int.reduceLE, hb.r, hb.n, hb.k, hA.r, hA.n, hA.k, List.length_map, d1, wrap01])
      exact last _ lab1 _ (.inr rfl)
  · rw [rowV_ne hC, rowB_ne hC] at last ⊢
    by_cases h1 : C.length < labels.length
    · have d1 : decide ((C.length : Int) < labels.length) = true := by simpa using h1
      have lt := lt h1
      by_cases h2 : (labels.getD C.length 0).tmod 1000 = 0
      · have d2 : ((labels.getD C.length 0).tmod 1000 != 0) = false := by simpa using h2
        (try simp (implicitDefEqProofs := false) only [go_sem, ↓reduceIte, Nat.reduceEqDiff, reduceCtorEq, Nat.reduceAdd, Nat.reduceSub, Nat.reduceLeDiff, Nat.reduceLT, Nat.reduceMul, Int.reduceToNat, Int.reduceLT, Int.reduceLE, hb.r, hb.n, hb.k, hA.r, hA.n, hA.k, renLL_vx, List.length_map, d1, lt, d2, hw, k0, Int.toNat_natCast, Int.natCast_nonneg])
        exact last _ hsz _ (.inr rfl)
      · have d2 : ((labels.getD C.length 0).tmod 1000 != 0) = true := by simpa using h2
        (try simp (implicitDefEqProofs := false) only [go_sem, ↓reduceIte, Nat.reduceEqDiff, reduceCtorEq, Nat.reduceAdd, Nat.reduceSub, Nat.reduceLeDiff, Nat.reduceLT, Nat.reduceMul, Int.reduceToNat, Int.reduceLT, Int.reduceLE, hb.r, hb.n, hb.k, hA.r, hA.n, hA.k, renLL_vx, List.length_map, d1, lt, d2, hw, k0, Int.toNat_natCast, Int.natCast_nonneg])
        exact last _ (labIn_small h2) _ (.inl rfl)
    · have d1 : decide ((C.length : Int) < labels.length) = false := by simpa using h1
      (try simp (implicitDefEqProofs := false) only [go_sem, ↓reduceIte, Nat.reduceEqDiff, reduceCtorEq, Nat.reduceAdd, Nat.reduceSub, Nat.reduceLeDiff, Nat.reduceLT, Nat.reduceMul, Int.reduceToNat, Int.reduceLT, Int.reduceLE, hb.r, hb.n, hb.k, hA.r, hA.n, hA.k, renLL_vx, List.length_map, d1, hw])
      exact last _ hsz _ (.inr rfl)
end Go.Proofs.Ytopgmopdjiahmaa.Lg

/- Casts, one behind the other: the whole walk. Conditions: none; plain definitions and lemmas. -/
set_option linter.unusedVariables false
set_option linter.unusedSimpArgs false
set_option maxRecDepth 100000
set_option maxHeartbeats 4000000
namespace Go.Proofs.Ytopgmopdjiahmaa.Lg
open Go Go.RowKit Go.Proofs

theorem isTy_un : IsTy .un [.imm true (.int .i8 0), .nils] := ⟨true, .nils, rfl, .inl ⟨rfl, rfl⟩⟩
theorem isTy_mk (k : Int) (us : List Ty) : IsTy (.mk k us) [.imm false (.int .i8 k), .imm false (.slice (Ty.cellsL us))] := ⟨false, _, rfl, .inr ⟨false, rfl⟩⟩
theorem pre_does {C : List Cn} {H at_ nn : Int} {fl : Bool} {lc : List (List IV)} {ts : List Ty} (hts : Ty.fitsL ts) {j : Nat} (hj : j < ts.length) {B : Ty} (hB : B.fits) (hBc : B.check = 0) {lb : List LV} (hlb : IsTy B lb) (h0 : H = 0 → C = []) (hHH : 0 ≤ H) {b2 : MC} {Q : AEx → St → Prop}
    (hexit : ∀ la, Q (.exit 0) ⟨[(1, .imm false (.slice lc)), (2, .imm fl (.int .i64 at_)), (7, rowV C), (8, .imm true (.int .i64 H)), (9, .loc (.own 9) 0), (11, .loc (.own 11) 0), (30, .imm false (.slice (Ty.cellsL ts))), (31, .imm true (.int .i64 nn)), (32, .imm true (.int .i64 j)), (48, .imm true (.bool true))],
      (.own 9, .var lb) :: (.own 11, .var la) :: rowB C, []⟩)
    (hgo : ∀ a la, a.fits → IsTy a la → a.check = 0 → a.nodes ≤ 60 → C.length < 8 → (H > 0 → B.lev a = true → awp Try.prog b2 (Then (awp Try.prog r10_17 Q) Q) ⟨[(1, .imm false (.slice lc)), (2, .imm fl (.int .i64 at_)), (7, rowV C), (8, .imm true (.int .i64 H)), (9, .loc (.own 9) 0), (11, .loc (.own 11) 0), (30, .imm false (.slice (Ty.cellsL ts))), (31, .imm true (.int .i64 nn)), (32, .imm true (.int .i64 j)), (59, .imm true (.bool true))],
      (.own 9, .var lb) :: (.own 11, .var la) :: rowB C, []⟩) ∧
      (H = 0 → Q .normal ⟨[(1, .imm false (.slice lc)), (2, .imm fl (.int .i64 at_)), (7, .nils), (8, .imm true (.int .i64 (maxI 0 a.high))), (9, .loc (.own 9) 0), (30, .imm false (.slice (Ty.cellsL ts))), (31, .imm true (.int .i64 nn)), (32, .imm true (.int .i64 j))], [(.own 9, .var la)], []⟩)) :
    awp Try.prog (.seq r10_5 (.seq (.seq r10_6 (.cond (.t 48) (.exit 0) .skip)) (.seq (.seq r10_7 (.cond (.t 56) r10_8 .skip)) (.seq (.seq r10_9 (.cond (.t 59) b2 .skip)) r10_17)))) Q
      ⟨[(1, .imm false (.slice lc)), (2, .imm fl (.int .i64 at_)), (7, rowV C), (8, .imm true (.int .i64 H)), (9, .loc (.own 9) 0), (30, .imm false (.slice (Ty.cellsL ts))), (31, .imm true (.int .i64 nn)), (32, .imm true (.int .i64 j)), (33, .imm true (.bool true))], (.own 9, .var lb) :: rowB C, []⟩ := by
  obtain ⟨fb, yb, gb, e1, hb⟩ := hlb.y
  subst e1
  obtain ⟨k, us, hm, hat, hdr, _⟩ := Ty.kid hj
  have hf := Ty.fitsL_mem hts _ hm
  have dc := check_does (.mk k us) hf
  have dn := nodes_does (.mk k us) hf
  have da := agree_does B (.mk k us) hB hf
  have ht := isTy_mk k us
  have ga : C.length < 8 → (Ty.mk k us).check = 0 → (Ty.mk k us).nodes ≤ 60 → _ := fun h8 hc hn => hgo _ _ hf ht hc hn h8
  have gu : C.length < 8 → _ := fun h8 => hgo _ _ un_fits isTy_un un_check (by rw [un_nodes]; omega) h8
  have hagr : (Ty.mk k us).check = 0 → B.agree (.mk k us) = B.lev (.mk k us) := by
    intro h; simp [Ty.agree, hBc, h]
  have dt : (Ty.mk k us).nodes ≤ 60 → _ := fun hn => tall_does (.mk k us) hf (by have := high_nodes (.mk k us); omega)
  simp only [Ty.cells_eq, Ty.k_mk, Ty.ts_mk] at dc dn da dt
  have ne0 : ((0 : Int) != 0) = false := rfl
  by_cases hC : C = []
  · subst hC
    simp only [rowV, rowB] at hexit ga gu ⊢
    (try simp (implicitDefEqProofs := false) only [go_sem, ↓reduceIte, Nat.reduceEqDiff, reduceCtorEq, Nat.reduceAdd, Nat.reduceSub, Nat.reduceLeDiff, Nat.reduceLT, Nat.reduceMul, Int.reduceToNat, Int.reduceLT, Int.reduceLE, hb.r, hb.n, hb.k, hat, Int.toNat_natCast, Int.natCast_nonneg, show decide ((0 : Int) ≥ 8) = false from rfl])
    refine CallK_do dc ?_
    by_cases hc : (Ty.mk k us).check = 0
    · (try simp (implicitDefEqProofs := false) only [go_sem, ↓reduceIte, Nat.reduceEqDiff, reduceCtorEq, Nat.reduceAdd, Nat.reduceSub, Nat.reduceLeDiff, Nat.reduceLT, Nat.reduceMul, Int.reduceToNat, Int.reduceLT, Int.reduceLE, hb.r, hb.n, hb.k, hc, ne0])
      refine CallK_do dn ?_
      by_cases hn : (Ty.mk k us).nodes ≤ 60
      · have hn' : decide (nodesF (Ty.mk k us).nodes > 60) = false := by simp [nodesF]; split <;> omega
        by_cases hH : H > 0
        · have hd : decide (H > 0) = true := by simpa using hH
          (try simp (implicitDefEqProofs := false) only [go_sem, ↓reduceIte, Nat.reduceEqDiff, reduceCtorEq, Nat.reduceAdd, Nat.reduceSub, Nat.reduceLeDiff, Nat.reduceLT, Nat.reduceMul, Int.reduceToNat, Int.reduceLT, Int.reduceLE, hb.r, hb.n, hb.k, hn', hd])
          refine CallK_do da ?_
          rw [hagr hc]
          cases hl : B.lev (.mk k us) with
          | true =>
            (try simp (implicitDefEqProofs := false) only [go_sem, ↓reduceIte, Nat.reduceEqDiff, reduceCtorEq, Nat.reduceAdd, Nat.reduceSub, Nat.reduceLeDiff, Nat.reduceLT, Nat.reduceMul, Int.reduceToNat, Int.reduceLT, Int.reduceLE, hb.r, hb.n, hb.k, hd, Bool.not_true])
            exact (ga (by simp) hc hn).1 hH hl
          | false =>
            (try simp (implicitDefEqProofs := false) only [go_sem, ↓reduceIte, Nat.reduceEqDiff, reduceCtorEq, Nat.reduceAdd, Nat.reduceSub, Nat.reduceLeDiff, Nat.reduceLT, Nat.reduceMul, Int.reduceToNat, Int.reduceLT, Int.reduceLE, hb.r, hb.n, hb.k, hd, Bool.not_false])
            exact (gu (by simp)).1 hH (un_lev B).1
        · have hd : decide (H > 0) = false := by simpa using hH
          have hH0 : H = 0 := by omega
          subst hH0
          (try simp (implicitDefEqProofs := false) only [go_sem, ↓reduceIte, Nat.reduceEqDiff, reduceCtorEq, Nat.reduceAdd, Nat.reduceSub, Nat.reduceLeDiff, Nat.reduceLT, Nat.reduceMul, Int.reduceToNat, Int.reduceLT, Int.reduceLE, hb.r, hb.n, hb.k, hn', hd])
          refine CallK_do (dt hn) ?_
          (try simp (implicitDefEqProofs := false) only [go_sem, ↓reduceIte, Nat.reduceEqDiff, reduceCtorEq, Nat.reduceAdd, Nat.reduceSub, Nat.reduceLeDiff, Nat.reduceLT, Nat.reduceMul, Int.reduceToNat, Int.reduceLT, Int.reduceLE, hb.r, hb.n, hb.k])
          exact (ga (by simp) hc hn).2 rfl
      · have hn' : decide (nodesF (Ty.mk k us).nodes > 60) = true := by simp [nodesF]; split <;> omega
        (try simp (implicitDefEqProofs := false) only [go_sem, ↓reduceIte, Nat.reduceEqDiff, reduceCtorEq, Nat.reduceAdd, Nat.reduceSub, Nat.reduceLeDiff, Nat.reduceLT, Nat.reduceMul, Int.reduceToNat, Int.reduceLT, Int.reduceLE, hb.r, hb.n, hb.k, hn'])
        exact hexit _
    · have hc' : ((Ty.mk k us).check != 0) = true := by simpa using hc
      (try simp (implicitDefEqProofs := false) only [go_sem, ↓reduceIte, Nat.reduceEqDiff, reduceCtorEq, Nat.reduceAdd, Nat.reduceSub, Nat.reduceLeDiff, Nat.reduceLT, Nat.reduceMul, Int.reduceToNat, Int.reduceLT, Int.reduceLE, hb.r, hb.n, hb.k, hc'])
      exact hexit _
  · rw [rowV_ne hC, rowB_ne hC] at hexit ga gu ⊢
    have hH : H > 0 := by
      by_cases h : H = 0
      · exact absurd (h0 h) hC
      · omega
    have hd : decide (H > 0) = true := by simpa using hH
    by_cases h8 : C.length < 8
    · have h8' : decide ((C.length : Int) ≥ 8) = false := by simp; omega
      (try simp (implicitDefEqProofs := false) only [go_sem, ↓reduceIte, Nat.reduceEqDiff, reduceCtorEq, Nat.reduceAdd, Nat.reduceSub, Nat.reduceLeDiff, Nat.reduceLT, Nat.reduceMul, Int.reduceToNat, Int.reduceLT, Int.reduceLE, hb.r, hb.n, hb.k, renLL_vx, hat, Int.toNat_natCast, Int.natCast_nonneg, h8'])
      refine CallK_do dc ?_
      by_cases hc : (Ty.mk k us).check = 0
      · (try simp (implicitDefEqProofs := false) only [go_sem, ↓reduceIte, Nat.reduceEqDiff, reduceCtorEq, Nat.reduceAdd, Nat.reduceSub, Nat.reduceLeDiff, Nat.reduceLT, Nat.reduceMul, Int.reduceToNat, Int.reduceLT, Int.reduceLE, hb.r, hb.n, hb.k, renLL_vx, hc, ne0])
        refine CallK_do dn ?_
        by_cases hn : (Ty.mk k us).nodes ≤ 60
        · have hn' : decide (nodesF (Ty.mk k us).nodes > 60) = false := by simp [nodesF]; split <;> omega
          (try simp (implicitDefEqProofs := false) only [go_sem, ↓reduceIte, Nat.reduceEqDiff, reduceCtorEq, Nat.reduceAdd, Nat.reduceSub, Nat.reduceLeDiff, Nat.reduceLT, Nat.reduceMul, Int.reduceToNat, Int.reduceLT, Int.reduceLE, hb.r, hb.n, hb.k, renLL_vx, hn', hd])
          refine CallK_do da ?_
          rw [hagr hc]
          cases hl : B.lev (.mk k us) with
          | true =>
            (try simp (implicitDefEqProofs := false) only [go_sem, ↓reduceIte, Nat.reduceEqDiff, reduceCtorEq, Nat.reduceAdd, Nat.reduceSub, Nat.reduceLeDiff, Nat.reduceLT, Nat.reduceMul, Int.reduceToNat, Int.reduceLT, Int.reduceLE, hb.r, hb.n, hb.k, renLL_vx, hd, Bool.not_true])
            exact (ga h8 hc hn).1 hH hl
          | false =>
            (try simp (implicitDefEqProofs := false) only [go_sem, ↓reduceIte, Nat.reduceEqDiff, reduceCtorEq, Nat.reduceAdd, Nat.reduceSub, Nat.reduceLeDiff, Nat.reduceLT, Nat.reduceMul, Int.reduceToNat, Int.reduceLT, Int.reduceLE, hb.r, hb.n, hb.k, renLL_vx, hd, Bool.not_false])
            exact (gu h8).1 hH (un_lev B).1
        · have hn' : decide (nodesF (Ty.mk k us).nodes > 60) = true := by simp [nodesF]; split <;> omega
          (try simp (implicitDefEqProofs := false) only [go_sem, ↓reduceIte, Nat.reduceEqDiff, reduceCtorEq, Nat.reduceAdd, Nat.reduceSub, Nat.reduceLeDiff, Nat.reduceLT, Nat.reduceMul, Int.reduceToNat, Int.reduceLT, Int.reduceLE, hb.r, hb.n, hb.k, renLL_vx, hn'])
          exact hexit _
      · have hc' : ((Ty.mk k us).check != 0) = true := by simpa using hc
        (try simp (implicitDefEqProofs := false) only [go_sem, ↓reduceIte, Nat.reduceEqDiff, reduceCtorEq, Nat.reduceAdd, Nat.reduceSub, Nat.reduceLeDiff, Nat.reduceLT, Nat.reduceMul, Int.reduceToNat, Int.reduceLT, Int.reduceLE, hb.r, hb.n, hb.k, renLL_vx, hc'])
        exact hexit _
    · have h8' : decide ((C.length : Int) ≥ 8) = true := by simp; omega
      (try simp (implicitDefEqProofs := false) only [go_sem, ↓reduceIte, Nat.reduceEqDiff, reduceCtorEq, Nat.reduceAdd, Nat.reduceSub, Nat.reduceLeDiff, Nat.reduceLT, Nat.reduceMul, Int.reduceToNat, Int.reduceLT, Int.reduceLE, hb.r, hb.n, hb.k, renLL_vx, hat, Int.toNat_natCast, Int.natCast_nonneg, h8'])
      exact hexit _
end Go.Proofs.Ytopgmopdjiahmaa.Lg

/- Casts, one behind the other: TopMerges answers true. Conditions: none; plain definitions and lemmas. -/
set_option linter.unusedVariables false
set_option linter.unusedSimpArgs false
set_option maxRecDepth 100000
set_option maxHeartbeats 4000000
namespace Go.Proofs.Ytopgmopdjiahmaa.Lg
open Go Go.RowKit Go.Proofs

def tailM : MC := .seq r10_21 (.seq (.seq r10_22 (.block 2 (.loop l10_1))) (.seq r10_30 (.seq r10_31 (.seq r10_32 (.seq r10_33 (.seq (.seq r10_34 (.cond (.t 209) (.seq r10_35 .ret) .skip)) (.seq r10_36 .ret)))))))
theorem fits_of {t : Ty} (h : t.check = 0) : t.fits := Ty.right_fits _ (check_iff.1 h).2.2
theorem finish_does {L : List Nf} {A B : Ty} {H : Int} (hc : Caz H A L B) (hH : 0 ≤ H ∧ H ≤ 60) (h8 : L.length ≤ 8) {lb : List LV} (hlb : IsTy B lb) {at_ : Int} {fl : Bool} (hat : -9223372036854775808 ≤ at_ ∧ at_ ≤ 9223372036854775807)
    {C : List Cn} (hC : C = L.map Nf.cn) (h2 : 2 ≤ C.length) :
    awp Try.prog tailM (Fin [MR.t 6] (.ret true (.bool true)) []) ⟨[(2, .imm fl (.int .i64 at_)), (7, .row (.own 100) C.length), (8, .imm true (.int .i64 H)), (9, .loc (.own 9) 0), (109, .imm true (.bool false))], [(.own 9, .var lb), (.own 100, .row 28 8 (C.map (vx true)))], []⟩ := by
  have hn : C.length = L.length := by rw [hC, List.length_map]
  have S := segs hc hH.2 h8
  rw [← hC] at S
  obtain ⟨w, hd, hcnt, hk, e1, e2⟩ := seg_ok hc hH.2 h8 (show 0 < C.length by omega) (by omega)
  obtain ⟨w', _, _, hk', e1', _⟩ := seg_ok hc hH.2 h8 (show 0 < 1 by omega) (show 1 ≤ L.length by omega)
  have e1 := e1 rfl
  have e2 := e2 hn
  have e1' := e1' rfl
  have k0 : (seg L 0 C.length).cn.chk.2.2 = 0 := by rw [hk]
  obtain ⟨p1, p2, p3, p4, p5⟩ := nf_ends' w k0
  rw [e1] at p3
  rw [e2] at p4
  have ck1 := cchk_does _ (cn_fits w)
  rw [hk, e1, e2] at ck1
  have ck2 := cchk_does _ (cn_fits w')
  rw [hk', e1'] at ck2
  have sa := same_does A A (fits_of p3) (fits_of p3)
  rw [Ty.same_refl p3] at sa
  have sb := same_does B B (fits_of p4) (fits_of p4)
  rw [Ty.same_refl p4] at sb
  have cs := csameF_does _ _ (cn_fits w) (cn_fits w)
  rw [show (seg L 0 C.length).cn.sameF (seg L 0 C.length).cn = true from by simp [Cn.sameF, k0, Cn.same_refl _ (ok_iff k0).2.2.1]] at cs
  have ci := is_does _ (cn_fits w)
  rw [nf_isB w k0] at ci
  have ch := cheight_does _ (cn_fits w)
  rw [Cn.heightF, if_pos k0, cn_height w] at ch
  have cz := csize_does _ (cn_fits w)
  rw [Cn.sizeF, if_pos k0, cn_size w] at cz
  have hhi := hi_de (seg L 0 C.length)
  have hsi := (si_le _ 2 (by omega) w).2
  have hsc := si_cnt w
  have hp := Nf.hi_pos (seg L 0 C.length)
  refine tail_does S h2 (by omega) hlb hH hat ck1 ck2 sa sb cs ci ch cz (by omega) ?_
  by_cases h40 : 40 < H
  · have : minI H 40 = 40 := by unfold minI; rw [if_pos h40]
    rw [this, show (40 : Int).toNat = 40 from rfl]
    omega
  · have : minI H 40 = H := by unfold minI; rw [if_neg h40]
    rw [this]
    have hp0 : (0 : Int) < (2 : Int) ^ H.toNat := Int.pow_pos (by omega)
    have hpow : (2 : Int) ^ (seg L 0 C.length).hi.toNat ≤ (2 : Int) ^ H.toNat := by exact_mod_cast Nat.pow_le_pow_right (by omega : 0 < 2) (by omega)
    omega

def StM (ts : List Ty) (labels : List Int) (at_ : Int) (row : LV) (rb : List (Key × Box)) (H : Int) (lb : List LV) (j : Int) : St := ⟨[(1, .imm false (.slice (labels.map fun l => [.int .i64 l]))), (2, .imm false (.int .i64 at_)), (7, row), (8, .imm true (.int .i64 H)), (9, .loc (.own 9) 0), (30, .imm false (.slice (Ty.cellsL ts))), (31, .imm true (.int .i64 ts.length)), (32, .imm true (.int .i64 j))], (.own 9, .var lb) :: rb, []⟩
def InvM (ts : List Ty) (labels : List Int) (at_ : Int) (q : Nat) (σ : St) : Prop := ∃ (j : Nat) (L : List Nf) (A B : Ty) (H : Int) (lb : List LV) (C : List Cn), j ≤ ts.length ∧ q = ts.length - j ∧ Caz H A L B ∧ 0 ≤ H ∧ H ≤ 60 ∧ (H = 0 → C = []) ∧ B.check = 0 ∧ B.nodes ≤ 60 ∧ (H > 0 → B.high ≤ H) ∧ L.length ≤ 8 ∧ IsTy B lb ∧ C = L.map Nf.cn ∧ σ = StM ts labels at_ (rowV C) (rowB C) H lb j
theorem merging_does (ts : List Ty) (hts : Ty.fitsL ts) (hlen : ts.length ≤ 9223372036854775807) (labels : List Int) (hll : labels.length ≤ 9223372036854775807) (at_ : Int) (hat : -9223372036854775808 ≤ at_ ∧ at_ ≤ 9223372036854775807) :
    Does Try.prog 10 [.imm false (.slice (Ty.cellsL ts)), .imm false (.slice (labels.map fun l => [.int .i64 l])), .imm false (.int .i64 at_)] [] (.ret true (.bool true)) [] := by
  have fin : ∀ {L : List Nf} {A B : Ty} {H : Int} (hc : Caz H A L B) (hH : 0 ≤ H ∧ H ≤ 60) (h8 : L.length ≤ 8) {lb : List LV} (hlb : IsTy B lb) {C : List Cn} (hC : C = L.map Nf.cn) (h2 : 2 ≤ C.length),
      awp Try.prog tailM (Fin [MR.t 6] (.ret true (.bool true)) []) ⟨[(2, .imm false (.int .i64 at_)), (7, .row (.own 100) C.length), (8, .imm true (.int .i64 H)), (9, .loc (.own 9) 0), (109, .imm true (.bool false))], [(.own 9, .var lb), (.own 100, .row 28 8 (C.map (vx true)))], []⟩ :=
    fun hc hH h8 _ hlb _ hC h2 => finish_does hc hH h8 hlb hat hC h2
  refine does10 (by rfl) (by rfl) ?_
  rw [show my10 = .seq r10_0 (.seq r10_1 (.seq r10_2 (.seq (.seq r10_3 (.block 0 (.loop l10_0))) (.seq (.seq r10_19 (.cond (.t 109) (.seq r10_20 .ret) .skip)) tailM)))) from rfl]
  obtain ⟨tl, htl⟩ : ∃ b, tailM = b := ⟨_, rfl⟩
  rw [htl] at fin ⊢
  (try simp (implicitDefEqProofs := false) only [go_sem, ↓reduceIte, Nat.reduceEqDiff, reduceCtorEq, Nat.reduceAdd, Nat.reduceSub, Nat.reduceLeDiff, Nat.reduceLT, Nat.reduceMul, Int.reduceToNat, Int.reduceLT, Int.reduceLE, Ty.cellsL_len])
  refine ⟨InvM ts labels at_, ⟨_, 0, [], .un, .un, 0, _, [], by omega, rfl, rfl, by omega, by omega, fun _ => rfl, un_check, by rw [un_nodes]; omega, fun h => absurd h (by omega), by simp, isTy_un, rfl, rfl⟩, ?_⟩
  rintro q σ ⟨j, L, A, B, H, lb, C, hj, rfl, hc, hH0, hH, hHC, hBc, hBn, hBh, h8, hlb, hC, rfl⟩
  have hn : C.length = L.length := by rw [hC, List.length_map]
  obtain ⟨fb, yb, gb, e1, hb⟩ := hlb.y
  rw [show l10_0 = .seq r10_4 (.seq (.cond (.t 33) .skip (.exit 0)) (.seq (.block 1 (.seq r10_5 (.seq (.seq r10_6 (.cond (.t 48) (.exit 0) .skip)) (.seq (.seq r10_7 (.cond (.t 56) r10_8 .skip)) (.seq (.seq r10_9 (.cond (.t 59) restM .skip)) r10_17))))) r10_18)) from rfl]
  have pre := fun (hlt : j < ts.length) (Q : AEx → St → Prop) => pre_does (nn := ts.length) (fl := false) (at_ := at_) (lc := labels.map fun l => [.int .i64 l]) (C := C) hts hlt (fits_of hBc) hBc hlb hHC hH0 (b2 := restM) (Q := Q)
  obtain ⟨pr, hpr⟩ : ∃ b, MC.seq r10_5 (.seq (.seq r10_6 (.cond (.t 48) (.exit 0) .skip)) (.seq (.seq r10_7 (.cond (.t 56) r10_8 .skip)) (.seq (.seq r10_9 (.cond (.t 59) restM .skip)) r10_17))) = b := ⟨_, rfl⟩
  rw [hpr] at pre ⊢
  have nxt : ∀ a la, a.fits → IsTy a la → a.check = 0 → a.nodes ≤ 60 → C.length < 8 → H > 0 → B.lev a = true → ∀ lab, labIn lab = true → ∃ c, Does Try.prog 29 [.imm false (.agg B.cells), .imm false (.agg a.cells), .imm false (.int .i64 lab)] [] (.ret true (coV (c, 0))) [] ∧ Does Try.prog 22 [.imm false (.agg c.cells)] [] (.ret true (.bool true)) [] ∧
      ∃ (L' : List Nf) (H' : Int), Caz H' A L' a ∧ H' = maxI H a.high ∧ 0 < H' ∧ H' ≤ 60 ∧ a.high ≤ H' ∧ L'.length ≤ 8 ∧ C ++ [c] = L'.map Nf.cn := by
    intro a la hf hla hac han hC8 hHp hlev lab hl
    have hl2 := of_decide_eq_true hl
    obtain ⟨r, hr, d⟩ := castA_does B a (fits_of hBc) (fits_of hac) lab (by omega)
    obtain ⟨N, w, en, rfl, hde, hcn⟩ := cast_small hr hBc hac hBn han hlev hl
    have hah := high_nodes a
    have m1 := le_maxI (a := H) (b := a.high)
    have m2 := maxI_le (a := H) (b := a.high) (c := 60) (by omega) (by omega)
    have hB' := hBh hHp
    have m3 := maxI_le (a := B.high) (b := a.high) (c := maxI H a.high) (by omega) (by omega)
    have di := is_does _ (cn_fits w)
    rw [nf_isB w (by rw [nf_small w (by omega) (by omega)])] at di
    refine ⟨N.cn, d, di, L ++ [N], maxI H a.high, (hc.mono m1.1).snoc w en (by omega) hcn, rfl, by omega, m2, m1.2, by simp; omega, by rw [hC]; simp⟩
  subst e1
  by_cases hCn : C = []
  · rw [hCn] at pre nxt ⊢
    have hL : L = [] := by rw [hC] at hCn; simpa using hCn
    simp only [rowV, rowB] at pre ⊢
    by_cases hlt : j < ts.length
    · have hd : decide ((j : Int) < ts.length) = true := by simpa using hlt
      (try simp (implicitDefEqProofs := false) only [go_sem, ↓reduceIte, Nat.reduceEqDiff, reduceCtorEq, Nat.reduceAdd, Nat.reduceSub, Nat.reduceLeDiff, Nat.reduceLT, Nat.reduceMul, Int.reduceToNat, Int.reduceLT, Int.reduceLE, StM, hd, hb.r, hb.n, hb.k])
      have hw := wrap64 (n := (j : Int) + 1) (by omega) (by omega)
      refine pre hlt _ (fun la => ?_) (fun a la hf hla hac han hC8 => ⟨fun hHp hlev => ?_, fun hH0 => ?_⟩)
      · (try simp (implicitDefEqProofs := false) only [go_sem, ↓reduceIte, Nat.reduceEqDiff, reduceCtorEq, Nat.reduceAdd, Nat.reduceSub, Nat.reduceLeDiff, Nat.reduceLT, Nat.reduceMul, Int.reduceToNat, Int.reduceLT, Int.reduceLE, hb.r, hb.n, hb.k, show decide ((0 : Int) < 2) = true from rfl])
        refine CallK_do merges_does ?_
        (try simp (implicitDefEqProofs := false) only [go_sem, ↓reduceIte, Nat.reduceEqDiff, reduceCtorEq, Nat.reduceAdd, Nat.reduceSub, Nat.reduceLeDiff, Nat.reduceLT, Nat.reduceMul, Int.reduceToNat, Int.reduceLT, Int.reduceLE])
      · have hah := high_nodes a
        refine next_does (C := []) (by simp) hHp hll hlb hla (tall_does a hf (by omega)) (fun lab hl => ?_)
        obtain ⟨c, d1, d2, L', H', c1, c2, c3, c4, c5, c6, c7⟩ := nxt a la hf hla hac han (by simp) hHp hlev lab hl
        refine ⟨c, d1, d2, ?_⟩
        obtain ⟨fa, ya, ga, e2, hA⟩ := hla.y
        subst e2
        (try simp (implicitDefEqProofs := false) only [go_sem, ↓reduceIte, Nat.reduceEqDiff, reduceCtorEq, Nat.reduceAdd, Nat.reduceSub, Nat.reduceLeDiff, Nat.reduceLT, Nat.reduceMul, Int.reduceToNat, Int.reduceLT, Int.reduceLE, hA.r, hA.n, hA.k, hw])
        exact ⟨ts.length - (j + 1), by omega, j + 1, L', _, a, H', _, [c], by omega, rfl, c1, by omega, c4, fun h => by omega, hac, han, fun _ => c5, c6, hla, c7, by rw [c2]; rfl⟩
      · subst hH0
        have hah := high_nodes a
        have hap := Ty.high_pos a
        have hm : maxI 0 a.high = a.high := by unfold maxI; rw [if_pos (by omega)]
        have hl2 := hla
        obtain ⟨fa, ya, ga, e2, hA⟩ := hla.y
        subst e2
        (try simp (implicitDefEqProofs := false) only [go_sem, ↓reduceIte, Nat.reduceEqDiff, reduceCtorEq, Nat.reduceAdd, Nat.reduceSub, Nat.reduceLeDiff, Nat.reduceLT, Nat.reduceMul, Int.reduceToNat, Int.reduceLT, Int.reduceLE, hA.r, hA.n, hA.k, hw])
        rw [hm]
        exact ⟨ts.length - (j + 1), by omega, j + 1, [], a, a, a.high, _, [], by omega, rfl, rfl, by omega, by omega, fun h => by omega, hac, han, fun _ => Int.le_refl _, by simp, hl2, rfl, rfl⟩
    · have hd : decide ((j : Int) < ts.length) = false := by simpa using hlt
      (try simp (implicitDefEqProofs := false) only [go_sem, ↓reduceIte, Nat.reduceEqDiff, reduceCtorEq, Nat.reduceAdd, Nat.reduceSub, Nat.reduceLeDiff, Nat.reduceLT, Nat.reduceMul, Int.reduceToNat, Int.reduceLT, Int.reduceLE, StM, hd, hb.r, hb.n, hb.k, show decide ((0 : Int) < 2) = true from rfl])
      refine CallK_do merges_does ?_
      (try simp (implicitDefEqProofs := false) only [go_sem, ↓reduceIte, Nat.reduceEqDiff, reduceCtorEq, Nat.reduceAdd, Nat.reduceSub, Nat.reduceLeDiff, Nat.reduceLT, Nat.reduceMul, Int.reduceToNat, Int.reduceLT, Int.reduceLE])
  · rw [rowV_ne hCn, rowB_ne hCn]
    have hHp : H > 0 := by
      by_cases h : H = 0
      · exact absurd (hHC h) hCn
      · omega
    have n1 : C.length ≠ 0 := by intro h; exact hCn (List.eq_nil_of_length_eq_zero h)
    have fn := fun h2 => fin hc ⟨hH0, hH⟩ h8 hlb hC h2
    by_cases hlt : j < ts.length
    · have pre := pre hlt
      rw [rowV_ne hCn, rowB_ne hCn] at pre
      have hd : decide ((j : Int) < ts.length) = true := by simpa using hlt
      (try simp (implicitDefEqProofs := false) only [go_sem, ↓reduceIte, Nat.reduceEqDiff, reduceCtorEq, Nat.reduceAdd, Nat.reduceSub, Nat.reduceLeDiff, Nat.reduceLT, Nat.reduceMul, Int.reduceToNat, Int.reduceLT, Int.reduceLE, StM, hd, hb.r, hb.n, hb.k, renLL_vx])
      have hw := wrap64 (n := (j : Int) + 1) (by omega) (by omega)
      refine pre _ (fun la => ?_) (fun a la hf hla hac han hC8 => ⟨fun hHp hlev => ?_, fun hH0 => absurd hH0 (by omega)⟩)
      · by_cases h2 : 2 ≤ C.length
        · (try simp (implicitDefEqProofs := false) only [go_sem, ↓reduceIte, Nat.reduceEqDiff, reduceCtorEq, Nat.reduceAdd, Nat.reduceSub, Nat.reduceLeDiff, Nat.reduceLT, Nat.reduceMul, Int.reduceToNat, Int.reduceLT, Int.reduceLE, hb.r, hb.n, hb.k, renLL_vx, show decide ((C.length : Int) < 2) = false from by simp; omega])
          exact fn h2
        · (try simp (implicitDefEqProofs := false) only [go_sem, ↓reduceIte, Nat.reduceEqDiff, reduceCtorEq, Nat.reduceAdd, Nat.reduceSub, Nat.reduceLeDiff, Nat.reduceLT, Nat.reduceMul, Int.reduceToNat, Int.reduceLT, Int.reduceLE, hb.r, hb.n, hb.k, renLL_vx, show decide ((C.length : Int) < 2) = true from by simp; omega])
          refine CallK_do merges_does ?_
          (try simp (implicitDefEqProofs := false) only [go_sem, ↓reduceIte, Nat.reduceEqDiff, reduceCtorEq, Nat.reduceAdd, Nat.reduceSub, Nat.reduceLeDiff, Nat.reduceLT, Nat.reduceMul, Int.reduceToNat, Int.reduceLT, Int.reduceLE])
      · have hah := high_nodes a
        have nx := fun (Q : AEx → St → Prop) => next_does (Q := Q) (C := C) hC8 hHp hll hlb hla (tall_does a hf (by omega)) (at_ := at_) (nn := ts.length) (jj := j) (fl := false) (tc := Ty.cellsL ts) (labels := labels)
        rw [rowV_ne hCn, rowB_ne hCn] at nx
        refine nx _ (fun lab hl => ?_)
        obtain ⟨c, d1, d2, L', H', c1, c2, c3, c4, c5, c6, c7⟩ := nxt a la hf hla hac han hC8 hHp hlev lab hl
        refine ⟨c, d1, d2, ?_⟩
        have hl2 := hla
        obtain ⟨fa, ya, ga, e2, hA⟩ := hla.y
        subst e2
        (try simp (implicitDefEqProofs := false) only [go_sem, ↓reduceIte, Nat.reduceEqDiff, reduceCtorEq, Nat.reduceAdd, Nat.reduceSub, Nat.reduceLeDiff, Nat.reduceLT, Nat.reduceMul, Int.reduceToNat, Int.reduceLT, Int.reduceLE, hA.r, hA.n, hA.k, hw, renLL_vx])
        refine ⟨ts.length - (j + 1), by omega, j + 1, L', _, a, H', _, C ++ [c], by omega, rfl, c1, by omega, c4, fun h => by omega, hac, han, fun _ => c5, c6, hl2, c7, ?_⟩
        rw [rowV_ne (by simp), rowB_ne (by simp), c2, List.length_append]; rfl
    · have hd : decide ((j : Int) < ts.length) = false := by simpa using hlt
      by_cases h2 : 2 ≤ C.length
      · (try simp (implicitDefEqProofs := false) only [go_sem, ↓reduceIte, Nat.reduceEqDiff, reduceCtorEq, Nat.reduceAdd, Nat.reduceSub, Nat.reduceLeDiff, Nat.reduceLT, Nat.reduceMul, Int.reduceToNat, Int.reduceLT, Int.reduceLE, StM, hd, hb.r, hb.n, hb.k, renLL_vx, show decide ((C.length : Int) < 2) = false from by simp; omega])
        exact fn h2
      · (try simp (implicitDefEqProofs := false) only [go_sem, ↓reduceIte, Nat.reduceEqDiff, reduceCtorEq, Nat.reduceAdd, Nat.reduceSub, Nat.reduceLeDiff, Nat.reduceLT, Nat.reduceMul, Int.reduceToNat, Int.reduceLT, Int.reduceLE, StM, hd, hb.r, hb.n, hb.k, renLL_vx, show decide ((C.length : Int) < 2) = true from by simp; omega])
        refine CallK_do merges_does ?_
        (try simp (implicitDefEqProofs := false) only [go_sem, ↓reduceIte, Nat.reduceEqDiff, reduceCtorEq, Nat.reduceAdd, Nat.reduceSub, Nat.reduceLeDiff, Nat.reduceLT, Nat.reduceMul, Int.reduceToNat, Int.reduceLT, Int.reduceLE])
theorem topm_does (ts : List Ty) (labels : List Int) (at_ : Int) (h1 : Ty.fitsL ts ∧ ts.length ≤ 9223372036854775807) (h2 : labels.length ≤ 9223372036854775807) (h3 : -9223372036854775808 ≤ at_ ∧ at_ ≤ 9223372036854775807) :
    Does Try.prog 10 [.imm false (.slice (Ty.cellsL ts)), .imm false (.slice (labels.map fun l => [.int .i64 l])), .imm false (.int .i64 at_)] [] (.ret true (.bool true)) [] := merging_does ts h1.1 h1.2 labels h2 at_ h3
end Go.Proofs.Ytopgmopdjiahmaa.Lg
