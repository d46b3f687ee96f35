/- Coercions: where they go from and to. Conditions: none; plain definitions and lemmas. -/
import Derived.Test.YtopgmopdjiahmaaDoorNf
set_option linter.unusedVariables false
set_option linter.unusedSimpArgs false
set_option maxRecDepth 100000
set_option maxHeartbeats 1000000
namespace Go.Proofs.YtopgmopdjiahmaaDoor.Lg
open Go Go.RowKit Go.Proofs

theorem partsF_le (k : Int) : partsF k ≤ 2 := by unfold partsF; split; omega; split <;> omega
theorem fitsL_replicate : ∀ n : Nat, Ty.fitsL (List.replicate n (.mk 0 []))
  | 0 => trivial
  | n + 1 => by
    rw [List.replicate_succ]
    exact ⟨⟨by simp, trivial⟩, fitsL_replicate n⟩
theorem ground_fits (t : Ty) : t.ground.1.fits := by
  unfold Ty.ground
  split
  · exact ⟨by simp, trivial⟩
  · have := partsF_le t.k
    exact ⟨by rw [List.length_replicate]; omega, fitsL_replicate _⟩
def Ty.isG (t : Ty) : Bool := t.ground.2 && t.same t.ground.1
theorem isG_does (t : Ty) (hf : t.fits) : Does Tryd.prog 41 [.imm false (.agg t.cells)] [] (.ret false (.bool t.isG)) [] := by
  have hg := ground_does t hf
  have hs := same_does t t.ground.1 hf (ground_fits t)
  have e : t.isG = (t.ground.2 && t.same t.ground.1) := rfl
  rw [e]
  generalize t.ground = g at hg hs
  obtain ⟨g, b⟩ := g
  rw [Ty.cells_eq] at hg hs ⊢
  simp only [Ty.cells_eq g] at hg hs
  refine does41 (by rfl) (by rfl) ?_
  (try simp (implicitDefEqProofs := false) only [go_sem, ↓reduceIte, Nat.reduceEqDiff, reduceCtorEq, Nat.reduceAdd, Nat.reduceSub, Nat.reduceLeDiff, Nat.reduceLT, Nat.reduceMul, Int.reduceToNat, Int.reduceLT, Int.reduceLE])
  refine CallK_do hg ?_
  (try simp (implicitDefEqProofs := false) only [go_sem, ↓reduceIte, Nat.reduceEqDiff, reduceCtorEq, Nat.reduceAdd, Nat.reduceSub, Nat.reduceLeDiff, Nat.reduceLT, Nat.reduceMul, Int.reduceToNat, Int.reduceLT, Int.reduceLE])
  cases b with
  | true =>
    (try simp (implicitDefEqProofs := false) only [go_sem, ↓reduceIte, Nat.reduceEqDiff, reduceCtorEq, Nat.reduceAdd, Nat.reduceSub, Nat.reduceLeDiff, Nat.reduceLT, Nat.reduceMul, Int.reduceToNat, Int.reduceLT, Int.reduceLE])
    refine CallK_do hs ?_
    (try simp (implicitDefEqProofs := false) only [go_sem, ↓reduceIte, Nat.reduceEqDiff, reduceCtorEq, Nat.reduceAdd, Nat.reduceSub, Nat.reduceLeDiff, Nat.reduceLT, Nat.reduceMul, Int.reduceToNat, Int.reduceLT, Int.reduceLE])
  | false => (try simp (implicitDefEqProofs := false) only [go_sem, ↓reduceIte, Nat.reduceEqDiff, reduceCtorEq, Nat.reduceAdd, Nat.reduceSub, Nat.reduceLeDiff, Nat.reduceLT, Nat.reduceMul, Int.reduceToNat, Int.reduceLT, Int.reduceLE])

abbrev En := Ty × Ty × Bool
def noE : En := (.un, .un, false)
def partsE (k : Int) (e f : En) : En :=
  if (e.2.2 && f.2.2) = false then noE else if k = 4 then (.mk 3 [e.2.1, f.1], .mk 3 [e.1, f.2.1], true) else if k = 5 then (.mk 4 [e.1, f.1], .mk 4 [e.2.1, f.2.1], true)
  else if k = 6 then (.mk 5 [e.1, f.1], .mk 5 [e.2.1, f.2.1], true) else if k = 7 then (e.1, f.2.1, e.2.1.same f.1) else noE
def partsL (k : Int) : List En → En
  | [e, f] => partsE k e f
  | _ => noE
def labOk (lab : Int) : Bool := decide (lab ≥ 1) && decide (lab ≤ 2147483648)
def leafE (k : Int) (ty to : Ty) (lab : Int) (none : Bool) : En :=
  if none = false ∨ ty.check ≠ 0 then noE else if k = 0 then (ty, ty, true) else if k = 2 then (ty, .un, ty.isG) else if k = 3 then (.un, ty, ty.isG && labOk lab)
  else (ty, to, labOk lab && ty.k != 0 && to.check == 0)
mutual
def Cn.ends : Cn → En
  | .mk k ty to lab _ ks => if leafF k = true then leafE k ty to lab ks.isEmpty else partsL k (Cn.endsL ks)
def Cn.endsL : List Cn → List En
  | [] => []
  | c :: r => c.ends :: Cn.endsL r
end
def enV (e : En) : IV := .tup [.agg e.1.cells, .agg e.2.1.cells, .bool e.2.2]
def EndsD (c : Cn) : Prop := Does Tryd.prog 25 [.imm false (.ptr c.cells 0)] [] (.ret false (enV c.ends)) []
def PartsD (c : Cn) (e : En) : Prop := Does Tryd.prog 40 [.imm false (.ptr c.cells 0)] [] (.ret false (enV e)) []
theorem noE_v : enV noE = .tup [.agg [.int .i8 0, .slice []], .agg [.int .i8 0, .slice []], .bool false] := by
  simp [enV, noE, Ty.un, Ty.cells, Ty.cellsL]

theorem two_does (k : Int) (a b : Ty) : Does Tryd.prog 46 [.imm false (.int .i8 k), .imm false (.agg a.cells), .imm false (.agg b.cells)] [] (.ret false (.agg [.int .i8 k, .slice [a.cells, b.cells]])) [] := by
  rw [Ty.cells_eq a, Ty.cells_eq b]
  refine does46 (by rfl) (by rfl) ?_
  (try simp (implicitDefEqProofs := false) only [go_sem, ↓reduceIte, Nat.reduceEqDiff, reduceCtorEq, Nat.reduceAdd, Nat.reduceSub, Nat.reduceLeDiff, Nat.reduceLT, Nat.reduceMul, Int.reduceToNat, Int.reduceLT, Int.reduceLE])

theorem two_cells (k : Int) (a b : Ty) : (Ty.mk k [a, b]).cells = [.int .i8 k, .slice [a.cells, b.cells]] := by simp [Ty.cells, Ty.cellsL]

theorem parts_two {k : Int} {ty to : Ty} {lab : Int} {neg : Bool} {a b : Cn} (ha : EndsD a) (hb : EndsD b) (hfa : a.ends.2.1.fits) (hfb : b.ends.1.fits) :
    PartsD (.mk k ty to lab neg [a, b]) (partsE k a.ends b.ends) := by
  have hla := Cn.cells_len a
  have hlb := Cn.cells_len b
  unfold EndsD at ha hb
  generalize a.ends = e at ha hfa
  generalize b.ends = f at hb hfb
  obtain ⟨e1, e2, e3⟩ := e
  obtain ⟨f1, f2, f3⟩ := f
  have hs := same_does e2 f1 hfa hfb
  simp only [enV] at ha hb
  refine does40 (by rfl) (by rfl) ?_
  (try simp (implicitDefEqProofs := false) only [go_sem, ↓reduceIte, Nat.reduceEqDiff, reduceCtorEq, Nat.reduceAdd, Nat.reduceSub, Nat.reduceLeDiff, Nat.reduceLT, Nat.reduceMul, Int.reduceToNat, Int.reduceLT, Int.reduceLE, Cn.cells, Cn.cellsL, show ((2 : Int) != 2) = false from rfl, hla, hlb])
  refine CallK_do ha ?_
  (try simp (implicitDefEqProofs := false) only [go_sem, ↓reduceIte, Nat.reduceEqDiff, reduceCtorEq, Nat.reduceAdd, Nat.reduceSub, Nat.reduceLeDiff, Nat.reduceLT, Nat.reduceMul, Int.reduceToNat, Int.reduceLT, Int.reduceLE, Ty.cells_eq, hla, hlb])
  refine CallK_do hb ?_
  rw [Ty.cells_eq e2, Ty.cells_eq f1] at hs
  have h2 := two_does 3 e2 f1
  have h3 := two_does 3 e1 f2
  have h4 := two_does 4 e1 f1
  have h5 := two_does 4 e2 f2
  have h6 := two_does 5 e1 f1
  have h7 := two_does 5 e2 f2
  simp only [Ty.cells_eq] at h2 h3 h4 h5 h6 h7
  cases e3 with
  | false =>
    (try simp (implicitDefEqProofs := false) only [go_sem, ↓reduceIte, Nat.reduceEqDiff, reduceCtorEq, Nat.reduceAdd, Nat.reduceSub, Nat.reduceLeDiff, Nat.reduceLT, Nat.reduceMul, Int.reduceToNat, Int.reduceLT, Int.reduceLE, Ty.cells_eq])
    simp [partsE, noE_v]
  | true =>
  cases f3 with
  | false =>
    (try simp (implicitDefEqProofs := false) only [go_sem, ↓reduceIte, Nat.reduceEqDiff, reduceCtorEq, Nat.reduceAdd, Nat.reduceSub, Nat.reduceLeDiff, Nat.reduceLT, Nat.reduceMul, Int.reduceToNat, Int.reduceLT, Int.reduceLE, Ty.cells_eq])
    simp [partsE, noE_v]
  | true =>
  by_cases k4 : k = 4
  · subst k4
    (try simp (implicitDefEqProofs := false) only [go_sem, ↓reduceIte, Nat.reduceEqDiff, reduceCtorEq, Nat.reduceAdd, Nat.reduceSub, Nat.reduceLeDiff, Nat.reduceLT, Nat.reduceMul, Int.reduceToNat, Int.reduceLT, Int.reduceLE, Ty.cells_eq])
    refine CallK_do h2 ?_
    (try simp (implicitDefEqProofs := false) only [go_sem, ↓reduceIte, Nat.reduceEqDiff, reduceCtorEq, Nat.reduceAdd, Nat.reduceSub, Nat.reduceLeDiff, Nat.reduceLT, Nat.reduceMul, Int.reduceToNat, Int.reduceLT, Int.reduceLE])
    refine CallK_do h3 ?_
    (try simp (implicitDefEqProofs := false) only [go_sem, ↓reduceIte, Nat.reduceEqDiff, reduceCtorEq, Nat.reduceAdd, Nat.reduceSub, Nat.reduceLeDiff, Nat.reduceLT, Nat.reduceMul, Int.reduceToNat, Int.reduceLT, Int.reduceLE])
    simp [partsE, enV, Ty.cells_eq, Ty.k, Ty.ts, Ty.cellsL]
  have n4 : (k == 4) = false := by simpa using k4
  by_cases k5 : k = 5
  · subst k5
    (try simp (implicitDefEqProofs := false) only [go_sem, ↓reduceIte, Nat.reduceEqDiff, reduceCtorEq, Nat.reduceAdd, Nat.reduceSub, Nat.reduceLeDiff, Nat.reduceLT, Nat.reduceMul, Int.reduceToNat, Int.reduceLT, Int.reduceLE, Ty.cells_eq, n4])
    refine CallK_do h4 ?_
    (try simp (implicitDefEqProofs := false) only [go_sem, ↓reduceIte, Nat.reduceEqDiff, reduceCtorEq, Nat.reduceAdd, Nat.reduceSub, Nat.reduceLeDiff, Nat.reduceLT, Nat.reduceMul, Int.reduceToNat, Int.reduceLT, Int.reduceLE])
    refine CallK_do h5 ?_
    (try simp (implicitDefEqProofs := false) only [go_sem, ↓reduceIte, Nat.reduceEqDiff, reduceCtorEq, Nat.reduceAdd, Nat.reduceSub, Nat.reduceLeDiff, Nat.reduceLT, Nat.reduceMul, Int.reduceToNat, Int.reduceLT, Int.reduceLE])
    simp [partsE, enV, Ty.cells_eq, Ty.k, Ty.ts, Ty.cellsL]
  have n5 : (k == 5) = false := by simpa using k5
  by_cases k6 : k = 6
  · subst k6
    (try simp (implicitDefEqProofs := false) only [go_sem, ↓reduceIte, Nat.reduceEqDiff, reduceCtorEq, Nat.reduceAdd, Nat.reduceSub, Nat.reduceLeDiff, Nat.reduceLT, Nat.reduceMul, Int.reduceToNat, Int.reduceLT, Int.reduceLE, Ty.cells_eq, n4, n5])
    refine CallK_do h6 ?_
    (try simp (implicitDefEqProofs := false) only [go_sem, ↓reduceIte, Nat.reduceEqDiff, reduceCtorEq, Nat.reduceAdd, Nat.reduceSub, Nat.reduceLeDiff, Nat.reduceLT, Nat.reduceMul, Int.reduceToNat, Int.reduceLT, Int.reduceLE])
    refine CallK_do h7 ?_
    (try simp (implicitDefEqProofs := false) only [go_sem, ↓reduceIte, Nat.reduceEqDiff, reduceCtorEq, Nat.reduceAdd, Nat.reduceSub, Nat.reduceLeDiff, Nat.reduceLT, Nat.reduceMul, Int.reduceToNat, Int.reduceLT, Int.reduceLE])
    simp [partsE, enV, Ty.cells_eq, Ty.k, Ty.ts, Ty.cellsL]
  have n6 : (k == 6) = false := by simpa using k6
  by_cases k7 : k = 7
  · subst k7
    (try simp (implicitDefEqProofs := false) only [go_sem, ↓reduceIte, Nat.reduceEqDiff, reduceCtorEq, Nat.reduceAdd, Nat.reduceSub, Nat.reduceLeDiff, Nat.reduceLT, Nat.reduceMul, Int.reduceToNat, Int.reduceLT, Int.reduceLE, Ty.cells_eq, n4, n5, n6])
    refine CallK_do hs ?_
    (try simp (implicitDefEqProofs := false) only [go_sem, ↓reduceIte, Nat.reduceEqDiff, reduceCtorEq, Nat.reduceAdd, Nat.reduceSub, Nat.reduceLeDiff, Nat.reduceLT, Nat.reduceMul, Int.reduceToNat, Int.reduceLT, Int.reduceLE])
    simp [partsE, enV, Ty.cells_eq]
  have n7 : (k == 7) = false := by simpa using k7
  (try simp (implicitDefEqProofs := false) only [go_sem, ↓reduceIte, Nat.reduceEqDiff, reduceCtorEq, Nat.reduceAdd, Nat.reduceSub, Nat.reduceLeDiff, Nat.reduceLT, Nat.reduceMul, Int.reduceToNat, Int.reduceLT, Int.reduceLE, Ty.cells_eq, n4, n5, n6, n7])
  simp [partsE, k4, k5, k6, k7, noE_v]

theorem parts_not {k : Int} {ty to : Ty} {lab : Int} {neg : Bool} {ks : List Cn} (h : ks.length ≠ 2) : PartsD (.mk k ty to lab neg ks) noE := by
  have hb : ((ks.length : Int) != 2) = true := by simp; omega
  refine does40 (by rfl) (by rfl) ?_
  (try simp (implicitDefEqProofs := false) only [go_sem, ↓reduceIte, Nat.reduceEqDiff, reduceCtorEq, Nat.reduceAdd, Nat.reduceSub, Nat.reduceLeDiff, Nat.reduceLT, Nat.reduceMul, Int.reduceToNat, Int.reduceLT, Int.reduceLE, Cn.cells, Cn.cellsL_len, hb])
  rw [noE_v]

theorem Cn.endsL_len : ∀ ks : List Cn, (Cn.endsL ks).length = ks.length
  | [] => rfl
  | c :: r => by simp [Cn.endsL, Cn.endsL_len r]
theorem un_fits : Ty.un.fits := ⟨by simp, trivial⟩
theorem two_fits {k : Int} {a b : Ty} (ha : a.fits) (hb : b.fits) : (Ty.mk k [a, b]).fits := ⟨by simp, ha, hb, trivial⟩
theorem partsE_fits {k : Int} {e f : En} (h1 : e.1.fits) (h2 : e.2.1.fits) (h3 : f.1.fits) (h4 : f.2.1.fits) : (partsE k e f).1.fits ∧ (partsE k e f).2.1.fits := by
  unfold partsE
  repeat' split
  all_goals first | exact ⟨un_fits, un_fits⟩ | exact ⟨two_fits h2 h3, two_fits h1 h4⟩ | exact ⟨two_fits h1 h3, two_fits h2 h4⟩ | exact ⟨h1, h4⟩
theorem leafE_fits {k : Int} {ty to : Ty} {lab : Int} {b : Bool} (h : ty.fits) (h' : to.fits) : (leafE k ty to lab b).1.fits ∧ (leafE k ty to lab b).2.1.fits := by
  unfold leafE
  repeat' split
  all_goals first | exact ⟨un_fits, un_fits⟩ | exact ⟨h, h⟩ | exact ⟨h, un_fits⟩ | exact ⟨un_fits, h⟩ | exact ⟨h, h'⟩
theorem Cn.ends_fits : ∀ c : Cn, c.fits → c.ends.1.fits ∧ c.ends.2.1.fits := by
  refine Cn.ind fun k ty to lab neg ks ih hf => ?_
  simp only [Cn.ends]
  split
  · exact leafE_fits hf.1 hf.2.1
  · match ks, ih, hf with
    | [], _, _ => exact ⟨un_fits, un_fits⟩
    | [a], _, _ => exact ⟨un_fits, un_fits⟩
    | [a, b], ih, hf =>
      have hk := hf.2.2.2.2
      have h1 := ih a (by simp) hk.1
      have h2 := ih b (by simp) hk.2.1
      exact partsE_fits h1.1 h1.2 h2.1 h2.2
    | a :: b :: c :: r, _, _ => exact ⟨un_fits, un_fits⟩

theorem ends_does : ∀ c : Cn, c.fits → EndsD c := by
  refine Cn.ind fun k ty to lab neg ks ih hf => ?_
  have hf1 : ty.fits := hf.1
  have hf2 : to.fits := hf.2.1
  have hfl : ks.length ≤ 9223372036854775807 := hf.2.2.1
  cases hlk : leafF k with
  | false =>
    have hp : PartsD (.mk k ty to lab neg ks) (partsL k (Cn.endsL ks)) := by
      match ks, ih, hf with
      | [], _, _ => exact parts_not (by simp)
      | [a], _, _ => exact parts_not (by simp)
      | [a, b], ih, hf =>
        have hk := hf.2.2.2.2
        exact parts_two (ih a (by simp) hk.1) (ih b (by simp) hk.2.1) (Cn.ends_fits a hk.1).2 (Cn.ends_fits b hk.2.1).1
      | a :: b :: c :: r, _, _ => exact parts_not (by simp)
    unfold EndsD
    simp only [Cn.ends, hlk, Bool.false_eq_true, if_false]
    generalize partsL k (Cn.endsL ks) = e at hp
    obtain ⟨e1, e2, e3⟩ := e
    unfold PartsD at hp
    simp only [enV, Ty.cells_eq] at hp ⊢
    refine does25 (by rfl) (by rfl) ?_
    have hl := leaf_does k
    rw [hlk] at hl
    simp only [Cn.cells] at hp
    (try simp (implicitDefEqProofs := false) only [go_sem, ↓reduceIte, Nat.reduceEqDiff, reduceCtorEq, Nat.reduceAdd, Nat.reduceSub, Nat.reduceLeDiff, Nat.reduceLT, Nat.reduceMul, Int.reduceToNat, Int.reduceLT, Int.reduceLE, Cn.cells])
    refine CallK_do hl ?_
    (try simp (implicitDefEqProofs := false) only [go_sem, ↓reduceIte, Nat.reduceEqDiff, reduceCtorEq, Nat.reduceAdd, Nat.reduceSub, Nat.reduceLeDiff, Nat.reduceLT, Nat.reduceMul, Int.reduceToNat, Int.reduceLT, Int.reduceLE])
    refine CallK_do hp ?_
    (try simp (implicitDefEqProofs := false) only [go_sem, ↓reduceIte, Nat.reduceEqDiff, reduceCtorEq, Nat.reduceAdd, Nat.reduceSub, Nat.reduceLeDiff, Nat.reduceLT, Nat.reduceMul, Int.reduceToNat, Int.reduceLT, Int.reduceLE])
  | true =>
    have hl := leaf_does k
    rw [hlk] at hl
    have c1 := check_does ty hf1
    have c2 := check_does to hf2
    have g1 := isG_does ty hf1
    rw [Ty.cells_eq] at c1 c2 g1
    unfold EndsD
    have e0 : (Cn.mk k ty to lab neg ks).ends = leafE k ty to lab ks.isEmpty := by simp only [Cn.ends, hlk, if_true]
    rw [e0]
    by_cases hk0 : ks = []
    · subst hk0
      by_cases hc : ty.check = 0
      · have hkk : k = 0 ∨ k = 1 ∨ k = 2 ∨ k = 3 := by
          simp only [leafF, Bool.or_eq_true, beq_iff_eq] at hlk; omega
        have hnot : ¬ ((([] : List Cn).isEmpty = false) ∨ ty.check ≠ 0) := by simp [hc]
        simp only [leafE, if_neg hnot]
        refine does25 (by rfl) (by rfl) ?_
        (try simp (implicitDefEqProofs := false) only [go_sem, ↓reduceIte, Nat.reduceEqDiff, reduceCtorEq, Nat.reduceAdd, Nat.reduceSub, Nat.reduceLeDiff, Nat.reduceLT, Nat.reduceMul, Int.reduceToNat, Int.reduceLT, Int.reduceLE, Cn.cells, Cn.cellsL])
        refine CallK_do hl ?_
        (try simp (implicitDefEqProofs := false) only [go_sem, ↓reduceIte, Nat.reduceEqDiff, reduceCtorEq, Nat.reduceAdd, Nat.reduceSub, Nat.reduceLeDiff, Nat.reduceLT, Nat.reduceMul, Int.reduceToNat, Int.reduceLT, Int.reduceLE, show ((0 : Int) != 0) = false from rfl, ncast0])
        refine CallK_do c1 ?_
        (try simp (implicitDefEqProofs := false) only [go_sem, ↓reduceIte, Nat.reduceEqDiff, reduceCtorEq, Nat.reduceAdd, Nat.reduceSub, Nat.reduceLeDiff, Nat.reduceLT, Nat.reduceMul, Int.reduceToNat, Int.reduceLT, Int.reduceLE, hc, show ((0 : Int) != 0) = false from rfl])
        by_cases d1 : lab ≥ 1
        · by_cases d2 : lab ≤ 2147483648
          · have hlab : labOk lab = true := by simp [labOk, d1, d2]
            (try simp (implicitDefEqProofs := false) only [go_sem, ↓reduceIte, Nat.reduceEqDiff, reduceCtorEq, Nat.reduceAdd, Nat.reduceSub, Nat.reduceLeDiff, Nat.reduceLT, Nat.reduceMul, Int.reduceToNat, Int.reduceLT, Int.reduceLE, decide_eq_true d1, decide_eq_true d2])
            rcases hkk with hkk | hkk | hkk | hkk
            · subst hkk
              (try simp (implicitDefEqProofs := false) only [go_sem, ↓reduceIte, Nat.reduceEqDiff, reduceCtorEq, Nat.reduceAdd, Nat.reduceSub, Nat.reduceLeDiff, Nat.reduceLT, Nat.reduceMul, Int.reduceToNat, Int.reduceLT, Int.reduceLE, show ((0 : Int) == 0) = true from rfl])
              simp [enV, Ty.cells_eq]
            · subst hkk
              (try simp (implicitDefEqProofs := false) only [go_sem, ↓reduceIte, Nat.reduceEqDiff, reduceCtorEq, Nat.reduceAdd, Nat.reduceSub, Nat.reduceLeDiff, Nat.reduceLT, Nat.reduceMul, Int.reduceToNat, Int.reduceLT, Int.reduceLE, show ((1 : Int) == 0) = false from rfl, show ((1 : Int) == 2) = false from rfl, show ((1 : Int) == 3) = false from rfl])
              by_cases hz : ty.k = 0
              · (try simp (implicitDefEqProofs := false) only [go_sem, ↓reduceIte, Nat.reduceEqDiff, reduceCtorEq, Nat.reduceAdd, Nat.reduceSub, Nat.reduceLeDiff, Nat.reduceLT, Nat.reduceMul, Int.reduceToNat, Int.reduceLT, Int.reduceLE, show (ty.k != 0) = false from by simpa using hz])
                simp [enV, Ty.cells_eq, hlab, hz]
              · (try simp (implicitDefEqProofs := false) only [go_sem, ↓reduceIte, Nat.reduceEqDiff, reduceCtorEq, Nat.reduceAdd, Nat.reduceSub, Nat.reduceLeDiff, Nat.reduceLT, Nat.reduceMul, Int.reduceToNat, Int.reduceLT, Int.reduceLE, show (ty.k != 0) = true from by simpa using hz])
                refine CallK_do c2 ?_
                (try simp (implicitDefEqProofs := false) only [go_sem, ↓reduceIte, Nat.reduceEqDiff, reduceCtorEq, Nat.reduceAdd, Nat.reduceSub, Nat.reduceLeDiff, Nat.reduceLT, Nat.reduceMul, Int.reduceToNat, Int.reduceLT, Int.reduceLE])
                simp [enV, Ty.cells_eq, hlab, hz]
            · subst hkk
              (try simp (implicitDefEqProofs := false) only [go_sem, ↓reduceIte, Nat.reduceEqDiff, reduceCtorEq, Nat.reduceAdd, Nat.reduceSub, Nat.reduceLeDiff, Nat.reduceLT, Nat.reduceMul, Int.reduceToNat, Int.reduceLT, Int.reduceLE, show ((2 : Int) == 0) = false from rfl, show ((2 : Int) == 2) = true from rfl])
              refine CallK_do g1 ?_
              (try simp (implicitDefEqProofs := false) only [go_sem, ↓reduceIte, Nat.reduceEqDiff, reduceCtorEq, Nat.reduceAdd, Nat.reduceSub, Nat.reduceLeDiff, Nat.reduceLT, Nat.reduceMul, Int.reduceToNat, Int.reduceLT, Int.reduceLE])
              simp [enV, Ty.cells_eq, Ty.un, Ty.k, Ty.ts, Ty.cellsL]
            · subst hkk
              (try simp (implicitDefEqProofs := false) only [go_sem, ↓reduceIte, Nat.reduceEqDiff, reduceCtorEq, Nat.reduceAdd, Nat.reduceSub, Nat.reduceLeDiff, Nat.reduceLT, Nat.reduceMul, Int.reduceToNat, Int.reduceLT, Int.reduceLE, show ((3 : Int) == 0) = false from rfl, show ((3 : Int) == 2) = false from rfl, show ((3 : Int) == 3) = true from rfl])
              refine CallK_do g1 ?_
              cases hg : ty.isG with
              | true =>
                (try simp (implicitDefEqProofs := false) only [go_sem, ↓reduceIte, Nat.reduceEqDiff, reduceCtorEq, Nat.reduceAdd, Nat.reduceSub, Nat.reduceLeDiff, Nat.reduceLT, Nat.reduceMul, Int.reduceToNat, Int.reduceLT, Int.reduceLE])
                simp [enV, Ty.cells_eq, Ty.un, Ty.k, Ty.ts, Ty.cellsL, hlab]
              | false =>
                (try simp (implicitDefEqProofs := false) only [go_sem, ↓reduceIte, Nat.reduceEqDiff, reduceCtorEq, Nat.reduceAdd, Nat.reduceSub, Nat.reduceLeDiff, Nat.reduceLT, Nat.reduceMul, Int.reduceToNat, Int.reduceLT, Int.reduceLE])
                simp [enV, Ty.cells_eq, Ty.un, Ty.k, Ty.ts, Ty.cellsL]
          · have hlab : labOk lab = false := by simp [labOk, d2]
            (try simp (implicitDefEqProofs := false) only [go_sem, ↓reduceIte, Nat.reduceEqDiff, reduceCtorEq, Nat.reduceAdd, Nat.reduceSub, Nat.reduceLeDiff, Nat.reduceLT, Nat.reduceMul, Int.reduceToNat, Int.reduceLT, Int.reduceLE, decide_eq_true d1, decide_eq_false d2])
            rcases hkk with hkk | hkk | hkk | hkk
            · subst hkk
              (try simp (implicitDefEqProofs := false) only [go_sem, ↓reduceIte, Nat.reduceEqDiff, reduceCtorEq, Nat.reduceAdd, Nat.reduceSub, Nat.reduceLeDiff, Nat.reduceLT, Nat.reduceMul, Int.reduceToNat, Int.reduceLT, Int.reduceLE, show ((0 : Int) == 0) = true from rfl])
              simp [enV, Ty.cells_eq]
            · subst hkk
              (try simp (implicitDefEqProofs := false) only [go_sem, ↓reduceIte, Nat.reduceEqDiff, reduceCtorEq, Nat.reduceAdd, Nat.reduceSub, Nat.reduceLeDiff, Nat.reduceLT, Nat.reduceMul, Int.reduceToNat, Int.reduceLT, Int.reduceLE, show ((1 : Int) == 0) = false from rfl, show ((1 : Int) == 2) = false from rfl, show ((1 : Int) == 3) = false from rfl])
              simp [enV, Ty.cells_eq, hlab]
            · subst hkk
              (try simp (implicitDefEqProofs := false) only [go_sem, ↓reduceIte, Nat.reduceEqDiff, reduceCtorEq, Nat.reduceAdd, Nat.reduceSub, Nat.reduceLeDiff, Nat.reduceLT, Nat.reduceMul, Int.reduceToNat, Int.reduceLT, Int.reduceLE, show ((2 : Int) == 0) = false from rfl, show ((2 : Int) == 2) = true from rfl])
              refine CallK_do g1 ?_
              (try simp (implicitDefEqProofs := false) only [go_sem, ↓reduceIte, Nat.reduceEqDiff, reduceCtorEq, Nat.reduceAdd, Nat.reduceSub, Nat.reduceLeDiff, Nat.reduceLT, Nat.reduceMul, Int.reduceToNat, Int.reduceLT, Int.reduceLE])
              simp [enV, Ty.cells_eq, Ty.un, Ty.k, Ty.ts, Ty.cellsL]
            · subst hkk
              (try simp (implicitDefEqProofs := false) only [go_sem, ↓reduceIte, Nat.reduceEqDiff, reduceCtorEq, Nat.reduceAdd, Nat.reduceSub, Nat.reduceLeDiff, Nat.reduceLT, Nat.reduceMul, Int.reduceToNat, Int.reduceLT, Int.reduceLE, show ((3 : Int) == 0) = false from rfl, show ((3 : Int) == 2) = false from rfl, show ((3 : Int) == 3) = true from rfl])
              refine CallK_do g1 ?_
              cases hg : ty.isG with
              | true =>
                (try simp (implicitDefEqProofs := false) only [go_sem, ↓reduceIte, Nat.reduceEqDiff, reduceCtorEq, Nat.reduceAdd, Nat.reduceSub, Nat.reduceLeDiff, Nat.reduceLT, Nat.reduceMul, Int.reduceToNat, Int.reduceLT, Int.reduceLE])
                simp [enV, Ty.cells_eq, Ty.un, Ty.k, Ty.ts, Ty.cellsL, hlab]
              | false =>
                (try simp (implicitDefEqProofs := false) only [go_sem, ↓reduceIte, Nat.reduceEqDiff, reduceCtorEq, Nat.reduceAdd, Nat.reduceSub, Nat.reduceLeDiff, Nat.reduceLT, Nat.reduceMul, Int.reduceToNat, Int.reduceLT, Int.reduceLE])
                simp [enV, Ty.cells_eq, Ty.un, Ty.k, Ty.ts, Ty.cellsL]
        · have hlab : labOk lab = false := by simp [labOk, d1]
          (try simp (implicitDefEqProofs := false) only [go_sem, ↓reduceIte, Nat.reduceEqDiff, reduceCtorEq, Nat.reduceAdd, Nat.reduceSub, Nat.reduceLeDiff, Nat.reduceLT, Nat.reduceMul, Int.reduceToNat, Int.reduceLT, Int.reduceLE, decide_eq_false d1])
          rcases hkk with hkk | hkk | hkk | hkk
          · subst hkk
            (try simp (implicitDefEqProofs := false) only [go_sem, ↓reduceIte, Nat.reduceEqDiff, reduceCtorEq, Nat.reduceAdd, Nat.reduceSub, Nat.reduceLeDiff, Nat.reduceLT, Nat.reduceMul, Int.reduceToNat, Int.reduceLT, Int.reduceLE, show ((0 : Int) == 0) = true from rfl])
            simp [enV, Ty.cells_eq]
          · subst hkk
            (try simp (implicitDefEqProofs := false) only [go_sem, ↓reduceIte, Nat.reduceEqDiff, reduceCtorEq, Nat.reduceAdd, Nat.reduceSub, Nat.reduceLeDiff, Nat.reduceLT, Nat.reduceMul, Int.reduceToNat, Int.reduceLT, Int.reduceLE, show ((1 : Int) == 0) = false from rfl, show ((1 : Int) == 2) = false from rfl, show ((1 : Int) == 3) = false from rfl])
            simp [enV, Ty.cells_eq, hlab]
          · subst hkk
            (try simp (implicitDefEqProofs := false) only [go_sem, ↓reduceIte, Nat.reduceEqDiff, reduceCtorEq, Nat.reduceAdd, Nat.reduceSub, Nat.reduceLeDiff, Nat.reduceLT, Nat.reduceMul, Int.reduceToNat, Int.reduceLT, Int.reduceLE, show ((2 : Int) == 0) = false from rfl, show ((2 : Int) == 2) = true from rfl])
            refine CallK_do g1 ?_
            (try simp (implicitDefEqProofs := false) only [go_sem, ↓reduceIte, Nat.reduceEqDiff, reduceCtorEq, Nat.reduceAdd, Nat.reduceSub, Nat.reduceLeDiff, Nat.reduceLT, Nat.reduceMul, Int.reduceToNat, Int.reduceLT, Int.reduceLE])
            simp [enV, Ty.cells_eq, Ty.un, Ty.k, Ty.ts, Ty.cellsL]
          · subst hkk
            (try simp (implicitDefEqProofs := false) only [go_sem, ↓reduceIte, Nat.reduceEqDiff, reduceCtorEq, Nat.reduceAdd, Nat.reduceSub, Nat.reduceLeDiff, Nat.reduceLT, Nat.reduceMul, Int.reduceToNat, Int.reduceLT, Int.reduceLE, show ((3 : Int) == 0) = false from rfl, show ((3 : Int) == 2) = false from rfl, show ((3 : Int) == 3) = true from rfl])
            refine CallK_do g1 ?_
            cases hg : ty.isG with
            | true =>
              (try simp (implicitDefEqProofs := false) only [go_sem, ↓reduceIte, Nat.reduceEqDiff, reduceCtorEq, Nat.reduceAdd, Nat.reduceSub, Nat.reduceLeDiff, Nat.reduceLT, Nat.reduceMul, Int.reduceToNat, Int.reduceLT, Int.reduceLE])
              simp [enV, Ty.cells_eq, Ty.un, Ty.k, Ty.ts, Ty.cellsL, hlab]
            | false =>
              (try simp (implicitDefEqProofs := false) only [go_sem, ↓reduceIte, Nat.reduceEqDiff, reduceCtorEq, Nat.reduceAdd, Nat.reduceSub, Nat.reduceLeDiff, Nat.reduceLT, Nat.reduceMul, Int.reduceToNat, Int.reduceLT, Int.reduceLE])
              simp [enV, Ty.cells_eq, Ty.un, Ty.k, Ty.ts, Ty.cellsL]
      · refine does25 (by rfl) (by rfl) ?_
        (try simp (implicitDefEqProofs := false) only [go_sem, ↓reduceIte, Nat.reduceEqDiff, reduceCtorEq, Nat.reduceAdd, Nat.reduceSub, Nat.reduceLeDiff, Nat.reduceLT, Nat.reduceMul, Int.reduceToNat, Int.reduceLT, Int.reduceLE, Cn.cells, Cn.cellsL])
        refine CallK_do hl ?_
        (try simp (implicitDefEqProofs := false) only [go_sem, ↓reduceIte, Nat.reduceEqDiff, reduceCtorEq, Nat.reduceAdd, Nat.reduceSub, Nat.reduceLeDiff, Nat.reduceLT, Nat.reduceMul, Int.reduceToNat, Int.reduceLT, Int.reduceLE, show ((0 : Int) != 0) = false from rfl, ncast0])
        refine CallK_do c1 ?_
        (try simp (implicitDefEqProofs := false) only [go_sem, ↓reduceIte, Nat.reduceEqDiff, reduceCtorEq, Nat.reduceAdd, Nat.reduceSub, Nat.reduceLeDiff, Nat.reduceLT, Nat.reduceMul, Int.reduceToNat, Int.reduceLT, Int.reduceLE, show (ty.check != 0) = true from by simpa using hc])
        simp [leafE, hc, noE_v]
    · have hb : ((ks.length : Int) != 0) = true := by
        have : ks.length ≠ 0 := by simpa using hk0
        simp; omega
      have he : ks.isEmpty = false := by cases ks <;> simp_all
      refine does25 (by rfl) (by rfl) ?_
      (try simp (implicitDefEqProofs := false) only [go_sem, ↓reduceIte, Nat.reduceEqDiff, reduceCtorEq, Nat.reduceAdd, Nat.reduceSub, Nat.reduceLeDiff, Nat.reduceLT, Nat.reduceMul, Int.reduceToNat, Int.reduceLT, Int.reduceLE, Cn.cells, Cn.cellsL_len])
      refine CallK_do hl ?_
      (try simp (implicitDefEqProofs := false) only [go_sem, ↓reduceIte, Nat.reduceEqDiff, reduceCtorEq, Nat.reduceAdd, Nat.reduceSub, Nat.reduceLeDiff, Nat.reduceLT, Nat.reduceMul, Int.reduceToNat, Int.reduceLT, Int.reduceLE, hb, Cn.cellsL_len])
      simp [leafE, he, noE_v]
end Go.Proofs.YtopgmopdjiahmaaDoor.Lg
