/- Coercions: trees, and the small functions on them. Conditions: none; plain definitions and lemmas. -/
import Derived.Test.YtopgmopdjiahmaaDoorNc
import Derived.Test.YtopgmopdjiahmaaDoorMb
set_option linter.unusedVariables false
set_option linter.unusedSimpArgs false
set_option maxRecDepth 100000
set_option maxHeartbeats 4000000
namespace Go.Proofs.YtopgmopdjiahmaaDoor.Lg
open Go Go.RowKit Go.Proofs

inductive Cn where
  | mk (k : Int) (ty to : Ty) (lab : Int) (neg : Bool) (ks : List Cn)
theorem Cn.ind {motive : Cn → Prop} (h : ∀ k ty to lab neg ks, (∀ c ∈ ks, motive c) → motive (.mk k ty to lab neg ks)) : ∀ c, motive c
  | .mk k ty to lab neg ks => h k ty to lab neg ks fun c hc => Cn.ind h c
termination_by c => SizeOf.sizeOf c
decreasing_by have := List.sizeOf_lt_of_mem hc; simp; omega
mutual
def Cn.cells : Cn → List IV
  | .mk k ty to lab neg ks => [.int .i8 k, .int .i8 ty.k, .slice (Ty.cellsL ty.ts), .int .i8 to.k, .slice (Ty.cellsL to.ts), .int .i64 lab, .bool neg, .slice (Cn.cellsL ks)]
def Cn.cellsL : List Cn → List (List IV)
  | [] => []
  | c :: r => c.cells :: Cn.cellsL r
end
theorem Cn.cellsL_len : ∀ ks : List Cn, (Cn.cellsL ks).length = ks.length
  | [] => rfl
  | c :: r => by simp [Cn.cellsL, Cn.cellsL_len r]
theorem Cn.cellsL_at : ∀ (ks : List Cn) (j : Nat) (h : j < ks.length), (Cn.cellsL ks)[j]? = some ks[j].cells
  | c :: r, 0, h => by simp [Cn.cellsL]
  | c :: r, j + 1, h => by simpa [Cn.cellsL] using Cn.cellsL_at r j (by simpa using h)
theorem Ty.cells_eq (t : Ty) : t.cells = [.int .i8 t.k, .slice (Ty.cellsL t.ts)] := by cases t; simp [Ty.cells, Ty.k, Ty.ts]
theorem Cn.kid {ks : List Cn} {j : Nat} (h : j < ks.length) : ∃ c, c ∈ ks ∧ (Cn.cellsL ks)[j]? = some c.cells ∧ ks.drop j = c :: ks.drop (j + 1) ∧ ks[j]? = some c :=
  ⟨ks[j], List.getElem_mem h, Cn.cellsL_at ks j h, List.drop_eq_getElem_cons h, by simp⟩
mutual
def Cn.fits : Cn → Prop
  | .mk _ ty to lab _ ks => ty.fits ∧ to.fits ∧ ks.length ≤ 9223372036854775807 ∧ (-9223372036854775808 ≤ lab ∧ lab ≤ 9223372036854775807) ∧ Cn.fitsL ks
def Cn.fitsL : List Cn → Prop
  | [] => True
  | c :: r => c.fits ∧ Cn.fitsL r
end
theorem Cn.fitsL_mem : ∀ {ks : List Cn}, Cn.fitsL ks → ∀ c ∈ ks, c.fits
  | a :: r, h, t, ht => by
    simp only [Cn.fitsL] at h
    rcases List.mem_cons.1 ht with rfl | ht
    · exact h.1
    · exact Cn.fitsL_mem h.2 t ht

def leafF (k : Int) : Bool := k == 0 || k == 1 || k == 2 || k == 3
theorem leaf_does (k : Int) : Does Tryd.prog 39 [.imm false (.int .i8 k)] [] (.ret true (.bool (leafF k))) [] := by
  refine does39 (by rfl) (by rfl) ?_
  (try simp (implicitDefEqProofs := false) only [go_sem, ↓reduceIte, Nat.reduceEqDiff, reduceCtorEq, Nat.reduceAdd, Nat.reduceSub, Nat.reduceLeDiff, Nat.reduceLT, Nat.reduceMul, Int.reduceToNat, Int.reduceLT, Int.reduceLE])
  by_cases h0 : k = 0
  · subst h0; (try simp (implicitDefEqProofs := false) only [go_sem, ↓reduceIte, Nat.reduceEqDiff, reduceCtorEq, Nat.reduceAdd, Nat.reduceSub, Nat.reduceLeDiff, Nat.reduceLT, Nat.reduceMul, Int.reduceToNat, Int.reduceLT, Int.reduceLE, beq_self_eq_true]); rfl
  by_cases h1 : k = 1
  · subst h1; (try simp (implicitDefEqProofs := false) only [go_sem, ↓reduceIte, Nat.reduceEqDiff, reduceCtorEq, Nat.reduceAdd, Nat.reduceSub, Nat.reduceLeDiff, Nat.reduceLT, Nat.reduceMul, Int.reduceToNat, Int.reduceLT, Int.reduceLE, beq_self_eq_true, show ((1:Int) == 0) = false from rfl]); rfl
  by_cases h2 : k = 2
  · subst h2; (try simp (implicitDefEqProofs := false) only [go_sem, ↓reduceIte, Nat.reduceEqDiff, reduceCtorEq, Nat.reduceAdd, Nat.reduceSub, Nat.reduceLeDiff, Nat.reduceLT, Nat.reduceMul, Int.reduceToNat, Int.reduceLT, Int.reduceLE, beq_self_eq_true, show ((2:Int) == 0) = false from rfl, show ((2:Int) == 1) = false from rfl]); rfl
  by_cases h3 : k = 3
  · subst h3; (try simp (implicitDefEqProofs := false) only [go_sem, ↓reduceIte, Nat.reduceEqDiff, reduceCtorEq, Nat.reduceAdd, Nat.reduceSub, Nat.reduceLeDiff, Nat.reduceLT, Nat.reduceMul, Int.reduceToNat, Int.reduceLT, Int.reduceLE, beq_self_eq_true, show ((3:Int) == 0) = false from rfl, show ((3:Int) == 1) = false from rfl, show ((3:Int) == 2) = false from rfl]); rfl
  (try simp (implicitDefEqProofs := false) only [go_sem, ↓reduceIte, Nat.reduceEqDiff, reduceCtorEq, Nat.reduceAdd, Nat.reduceSub, Nat.reduceLeDiff, Nat.reduceLT, Nat.reduceMul, Int.reduceToNat, Int.reduceLT, Int.reduceLE, show (k == 0) = false from by simpa using h0, show (k == 1) = false from by simpa using h1, show (k == 2) = false from by simpa using h2, show (k == 3) = false from by simpa using h3])
  simp [leafF, h0, h1, h2, h3]

def Ty.un : Ty := .mk 0 []
/-- a coercion of two -/
def part (k : Int) (a b : Cn) : Cn := .mk k .un .un 0 false [a, b]
def Cn.zero : Cn := .mk 0 .un .un 0 false []
theorem part_cells (k : Int) (a b : Cn) : (part k a b).cells = [.int .i8 k, .int .i8 0, .slice [], .int .i8 0, .slice [], .int .i64 0, .bool false, .slice [a.cells, b.cells]] := by
  simp [part, Cn.cells, Cn.cellsL, Ty.un, Ty.k, Ty.ts, Ty.cellsL]
theorem Cn.cells_len (c : Cn) : c.cells.length = 8 := by cases c; simp [Cn.cells]

theorem seq_does (a b : Cn) : Does Tryd.prog 21 [.imm false (.agg a.cells), .imm false (.agg b.cells)] [] (.ret false (.agg (part 7 a b).cells)) [] := by
  obtain ⟨k, ty, to, lab, neg, ks⟩ := a
  obtain ⟨k', ty', to', lab', neg', ks'⟩ := b
  refine does21 (by rfl) (by rfl) ?_
  (try simp (implicitDefEqProofs := false) only [go_sem, ↓reduceIte, Nat.reduceEqDiff, reduceCtorEq, Nat.reduceAdd, Nat.reduceSub, Nat.reduceLeDiff, Nat.reduceLT, Nat.reduceMul, Int.reduceToNat, Int.reduceLT, Int.reduceLE, Cn.cells, part_cells])

/-! ### of two that agree -/
def OfD (lab : Int) (neg : Bool) (a b : Ty) (c : Cn) : Prop := Does Tryd.prog 11 [.loc (.arg 0) 0, .imm false (.ptr a.cells 0), .imm false (.ptr b.cells 0)] [[.imm false (.int .i64 lab), .imm false (.bool neg)]] (.ret false (.agg c.cells)) [[.imm false (.int .i64 lab), .imm false (.bool neg)]]
def OtD (lab : Int) (neg : Bool) (a b : Ty) (c : Cn) : Prop := Does Tryd.prog 22 [.loc (.arg 0) 0, .imm false (.ptr a.cells 0), .imm false (.ptr b.cells 0)] [[.imm false (.int .i64 lab), .imm false (.bool neg)]] (.ret false (.agg c.cells)) [[.imm false (.int .i64 lab), .imm false (.bool neg)]]

theorem other_does {lab : Int} {neg : Bool} {a b : Ty} {c : Cn} (h : OfD lab (!neg) a b c) : OtD lab neg a b c := by
  obtain ⟨k, ts⟩ := a
  obtain ⟨k', us⟩ := b
  obtain ⟨k2, ty, to, lab2, neg2, ks⟩ := c
  refine does22 (by rfl) (by rfl) ?_
  (try simp (implicitDefEqProofs := false) only [go_sem, ↓reduceIte, Nat.reduceEqDiff, reduceCtorEq, Nat.reduceAdd, Nat.reduceSub, Nat.reduceLeDiff, Nat.reduceLT, Nat.reduceMul, Int.reduceToNat, Int.reduceLT, Int.reduceLE, Ty.cells])
  refine CallBK_do h ?_
  (try simp (implicitDefEqProofs := false) only [go_sem, ↓reduceIte, Nat.reduceEqDiff, reduceCtorEq, Nat.reduceAdd, Nat.reduceSub, Nat.reduceLeDiff, Nat.reduceLT, Nat.reduceMul, Int.reduceToNat, Int.reduceLT, Int.reduceLE, Cn.cells, Bool.not_not])

theorem of_id (lab : Int) (neg : Bool) (k : Int) (us : List Ty) : OfD lab neg (.mk k []) (.mk k us) (.mk 0 (.mk k []) .un 0 false []) := by
  refine does11 (by rfl) (by rfl) ?_
  simp (implicitDefEqProofs := false) only [go_sem, ↓reduceIte, Nat.reduceEqDiff, reduceCtorEq, Nat.reduceAdd, Nat.reduceSub, Nat.reduceLeDiff, Nat.reduceLT, Nat.reduceMul, Int.reduceToNat, Int.reduceLT, Int.reduceLE, Ty.cells, Ty.cellsL, Cn.cells, Cn.cellsL, Ty.un, Ty.k, Ty.ts]

theorem of_in {lab : Int} {neg : Bool} {k : Int} {ts us : List Ty} {c : Cn} (hk : k ≠ 0) (hf : (Ty.mk k ts).fits) (h : OfD lab neg (.mk k ts) (Ty.mk k ts).ground.1 c) :
    OfD lab neg (.mk k ts) (.mk 0 us) (part 7 c (.mk 2 (Ty.mk k ts).ground.1 .un 0 false [])) := by
  have hb : (k == 0) = false := by simpa using hk
  have hg := ground_does _ hf
  generalize (Ty.mk k ts).ground = g at h hg
  obtain ⟨⟨gk, gs⟩, gb⟩ := g
  refine does11 (by rfl) (by rfl) ?_
  (try simp (implicitDefEqProofs := false) only [go_sem, ↓reduceIte, Nat.reduceEqDiff, reduceCtorEq, Nat.reduceAdd, Nat.reduceSub, Nat.reduceLeDiff, Nat.reduceLT, Nat.reduceMul, Int.reduceToNat, Int.reduceLT, Int.reduceLE, Ty.cells, Cn.cells, hb, beq_self_eq_true])
  refine CallK_do hg ?_
  (try simp (implicitDefEqProofs := false) only [go_sem, ↓reduceIte, Nat.reduceEqDiff, reduceCtorEq, Nat.reduceAdd, Nat.reduceSub, Nat.reduceLeDiff, Nat.reduceLT, Nat.reduceMul, Int.reduceToNat, Int.reduceLT, Int.reduceLE, Ty.cells, List.map_cons, List.map_nil])
  refine CallBK_do h ?_
  (try simp (implicitDefEqProofs := false) only [go_sem, ↓reduceIte, Nat.reduceEqDiff, reduceCtorEq, Nat.reduceAdd, Nat.reduceSub, Nat.reduceLeDiff, Nat.reduceLT, Nat.reduceMul, Int.reduceToNat, Int.reduceLT, Int.reduceLE])
  refine CallK_do (v := .agg (part 7 c (.mk 2 (.mk gk gs) .un 0 false [])).cells) (fr := false) ?_ ?_
  · have := seq_does c (.mk 2 (.mk gk gs) .un 0 false [])
    simpa [Cn.cells, Cn.cellsL, Ty.k, Ty.ts, Ty.un, Ty.cellsL] using this
  · (try simp (implicitDefEqProofs := false) only [go_sem, ↓reduceIte, Nat.reduceEqDiff, reduceCtorEq, Nat.reduceAdd, Nat.reduceSub, Nat.reduceLeDiff, Nat.reduceLT, Nat.reduceMul, Int.reduceToNat, Int.reduceLT, Int.reduceLE, part_cells])

theorem of_out {lab : Int} {neg : Bool} {k : Int} {ts us : List Ty} {c : Cn} (hk : k ≠ 0) (hf : (Ty.mk k ts).fits) (h : OfD lab neg (Ty.mk k ts).ground.1 (.mk k ts) c) :
    OfD lab neg (.mk 0 us) (.mk k ts) (part 7 (.mk 3 (Ty.mk k ts).ground.1 .un lab neg []) c) := by
  have hb : (k == 0) = false := by simpa using hk
  have hb' : ((0 : Int) == k) = false := by simpa using Ne.symm hk
  have hg := ground_does _ hf
  generalize (Ty.mk k ts).ground = g at h hg
  obtain ⟨⟨gk, gs⟩, gb⟩ := g
  obtain ⟨k2, ty, to, lab2, neg2, ks⟩ := c
  refine does11 (by rfl) (by rfl) ?_
  (try simp (implicitDefEqProofs := false) only [go_sem, ↓reduceIte, Nat.reduceEqDiff, reduceCtorEq, Nat.reduceAdd, Nat.reduceSub, Nat.reduceLeDiff, Nat.reduceLT, Nat.reduceMul, Int.reduceToNat, Int.reduceLT, Int.reduceLE, Ty.cells, Cn.cells, hb, hb'])
  refine CallK_do hg ?_
  (try simp (implicitDefEqProofs := false) only [go_sem, ↓reduceIte, Nat.reduceEqDiff, reduceCtorEq, Nat.reduceAdd, Nat.reduceSub, Nat.reduceLeDiff, Nat.reduceLT, Nat.reduceMul, Int.reduceToNat, Int.reduceLT, Int.reduceLE, Ty.cells])
  refine CallBK_do h ?_
  (try simp (implicitDefEqProofs := false) only [go_sem, ↓reduceIte, Nat.reduceEqDiff, reduceCtorEq, Nat.reduceAdd, Nat.reduceSub, Nat.reduceLeDiff, Nat.reduceLT, Nat.reduceMul, Int.reduceToNat, Int.reduceLT, Int.reduceLE, Cn.cells])
  refine CallK_do (v := .agg (part 7 (.mk 3 (.mk gk gs) .un lab neg []) (.mk k2 ty to lab2 neg2 ks)).cells) (fr := false) ?_ ?_
  · have := seq_does (.mk 3 (.mk gk gs) .un lab neg []) (.mk k2 ty to lab2 neg2 ks)
    simpa [Cn.cells, Ty.k, Ty.ts, Ty.un, Ty.cellsL, Cn.cellsL] using this
  · (try simp (implicitDefEqProofs := false) only [go_sem, ↓reduceIte, Nat.reduceEqDiff, reduceCtorEq, Nat.reduceAdd, Nat.reduceSub, Nat.reduceLeDiff, Nat.reduceLT, Nat.reduceMul, Int.reduceToNat, Int.reduceLT, Int.reduceLE, part_cells])

theorem of_fun {lab : Int} {neg : Bool} {f0 f1 t0 t1 : Ty} {c d : Cn} (h : OfD lab (!neg) t0 f0 c) (h' : OfD lab neg f1 t1 d) :
    OfD lab neg (.mk 3 [f0, f1]) (.mk 3 [t0, t1]) (part 4 c d) := by
  have ho := other_does h
  obtain ⟨a0, a1⟩ := f0
  obtain ⟨b0, b1⟩ := f1
  obtain ⟨c0, c1⟩ := t0
  obtain ⟨d0, d1⟩ := t1
  obtain ⟨k1, ty1, to1, lab1, neg1, ks1⟩ := c
  obtain ⟨k2, ty2, to2, lab2, neg2, ks2⟩ := d
  refine does11 (by rfl) (by rfl) ?_
  (try simp (implicitDefEqProofs := false) only [go_sem, ↓reduceIte, Nat.reduceEqDiff, reduceCtorEq, Nat.reduceAdd, Nat.reduceSub, Nat.reduceLeDiff, Nat.reduceLT, Nat.reduceMul, Int.reduceToNat, Int.reduceLT, Int.reduceLE, Ty.cells, Cn.cells, Ty.cellsL, show ((3 : Int) == 0) = false from rfl, show ((2 : Int) == 0) = false from rfl])
  refine CallBK_do ho ?_
  (try simp (implicitDefEqProofs := false) only [go_sem, ↓reduceIte, Nat.reduceEqDiff, reduceCtorEq, Nat.reduceAdd, Nat.reduceSub, Nat.reduceLeDiff, Nat.reduceLT, Nat.reduceMul, Int.reduceToNat, Int.reduceLT, Int.reduceLE, Ty.cells, Ty.cellsL])
  refine CallBK_do h' ?_
  (try simp (implicitDefEqProofs := false) only [go_sem, ↓reduceIte, Nat.reduceEqDiff, reduceCtorEq, Nat.reduceAdd, Nat.reduceSub, Nat.reduceLeDiff, Nat.reduceLT, Nat.reduceMul, Int.reduceToNat, Int.reduceLT, Int.reduceLE, Cn.cells, part_cells])

theorem of_two {lab : Int} {neg : Bool} {k : Int} {f0 f1 t0 t1 : Ty} {c d : Cn} (hk : k = 4 ∨ k = 5) (h : OfD lab neg f0 t0 c) (h' : OfD lab neg f1 t1 d) :
    OfD lab neg (.mk k [f0, f1]) (.mk k [t0, t1]) (part (k + 1) c d) := by
  obtain ⟨a0, a1⟩ := f0
  obtain ⟨b0, b1⟩ := f1
  obtain ⟨c0, c1⟩ := t0
  obtain ⟨d0, d1⟩ := t1
  obtain ⟨k1, ty1, to1, lab1, neg1, ks1⟩ := c
  obtain ⟨k2, ty2, to2, lab2, neg2, ks2⟩ := d
  rcases hk with rfl | rfl
  · refine does11 (by rfl) (by rfl) ?_
    (try simp (implicitDefEqProofs := false) only [go_sem, ↓reduceIte, Nat.reduceEqDiff, reduceCtorEq, Nat.reduceAdd, Nat.reduceSub, Nat.reduceLeDiff, Nat.reduceLT, Nat.reduceMul, Int.reduceToNat, Int.reduceLT, Int.reduceLE, Ty.cells, Cn.cells, Ty.cellsL, show ((4 : Int) == 0) = false from rfl, show ((2 : Int) == 0) = false from rfl, show ((4 : Int) == 3) = false from rfl, show ((4 : Int) == 5) = false from rfl])
    refine CallBK_do h ?_
    (try simp (implicitDefEqProofs := false) only [go_sem, ↓reduceIte, Nat.reduceEqDiff, reduceCtorEq, Nat.reduceAdd, Nat.reduceSub, Nat.reduceLeDiff, Nat.reduceLT, Nat.reduceMul, Int.reduceToNat, Int.reduceLT, Int.reduceLE, Ty.cells, Ty.cellsL])
    refine CallBK_do h' ?_
    (try simp (implicitDefEqProofs := false) only [go_sem, ↓reduceIte, Nat.reduceEqDiff, reduceCtorEq, Nat.reduceAdd, Nat.reduceSub, Nat.reduceLeDiff, Nat.reduceLT, Nat.reduceMul, Int.reduceToNat, Int.reduceLT, Int.reduceLE, Cn.cells, part_cells, show (4 : Int) + 1 = 5 from rfl])
  · refine does11 (by rfl) (by rfl) ?_
    (try simp (implicitDefEqProofs := false) only [go_sem, ↓reduceIte, Nat.reduceEqDiff, reduceCtorEq, Nat.reduceAdd, Nat.reduceSub, Nat.reduceLeDiff, Nat.reduceLT, Nat.reduceMul, Int.reduceToNat, Int.reduceLT, Int.reduceLE, Ty.cells, Cn.cells, Ty.cellsL, show ((5 : Int) == 0) = false from rfl, show ((2 : Int) == 0) = false from rfl, show ((5 : Int) == 3) = false from rfl])
    refine CallBK_do h ?_
    (try simp (implicitDefEqProofs := false) only [go_sem, ↓reduceIte, Nat.reduceEqDiff, reduceCtorEq, Nat.reduceAdd, Nat.reduceSub, Nat.reduceLeDiff, Nat.reduceLT, Nat.reduceMul, Int.reduceToNat, Int.reduceLT, Int.reduceLE, Ty.cells, Ty.cellsL])
    refine CallBK_do h' ?_
    (try simp (implicitDefEqProofs := false) only [go_sem, ↓reduceIte, Nat.reduceEqDiff, reduceCtorEq, Nat.reduceAdd, Nat.reduceSub, Nat.reduceLeDiff, Nat.reduceLT, Nat.reduceMul, Int.reduceToNat, Int.reduceLT, Int.reduceLE, Cn.cells, part_cells, show (5 : Int) + 1 = 6 from rfl])
end Go.Proofs.YtopgmopdjiahmaaDoor.Lg
