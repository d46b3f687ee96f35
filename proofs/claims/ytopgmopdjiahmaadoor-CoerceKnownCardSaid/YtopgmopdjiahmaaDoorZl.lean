/- CoerceKnown: the coercions it makes, and what it answers. Conditions: none; plain lemmas. -/
import Derived.Test.YtopgmopdjiahmaaDoorZk
import Derived.Test.YtopgmopdjiahmaaDoorNl
import Derived.Test.YtopgmopdjiahmaaDoorNq
set_option linter.unusedVariables false
set_option linter.unusedSimpArgs false
set_option maxRecDepth 100000
set_option maxHeartbeats 4000000
namespace Go.Proofs.YtopgmopdjiahmaaDoor.Lg
open Go Go.RowKit Go.Proofs Go.Proofs.YtopgmopdjiahmaaDoor
def Cn.sizeF (c : Cn) : Int := if c.chk.2.2 = 0 then c.size else 0
theorem csize_does (c : Cn) (hf : c.fits) : Does Tryd.prog 7 [.imm false (.agg c.cells)] [] (.ret true (.int .i64 c.sizeF)) [] := by
  have h1 := cchk_does c hf
  have h2 : c.chk.2.2 = 0 → _ := fun h => measure_does c hf (ok_iff h).2.2.1 (few_num (ok_iff h).1)
  unfold Cn.sizeF chV at *
  generalize c.chk = e at h1 h2
  obtain ⟨e1, e2, e3⟩ := e
  generalize c.size = sz at h2
  generalize c.height = ht at h2
  obtain ⟨k, ty, to, lab, neg, ks⟩ := c
  simp only [Ty.cells_eq] at h1
  refine does7 (by rfl) (by rfl) ?_
  (try simp (implicitDefEqProofs := false) only [go_sem, ↓reduceIte, Nat.reduceEqDiff, reduceCtorEq, Nat.reduceAdd, Nat.reduceSub, Nat.reduceLeDiff, Nat.reduceLT, Nat.reduceMul, Int.reduceToNat, Int.reduceLT, Int.reduceLE, Cn.cells])
  refine CallK_do h1 ?_
  by_cases hz : e3 = 0
  · have h2 := (h2 hz).1
    (try simp (implicitDefEqProofs := false) only [go_sem, ↓reduceIte, Nat.reduceEqDiff, reduceCtorEq, Nat.reduceAdd, Nat.reduceSub, Nat.reduceLeDiff, Nat.reduceLT, Nat.reduceMul, Int.reduceToNat, Int.reduceLT, Int.reduceLE, Ty.cells_eq, hz, show ((0 : Int) != 0) = false from rfl])
    refine CallK_do h2 ?_
    (try simp (implicitDefEqProofs := false) only [go_sem, ↓reduceIte, Nat.reduceEqDiff, reduceCtorEq, Nat.reduceAdd, Nat.reduceSub, Nat.reduceLeDiff, Nat.reduceLT, Nat.reduceMul, Int.reduceToNat, Int.reduceLT, Int.reduceLE])
  · (try simp (implicitDefEqProofs := false) only [go_sem, ↓reduceIte, Nat.reduceEqDiff, reduceCtorEq, Nat.reduceAdd, Nat.reduceSub, Nat.reduceLeDiff, Nat.reduceLT, Nat.reduceMul, Int.reduceToNat, Int.reduceLT, Int.reduceLE, Ty.cells_eq, show (e3 != 0) = true from by simpa using hz])
    simp [hz]

theorem ofA_ok {a b : Ty} {lab : Int} {c : Cn} {e : Int} (h : OfA a b lab c e) (h0 : a.check = 0) (h1 : b.check = 0) (h2 : a.lev b = true) (h3 : labIn lab = true) {d : Cn} (hd : OfR (labN lab) (labS lab) a b d) (hk : d.chk.2.2 = 0) : c = d ∧ e = 0 := by
  cases h with
  | e1 h => exact absurd h0 h
  | e2 _ h => exact absurd h1 h
  | e3 _ _ h => rcases h with h | h <;> simp_all
  | e4 _ _ _ _ _ hc he =>
    have := OfR.det hc hd
    subst this
    exact absurd hk he
  | ok _ _ _ _ _ hc he => exact ⟨OfR.det hc hd, rfl⟩
theorem ofA_bad {a b : Ty} {lab : Int} {c : Cn} {e : Int} (h : OfA a b lab c e) (h0 : a.check = 0) (h1 : b.check = 0) (h2 : a.lev b = false ∨ labIn lab = false) : c = .zero ∧ e = 150 := by
  cases h with
  | e1 h => exact absurd h0 h
  | e2 _ h => exact absurd h1 h
  | e3 _ _ h => exact ⟨rfl, rfl⟩
  | e4 _ _ _ h3 h4 _ _ => rcases h2 with h | h <;> simp_all
  | ok _ _ _ h3 h4 _ _ => rcases h2 with h | h <;> simp_all
def tI : Ty := .mk 1 []
def tB : Ty := .mk 2 []
def kG : Cn := part 7 (part 4 (idC 0) (part 7 (idC 1) (inC 1))) (.mk 2 (.mk 3 [.un, .un]) .un 0 false [])
theorem fits_leaf (k : Int) : (Ty.mk k []).fits := ⟨by simp, trivial⟩
theorem fits_fun (a b : Ty) (ha : a.fits) (hb : b.fits) : (Ty.mk 3 [a, b]).fits := ⟨by simp, ha, hb, trivial⟩
theorem of_c : Does Tryd.prog 5 [.imm false (.agg tI.cells), .imm false (.agg Ty.un.cells), .imm false (.int .i64 3)] [] (.ret false (.tup [.agg kC.cells, .int .i64 0])) [] := by
  obtain ⟨c, e, h, hd⟩ := coerceOf_does tI .un (fits_leaf 1) (fits_leaf 0) 3 (by omega)
  obtain ⟨rfl, rfl⟩ := ofA_ok h rfl rfl rfl rfl (d := kC) (.inn false 1 [] [] (idC 1) (by omega) rfl (.id false 1 [])) (by decide +kernel)
  exact hd
theorem of_d : Does Tryd.prog 5 [.imm false (.agg (Ty.mk 3 [tI, .un]).cells), .imm false (.agg (Ty.mk 3 [.un, tB]).cells), .imm false (.int .i64 2)] [] (.ret false (.tup [.agg kD.cells, .int .i64 0])) [] := by
  obtain ⟨c, e, h, hd⟩ := coerceOf_does (.mk 3 [tI, .un]) (.mk 3 [.un, tB]) (fits_fun _ _ (fits_leaf 1) (fits_leaf 0)) (fits_fun _ _ (fits_leaf 0) (fits_leaf 2)) 2 (by omega)
  obtain ⟨rfl, rfl⟩ := ofA_ok h (by decide +kernel) (by decide +kernel) (by decide +kernel) rfl (d := kD)
    (.fn false tI .un .un tB _ _ (.out true 1 [] [] (idC 1) (by omega) rfl (.id true 1 [])) (.out false 2 [] [] (idC 2) (by omega) rfl (.id false 2 []))) (by decide +kernel)
  exact hd
theorem of_g : Does Tryd.prog 5 [.imm false (.agg (Ty.mk 3 [.un, tI]).cells), .imm false (.agg Ty.un.cells), .imm false (.int .i64 1)] [] (.ret false (.tup [.agg kG.cells, .int .i64 0])) [] := by
  obtain ⟨c, e, h, hd⟩ := coerceOf_does (.mk 3 [.un, tI]) .un (fits_fun _ _ (fits_leaf 0) (fits_leaf 1)) (fits_leaf 0) 1 (by omega)
  obtain ⟨rfl, rfl⟩ := ofA_ok h (by decide +kernel) rfl (by decide +kernel) rfl (d := kG)
    (.inn false 3 [.un, tI] [] _ (by omega) (by decide +kernel) (.fn false .un tI .un .un _ _ (.id true 0 []) (.inn false 1 [] [] (idC 1) (by omega) rfl (.id false 1 [])))) (by decide +kernel)
  exact hd
theorem of_k : Does Tryd.prog 5 [.imm false (.agg tI.cells), .imm false (.agg tB.cells), .imm false (.int .i64 1)] [] (.ret false (.tup [.agg Cn.zero.cells, .int .i64 150])) [] := by
  obtain ⟨c, e, h, hd⟩ := coerceOf_does tI tB (fits_leaf 1) (fits_leaf 2) 1 (by omega)
  obtain ⟨rfl, rfl⟩ := ofA_bad h rfl rfl (.inl (by decide +kernel))
  exact hd
theorem of_l : Does Tryd.prog 5 [.imm false (.agg tI.cells), .imm false (.agg Ty.un.cells), .imm false (.int .i64 0)] [] (.ret false (.tup [.agg Cn.zero.cells, .int .i64 150])) [] := by
  obtain ⟨c, e, h, hd⟩ := coerceOf_does tI .un (fits_leaf 1) (fits_leaf 0) 0 (by omega)
  obtain ⟨rfl, rfl⟩ := ofA_bad h rfl rfl (.inr rfl)
  exact hd
theorem fits_leafC (k : Int) (ty : Ty) (ht : ty.fits) (lab : Int) (hl : 0 ≤ lab ∧ lab ≤ 100) (neg : Bool) : (Cn.mk k ty .un lab neg []).fits := ⟨ht, un_fits, by simp, by omega, trivial⟩
theorem fits_kC : kC.fits := part_fits (fits_leafC 0 _ (fits_leaf 1) 0 (by omega) _) (fits_leafC 2 _ (fits_leaf 1) 0 (by omega) _)
theorem fits_kD : kD.fits := part_fits (part_fits (fits_leafC 3 _ (fits_leaf 1) 2 (by omega) _) (fits_leafC 0 _ (fits_leaf 1) 0 (by omega) _)) (part_fits (fits_leafC 3 _ (fits_leaf 2) 2 (by omega) _) (fits_leafC 0 _ (fits_leaf 2) 0 (by omega) _))
theorem fits_kG : kG.fits := part_fits (part_fits (fits_leafC 0 _ (fits_leaf 0) 0 (by omega) _) (part_fits (fits_leafC 0 _ (fits_leaf 1) 0 (by omega) _) (fits_leafC 2 _ (fits_leaf 1) 0 (by omega) _))) (fits_leafC 2 _ (fits_fun _ _ (fits_leaf 0) (fits_leaf 0)) 0 (by omega) _)
def tC : ByteArray := ⟨#[105, 100, 32, 123, 32, 105, 110, 116, 32, 125, 32, 59, 32, 123, 32, 105, 110, 116, 32, 125, 32, 33]⟩
def tD : ByteArray := ⟨#[40, 32, 123, 32, 105, 110, 116, 32, 125, 32, 63, 32, 45, 50, 32, 59, 32, 105, 100, 32, 123, 32, 105, 110, 116, 32, 125, 32, 45, 62, 32, 123, 32, 98, 111, 111, 108, 32, 125, 32, 63, 32, 50, 32, 59, 32, 105, 100, 32, 123, 32, 98, 111, 111, 108, 32, 125, 32, 41]⟩
theorem join_c : joinB kCw ⟨#[32]⟩ = tC := by decide +kernel
theorem join_d : joinB kDw ⟨#[32]⟩ = tD := by decide +kernel
theorem text_c : Does Tryd.prog 6 [.imm false (.agg kC.cells)] [] (.ret true (.str tC)) [] := by
  have h := text_does kC fits_kC (by decide +kernel) kCw 700 doesA_kC (by simp [kCw]) (by simp [kCw]) (by rw [join_c]; decide +kernel)
  rw [join_c] at h; exact h
theorem text_d : Does Tryd.prog 6 [.imm false (.agg kD.cells)] [] (.ret true (.str tD)) [] := by
  have h := text_does kD fits_kD (by decide +kernel) kDw 600 doesA_kD (by simp [kDw]) (by simp [kDw]) (by rw [join_d]; decide +kernel)
  rw [join_d] at h; exact h
theorem size_g : Does Tryd.prog 7 [.imm false (.agg kG.cells)] [] (.ret true (.int .i64 5)) [] := by
  have h := csize_does kG fits_kG
  rw [show kG.sizeF = 5 by decide +kernel] at h; exact h
theorem height_g : Does Tryd.prog 8 [.imm false (.agg kG.cells)] [] (.ret true (.int .i64 2)) [] := by
  have h := cheight_does kG fits_kG
  rw [show kG.heightF = 2 by decide +kernel] at h; exact h
theorem fun_does (a b : Ty) : Does Tryd.prog 4 [.imm false (.agg a.cells), .imm false (.agg b.cells)] [] (.ret false (.agg (Ty.mk 3 [a, b]).cells)) [] := by
  obtain ⟨ka, ta⟩ := a
  obtain ⟨kb, tb⟩ := b
  refine does4 (by rfl) (by rfl) ?_
  (try simp (implicitDefEqProofs := false) only [go_sem, ↓reduceIte, Nat.reduceEqDiff, reduceCtorEq, Nat.reduceAdd, Nat.reduceSub, Nat.reduceLeDiff, Nat.reduceLT, Nat.reduceMul, Int.reduceToNat, Int.reduceLT, Int.reduceLE, Ty.cells, Ty.cellsL])
end Go.Proofs.YtopgmopdjiahmaaDoor.Lg
