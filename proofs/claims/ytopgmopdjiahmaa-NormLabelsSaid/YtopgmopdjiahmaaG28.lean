/- Texts of one proof, joined by program (gen/merge.py): Wd We Wf. Conditions: none; plain definitions and lemmas. -/
import Derived.Test.YtopgmopdjiahmaaG26
import Derived.Test.YtopgmopdjiahmaaG27
/- The walk of a term that NormLabels makes. Conditions: none; plain lemmas. -/
set_option linter.unusedVariables false
set_option linter.unusedSimpArgs false
set_option maxRecDepth 100000
set_option maxHeartbeats 2000000
namespace Go.Proofs.Ytopgmopdjiahmaa.Lg
open Go Go.RowKit Go.Proofs

theorem nameD (s : ByteArray) (h : ∀ w : World, Calls Try.prog 131 #[.string s] w fun e w' => e = .returned (.bool true) ∧ Kept w w') : Does Try.prog 131 [.imm false (.str s)] [] (.ret true (.bool true)) [] := by
  refine ⟨⟨Try.f131, Try.func131, by kernel_rfl, by kernel_rfl⟩, rfl, fun cx M vals hna hI hR => ?_⟩
  have hdf : cx.dfs = [] := hI.defers.symm
  have h1 : vals.length = 1 := hR.1
  have h2 := hR.2 0 (by simp) (by omega)
  have h3 := RepL.imm_iff.1 h2
  obtain ⟨x, rfl⟩ : ∃ x, vals = [x] := by
    match vals, h1 with
    | [x], _ => exact ⟨x, rfl⟩
  have hx : x = .string s := by simp only [List.getElem_cons_zero] at h3; cases h3; rfl
  subst hx
  refine (h cx.w).mono ?_
  rintro e w' ⟨rfl, k1, k2, k3, k4, k5⟩
  exact ⟨Inv.bare hna hdf k1 k2 k3 k4 k5, _, rfl, RepL.imm_iff.2 (.bool _)⟩
theorem nameF : Does Try.prog 131 [.imm false (.str ⟨#[102]⟩)] [] (.ret true (.bool true)) [] := nameD _ name_f
theorem nameX : Does Try.prog 131 [.imm false (.str ⟨#[120]⟩)] [] (.ret true (.bool true)) [] := nameD _ name_x

theorem term_yes {n : Int} (h : 0 ≤ n) (h1 : n + 1 ≤ 8192) : Does Try.prog 128 [.loc (.arg 0) 0, .imm false (.ptr yesC 0)] [[.imm false (.int .i64 n)]] (.ret true (.tup [])) [[.imm false (.int .i64 (n + 1))]] := by
  have ha := add_yes (n := n) (m := 1) false false h (by omega) h1
  refine does128 (by rfl) (by rfl) ?_
  (try simp (implicitDefEqProofs := false) only [go_sem, ↓reduceIte, Nat.reduceEqDiff, reduceCtorEq, Nat.reduceAdd, Nat.reduceSub, Nat.reduceLeDiff, Nat.reduceLT, Nat.reduceMul, Int.reduceToNat, Int.reduceLT, Int.reduceLE, yesC])
  refine CallBK_do ha ?_
  (try simp (implicitDefEqProofs := false) only [go_sem, ↓reduceIte, Nat.reduceEqDiff, reduceCtorEq, Nat.reduceAdd, Nat.reduceSub, Nat.reduceLeDiff, Nat.reduceLT, Nat.reduceMul, Int.reduceToNat, Int.reduceLT, Int.reduceLE])
  refine CallK_do of2_does ?_
  (try simp (implicitDefEqProofs := false) only [go_sem, ↓reduceIte, Nat.reduceEqDiff, reduceCtorEq, Nat.reduceAdd, Nat.reduceSub, Nat.reduceLeDiff, Nat.reduceLT, Nat.reduceMul, Int.reduceToNat, Int.reduceLT, Int.reduceLE])
  refine ⟨fun q σ => q = 0 ∧ ∃ g, σ = ⟨[(0, .loc (.arg 0) 0), (1, .imm false (.ptr yesC 0)), (39, .imm true (.int .i64 0)), (40, .imm true (.int .i64 0))], [(.arg 0, .var [.imm g (.int .i64 (n + 1))])], []⟩, ⟨_, rfl, _, rfl⟩, ?_⟩
  rintro q σ ⟨rfl, g, rfl⟩
  unfold l128_0
  (try simp (implicitDefEqProofs := false) only [go_sem, ↓reduceIte, Nat.reduceEqDiff, reduceCtorEq, Nat.reduceAdd, Nat.reduceSub, Nat.reduceLeDiff, Nat.reduceLT, Nat.reduceMul, Int.reduceToNat, Int.reduceLT, Int.reduceLE, show decide ((0 : Int) < 0) = false from rfl])
theorem term_yes_no {n : Int} (h : 0 ≤ n) (h1 : n ≤ 8192) (h2 : n + 1 > 8192) : Does Try.prog 128 [.loc (.arg 0) 0, .imm false (.ptr yesC 0)] [[.imm false (.int .i64 n)]] (.pan 114) [[.imm false (.int .i64 (n + 1))]] := by
  have ha := add_no (n := n) (m := 1) false false h (by omega) h2 (by omega)
  refine does128 (by rfl) (by rfl) ?_
  (try simp (implicitDefEqProofs := false) only [go_sem, ↓reduceIte, Nat.reduceEqDiff, reduceCtorEq, Nat.reduceAdd, Nat.reduceSub, Nat.reduceLeDiff, Nat.reduceLT, Nat.reduceMul, Int.reduceToNat, Int.reduceLT, Int.reduceLE, yesC])
  refine CallBK_do ha ?_
  (try simp (implicitDefEqProofs := false) only [go_sem, ↓reduceIte, Nat.reduceEqDiff, reduceCtorEq, Nat.reduceAdd, Nat.reduceSub, Nat.reduceLeDiff, Nat.reduceLT, Nat.reduceMul, Int.reduceToNat, Int.reduceLT, Int.reduceLE])

/-- all nodes of the term -/
def recN (a b : Ty) : Nat := 2 + a.nodes + b.nodes
theorem recT_yes {a b : Ty} (ha : a.check = 0) (hb : b.check = 0) (h : recN a b ≤ 8192) : Does Try.prog 128 [.loc (.arg 0) 0, .imm false (.ptr (recC a b) 0)] [[.imm false (.int .i64 0)]] (.ret true (.tup [])) [[.imm false (.int .i64 (recN a b))]] := by
  unfold recN at h ⊢
  have pa := Ty.nodes_pos a
  have pb := Ty.nodes_pos b
  have n1 := nodes_does a (Ty.right_fits _ (check_iff.1 ha).2.2)
  have n2 := nodes_does b (Ty.right_fits _ (check_iff.1 hb).2.2)
  rw [nodesF, if_pos (by omega), Ty.cells_eq] at n1 n2
  have a1 := add_yes (n := 0) (m := 1) false false (by omega) (by omega) (by omega)
  have a2 := add_yes (n := 1) (m := a.nodes) false false (by omega) (by omega) (by omega)
  have a3 := add_yes (n := 1 + a.nodes) (m := b.nodes) false false (by omega) (by omega) (by omega)
  have t1 := term_yes (n := 1 + a.nodes + b.nodes) (by omega) (by omega)
  simp only [yesC, Int.zero_add] at t1 a1
  refine does128 (by rfl) (by rfl) ?_
  (try simp (implicitDefEqProofs := false) only [go_sem, ↓reduceIte, Nat.reduceEqDiff, reduceCtorEq, Nat.reduceAdd, Nat.reduceSub, Nat.reduceLeDiff, Nat.reduceLT, Nat.reduceMul, Int.reduceToNat, Int.reduceLT, Int.reduceLE, recC, yesC])
  refine CallBK_do a1 ?_
  (try simp (implicitDefEqProofs := false) only [go_sem, ↓reduceIte, Nat.reduceEqDiff, reduceCtorEq, Nat.reduceAdd, Nat.reduceSub, Nat.reduceLeDiff, Nat.reduceLT, Nat.reduceMul, Int.reduceToNat, Int.reduceLT, Int.reduceLE])
  refine CallK_do of5_does ?_
  (try simp (implicitDefEqProofs := false) only [go_sem, ↓reduceIte, Nat.reduceEqDiff, reduceCtorEq, Nat.reduceAdd, Nat.reduceSub, Nat.reduceLeDiff, Nat.reduceLT, Nat.reduceMul, Int.reduceToNat, Int.reduceLT, Int.reduceLE])
  refine CallK_do n1 ?_
  (try simp (implicitDefEqProofs := false) only [go_sem, ↓reduceIte, Nat.reduceEqDiff, reduceCtorEq, Nat.reduceAdd, Nat.reduceSub, Nat.reduceLeDiff, Nat.reduceLT, Nat.reduceMul, Int.reduceToNat, Int.reduceLT, Int.reduceLE])
  refine CallBK_do a2 ?_
  (try simp (implicitDefEqProofs := false) only [go_sem, ↓reduceIte, Nat.reduceEqDiff, reduceCtorEq, Nat.reduceAdd, Nat.reduceSub, Nat.reduceLeDiff, Nat.reduceLT, Nat.reduceMul, Int.reduceToNat, Int.reduceLT, Int.reduceLE])
  refine CallK_do n2 ?_
  (try simp (implicitDefEqProofs := false) only [go_sem, ↓reduceIte, Nat.reduceEqDiff, reduceCtorEq, Nat.reduceAdd, Nat.reduceSub, Nat.reduceLeDiff, Nat.reduceLT, Nat.reduceMul, Int.reduceToNat, Int.reduceLT, Int.reduceLE])
  refine CallBK_do a3 ?_
  (try simp (implicitDefEqProofs := false) only [go_sem, ↓reduceIte, Nat.reduceEqDiff, reduceCtorEq, Nat.reduceAdd, Nat.reduceSub, Nat.reduceLeDiff, Nat.reduceLT, Nat.reduceMul, Int.reduceToNat, Int.reduceLT, Int.reduceLE])
  have e : ((2 + a.nodes + b.nodes : Nat) : Int) = 1 + a.nodes + b.nodes + 1 := by omega
  refine ⟨fun q σ => (q = 1 ∧ ∃ g, σ = ⟨[(0, .loc (.arg 0) 0), (1, .imm false (.ptr (recC a b) 0)), (39, .imm true (.int .i64 1)), (40, .imm true (.int .i64 0))], [(.arg 0, .var [.imm g (.int .i64 (1 + a.nodes + b.nodes))])], []⟩) ∨
    (q = 0 ∧ ∃ g, σ = ⟨[(0, .loc (.arg 0) 0), (1, .imm false (.ptr (recC a b) 0)), (39, .imm true (.int .i64 1)), (40, .imm true (.int .i64 1))], [(.arg 0, .var [.imm g (.int .i64 (1 + a.nodes + b.nodes + 1))])], []⟩), ⟨_, .inl ⟨rfl, _, rfl⟩⟩, ?_⟩
  rintro q σ (⟨rfl, g, rfl⟩ | ⟨rfl, g, rfl⟩)
  · unfold l128_0
    (try simp (implicitDefEqProofs := false) only [go_sem, ↓reduceIte, Nat.reduceEqDiff, reduceCtorEq, Nat.reduceAdd, Nat.reduceSub, Nat.reduceLeDiff, Nat.reduceLT, Nat.reduceMul, Int.reduceToNat, Int.reduceLT, Int.reduceLE, recC, yesC, show decide ((0 : Int) < 1) = true from rfl])
    refine CallBK_do t1 ?_
    (try simp (implicitDefEqProofs := false) only [go_sem, ↓reduceIte, Nat.reduceEqDiff, reduceCtorEq, Nat.reduceAdd, Nat.reduceSub, Nat.reduceLeDiff, Nat.reduceLT, Nat.reduceMul, Int.reduceToNat, Int.reduceLT, Int.reduceLE, wrap01])
    exact ⟨0, by omega, .inr ⟨rfl, _, rfl⟩⟩
  · unfold l128_0
    (try simp (implicitDefEqProofs := false) only [go_sem, ↓reduceIte, Nat.reduceEqDiff, reduceCtorEq, Nat.reduceAdd, Nat.reduceSub, Nat.reduceLeDiff, Nat.reduceLT, Nat.reduceMul, Int.reduceToNat, Int.reduceLT, Int.reduceLE, show decide ((1 : Int) < 1) = false from rfl, e])
theorem recT_no {a b : Ty} (ha : a.check = 0) (hb : b.check = 0) (h : ¬ recN a b ≤ 8192) (ha2 : a.nodes + 1 ≤ 8192) (hb2 : b.nodes + 1 ≤ 8192) : ∃ X : Int, Does Try.prog 128 [.loc (.arg 0) 0, .imm false (.ptr (recC a b) 0)] [[.imm false (.int .i64 0)]] (.pan 114) [[.imm false (.int .i64 X)]] := by
  unfold recN at h
  have pa := Ty.nodes_pos a
  have pb := Ty.nodes_pos b
  have n1 := nodes_does a (Ty.right_fits _ (check_iff.1 ha).2.2)
  have n2 := nodes_does b (Ty.right_fits _ (check_iff.1 hb).2.2)
  rw [nodesF, if_pos (by omega), Ty.cells_eq] at n1 n2
  have a1 := add_yes (n := 0) (m := 1) false false (by omega) (by omega) (by omega)
  have a2 := add_yes (n := 1) (m := a.nodes) false false (by omega) (by omega) (by omega)
  simp only [Int.zero_add] at a1
  by_cases h3 : 1 + a.nodes + b.nodes ≤ 8192
  · have a3 := add_yes (n := 1 + a.nodes) (m := b.nodes) false false (by omega) (by omega) (by omega)
    have t1 := term_yes_no (n := 1 + a.nodes + b.nodes) (by omega) (by omega) (by omega)
    simp only [yesC] at t1
    refine ⟨1 + a.nodes + b.nodes + 1, ?_⟩
    refine does128 (by rfl) (by rfl) ?_
    (try simp (implicitDefEqProofs := false) only [go_sem, ↓reduceIte, Nat.reduceEqDiff, reduceCtorEq, Nat.reduceAdd, Nat.reduceSub, Nat.reduceLeDiff, Nat.reduceLT, Nat.reduceMul, Int.reduceToNat, Int.reduceLT, Int.reduceLE, recC, yesC])
    refine CallBK_do a1 ?_
    (try simp (implicitDefEqProofs := false) only [go_sem, ↓reduceIte, Nat.reduceEqDiff, reduceCtorEq, Nat.reduceAdd, Nat.reduceSub, Nat.reduceLeDiff, Nat.reduceLT, Nat.reduceMul, Int.reduceToNat, Int.reduceLT, Int.reduceLE])
    refine CallK_do of5_does ?_
    (try simp (implicitDefEqProofs := false) only [go_sem, ↓reduceIte, Nat.reduceEqDiff, reduceCtorEq, Nat.reduceAdd, Nat.reduceSub, Nat.reduceLeDiff, Nat.reduceLT, Nat.reduceMul, Int.reduceToNat, Int.reduceLT, Int.reduceLE])
    refine CallK_do n1 ?_
    (try simp (implicitDefEqProofs := false) only [go_sem, ↓reduceIte, Nat.reduceEqDiff, reduceCtorEq, Nat.reduceAdd, Nat.reduceSub, Nat.reduceLeDiff, Nat.reduceLT, Nat.reduceMul, Int.reduceToNat, Int.reduceLT, Int.reduceLE])
    refine CallBK_do a2 ?_
    (try simp (implicitDefEqProofs := false) only [go_sem, ↓reduceIte, Nat.reduceEqDiff, reduceCtorEq, Nat.reduceAdd, Nat.reduceSub, Nat.reduceLeDiff, Nat.reduceLT, Nat.reduceMul, Int.reduceToNat, Int.reduceLT, Int.reduceLE])
    refine CallK_do n2 ?_
    (try simp (implicitDefEqProofs := false) only [go_sem, ↓reduceIte, Nat.reduceEqDiff, reduceCtorEq, Nat.reduceAdd, Nat.reduceSub, Nat.reduceLeDiff, Nat.reduceLT, Nat.reduceMul, Int.reduceToNat, Int.reduceLT, Int.reduceLE])
    refine CallBK_do a3 ?_
    (try simp (implicitDefEqProofs := false) only [go_sem, ↓reduceIte, Nat.reduceEqDiff, reduceCtorEq, Nat.reduceAdd, Nat.reduceSub, Nat.reduceLeDiff, Nat.reduceLT, Nat.reduceMul, Int.reduceToNat, Int.reduceLT, Int.reduceLE])
    refine ⟨fun q σ => q = 1 ∧ ∃ g, σ = ⟨[(0, .loc (.arg 0) 0), (1, .imm false (.ptr (recC a b) 0)), (39, .imm true (.int .i64 1)), (40, .imm true (.int .i64 0))], [(.arg 0, .var [.imm g (.int .i64 (1 + a.nodes + b.nodes))])], []⟩, ⟨_, rfl, _, rfl⟩, ?_⟩
    rintro q σ ⟨rfl, g, rfl⟩
    unfold l128_0
    (try simp (implicitDefEqProofs := false) only [go_sem, ↓reduceIte, Nat.reduceEqDiff, reduceCtorEq, Nat.reduceAdd, Nat.reduceSub, Nat.reduceLeDiff, Nat.reduceLT, Nat.reduceMul, Int.reduceToNat, Int.reduceLT, Int.reduceLE, recC, yesC, show decide ((0 : Int) < 1) = true from rfl])
    refine CallBK_do t1 ?_
    (try simp (implicitDefEqProofs := false) only [go_sem, ↓reduceIte, Nat.reduceEqDiff, reduceCtorEq, Nat.reduceAdd, Nat.reduceSub, Nat.reduceLeDiff, Nat.reduceLT, Nat.reduceMul, Int.reduceToNat, Int.reduceLT, Int.reduceLE])
  · have a3 := add_no (n := 1 + a.nodes) (m := b.nodes) false false (by omega) (by omega) (by omega) (by omega)
    refine ⟨1 + a.nodes + b.nodes, ?_⟩
    refine does128 (by rfl) (by rfl) ?_
    (try simp (implicitDefEqProofs := false) only [go_sem, ↓reduceIte, Nat.reduceEqDiff, reduceCtorEq, Nat.reduceAdd, Nat.reduceSub, Nat.reduceLeDiff, Nat.reduceLT, Nat.reduceMul, Int.reduceToNat, Int.reduceLT, Int.reduceLE, recC, yesC])
    refine CallBK_do a1 ?_
    (try simp (implicitDefEqProofs := false) only [go_sem, ↓reduceIte, Nat.reduceEqDiff, reduceCtorEq, Nat.reduceAdd, Nat.reduceSub, Nat.reduceLeDiff, Nat.reduceLT, Nat.reduceMul, Int.reduceToNat, Int.reduceLT, Int.reduceLE])
    refine CallK_do of5_does ?_
    (try simp (implicitDefEqProofs := false) only [go_sem, ↓reduceIte, Nat.reduceEqDiff, reduceCtorEq, Nat.reduceAdd, Nat.reduceSub, Nat.reduceLeDiff, Nat.reduceLT, Nat.reduceMul, Int.reduceToNat, Int.reduceLT, Int.reduceLE])
    refine CallK_do n1 ?_
    (try simp (implicitDefEqProofs := false) only [go_sem, ↓reduceIte, Nat.reduceEqDiff, reduceCtorEq, Nat.reduceAdd, Nat.reduceSub, Nat.reduceLeDiff, Nat.reduceLT, Nat.reduceMul, Int.reduceToNat, Int.reduceLT, Int.reduceLE])
    refine CallBK_do a2 ?_
    (try simp (implicitDefEqProofs := false) only [go_sem, ↓reduceIte, Nat.reduceEqDiff, reduceCtorEq, Nat.reduceAdd, Nat.reduceSub, Nat.reduceLeDiff, Nat.reduceLT, Nat.reduceMul, Int.reduceToNat, Int.reduceLT, Int.reduceLE])
    refine CallK_do n2 ?_
    (try simp (implicitDefEqProofs := false) only [go_sem, ↓reduceIte, Nat.reduceEqDiff, reduceCtorEq, Nat.reduceAdd, Nat.reduceSub, Nat.reduceLeDiff, Nat.reduceLT, Nat.reduceMul, Int.reduceToNat, Int.reduceLT, Int.reduceLE])
    refine CallBK_do a3 ?_
    (try simp (implicitDefEqProofs := false) only [go_sem, ↓reduceIte, Nat.reduceEqDiff, reduceCtorEq, Nat.reduceAdd, Nat.reduceSub, Nat.reduceLeDiff, Nat.reduceLT, Nat.reduceMul, Int.reduceToNat, Int.reduceLT, Int.reduceLE])
theorem recNodes {a b : Ty} (ha : a.check = 0) (hb : b.check = 0) (ha2 : a.nodes + 1 ≤ 8192) (hb2 : b.nodes + 1 ≤ 8192) : Does Try.prog 105 [.imm false (.agg (recC a b))] [] (.ret true (.int .i64 (nodesF (recN a b)))) [] := by
  refine tnodes_does a b _ ?_
  by_cases h : recN a b ≤ 8192
  · rw [if_pos h]; exact recT_yes ha hb h
  · rw [if_neg h]; exact recT_no ha hb h ha2 hb2
end Go.Proofs.Ytopgmopdjiahmaa.Lg

/- casts.Height of a term that NormLabels makes. Conditions: none; plain lemmas. -/
set_option linter.unusedVariables false
set_option linter.unusedSimpArgs false
set_option maxRecDepth 100000
set_option maxHeartbeats 2000000
namespace Go.Proofs.Ytopgmopdjiahmaa.Lg
open Go Go.RowKit Go.Proofs

theorem lt00 : decide ((0 : Int) < 0) = false := rfl
theorem lt01 : decide ((0 : Int) < 1) = true := rfl
theorem lt11 : decide ((1 : Int) < 1) = false := rfl
theorem ydepth : Does Try.prog 129 [.imm false (.ptr yesC 0), .imm false (.int .i64 200)] [] (.ret true (.int .i64 1)) [] := by
  refine does129 (by rfl) (by rfl) ?_
  (try simp (implicitDefEqProofs := false) only [go_sem, ↓reduceIte, Nat.reduceEqDiff, reduceCtorEq, Nat.reduceAdd, Nat.reduceSub, Nat.reduceLeDiff, Nat.reduceLT, Nat.reduceMul, Int.reduceToNat, Int.reduceLT, Int.reduceLE, yesC, show ((200 : Int) == 1) = false from rfl])
  refine CallK_do of2_does ?_
  (try simp (implicitDefEqProofs := false) only [go_sem, ↓reduceIte, Nat.reduceEqDiff, reduceCtorEq, Nat.reduceAdd, Nat.reduceSub, Nat.reduceLeDiff, Nat.reduceLT, Nat.reduceMul, Int.reduceToNat, Int.reduceLT, Int.reduceLE])
  refine ⟨fun q σ => q = 0 ∧ σ = ⟨[(0, .imm false (.ptr yesC 0)), (1, .imm false (.int .i64 200)), (5, .imm true (.int .i64 0)), (39, .imm true (.int .i64 0)), (40, .imm true (.int .i64 0))], [], []⟩, ⟨_, rfl, rfl⟩, ?_⟩
  rintro q σ ⟨rfl, rfl⟩
  unfold l129_0
  (try simp (implicitDefEqProofs := false) only [go_sem, ↓reduceIte, Nat.reduceEqDiff, reduceCtorEq, Nat.reduceAdd, Nat.reduceSub, Nat.reduceLeDiff, Nat.reduceLT, Nat.reduceMul, Int.reduceToNat, Int.reduceLT, Int.reduceLE, lt00, wrap01, show ((200 : Int) < 1) = False from by simp])
theorem rdepth {a b : Ty} (ha : a.check = 0) (hb : b.check = 0) (ha2 : a.high + 1 ≤ 200) (hb2 : b.high + 1 ≤ 200) : ∃ d : Int, d ≤ 200 ∧ Does Try.prog 129 [.imm false (.ptr (recC a b) 0), .imm false (.int .i64 201)] [] (.ret true (.int .i64 d)) [] := by
  have d1 := depth_does a (Ty.right_fits _ (check_iff.1 ha).2.2)
  have d2 := depth_does b (Ty.right_fits _ (check_iff.1 hb).2.2)
  have pa := Ty.high_pos a
  have pb := Ty.high_pos b
  have e1 : a.depth = a.high := by rw [depth_min (check_iff.1 ha).1]; unfold minI; rw [if_pos (by omega)]
  have e2 : b.depth = b.high := by rw [depth_min (check_iff.1 hb).1]; unfold minI; rw [if_pos (by omega)]
  rw [e1, Ty.cells_eq] at d1
  rw [e2, Ty.cells_eq] at d2
  have mm := le_maxI (a := a.high) (b := b.high)
  have m2 := maxI_le (a := a.high) (b := b.high) (c := 199) (by omega) (by omega)
  have yd := ydepth
  simp only [yesC] at yd
  generalize hm : maxI a.high b.high = m at mm m2
  have hm' : (if b.high > a.high then b.high else a.high) = m := hm
  refine ⟨m + 1, by omega, ?_⟩
  refine does129 (by rfl) (by rfl) ?_
  (try simp (implicitDefEqProofs := false) only [go_sem, ↓reduceIte, Nat.reduceEqDiff, reduceCtorEq, Nat.reduceAdd, Nat.reduceSub, Nat.reduceLeDiff, Nat.reduceLT, Nat.reduceMul, Int.reduceToNat, Int.reduceLT, Int.reduceLE, recC, yesC, show ((201 : Int) == 1) = false from rfl])
  refine CallK_do of5_does ?_
  (try simp (implicitDefEqProofs := false) only [go_sem, ↓reduceIte, Nat.reduceEqDiff, reduceCtorEq, Nat.reduceAdd, Nat.reduceSub, Nat.reduceLeDiff, Nat.reduceLT, Nat.reduceMul, Int.reduceToNat, Int.reduceLT, Int.reduceLE])
  refine CallK_do d1 ?_
  (try simp (implicitDefEqProofs := false) only [go_sem, ↓reduceIte, Nat.reduceEqDiff, reduceCtorEq, Nat.reduceAdd, Nat.reduceSub, Nat.reduceLeDiff, Nat.reduceLT, Nat.reduceMul, Int.reduceToNat, Int.reduceLT, Int.reduceLE])
  refine CallK_do d2 ?_
  (try simp (implicitDefEqProofs := false) only [go_sem, ↓reduceIte, Nat.reduceEqDiff, reduceCtorEq, Nat.reduceAdd, Nat.reduceSub, Nat.reduceLeDiff, Nat.reduceLT, Nat.reduceMul, Int.reduceToNat, Int.reduceLT, Int.reduceLE, hm'])
  let S : Int → St := fun j => ⟨[(0, .imm false (.ptr (recC a b) 0)), (1, .imm false (.int .i64 201)), (5, .imm true (.int .i64 m)), (39, .imm true (.int .i64 1)), (40, .imm true (.int .i64 j))], [], []⟩
  refine ⟨fun q σ => (q = 1 ∧ σ = S 0) ∨ (q = 0 ∧ σ = S 1), ⟨_, .inl ⟨rfl, rfl⟩⟩, ?_⟩
  rintro q σ (⟨rfl, rfl⟩ | ⟨rfl, rfl⟩)
  · unfold l129_0
    (try simp (implicitDefEqProofs := false) only [go_sem, ↓reduceIte, Nat.reduceEqDiff, reduceCtorEq, Nat.reduceAdd, Nat.reduceSub, Nat.reduceLeDiff, Nat.reduceLT, Nat.reduceMul, Int.reduceToNat, Int.reduceLT, Int.reduceLE, S, recC, yesC, lt01, show IntKind.i64.wrap (201 - 1) = 200 from by decide +kernel])
    refine CallK_do yd ?_
    (try simp (implicitDefEqProofs := false) only [go_sem, ↓reduceIte, Nat.reduceEqDiff, reduceCtorEq, Nat.reduceAdd, Nat.reduceSub, Nat.reduceLeDiff, Nat.reduceLT, Nat.reduceMul, Int.reduceToNat, Int.reduceLT, Int.reduceLE, wrap01, show ((1 : Int) > m) = False from by simp; omega])
    exact ⟨0, by omega, by simp⟩
  · unfold l129_0
    (try simp (implicitDefEqProofs := false) only [go_sem, ↓reduceIte, Nat.reduceEqDiff, reduceCtorEq, Nat.reduceAdd, Nat.reduceSub, Nat.reduceLeDiff, Nat.reduceLT, Nat.reduceMul, Int.reduceToNat, Int.reduceLT, Int.reduceLE, S, lt11, wrap64 (n := m + 1) (by omega) (by omega), show ((201 : Int) < m + 1) = False from by simp; omega])
theorem rDepth {a b : Ty} (ha : a.check = 0) (hb : b.check = 0) (ha2 : a.high + 1 ≤ 200) (hb2 : b.high + 1 ≤ 200) (hn : recN a b ≤ 8192) : ∃ d : Int, d ≤ 200 ∧ Does Try.prog 106 [.imm false (.agg (recC a b))] [] (.ret true (.int .i64 d)) [] := by
  obtain ⟨d, hd, h1⟩ := rdepth ha hb ha2 hb2
  have h2 := recNodes ha hb (by unfold recN at hn; omega) (by unfold recN at hn; omega)
  rw [nodesF, if_pos hn] at h2
  simp only [recC, yesC] at h1 h2
  refine ⟨d, hd, ?_⟩
  refine does106 (by rfl) (by rfl) ?_
  (try simp (implicitDefEqProofs := false) only [go_sem, ↓reduceIte, Nat.reduceEqDiff, reduceCtorEq, Nat.reduceAdd, Nat.reduceSub, Nat.reduceLeDiff, Nat.reduceLT, Nat.reduceMul, Int.reduceToNat, Int.reduceLT, Int.reduceLE, recC, yesC])
  refine CallK_do h2 ?_
  (try simp (implicitDefEqProofs := false) only [go_sem, ↓reduceIte, Nat.reduceEqDiff, reduceCtorEq, Nat.reduceAdd, Nat.reduceSub, Nat.reduceLeDiff, Nat.reduceLT, Nat.reduceMul, Int.reduceToNat, Int.reduceLT, Int.reduceLE, show decide ((recN a b : Int) > 8192) = false from by simp; omega])
  refine CallK_do h1 ?_
  (try simp (implicitDefEqProofs := false) only [go_sem, ↓reduceIte, Nat.reduceEqDiff, reduceCtorEq, Nat.reduceAdd, Nat.reduceSub, Nat.reduceLeDiff, Nat.reduceLT, Nat.reduceMul, Int.reduceToNat, Int.reduceLT, Int.reduceLE])
theorem yright : Does Try.prog 107 [.imm false (.ptr yesC 0)] [] (.ret true (.bool true)) [] := by
  refine does107 (by rfl) (by rfl) ?_
  (try simp (implicitDefEqProofs := false) only [go_sem, ↓reduceIte, Nat.reduceEqDiff, reduceCtorEq, Nat.reduceAdd, Nat.reduceSub, Nat.reduceLeDiff, Nat.reduceLT, Nat.reduceMul, Int.reduceToNat, Int.reduceLT, Int.reduceLE, yesC])
  refine CallK_do of2_does ?_
  (try simp (implicitDefEqProofs := false) only [go_sem, ↓reduceIte, Nat.reduceEqDiff, reduceCtorEq, Nat.reduceAdd, Nat.reduceSub, Nat.reduceLeDiff, Nat.reduceLT, Nat.reduceMul, Int.reduceToNat, Int.reduceLT, Int.reduceLE, Bool.not_true, bne_self_eq_false])
  refine ⟨fun q σ => q = 0 ∧ σ = ⟨[(0, .imm false (.ptr yesC 0)), (107, .imm true (.int .i64 0)), (108, .imm true (.int .i64 0))], [], []⟩, ⟨_, rfl, rfl⟩, ?_⟩
  rintro q σ ⟨rfl, rfl⟩
  unfold l107_0
  (try simp (implicitDefEqProofs := false) only [go_sem, ↓reduceIte, Nat.reduceEqDiff, reduceCtorEq, Nat.reduceAdd, Nat.reduceSub, Nat.reduceLeDiff, Nat.reduceLT, Nat.reduceMul, Int.reduceToNat, Int.reduceLT, Int.reduceLE, lt00])
theorem rright {a b : Ty} (ha : a.check = 0) (hb : b.check = 0) : Does Try.prog 107 [.imm false (.ptr (recC a b) 0)] [] (.ret true (.bool true)) [] := by
  have c1 := check_does a (Ty.right_fits _ (check_iff.1 ha).2.2)
  have c2 := check_does b (Ty.right_fits _ (check_iff.1 hb).2.2)
  rw [ha, Ty.cells_eq] at c1
  rw [hb, Ty.cells_eq] at c2
  have yr := yright
  simp only [yesC] at yr
  refine does107 (by rfl) (by rfl) ?_
  (try simp (implicitDefEqProofs := false) only [go_sem, ↓reduceIte, Nat.reduceEqDiff, reduceCtorEq, Nat.reduceAdd, Nat.reduceSub, Nat.reduceLeDiff, Nat.reduceLT, Nat.reduceMul, Int.reduceToNat, Int.reduceLT, Int.reduceLE, recC, yesC])
  refine CallK_do of5_does ?_
  (try simp (implicitDefEqProofs := false) only [go_sem, ↓reduceIte, Nat.reduceEqDiff, reduceCtorEq, Nat.reduceAdd, Nat.reduceSub, Nat.reduceLeDiff, Nat.reduceLT, Nat.reduceMul, Int.reduceToNat, Int.reduceLT, Int.reduceLE, Bool.not_true, bne_self_eq_false])
  refine CallK_do nameF ?_
  (try simp (implicitDefEqProofs := false) only [go_sem, ↓reduceIte, Nat.reduceEqDiff, reduceCtorEq, Nat.reduceAdd, Nat.reduceSub, Nat.reduceLeDiff, Nat.reduceLT, Nat.reduceMul, Int.reduceToNat, Int.reduceLT, Int.reduceLE, Bool.not_true])
  refine CallK_do nameX ?_
  (try simp (implicitDefEqProofs := false) only [go_sem, ↓reduceIte, Nat.reduceEqDiff, reduceCtorEq, Nat.reduceAdd, Nat.reduceSub, Nat.reduceLeDiff, Nat.reduceLT, Nat.reduceMul, Int.reduceToNat, Int.reduceLT, Int.reduceLE, Bool.not_true])
  refine CallK_do c1 ?_
  (try simp (implicitDefEqProofs := false) only [go_sem, ↓reduceIte, Nat.reduceEqDiff, reduceCtorEq, Nat.reduceAdd, Nat.reduceSub, Nat.reduceLeDiff, Nat.reduceLT, Nat.reduceMul, Int.reduceToNat, Int.reduceLT, Int.reduceLE, bne_self_eq_false])
  refine CallK_do c2 ?_
  (try simp (implicitDefEqProofs := false) only [go_sem, ↓reduceIte, Nat.reduceEqDiff, reduceCtorEq, Nat.reduceAdd, Nat.reduceSub, Nat.reduceLeDiff, Nat.reduceLT, Nat.reduceMul, Int.reduceToNat, Int.reduceLT, Int.reduceLE, bne_self_eq_false])
  let S : Int → St := fun j => ⟨[(0, .imm false (.ptr (recC a b) 0)), (107, .imm true (.int .i64 1)), (108, .imm true (.int .i64 j))], [], []⟩
  refine ⟨fun q σ => (q = 1 ∧ σ = S 0) ∨ (q = 0 ∧ σ = S 1), ⟨_, .inl ⟨rfl, rfl⟩⟩, ?_⟩
  rintro q σ (⟨rfl, rfl⟩ | ⟨rfl, rfl⟩)
  · unfold l107_0
    (try simp (implicitDefEqProofs := false) only [go_sem, ↓reduceIte, Nat.reduceEqDiff, reduceCtorEq, Nat.reduceAdd, Nat.reduceSub, Nat.reduceLeDiff, Nat.reduceLT, Nat.reduceMul, Int.reduceToNat, Int.reduceLT, Int.reduceLE, S, recC, yesC, lt01])
    refine CallK_do yr ?_
    (try simp (implicitDefEqProofs := false) only [go_sem, ↓reduceIte, Nat.reduceEqDiff, reduceCtorEq, Nat.reduceAdd, Nat.reduceSub, Nat.reduceLeDiff, Nat.reduceLT, Nat.reduceMul, Int.reduceToNat, Int.reduceLT, Int.reduceLE, wrap01, Bool.not_true])
    exact ⟨0, by omega, by simp⟩
  · unfold l107_0
    (try simp (implicitDefEqProofs := false) only [go_sem, ↓reduceIte, Nat.reduceEqDiff, reduceCtorEq, Nat.reduceAdd, Nat.reduceSub, Nat.reduceLeDiff, Nat.reduceLT, Nat.reduceMul, Int.reduceToNat, Int.reduceLT, Int.reduceLE, S, lt11])
end Go.Proofs.Ytopgmopdjiahmaa.Lg

/- NormLabels: the walk. Conditions: none; plain lemmas. -/
set_option linter.unusedVariables false
set_option linter.unusedSimpArgs false
set_option maxRecDepth 100000
set_option maxHeartbeats 4000000
namespace Go.Proofs.Ytopgmopdjiahmaa.Lg
open Go Go.RowKit Go.Proofs

theorem tCheck {a b : Ty} (ha : a.check = 0) (hb : b.check = 0) (hn : recN a b ≤ 8192) (ha2 : a.high + 1 ≤ 200) (hb2 : b.high + 1 ≤ 200) : Does Try.prog 68 [.imm false (.agg (recC a b))] [] (.ret true (.int .i64 0)) [] := by
  have h1 := recNodes ha hb (by unfold recN at hn; omega) (by unfold recN at hn; omega)
  obtain ⟨d, hd, h2⟩ := rDepth ha hb ha2 hb2 hn
  have h3 := rright ha hb
  rw [nodesF, if_pos hn] at h1
  simp only [recC, yesC] at h1 h2 h3
  refine does68 (by rfl) (by rfl) ?_
  (try simp (implicitDefEqProofs := false) only [go_sem, ↓reduceIte, Nat.reduceEqDiff, reduceCtorEq, Nat.reduceAdd, Nat.reduceSub, Nat.reduceLeDiff, Nat.reduceLT, Nat.reduceMul, Int.reduceToNat, Int.reduceLT, Int.reduceLE, recC, yesC])
  refine CallK_do h1 ?_
  (try simp (implicitDefEqProofs := false) only [go_sem, ↓reduceIte, Nat.reduceEqDiff, reduceCtorEq, Nat.reduceAdd, Nat.reduceSub, Nat.reduceLeDiff, Nat.reduceLT, Nat.reduceMul, Int.reduceToNat, Int.reduceLT, Int.reduceLE, show decide ((recN a b : Int) > 8192) = false from by simp; omega])
  refine CallK_do h2 ?_
  (try simp (implicitDefEqProofs := false) only [go_sem, ↓reduceIte, Nat.reduceEqDiff, reduceCtorEq, Nat.reduceAdd, Nat.reduceSub, Nat.reduceLeDiff, Nat.reduceLT, Nat.reduceMul, Int.reduceToNat, Int.reduceLT, Int.reduceLE, show decide (d > 200) = false from by simp; omega])
  refine CallK_do h3 ?_
  (try simp (implicitDefEqProofs := false) only [go_sem, ↓reduceIte, Nat.reduceEqDiff, reduceCtorEq, Nat.reduceAdd, Nat.reduceSub, Nat.reduceLeDiff, Nat.reduceLT, Nat.reduceMul, Int.reduceToNat, Int.reduceLT, Int.reduceLE, Bool.not_true])
theorem tCheck_no {a b : Ty} (ha : a.check = 0) (hb : b.check = 0) (hn : ¬ recN a b ≤ 8192) (ha2 : a.nodes + 1 ≤ 8192) (hb2 : b.nodes + 1 ≤ 8192) : Does Try.prog 68 [.imm false (.agg (recC a b))] [] (.ret true (.int .i64 32)) [] := by
  have h1 := recNodes ha hb ha2 hb2
  rw [nodesF, if_neg hn] at h1
  simp only [recC, yesC] at h1
  refine does68 (by rfl) (by rfl) ?_
  (try simp (implicitDefEqProofs := false) only [go_sem, ↓reduceIte, Nat.reduceEqDiff, reduceCtorEq, Nat.reduceAdd, Nat.reduceSub, Nat.reduceLeDiff, Nat.reduceLT, Nat.reduceMul, Int.reduceToNat, Int.reduceLT, Int.reduceLE, recC, yesC])
  refine CallK_do h1 ?_
  (try simp (implicitDefEqProofs := false) only [go_sem, ↓reduceIte, Nat.reduceEqDiff, reduceCtorEq, Nat.reduceAdd, Nat.reduceSub, Nat.reduceLeDiff, Nat.reduceLT, Nat.reduceMul, Int.reduceToNat, Int.reduceLT, Int.reduceLE, show decide ((8193 : Int) > 8192) = true from rfl])
theorem yheight : Does Try.prog 69 [.imm false (.ptr yesC 0)] [] (.ret true (.int .i64 0)) [] := by
  refine does69 (by rfl) (by rfl) ?_
  (try simp (implicitDefEqProofs := false) only [go_sem, ↓reduceIte, Nat.reduceEqDiff, reduceCtorEq, Nat.reduceAdd, Nat.reduceSub, Nat.reduceLeDiff, Nat.reduceLT, Nat.reduceMul, Int.reduceToNat, Int.reduceLT, Int.reduceLE, yesC, show ((2 : Int) == 4) = false from rfl, show ((2 : Int) == 7) = false from rfl, show ((2 : Int) == 12) = false from rfl, show ((2 : Int) == 13) = false from rfl, show ((2 : Int) == 16) = false from rfl, show ((2 : Int) == 5) = false from rfl, show ((2 : Int) == 17) = false from rfl])
  refine ⟨fun q σ => q = 0 ∧ σ = ⟨[(0, .imm false (.ptr yesC 0)), (3, .imm true (.int .i64 0)), (38, .imm true (.int .i64 0)), (39, .imm true (.int .i64 0))], [], []⟩, ⟨_, rfl, rfl⟩, ?_⟩
  rintro q σ ⟨rfl, rfl⟩
  unfold l69_0
  (try simp (implicitDefEqProofs := false) only [go_sem, ↓reduceIte, Nat.reduceEqDiff, reduceCtorEq, Nat.reduceAdd, Nat.reduceSub, Nat.reduceLeDiff, Nat.reduceLT, Nat.reduceMul, Int.reduceToNat, Int.reduceLT, Int.reduceLE, lt00])
theorem rheight {a b : Ty} (ha : a.check = 0) (hb : b.check = 0) : Does Try.prog 69 [.imm false (.ptr (recC a b) 0)] [] (.ret true (.int .i64 (maxI a.high b.high))) [] := by
  have h1 := vhigh_two a b ha hb
  have yh := yheight
  have pa := Ty.high_pos a
  have mm := le_maxI (a := a.high) (b := b.high)
  generalize maxI a.high b.high = m at h1 mm ⊢
  simp only [Ty.cells_eq, yesC] at h1 yh
  refine does69 (by rfl) (by rfl) ?_
  (try simp (implicitDefEqProofs := false) only [go_sem, ↓reduceIte, Nat.reduceEqDiff, reduceCtorEq, Nat.reduceAdd, Nat.reduceSub, Nat.reduceLeDiff, Nat.reduceLT, Nat.reduceMul, Int.reduceToNat, Int.reduceLT, Int.reduceLE, recC, yesC, show ((5 : Int) == 4) = false from rfl, show ((5 : Int) == 7) = false from rfl, show ((5 : Int) == 12) = false from rfl, show ((5 : Int) == 13) = false from rfl, show ((5 : Int) == 16) = false from rfl, show ((5 : Int) == 5) = true from rfl])
  refine CallK_do h1 ?_
  (try simp (implicitDefEqProofs := false) only [go_sem, ↓reduceIte, Nat.reduceEqDiff, reduceCtorEq, Nat.reduceAdd, Nat.reduceSub, Nat.reduceLeDiff, Nat.reduceLT, Nat.reduceMul, Int.reduceToNat, Int.reduceLT, Int.reduceLE])
  let S : Int → St := fun j => ⟨[(0, .imm false (.ptr (recC a b) 0)), (3, .imm true (.int .i64 m)), (38, .imm true (.int .i64 1)), (39, .imm true (.int .i64 j))], [], []⟩
  refine ⟨fun q σ => (q = 1 ∧ σ = S 0) ∨ (q = 0 ∧ σ = S 1), ⟨_, .inl ⟨rfl, rfl⟩⟩, ?_⟩
  rintro q σ (⟨rfl, rfl⟩ | ⟨rfl, rfl⟩)
  · unfold l69_0
    (try simp (implicitDefEqProofs := false) only [go_sem, ↓reduceIte, Nat.reduceEqDiff, reduceCtorEq, Nat.reduceAdd, Nat.reduceSub, Nat.reduceLeDiff, Nat.reduceLT, Nat.reduceMul, Int.reduceToNat, Int.reduceLT, Int.reduceLE, S, recC, yesC, lt01])
    refine CallK_do yh ?_
    (try simp (implicitDefEqProofs := false) only [go_sem, ↓reduceIte, Nat.reduceEqDiff, reduceCtorEq, Nat.reduceAdd, Nat.reduceSub, Nat.reduceLeDiff, Nat.reduceLT, Nat.reduceMul, Int.reduceToNat, Int.reduceLT, Int.reduceLE, wrap01, show ((0 : Int) > m) = False from by simp; omega])
    exact ⟨0, by omega, by simp⟩
  · unfold l69_0
    (try simp (implicitDefEqProofs := false) only [go_sem, ↓reduceIte, Nat.reduceEqDiff, reduceCtorEq, Nat.reduceAdd, Nat.reduceSub, Nat.reduceLeDiff, Nat.reduceLT, Nat.reduceMul, Int.reduceToNat, Int.reduceLT, Int.reduceLE, S, lt11])
/-- how high the term's types are; or none, where it is too great -/
theorem tHeight {a b : Ty} (ha : a.check = 0) (hb : b.check = 0) (hn : (a.nodes : Int) + 1 ≤ 8192 ∧ (b.nodes : Int) + 1 ≤ 8192) (ha2 : a.high + 1 ≤ 200) (hb2 : b.high + 1 ≤ 200) : ∃ h : Int, (h = 0 ∨ h = maxI a.high b.high) ∧ Does Try.prog 35 [.imm false (.agg (recC a b))] [] (.ret true (.int .i64 h)) [] := by
  by_cases hr : recN a b ≤ 8192
  · refine ⟨maxI a.high b.high, .inr rfl, ?_⟩
    have h1 := tCheck ha hb hr ha2 hb2
    have h2 := rheight ha hb
    simp only [recC, yesC] at h1 h2
    refine does35 (by rfl) (by rfl) ?_
    (try simp (implicitDefEqProofs := false) only [go_sem, ↓reduceIte, Nat.reduceEqDiff, reduceCtorEq, Nat.reduceAdd, Nat.reduceSub, Nat.reduceLeDiff, Nat.reduceLT, Nat.reduceMul, Int.reduceToNat, Int.reduceLT, Int.reduceLE, recC, yesC])
    refine CallK_do h1 ?_
    (try simp (implicitDefEqProofs := false) only [go_sem, ↓reduceIte, Nat.reduceEqDiff, reduceCtorEq, Nat.reduceAdd, Nat.reduceSub, Nat.reduceLeDiff, Nat.reduceLT, Nat.reduceMul, Int.reduceToNat, Int.reduceLT, Int.reduceLE, bne_self_eq_false])
    refine CallK_do h2 ?_
    (try simp (implicitDefEqProofs := false) only [go_sem, ↓reduceIte, Nat.reduceEqDiff, reduceCtorEq, Nat.reduceAdd, Nat.reduceSub, Nat.reduceLeDiff, Nat.reduceLT, Nat.reduceMul, Int.reduceToNat, Int.reduceLT, Int.reduceLE])
  · refine ⟨0, .inl rfl, ?_⟩
    have h1 := tCheck_no ha hb hr (by omega) (by omega)
    simp only [recC, yesC] at h1
    refine does35 (by rfl) (by rfl) ?_
    (try simp (implicitDefEqProofs := false) only [go_sem, ↓reduceIte, Nat.reduceEqDiff, reduceCtorEq, Nat.reduceAdd, Nat.reduceSub, Nat.reduceLeDiff, Nat.reduceLT, Nat.reduceMul, Int.reduceToNat, Int.reduceLT, Int.reduceLE, recC, yesC])
    refine CallK_do h1 ?_
    (try simp (implicitDefEqProofs := false) only [go_sem, ↓reduceIte, Nat.reduceEqDiff, reduceCtorEq, Nat.reduceAdd, Nat.reduceSub, Nat.reduceLeDiff, Nat.reduceLT, Nat.reduceMul, Int.reduceToNat, Int.reduceLT, Int.reduceLE, show ((32 : Int) != 0) = true from rfl])

theorem labels_does (a b : Ty) (lab : Int) (ha : a.fits) (hb : b.fits) (hl : -9223372036854775808 ≤ lab ∧ lab ≤ 9223372036854775807) : Does Try.prog 9 [.imm false (.agg a.cells), .imm false (.agg b.cells), .imm false (.int .i64 lab)] [] (.ret true (.bool true)) [] := by
  have w := wakes_does
  obtain ⟨r, hr, d1⟩ := castA_does a b ha hb lab hl
  rcases cast_all hr with ⟨h0, hz⟩ | ⟨N, wf, en, rfl, hk, ca, cb, hlb, hhi, hn, ha2, hb2⟩
  · obtain ⟨r1, e⟩ := r
    simp only at h0 hz
    subst hz
    simp only [coV, zero_cells, Ty.cells_eq] at d1
    refine does9 (by rfl) (by rfl) ?_
    (try simp (implicitDefEqProofs := false) only [go_sem, ↓reduceIte, Nat.reduceEqDiff, reduceCtorEq, Nat.reduceAdd, Nat.reduceSub, Nat.reduceLeDiff, Nat.reduceLT, Nat.reduceMul, Int.reduceToNat, Int.reduceLT, Int.reduceLE, Ty.cells_eq])
    refine CallK_do d1 ?_
    (try simp (implicitDefEqProofs := false) only [go_sem, ↓reduceIte, Nat.reduceEqDiff, reduceCtorEq, Nat.reduceAdd, Nat.reduceSub, Nat.reduceLeDiff, Nat.reduceLT, Nat.reduceMul, Int.reduceToNat, Int.reduceLT, Int.reduceLE, show (e != 0) = true from by simpa using h0, show ((0 : Int) == 0) = true from rfl, List.length_nil, ncast0])
    refine CallK_do w ?_
    (try simp (implicitDefEqProofs := false) only [go_sem, ↓reduceIte, Nat.reduceEqDiff, reduceCtorEq, Nat.reduceAdd, Nat.reduceSub, Nat.reduceLeDiff, Nat.reduceLT, Nat.reduceMul, Int.reduceToNat, Int.reduceLT, Int.reduceLE])
  · obtain ⟨h, hh, d2⟩ := tHeight ca cb hn ha2 hb2
    obtain ⟨_, _, hin, _⟩ := castA_ok hr rfl
    have hin := of_decide_eq_true hin
    have dl := labelled_does (labN lab) N.cn (cn_fits wf)
    rw [hlb] at dl
    have dh := cheight_does N.cn (cn_fits wf)
    rw [Cn.heightF, if_pos hk, cn_height wf] at dh
    have lk := like_does N.cn (cn_fits wf)
    have ra := (check_iff.1 ca).2.2
    have rb := (check_iff.1 cb).2.2
    obtain ⟨ia1, ia2, _⟩ := idn_wf a ra
    obtain ⟨ib1, ib2, _⟩ := idn_wf b rb
    have na := normA_does (.mk 0 a .un 0 false []) (leaf_fits ha un_fits (by omega))
    rw [norm_id ca hn.1 ha2] at na
    have nb := normA_does (.mk 0 b .un 0 false []) (leaf_fits hb un_fits (by omega))
    rw [norm_id cb hn.2 hb2] at nb
    have okN : tolN N = (N.cn, 0) := by rw [tolN, if_pos hk]
    have ta : a.idn.cn.chk.2.2 = 0 → Does Try.prog 32 [.imm false (.agg a.idn.cn.cells), .imm false (.agg N.cn.cells)] [] (.ret true (coV (N.cn, 0))) [] := fun h => by
      have t := thenA_does a.idn.cn N.cn (cn_fits ia1) (cn_fits wf)
      rw [thenA_nf ia1 wf h hk (by rw [ia2, en]), join_idl wf (by rw [en]), okN] at t
      exact t
    have tb : b.idn.cn.chk.2.2 = 0 → Does Try.prog 32 [.imm false (.agg N.cn.cells), .imm false (.agg b.idn.cn.cells)] [] (.ret true (coV (N.cn, 0))) [] := fun h => by
      have t := thenA_does N.cn b.idn.cn (cn_fits wf) (cn_fits ib1)
      rw [thenA_nf wf ib1 hk h (by rw [ib2, en]), join_idr wf (by rw [en]), okN] at t
      exact t
    have hp : (if lab < 0 then IntKind.i64.wrap (0 - lab) else lab) = labN lab := by
      unfold labN; split
      · rw [wrap64 (by omega) (by omega)]; omega
      · rfl
    have ga := tol_great ia1
    have gb := tol_great ib1
    have gz : ∀ hi : Int, hi ≤ maxI a.high b.high → h > 0 → decide (hi > h) = false := by
      intro hi h1 h2
      rcases hh with rfl | rfl
      · omega
      · simp; omega
    have gz := gz _ hhi
    generalize N.hi = hi at dh gz
    generalize N.cn = c at d1 dl dh lk ta tb
    generalize a.idn.cn = c1 at ta ga
    generalize b.idn.cn = c2 at tb gb
    generalize tolN a.idn = r1 at na ga
    generalize tolN b.idn = r2 at nb gb
    generalize labN lab = p at dl hp
    obtain ⟨k, ty, to, lb, neg, ks⟩ := c
    have e0 : ((0 : Int) != 0) = false := rfl
    have e1 : ((0 : Int) == 0) = true := rfl
    simp only [coV, Cn.cells, Ty.cells_eq, recC, yesC, Ty.un, Ty.k_mk, Ty.ts_mk, Ty.cellsL, Cn.cellsL] at d1 d2 dl dh lk na nb ta tb
    -- up to the two normal forms
    have main : awp Try.prog (MC.seq r9_11 (.seq r9_12 (.seq (.seq r9_13 (.cond (.t 84) (.seq r9_14 .ret) .skip)) (.seq r9_15 (.seq r9_16 (.seq r9_17 .ret)))))) (Fin [(.t 6)] (.ret true (.bool true)) [])
        ⟨[(3, .imm false (.ptr a.cells 0)), (4, .imm false (.ptr b.cells 0)), (7, .loc (.own 7) 0), (66, .imm true (.bool false))], [(.own 7, .var [.imm true (.int .i8 k), .imm true (.int .i8 ty.k), .imm true (.slice (Ty.cellsL ty.ts)), .imm true (.int .i8 to.k), .imm true (.slice (Ty.cellsL to.ts)), .imm true (.int .i64 lb), .imm true (.bool neg), .imm true (.slice (Cn.cellsL ks))])], []⟩ := by
      simp only [Ty.cells_eq]
      obtain ⟨z1, f⟩ := r1
      obtain ⟨z2, g⟩ := r2
      simp only [Prod.mk.injEq] at ga gb
      rcases ga with ⟨⟨rfl, rfl⟩, q1⟩ | ⟨x, ⟨rfl, rfl⟩, x0, xg⟩
      · have ta := ta q1
        rcases gb with ⟨⟨rfl, rfl⟩, q2⟩ | ⟨y, ⟨rfl, rfl⟩, y0, yg⟩
        · have tb := tb q2
          obtain ⟨k1, ty1, to1, lb1, neg1, ks1⟩ := z1
          obtain ⟨k2, ty2, to2, lb2, neg2, ks2⟩ := z2
          simp only [Cn.cells] at na nb ta tb
          (try simp (implicitDefEqProofs := false) only [go_sem, ↓reduceIte, Nat.reduceEqDiff, reduceCtorEq, Nat.reduceAdd, Nat.reduceSub, Nat.reduceLeDiff, Nat.reduceLT, Nat.reduceMul, Int.reduceToNat, Int.reduceLT, Int.reduceLE])
          refine CallK_do na ?_
          (try simp (implicitDefEqProofs := false) only [go_sem, ↓reduceIte, Nat.reduceEqDiff, reduceCtorEq, Nat.reduceAdd, Nat.reduceSub, Nat.reduceLeDiff, Nat.reduceLT, Nat.reduceMul, Int.reduceToNat, Int.reduceLT, Int.reduceLE])
          refine CallK_do nb ?_
          (try simp (implicitDefEqProofs := false) only [go_sem, ↓reduceIte, Nat.reduceEqDiff, reduceCtorEq, Nat.reduceAdd, Nat.reduceSub, Nat.reduceLeDiff, Nat.reduceLT, Nat.reduceMul, Int.reduceToNat, Int.reduceLT, Int.reduceLE, e0])
          refine CallK_do ta ?_
          (try simp (implicitDefEqProofs := false) only [go_sem, ↓reduceIte, Nat.reduceEqDiff, reduceCtorEq, Nat.reduceAdd, Nat.reduceSub, Nat.reduceLeDiff, Nat.reduceLT, Nat.reduceMul, Int.reduceToNat, Int.reduceLT, Int.reduceLE])
          refine CallK_do tb ?_
          (try simp (implicitDefEqProofs := false) only [go_sem, ↓reduceIte, Nat.reduceEqDiff, reduceCtorEq, Nat.reduceAdd, Nat.reduceSub, Nat.reduceLeDiff, Nat.reduceLT, Nat.reduceMul, Int.reduceToNat, Int.reduceLT, Int.reduceLE, e1])
          refine CallK_do lk ?_
          (try simp (implicitDefEqProofs := false) only [go_sem, ↓reduceIte, Nat.reduceEqDiff, reduceCtorEq, Nat.reduceAdd, Nat.reduceSub, Nat.reduceLeDiff, Nat.reduceLT, Nat.reduceMul, Int.reduceToNat, Int.reduceLT, Int.reduceLE])
          refine CallK_do lk ?_
          (try simp (implicitDefEqProofs := false) only [go_sem, ↓reduceIte, Nat.reduceEqDiff, reduceCtorEq, Nat.reduceAdd, Nat.reduceSub, Nat.reduceLeDiff, Nat.reduceLT, Nat.reduceMul, Int.reduceToNat, Int.reduceLT, Int.reduceLE])
          refine CallK_do w ?_
          (try simp (implicitDefEqProofs := false) only [go_sem, ↓reduceIte, Nat.reduceEqDiff, reduceCtorEq, Nat.reduceAdd, Nat.reduceSub, Nat.reduceLeDiff, Nat.reduceLT, Nat.reduceMul, Int.reduceToNat, Int.reduceLT, Int.reduceLE])
        · have gy := great_does g
          rw [yg] at gy
          have y1 : (g != 0) = true := by simpa using y0
          have y2 : (g == 0) = false := by simpa using y0
          obtain ⟨k1, ty1, to1, lb1, neg1, ks1⟩ := z1
          simp only [Cn.cells, zero_cells] at na nb
          (try simp (implicitDefEqProofs := false) only [go_sem, ↓reduceIte, Nat.reduceEqDiff, reduceCtorEq, Nat.reduceAdd, Nat.reduceSub, Nat.reduceLeDiff, Nat.reduceLT, Nat.reduceMul, Int.reduceToNat, Int.reduceLT, Int.reduceLE])
          refine CallK_do na ?_
          (try simp (implicitDefEqProofs := false) only [go_sem, ↓reduceIte, Nat.reduceEqDiff, reduceCtorEq, Nat.reduceAdd, Nat.reduceSub, Nat.reduceLeDiff, Nat.reduceLT, Nat.reduceMul, Int.reduceToNat, Int.reduceLT, Int.reduceLE])
          refine CallK_do nb ?_
          (try simp (implicitDefEqProofs := false) only [go_sem, ↓reduceIte, Nat.reduceEqDiff, reduceCtorEq, Nat.reduceAdd, Nat.reduceSub, Nat.reduceLeDiff, Nat.reduceLT, Nat.reduceMul, Int.reduceToNat, Int.reduceLT, Int.reduceLE, e0, e1, y1, y2])
          refine CallK_do gy ?_
          (try simp (implicitDefEqProofs := false) only [go_sem, ↓reduceIte, Nat.reduceEqDiff, reduceCtorEq, Nat.reduceAdd, Nat.reduceSub, Nat.reduceLeDiff, Nat.reduceLT, Nat.reduceMul, Int.reduceToNat, Int.reduceLT, Int.reduceLE])
          refine CallK_do w ?_
          (try simp (implicitDefEqProofs := false) only [go_sem, ↓reduceIte, Nat.reduceEqDiff, reduceCtorEq, Nat.reduceAdd, Nat.reduceSub, Nat.reduceLeDiff, Nat.reduceLT, Nat.reduceMul, Int.reduceToNat, Int.reduceLT, Int.reduceLE])
      · have gx := great_does f
        rw [xg] at gx
        have x1 : (f != 0) = true := by simpa using x0
        have x2 : (f == 0) = false := by simpa using x0
        rcases gb with ⟨⟨rfl, rfl⟩, q2⟩ | ⟨y, ⟨rfl, rfl⟩, y0, yg⟩
        · obtain ⟨k2, ty2, to2, lb2, neg2, ks2⟩ := z2
          simp only [Cn.cells, zero_cells] at na nb
          (try simp (implicitDefEqProofs := false) only [go_sem, ↓reduceIte, Nat.reduceEqDiff, reduceCtorEq, Nat.reduceAdd, Nat.reduceSub, Nat.reduceLeDiff, Nat.reduceLT, Nat.reduceMul, Int.reduceToNat, Int.reduceLT, Int.reduceLE])
          refine CallK_do na ?_
          (try simp (implicitDefEqProofs := false) only [go_sem, ↓reduceIte, Nat.reduceEqDiff, reduceCtorEq, Nat.reduceAdd, Nat.reduceSub, Nat.reduceLeDiff, Nat.reduceLT, Nat.reduceMul, Int.reduceToNat, Int.reduceLT, Int.reduceLE])
          refine CallK_do nb ?_
          (try simp (implicitDefEqProofs := false) only [go_sem, ↓reduceIte, Nat.reduceEqDiff, reduceCtorEq, Nat.reduceAdd, Nat.reduceSub, Nat.reduceLeDiff, Nat.reduceLT, Nat.reduceMul, Int.reduceToNat, Int.reduceLT, Int.reduceLE, e0, e1, x1, x2])
          refine CallK_do gx ?_
          (try simp (implicitDefEqProofs := false) only [go_sem, ↓reduceIte, Nat.reduceEqDiff, reduceCtorEq, Nat.reduceAdd, Nat.reduceSub, Nat.reduceLeDiff, Nat.reduceLT, Nat.reduceMul, Int.reduceToNat, Int.reduceLT, Int.reduceLE, e1])
          refine CallK_do w ?_
          (try simp (implicitDefEqProofs := false) only [go_sem, ↓reduceIte, Nat.reduceEqDiff, reduceCtorEq, Nat.reduceAdd, Nat.reduceSub, Nat.reduceLeDiff, Nat.reduceLT, Nat.reduceMul, Int.reduceToNat, Int.reduceLT, Int.reduceLE])
        · have gy := great_does g
          rw [yg] at gy
          have y1 : (g != 0) = true := by simpa using y0
          have y2 : (g == 0) = false := by simpa using y0
          simp only [zero_cells] at na nb
          (try simp (implicitDefEqProofs := false) only [go_sem, ↓reduceIte, Nat.reduceEqDiff, reduceCtorEq, Nat.reduceAdd, Nat.reduceSub, Nat.reduceLeDiff, Nat.reduceLT, Nat.reduceMul, Int.reduceToNat, Int.reduceLT, Int.reduceLE])
          refine CallK_do na ?_
          (try simp (implicitDefEqProofs := false) only [go_sem, ↓reduceIte, Nat.reduceEqDiff, reduceCtorEq, Nat.reduceAdd, Nat.reduceSub, Nat.reduceLeDiff, Nat.reduceLT, Nat.reduceMul, Int.reduceToNat, Int.reduceLT, Int.reduceLE])
          refine CallK_do nb ?_
          (try simp (implicitDefEqProofs := false) only [go_sem, ↓reduceIte, Nat.reduceEqDiff, reduceCtorEq, Nat.reduceAdd, Nat.reduceSub, Nat.reduceLeDiff, Nat.reduceLT, Nat.reduceMul, Int.reduceToNat, Int.reduceLT, Int.reduceLE, e0, e1, x1, x2, y1, y2])
          refine CallK_do gx ?_
          (try simp (implicitDefEqProofs := false) only [go_sem, ↓reduceIte, Nat.reduceEqDiff, reduceCtorEq, Nat.reduceAdd, Nat.reduceSub, Nat.reduceLeDiff, Nat.reduceLT, Nat.reduceMul, Int.reduceToNat, Int.reduceLT, Int.reduceLE, y2])
          refine CallK_do gy ?_
          (try simp (implicitDefEqProofs := false) only [go_sem, ↓reduceIte, Nat.reduceEqDiff, reduceCtorEq, Nat.reduceAdd, Nat.reduceSub, Nat.reduceLeDiff, Nat.reduceLT, Nat.reduceMul, Int.reduceToNat, Int.reduceLT, Int.reduceLE])
          refine CallK_do w ?_
          (try simp (implicitDefEqProofs := false) only [go_sem, ↓reduceIte, Nat.reduceEqDiff, reduceCtorEq, Nat.reduceAdd, Nat.reduceSub, Nat.reduceLeDiff, Nat.reduceLT, Nat.reduceMul, Int.reduceToNat, Int.reduceLT, Int.reduceLE])
    obtain ⟨tl, htl⟩ : ∃ x, MC.seq r9_11 (.seq r9_12 (.seq (.seq r9_13 (.cond (.t 84) (.seq r9_14 .ret) .skip)) (.seq r9_15 (.seq r9_16 (.seq r9_17 .ret))))) = x := ⟨_, rfl⟩
    rw [htl] at main
    refine does9 (by rfl) (by rfl) ?_
    rw [show my9 = (.seq r9_0 (.seq r9_1 (.seq (.seq r9_2 (.cond (.t 28) (.seq r9_3 .ret) .skip)) (.seq r9_4 (.seq (.seq r9_5 (.cond (.t 43) r9_6 .skip)) (.seq r9_7 (.seq r9_8 (.seq (.seq r9_9 (.cond (.t 66) (.seq r9_10 .ret) .skip)) (.seq r9_11 (.seq r9_12 (.seq (.seq r9_13 (.cond (.t 84) (.seq r9_14 .ret) .skip)) (.seq r9_15 (.seq r9_16 (.seq r9_17 .ret)))))))))))))) from rfl, htl]
    (try simp (implicitDefEqProofs := false) only [go_sem, ↓reduceIte, Nat.reduceEqDiff, reduceCtorEq, Nat.reduceAdd, Nat.reduceSub, Nat.reduceLeDiff, Nat.reduceLT, Nat.reduceMul, Int.reduceToNat, Int.reduceLT, Int.reduceLE, Ty.cells_eq])
    refine CallK_do d1 ?_
    simp only [Ty.cells_eq] at main
    by_cases hneg : lab < 0
    · rw [if_pos hneg] at hp
      (try simp (implicitDefEqProofs := false) only [go_sem, ↓reduceIte, Nat.reduceEqDiff, reduceCtorEq, Nat.reduceAdd, Nat.reduceSub, Nat.reduceLeDiff, Nat.reduceLT, Nat.reduceMul, Int.reduceToNat, Int.reduceLT, Int.reduceLE, e0, show decide (lab < 0) = true from by simpa using hneg, hp])
      refine CallK_do d2 ?_
      (try simp (implicitDefEqProofs := false) only [go_sem, ↓reduceIte, Nat.reduceEqDiff, reduceCtorEq, Nat.reduceAdd, Nat.reduceSub, Nat.reduceLeDiff, Nat.reduceLT, Nat.reduceMul, Int.reduceToNat, Int.reduceLT, Int.reduceLE])
      refine CallK_do dl ?_
      by_cases h0 : h > 0
      · (try simp (implicitDefEqProofs := false) only [go_sem, ↓reduceIte, Nat.reduceEqDiff, reduceCtorEq, Nat.reduceAdd, Nat.reduceSub, Nat.reduceLeDiff, Nat.reduceLT, Nat.reduceMul, Int.reduceToNat, Int.reduceLT, Int.reduceLE, Bool.not_true, show decide (h > 0) = true from by simpa using h0])
        refine CallK_do dh ?_
        (try simp (implicitDefEqProofs := false) only [go_sem, ↓reduceIte, Nat.reduceEqDiff, reduceCtorEq, Nat.reduceAdd, Nat.reduceSub, Nat.reduceLeDiff, Nat.reduceLT, Nat.reduceMul, Int.reduceToNat, Int.reduceLT, Int.reduceLE, gz h0])
        exact main
      · (try simp (implicitDefEqProofs := false) only [go_sem, ↓reduceIte, Nat.reduceEqDiff, reduceCtorEq, Nat.reduceAdd, Nat.reduceSub, Nat.reduceLeDiff, Nat.reduceLT, Nat.reduceMul, Int.reduceToNat, Int.reduceLT, Int.reduceLE, Bool.not_true, show decide (h > 0) = false from by simpa using h0])
        exact main
    · rw [if_neg hneg] at hp
      subst hp
      (try simp (implicitDefEqProofs := false) only [go_sem, ↓reduceIte, Nat.reduceEqDiff, reduceCtorEq, Nat.reduceAdd, Nat.reduceSub, Nat.reduceLeDiff, Nat.reduceLT, Nat.reduceMul, Int.reduceToNat, Int.reduceLT, Int.reduceLE, e0, show decide (lab < 0) = false from by simpa using hneg])
      refine CallK_do d2 ?_
      (try simp (implicitDefEqProofs := false) only [go_sem, ↓reduceIte, Nat.reduceEqDiff, reduceCtorEq, Nat.reduceAdd, Nat.reduceSub, Nat.reduceLeDiff, Nat.reduceLT, Nat.reduceMul, Int.reduceToNat, Int.reduceLT, Int.reduceLE])
      refine CallK_do dl ?_
      by_cases h0 : h > 0
      · (try simp (implicitDefEqProofs := false) only [go_sem, ↓reduceIte, Nat.reduceEqDiff, reduceCtorEq, Nat.reduceAdd, Nat.reduceSub, Nat.reduceLeDiff, Nat.reduceLT, Nat.reduceMul, Int.reduceToNat, Int.reduceLT, Int.reduceLE, Bool.not_true, show decide (h > 0) = true from by simpa using h0])
        refine CallK_do dh ?_
        (try simp (implicitDefEqProofs := false) only [go_sem, ↓reduceIte, Nat.reduceEqDiff, reduceCtorEq, Nat.reduceAdd, Nat.reduceSub, Nat.reduceLeDiff, Nat.reduceLT, Nat.reduceMul, Int.reduceToNat, Int.reduceLT, Int.reduceLE, gz h0])
        exact main
      · (try simp (implicitDefEqProofs := false) only [go_sem, ↓reduceIte, Nat.reduceEqDiff, reduceCtorEq, Nat.reduceAdd, Nat.reduceSub, Nat.reduceLeDiff, Nat.reduceLT, Nat.reduceMul, Int.reduceToNat, Int.reduceLT, Int.reduceLE, Bool.not_true, show decide (h > 0) = false from by simpa using h0])
        exact main
end Go.Proofs.Ytopgmopdjiahmaa.Lg
