/- Texts of one proof, joined by program (gen/merge.py): Wc. Conditions: none; plain definitions and lemmas. -/
import Derived.Test.YtopgmopdjiahmaaG25
import Derived.Tactics
import Derived.Tactics2
import Derived.Defers
import Derived.Recover
import Derived.Laws.Pointers
/- terms.Nodes of a term that NormLabels makes. Conditions: none; plain lemmas. -/
set_option linter.unusedVariables false
set_option linter.unusedSimpArgs false
set_option maxRecDepth 100000
set_option maxHeartbeats 2000000
namespace Go.Proofs.Ytopgmopdjiahmaa.Lg
open Go Go.RowKit Go.Proofs

theorem idle127 (p : Addr) (w : World) :
    CallsD Try.prog 127 #[.pointer (some p)] .returning w fun e u' w' => e = .returned (.tuple #[]) ∧ u' = .returning ∧ w' = w := by
  refine callsD_of_wpS Try.func127 rfl fun c₀ cs hu => ?_
  apply wpS_seq
  apply wpS_region
  simp [wpOpsS, go_sem, recoverD, hu, Try.ntmps127, Exit.thenS]
  refine wpS_of_wp (wp_seq (wp_region ?_))
  simp [wpOps, go_sem]
  refine .inl (.inl (wp_cond (t := false) (by simp [Act.eval, Array.replicate]) ?_))
  simp only [Bool.false_eq_true, if_false]
  apply wp_skip
  cases c₀
  simp_all [bodyPostS, results, Try.results127]

theorem catch127 (n : Nat) (x : Int) (w : World) (hn : n < w.heap.size) (hc : w.cell? ⟨n, 0, none⟩ = some (.int .i64 x)) (hz : w.frozen? ⟨n, 0, none⟩ = false) :
    CallsD Try.prog 127 #[.pointer (some ⟨n, 0, none⟩)] (.panicking [{ v := .iface 114 (.agg #[]), recovered := false }]) w fun e u' w' =>
      e = .returned (.tuple #[]) ∧ u' = .panicking [{ v := .iface 114 (.agg #[]), recovered := true }] ∧ w' = (w.alloc (.cells #[] 114)).setCell ⟨n, 0, none⟩ (.int .i64 8193) := by
  refine callsD_of_wpS Try.func127 rfl fun c₀ cs hu => ?_
  apply wpS_seq
  apply wpS_region
  simp [wpOpsS, go_sem, recoverD, hu, Try.ntmps127, Exit.thenS]
  refine wpS_of_wp (wp_seq (wp_region ?_))
  simp [wpOps, go_sem]
  refine .inl (.inl (wp_cond (t := true) (by simp [Act.eval, Array.replicate]) ?_))
  simp only [if_true]
  refine wp_seq (wp_seq (wp_region ?_))
  simp [wpOps, go_sem, Exit.then, Instr.typeAssert, run_underlying Try.underlying114]
  iterate 8 (refine .inl ?_)
  refine wp_seq (wp_region ?_)
  simp [wpOps, go_sem, Exit.then, hc, hz]
  refine .inl (.inl (wp_cond (t := false) (by simp [Act.eval, Array.replicate, Act.put]) ?_))
  simp only [Bool.false_eq_true, if_false]
  apply wp_skip
  simp only [Exit.then]
  refine wp_region ?_
  simp [wpOps, go_sem, Exit.inBlock, hn, hc, hz]
  simp [bodyPostS, results, Try.results127, go_sem, hn, hc, hz]

def yesC : List IV := [.int .i8 2, .str ⟨#[]⟩, .str ⟨#[]⟩, .int .i64 0, .int .i8 0, .slice [], .int .i8 0, .slice [], .int .i64 0, .int .i64 0, .slice []]
def recC (a b : Ty) : List IV := [.int .i8 5, .str ⟨#[102]⟩, .str ⟨#[120]⟩, .int .i64 0, .int .i8 a.k, .slice (Ty.cellsL a.ts), .int .i8 b.k, .slice (Ty.cellsL b.ts), .int .i64 0, .int .i64 0, .slice [yesC]]
theorem of5_does : Does Try.prog 130 [.imm false (.int .i8 5)] [] (.ret true (.tup [.agg [.int .i64 1, .bool true, .bool true, .bool false, .bool true, .bool true, .bool false, .bool false], .bool true])) [] := by
  refine does130 (by rfl) (by rfl) ?_
  (try simp (implicitDefEqProofs := false) only [go_sem, ↓reduceIte, Nat.reduceEqDiff, reduceCtorEq, Nat.reduceAdd, Nat.reduceSub, Nat.reduceLeDiff, Nat.reduceLT, Nat.reduceMul, Int.reduceToNat, Int.reduceLT, Int.reduceLE, show ((5 : Int) == 0) = false from rfl, show ((5 : Int) == 1) = false from rfl, show ((5 : Int) == 2) = false from rfl, show ((5 : Int) == 3) = false from rfl, show ((5 : Int) == 4) = false from rfl, show ((5 : Int) == 5) = true from rfl])
theorem of2_does : Does Try.prog 130 [.imm false (.int .i8 2)] [] (.ret true (.tup [.agg [.int .i64 0, .bool false, .bool false, .bool false, .bool false, .bool false, .bool false, .bool false], .bool true])) [] := by
  refine does130 (by rfl) (by rfl) ?_
  (try simp (implicitDefEqProofs := false) only [go_sem, ↓reduceIte, Nat.reduceEqDiff, reduceCtorEq, Nat.reduceAdd, Nat.reduceSub, Nat.reduceLeDiff, Nat.reduceLT, Nat.reduceMul, Int.reduceToNat, Int.reduceLT, Int.reduceLE, show ((2 : Int) == 0) = false from rfl, show ((2 : Int) == 1) = false from rfl, show ((2 : Int) == 2) = true from rfl])
theorem add_yes {n m : Int} (f g : Bool) (h : 0 ≤ n) (h' : 0 ≤ m) (h2 : n + m ≤ 8192) : Does Try.prog 141 [.loc (.arg 0) 0, .imm false (.int .i64 m)] [[.imm g (.int .i64 n)]] (.ret true (.tup [])) [[.imm false (.int .i64 (n + m))]] := by
  refine does141 (by rfl) (by rfl) ?_
  (try simp (implicitDefEqProofs := false) only [go_sem, ↓reduceIte, Nat.reduceEqDiff, reduceCtorEq, Nat.reduceAdd, Nat.reduceSub, Nat.reduceLeDiff, Nat.reduceLT, Nat.reduceMul, Int.reduceToNat, Int.reduceLT, Int.reduceLE, wrap64 (n := n + m) (by omega) (by omega), show decide (n + m > 8192) = false from by simp; omega])
theorem add_no {n m : Int} (f g : Bool) (h : 0 ≤ n) (h' : 0 ≤ m) (h2 : n + m > 8192) (h3 : n + m ≤ 100000) : Does Try.prog 141 [.loc (.arg 0) 0, .imm false (.int .i64 m)] [[.imm g (.int .i64 n)]] (.pan 114) [[.imm false (.int .i64 (n + m))]] := by
  refine does141 (by rfl) (by rfl) ?_
  (try simp (implicitDefEqProofs := false) only [go_sem, ↓reduceIte, Nat.reduceEqDiff, reduceCtorEq, Nat.reduceAdd, Nat.reduceSub, Nat.reduceLeDiff, Nat.reduceLT, Nat.reduceMul, Int.reduceToNat, Int.reduceLT, Int.reduceLE, wrap64 (n := n + m) (by omega) (by omega), show decide (n + m > 8192) = true from by simp; omega])
noncomputable def bd105 : Code := Try.f105.body.getD .skip
theorem body105 : Try.f105.body = some (.seq (cA bd105) (.seq (cA (cB bd105)) (.seq (.region 2 #[{ dst := some 6, op := .makeFunc (.func 127) #[] #[.tmp 2], type := 1, pos := "terms.go:83", after := #[], guard := none }, { dst := none, op := .defer { callee := .value (.tmp 6), args := #[], argTypes := #[] }, type := 0, pos := "terms.go:83", after := #[{ on := 0, ground := .data }], guard := none }] false) (cB (cB (cB bd105)))))) := by kernel_rfl
def m105a : MC := .reg [⟨none, .boxc 1 (.t 0)⟩, ⟨none, .alloc 2 [.imm true (.int .i64 0)]⟩] none (some ([1, 2], [2]))
def m105b : MC := .reg [⟨none, .build 4 [.imm true (.int .i64 0)] []⟩, ⟨none, .box 5 (.t 4)⟩, ⟨none, .mv 3 (.t 5)⟩] none (some ([1, 2, 3], [2, 5]))
def m105c : MC := .seq (.reg [⟨none, .mv 7 (.t 3)⟩, ⟨none, .callB (some 8) (.c (.fn 128 [])) [.t 7, .t 1] [.arg 1]⟩] none (some ([2, 3], [])))
  (.seq (.reg [⟨none, .mv 9 (.t 3)⟩, ⟨none, .nilc 10 (.t 9)⟩, ⟨none, .fad 11 (.t 10) 0⟩, ⟨none, .load 12 (.t 11) none⟩, ⟨none, .store (.t 2) (.t 12) 1⟩] none (some ([2], []))) .ret)
theorem m105a_is : trC Try.prog ⟨[1], []⟩ ⟨[], [(0, [1, 2], [2])]⟩ 13 (cA bd105) = some m105a := by kernel_rfl
theorem m105b_is : trC Try.prog ⟨[], []⟩ ⟨[], [(1, [1, 2, 3], [2, 5])]⟩ 13 (cA (cB bd105)) = some m105b := by kernel_rfl
theorem m105c_is : trC Try.prog ⟨[], [(8, [.arg 1])]⟩ ⟨[], [(3, [2, 3], []), (4, [2], [])]⟩ 13 (cB (cB (cB bd105))) = some m105c := by kernel_rfl
theorem tnodes_does (t u : Ty) (N : Nat) (hc : if N ≤ 8192 then Does Try.prog 128 [.loc (.arg 0) 0, .imm false (.ptr (recC t u) 0)] [[.imm false (.int .i64 0)]] (.ret true (.tup [])) [[.imm false (.int .i64 N)]] else ∃ X : Int, Does Try.prog 128 [.loc (.arg 0) 0, .imm false (.ptr (recC t u) 0)] [[.imm false (.int .i64 0)]] (.pan 114) [[.imm false (.int .i64 X)]]) : Does Try.prog 105 [.imm false (.agg (recC t u))] [] (.ret true (.int .i64 (nodesF N))) [] := by
  refine ⟨⟨Try.f105, Try.func105, by kernel_rfl, by kernel_rfl⟩, rfl, fun cx M vals hna hI hR => ?_⟩
  have hlen : vals.length = 1 := hR.1
  have hdf : cx.dfs = [] := hI.defers.symm
  refine calls_of_wp_defers Try.func105 body105 ?_
  -- the beginning
  refine wp_seq (awp_sound (cx := cx) mixed _ _ m105a_is (fun e σ => e = .normal ∧ ∃ f, σ = ⟨[(1, .imm f (.ptr (recC t u) 0)), (2, .loc (.own 2) 0)], [(.own 2, .var [.imm true (.int .i64 0)])], []⟩) _ (fun e σ M1 a1 w1 hq hI1 hn1 => ?_) ⟨numE 0 [.imm false (.agg (recC t u))], argS 0 [], []⟩ M _ _ ?_ (hI.entry hR) (by simp [Try.ntmps105, hlen]))
  rotate_left
  · rw [awpR_get (m := m105a) (D := [2]) ⟨rfl, rfl⟩]
    (try simp (implicitDefEqProofs := false) only [go_sem, ↓reduceIte, Nat.reduceEqDiff, reduceCtorEq, Nat.reduceAdd, Nat.reduceSub, Nat.reduceLeDiff, Nat.reduceLT, Nat.reduceMul, Int.reduceToNat, Int.reduceLT, Int.reduceLE, recC, yesC])
    exact ⟨_, rfl⟩
  obtain ⟨rfl, f, rfl⟩ := hq
  have hn1 := hn1 rfl
  refine wp_seq (awp_sound (cx := cx) mixed _ _ m105b_is (fun e σ => e = .normal ∧ σ = ⟨[(1, .imm f (.ptr (recC t u) 0)), (2, .loc (.own 2) 0), (3, .loc (.own 5) 0)], [(.own 2, .var [.imm true (.int .i64 0)]), (.own 5, .var [.imm true (.int .i64 0)])], []⟩) _ (fun e σ M2 a2 w2 hq hI2 hn2 => ?_) _ M1 _ _ ?_ hI1 hn1)
  rotate_left
  · rw [awpR_get (m := m105b) (D := [5]) ⟨rfl, rfl⟩]
    (try simp (implicitDefEqProofs := false) only [go_sem, ↓reduceIte, Nat.reduceEqDiff, reduceCtorEq, Nat.reduceAdd, Nat.reduceSub, Nat.reduceLeDiff, Nat.reduceLT, Nat.reduceMul, Int.reduceToNat, Int.reduceLT, Int.reduceLE, recC, yesC])
  obtain ⟨rfl, rfl⟩ := hq
  have hn2 := hn2 rfl
  -- where the two variables lie
  have he2 := hI2.env 2
  have he3 := hI2.env 3
  have he1 := hI2.env 1
  simp only [getE, show (1 : Nat) = 2 ↔ False by simp, show (1 : Nat) = 3 ↔ False by simp, show (2 : Nat) = 3 ↔ False by simp, if_true, if_false] at he1 he2 he3
  obtain ⟨⟨b2, c2⟩, hp2⟩ := hI2.plc (.own 2) (by simp [getB])
  obtain ⟨⟨b5, c5⟩, hp5⟩ := hI2.plc (.own 5) (by simp [getB])
  have hb2 : cx.w.heap.size ≤ b2 := hI2.own 2 _ (by simp [getB]) hp2
  have hb5 : cx.w.heap.size ≤ b5 := hI2.own 5 _ (by simp [getB]) hp5
  have hv2 : a2.tmps.getD 2 undef = .pointer (some ⟨b2, 0, none⟩) := by
    generalize a2.tmps.getD 2 undef = x at he2
    cases he2 with
    | loc k off b c h => rw [hp2] at h; simp only [Option.some.injEq, Prod.mk.injEq] at h; rw [h.1]
  have hlive : ∀ i (hi : i < [Key.own 2, Key.own 5].length), [Key.own 2, Key.own 5][i] ∉ ([] : List Key) ∧ (getB [(Key.own 2, Box.var [LV.imm true (.int .i64 0)]), (Key.own 5, Box.var [.imm true (.int .i64 0)])] [Key.own 2, Key.own 5][i]).isSome = true := by
    intro i hi
    match i, hi with
    | 0, _ => simp [getB]
    | 1, _ => simp [getB]
  refine wp_seq (wp_region (defer_two (cx := cx) (σ := ⟨[], [], []⟩) (M := M) "terms.go:83" hv2 (by omega) ?_))
  have hlent := lent_inv hI2 [.own 2, .own 5] hlive (S := [[.imm false (.int .i64 0)], [.imm false (.int .i64 0)]]) (by simp) (by simp [lendBoxes, St.box, getB, lendL, lend])
  have hm0 : (lentCx hI2 [.own 2, .own 5] hlive).m 0 = b2 := by simp [lentCx, hp2]
  have hm1 : (lentCx hI2 [.own 2, .own 5] hlive).m 1 = b5 := by simp [lentCx, hp5]
  have hna3 : (lentCx hI2 [.own 2, .own 5] hlive).na = 2 := rfl
  have hw3 : (lentCx hI2 [.own 2, .own 5] hlive).w = w2 := rfl
  have le1 := lend_sound hI2 [.own 2, .own 5] hlive (S := [[.imm false (.int .i64 0)], [.imm false (.int .i64 0)]]) (by simp) 4 _ (.imm false (.ptr (recC t u) 0)) _ (by simp [lend]) he1
  have le2 := lend_sound hI2 [.own 2, .own 5] hlive (S := [[.imm false (.int .i64 0)], [.imm false (.int .i64 0)]]) (by simp) 4 _ (.loc (.arg 0) 0) _ (by simp [lend, findK]) he2
  have le3 := lend_sound hI2 [.own 2, .own 5] hlive (S := [[.imm false (.int .i64 0)], [.imm false (.int .i64 0)]]) (by simp) 4 _ (.loc (.arg 1) 0) _ (by simp [lend, findK]) he3
  generalize lentCx hI2 [.own 2, .own 5] hlive = cx3 at hlent hm0 hm1 hna3 hw3 le1 le2 le3
  have hdd : a2.defers = [] := hI2.defers.trans hdf
  have h4 : Inv { cx3 with dfs := [{ target := .fn (.func 127) #[.pointer (some ⟨b2, 0, none⟩)], args := #[] }] } ⟨[(1, .imm false (.ptr (recC t u) 0)), (2, .loc (.arg 0) 0), (3, .loc (.arg 1) 0)], argS 0 [[.imm false (.int .i64 0)], [.imm false (.int .i64 0)]], []⟩ (lentM M2 [.own 2, .own 5])
      { tmps := (a2.put (some 6) (.func (.func 127) #[] #[.pointer (some ⟨b2, 0, none⟩)])).tmps, defers := { target := .fn (.func 127) #[.pointer (some ⟨b2, 0, none⟩)], args := #[] } :: a2.defers } w2 :=
    { os := hlent.os, tape := hlent.tape, output := hlent.output, size := hlent.size, frame := hlent.frame, plc := hlent.plc, box := hlent.box, own := hlent.own, arg := hlent.arg, argM := hlent.argM, argz := hlent.argz, inj := hlent.inj
      defers := by rw [hdd]
      env := fun t => by
        have hput : ∀ u, u ≠ 6 → (a2.put (some 6) (.func (.func 127) #[] #[.pointer (some ⟨b2, 0, none⟩)])).tmps.getD u undef = a2.tmps.getD u undef := fun u hu => by
          simp [Act.put, Array.getElem?_setIfInBounds_ne (Ne.symm hu)]
        simp only [getE]
        by_cases e1 : 1 = t
        · subst e1; rw [if_pos rfl, hput 1 (by simp)]; exact le1
        · rw [if_neg e1]
          by_cases e2 : 2 = t
          · subst e2; rw [if_pos rfl, hput 2 (by simp)]; exact le2
          · rw [if_neg e2]
            by_cases e3 : 3 = t
            · subst e3; rw [if_pos rfl, hput 3 (by simp)]; exact le3
            · rw [if_neg e3]; exact .undef _ }
  refine awp_sound mixed _ _ m105c_is (fun e σ => getE σ.e 2 = .loc (.arg 0) 0 ∧ ((e = .ret ∧ N ≤ 8192 ∧ ∃ g, getB σ.s (.arg 0) = some (.var [.imm g (.int .i64 (N : Nat))])) ∨ (e = .pan 114 ∧ ¬ N ≤ 8192 ∧ ∃ g, getB σ.s (.arg 0) = some (.var [.imm g (.int .i64 0)])))) _ (fun e σ M5 a5 w5 hq hI5 hn5 => ?_) _ _ _ _ ?_ h4 (by simp [Act.put, hn2])
  rotate_left
  · unfold m105c
    rw [awp_seq, awpR_get (m := .reg _ none _) (D := []) ⟨rfl, rfl⟩]
    (try simp (implicitDefEqProofs := false) only [go_sem, ↓reduceIte, Nat.reduceEqDiff, reduceCtorEq, Nat.reduceAdd, Nat.reduceSub, Nat.reduceLeDiff, Nat.reduceLT, Nat.reduceMul, Int.reduceToNat, Int.reduceLT, Int.reduceLE, recC, yesC])
    by_cases hle : N ≤ 8192
    · rw [if_pos hle] at hc
      simp only [recC, yesC] at hc
      refine CallBK_do hc ?_
      (try simp (implicitDefEqProofs := false) only [go_sem, ↓reduceIte, Nat.reduceEqDiff, reduceCtorEq, Nat.reduceAdd, Nat.reduceSub, Nat.reduceLeDiff, Nat.reduceLT, Nat.reduceMul, Int.reduceToNat, Int.reduceLT, Int.reduceLE])
      rw [awpR_get (m := .reg _ none _) (D := []) ⟨rfl, rfl⟩]
      (try simp (implicitDefEqProofs := false) only [go_sem, ↓reduceIte, Nat.reduceEqDiff, reduceCtorEq, Nat.reduceAdd, Nat.reduceSub, Nat.reduceLeDiff, Nat.reduceLT, Nat.reduceMul, Int.reduceToNat, Int.reduceLT, Int.reduceLE])
      exact ⟨hle, _, rfl⟩
    · rw [if_neg hle] at hc
      obtain ⟨X, hc⟩ := hc
      simp only [recC, yesC] at hc
      refine CallBK_do hc ?_
      (try simp (implicitDefEqProofs := false) only [go_sem, ↓reduceIte, Nat.reduceEqDiff, reduceCtorEq, Nat.reduceAdd, Nat.reduceSub, Nat.reduceLeDiff, Nat.reduceLT, Nat.reduceMul, Int.reduceToNat, Int.reduceLT, Int.reduceLE])
      exact ⟨hle, _, rfl⟩
  obtain ⟨he, hq⟩ := hq
  have hfr : ∀ b, b < cx.w.heap.size → w5.heap[b]? = cx.w.heap[b]? := fun b hb => by
    have h1 := hI5.frame b (by show b < cx3.w.heap.size; rw [hw3]; exact Nat.lt_of_lt_of_le hb hI2.size) (fun i hi => by
      have hi : i < cx3.na := hi
      rw [hna3] at hi
      show cx3.m i ≠ b
      match i, hi with
      | 0, _ => rw [hm0]; omega
      | 1, _ => rw [hm1]; omega)
    have h2 := hI2.frame b hb (fun i hi => by have : cx.na = 0 := hna; omega)
    rw [h1]; show cx3.w.heap[b]? = _; rw [hw3]; exact h2
  have hos : w5.os = cx.w.os := by rw [hI5.os]; show cx3.w.os = _; rw [hw3]; exact hI2.os
  have htape : w5.tape = cx.w.tape := by rw [hI5.tape]; show cx3.w.tape = _; rw [hw3]; exact hI2.tape
  have hout : w5.output = cx.w.output := by rw [hI5.output]; show cx3.w.output = _; rw [hw3]; exact hI2.output
  have hsz3 : cx3.w.heap.size ≤ w5.heap.size := hI5.size
  rw [hw3] at hsz3
  have hsize : cx.w.heap.size ≤ w5.heap.size := Nat.le_trans hI2.size hsz3
  obtain ⟨c, hM0⟩ := hI5.argM 0 (by show 0 < cx3.na; omega)
  have hM0 : M5 (.arg 0) = some (b2, c) := by rw [hM0]; show some (cx3.m 0, c) = _; rw [hm0]
  have hv5 : a5.tmps.getD 2 undef = .pointer (some ⟨b2, 0, none⟩) := by
    have := hI5.env 2
    rw [he] at this
    generalize a5.tmps.getD 2 undef = x at this
    cases this with
    | loc k off b c h => rw [hM0] at h; simp only [Option.some.injEq, Prod.mk.injEq] at h; rw [h.1]
  have hdf5 : a5.defers = [{ target := .fn (.func 127) #[.pointer (some ⟨b2, 0, none⟩)], args := #[] }] := hI5.defers
  have hin : (getB σ.s (.arg 0)).isSome = true → True := fun _ => trivial
  rcases hq with ⟨rfl, hle, g, hbox⟩ | ⟨rfl, hle, g, hbox⟩
  · obtain ⟨vs, e, hheap, hrow, _⟩ := hI5.box _ _ _ hbox hM0
    have hvs : vs = #[.int .i64 (N : Nat)] := by
      have h1 := hrow.1
      have h2 := hrow.2 0 (by simp) (by rw [h1]; simp)
      have h3 := RepL.imm_iff.1 h2
      obtain ⟨l, rfl⟩ : ∃ l, vs = #[l] := by
        obtain ⟨vs⟩ := vs
        match vs, h1 with
        | [l], _ => exact ⟨l, rfl⟩
      simp only [List.getElem_cons_zero] at h3
      cases h3; rfl
    subst hvs
    have hcell : w5.cell? ⟨b2, 0, none⟩ = some (.int .i64 (N : Nat)) := by simp [World.cell?, hheap]
    show Leaves _ _ _ _ a5.defers _ _
    rw [hdf5]
    refine leaves_cons (f := 127) (args := #[.pointer (some ⟨b2, 0, none⟩)]) (by simp) (by simp [go_sem]) ?_
    refine (idle127 ⟨b2, 0, none⟩ w5).mono ?_
    rintro e u w ⟨rfl, rfl, rfl⟩
    refine ⟨.int .i64 (nodesF N), ?_, Inv.bare hna hdf hos htape hout hsize hfr, _, rfl, RepL.imm_iff.2 (.int _ _)⟩
    have hv5' : a5.tmps[2]?.getD undef = .pointer (some ⟨b2, 0, none⟩) := by rw [← Array.getD_eq_getD_getElem?]; exact hv5
    simp [results, Try.results105, hv5', go_sem, hcell, nodesF, hle]
  · obtain ⟨vs, e, hheap, hrow, _⟩ := hI5.box _ _ _ hbox hM0
    have hvs : vs = #[.int .i64 0] := by
      have h1 := hrow.1
      have h2 := hrow.2 0 (by simp) (by rw [h1]; simp)
      have h3 := RepL.imm_iff.1 h2
      obtain ⟨l, rfl⟩ : ∃ l, vs = #[l] := by
        obtain ⟨vs⟩ := vs
        match vs, h1 with
        | [l], _ => exact ⟨l, rfl⟩
      simp only [List.getElem_cons_zero] at h3
      cases h3; rfl
    subst hvs
    have hcell : w5.cell? ⟨b2, 0, none⟩ = some (.int .i64 0) := by simp [World.cell?, hheap]
    have hfz : w5.frozen? ⟨b2, 0, none⟩ = false := by simp [World.frozen?, hheap]
    have hlt : b2 < w5.heap.size := (Array.getElem?_eq_some_iff.1 hheap).1
    show Leaves _ _ _ _ a5.defers _ _
    rw [hdf5]
    refine leaves_cons (f := 127) (args := #[.pointer (some ⟨b2, 0, none⟩)]) (by simp) (by simp [go_sem]) ?_
    refine (catch127 b2 0 w5 hlt hcell hfz).mono ?_
    rintro e u w ⟨rfl, rfl, rfl⟩
    have hc2 : (w5.alloc (.cells #[] 114)).cell? ⟨b2, 0, none⟩ = some (.int .i64 0) := by rw [World.cell?_alloc_past _ _ _ hlt]; exact hcell
    have hc3 : ((w5.alloc (.cells #[] 114)).setCell ⟨b2, 0, none⟩ (.int .i64 8193)).cell? ⟨b2, 0, none⟩ = some (.int .i64 8193) := World.cell?_setCell_same' _ _ _ (by rw [hc2]; rfl)
    refine ⟨.int .i64 (nodesF N), ?_, Inv.bare hna hdf ?_ ?_ ?_ ?_ ?_, _, rfl, RepL.imm_iff.2 (.int _ _)⟩
    · have hv5' : a5.tmps[2]?.getD undef = .pointer (some ⟨b2, 0, none⟩) := by rw [← Array.getD_eq_getD_getElem?]; exact hv5
      simp [results, Try.results105, hv5', go_sem, hc3, nodesF, hle]
    · exact hos
    · exact htape
    · exact hout
    · show _ ≤ (Array.modify (w5.heap.push _) b2 _).size
      rw [Array.size_modify, Array.size_push]; omega
    · intro b hb
      rw [Below.heap_setCell _ _ _ b (by show b ≠ b2; omega), heap_alloc_old _ _ b (by omega)]
      exact hfr b hb
end Go.Proofs.Ytopgmopdjiahmaa.Lg
