/- The closure that catches a count's end. Conditions: none; plain lemmas. -/
import Derived.Test.YtopgmopdjiahmaaDoorNa
import Derived.Tactics
import Derived.Tactics2
import Derived.Defers
import Derived.Recover
import Derived.Laws.Pointers
set_option linter.unusedVariables false
set_option linter.unusedSimpArgs false
set_option maxRecDepth 100000
namespace Go.Proofs.YtopgmopdjiahmaaDoor.Lg
open Go Go.RowKit Go.Proofs

theorem idle72 (p : Addr) (w : World) :
    CallsD Tryd.prog 34 #[.pointer (some p)] .returning w fun e u' w' => e = .returned (.tuple #[]) ∧ u' = .returning ∧ w' = w := by
  refine callsD_of_wpS Tryd.func34 rfl fun c₀ cs hu => ?_
  apply wpS_seq
  apply wpS_region
  simp [wpOpsS, go_sem, recoverD, hu, Tryd.ntmps34, Exit.thenS]
  refine wpS_of_wp (wp_block (wp_seq (wp_region ?_)))
  simp [wpOps, go_sem]
  refine .inl (wp_cond (t := true) (by simp [Act.eval, Array.replicate]) ?_)
  simp only [if_true]
  apply wp_region
  simp [wpOps, go_sem, Exit.inBlock]
  cases c₀
  simp_all [bodyPostS, results, Tryd.results34]

theorem catch72 (n : Nat) (x : Int) (w : World) (hn : n < w.heap.size) (hc : w.cell? ⟨n, 0, none⟩ = some (.int .i64 x)) (hz : w.frozen? ⟨n, 0, none⟩ = false) :
    CallsD Tryd.prog 34 #[.pointer (some ⟨n, 0, none⟩)] (.panicking [{ v := .iface 82 (.agg #[]), recovered := false }]) w fun e u' w' =>
      e = .returned (.tuple #[]) ∧ u' = .panicking [{ v := .iface 82 (.agg #[]), recovered := true }] ∧ w' = (w.alloc (.cells #[] 82)).setCell ⟨n, 0, none⟩ (.int .i64 8193) := by
  refine callsD_of_wpS Tryd.func34 rfl fun c₀ cs hu => ?_
  apply wpS_seq
  apply wpS_region
  simp [wpOpsS, go_sem, recoverD, hu, Tryd.ntmps34, Exit.thenS]
  refine wpS_of_wp (wp_block (wp_seq (wp_region ?_)))
  simp [wpOps, go_sem]
  refine .inl (wp_cond (t := false) (by simp [Act.eval, Array.replicate]) ?_)
  simp only [Bool.false_eq_true, if_false]
  refine wp_seq (wp_region ?_)
  simp [wpOps, go_sem, Exit.then, Instr.typeAssert, run_underlying Tryd.underlying82]
  refine .inl (.inl (.inl (wp_cond (t := true) (by simp [Act.eval, Array.replicate]) ?_)))
  simp only [if_true]
  refine wp_seq (wp_region ?_)
  simp [wpOps, go_sem, Exit.then, hc, hz]
  refine .inl (.inl (wp_region ?_))
  simp [wpOps, go_sem, Exit.inBlock, hn, hc, hz]
  simp [bodyPostS, results, Tryd.results34, go_sem, hn, hc, hz]


def cA : Code → Code
  | .seq a _ => a
  | c => c
def cB : Code → Code
  | .seq _ b => b
  | c => c
def nodesF (n : Nat) : Int := if n ≤ 8192 then (n : Int) else 8193

noncomputable def bd38 : Code := Tryd.f16.body.getD .skip
theorem body38 : Tryd.f16.body = some (.seq (cA bd38) (.seq (cA (cB bd38)) (.seq (.region 2 #[{ dst := some 6, op := .makeFunc (.func 34) #[] #[.tmp 2], type := 1, pos := "types.go:37", after := #[], guard := none }, { dst := none, op := .defer { callee := .value (.tmp 6), args := #[], argTypes := #[] }, type := 0, pos := "types.go:37", after := #[{ on := 0, ground := .data }], guard := none }] false) (cB (cB (cB bd38)))))) := by kernel_rfl
def m38a : MC := .reg [⟨none, .boxc 1 (.t 0)⟩, ⟨none, .alloc 2 [.imm true (.int .i64 0)]⟩] none (some ([1, 2], [2]))
def m38b : MC := .reg [⟨none, .build 4 [.imm true (.int .i64 0)] []⟩, ⟨none, .box 5 (.t 4)⟩, ⟨none, .mv 3 (.t 5)⟩] none (some ([1, 2, 3], [2, 5]))
def m38c : MC := .seq (.reg [⟨none, .mv 7 (.t 3)⟩, ⟨none, .load 8 (.t 1) (some 2)⟩, ⟨none, .callB (some 9) (.c (.fn 35 [])) [.t 7, .t 8] [.arg 1]⟩] none (some ([2, 3], [])))
  (.seq (.reg [⟨none, .mv 10 (.t 3)⟩, ⟨none, .nilc 11 (.t 10)⟩, ⟨none, .fad 12 (.t 11) 0⟩, ⟨none, .load 13 (.t 12) none⟩, ⟨none, .store (.t 2) (.t 13) 1⟩] none (some ([2], []))) .ret)
theorem m38a_is : trC Tryd.prog ⟨[1], []⟩ ⟨[], [(0, [1, 2], [2])]⟩ 14 (cA bd38) = some m38a := by kernel_rfl
theorem m38b_is : trC Tryd.prog ⟨[], []⟩ ⟨[], [(1, [1, 2, 3], [2, 5])]⟩ 14 (cA (cB bd38)) = some m38b := by kernel_rfl
theorem m38c_is : trC Tryd.prog ⟨[], [(9, [.arg 1])]⟩ ⟨[], [(3, [2, 3], []), (4, [2], [])]⟩ 14 (cB (cB (cB bd38))) = some m38c := by kernel_rfl

theorem defer_two {cx : Cx} {σ : St} {M : Pl} {a : Act} {w : World} {f : FuncId} {b : Nat} (pos : String) (h2 : a.tmps.getD 2 undef = .pointer (some ⟨b, 0, none⟩)) (hsz : 6 < a.tmps.size) {Q : Exit → Act → World → Prop}
    (hQ : Q .normal { tmps := (a.put (some 6) (.func (.func f) #[] #[.pointer (some ⟨b, 0, none⟩)])).tmps, defers := { target := .fn (.func f) #[.pointer (some ⟨b, 0, none⟩)], args := #[] } :: a.defers } w) :
    wpOps Tryd.prog #[{ dst := some 6, op := .makeFunc (.func f) #[] #[.tmp 2], type := 1, pos := pos, after := #[], guard := none }, { dst := none, op := .defer { callee := .value (.tmp 6), args := #[], argTypes := #[] }, type := 0, pos := pos, after := #[{ on := 0, ground := .data }], guard := none }] Q (List.range 2) a w := by
  have hmf : ∀ (fn : Fn) (first cap : Array Value) (w : World), (Instr.makeFunc fn first cap).run Tryd.prog w = .ok (.func fn first cap) w := fun _ _ _ _ => rfl
  have h6 : (a.put (some 6) (.func (.func f) #[] #[.pointer (some ⟨b, 0, none⟩)])).eval (.tmp 6) = .func (.func f) #[] #[.pointer (some ⟨b, 0, none⟩)] := by
    simp [Act.eval, Act.put, hsz]
  have h2' : a.eval (.tmp 2) = .pointer (some ⟨b, 0, none⟩) := h2
  have h3 : a.tmps[2]?.getD undef = .pointer (some ⟨b, 0, none⟩) := by rw [← Array.getD_eq_getD_getElem?]; exact h2
  simp [wpOps, List.range_succ, Region.wanted, Oper.upon, execOp, hmf, h2', h6, go_sem, hsz, h3]
  refine .inl (.inl ?_)
  simpa [Act.put, h3] using hQ

theorem Inv.bare {cx : Cx} {M : Pl} {w : World} (hna : cx.na = 0) (hd : cx.dfs = []) (h1 : w.os = cx.w.os) (h2 : w.tape = cx.w.tape) (h3 : w.output = cx.w.output) (h4 : cx.w.heap.size ≤ w.heap.size) (h5 : ∀ b, b < cx.w.heap.size → w.heap[b]? = cx.w.heap[b]?) (hg : cx.s2 ≤ w.heap.size ∧ ∀ b, cx.G b → ((cx.N b ∨ cx.w.heap.size ≤ b) ∧ b < w.heap.size) ∧ w.heap[b]? = cx.gh b) : Inv cx ⟨[], argS 0 [], []⟩ M ⟨#[], []⟩ w :=
  { os := h1, tape := h2, output := h3, size := h4, frame := fun b hb _ => h5 b hb
    gho := ⟨hg.1, fun b hb => ⟨⟨(hg.2 b hb).1.1, (hg.2 b hb).1.2, fun k c hk => by simp [argS, getB] at hk⟩, (hg.2 b hb).2⟩⟩
    plc := fun k hk => by simp [argS, getB] at hk
    box := fun k b pl hk _ => by simp [argS, getB] at hk
    own := fun t pl ht _ => by simp [argS, getB] at ht
    arg := fun i hi => by simp [argS, getB] at hi
    argM := fun i hi => by omega
    argz := fun i hi => nomatch hi
    inj := fun k k' b c c' hk => by simp [argS, getB] at hk
    env := fun t => .undef _
    defers := hd.symm }

theorem Inv.entry {cx : Cx} {S : List (List LV)} {M : Pl} {args : List LV} {vals : List Value} {n : Nat} (hI : Inv cx ⟨[], argS 0 S, []⟩ M ⟨#[], []⟩ cx.w) (hR : Rows2 (RR cx (argS 0 S) [] M cx.w) args vals) : Inv cx ⟨numE 0 args, argS 0 S, []⟩ M ⟨vals.toArray ++ Array.replicate n undef, []⟩ cx.w :=
  { os := hI.os, tape := hI.tape, output := hI.output, size := hI.size, frame := hI.frame, plc := hI.plc, box := hI.box, own := hI.own, arg := hI.arg, argM := hI.argM, argz := hI.argz, inj := hI.inj, defers := hI.defers, gho := hI.gho
    env := fun t => by
      have hlen : vals.length = args.length := hR.1
      have hg : getE (numE 0 args) t = args.getD t .undef := by rw [getE_numE]; simp
      show RR cx _ _ M _ (getE (numE 0 args) t) _
      rw [hg]
      by_cases ht : t < args.length
      · have : (vals.toArray ++ Array.replicate n undef).getD t undef = vals[t]'(by omega) := by
          rw [Array.getD_eq_getD_getElem?, Array.getElem?_append_left (by simp; omega)]
          simp [hlen, ht]
        rw [this]
        have e : args.getD t .undef = args[t] := by simp [List.getD_eq_getElem?_getD, ht]
        rw [e]
        exact hR.2 t ht (by omega)
      · have e : args.getD t .undef = .undef := by rw [List.getD_eq_getElem?_getD, List.getElem?_eq_none (by omega)]; rfl
        rw [e]; exact .undef _ }

theorem nodes_does (t : Ty) (hf : t.fits) : Does Tryd.prog 16 [.imm false (.agg t.cells)] [] (.ret true (.int .i64 (nodesF t.nodes))) [] := by
  refine ⟨⟨Tryd.f16, Tryd.func16, by kernel_rfl, by kernel_rfl⟩, rfl, fun cx M vals hna hI hR => ?_⟩
  have hlen : vals.length = 1 := hR.1
  have hdf : cx.dfs = [] := hI.defers.symm
  refine calls_of_wp_defers Tryd.func16 body38 ?_
  obtain ⟨k, ts⟩ := t
  -- the beginning
  refine wp_seq (awp_sound (cx := cx) mixed _ _ m38a_is (fun e σ => e = .normal ∧ ∃ f, σ = ⟨[(1, .imm f (.ptr (Ty.mk k ts).cells 0)), (2, .loc (.own 2) 0)], [(.own 2, .var [.imm true (.int .i64 0)])], []⟩) _ (fun e σ M1 a1 w1 hq hI1 hn1 => ?_) ⟨numE 0 [.imm false (.agg (Ty.mk k ts).cells)], argS 0 [], []⟩ M _ _ ?_ (hI.entry hR) (by simp [Tryd.ntmps16, hlen]))
  rotate_left
  · rw [awpR_get (m := m38a) (D := [2]) ⟨rfl, rfl⟩]
    (try simp (implicitDefEqProofs := false) only [go_sem, ↓reduceIte, Nat.reduceEqDiff, reduceCtorEq, Nat.reduceAdd, Nat.reduceSub, Nat.reduceLeDiff, Nat.reduceLT, Nat.reduceMul, Int.reduceToNat, Int.reduceLT, Int.reduceLE, Ty.cells])
    exact ⟨_, rfl⟩
  obtain ⟨rfl, f, rfl⟩ := hq
  have hn1 := hn1 rfl
  refine wp_seq (awp_sound (cx := cx) mixed _ _ m38b_is (fun e σ => e = .normal ∧ σ = ⟨[(1, .imm f (.ptr (Ty.mk k ts).cells 0)), (2, .loc (.own 2) 0), (3, .loc (.own 5) 0)], [(.own 2, .var [.imm true (.int .i64 0)]), (.own 5, .var [.imm true (.int .i64 0)])], []⟩) _ (fun e σ M2 a2 w2 hq hI2 hn2 => ?_) _ M1 _ _ ?_ hI1 hn1)
  rotate_left
  · rw [awpR_get (m := m38b) (D := [5]) ⟨rfl, rfl⟩]
    (try simp (implicitDefEqProofs := false) only [go_sem, ↓reduceIte, Nat.reduceEqDiff, reduceCtorEq, Nat.reduceAdd, Nat.reduceSub, Nat.reduceLeDiff, Nat.reduceLT, Nat.reduceMul, Int.reduceToNat, Int.reduceLT, Int.reduceLE, Ty.cells])
  obtain ⟨rfl, rfl⟩ := hq
  have hn2 := hn2 rfl
  -- where the two variables lie
  have he2 := hI2.env 2
  have he3 := hI2.env 3
  have he1 := hI2.env 1
  simp only [getE, show (1 : Nat) = 2 ↔ False by simp, show (1 : Nat) = 3 ↔ False by simp, show (2 : Nat) = 3 ↔ False by simp, if_true, if_false] at he1 he2 he3
  obtain ⟨⟨b2, c2⟩, hp2⟩ := hI2.plc (.own 2) (by simp [getB])
  obtain ⟨⟨b5, c5⟩, hp5⟩ := hI2.plc (.own 5) (by simp [getB])
  have hb2 : cx.w.heap.size ≤ b2 := hI2.own 2 _ (by simp [getB]) hp2
  have hb5 : cx.w.heap.size ≤ b5 := hI2.own 5 _ (by simp [getB]) hp5
  have hv2 : a2.tmps.getD 2 undef = .pointer (some ⟨b2, 0, none⟩) := by
    generalize a2.tmps.getD 2 undef = x at he2
    cases he2 with
    | loc k off b c h => rw [hp2] at h; simp only [Option.some.injEq, Prod.mk.injEq] at h; rw [h.1]
  have hlive : ∀ i (hi : i < [Key.own 2, Key.own 5].length), [Key.own 2, Key.own 5][i] ∉ ([] : List Key) ∧ (getB [(Key.own 2, Box.var [LV.imm true (.int .i64 0)]), (Key.own 5, Box.var [.imm true (.int .i64 0)])] [Key.own 2, Key.own 5][i]).isSome = true := by
    intro i hi
    match i, hi with
    | 0, _ => simp [getB]
    | 1, _ => simp [getB]
  refine wp_seq (wp_region (defer_two (cx := cx) (σ := ⟨[], [], []⟩) (M := M) "types.go:37" hv2 (by omega) ?_))
  have hlent := lent_inv hI2 [.own 2, .own 5] hlive (S := [[.imm false (.int .i64 0)], [.imm false (.int .i64 0)]]) (by simp) (by simp [lendBoxes, St.box, getB, lendL, lend])
  have hm0 : (lentCx hI2 [.own 2, .own 5] hlive).m 0 = b2 := by simp [lentCx, hp2]
  have hm1 : (lentCx hI2 [.own 2, .own 5] hlive).m 1 = b5 := by simp [lentCx, hp5]
  have hna3 : (lentCx hI2 [.own 2, .own 5] hlive).na = 2 := rfl
  have hw3 : (lentCx hI2 [.own 2, .own 5] hlive).w = w2 := rfl
  have le1 := lend_sound hI2 [.own 2, .own 5] hlive (S := [[.imm false (.int .i64 0)], [.imm false (.int .i64 0)]]) (by simp) 4 _ (.imm false (.ptr (Ty.mk k ts).cells 0)) _ (by simp [lend]) he1
  have le2 := lend_sound hI2 [.own 2, .own 5] hlive (S := [[.imm false (.int .i64 0)], [.imm false (.int .i64 0)]]) (by simp) 4 _ (.loc (.arg 0) 0) _ (by simp [lend, findK]) he2
  have le3 := lend_sound hI2 [.own 2, .own 5] hlive (S := [[.imm false (.int .i64 0)], [.imm false (.int .i64 0)]]) (by simp) 4 _ (.loc (.arg 1) 0) _ (by simp [lend, findK]) he3
  generalize lentCx hI2 [.own 2, .own 5] hlive = cx3 at hlent hm0 hm1 hna3 hw3 le1 le2 le3
  have hdd : a2.defers = [] := hI2.defers.trans hdf
  have h4 : Inv { cx3 with dfs := [{ target := .fn (.func 34) #[.pointer (some ⟨b2, 0, none⟩)], args := #[] }] } ⟨[(1, .imm false (.ptr (Ty.mk k ts).cells 0)), (2, .loc (.arg 0) 0), (3, .loc (.arg 1) 0)], argS 0 [[.imm false (.int .i64 0)], [.imm false (.int .i64 0)]], []⟩ (lentM M2 [.own 2, .own 5])
      { tmps := (a2.put (some 6) (.func (.func 34) #[] #[.pointer (some ⟨b2, 0, none⟩)])).tmps, defers := { target := .fn (.func 34) #[.pointer (some ⟨b2, 0, none⟩)], args := #[] } :: a2.defers } w2 :=
    { os := hlent.os, tape := hlent.tape, output := hlent.output, size := hlent.size, frame := hlent.frame, plc := hlent.plc, box := hlent.box, own := hlent.own, arg := hlent.arg, argM := hlent.argM, argz := hlent.argz, inj := hlent.inj
      gho := hlent.gho
      defers := by rw [hdd]
      env := fun t => by
        have hput : ∀ u, u ≠ 6 → (a2.put (some 6) (.func (.func 34) #[] #[.pointer (some ⟨b2, 0, none⟩)])).tmps.getD u undef = a2.tmps.getD u undef := fun u hu => by
          simp [Act.put, Array.getElem?_setIfInBounds_ne (Ne.symm hu)]
        simp only [getE]
        by_cases e1 : 1 = t
        · subst e1; rw [if_pos rfl, hput 1 (by simp)]; exact le1
        · rw [if_neg e1]
          by_cases e2 : 2 = t
          · subst e2; rw [if_pos rfl, hput 2 (by simp)]; exact le2
          · rw [if_neg e2]
            by_cases e3 : 3 = t
            · subst e3; rw [if_pos rfl, hput 3 (by simp)]; exact le3
            · rw [if_neg e3]; exact .undef _ }
  refine awp_sound mixed _ _ m38c_is (fun e σ => getE σ.e 2 = .loc (.arg 0) 0 ∧ ((e = .ret ∧ (Ty.mk k ts).nodes ≤ 8192 ∧ ∃ g, getB σ.s (.arg 0) = some (.var [.imm g (.int .i64 ((Ty.mk k ts).nodes : Nat))])) ∨ (e = .pan 82 ∧ ¬ (Ty.mk k ts).nodes ≤ 8192 ∧ ∃ g, getB σ.s (.arg 0) = some (.var [.imm g (.int .i64 0)])))) _ (fun e σ M5 a5 w5 hq hI5 hn5 => ?_) _ _ _ _ ?_ h4 (by simp [Act.put, hn2])
  rotate_left
  · unfold m38c
    rw [awp_seq, awpR_get (m := .reg _ none _) (D := []) ⟨rfl, rfl⟩]
    have hc := count_does (Ty.mk k ts) hf 0 (by omega)
    (try simp (implicitDefEqProofs := false) only [go_sem, ↓reduceIte, Nat.reduceEqDiff, reduceCtorEq, Nat.reduceAdd, Nat.reduceSub, Nat.reduceLeDiff, Nat.reduceLT, Nat.reduceMul, Int.reduceToNat, Int.reduceLT, Int.reduceLE, Ty.cells])
    refine CallBK_do hc ?_
    by_cases hle : (Ty.mk k ts).nodes ≤ 8192
    · simp only [countO, countN, Nat.zero_add, if_pos hle]
      (try simp (implicitDefEqProofs := false) only [go_sem, ↓reduceIte, Nat.reduceEqDiff, reduceCtorEq, Nat.reduceAdd, Nat.reduceSub, Nat.reduceLeDiff, Nat.reduceLT, Nat.reduceMul, Int.reduceToNat, Int.reduceLT, Int.reduceLE])
      rw [awpR_get (m := .reg _ none _) (D := []) ⟨rfl, rfl⟩]
      (try simp (implicitDefEqProofs := false) only [go_sem, ↓reduceIte, Nat.reduceEqDiff, reduceCtorEq, Nat.reduceAdd, Nat.reduceSub, Nat.reduceLeDiff, Nat.reduceLT, Nat.reduceMul, Int.reduceToNat, Int.reduceLT, Int.reduceLE])
      exact ⟨hle, _, rfl⟩
    · simp only [countO, countN, Nat.zero_add, if_neg hle]
      (try simp (implicitDefEqProofs := false) only [go_sem, ↓reduceIte, Nat.reduceEqDiff, reduceCtorEq, Nat.reduceAdd, Nat.reduceSub, Nat.reduceLeDiff, Nat.reduceLT, Nat.reduceMul, Int.reduceToNat, Int.reduceLT, Int.reduceLE])
      exact ⟨hle, _, rfl⟩
  obtain ⟨he, hq⟩ := hq
  have hfr : ∀ b, b < cx.w.heap.size → w5.heap[b]? = cx.w.heap[b]? := fun b hb => by
    have h1 := hI5.frame b (by show b < cx3.w.heap.size; rw [hw3]; exact Nat.lt_of_lt_of_le hb hI2.size) (fun i hi => by
      have hi : i < cx3.na := hi
      rw [hna3] at hi
      show cx3.m i ≠ b
      match i, hi with
      | 0, _ => rw [hm0]; omega
      | 1, _ => rw [hm1]; omega)
    have h2 := hI2.frame b hb (fun i hi => by have : cx.na = 0 := hna; omega)
    rw [h1]; show cx3.w.heap[b]? = _; rw [hw3]; exact h2
  have hghb : cx.s2 ≤ w5.heap.size ∧ ∀ b, cx.G b → (((cx.N b ∨ cx.w.heap.size ≤ b) ∧ b < w5.heap.size) ∧ b ≠ b2) ∧ w5.heap[b]? = cx.gh b := by
    have hsz3 : cx3.w.heap.size ≤ w5.heap.size := hI5.size
    rw [hw3] at hsz3
    refine ⟨Nat.le_trans hI2.gho.1 hsz3, fun b hb => ?_⟩
    obtain ⟨n1, n2⟩ := hI2.gho.2 b hb
    have ne2 : b ≠ b2 := fun e => n1.2.2 (.own 2) c2 (by simp [getB]) (by simp) (by rw [hp2, e])
    have ne5 : b ≠ b5 := fun e => n1.2.2 (.own 5) c5 (by simp [getB]) (by simp) (by rw [hp5, e])
    refine ⟨⟨⟨n1.1, Nat.lt_of_lt_of_le n1.2.1 hsz3⟩, ne2⟩, ?_⟩
    have h1 := hI5.frame b (by show b < cx3.w.heap.size; rw [hw3]; exact n1.2.1) (fun i hi => by
      have hi : i < cx3.na := hi
      rw [hna3] at hi
      show cx3.m i ≠ b
      match i, hi with
      | 0, _ => rw [hm0]; omega
      | 1, _ => rw [hm1]; omega)
    rw [h1]; show cx3.w.heap[b]? = _; rw [hw3]; exact n2
  have hos : w5.os = cx.w.os := by rw [hI5.os]; show cx3.w.os = _; rw [hw3]; exact hI2.os
  have htape : w5.tape = cx.w.tape := by rw [hI5.tape]; show cx3.w.tape = _; rw [hw3]; exact hI2.tape
  have hout : w5.output = cx.w.output := by rw [hI5.output]; show cx3.w.output = _; rw [hw3]; exact hI2.output
  have hsz3 : cx3.w.heap.size ≤ w5.heap.size := hI5.size
  rw [hw3] at hsz3
  have hsize : cx.w.heap.size ≤ w5.heap.size := Nat.le_trans hI2.size hsz3
  obtain ⟨c, hM0⟩ := hI5.argM 0 (by show 0 < cx3.na; omega)
  have hM0 : M5 (.arg 0) = some (b2, c) := by rw [hM0]; show some (cx3.m 0, c) = _; rw [hm0]
  have hv5 : a5.tmps.getD 2 undef = .pointer (some ⟨b2, 0, none⟩) := by
    have := hI5.env 2
    rw [he] at this
    generalize a5.tmps.getD 2 undef = x at this
    cases this with
    | loc k off b c h => rw [hM0] at h; simp only [Option.some.injEq, Prod.mk.injEq] at h; rw [h.1]
  have hdf5 : a5.defers = [{ target := .fn (.func 34) #[.pointer (some ⟨b2, 0, none⟩)], args := #[] }] := hI5.defers
  have hin : (getB σ.s (.arg 0)).isSome = true → True := fun _ => trivial
  rcases hq with ⟨rfl, hle, g, hbox⟩ | ⟨rfl, hle, g, hbox⟩
  · obtain ⟨vs, e, hheap, hrow, _⟩ := hI5.box _ _ _ hbox hM0
    have hvs : vs = #[.int .i64 ((Ty.mk k ts).nodes : Nat)] := by
      have h1 := hrow.1
      have h2 := hrow.2 0 (by simp) (by rw [h1]; simp)
      have h3 := RepL.imm_iff.1 h2
      obtain ⟨l, rfl⟩ : ∃ l, vs = #[l] := by
        obtain ⟨vs⟩ := vs
        match vs, h1 with
        | [l], _ => exact ⟨l, rfl⟩
      simp only [List.getElem_cons_zero] at h3
      cases h3; rfl
    subst hvs
    have hcell : w5.cell? ⟨b2, 0, none⟩ = some (.int .i64 ((Ty.mk k ts).nodes : Nat)) := by simp [World.cell?, hheap]
    show Leaves _ _ _ _ a5.defers _ _
    rw [hdf5]
    refine leaves_cons (f := 34) (args := #[.pointer (some ⟨b2, 0, none⟩)]) (by simp) (by simp [go_sem]) ?_
    refine (idle72 ⟨b2, 0, none⟩ w5).mono ?_
    rintro e u w ⟨rfl, rfl, rfl⟩
    refine ⟨.int .i64 (nodesF (Ty.mk k ts).nodes), ?_, Inv.bare hna hdf hos htape hout hsize hfr ⟨hghb.1, fun b hb => ⟨(hghb.2 b hb).1.1, (hghb.2 b hb).2⟩⟩, _, rfl, RepL.imm_iff.2 (.int _ _)⟩
    have hv5' : a5.tmps[2]?.getD undef = .pointer (some ⟨b2, 0, none⟩) := by rw [← Array.getD_eq_getD_getElem?]; exact hv5
    simp [results, Tryd.results16, hv5', go_sem, hcell, nodesF, hle]
  · obtain ⟨vs, e, hheap, hrow, _⟩ := hI5.box _ _ _ hbox hM0
    have hvs : vs = #[.int .i64 0] := by
      have h1 := hrow.1
      have h2 := hrow.2 0 (by simp) (by rw [h1]; simp)
      have h3 := RepL.imm_iff.1 h2
      obtain ⟨l, rfl⟩ : ∃ l, vs = #[l] := by
        obtain ⟨vs⟩ := vs
        match vs, h1 with
        | [l], _ => exact ⟨l, rfl⟩
      simp only [List.getElem_cons_zero] at h3
      cases h3; rfl
    subst hvs
    have hcell : w5.cell? ⟨b2, 0, none⟩ = some (.int .i64 0) := by simp [World.cell?, hheap]
    have hfz : w5.frozen? ⟨b2, 0, none⟩ = false := by simp [World.frozen?, hheap]
    have hlt : b2 < w5.heap.size := (Array.getElem?_eq_some_iff.1 hheap).1
    show Leaves _ _ _ _ a5.defers _ _
    rw [hdf5]
    refine leaves_cons (f := 34) (args := #[.pointer (some ⟨b2, 0, none⟩)]) (by simp) (by simp [go_sem]) ?_
    refine (catch72 b2 0 w5 hlt hcell hfz).mono ?_
    rintro e u w ⟨rfl, rfl, rfl⟩
    have hc2 : (w5.alloc (.cells #[] 82)).cell? ⟨b2, 0, none⟩ = some (.int .i64 0) := by rw [World.cell?_alloc_past _ _ _ hlt]; exact hcell
    have hc3 : ((w5.alloc (.cells #[] 82)).setCell ⟨b2, 0, none⟩ (.int .i64 8193)).cell? ⟨b2, 0, none⟩ = some (.int .i64 8193) := World.cell?_setCell_same' _ _ _ (by rw [hc2]; rfl)
    refine ⟨.int .i64 (nodesF (Ty.mk k ts).nodes), ?_, Inv.bare hna hdf ?_ ?_ ?_ ?_ ?_ ?_, _, rfl, RepL.imm_iff.2 (.int _ _)⟩
    · have hv5' : a5.tmps[2]?.getD undef = .pointer (some ⟨b2, 0, none⟩) := by rw [← Array.getD_eq_getD_getElem?]; exact hv5
      simp [results, Tryd.results16, hv5', go_sem, hc3, nodesF, hle]
    · exact hos
    · exact htape
    · exact hout
    · show _ ≤ (Array.modify (w5.heap.push _) b2 _).size
      rw [Array.size_modify, Array.size_push]; omega
    · intro b hb
      rw [Below.heap_setCell _ _ _ b (by show b ≠ b2; omega), heap_alloc_old _ _ b (by omega)]
      exact hfr b hb
    · refine ⟨?_, fun b hb => ⟨⟨(hghb.2 b hb).1.1.1, ?_⟩, ?_⟩⟩
      · show _ ≤ (Array.modify (w5.heap.push _) b2 _).size
        rw [Array.size_modify, Array.size_push]; have := hghb.1; omega
      · show b < (Array.modify (w5.heap.push _) b2 _).size
        rw [Array.size_modify, Array.size_push]; have := (hghb.2 b hb).1.1.2; omega
      · rw [Below.heap_setCell _ _ _ b (by show b ≠ b2; exact (hghb.2 b hb).1.2), heap_alloc_old _ _ b (hghb.2 b hb).1.1.2]
        exact (hghb.2 b hb).2
end Go.Proofs.YtopgmopdjiahmaaDoor.Lg
