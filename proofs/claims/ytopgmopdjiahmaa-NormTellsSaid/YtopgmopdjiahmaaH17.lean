/- Texts of one proof, joined by program (gen/tells.py): Ud Mi Ue Uf. Conditions: none; plain definitions and lemmas. -/
import Derived.Test.YtopgmopdjiahmaaH16
import Derived.Test.YtopgmopdjiahmaaH4
import Derived.Test.YtopgmopdjiahmaaProg
import Derived.Test.YtopgmopdjiahmaaH13
/- The document's answer on casts: it is the program's. Conditions: none; plain lemmas. -/
set_option linter.unusedVariables false
set_option linter.unusedSimpArgs false
set_option maxRecDepth 100000
set_option maxHeartbeats 2000000
namespace Go.Proofs.Ytopgmopdjiahmaa.Lg
open Go Go.RowKit Go.Proofs

theorem rseq_does (a b : Cn) : Does Try.prog 90 [.imm false (.agg a.cells), .imm false (.agg b.cells)] [] (.ret false (.agg (part 7 a b).cells)) [] := by
  obtain ⟨k, ty, to, lab, neg, ks⟩ := a
  obtain ⟨k', ty', to', lab', neg', ks'⟩ := b
  refine does90 (by rfl) (by rfl) ?_
  (try simp (implicitDefEqProofs := false) only [go_sem, ↓reduceIte, Nat.reduceEqDiff, reduceCtorEq, Nat.reduceAdd, Nat.reduceSub, Nat.reduceLeDiff, Nat.reduceLT, Nat.reduceMul, Int.reduceToNat, Int.reduceLT, Int.reduceLE, Cn.cells, part_cells])
theorem rpart_does (k : Int) (a b : Cn) : Does Try.prog 92 [.imm false (.int .i8 k), .imm false (.agg a.cells), .imm false (.agg b.cells)] [] (.ret false (.agg (part k a b).cells)) [] := by
  obtain ⟨k1, ty, to, lab, neg, ks⟩ := a
  obtain ⟨k', ty', to', lab', neg', ks'⟩ := b
  refine does92 (by rfl) (by rfl) ?_
  (try simp (implicitDefEqProofs := false) only [go_sem, ↓reduceIte, Nat.reduceEqDiff, reduceCtorEq, Nat.reduceAdd, Nat.reduceSub, Nat.reduceLeDiff, Nat.reduceLT, Nat.reduceMul, Int.reduceToNat, Int.reduceLT, Int.reduceLE, Cn.cells, part_cells])
theorem OfA.det {a b : Ty} {lab : Int} {c d : Cn} {e f : Int} (h : OfA a b lab c e) (h' : OfA a b lab d f) : c = d ∧ e = f := by
  cases h with
  | e1 h => cases h' with
    | e1 _ => exact ⟨rfl, rfl⟩
    | e2 h2 _ => exact absurd h2 h
    | e3 h2 _ _ => exact absurd h2 h
    | e4 _ h2 _ _ _ _ _ => exact absurd h2 h
    | ok _ h2 _ _ _ _ _ => exact absurd h2 h
  | e2 h0 h => cases h' with
    | e1 h2 => exact absurd h0 h2
    | e2 h2 _ => exact ⟨rfl, rfl⟩
    | e3 _ h2 _ => exact absurd h2 h
    | e4 _ _ h2 _ _ _ _ => exact absurd h2 h
    | ok _ _ h2 _ _ _ _ => exact absurd h2 h
  | e3 h0 h1 h => cases h' with
    | e1 h2 => exact absurd h0 h2
    | e2 _ h2 => exact absurd h1 h2
    | e3 _ h2 _ => exact ⟨rfl, rfl⟩
    | e4 _ _ _ h2 h3 _ _ => rcases h with h | h <;> simp_all
    | ok _ _ _ h2 h3 _ _ => rcases h with h | h <;> simp_all
  | e4 c h0 h1 h3 h4 hc he => cases h' with
    | e1 h2 => exact absurd h0 h2
    | e2 _ h2 => exact absurd h1 h2
    | e3 _ _ h => rcases h with h | h <;> simp_all
    | e4 d _ _ _ _ hd he' => rw [hc.det hd]; exact ⟨rfl, rfl⟩
    | ok _ _ _ _ _ hd he' => rw [hc.det hd] at he; exact absurd he' he
  | ok _ h0 h1 h3 h4 hc he => cases h' with
    | e1 h2 => exact absurd h0 h2
    | e2 _ h2 => exact absurd h1 h2
    | e3 _ _ h => rcases h with h | h <;> simp_all
    | e4 d _ _ _ _ hd he' => rw [hc.det hd] at he; exact absurd he he'
    | ok _ _ _ _ _ hd he' => rw [hc.det hd]; exact ⟨rfl, rfl⟩

end Go.Proofs.Ytopgmopdjiahmaa.Lg

/- MADE BY PROGRAM (gen/mk.py): the code of functions, as the logic sees it. Conditions: none; plain definitions and lemmas. -/
set_option linter.unusedVariables false
set_option linter.defProp false
set_option maxRecDepth 100000
namespace Go.Proofs.Ytopgmopdjiahmaa.Lg
open Go Go.RowKit Go.Proofs
variable {Q : AEx → St → Prop} {σ : St}

/-! ### 88: lychgate/lychgateref16.id -/
def r88_0 : MC := .reg [⟨none, (.boxc 1 (.t 0))⟩, ⟨none, (.alloc 2 z8)⟩] none (some ([1, 2], [2]))
def w88_0 := @awpR_get Try.prog Q σ r88_0 _ _ [2] ⟨rfl, rfl⟩
def r88_1 : MC := .reg [⟨none, (.fad 4 (.t 1) 1)⟩, ⟨none, (.load 5 (.t 4) none)⟩, ⟨none, (.len 6 (.t 5))⟩, ⟨none, (.bin 7 .eql (.t 6) (.c (.imm true (.int .i64 0))))⟩] none (some ([1, 2, 7], [2]))
def w88_1 := @awpR_no Try.prog Q σ r88_1 _ _ ⟨rfl, rfl⟩
def r88_2 : MC := .reg [⟨none, (.load 8 (.t 1) (some 2))⟩, ⟨none, (.build 9 z8 [(0, (1, (.c (.imm true (.int .i8 0))))), (1, (2, (.t 8)))])⟩, ⟨none, (.store (.t 2) (.t 9) 8)⟩] none (some ([2], [2]))
def w88_2 := @awpR_no Try.prog Q σ r88_2 _ _ ⟨rfl, rfl⟩
def r88_3 : MC := .reg [⟨none, (.mv 3 (.c (.imm true (.int .i8 4))))⟩] none (some ([1, 2, 3], [2]))
def w88_3 := @awpR_no Try.prog Q σ r88_3 _ _ ⟨rfl, rfl⟩
def r88_4 : MC := .reg [⟨none, (.fad 10 (.t 1) 0)⟩, ⟨none, (.load 11 (.t 10) none)⟩, ⟨none, (.bin 12 .eql (.t 11) (.c (.imm true (.int .i8 4))))⟩] none (some ([1, 2, 3, 12], [2]))
def w88_4 := @awpR_no Try.prog Q σ r88_4 _ _ ⟨rfl, rfl⟩
def r88_5 : MC := .reg [⟨none, (.mv 3 (.c (.imm true (.int .i8 5))))⟩] none (some ([1, 2, 3], [2]))
def w88_5 := @awpR_no Try.prog Q σ r88_5 _ _ ⟨rfl, rfl⟩
def r88_6 : MC := .reg [⟨none, (.fad 13 (.t 1) 0)⟩, ⟨none, (.load 14 (.t 13) none)⟩, ⟨none, (.bin 15 .eql (.t 14) (.c (.imm true (.int .i8 5))))⟩] none (some ([1, 2, 3, 15], [2]))
def w88_6 := @awpR_no Try.prog Q σ r88_6 _ _ ⟨rfl, rfl⟩
def r88_7 : MC := .reg [⟨none, (.mv 3 (.c (.imm true (.int .i8 6))))⟩] none (some ([1, 2, 3], [2]))
def w88_7 := @awpR_no Try.prog Q σ r88_7 _ _ ⟨rfl, rfl⟩
def r88_8 : MC := .reg [⟨none, (.mv 16 (.t 3))⟩, ⟨none, (.fad 17 (.t 1) 1)⟩, ⟨none, (.load 18 (.t 17) none)⟩, ⟨none, (.iad 19 (.t 18) (.c (.imm true (.int .i64 0))) 2)⟩, ⟨none, (.load 20 (.t 19) (some 2))⟩, ⟨none, (.call (some 21) (.c (.fn 88 [])) [(.t 20)])⟩, ⟨none, (.fad 22 (.t 1) 1)⟩, ⟨none, (.load 23 (.t 22) none)⟩, ⟨none, (.iad 24 (.t 23) (.c (.imm true (.int .i64 1))) 2)⟩, ⟨none, (.load 25 (.t 24) (some 2))⟩, ⟨none, (.call (some 26) (.c (.fn 88 [])) [(.t 25)])⟩, ⟨none, (.call (some 27) (.c (.fn 92 [])) [(.t 16), (.t 21), (.t 26)])⟩, ⟨none, (.store (.t 2) (.t 27) 8)⟩] (some []) (some ([2], [2]))
def w88_8 := @awpD_no Try.prog Q σ r88_8 _ _ _ ⟨rfl, rfl⟩
def my88 : MC := (.seq r88_0 (.seq (.seq r88_1 (.cond (.t 7) (.seq r88_2 .ret) .skip)) (.seq r88_3 (.seq (.seq r88_4 (.cond (.t 12) r88_5 .skip)) (.seq (.seq r88_6 (.cond (.t 15) r88_7 .skip)) (.seq r88_8 .ret))))))
theorem my88_is : trC Try.prog ⟨[1], []⟩ ⟨[(8, [[], [], [1], [1, 2], [1, 2, 3], [1, 2, 3, 4], [], [6], [6, 7], [6, 7, 8], [1, 2, 3, 4, 5, 6, 7, 8, 9], [0, 1, 2, 3, 4, 5, 6, 7, 8, 9, 10], [0, 1, 2, 3, 4, 5, 6, 7, 8, 9, 10, 11]], [])],
  [(0, [1, 2], [2]), (1, [1, 2, 7], [2]), (2, [2], [2]), (3, [1, 2, 3], [2]), (4, [1, 2, 3, 12], [2]), (5, [1, 2, 3], [2]), (6, [1, 2, 3, 15], [2]), (7, [1, 2, 3], [2]), (8, [2], [2])]⟩ 28 (Try.f88.body.getD .skip) = some my88 := by kernel_rfl
theorem does88 {args : List LV} (hl : args.length.ble 28 = true) {S S' : List (List LV)} (hS : S'.length = S.length) {o : Out} (h : Lt ⟨numE 0 args, argS 0 S, []⟩ (awp Try.prog my88 (Fin [(.c 2 (some 8))] o S'))) : Does Try.prog 88 args S o S' :=
  does_of_awp mixed Try.func88 (by kernel_rfl) (by kernel_rfl) my88_is (by kernel_rfl) (Nat.le_of_ble_eq_true hl) hS h
attribute [go_sem ↓] w88_0 w88_1 w88_2 w88_3 w88_4 w88_5 w88_6 w88_7 w88_8
attribute [go_sem] my88
/-! ### 89: lychgate/lychgateref16.bare -/
def r89_0 : MC := .reg [⟨none, (.boxc 1 (.t 0))⟩, ⟨none, (.alloc 2 z8)⟩] none (some ([1, 2], [2, 65]))
def w89_0 := @awpR_get Try.prog Q σ r89_0 _ _ [2] ⟨rfl, rfl⟩
def r89_1 : MC := .reg [⟨none, (.fad 5 (.t 1) 0)⟩, ⟨none, (.load 6 (.t 5) none)⟩, ⟨none, (.build 7 z8 [(0, (1, (.t 6)))])⟩, ⟨none, (.alloc 3 z8)⟩, ⟨none, (.store (.t 3) (.t 7) 8)⟩] none (some ([1, 2, 3], [2, 3, 65]))
def w89_1 := @awpR_get Try.prog Q σ r89_1 _ _ [3] ⟨rfl, rfl⟩
def r89_2 : MC := .reg [⟨none, (.fad 8 (.t 1) 0)⟩, ⟨none, (.load 9 (.t 8) none)⟩, ⟨none, (.bin 10 .eql (.t 9) (.c (.imm true (.int .i8 0))))⟩, ⟨none, (.mv 11 (.t 10))⟩, ⟨(some (11, false)), (.fad 12 (.t 1) 0)⟩, ⟨(some (11, false)), (.load 13 (.t 12) none)⟩, ⟨(some (11, false)), (.bin 14 .eql (.t 13) (.c (.imm true (.int .i8 1))))⟩, ⟨none, (.pick 15 (.t 11) (.c (.imm true (.bool true))) (.t 14))⟩, ⟨none, (.mv 16 (.t 15))⟩, ⟨(some (16, false)), (.fad 17 (.t 1) 0)⟩, ⟨(some (16, false)), (.load 18 (.t 17) none)⟩, ⟨(some (16, false)), (.bin 19 .eql (.t 18) (.c (.imm true (.int .i8 2))))⟩, ⟨none, (.pick 20 (.t 16) (.c (.imm true (.bool true))) (.t 19))⟩, ⟨none, (.mv 21 (.t 20))⟩, ⟨(some (21, false)), (.fad 22 (.t 1) 0)⟩, ⟨(some (21, false)), (.load 23 (.t 22) none)⟩, ⟨(some (21, false)), (.bin 24 .eql (.t 23) (.c (.imm true (.int .i8 3))))⟩, ⟨none, (.pick 25 (.t 21) (.c (.imm true (.bool true))) (.t 24))⟩] none (some ([1, 2, 3, 25], [2, 3, 65]))
def w89_2 := @awpR_no Try.prog Q σ r89_2 _ _ ⟨rfl, rfl⟩
def r89_3 : MC := .reg [⟨none, (.fad 26 (.t 1) 1)⟩, ⟨none, (.load 27 (.t 26) (some 2))⟩, ⟨none, (.fad 28 (.t 3) 1)⟩, ⟨none, (.store (.t 28) (.t 27) 2)⟩] none (some ([1, 2, 3], [2, 3, 65]))
def w89_3 := @awpR_no Try.prog Q σ r89_3 _ _ ⟨rfl, rfl⟩
def r89_4 : MC := .reg [⟨none, (.fad 29 (.t 1) 0)⟩, ⟨none, (.load 30 (.t 29) none)⟩, ⟨none, (.bin 31 .eql (.t 30) (.c (.imm true (.int .i8 1))))⟩] none (some ([1, 2, 3, 31], [2, 3, 65]))
def w89_4 := @awpR_no Try.prog Q σ r89_4 _ _ ⟨rfl, rfl⟩
def r89_5 : MC := .reg [⟨none, (.fad 32 (.t 1) 3)⟩, ⟨none, (.load 33 (.t 32) (some 2))⟩, ⟨none, (.fad 34 (.t 3) 3)⟩, ⟨none, (.store (.t 34) (.t 33) 2)⟩] none (some ([1, 2, 3], [2, 3, 65]))
def w89_5 := @awpR_no Try.prog Q σ r89_5 _ _ ⟨rfl, rfl⟩
def r89_6 : MC := .reg [⟨none, (.fad 35 (.t 1) 0)⟩, ⟨none, (.load 36 (.t 35) none)⟩, ⟨none, (.bin 37 .eql (.t 36) (.c (.imm true (.int .i8 1))))⟩, ⟨none, (.mv 38 (.t 37))⟩, ⟨(some (38, false)), (.fad 39 (.t 1) 0)⟩, ⟨(some (38, false)), (.load 40 (.t 39) none)⟩, ⟨(some (38, false)), (.bin 41 .eql (.t 40) (.c (.imm true (.int .i8 3))))⟩, ⟨none, (.pick 42 (.t 38) (.c (.imm true (.bool true))) (.t 41))⟩] none (some ([1, 2, 3, 42], [2, 3, 65]))
def w89_6 := @awpR_no Try.prog Q σ r89_6 _ _ ⟨rfl, rfl⟩
def r89_7 : MC := .reg [⟨none, (.fad 43 (.t 1) 5)⟩, ⟨none, (.load 44 (.t 43) none)⟩, ⟨none, (.fad 45 (.t 3) 5)⟩, ⟨none, (.store (.t 45) (.t 44) 1)⟩] none (some ([1, 2, 3], [2, 3, 65]))
def w89_7 := @awpR_no Try.prog Q σ r89_7 _ _ ⟨rfl, rfl⟩
def r89_8 : MC := .reg [⟨none, (.fad 46 (.t 1) 6)⟩, ⟨none, (.load 47 (.t 46) none)⟩, ⟨none, (.fad 48 (.t 3) 6)⟩, ⟨none, (.store (.t 48) (.t 47) 1)⟩] none (some ([1, 2, 3], [2, 3, 65]))
def w89_8 := @awpR_no Try.prog Q σ r89_8 _ _ ⟨rfl, rfl⟩
def r89_9 : MC := .reg [⟨none, (.mv 4 (.c (.imm true (.int .i64 0))))⟩] none (some ([1, 2, 3, 4], [2, 3, 65]))
def w89_9 := @awpR_no Try.prog Q σ r89_9 _ _ ⟨rfl, rfl⟩
def r89_10 : MC := .reg [⟨none, (.mv 49 (.t 4))⟩, ⟨none, (.fad 50 (.t 1) 7)⟩, ⟨none, (.load 51 (.t 50) none)⟩, ⟨none, (.len 52 (.t 51))⟩, ⟨none, (.bin 53 .lss (.t 49) (.t 52))⟩] none (some ([1, 2, 3, 4, 53], [2, 3, 65]))
def w89_10 := @awpR_no Try.prog Q σ r89_10 _ _ ⟨rfl, rfl⟩
def r89_11 : MC := .reg [⟨none, (.fad 56 (.t 3) 7)⟩, ⟨none, (.load 57 (.t 56) none)⟩, ⟨none, (.fad 58 (.t 1) 7)⟩, ⟨none, (.load 59 (.t 58) none)⟩, ⟨none, (.mv 60 (.t 4))⟩, ⟨none, (.iad 61 (.t 59) (.t 60) 8)⟩, ⟨none, (.load 62 (.t 61) (some 8))⟩, ⟨none, (.call (some 63) (.c (.fn 89 [])) [(.t 62)])⟩, ⟨none, (.lit 64 8 [(.t 63)])⟩, ⟨none, (.append 65 (.t 57) (.t 64) 28 8 112)⟩, ⟨none, (.fad 66 (.t 3) 7)⟩, ⟨none, (.store (.t 66) (.t 65) 1)⟩] (some []) (some ([1, 2, 3, 4], [2, 3, 65]))
def w89_11 := @awpD_get Try.prog Q σ r89_11 _ _ _ [65] ⟨rfl, rfl⟩
def r89_12 : MC := .reg [⟨none, (.mv 54 (.t 4))⟩, ⟨none, (.bin 55 .add (.t 54) (.c (.imm true (.int .i64 1))))⟩, ⟨none, (.mv 4 (.t 55))⟩] none (some ([1, 2, 3, 4], [2, 3, 65]))
def w89_12 := @awpR_no Try.prog Q σ r89_12 _ _ ⟨rfl, rfl⟩
def l89_0 : MC := (.seq (.seq r89_10 (.cond (.t 53) .skip (.exit 0))) (.seq (.block 1 r89_11) r89_12))
def r89_13 : MC := .reg [⟨none, (.load 67 (.t 3) (some 8))⟩, ⟨none, (.store (.t 2) (.t 67) 8)⟩] none (some ([2], [2, 65]))
def w89_13 := @awpR_no Try.prog Q σ r89_13 _ _ ⟨rfl, rfl⟩
def my89 : MC := (.seq r89_0 (.seq r89_1 (.seq (.seq r89_2 (.cond (.t 25) r89_3 .skip)) (.seq (.seq r89_4 (.cond (.t 31) r89_5 .skip)) (.seq (.seq r89_6 (.cond (.t 42) (.seq r89_7 r89_8) .skip)) (.seq (.seq r89_9 (.block 0 (.loop l89_0))) (.seq r89_13 .ret)))))))
theorem my89_is : trC Try.prog ⟨[1], []⟩ ⟨[(12, [[], [0], [], [2], [], [2, 3, 4], [2, 3, 4, 5], [2, 3, 4, 5, 6], [2, 3, 4, 5, 6, 7], [0, 1, 2, 3, 4, 5, 6, 7, 8], [0, 1, 2, 3, 4, 5, 6, 7, 8, 9], [0, 1, 2, 3, 4, 5, 6, 7, 8, 9, 10]], [])],
  [(0, [1, 2], [2, 65]), (1, [1, 2, 3], [2, 3, 65]), (2, [1, 2, 3, 25], [2, 3, 65]), (3, [1, 2, 3], [2, 3, 65]), (4, [1, 2, 3, 31], [2, 3, 65]), (5, [1, 2, 3], [2, 3, 65]), (6, [1, 2, 3, 42], [2, 3, 65]), (7, [1, 2, 3], [2, 3, 65]), (8, [1, 2, 3], [2, 3, 65]), (9, [1, 2, 3, 4], [2, 3, 65]), (10, [1, 2, 3, 4, 53], [2, 3, 65]), (12, [1, 2, 3, 4], [2, 3, 65]), (11, [1, 2, 3, 4], [2, 3, 65]), (13, [2], [2, 65])]⟩ 68 (Try.f89.body.getD .skip) = some my89 := by kernel_rfl
theorem does89 {args : List LV} (hl : args.length.ble 68 = true) {S S' : List (List LV)} (hS : S'.length = S.length) {o : Out} (h : Lt ⟨numE 0 args, argS 0 S, []⟩ (awp Try.prog my89 (Fin [(.c 2 (some 8))] o S'))) : Does Try.prog 89 args S o S' :=
  does_of_awp mixed Try.func89 (by kernel_rfl) (by kernel_rfl) my89_is (by kernel_rfl) (Nat.le_of_ble_eq_true hl) hS h
attribute [go_sem ↓] w89_0 w89_1 w89_2 w89_3 w89_4 w89_5 w89_6 w89_7 w89_8 w89_9 w89_10 w89_11 w89_12 w89_13
attribute [go_sem] my89
/-! ### 138: lychgate/lychgateref16.Ends -/
def r138_0 : MC := .reg [⟨none, (.boxc 1 (.t 0))⟩, ⟨none, (.alloc 2 z2)⟩, ⟨none, (.alloc 3 z2)⟩] none (some ([1, 2, 3], [2, 3]))
def w138_0 := @awpR_get Try.prog Q σ r138_0 _ _ [2, 3] ⟨rfl, rfl⟩
def r138_1 : MC := .reg [⟨none, (.fad 8 (.t 1) 0)⟩, ⟨none, (.load 9 (.t 8) none)⟩] none (some ([1, 2, 3, 9], [2, 3]))
def w138_1 := @awpR_no Try.prog Q σ r138_1 _ _ ⟨rfl, rfl⟩
def r138_2 : MC := .reg [⟨none, (.bin 11 .eql (.t 9) (.c (.imm true (.int .i8 0))))⟩, ⟨none, (.mv 10 (.t 11))⟩] none (some ([1, 2, 3, 9, 10], [2, 3]))
def w138_2 := @awpR_no Try.prog Q σ r138_2 _ _ ⟨rfl, rfl⟩
def r138_3 : MC := .reg [⟨none, (.fad 12 (.t 1) 1)⟩, ⟨none, (.load 13 (.t 12) (some 2))⟩, ⟨none, (.fad 14 (.t 1) 1)⟩, ⟨none, (.load 15 (.t 14) (some 2))⟩, ⟨none, (.store (.t 2) (.t 13) 2)⟩, ⟨none, (.store (.t 3) (.t 15) 2)⟩] (some [(2, 4), (3, 4)]) (some ([2, 3], [2, 3]))
def w138_3 := @awpD_no Try.prog Q σ r138_3 _ _ _ ⟨rfl, rfl⟩
def r138_4 : MC := .reg [⟨none, (.bin 17 .eql (.t 9) (.c (.imm true (.int .i8 1))))⟩, ⟨none, (.mv 16 (.t 17))⟩] none (some ([1, 2, 3, 9, 16], [2, 3]))
def w138_4 := @awpR_no Try.prog Q σ r138_4 _ _ ⟨rfl, rfl⟩
def r138_5 : MC := .reg [⟨none, (.fad 18 (.t 1) 1)⟩, ⟨none, (.load 19 (.t 18) (some 2))⟩, ⟨none, (.fad 20 (.t 1) 3)⟩, ⟨none, (.load 21 (.t 20) (some 2))⟩, ⟨none, (.store (.t 2) (.t 19) 2)⟩, ⟨none, (.store (.t 3) (.t 21) 2)⟩] (some [(2, 4), (3, 4)]) (some ([2, 3], [2, 3]))
def w138_5 := @awpD_no Try.prog Q σ r138_5 _ _ _ ⟨rfl, rfl⟩
def r138_6 : MC := .reg [⟨none, (.bin 23 .eql (.t 9) (.c (.imm true (.int .i8 2))))⟩, ⟨none, (.mv 22 (.t 23))⟩] none (some ([1, 2, 3, 9, 22], [2, 3]))
def w138_6 := @awpR_no Try.prog Q σ r138_6 _ _ ⟨rfl, rfl⟩
def r138_7 : MC := .reg [⟨none, (.fad 24 (.t 1) 1)⟩, ⟨none, (.load 25 (.t 24) (some 2))⟩, ⟨none, (.build 26 z2 [])⟩, ⟨none, (.store (.t 2) (.t 25) 2)⟩, ⟨none, (.store (.t 3) (.t 26) 2)⟩] none (some ([2, 3], [2, 3]))
def w138_7 := @awpR_no Try.prog Q σ r138_7 _ _ ⟨rfl, rfl⟩
def r138_8 : MC := .reg [⟨none, (.bin 28 .eql (.t 9) (.c (.imm true (.int .i8 3))))⟩, ⟨none, (.mv 27 (.t 28))⟩] none (some ([1, 2, 3, 27], [2, 3]))
def w138_8 := @awpR_no Try.prog Q σ r138_8 _ _ ⟨rfl, rfl⟩
def r138_9 : MC := .reg [⟨none, (.build 29 z2 [])⟩, ⟨none, (.fad 30 (.t 1) 1)⟩, ⟨none, (.load 31 (.t 30) (some 2))⟩, ⟨none, (.store (.t 2) (.t 29) 2)⟩, ⟨none, (.store (.t 3) (.t 31) 2)⟩] (some [(1, 3), (2, 3)]) (some ([2, 3], [2, 3]))
def w138_9 := @awpD_no Try.prog Q σ r138_9 _ _ _ ⟨rfl, rfl⟩
def r138_10 : MC := .reg [⟨none, (.fad 33 (.t 1) 7)⟩, ⟨none, (.load 34 (.t 33) none)⟩, ⟨none, (.iad 35 (.t 34) (.c (.imm true (.int .i64 0))) 8)⟩, ⟨none, (.load 36 (.t 35) (some 8))⟩, ⟨none, (.call (some 37) (.c (.fn 138 [])) [(.t 36)])⟩, ⟨none, (.mv 32 (.t 37))⟩, ⟨none, (.ext 38 (.t 32) 0)⟩, ⟨none, (.ext 39 (.t 32) 1)⟩, ⟨none, (.alloc 4 z2)⟩, ⟨none, (.alloc 5 z2)⟩, ⟨none, (.store (.t 4) (.t 38) 2)⟩, ⟨none, (.store (.t 5) (.t 39) 2)⟩] none (some ([1, 2, 3, 4, 5], [2, 3, 4, 5]))
def w138_10 := @awpR_get Try.prog Q σ r138_10 _ _ [4, 5] ⟨rfl, rfl⟩
def r138_11 : MC := .reg [⟨none, (.fad 41 (.t 1) 7)⟩, ⟨none, (.load 42 (.t 41) none)⟩, ⟨none, (.iad 43 (.t 42) (.c (.imm true (.int .i64 1))) 8)⟩, ⟨none, (.load 44 (.t 43) (some 8))⟩, ⟨none, (.call (some 45) (.c (.fn 138 [])) [(.t 44)])⟩, ⟨none, (.mv 40 (.t 45))⟩, ⟨none, (.ext 46 (.t 40) 0)⟩, ⟨none, (.ext 47 (.t 40) 1)⟩, ⟨none, (.alloc 6 z2)⟩, ⟨none, (.alloc 7 z2)⟩, ⟨none, (.store (.t 6) (.t 46) 2)⟩, ⟨none, (.store (.t 7) (.t 47) 2)⟩] none (some ([1, 2, 3, 4, 5, 6, 7], [2, 3, 4, 5, 6, 7]))
def w138_11 := @awpR_get Try.prog Q σ r138_11 _ _ [6, 7] ⟨rfl, rfl⟩
def r138_12 : MC := .reg [⟨none, (.fad 48 (.t 1) 0)⟩, ⟨none, (.load 49 (.t 48) none)⟩] none (some ([2, 3, 4, 5, 6, 7, 49], [2, 3, 4, 5, 6, 7]))
def w138_12 := @awpR_no Try.prog Q σ r138_12 _ _ ⟨rfl, rfl⟩
def r138_13 : MC := .reg [⟨none, (.bin 51 .eql (.t 49) (.c (.imm true (.int .i8 4))))⟩, ⟨none, (.mv 50 (.t 51))⟩] none (some ([2, 3, 4, 5, 6, 7, 49, 50], [2, 3, 4, 5, 6, 7]))
def w138_13 := @awpR_no Try.prog Q σ r138_13 _ _ ⟨rfl, rfl⟩
def r138_14 : MC := .reg [⟨none, (.load 52 (.t 5) (some 2))⟩, ⟨none, (.load 53 (.t 6) (some 2))⟩, ⟨none, (.call (some 54) (.c (.fn 139 [])) [(.c (.imm true (.int .i8 3))), (.t 52), (.t 53)])⟩, ⟨none, (.load 55 (.t 4) (some 2))⟩, ⟨none, (.load 56 (.t 7) (some 2))⟩, ⟨none, (.call (some 57) (.c (.fn 139 [])) [(.c (.imm true (.int .i8 3))), (.t 55), (.t 56)])⟩, ⟨none, (.store (.t 2) (.t 54) 2)⟩, ⟨none, (.store (.t 3) (.t 57) 2)⟩] (some []) (some ([2, 3], [2, 3]))
def w138_14 := @awpD_no Try.prog Q σ r138_14 _ _ _ ⟨rfl, rfl⟩
def r138_15 : MC := .reg [⟨none, (.bin 59 .eql (.t 49) (.c (.imm true (.int .i8 5))))⟩, ⟨none, (.mv 58 (.t 59))⟩] none (some ([2, 3, 4, 5, 6, 7, 49, 58], [2, 3, 4, 5, 6, 7]))
def w138_15 := @awpR_no Try.prog Q σ r138_15 _ _ ⟨rfl, rfl⟩
def r138_16 : MC := .reg [⟨none, (.load 60 (.t 4) (some 2))⟩, ⟨none, (.load 61 (.t 6) (some 2))⟩, ⟨none, (.call (some 62) (.c (.fn 139 [])) [(.c (.imm true (.int .i8 4))), (.t 60), (.t 61)])⟩, ⟨none, (.load 63 (.t 5) (some 2))⟩, ⟨none, (.load 64 (.t 7) (some 2))⟩, ⟨none, (.call (some 65) (.c (.fn 139 [])) [(.c (.imm true (.int .i8 4))), (.t 63), (.t 64)])⟩, ⟨none, (.store (.t 2) (.t 62) 2)⟩, ⟨none, (.store (.t 3) (.t 65) 2)⟩] (some []) (some ([2, 3], [2, 3]))
def w138_16 := @awpD_no Try.prog Q σ r138_16 _ _ _ ⟨rfl, rfl⟩
def r138_17 : MC := .reg [⟨none, (.bin 67 .eql (.t 49) (.c (.imm true (.int .i8 6))))⟩, ⟨none, (.mv 66 (.t 67))⟩] none (some ([2, 3, 4, 5, 6, 7, 66], [2, 3, 4, 5, 6, 7]))
def w138_17 := @awpR_no Try.prog Q σ r138_17 _ _ ⟨rfl, rfl⟩
def r138_18 : MC := .reg [⟨none, (.load 68 (.t 4) (some 2))⟩, ⟨none, (.load 69 (.t 6) (some 2))⟩, ⟨none, (.call (some 70) (.c (.fn 139 [])) [(.c (.imm true (.int .i8 5))), (.t 68), (.t 69)])⟩, ⟨none, (.load 71 (.t 5) (some 2))⟩, ⟨none, (.load 72 (.t 7) (some 2))⟩, ⟨none, (.call (some 73) (.c (.fn 139 [])) [(.c (.imm true (.int .i8 5))), (.t 71), (.t 72)])⟩, ⟨none, (.store (.t 2) (.t 70) 2)⟩, ⟨none, (.store (.t 3) (.t 73) 2)⟩] (some []) (some ([2, 3], [2, 3]))
def w138_18 := @awpD_no Try.prog Q σ r138_18 _ _ _ ⟨rfl, rfl⟩
def r138_19 : MC := .reg [⟨none, (.load 74 (.t 4) (some 2))⟩, ⟨none, (.load 75 (.t 7) (some 2))⟩, ⟨none, (.store (.t 2) (.t 74) 2)⟩, ⟨none, (.store (.t 3) (.t 75) 2)⟩] (some [(1, 2)]) (some ([2, 3], [2, 3]))
def w138_19 := @awpD_no Try.prog Q σ r138_19 _ _ _ ⟨rfl, rfl⟩
def my138 : MC := (.seq r138_0 (.seq (.seq r138_1 (.block 0 (.seq r138_2 (.cond (.t 10) (.seq r138_3 .ret) (.seq r138_4 (.cond (.t 16) (.seq r138_5 .ret) (.seq r138_6 (.cond (.t 22) (.seq r138_7 .ret) (.seq r138_8 (.cond (.t 27) (.seq r138_9 .ret) .skip)))))))))) (.seq r138_10 (.seq r138_11 (.seq (.seq r138_12 (.block 1 (.seq r138_13 (.cond (.t 50) (.seq r138_14 .ret) (.seq r138_15 (.cond (.t 58) (.seq r138_16 .ret) (.seq r138_17 (.cond (.t 66) (.seq r138_18 .ret) .skip)))))))) (.seq r138_19 .ret))))))
theorem my138_is : trC Try.prog ⟨[1], []⟩ ⟨[(3, [[], [0], [], [2], [0, 1], [0, 1, 2, 3, 4]], [(2, 4), (3, 4)]), (5, [[], [0], [], [2], [0, 1], [0, 1, 2, 3, 4]], [(2, 4), (3, 4)]), (9, [[], [], [1], [0], [0, 1, 2, 3]], [(1, 3), (2, 3)]), (14, [[], [], [0, 1], [], [], [0, 1, 2, 3, 4], [0, 1, 2, 3, 4, 5], [0, 1, 2, 3, 4, 5, 6]], []), (16, [[], [], [0, 1], [], [], [0, 1, 2, 3, 4], [0, 1, 2, 3, 4, 5], [0, 1, 2, 3, 4, 5, 6]], []), (18, [[], [], [0, 1], [], [], [0, 1, 2, 3, 4], [0, 1, 2, 3, 4, 5], [0, 1, 2, 3, 4, 5, 6]], []), (19, [[], [], [0], [0, 1, 2]], [(1, 2)])],
  [(0, [1, 2, 3], [2, 3]), (1, [1, 2, 3, 9], [2, 3]), (2, [1, 2, 3, 9, 10], [2, 3]), (3, [2, 3], [2, 3]), (4, [1, 2, 3, 9, 16], [2, 3]), (5, [2, 3], [2, 3]), (6, [1, 2, 3, 9, 22], [2, 3]), (7, [2, 3], [2, 3]), (8, [1, 2, 3, 27], [2, 3]), (9, [2, 3], [2, 3]), (10, [1, 2, 3, 4, 5], [2, 3, 4, 5]), (11, [1, 2, 3, 4, 5, 6, 7], [2, 3, 4, 5, 6, 7]), (12, [2, 3, 4, 5, 6, 7, 49], [2, 3, 4, 5, 6, 7]), (13, [2, 3, 4, 5, 6, 7, 49, 50], [2, 3, 4, 5, 6, 7]), (14, [2, 3], [2, 3]), (15, [2, 3, 4, 5, 6, 7, 49, 58], [2, 3, 4, 5, 6, 7]), (16, [2, 3], [2, 3]), (17, [2, 3, 4, 5, 6, 7, 66], [2, 3, 4, 5, 6, 7]), (18, [2, 3], [2, 3]), (19, [2, 3], [2, 3])]⟩ 76 (Try.f138.body.getD .skip) = some my138 := by kernel_rfl
theorem does138 {args : List LV} (hl : args.length.ble 76 = true) {S S' : List (List LV)} (hS : S'.length = S.length) {o : Out} (h : Lt ⟨numE 0 args, argS 0 S, []⟩ (awp Try.prog my138 (Fin [(.c 2 (some 2)), (.c 3 (some 2))] o S'))) : Does Try.prog 138 args S o S' :=
  does_of_awp mixed Try.func138 (by kernel_rfl) (by kernel_rfl) my138_is (by kernel_rfl) (Nat.le_of_ble_eq_true hl) hS h
attribute [go_sem ↓] w138_0 w138_1 w138_2 w138_3 w138_4 w138_5 w138_6 w138_7 w138_8 w138_9 w138_10 w138_11 w138_12 w138_13 w138_14 w138_15 w138_16 w138_17 w138_18 w138_19
attribute [go_sem] my138
/-! ### 120: lychgate/lychgateref16.fail -/
def r120_0 : MC := .reg [⟨none, (.boxc 4 (.t 0))⟩, ⟨none, (.boxc 5 (.t 1))⟩, ⟨none, (.alloc 8 z8)⟩] none (some ([2, 3, 4, 5, 8], [8]))
def w120_0 := @awpR_get Try.prog Q σ r120_0 _ _ [8] ⟨rfl, rfl⟩
def r120_1 : MC := .reg [⟨none, (.load 14 (.t 4) (some 8))⟩, ⟨none, (.call (some 15) (.c (.fn 138 [])) [(.t 14)])⟩, ⟨none, (.mv 13 (.t 15))⟩, ⟨none, (.ext 16 (.t 13) 0)⟩, ⟨none, (.ext 17 (.t 13) 1)⟩, ⟨none, (.alloc 9 z2)⟩, ⟨none, (.alloc 10 z2)⟩, ⟨none, (.store (.t 9) (.t 16) 2)⟩, ⟨none, (.store (.t 10) (.t 17) 2)⟩] none (some ([2, 3, 5, 8, 9], [8, 9]))
def w120_1 := @awpR_get Try.prog Q σ r120_1 _ _ [9, 10] ⟨rfl, rfl⟩
def r120_2 : MC := .reg [⟨none, (.load 19 (.t 5) (some 8))⟩, ⟨none, (.call (some 20) (.c (.fn 138 [])) [(.t 19)])⟩, ⟨none, (.mv 18 (.t 20))⟩, ⟨none, (.ext 21 (.t 18) 0)⟩, ⟨none, (.ext 22 (.t 18) 1)⟩, ⟨none, (.alloc 11 z2)⟩, ⟨none, (.alloc 12 z2)⟩, ⟨none, (.store (.t 11) (.t 21) 2)⟩, ⟨none, (.store (.t 12) (.t 22) 2)⟩] none (some ([2, 3, 8, 9, 12], [8, 9, 12]))
def w120_2 := @awpR_get Try.prog Q σ r120_2 _ _ [11, 12] ⟨rfl, rfl⟩
def r120_3 : MC := .reg [⟨none, (.load 23 (.t 9) (some 2))⟩, ⟨none, (.load 24 (.t 12) (some 2))⟩, ⟨none, (.mv 25 (.t 2))⟩, ⟨none, (.mv 26 (.t 3))⟩, ⟨none, (.build 27 z8 [(0, (1, (.c (.imm true (.int .i8 1))))), (1, (2, (.t 23))), (3, (2, (.t 24))), (5, (1, (.t 25))), (6, (1, (.t 26)))])⟩, ⟨none, (.store (.t 8) (.t 27) 8)⟩] none (some ([8], [8]))
def w120_3 := @awpR_no Try.prog Q σ r120_3 _ _ ⟨rfl, rfl⟩
def my120 : MC := (.seq r120_0 (.seq r120_1 (.seq r120_2 (.seq r120_3 .ret))))
theorem my120_is : trC Try.prog ⟨[4, 5], []⟩ ⟨[],
  [(0, [2, 3, 4, 5, 8], [8]), (1, [2, 3, 5, 8, 9], [8, 9]), (2, [2, 3, 8, 9, 12], [8, 9, 12]), (3, [8], [8])]⟩ 28 (Try.f120.body.getD .skip) = some my120 := by kernel_rfl
theorem does120 {args : List LV} (hl : args.length.ble 28 = true) {S S' : List (List LV)} (hS : S'.length = S.length) {o : Out} (h : Lt ⟨numE 0 args, argS 0 S, []⟩ (awp Try.prog my120 (Fin [(.c 8 (some 8))] o S'))) : Does Try.prog 120 args S o S' :=
  does_of_awp mixed Try.func120 (by kernel_rfl) (by kernel_rfl) my120_is (by kernel_rfl) (Nat.le_of_ble_eq_true hl) hS h
attribute [go_sem ↓] w120_0 w120_1 w120_2 w120_3
attribute [go_sem] my120
/-! ### 91: lychgate/lychgateref16.Join -/
def r91_0 : MC := .reg [⟨none, (.boxc 2 (.t 0))⟩, ⟨none, (.boxc 3 (.t 1))⟩, ⟨none, (.alloc 4 z8)⟩] none (some ([2, 3, 4], [4]))
def w91_0 := @awpR_get Try.prog Q σ r91_0 _ _ [4] ⟨rfl, rfl⟩
def r91_1 : MC := .reg [⟨none, (.fad 7 (.t 2) 0)⟩, ⟨none, (.load 8 (.t 7) none)⟩, ⟨none, (.bin 9 .eql (.t 8) (.c (.imm true (.int .i8 0))))⟩, ⟨none, (.mv 10 (.t 9))⟩, ⟨(some (10, true)), (.fad 11 (.t 2) 1)⟩, ⟨(some (10, true)), (.fad 12 (.t 11) 0)⟩, ⟨(some (10, true)), (.load 13 (.t 12) none)⟩, ⟨(some (10, true)), (.bin 14 .eql (.t 13) (.c (.imm true (.int .i8 0))))⟩, ⟨none, (.pick 15 (.t 10) (.t 14) (.c (.imm true (.bool false))))⟩, ⟨none, (.mv 6 (.t 15))⟩] none (some ([2, 3, 4, 6], [4]))
def w91_1 := @awpR_no Try.prog Q σ r91_1 _ _ ⟨rfl, rfl⟩
def r91_2 : MC := .reg [⟨none, (.load 16 (.t 3) (some 8))⟩, ⟨none, (.store (.t 4) (.t 16) 8)⟩] none (some ([4], [4]))
def w91_2 := @awpR_no Try.prog Q σ r91_2 _ _ ⟨rfl, rfl⟩
def r91_3 : MC := .reg [⟨none, (.fad 18 (.t 2) 0)⟩, ⟨none, (.load 19 (.t 18) none)⟩, ⟨none, (.bin 20 .eql (.t 19) (.c (.imm true (.int .i8 7))))⟩, ⟨none, (.mv 21 (.t 20))⟩, ⟨(some (21, true)), (.fad 22 (.t 2) 7)⟩, ⟨(some (21, true)), (.load 23 (.t 22) none)⟩, ⟨(some (21, true)), (.iad 24 (.t 23) (.c (.imm true (.int .i64 0))) 8)⟩, ⟨(some (21, true)), (.fad 25 (.t 24) 0)⟩, ⟨(some (21, true)), (.load 26 (.t 25) none)⟩, ⟨(some (21, true)), (.bin 27 .eql (.t 26) (.c (.imm true (.int .i8 3))))⟩, ⟨none, (.pick 28 (.t 21) (.t 27) (.c (.imm true (.bool false))))⟩, ⟨none, (.mv 17 (.t 28))⟩] none (some ([2, 3, 4, 17], [4]))
def w91_3 := @awpR_no Try.prog Q σ r91_3 _ _ ⟨rfl, rfl⟩
def r91_4 : MC := .reg [⟨none, (.fad 29 (.t 2) 7)⟩, ⟨none, (.load 30 (.t 29) none)⟩, ⟨none, (.iad 31 (.t 30) (.c (.imm true (.int .i64 0))) 8)⟩, ⟨none, (.load 32 (.t 31) (some 8))⟩, ⟨none, (.fad 33 (.t 2) 7)⟩, ⟨none, (.load 34 (.t 33) none)⟩, ⟨none, (.iad 35 (.t 34) (.c (.imm true (.int .i64 1))) 8)⟩, ⟨none, (.load 36 (.t 35) (some 8))⟩, ⟨none, (.load 37 (.t 3) (some 8))⟩, ⟨none, (.call (some 38) (.c (.fn 91 [])) [(.t 36), (.t 37)])⟩, ⟨none, (.call (some 39) (.c (.fn 90 [])) [(.t 32), (.t 38)])⟩, ⟨none, (.store (.t 4) (.t 39) 8)⟩] (some []) (some ([4], [4]))
def w91_4 := @awpD_no Try.prog Q σ r91_4 _ _ _ ⟨rfl, rfl⟩
def r91_5 : MC := .reg [⟨none, (.fad 41 (.t 2) 0)⟩, ⟨none, (.load 42 (.t 41) none)⟩, ⟨none, (.bin 43 .eql (.t 42) (.c (.imm true (.int .i8 1))))⟩, ⟨none, (.mv 40 (.t 43))⟩] none (some ([2, 3, 4, 40], [4]))
def w91_5 := @awpR_no Try.prog Q σ r91_5 _ _ ⟨rfl, rfl⟩
def r91_6 : MC := .reg [⟨none, (.load 44 (.t 2) (some 8))⟩, ⟨none, (.load 45 (.t 3) (some 8))⟩, ⟨none, (.fad 46 (.t 2) 5)⟩, ⟨none, (.load 47 (.t 46) none)⟩, ⟨none, (.fad 48 (.t 2) 6)⟩, ⟨none, (.load 49 (.t 48) none)⟩, ⟨none, (.call (some 50) (.c (.fn 120 [])) [(.t 44), (.t 45), (.t 47), (.t 49)])⟩, ⟨none, (.store (.t 4) (.t 50) 8)⟩] none (some ([4], [4]))
def w91_6 := @awpR_no Try.prog Q σ r91_6 _ _ ⟨rfl, rfl⟩
def r91_7 : MC := .reg [⟨none, (.fad 52 (.t 2) 0)⟩, ⟨none, (.load 53 (.t 52) none)⟩, ⟨none, (.bin 54 .eql (.t 53) (.c (.imm true (.int .i8 7))))⟩, ⟨none, (.mv 55 (.t 54))⟩, ⟨(some (55, true)), (.fad 56 (.t 3) 0)⟩, ⟨(some (55, true)), (.load 57 (.t 56) none)⟩, ⟨(some (55, true)), (.bin 58 .eql (.t 57) (.c (.imm true (.int .i8 0))))⟩, ⟨none, (.pick 59 (.t 55) (.t 58) (.c (.imm true (.bool false))))⟩, ⟨none, (.mv 51 (.t 59))⟩] none (some ([2, 3, 4, 51], [4]))
def w91_7 := @awpR_no Try.prog Q σ r91_7 _ _ ⟨rfl, rfl⟩
def r91_8 : MC := .reg [⟨none, (.load 60 (.t 2) (some 8))⟩, ⟨none, (.store (.t 4) (.t 60) 8)⟩] none (some ([4], [4]))
def w91_8 := @awpR_no Try.prog Q σ r91_8 _ _ ⟨rfl, rfl⟩
def r91_9 : MC := .reg [⟨none, (.fad 62 (.t 2) 0)⟩, ⟨none, (.load 63 (.t 62) none)⟩, ⟨none, (.bin 64 .eql (.t 63) (.c (.imm true (.int .i8 7))))⟩, ⟨none, (.mv 61 (.t 64))⟩] none (some ([2, 3, 4, 61], [4]))
def w91_9 := @awpR_no Try.prog Q σ r91_9 _ _ ⟨rfl, rfl⟩
def r91_10 : MC := .reg [⟨none, (.fad 65 (.t 3) 7)⟩, ⟨none, (.load 66 (.t 65) none)⟩, ⟨none, (.iad 67 (.t 66) (.c (.imm true (.int .i64 0))) 8)⟩, ⟨none, (.load 68 (.t 67) (some 8))⟩, ⟨none, (.alloc 5 z8)⟩, ⟨none, (.store (.t 5) (.t 68) 8)⟩] none (some ([2, 3, 4, 5], [4, 5]))
def w91_10 := @awpR_get Try.prog Q σ r91_10 _ _ [5] ⟨rfl, rfl⟩
def r91_11 : MC := .reg [⟨none, (.fad 69 (.t 5) 1)⟩, ⟨none, (.load 70 (.t 69) (some 2))⟩, ⟨none, (.fad 71 (.t 2) 7)⟩, ⟨none, (.load 72 (.t 71) none)⟩, ⟨none, (.iad 73 (.t 72) (.c (.imm true (.int .i64 1))) 8)⟩, ⟨none, (.fad 74 (.t 73) 1)⟩, ⟨none, (.load 75 (.t 74) (some 2))⟩, ⟨none, (.call (some 76) (.c (.fn 121 [])) [(.t 70), (.t 75)])⟩] (some []) (some ([2, 3, 4, 5, 76], [4, 5]))
def w91_11 := @awpD_no Try.prog Q σ r91_11 _ _ _ ⟨rfl, rfl⟩
def r91_12 : MC := .reg [⟨none, (.fad 77 (.t 2) 7)⟩, ⟨none, (.load 78 (.t 77) none)⟩, ⟨none, (.iad 79 (.t 78) (.c (.imm true (.int .i64 0))) 8)⟩, ⟨none, (.load 80 (.t 79) (some 8))⟩, ⟨none, (.fad 81 (.t 3) 7)⟩, ⟨none, (.load 82 (.t 81) none)⟩, ⟨none, (.iad 83 (.t 82) (.c (.imm true (.int .i64 1))) 8)⟩, ⟨none, (.load 84 (.t 83) (some 8))⟩, ⟨none, (.call (some 85) (.c (.fn 91 [])) [(.t 80), (.t 84)])⟩, ⟨none, (.store (.t 4) (.t 85) 8)⟩] (some []) (some ([4], [4]))
def w91_12 := @awpD_no Try.prog Q σ r91_12 _ _ _ ⟨rfl, rfl⟩
def r91_13 : MC := .reg [⟨none, (.load 86 (.t 2) (some 8))⟩, ⟨none, (.load 87 (.t 3) (some 8))⟩, ⟨none, (.fad 88 (.t 5) 5)⟩, ⟨none, (.load 89 (.t 88) none)⟩, ⟨none, (.fad 90 (.t 5) 6)⟩, ⟨none, (.load 91 (.t 90) none)⟩, ⟨none, (.call (some 92) (.c (.fn 120 [])) [(.t 86), (.t 87), (.t 89), (.t 91)])⟩, ⟨none, (.store (.t 4) (.t 92) 8)⟩] none (some ([4], [4]))
def w91_13 := @awpR_no Try.prog Q σ r91_13 _ _ ⟨rfl, rfl⟩
def r91_14 : MC := .reg [⟨none, (.fad 94 (.t 3) 0)⟩, ⟨none, (.load 95 (.t 94) none)⟩, ⟨none, (.bin 96 .eql (.t 95) (.c (.imm true (.int .i8 1))))⟩, ⟨none, (.mv 93 (.t 96))⟩] none (some ([2, 3, 4, 93], [4]))
def w91_14 := @awpR_no Try.prog Q σ r91_14 _ _ ⟨rfl, rfl⟩
def r91_15 : MC := .reg [⟨none, (.load 97 (.t 2) (some 8))⟩, ⟨none, (.load 98 (.t 3) (some 8))⟩, ⟨none, (.fad 99 (.t 3) 5)⟩, ⟨none, (.load 100 (.t 99) none)⟩, ⟨none, (.fad 101 (.t 3) 6)⟩, ⟨none, (.load 102 (.t 101) none)⟩, ⟨none, (.call (some 103) (.c (.fn 120 [])) [(.t 97), (.t 98), (.t 100), (.t 102)])⟩, ⟨none, (.store (.t 4) (.t 103) 8)⟩] none (some ([4], [4]))
def w91_15 := @awpR_no Try.prog Q σ r91_15 _ _ ⟨rfl, rfl⟩
def r91_16 : MC := .reg [⟨none, (.fad 105 (.t 3) 0)⟩, ⟨none, (.load 106 (.t 105) none)⟩, ⟨none, (.bin 107 .eql (.t 106) (.c (.imm true (.int .i8 7))))⟩, ⟨none, (.mv 104 (.t 107))⟩] none (some ([2, 3, 4, 104], [4]))
def w91_16 := @awpR_no Try.prog Q σ r91_16 _ _ ⟨rfl, rfl⟩
def r91_17 : MC := .reg [⟨none, (.load 108 (.t 2) (some 8))⟩, ⟨none, (.fad 109 (.t 3) 7)⟩, ⟨none, (.load 110 (.t 109) none)⟩, ⟨none, (.iad 111 (.t 110) (.c (.imm true (.int .i64 0))) 8)⟩, ⟨none, (.load 112 (.t 111) (some 8))⟩, ⟨none, (.call (some 113) (.c (.fn 91 [])) [(.t 108), (.t 112)])⟩, ⟨none, (.fad 114 (.t 3) 7)⟩, ⟨none, (.load 115 (.t 114) none)⟩, ⟨none, (.iad 116 (.t 115) (.c (.imm true (.int .i64 1))) 8)⟩, ⟨none, (.load 117 (.t 116) (some 8))⟩, ⟨none, (.call (some 118) (.c (.fn 90 [])) [(.t 113), (.t 117)])⟩, ⟨none, (.store (.t 4) (.t 118) 8)⟩] (some []) (some ([4], [4]))
def w91_17 := @awpD_no Try.prog Q σ r91_17 _ _ _ ⟨rfl, rfl⟩
def r91_18 : MC := .reg [⟨none, (.fad 120 (.t 2) 0)⟩, ⟨none, (.load 121 (.t 120) none)⟩, ⟨none, (.bin 122 .eql (.t 121) (.c (.imm true (.int .i8 0))))⟩, ⟨none, (.mv 119 (.t 122))⟩] none (some ([2, 3, 4, 119], [4]))
def w91_18 := @awpR_no Try.prog Q σ r91_18 _ _ ⟨rfl, rfl⟩
def r91_19 : MC := .reg [⟨none, (.load 123 (.t 2) (some 8))⟩, ⟨none, (.store (.t 4) (.t 123) 8)⟩] none (some ([4], [4]))
def w91_19 := @awpR_no Try.prog Q σ r91_19 _ _ ⟨rfl, rfl⟩
def r91_20 : MC := .reg [⟨none, (.fad 125 (.t 2) 0)⟩, ⟨none, (.load 126 (.t 125) none)⟩, ⟨none, (.bin 127 .eql (.t 126) (.c (.imm true (.int .i8 4))))⟩, ⟨none, (.mv 124 (.t 127))⟩] none (some ([2, 3, 4, 124], [4]))
def w91_20 := @awpR_no Try.prog Q σ r91_20 _ _ ⟨rfl, rfl⟩
def r91_21 : MC := .reg [⟨none, (.fad 128 (.t 3) 7)⟩, ⟨none, (.load 129 (.t 128) none)⟩, ⟨none, (.iad 130 (.t 129) (.c (.imm true (.int .i64 0))) 8)⟩, ⟨none, (.load 131 (.t 130) (some 8))⟩, ⟨none, (.fad 132 (.t 2) 7)⟩, ⟨none, (.load 133 (.t 132) none)⟩, ⟨none, (.iad 134 (.t 133) (.c (.imm true (.int .i64 0))) 8)⟩, ⟨none, (.load 135 (.t 134) (some 8))⟩, ⟨none, (.call (some 136) (.c (.fn 91 [])) [(.t 131), (.t 135)])⟩, ⟨none, (.fad 137 (.t 2) 7)⟩, ⟨none, (.load 138 (.t 137) none)⟩, ⟨none, (.iad 139 (.t 138) (.c (.imm true (.int .i64 1))) 8)⟩, ⟨none, (.load 140 (.t 139) (some 8))⟩, ⟨none, (.fad 141 (.t 3) 7)⟩, ⟨none, (.load 142 (.t 141) none)⟩, ⟨none, (.iad 143 (.t 142) (.c (.imm true (.int .i64 1))) 8)⟩, ⟨none, (.load 144 (.t 143) (some 8))⟩, ⟨none, (.call (some 145) (.c (.fn 91 [])) [(.t 140), (.t 144)])⟩, ⟨none, (.call (some 146) (.c (.fn 92 [])) [(.c (.imm true (.int .i8 4))), (.t 136), (.t 145)])⟩, ⟨none, (.store (.t 4) (.t 146) 8)⟩] (some []) (some ([4], [4]))
def w91_21 := @awpD_no Try.prog Q σ r91_21 _ _ _ ⟨rfl, rfl⟩
def r91_22 : MC := .reg [⟨none, (.fad 147 (.t 2) 0)⟩, ⟨none, (.load 148 (.t 147) none)⟩, ⟨none, (.fad 149 (.t 2) 7)⟩, ⟨none, (.load 150 (.t 149) none)⟩, ⟨none, (.iad 151 (.t 150) (.c (.imm true (.int .i64 0))) 8)⟩, ⟨none, (.load 152 (.t 151) (some 8))⟩, ⟨none, (.fad 153 (.t 3) 7)⟩, ⟨none, (.load 154 (.t 153) none)⟩, ⟨none, (.iad 155 (.t 154) (.c (.imm true (.int .i64 0))) 8)⟩, ⟨none, (.load 156 (.t 155) (some 8))⟩, ⟨none, (.call (some 157) (.c (.fn 91 [])) [(.t 152), (.t 156)])⟩, ⟨none, (.fad 158 (.t 2) 7)⟩, ⟨none, (.load 159 (.t 158) none)⟩, ⟨none, (.iad 160 (.t 159) (.c (.imm true (.int .i64 1))) 8)⟩, ⟨none, (.load 161 (.t 160) (some 8))⟩, ⟨none, (.fad 162 (.t 3) 7)⟩, ⟨none, (.load 163 (.t 162) none)⟩, ⟨none, (.iad 164 (.t 163) (.c (.imm true (.int .i64 1))) 8)⟩, ⟨none, (.load 165 (.t 164) (some 8))⟩, ⟨none, (.call (some 166) (.c (.fn 91 [])) [(.t 161), (.t 165)])⟩, ⟨none, (.call (some 167) (.c (.fn 92 [])) [(.t 148), (.t 157), (.t 166)])⟩, ⟨none, (.store (.t 4) (.t 167) 8)⟩] (some []) (some ([4], [4]))
def w91_22 := @awpD_no Try.prog Q σ r91_22 _ _ _ ⟨rfl, rfl⟩
def my91 : MC := (.seq r91_0 (.seq (.block 0 (.seq r91_1 (.cond (.t 6) (.seq r91_2 .ret) (.seq r91_3 (.cond (.t 17) (.seq r91_4 .ret) (.seq r91_5 (.cond (.t 40) (.seq r91_6 .ret) (.seq r91_7 (.cond (.t 51) (.seq r91_8 .ret) (.seq r91_9 (.cond (.t 61) (.seq r91_10 (.seq (.seq r91_11 (.cond (.t 76) (.seq r91_12 .ret) .skip)) (.seq r91_13 .ret))) (.seq r91_14 (.cond (.t 93) (.seq r91_15 .ret) (.seq r91_16 (.cond (.t 104) (.seq r91_17 .ret) (.seq r91_18 (.cond (.t 119) (.seq r91_19 .ret) (.seq r91_20 (.cond (.t 124) (.seq r91_21 .ret) .skip))))))))))))))))))) (.seq r91_22 .ret)))
theorem my91_is : trC Try.prog ⟨[2, 3], []⟩ ⟨[(4, [[], [0], [0, 1], [0, 1, 2], [], [4], [4, 5], [4, 5, 6], [], [4, 5, 6, 7, 8], [0, 1, 2, 3, 4, 5, 6, 7, 8, 9], [0, 1, 2, 3, 4, 5, 6, 7, 8, 9, 10]], []), (11, [[], [0], [], [2], [2, 3], [2, 3, 4], [2, 3, 4, 5], [0, 1, 2, 3, 4, 5, 6]], []), (12, [[], [0], [0, 1], [0, 1, 2], [], [4], [4, 5], [4, 5, 6], [0, 1, 2, 3, 4, 5, 6, 7], [0, 1, 2, 3, 4, 5, 6, 7, 8]], []), (17, [[], [], [1], [1, 2], [1, 2, 3], [0, 1, 2, 3, 4], [], [6], [6, 7], [6, 7, 8], [0, 1, 2, 3, 4, 5, 6, 7, 8, 9], [0, 1, 2, 3, 4, 5, 6, 7, 8, 9, 10]], []), (21, [[], [0], [0, 1], [0, 1, 2], [], [4], [4, 5], [4, 5, 6], [0, 1, 2, 3, 4, 5, 6, 7], [], [9], [9, 10], [9, 10, 11], [], [13], [13, 14], [13, 14, 15], [0, 1, 2, 3, 4, 5, 6, 7, 8, 9, 10, 11, 12, 13, 14, 15, 16], [0, 1, 2, 3, 4, 5, 6, 7, 8, 9, 10, 11, 12, 13, 14, 15, 16, 17], [0, 1, 2, 3, 4, 5, 6, 7, 8, 9, 10, 11, 12, 13, 14, 15, 16, 17, 18]], []), (22, [[], [0], [], [2], [2, 3], [2, 3, 4], [], [6], [6, 7], [6, 7, 8], [2, 3, 4, 5, 6, 7, 8, 9], [], [11], [11, 12], [11, 12, 13], [], [15], [15, 16], [15, 16, 17], [2, 3, 4, 5, 6, 7, 8, 9, 10, 11, 12, 13, 14, 15, 16, 17, 18], [0, 1, 2, 3, 4, 5, 6, 7, 8, 9, 10, 11, 12, 13, 14, 15, 16, 17, 18, 19], [0, 1, 2, 3, 4, 5, 6, 7, 8, 9, 10, 11, 12, 13, 14, 15, 16, 17, 18, 19, 20]], [])],
  [(0, [2, 3, 4], [4]), (1, [2, 3, 4, 6], [4]), (2, [4], [4]), (3, [2, 3, 4, 17], [4]), (4, [4], [4]), (5, [2, 3, 4, 40], [4]), (6, [4], [4]), (7, [2, 3, 4, 51], [4]), (8, [4], [4]), (9, [2, 3, 4, 61], [4]), (10, [2, 3, 4, 5], [4, 5]), (11, [2, 3, 4, 5, 76], [4, 5]), (12, [4], [4]), (13, [4], [4]), (14, [2, 3, 4, 93], [4]), (15, [4], [4]), (16, [2, 3, 4, 104], [4]), (17, [4], [4]), (18, [2, 3, 4, 119], [4]), (19, [4], [4]), (20, [2, 3, 4, 124], [4]), (21, [4], [4]), (22, [4], [4])]⟩ 168 (Try.f91.body.getD .skip) = some my91 := by kernel_rfl
theorem does91 {args : List LV} (hl : args.length.ble 168 = true) {S S' : List (List LV)} (hS : S'.length = S.length) {o : Out} (h : Lt ⟨numE 0 args, argS 0 S, []⟩ (awp Try.prog my91 (Fin [(.c 4 (some 8))] o S'))) : Does Try.prog 91 args S o S' :=
  does_of_awp mixed Try.func91 (by kernel_rfl) (by kernel_rfl) my91_is (by kernel_rfl) (Nat.le_of_ble_eq_true hl) hS h
attribute [go_sem ↓] w91_0 w91_1 w91_2 w91_3 w91_4 w91_5 w91_6 w91_7 w91_8 w91_9 w91_10 w91_11 w91_12 w91_13 w91_14 w91_15 w91_16 w91_17 w91_18 w91_19 w91_20 w91_21 w91_22
attribute [go_sem] my91
/-! ### 58: lychgate/lychgateref16.norm -/
def r58_0 : MC := .reg [⟨none, (.boxc 1 (.t 0))⟩, ⟨none, (.alloc 2 z8)⟩] none (some ([1, 2], [2]))
def w58_0 := @awpR_get Try.prog Q σ r58_0 _ _ [2] ⟨rfl, rfl⟩
def r58_1 : MC := .reg [⟨none, (.fad 3 (.t 1) 0)⟩, ⟨none, (.load 4 (.t 3) none)⟩] none (some ([1, 2, 4], [2]))
def w58_1 := @awpR_no Try.prog Q σ r58_1 _ _ ⟨rfl, rfl⟩
def r58_2 : MC := .reg [⟨none, (.bin 6 .eql (.t 4) (.c (.imm true (.int .i8 0))))⟩, ⟨none, (.mv 5 (.t 6))⟩] none (some ([1, 2, 4, 5], [2]))
def w58_2 := @awpR_no Try.prog Q σ r58_2 _ _ ⟨rfl, rfl⟩
def r58_3 : MC := .reg [⟨none, (.fad 7 (.t 1) 1)⟩, ⟨none, (.load 8 (.t 7) (some 2))⟩, ⟨none, (.call (some 9) (.c (.fn 88 [])) [(.t 8)])⟩, ⟨none, (.store (.t 2) (.t 9) 8)⟩] none (some ([2], [2]))
def w58_3 := @awpR_no Try.prog Q σ r58_3 _ _ ⟨rfl, rfl⟩
def r58_4 : MC := .reg [⟨none, (.bin 11 .eql (.t 4) (.c (.imm true (.int .i8 1))))⟩, ⟨none, (.mv 10 (.t 11))⟩] none (some ([1, 2, 4, 10], [2]))
def w58_4 := @awpR_no Try.prog Q σ r58_4 _ _ ⟨rfl, rfl⟩
def r58_5 : MC := .reg [⟨none, (.load 12 (.t 1) (some 8))⟩, ⟨none, (.call (some 13) (.c (.fn 89 [])) [(.t 12)])⟩, ⟨none, (.store (.t 2) (.t 13) 8)⟩] none (some ([2], [2]))
def w58_5 := @awpR_no Try.prog Q σ r58_5 _ _ ⟨rfl, rfl⟩
def r58_6 : MC := .reg [⟨none, (.bin 15 .eql (.t 4) (.c (.imm true (.int .i8 2))))⟩, ⟨none, (.mv 14 (.t 15))⟩] none (some ([1, 2, 4, 14], [2]))
def w58_6 := @awpR_no Try.prog Q σ r58_6 _ _ ⟨rfl, rfl⟩
def r58_7 : MC := .reg [⟨none, (.fad 16 (.t 1) 1)⟩, ⟨none, (.load 17 (.t 16) (some 2))⟩, ⟨none, (.call (some 18) (.c (.fn 88 [])) [(.t 17)])⟩, ⟨none, (.load 19 (.t 1) (some 8))⟩, ⟨none, (.call (some 20) (.c (.fn 89 [])) [(.t 19)])⟩, ⟨none, (.call (some 21) (.c (.fn 90 [])) [(.t 18), (.t 20)])⟩, ⟨none, (.store (.t 2) (.t 21) 8)⟩] (some []) (some ([2], [2]))
def w58_7 := @awpD_no Try.prog Q σ r58_7 _ _ _ ⟨rfl, rfl⟩
def r58_8 : MC := .reg [⟨none, (.bin 23 .eql (.t 4) (.c (.imm true (.int .i8 3))))⟩, ⟨none, (.mv 22 (.t 23))⟩] none (some ([1, 2, 4, 22], [2]))
def w58_8 := @awpR_no Try.prog Q σ r58_8 _ _ ⟨rfl, rfl⟩
def r58_9 : MC := .reg [⟨none, (.load 24 (.t 1) (some 8))⟩, ⟨none, (.call (some 25) (.c (.fn 89 [])) [(.t 24)])⟩, ⟨none, (.fad 26 (.t 1) 1)⟩, ⟨none, (.load 27 (.t 26) (some 2))⟩, ⟨none, (.call (some 28) (.c (.fn 88 [])) [(.t 27)])⟩, ⟨none, (.call (some 29) (.c (.fn 90 [])) [(.t 25), (.t 28)])⟩, ⟨none, (.store (.t 2) (.t 29) 8)⟩] (some []) (some ([2], [2]))
def w58_9 := @awpD_no Try.prog Q σ r58_9 _ _ _ ⟨rfl, rfl⟩
def r58_10 : MC := .reg [⟨none, (.bin 31 .eql (.t 4) (.c (.imm true (.int .i8 7))))⟩, ⟨none, (.mv 30 (.t 31))⟩] none (some ([1, 2, 30], [2]))
def w58_10 := @awpR_no Try.prog Q σ r58_10 _ _ ⟨rfl, rfl⟩
def r58_11 : MC := .reg [⟨none, (.fad 32 (.t 1) 7)⟩, ⟨none, (.load 33 (.t 32) none)⟩, ⟨none, (.iad 34 (.t 33) (.c (.imm true (.int .i64 0))) 8)⟩, ⟨none, (.load 35 (.t 34) (some 8))⟩, ⟨none, (.call (some 36) (.c (.fn 58 [])) [(.t 35)])⟩, ⟨none, (.fad 37 (.t 1) 7)⟩, ⟨none, (.load 38 (.t 37) none)⟩, ⟨none, (.iad 39 (.t 38) (.c (.imm true (.int .i64 1))) 8)⟩, ⟨none, (.load 40 (.t 39) (some 8))⟩, ⟨none, (.call (some 41) (.c (.fn 58 [])) [(.t 40)])⟩, ⟨none, (.call (some 42) (.c (.fn 91 [])) [(.t 36), (.t 41)])⟩, ⟨none, (.store (.t 2) (.t 42) 8)⟩] (some []) (some ([2], [2]))
def w58_11 := @awpD_no Try.prog Q σ r58_11 _ _ _ ⟨rfl, rfl⟩
def r58_12 : MC := .reg [⟨none, (.fad 43 (.t 1) 0)⟩, ⟨none, (.load 44 (.t 43) none)⟩, ⟨none, (.fad 45 (.t 1) 7)⟩, ⟨none, (.load 46 (.t 45) none)⟩, ⟨none, (.iad 47 (.t 46) (.c (.imm true (.int .i64 0))) 8)⟩, ⟨none, (.load 48 (.t 47) (some 8))⟩, ⟨none, (.call (some 49) (.c (.fn 58 [])) [(.t 48)])⟩, ⟨none, (.fad 50 (.t 1) 7)⟩, ⟨none, (.load 51 (.t 50) none)⟩, ⟨none, (.iad 52 (.t 51) (.c (.imm true (.int .i64 1))) 8)⟩, ⟨none, (.load 53 (.t 52) (some 8))⟩, ⟨none, (.call (some 54) (.c (.fn 58 [])) [(.t 53)])⟩, ⟨none, (.call (some 55) (.c (.fn 92 [])) [(.t 44), (.t 49), (.t 54)])⟩, ⟨none, (.store (.t 2) (.t 55) 8)⟩] (some []) (some ([2], [2]))
def w58_12 := @awpD_no Try.prog Q σ r58_12 _ _ _ ⟨rfl, rfl⟩
def my58 : MC := (.seq r58_0 (.seq (.seq r58_1 (.block 0 (.seq r58_2 (.cond (.t 5) (.seq r58_3 .ret) (.seq r58_4 (.cond (.t 10) (.seq r58_5 .ret) (.seq r58_6 (.cond (.t 14) (.seq r58_7 .ret) (.seq r58_8 (.cond (.t 22) (.seq r58_9 .ret) (.seq r58_10 (.cond (.t 30) (.seq r58_11 .ret) .skip)))))))))))) (.seq r58_12 .ret)))
theorem my58_is : trC Try.prog ⟨[1], []⟩ ⟨[(7, [[], [0], [0, 1], [], [0, 1, 2, 3], [0, 1, 2, 3, 4], [0, 1, 2, 3, 4, 5]], []), (9, [[], [0], [], [2], [0, 1, 2, 3], [0, 1, 2, 3, 4], [0, 1, 2, 3, 4, 5]], []), (11, [[], [0], [0, 1], [0, 1, 2], [0, 1, 2, 3], [], [5], [5, 6], [5, 6, 7], [0, 1, 2, 3, 4, 5, 6, 7, 8], [0, 1, 2, 3, 4, 5, 6, 7, 8, 9], [0, 1, 2, 3, 4, 5, 6, 7, 8, 9, 10]], []), (12, [[], [0], [], [2], [2, 3], [2, 3, 4], [2, 3, 4, 5], [], [7], [7, 8], [7, 8, 9], [2, 3, 4, 5, 6, 7, 8, 9, 10], [0, 1, 2, 3, 4, 5, 6, 7, 8, 9, 10, 11], [0, 1, 2, 3, 4, 5, 6, 7, 8, 9, 10, 11, 12]], [])],
  [(0, [1, 2], [2]), (1, [1, 2, 4], [2]), (2, [1, 2, 4, 5], [2]), (3, [2], [2]), (4, [1, 2, 4, 10], [2]), (5, [2], [2]), (6, [1, 2, 4, 14], [2]), (7, [2], [2]), (8, [1, 2, 4, 22], [2]), (9, [2], [2]), (10, [1, 2, 30], [2]), (11, [2], [2]), (12, [2], [2])]⟩ 56 (Try.f58.body.getD .skip) = some my58 := by kernel_rfl
theorem does58 {args : List LV} (hl : args.length.ble 56 = true) {S S' : List (List LV)} (hS : S'.length = S.length) {o : Out} (h : Lt ⟨numE 0 args, argS 0 S, []⟩ (awp Try.prog my58 (Fin [(.c 2 (some 8))] o S'))) : Does Try.prog 58 args S o S' :=
  does_of_awp mixed Try.func58 (by kernel_rfl) (by kernel_rfl) my58_is (by kernel_rfl) (Nat.le_of_ble_eq_true hl) hS h
attribute [go_sem ↓] w58_0 w58_1 w58_2 w58_3 w58_4 w58_5 w58_6 w58_7 w58_8 w58_9 w58_10 w58_11 w58_12
attribute [go_sem] my58
/-! ### 57: lychgate/lychgateref16.asked -/
def r57_0 : MC := .reg [⟨none, (.boxc 1 (.t 0))⟩, ⟨none, (.alloc 2 z8)⟩, ⟨none, (.mv 3 (.c (.imm true (.int .i64 0))))⟩] none (some ([1, 2], [2]))
def w57_0 := @awpR_get Try.prog Q σ r57_0 _ _ [2] ⟨rfl, rfl⟩
def r57_1 : MC := .reg [⟨none, (.load 8 (.t 1) (some 8))⟩, ⟨none, (.call (some 9) (.c (.fn 56 [])) [(.t 8)])⟩, ⟨none, (.mv 7 (.t 9))⟩, ⟨none, (.ext 10 (.t 7) 0)⟩, ⟨none, (.ext 11 (.t 7) 1)⟩, ⟨none, (.ext 12 (.t 7) 2)⟩, ⟨none, (.alloc 4 z2)⟩, ⟨none, (.alloc 5 z2)⟩, ⟨none, (.store (.t 4) (.t 10) 2)⟩, ⟨none, (.store (.t 5) (.t 11) 2)⟩, ⟨none, (.mv 6 (.t 12))⟩] none (some ([1, 2, 6], [2]))
def w57_1 := @awpR_get Try.prog Q σ r57_1 _ _ [4, 5] ⟨rfl, rfl⟩
def r57_2 : MC := .reg [⟨none, (.mv 13 (.t 6))⟩, ⟨none, (.bin 14 .neq (.t 13) (.c (.imm true (.int .i64 0))))⟩] none (some ([1, 2, 6, 14], [2]))
def w57_2 := @awpR_no Try.prog Q σ r57_2 _ _ ⟨rfl, rfl⟩
def r57_3 : MC := .reg [⟨none, (.build 15 z8 [])⟩, ⟨none, (.mv 16 (.t 6))⟩, ⟨none, (.store (.t 2) (.t 15) 8)⟩, ⟨none, (.mv 3 (.t 16))⟩] none (some ([2, 3], [2]))
def w57_3 := @awpR_no Try.prog Q σ r57_3 _ _ ⟨rfl, rfl⟩
def r57_4 : MC := .reg [⟨none, (.load 17 (.t 1) (some 8))⟩, ⟨none, (.store (.t 2) (.t 17) 8)⟩, ⟨none, (.mv 3 (.c (.imm true (.int .i64 0))))⟩] none (some ([2, 3], [2]))
def w57_4 := @awpR_no Try.prog Q σ r57_4 _ _ ⟨rfl, rfl⟩
def my57 : MC := (.seq r57_0 (.seq r57_1 (.seq (.seq r57_2 (.cond (.t 14) (.seq r57_3 .ret) .skip)) (.seq r57_4 .ret))))
theorem my57_is : trC Try.prog ⟨[1], []⟩ ⟨[],
  [(0, [1, 2], [2]), (1, [1, 2, 6], [2]), (2, [1, 2, 6, 14], [2]), (3, [2, 3], [2]), (4, [2, 3], [2])]⟩ 18 (Try.f57.body.getD .skip) = some my57 := by kernel_rfl
theorem does57 {args : List LV} (hl : args.length.ble 18 = true) {S S' : List (List LV)} (hS : S'.length = S.length) {o : Out} (h : Lt ⟨numE 0 args, argS 0 S, []⟩ (awp Try.prog my57 (Fin [(.c 2 (some 8)), (.t 3)] o S'))) : Does Try.prog 57 args S o S' :=
  does_of_awp mixed Try.func57 (by kernel_rfl) (by kernel_rfl) my57_is (by kernel_rfl) (Nat.le_of_ble_eq_true hl) hS h
attribute [go_sem ↓] w57_0 w57_1 w57_2 w57_3 w57_4
attribute [go_sem] my57
/-! ### 21: lychgate/lychgateref16.Norm -/
def r21_0 : MC := .reg [⟨none, (.boxc 1 (.t 0))⟩, ⟨none, (.alloc 2 z8)⟩, ⟨none, (.mv 3 (.c (.imm true (.int .i64 0))))⟩] none (some ([1, 2], [2]))
def w21_0 := @awpR_get Try.prog Q σ r21_0 _ _ [2] ⟨rfl, rfl⟩
def r21_1 : MC := .reg [⟨none, (.load 8 (.t 1) (some 8))⟩, ⟨none, (.call (some 9) (.c (.fn 56 [])) [(.t 8)])⟩, ⟨none, (.mv 7 (.t 9))⟩, ⟨none, (.ext 10 (.t 7) 0)⟩, ⟨none, (.ext 11 (.t 7) 1)⟩, ⟨none, (.ext 12 (.t 7) 2)⟩, ⟨none, (.alloc 4 z2)⟩, ⟨none, (.alloc 5 z2)⟩, ⟨none, (.store (.t 4) (.t 10) 2)⟩, ⟨none, (.store (.t 5) (.t 11) 2)⟩, ⟨none, (.mv 6 (.t 12))⟩] none (some ([1, 2, 6], [2]))
def w21_1 := @awpR_get Try.prog Q σ r21_1 _ _ [4, 5] ⟨rfl, rfl⟩
def r21_2 : MC := .reg [⟨none, (.mv 13 (.t 6))⟩, ⟨none, (.bin 14 .neq (.t 13) (.c (.imm true (.int .i64 0))))⟩] none (some ([1, 2, 6, 14], [2]))
def w21_2 := @awpR_no Try.prog Q σ r21_2 _ _ ⟨rfl, rfl⟩
def r21_3 : MC := .reg [⟨none, (.build 15 z8 [])⟩, ⟨none, (.mv 16 (.t 6))⟩, ⟨none, (.store (.t 2) (.t 15) 8)⟩, ⟨none, (.mv 3 (.t 16))⟩] none (some ([2, 3], [2]))
def w21_3 := @awpR_no Try.prog Q σ r21_3 _ _ ⟨rfl, rfl⟩
def r21_4 : MC := .reg [⟨none, (.load 17 (.t 1) (some 8))⟩, ⟨none, (.call (some 18) (.c (.fn 58 [])) [(.t 17)])⟩, ⟨none, (.call (some 19) (.c (.fn 57 [])) [(.t 18)])⟩, ⟨none, (.ext 20 (.t 19) 0)⟩, ⟨none, (.ext 21 (.t 19) 1)⟩, ⟨none, (.store (.t 2) (.t 20) 8)⟩, ⟨none, (.mv 3 (.t 21))⟩] none (some ([2, 3], [2]))
def w21_4 := @awpR_no Try.prog Q σ r21_4 _ _ ⟨rfl, rfl⟩
def my21 : MC := (.seq r21_0 (.seq r21_1 (.seq (.seq r21_2 (.cond (.t 14) (.seq r21_3 .ret) .skip)) (.seq r21_4 .ret))))
theorem my21_is : trC Try.prog ⟨[1], []⟩ ⟨[],
  [(0, [1, 2], [2]), (1, [1, 2, 6], [2]), (2, [1, 2, 6, 14], [2]), (3, [2, 3], [2]), (4, [2, 3], [2])]⟩ 22 (Try.f21.body.getD .skip) = some my21 := by kernel_rfl
theorem does21 {args : List LV} (hl : args.length.ble 22 = true) {S S' : List (List LV)} (hS : S'.length = S.length) {o : Out} (h : Lt ⟨numE 0 args, argS 0 S, []⟩ (awp Try.prog my21 (Fin [(.c 2 (some 8)), (.t 3)] o S'))) : Does Try.prog 21 args S o S' :=
  does_of_awp mixed Try.func21 (by kernel_rfl) (by kernel_rfl) my21_is (by kernel_rfl) (Nat.le_of_ble_eq_true hl) hS h
attribute [go_sem ↓] w21_0 w21_1 w21_2 w21_3 w21_4
attribute [go_sem] my21
/-! ### 123: lychgate/lychgateref16.middle -/
def r123_0 : MC := .reg [⟨none, (.boxc 1 (.t 0))⟩, ⟨none, (.mv 2 (.c (.imm true (.bool false))))⟩] none (some ([1], []))
def w123_0 := @awpR_no Try.prog Q σ r123_0 _ _ ⟨rfl, rfl⟩
def r123_1 : MC := .reg [⟨none, (.fad 3 (.t 1) 0)⟩, ⟨none, (.load 4 (.t 3) none)⟩] none (some ([1, 4], []))
def w123_1 := @awpR_no Try.prog Q σ r123_1 _ _ ⟨rfl, rfl⟩
def r123_2 : MC := .reg [⟨none, (.bin 6 .eql (.t 4) (.c (.imm true (.int .i8 0))))⟩, ⟨none, (.mv 5 (.t 6))⟩] none (some ([1, 4, 5], []))
def w123_2 := @awpR_no Try.prog Q σ r123_2 _ _ ⟨rfl, rfl⟩
def r123_3 : MC := .reg [⟨none, (.fad 7 (.t 1) 1)⟩, ⟨none, (.fad 8 (.t 7) 0)⟩, ⟨none, (.load 9 (.t 8) none)⟩, ⟨none, (.bin 10 .eql (.t 9) (.c (.imm true (.int .i8 1))))⟩, ⟨none, (.mv 11 (.t 10))⟩, ⟨(some (11, false)), (.fad 12 (.t 1) 1)⟩, ⟨(some (11, false)), (.fad 13 (.t 12) 0)⟩, ⟨(some (11, false)), (.load 14 (.t 13) none)⟩, ⟨(some (11, false)), (.bin 15 .eql (.t 14) (.c (.imm true (.int .i8 2))))⟩, ⟨none, (.pick 16 (.t 11) (.c (.imm true (.bool true))) (.t 15))⟩, ⟨none, (.mv 2 (.t 16))⟩] none (some ([2], []))
def w123_3 := @awpR_no Try.prog Q σ r123_3 _ _ ⟨rfl, rfl⟩
def r123_4 : MC := .reg [⟨none, (.bin 18 .eql (.t 4) (.c (.imm true (.int .i8 4))))⟩, ⟨none, (.mv 17 (.t 18))⟩] none (some ([1, 4, 17], []))
def w123_4 := @awpR_no Try.prog Q σ r123_4 _ _ ⟨rfl, rfl⟩
def r123_5 : MC := .reg [⟨none, (.bin 19 .eql (.t 4) (.c (.imm true (.int .i8 5))))⟩, ⟨none, (.mv 17 (.t 19))⟩] none (some ([1, 4, 17], []))
def w123_5 := @awpR_no Try.prog Q σ r123_5 _ _ ⟨rfl, rfl⟩
def r123_6 : MC := .reg [⟨none, (.bin 20 .eql (.t 4) (.c (.imm true (.int .i8 6))))⟩, ⟨none, (.mv 17 (.t 20))⟩] none (some ([1, 17], []))
def w123_6 := @awpR_no Try.prog Q σ r123_6 _ _ ⟨rfl, rfl⟩
def r123_7 : MC := .reg [⟨none, (.fad 21 (.t 1) 7)⟩, ⟨none, (.load 22 (.t 21) none)⟩, ⟨none, (.iad 23 (.t 22) (.c (.imm true (.int .i64 0))) 8)⟩, ⟨none, (.load 24 (.t 23) (some 8))⟩, ⟨none, (.call (some 25) (.c (.fn 60 [])) [(.t 24)])⟩, ⟨none, (.mv 26 (.t 25))⟩, ⟨(some (26, true)), (.fad 27 (.t 1) 7)⟩, ⟨(some (26, true)), (.load 28 (.t 27) none)⟩, ⟨(some (26, true)), (.iad 29 (.t 28) (.c (.imm true (.int .i64 1))) 8)⟩, ⟨(some (26, true)), (.load 30 (.t 29) (some 8))⟩, ⟨(some (26, true)), (.call (some 31) (.c (.fn 60 [])) [(.t 30)])⟩, ⟨none, (.pick 32 (.t 26) (.t 31) (.c (.imm true (.bool false))))⟩, ⟨none, (.mv 2 (.t 32))⟩] none (some ([2], []))
def w123_7 := @awpR_no Try.prog Q σ r123_7 _ _ ⟨rfl, rfl⟩
def r123_8 : MC := .reg [⟨none, (.mv 2 (.c (.imm true (.bool false))))⟩] none (some ([2], []))
def w123_8 := @awpR_no Try.prog Q σ r123_8 _ _ ⟨rfl, rfl⟩
def my123 : MC := (.seq r123_0 (.seq (.seq r123_1 (.block 0 (.seq r123_2 (.cond (.t 5) (.seq r123_3 .ret) (.seq (.seq r123_4 (.cond (.t 17) .skip (.seq r123_5 (.cond (.t 17) .skip r123_6)))) (.cond (.t 17) (.seq r123_7 .ret) .skip)))))) (.seq r123_8 .ret)))
theorem my123_is : trC Try.prog ⟨[1], []⟩ ⟨[],
  [(0, [1], []), (1, [1, 4], []), (2, [1, 4, 5], []), (3, [2], []), (4, [1, 4, 17], []), (5, [1, 4, 17], []), (6, [1, 17], []), (7, [2], []), (8, [2], [])]⟩ 33 (Try.f123.body.getD .skip) = some my123 := by kernel_rfl
theorem does123 {args : List LV} (hl : args.length.ble 33 = true) {S S' : List (List LV)} (hS : S'.length = S.length) {o : Out} (h : Lt ⟨numE 0 args, argS 0 S, []⟩ (awp Try.prog my123 (Fin [(.t 2)] o S'))) : Does Try.prog 123 args S o S' :=
  does_of_awp mixed Try.func123 (by kernel_rfl) (by kernel_rfl) my123_is (by kernel_rfl) (Nat.le_of_ble_eq_true hl) hS h
attribute [go_sem ↓] w123_0 w123_1 w123_2 w123_3 w123_4 w123_5 w123_6 w123_7 w123_8
attribute [go_sem] my123
/-! ### 94: lychgate/lychgateref16.inner -/
def r94_0 : MC := .reg [⟨none, (.boxc 1 (.t 0))⟩, ⟨none, (.mv 2 (.c (.imm true (.bool false))))⟩] none (some ([1], []))
def w94_0 := @awpR_no Try.prog Q σ r94_0 _ _ ⟨rfl, rfl⟩
def r94_1 : MC := .reg [⟨none, (.fad 3 (.t 1) 0)⟩, ⟨none, (.load 4 (.t 3) none)⟩, ⟨none, (.bin 5 .eql (.t 4) (.c (.imm true (.int .i8 1))))⟩] none (some ([1, 5], []))
def w94_1 := @awpR_no Try.prog Q σ r94_1 _ _ ⟨rfl, rfl⟩
def r94_2 : MC := .reg [⟨none, (.mv 2 (.c (.imm true (.bool true))))⟩] none (some ([2], []))
def w94_2 := @awpR_no Try.prog Q σ r94_2 _ _ ⟨rfl, rfl⟩
def r94_3 : MC := .reg [⟨none, (.fad 6 (.t 1) 0)⟩, ⟨none, (.load 7 (.t 6) none)⟩, ⟨none, (.bin 8 .eql (.t 7) (.c (.imm true (.int .i8 7))))⟩] none (some ([1, 8], []))
def w94_3 := @awpR_no Try.prog Q σ r94_3 _ _ ⟨rfl, rfl⟩
def r94_4 : MC := .reg [⟨none, (.fad 9 (.t 1) 7)⟩, ⟨none, (.load 10 (.t 9) none)⟩, ⟨none, (.iad 11 (.t 10) (.c (.imm true (.int .i64 1))) 8)⟩, ⟨none, (.fad 12 (.t 11) 0)⟩, ⟨none, (.load 13 (.t 12) none)⟩, ⟨none, (.bin 14 .eql (.t 13) (.c (.imm true (.int .i8 2))))⟩, ⟨none, (.mv 15 (.t 14))⟩, ⟨(some (15, true)), (.fad 16 (.t 1) 7)⟩, ⟨(some (15, true)), (.load 17 (.t 16) none)⟩, ⟨(some (15, true)), (.iad 18 (.t 17) (.c (.imm true (.int .i64 0))) 8)⟩, ⟨(some (15, true)), (.load 19 (.t 18) (some 8))⟩, ⟨(some (15, true)), (.call (some 20) (.c (.fn 123 [])) [(.t 19)])⟩, ⟨none, (.pick 21 (.t 15) (.t 20) (.c (.imm true (.bool false))))⟩, ⟨none, (.mv 2 (.t 21))⟩] none (some ([2], []))
def w94_4 := @awpR_no Try.prog Q σ r94_4 _ _ ⟨rfl, rfl⟩
def r94_5 : MC := .reg [⟨none, (.load 22 (.t 1) (some 8))⟩, ⟨none, (.call (some 23) (.c (.fn 123 [])) [(.t 22)])⟩, ⟨none, (.mv 2 (.t 23))⟩] none (some ([2], []))
def w94_5 := @awpR_no Try.prog Q σ r94_5 _ _ ⟨rfl, rfl⟩
def my94 : MC := (.seq r94_0 (.seq (.seq r94_1 (.cond (.t 5) (.seq r94_2 .ret) .skip)) (.seq (.seq r94_3 (.cond (.t 8) (.seq r94_4 .ret) .skip)) (.seq r94_5 .ret))))
theorem my94_is : trC Try.prog ⟨[1], []⟩ ⟨[],
  [(0, [1], []), (1, [1, 5], []), (2, [2], []), (3, [1, 8], []), (4, [2], []), (5, [2], [])]⟩ 24 (Try.f94.body.getD .skip) = some my94 := by kernel_rfl
theorem does94 {args : List LV} (hl : args.length.ble 24 = true) {S S' : List (List LV)} (hS : S'.length = S.length) {o : Out} (h : Lt ⟨numE 0 args, argS 0 S, []⟩ (awp Try.prog my94 (Fin [(.t 2)] o S'))) : Does Try.prog 94 args S o S' :=
  does_of_awp mixed Try.func94 (by kernel_rfl) (by kernel_rfl) my94_is (by kernel_rfl) (Nat.le_of_ble_eq_true hl) hS h
attribute [go_sem ↓] w94_0 w94_1 w94_2 w94_3 w94_4 w94_5
attribute [go_sem] my94
/-! ### 60: lychgate/lychgateref16.whole -/
def r60_0 : MC := .reg [⟨none, (.boxc 1 (.t 0))⟩, ⟨none, (.mv 2 (.c (.imm true (.bool false))))⟩] none (some ([1], []))
def w60_0 := @awpR_no Try.prog Q σ r60_0 _ _ ⟨rfl, rfl⟩
def r60_1 : MC := .reg [⟨none, (.fad 3 (.t 1) 0)⟩, ⟨none, (.load 4 (.t 3) none)⟩, ⟨none, (.bin 5 .eql (.t 4) (.c (.imm true (.int .i8 0))))⟩, ⟨none, (.mv 6 (.t 5))⟩, ⟨(some (6, true)), (.fad 7 (.t 1) 1)⟩, ⟨(some (6, true)), (.fad 8 (.t 7) 0)⟩, ⟨(some (6, true)), (.load 9 (.t 8) none)⟩, ⟨(some (6, true)), (.bin 10 .eql (.t 9) (.c (.imm true (.int .i8 0))))⟩, ⟨none, (.pick 11 (.t 6) (.t 10) (.c (.imm true (.bool false))))⟩] none (some ([1, 11], []))
def w60_1 := @awpR_no Try.prog Q σ r60_1 _ _ ⟨rfl, rfl⟩
def r60_2 : MC := .reg [⟨none, (.mv 2 (.c (.imm true (.bool true))))⟩] none (some ([2], []))
def w60_2 := @awpR_no Try.prog Q σ r60_2 _ _ ⟨rfl, rfl⟩
def r60_3 : MC := .reg [⟨none, (.fad 12 (.t 1) 0)⟩, ⟨none, (.load 13 (.t 12) none)⟩, ⟨none, (.bin 14 .eql (.t 13) (.c (.imm true (.int .i8 7))))⟩, ⟨none, (.mv 15 (.t 14))⟩, ⟨(some (15, true)), (.fad 16 (.t 1) 7)⟩, ⟨(some (15, true)), (.load 17 (.t 16) none)⟩, ⟨(some (15, true)), (.iad 18 (.t 17) (.c (.imm true (.int .i64 0))) 8)⟩, ⟨(some (15, true)), (.fad 19 (.t 18) 0)⟩, ⟨(some (15, true)), (.load 20 (.t 19) none)⟩, ⟨(some (15, true)), (.bin 21 .eql (.t 20) (.c (.imm true (.int .i8 3))))⟩, ⟨none, (.pick 22 (.t 15) (.t 21) (.c (.imm true (.bool false))))⟩] none (some ([1, 22], []))
def w60_3 := @awpR_no Try.prog Q σ r60_3 _ _ ⟨rfl, rfl⟩
def r60_4 : MC := .reg [⟨none, (.fad 23 (.t 1) 7)⟩, ⟨none, (.load 24 (.t 23) none)⟩, ⟨none, (.iad 25 (.t 24) (.c (.imm true (.int .i64 1))) 8)⟩, ⟨none, (.load 26 (.t 25) (some 8))⟩, ⟨none, (.call (some 27) (.c (.fn 94 [])) [(.t 26)])⟩, ⟨none, (.mv 2 (.t 27))⟩] none (some ([2], []))
def w60_4 := @awpR_no Try.prog Q σ r60_4 _ _ ⟨rfl, rfl⟩
def r60_5 : MC := .reg [⟨none, (.load 28 (.t 1) (some 8))⟩, ⟨none, (.call (some 29) (.c (.fn 94 [])) [(.t 28)])⟩, ⟨none, (.mv 2 (.t 29))⟩] none (some ([2], []))
def w60_5 := @awpR_no Try.prog Q σ r60_5 _ _ ⟨rfl, rfl⟩
def my60 : MC := (.seq r60_0 (.seq (.seq r60_1 (.cond (.t 11) (.seq r60_2 .ret) .skip)) (.seq (.seq r60_3 (.cond (.t 22) (.seq r60_4 .ret) .skip)) (.seq r60_5 .ret))))
theorem my60_is : trC Try.prog ⟨[1], []⟩ ⟨[],
  [(0, [1], []), (1, [1, 11], []), (2, [2], []), (3, [1, 22], []), (4, [2], []), (5, [2], [])]⟩ 30 (Try.f60.body.getD .skip) = some my60 := by kernel_rfl
theorem does60 {args : List LV} (hl : args.length.ble 30 = true) {S S' : List (List LV)} (hS : S'.length = S.length) {o : Out} (h : Lt ⟨numE 0 args, argS 0 S, []⟩ (awp Try.prog my60 (Fin [(.t 2)] o S'))) : Does Try.prog 60 args S o S' :=
  does_of_awp mixed Try.func60 (by kernel_rfl) (by kernel_rfl) my60_is (by kernel_rfl) (Nat.le_of_ble_eq_true hl) hS h
attribute [go_sem ↓] w60_0 w60_1 w60_2 w60_3 w60_4 w60_5
attribute [go_sem] my60
/-! ### 23: lychgate/lychgateref16.Is -/
def r23_0 : MC := .reg [⟨none, (.boxc 1 (.t 0))⟩, ⟨none, (.mv 2 (.c (.imm true (.bool false))))⟩] none (some ([1], []))
def w23_0 := @awpR_no Try.prog Q σ r23_0 _ _ ⟨rfl, rfl⟩
def r23_1 : MC := .reg [⟨none, (.load 7 (.t 1) (some 8))⟩, ⟨none, (.call (some 8) (.c (.fn 56 [])) [(.t 7)])⟩, ⟨none, (.mv 6 (.t 8))⟩, ⟨none, (.ext 9 (.t 6) 0)⟩, ⟨none, (.ext 10 (.t 6) 1)⟩, ⟨none, (.ext 11 (.t 6) 2)⟩, ⟨none, (.alloc 3 z2)⟩, ⟨none, (.alloc 4 z2)⟩, ⟨none, (.store (.t 3) (.t 9) 2)⟩, ⟨none, (.store (.t 4) (.t 10) 2)⟩, ⟨none, (.mv 5 (.t 11))⟩] none (some ([1, 5], []))
def w23_1 := @awpR_get Try.prog Q σ r23_1 _ _ [3, 4] ⟨rfl, rfl⟩
def r23_2 : MC := .reg [⟨none, (.mv 12 (.t 5))⟩, ⟨none, (.bin 13 .eql (.t 12) (.c (.imm true (.int .i64 0))))⟩, ⟨none, (.mv 14 (.t 13))⟩, ⟨(some (14, true)), (.load 15 (.t 1) (some 8))⟩, ⟨(some (14, true)), (.call (some 16) (.c (.fn 60 [])) [(.t 15)])⟩, ⟨none, (.pick 17 (.t 14) (.t 16) (.c (.imm true (.bool false))))⟩, ⟨none, (.mv 2 (.t 17))⟩] none (some ([2], []))
def w23_2 := @awpR_no Try.prog Q σ r23_2 _ _ ⟨rfl, rfl⟩
def my23 : MC := (.seq r23_0 (.seq r23_1 (.seq r23_2 .ret)))
theorem my23_is : trC Try.prog ⟨[1], []⟩ ⟨[],
  [(0, [1], []), (1, [1, 5], []), (2, [2], [])]⟩ 18 (Try.f23.body.getD .skip) = some my23 := by kernel_rfl
theorem does23 {args : List LV} (hl : args.length.ble 18 = true) {S S' : List (List LV)} (hS : S'.length = S.length) {o : Out} (h : Lt ⟨numE 0 args, argS 0 S, []⟩ (awp Try.prog my23 (Fin [(.t 2)] o S'))) : Does Try.prog 23 args S o S' :=
  does_of_awp mixed Try.func23 (by kernel_rfl) (by kernel_rfl) my23_is (by kernel_rfl) (Nat.le_of_ble_eq_true hl) hS h
attribute [go_sem ↓] w23_0 w23_1 w23_2
attribute [go_sem] my23
end Go.Proofs.Ytopgmopdjiahmaa.Lg

/- The document's answer on normal forms: merging: it is the program's. Conditions: none; plain lemmas. -/
set_option linter.unusedVariables false
set_option linter.unusedSimpArgs false
set_option maxRecDepth 100000
set_option maxHeartbeats 2000000
namespace Go.Proofs.Ytopgmopdjiahmaa.Lg
open Go Go.RowKit Go.Proofs

theorem rid_does : ∀ t : Ty, t.right = true → Does Try.prog 88 [.imm false (.agg t.cells)] [] (.ret false (.agg t.idn.cn.cells)) [] := by
  refine Ty.ind fun k ts ih hr => ?_
  rcases right_shape hr with ⟨rfl, hk⟩ | ⟨a, b, rfl, hk, ha, hb⟩
  · refine does88 (by rfl) (by rfl) ?_
    (try simp (implicitDefEqProofs := false) only [go_sem, ↓reduceIte, Nat.reduceEqDiff, reduceCtorEq, Nat.reduceAdd, Nat.reduceSub, Nat.reduceLeDiff, Nat.reduceLT, Nat.reduceMul, Int.reduceToNat, Int.reduceLT, Int.reduceLE, Ty.cells, Ty.cellsL, show ((0 : Int) == 0) = true from rfl, ncast0])
    rcases hk with rfl | rfl | rfl <;> simp [Ty.idn, Ty.idnL, idnK, Nf.cn, Cn.cells, Cn.cellsL, Ty.un, Ty.k, Ty.ts, Ty.cellsL]
  · have h1 := ih a (by simp) ha
    have h2 := ih b (by simp) hb
    rw [idn_two]
    have hp := rpart_does (k + 1) a.idn.cn b.idn.cn
    simp only [Nf.cn, part_cells] at hp ⊢
    generalize a.idn.cn = c at h1 hp
    generalize b.idn.cn = d at h2 hp
    obtain ⟨k1, ty1, to1, lab1, neg1, ks1⟩ := c
    obtain ⟨k2, ty2, to2, lab2, neg2, ks2⟩ := d
    simp only [Ty.cells_eq, Cn.cells] at h1 h2 hp ⊢
    refine does88 (by rfl) (by rfl) ?_
    rcases hk with rfl | rfl | rfl
    · rw [show (3 : Int) + 1 = 4 from rfl] at hp ⊢
      (try simp (implicitDefEqProofs := false) only [go_sem, ↓reduceIte, Nat.reduceEqDiff, reduceCtorEq, Nat.reduceAdd, Nat.reduceSub, Nat.reduceLeDiff, Nat.reduceLT, Nat.reduceMul, Int.reduceToNat, Int.reduceLT, Int.reduceLE, Ty.ts_mk, Ty.k_mk, Ty.cellsL, show ((2 : Int) == 0) = false from rfl, ncast2, Ty.cells_eq, show ((3 : Int) == 4) = false from rfl, show ((3 : Int) == 5) = false from rfl])
      refine CallK_do h1 ?_
      (try simp (implicitDefEqProofs := false) only [go_sem, ↓reduceIte, Nat.reduceEqDiff, reduceCtorEq, Nat.reduceAdd, Nat.reduceSub, Nat.reduceLeDiff, Nat.reduceLT, Nat.reduceMul, Int.reduceToNat, Int.reduceLT, Int.reduceLE, Ty.ts_mk, Ty.k_mk, Ty.cellsL, Ty.cells_eq])
      refine CallK_do h2 ?_
      (try simp (implicitDefEqProofs := false) only [go_sem, ↓reduceIte, Nat.reduceEqDiff, reduceCtorEq, Nat.reduceAdd, Nat.reduceSub, Nat.reduceLeDiff, Nat.reduceLT, Nat.reduceMul, Int.reduceToNat, Int.reduceLT, Int.reduceLE])
      refine CallK_do hp ?_
      (try simp (implicitDefEqProofs := false) only [go_sem, ↓reduceIte, Nat.reduceEqDiff, reduceCtorEq, Nat.reduceAdd, Nat.reduceSub, Nat.reduceLeDiff, Nat.reduceLT, Nat.reduceMul, Int.reduceToNat, Int.reduceLT, Int.reduceLE])
    · rw [show (4 : Int) + 1 = 5 from rfl] at hp ⊢
      (try simp (implicitDefEqProofs := false) only [go_sem, ↓reduceIte, Nat.reduceEqDiff, reduceCtorEq, Nat.reduceAdd, Nat.reduceSub, Nat.reduceLeDiff, Nat.reduceLT, Nat.reduceMul, Int.reduceToNat, Int.reduceLT, Int.reduceLE, Ty.ts_mk, Ty.k_mk, Ty.cellsL, show ((2 : Int) == 0) = false from rfl, ncast2, Ty.cells_eq, show ((4 : Int) == 4) = true from rfl, show ((4 : Int) == 5) = false from rfl])
      refine CallK_do h1 ?_
      (try simp (implicitDefEqProofs := false) only [go_sem, ↓reduceIte, Nat.reduceEqDiff, reduceCtorEq, Nat.reduceAdd, Nat.reduceSub, Nat.reduceLeDiff, Nat.reduceLT, Nat.reduceMul, Int.reduceToNat, Int.reduceLT, Int.reduceLE, Ty.ts_mk, Ty.k_mk, Ty.cellsL, Ty.cells_eq])
      refine CallK_do h2 ?_
      (try simp (implicitDefEqProofs := false) only [go_sem, ↓reduceIte, Nat.reduceEqDiff, reduceCtorEq, Nat.reduceAdd, Nat.reduceSub, Nat.reduceLeDiff, Nat.reduceLT, Nat.reduceMul, Int.reduceToNat, Int.reduceLT, Int.reduceLE])
      refine CallK_do hp ?_
      (try simp (implicitDefEqProofs := false) only [go_sem, ↓reduceIte, Nat.reduceEqDiff, reduceCtorEq, Nat.reduceAdd, Nat.reduceSub, Nat.reduceLeDiff, Nat.reduceLT, Nat.reduceMul, Int.reduceToNat, Int.reduceLT, Int.reduceLE])
    · rw [show (5 : Int) + 1 = 6 from rfl] at hp ⊢
      (try simp (implicitDefEqProofs := false) only [go_sem, ↓reduceIte, Nat.reduceEqDiff, reduceCtorEq, Nat.reduceAdd, Nat.reduceSub, Nat.reduceLeDiff, Nat.reduceLT, Nat.reduceMul, Int.reduceToNat, Int.reduceLT, Int.reduceLE, Ty.ts_mk, Ty.k_mk, Ty.cellsL, show ((2 : Int) == 0) = false from rfl, ncast2, Ty.cells_eq, show ((5 : Int) == 4) = false from rfl, show ((5 : Int) == 5) = true from rfl])
      refine CallK_do h1 ?_
      (try simp (implicitDefEqProofs := false) only [go_sem, ↓reduceIte, Nat.reduceEqDiff, reduceCtorEq, Nat.reduceAdd, Nat.reduceSub, Nat.reduceLeDiff, Nat.reduceLT, Nat.reduceMul, Int.reduceToNat, Int.reduceLT, Int.reduceLE, Ty.ts_mk, Ty.k_mk, Ty.cellsL, Ty.cells_eq])
      refine CallK_do h2 ?_
      (try simp (implicitDefEqProofs := false) only [go_sem, ↓reduceIte, Nat.reduceEqDiff, reduceCtorEq, Nat.reduceAdd, Nat.reduceSub, Nat.reduceLeDiff, Nat.reduceLT, Nat.reduceMul, Int.reduceToNat, Int.reduceLT, Int.reduceLE])
      refine CallK_do hp ?_
      (try simp (implicitDefEqProofs := false) only [go_sem, ↓reduceIte, Nat.reduceEqDiff, reduceCtorEq, Nat.reduceAdd, Nat.reduceSub, Nat.reduceLeDiff, Nat.reduceLT, Nat.reduceMul, Int.reduceToNat, Int.reduceLT, Int.reduceLE])

/-! ### where a normal form goes from and to -/
def REnD (c : Cn) (e : Ty × Ty) : Prop := Does Try.prog 138 [.imm false (.agg c.cells)] [] (.ret false (.tup [.agg e.1.cells, .agg e.2.cells])) []
theorem ren_id (ty to : Ty) (lab : Int) (neg : Bool) (ks : List Cn) : REnD (.mk 0 ty to lab neg ks) (ty, ty) := by
  unfold REnD
  simp only [Ty.cells_eq]
  refine does138 (by rfl) (by rfl) ?_
  (try simp (implicitDefEqProofs := false) only [go_sem, ↓reduceIte, Nat.reduceEqDiff, reduceCtorEq, Nat.reduceAdd, Nat.reduceSub, Nat.reduceLeDiff, Nat.reduceLT, Nat.reduceMul, Int.reduceToNat, Int.reduceLT, Int.reduceLE, Cn.cells, show ((0 : Int) == 0) = true from rfl])
theorem ren_fail (ty to : Ty) (lab : Int) (neg : Bool) (ks : List Cn) : REnD (.mk 1 ty to lab neg ks) (ty, to) := by
  unfold REnD
  simp only [Ty.cells_eq]
  refine does138 (by rfl) (by rfl) ?_
  (try simp (implicitDefEqProofs := false) only [go_sem, ↓reduceIte, Nat.reduceEqDiff, reduceCtorEq, Nat.reduceAdd, Nat.reduceSub, Nat.reduceLeDiff, Nat.reduceLT, Nat.reduceMul, Int.reduceToNat, Int.reduceLT, Int.reduceLE, Cn.cells, show ((1 : Int) == 0) = false from rfl, show ((1 : Int) == 1) = true from rfl])
theorem ren_inn (ty to : Ty) (lab : Int) (neg : Bool) (ks : List Cn) : REnD (.mk 2 ty to lab neg ks) (ty, .un) := by
  unfold REnD
  simp only [Ty.cells_eq, Ty.un]
  refine does138 (by rfl) (by rfl) ?_
  (try simp (implicitDefEqProofs := false) only [go_sem, ↓reduceIte, Nat.reduceEqDiff, reduceCtorEq, Nat.reduceAdd, Nat.reduceSub, Nat.reduceLeDiff, Nat.reduceLT, Nat.reduceMul, Int.reduceToNat, Int.reduceLT, Int.reduceLE, Cn.cells, show ((2 : Int) == 0) = false from rfl, show ((2 : Int) == 1) = false from rfl, show ((2 : Int) == 2) = true from rfl, Ty.k, Ty.ts, Ty.cellsL])
theorem ren_out (ty to : Ty) (lab : Int) (neg : Bool) (ks : List Cn) : REnD (.mk 3 ty to lab neg ks) (.un, ty) := by
  unfold REnD
  simp only [Ty.cells_eq, Ty.un]
  refine does138 (by rfl) (by rfl) ?_
  (try simp (implicitDefEqProofs := false) only [go_sem, ↓reduceIte, Nat.reduceEqDiff, reduceCtorEq, Nat.reduceAdd, Nat.reduceSub, Nat.reduceLeDiff, Nat.reduceLT, Nat.reduceMul, Int.reduceToNat, Int.reduceLT, Int.reduceLE, Cn.cells, show ((3 : Int) == 0) = false from rfl, show ((3 : Int) == 1) = false from rfl, show ((3 : Int) == 2) = false from rfl, show ((3 : Int) == 3) = true from rfl, Ty.k, Ty.ts, Ty.cellsL])
theorem ren_part {k : Int} {a b : Cn} {e f : Ty × Ty} (ha : REnD a e) (hb : REnD b f) (hk : k = 4 ∨ k = 5 ∨ k = 6 ∨ k = 7) :
    REnD (part k a b) (if k = 4 then (.mk 3 [e.2, f.1], .mk 3 [e.1, f.2]) else if k = 5 then (.mk 4 [e.1, f.1], .mk 4 [e.2, f.2]) else if k = 6 then (.mk 5 [e.1, f.1], .mk 5 [e.2, f.2]) else (e.1, f.2)) := by
  obtain ⟨e1, e2⟩ := e
  obtain ⟨f1, f2⟩ := f
  have h2 := rof_does 3 e2 f1
  have h3 := rof_does 3 e1 f2
  have h4 := rof_does 4 e1 f1
  have h5 := rof_does 4 e2 f2
  have h6 := rof_does 5 e1 f1
  have h7 := rof_does 5 e2 f2
  obtain ⟨k1, ty1, to1, lab1, neg1, ks1⟩ := a
  obtain ⟨k2, ty2, to2, lab2, neg2, ks2⟩ := b
  unfold REnD at ha hb ⊢
  simp only [Ty.cells_eq, Cn.cells, Ty.k_mk, Ty.ts_mk, Ty.cellsL] at ha hb h2 h3 h4 h5 h6 h7
  have n0 : (k == 0) = false := by simp; omega
  have n1 : (k == 1) = false := by simp; omega
  have n2 : (k == 2) = false := by simp; omega
  have n3 : (k == 3) = false := by simp; omega
  refine does138 (by rfl) (by rfl) ?_
  (try simp (implicitDefEqProofs := false) only [go_sem, ↓reduceIte, Nat.reduceEqDiff, reduceCtorEq, Nat.reduceAdd, Nat.reduceSub, Nat.reduceLeDiff, Nat.reduceLT, Nat.reduceMul, Int.reduceToNat, Int.reduceLT, Int.reduceLE, part_cells, Cn.cells, n0, n1, n2, n3])
  refine CallK_do ha ?_
  (try simp (implicitDefEqProofs := false) only [go_sem, ↓reduceIte, Nat.reduceEqDiff, reduceCtorEq, Nat.reduceAdd, Nat.reduceSub, Nat.reduceLeDiff, Nat.reduceLT, Nat.reduceMul, Int.reduceToNat, Int.reduceLT, Int.reduceLE, part_cells, Cn.cells, n0, n1, n2, n3])
  refine CallK_do hb ?_
  rcases hk with rfl | rfl | rfl | rfl
  · (try simp (implicitDefEqProofs := false) only [go_sem, ↓reduceIte, Nat.reduceEqDiff, reduceCtorEq, Nat.reduceAdd, Nat.reduceSub, Nat.reduceLeDiff, Nat.reduceLT, Nat.reduceMul, Int.reduceToNat, Int.reduceLT, Int.reduceLE, show ((4 : Int) == 4) = true from rfl])
    refine CallK_do h2 ?_
    (try simp (implicitDefEqProofs := false) only [go_sem, ↓reduceIte, Nat.reduceEqDiff, reduceCtorEq, Nat.reduceAdd, Nat.reduceSub, Nat.reduceLeDiff, Nat.reduceLT, Nat.reduceMul, Int.reduceToNat, Int.reduceLT, Int.reduceLE])
    refine CallK_do h3 ?_
    (try simp (implicitDefEqProofs := false) only [go_sem, ↓reduceIte, Nat.reduceEqDiff, reduceCtorEq, Nat.reduceAdd, Nat.reduceSub, Nat.reduceLeDiff, Nat.reduceLT, Nat.reduceMul, Int.reduceToNat, Int.reduceLT, Int.reduceLE])
    simp [Ty.cells_eq, Ty.k, Ty.ts, Ty.cellsL]
  · (try simp (implicitDefEqProofs := false) only [go_sem, ↓reduceIte, Nat.reduceEqDiff, reduceCtorEq, Nat.reduceAdd, Nat.reduceSub, Nat.reduceLeDiff, Nat.reduceLT, Nat.reduceMul, Int.reduceToNat, Int.reduceLT, Int.reduceLE, show ((5 : Int) == 4) = false from rfl, show ((5 : Int) == 5) = true from rfl])
    refine CallK_do h4 ?_
    (try simp (implicitDefEqProofs := false) only [go_sem, ↓reduceIte, Nat.reduceEqDiff, reduceCtorEq, Nat.reduceAdd, Nat.reduceSub, Nat.reduceLeDiff, Nat.reduceLT, Nat.reduceMul, Int.reduceToNat, Int.reduceLT, Int.reduceLE])
    refine CallK_do h5 ?_
    (try simp (implicitDefEqProofs := false) only [go_sem, ↓reduceIte, Nat.reduceEqDiff, reduceCtorEq, Nat.reduceAdd, Nat.reduceSub, Nat.reduceLeDiff, Nat.reduceLT, Nat.reduceMul, Int.reduceToNat, Int.reduceLT, Int.reduceLE])
    simp [Ty.cells_eq, Ty.k, Ty.ts, Ty.cellsL]
  · (try simp (implicitDefEqProofs := false) only [go_sem, ↓reduceIte, Nat.reduceEqDiff, reduceCtorEq, Nat.reduceAdd, Nat.reduceSub, Nat.reduceLeDiff, Nat.reduceLT, Nat.reduceMul, Int.reduceToNat, Int.reduceLT, Int.reduceLE, show ((6 : Int) == 4) = false from rfl, show ((6 : Int) == 5) = false from rfl, show ((6 : Int) == 6) = true from rfl])
    refine CallK_do h6 ?_
    (try simp (implicitDefEqProofs := false) only [go_sem, ↓reduceIte, Nat.reduceEqDiff, reduceCtorEq, Nat.reduceAdd, Nat.reduceSub, Nat.reduceLeDiff, Nat.reduceLT, Nat.reduceMul, Int.reduceToNat, Int.reduceLT, Int.reduceLE])
    refine CallK_do h7 ?_
    (try simp (implicitDefEqProofs := false) only [go_sem, ↓reduceIte, Nat.reduceEqDiff, reduceCtorEq, Nat.reduceAdd, Nat.reduceSub, Nat.reduceLeDiff, Nat.reduceLT, Nat.reduceMul, Int.reduceToNat, Int.reduceLT, Int.reduceLE])
    simp [Ty.cells_eq, Ty.k, Ty.ts, Ty.cellsL]
  · (try simp (implicitDefEqProofs := false) only [go_sem, ↓reduceIte, Nat.reduceEqDiff, reduceCtorEq, Nat.reduceAdd, Nat.reduceSub, Nat.reduceLeDiff, Nat.reduceLT, Nat.reduceMul, Int.reduceToNat, Int.reduceLT, Int.reduceLE, show ((7 : Int) == 4) = false from rfl, show ((7 : Int) == 5) = false from rfl, show ((7 : Int) == 6) = false from rfl])
    simp [Ty.cells_eq, Ty.k, Ty.ts, Ty.cellsL]
theorem ren_does : ∀ (a : Nf) (l : Nat), a.wf l → REnD a.cn a.en
  | .un, l, h => ren_id _ _ _ _ _
  | .out g p n i, l, h => by
    simp only [Nf.wf] at h
    have := ren_part (ren_out (gty g) .un p n []) (ren_does i 1 h.2.2.2.1) (k := 7) (by omega)
    simpa [Nf.cn, Nf.en] using this
  | .fail A B p n, l, h => ren_fail _ _ _ _ _
  | .inn i g, l, h => by
    simp only [Nf.wf] at h
    have := ren_part (ren_does i 0 h.2.2.1) (ren_inn (gty g) .un 0 false []) (k := 7) (by omega)
    simpa [Nf.cn, Nf.en] using this
  | .base k, l, h => ren_id _ _ _ _ _
  | .two k a b, l, h => by
    simp only [Nf.wf] at h
    have ha := ren_does a 2 h.2.1
    have hb := ren_does b 2 h.2.2
    rcases h.1 with rfl | rfl | rfl
    · simpa [Nf.cn, Nf.en] using ren_part ha hb (k := 4) (by omega)
    · simpa [Nf.cn, Nf.en] using ren_part ha hb (k := 5) (by omega)
    · simpa [Nf.cn, Nf.en] using ren_part ha hb (k := 6) (by omega)
theorem rfail_does {a b : Cn} {e e' : Ty × Ty} (ha : REnD a e) (hb : REnD b e') (lab : Int) (neg : Bool) :
    Does Try.prog 120 [.imm false (.agg a.cells), .imm false (.agg b.cells), .imm false (.int .i64 lab), .imm false (.bool neg)] [] (.ret false (.agg (failC e.1 e'.2 lab neg).cells)) [] := by
  obtain ⟨e1, e2⟩ := e
  obtain ⟨f1, f2⟩ := e'
  obtain ⟨k1, ty1, to1, lab1, neg1, ks1⟩ := a
  obtain ⟨k2, ty2, to2, lab2, neg2, ks2⟩ := b
  unfold REnD at ha hb
  simp only [Ty.cells_eq, Cn.cells] at ha hb
  refine does120 (by rfl) (by rfl) ?_
  (try simp (implicitDefEqProofs := false) only [go_sem, ↓reduceIte, Nat.reduceEqDiff, reduceCtorEq, Nat.reduceAdd, Nat.reduceSub, Nat.reduceLeDiff, Nat.reduceLT, Nat.reduceMul, Int.reduceToNat, Int.reduceLT, Int.reduceLE, Cn.cells])
  refine CallK_do ha ?_
  (try simp (implicitDefEqProofs := false) only [go_sem, ↓reduceIte, Nat.reduceEqDiff, reduceCtorEq, Nat.reduceAdd, Nat.reduceSub, Nat.reduceLeDiff, Nat.reduceLT, Nat.reduceMul, Int.reduceToNat, Int.reduceLT, Int.reduceLE])
  refine CallK_do hb ?_
  (try simp (implicitDefEqProofs := false) only [go_sem, ↓reduceIte, Nat.reduceEqDiff, reduceCtorEq, Nat.reduceAdd, Nat.reduceSub, Nat.reduceLeDiff, Nat.reduceLT, Nat.reduceMul, Int.reduceToNat, Int.reduceLT, Int.reduceLE, failC_cells])

/-! ### merging -/
def RJD (a b c : Cn) : Prop := Does Try.prog 91 [.imm false (.agg a.cells), .imm false (.agg b.cells)] [] (.ret false (.agg c.cells)) []
theorem rj_un (b : Cn) : RJD unC b b := by
  obtain ⟨k2, ty2, to2, lab2, neg2, ks2⟩ := b
  unfold RJD
  simp only [unC_cells, Cn.cells]
  refine does91 (by rfl) (by rfl) ?_
  (try simp (implicitDefEqProofs := false) only [go_sem, ↓reduceIte, Nat.reduceEqDiff, reduceCtorEq, Nat.reduceAdd, Nat.reduceSub, Nat.reduceLeDiff, Nat.reduceLT, Nat.reduceMul, Int.reduceToNat, Int.reduceLT, Int.reduceLE, show ((0 : Int) == 0) = true from rfl])
theorem rj_out {i b c : Cn} (g : Ty) (p : Int) (n : Bool) (h : RJD i b c) : RJD (part 7 (outC g p n) i) b (part 7 (outC g p n) c) := by
  have h3 := rseq_does (outC g p n) c
  obtain ⟨k1, ty1, to1, lab1, neg1, ks1⟩ := i
  obtain ⟨k2, ty2, to2, lab2, neg2, ks2⟩ := b
  obtain ⟨k3, ty3, to3, lab3, neg3, ks3⟩ := c
  unfold RJD at h ⊢
  simp only [part_cells, outC_cells, Cn.cells] at h h3 ⊢
  refine does91 (by rfl) (by rfl) ?_
  (try simp (implicitDefEqProofs := false) only [go_sem, ↓reduceIte, Nat.reduceEqDiff, reduceCtorEq, Nat.reduceAdd, Nat.reduceSub, Nat.reduceLeDiff, Nat.reduceLT, Nat.reduceMul, Int.reduceToNat, Int.reduceLT, Int.reduceLE, show ((7 : Int) == 0) = false from rfl, show ((7 : Int) == 7) = true from rfl, show ((3 : Int) == 3) = true from rfl])
  refine CallK_do h ?_
  (try simp (implicitDefEqProofs := false) only [go_sem, ↓reduceIte, Nat.reduceEqDiff, reduceCtorEq, Nat.reduceAdd, Nat.reduceSub, Nat.reduceLeDiff, Nat.reduceLT, Nat.reduceMul, Int.reduceToNat, Int.reduceLT, Int.reduceLE])
  refine CallK_do h3 ?_
  (try simp (implicitDefEqProofs := false) only [go_sem, ↓reduceIte, Nat.reduceEqDiff, reduceCtorEq, Nat.reduceAdd, Nat.reduceSub, Nat.reduceLeDiff, Nat.reduceLT, Nat.reduceMul, Int.reduceToNat, Int.reduceLT, Int.reduceLE])
theorem rj_fail {b : Cn} {e : Ty × Ty} (A B : Ty) (p : Int) (n : Bool) (h : REnD b e) : RJD (failC A B p n) b (failC A e.2 p n) := by
  have h3 := rfail_does (ren_fail A B p n []) h p n
  have e0 : (Cn.mk 1 A B p n []).cells = (failC A B p n).cells := rfl
  rw [e0] at h3
  obtain ⟨k2, ty2, to2, lab2, neg2, ks2⟩ := b
  unfold RJD
  simp only [failC_cells, Cn.cells] at h3 ⊢
  refine does91 (by rfl) (by rfl) ?_
  (try simp (implicitDefEqProofs := false) only [go_sem, ↓reduceIte, Nat.reduceEqDiff, reduceCtorEq, Nat.reduceAdd, Nat.reduceSub, Nat.reduceLeDiff, Nat.reduceLT, Nat.reduceMul, Int.reduceToNat, Int.reduceLT, Int.reduceLE, show ((1 : Int) == 0) = false from rfl, show ((1 : Int) == 7) = false from rfl, show ((1 : Int) == 1) = true from rfl])
  refine CallK_do h3 ?_
  (try simp (implicitDefEqProofs := false) only [go_sem, ↓reduceIte, Nat.reduceEqDiff, reduceCtorEq, Nat.reduceAdd, Nat.reduceSub, Nat.reduceLeDiff, Nat.reduceLT, Nat.reduceMul, Int.reduceToNat, Int.reduceLT, Int.reduceLE])
theorem rj_inn_un (i : Cn) (g : Ty) (hi : i.kd ≠ 3) : RJD (part 7 i (inC g)) unC (part 7 i (inC g)) := by
  obtain ⟨k1, ty1, to1, lab1, neg1, ks1⟩ := i
  simp only [Cn.kd] at hi
  unfold RJD
  simp only [part_cells, inC_cells, unC_cells, Cn.cells]
  refine does91 (by rfl) (by rfl) ?_
  (try simp (implicitDefEqProofs := false) only [go_sem, ↓reduceIte, Nat.reduceEqDiff, reduceCtorEq, Nat.reduceAdd, Nat.reduceSub, Nat.reduceLeDiff, Nat.reduceLT, Nat.reduceMul, Int.reduceToNat, Int.reduceLT, Int.reduceLE, show ((7 : Int) == 0) = false from rfl, show ((7 : Int) == 7) = true from rfl, show (k1 == 3) = false from by simpa using hi, show ((7 : Int) == 1) = false from rfl, show ((0 : Int) == 0) = true from rfl])
theorem rj_inn_eq {i j c : Cn} (g : Int) (hg : okG g) (p : Int) (n : Bool) (hi : i.kd ≠ 3) (h : RJD i j c) : RJD (part 7 i (inC (gty g))) (part 7 (outC (gty g) p n) j) c := by
  have hs := requal_does (gty g) (Ty.right_fits _ (gty_right hg)) (gty_right hg) (gty g) (gty_right hg)
  rw [Ty.eqv_refl] at hs
  obtain ⟨k1, ty1, to1, lab1, neg1, ks1⟩ := i
  obtain ⟨k2, ty2, to2, lab2, neg2, ks2⟩ := j
  obtain ⟨k3, ty3, to3, lab3, neg3, ks3⟩ := c
  simp only [Cn.kd] at hi
  unfold RJD at h ⊢
  simp only [part_cells, inC_cells, outC_cells, Cn.cells, Ty.cells_eq] at h hs ⊢
  refine does91 (by rfl) (by rfl) ?_
  (try simp (implicitDefEqProofs := false) only [go_sem, ↓reduceIte, Nat.reduceEqDiff, reduceCtorEq, Nat.reduceAdd, Nat.reduceSub, Nat.reduceLeDiff, Nat.reduceLT, Nat.reduceMul, Int.reduceToNat, Int.reduceLT, Int.reduceLE, show ((7 : Int) == 0) = false from rfl, show ((7 : Int) == 7) = true from rfl, show (k1 == 3) = false from by simpa using hi, show ((7 : Int) == 1) = false from rfl])
  refine CallK_do hs ?_
  (try simp (implicitDefEqProofs := false) only [go_sem, ↓reduceIte, Nat.reduceEqDiff, reduceCtorEq, Nat.reduceAdd, Nat.reduceSub, Nat.reduceLeDiff, Nat.reduceLT, Nat.reduceMul, Int.reduceToNat, Int.reduceLT, Int.reduceLE])
  refine CallK_do h ?_
  (try simp (implicitDefEqProofs := false) only [go_sem, ↓reduceIte, Nat.reduceEqDiff, reduceCtorEq, Nat.reduceAdd, Nat.reduceSub, Nat.reduceLeDiff, Nat.reduceLT, Nat.reduceMul, Int.reduceToNat, Int.reduceLT, Int.reduceLE])
theorem rj_inn_ne {i j : Cn} {e e' : Ty × Ty} (g g' : Int) (hg : okG g) (hg' : okG g') (p : Int) (n : Bool) (hi : i.kd ≠ 3) (hne : g ≠ g') (he : REnD (part 7 i (inC (gty g))) e) (he' : REnD (part 7 (outC (gty g') p n) j) e') :
    RJD (part 7 i (inC (gty g))) (part 7 (outC (gty g') p n) j) (failC e.1 e'.2 p n) := by
  have hs := requal_does (gty g') (Ty.right_fits _ (gty_right hg')) (gty_right hg') (gty g) (gty_right hg)
  have : (gty g').eqv (gty g) = false := by
    cases hh : (gty g').eqv (gty g) with
    | false => rfl
    | true =>
      have h1 := eqv_eq _ _ (gty_right hg') (gty_right hg) hh
      have h2 : (gty g').k = (gty g).k := by rw [h1]
      rw [gty_k, gty_k] at h2
      exact absurd h2.symm hne
  rw [this] at hs
  have h7 := rfail_does he he' p n
  obtain ⟨k1, ty1, to1, lab1, neg1, ks1⟩ := i
  obtain ⟨k2, ty2, to2, lab2, neg2, ks2⟩ := j
  simp only [Cn.kd] at hi
  unfold RJD
  simp only [part_cells, inC_cells, outC_cells, failC_cells, Cn.cells, Ty.cells_eq] at h7 hs ⊢
  refine does91 (by rfl) (by rfl) ?_
  (try simp (implicitDefEqProofs := false) only [go_sem, ↓reduceIte, Nat.reduceEqDiff, reduceCtorEq, Nat.reduceAdd, Nat.reduceSub, Nat.reduceLeDiff, Nat.reduceLT, Nat.reduceMul, Int.reduceToNat, Int.reduceLT, Int.reduceLE, show ((7 : Int) == 0) = false from rfl, show ((7 : Int) == 7) = true from rfl, show (k1 == 3) = false from by simpa using hi, show ((7 : Int) == 1) = false from rfl])
  refine CallK_do hs ?_
  (try simp (implicitDefEqProofs := false) only [go_sem, ↓reduceIte, Nat.reduceEqDiff, reduceCtorEq, Nat.reduceAdd, Nat.reduceSub, Nat.reduceLeDiff, Nat.reduceLT, Nat.reduceMul, Int.reduceToNat, Int.reduceLT, Int.reduceLE])
  refine CallK_do h7 ?_
  (try simp (implicitDefEqProofs := false) only [go_sem, ↓reduceIte, Nat.reduceEqDiff, reduceCtorEq, Nat.reduceAdd, Nat.reduceSub, Nat.reduceLeDiff, Nat.reduceLT, Nat.reduceMul, Int.reduceToNat, Int.reduceLT, Int.reduceLE])
theorem isM_k {k : Int} {ty to : Ty} {lab : Int} {neg : Bool} {ks : List Cn} (h : (Cn.mk k ty to lab neg ks).isM = true) : (k = 0 ∧ ty.k ≠ 0) ∨ k = 4 ∨ k = 5 ∨ k = 6 := by
  simp only [Cn.isM, Bool.or_eq_true, Bool.and_eq_true, beq_iff_eq, bne_iff_ne, ne_eq] at h
  omega
theorem rj_mid_fail {a : Cn} {e : Ty × Ty} (A B : Ty) (p : Int) (n : Bool) (ha : a.isM = true) (he : REnD a e) : RJD a (failC A B p n) (failC e.1 B p n) := by
  have h7 := rfail_does he (ren_fail A B p n []) p n
  have e0 : (Cn.mk 1 A B p n []).cells = (failC A B p n).cells := rfl
  rw [e0] at h7
  obtain ⟨k, ty, to, lab, neg, ks⟩ := a
  have hk := isM_k ha
  unfold RJD
  simp only [failC_cells, Cn.cells] at h7 ⊢
  refine does91 (by rfl) (by rfl) ?_
  rcases hk with ⟨rfl, hz⟩ | hk
  · (try simp (implicitDefEqProofs := false) only [go_sem, ↓reduceIte, Nat.reduceEqDiff, reduceCtorEq, Nat.reduceAdd, Nat.reduceSub, Nat.reduceLeDiff, Nat.reduceLT, Nat.reduceMul, Int.reduceToNat, Int.reduceLT, Int.reduceLE, show ((0 : Int) == 0) = true from rfl, show (ty.k == 0) = false from by simpa using hz, show ((0 : Int) == 7) = false from rfl, show ((0 : Int) == 1) = false from rfl, show ((1 : Int) == 1) = true from rfl])
    refine CallK_do h7 ?_
    (try simp (implicitDefEqProofs := false) only [go_sem, ↓reduceIte, Nat.reduceEqDiff, reduceCtorEq, Nat.reduceAdd, Nat.reduceSub, Nat.reduceLeDiff, Nat.reduceLT, Nat.reduceMul, Int.reduceToNat, Int.reduceLT, Int.reduceLE])
  · (try simp (implicitDefEqProofs := false) only [go_sem, ↓reduceIte, Nat.reduceEqDiff, reduceCtorEq, Nat.reduceAdd, Nat.reduceSub, Nat.reduceLeDiff, Nat.reduceLT, Nat.reduceMul, Int.reduceToNat, Int.reduceLT, Int.reduceLE, show (k == 0) = false from by simp; omega, show (k == 7) = false from by simp; omega, show (k == 1) = false from by simp; omega, show ((1 : Int) == 1) = true from rfl])
    refine CallK_do h7 ?_
    (try simp (implicitDefEqProofs := false) only [go_sem, ↓reduceIte, Nat.reduceEqDiff, reduceCtorEq, Nat.reduceAdd, Nat.reduceSub, Nat.reduceLeDiff, Nat.reduceLT, Nat.reduceMul, Int.reduceToNat, Int.reduceLT, Int.reduceLE])
theorem rj_mid_inn {a i c : Cn} (g : Ty) (ha : a.isM = true) (h : RJD a i c) : RJD a (part 7 i (inC g)) (part 7 c (inC g)) := by
  have h5 := rseq_does c (inC g)
  obtain ⟨k, ty, to, lab, neg, ks⟩ := a
  have hk := isM_k ha
  obtain ⟨k1, ty1, to1, lab1, neg1, ks1⟩ := i
  obtain ⟨k2, ty2, to2, lab2, neg2, ks2⟩ := c
  unfold RJD at h ⊢
  simp only [part_cells, inC_cells, Cn.cells] at h h5 ⊢
  refine does91 (by rfl) (by rfl) ?_
  rcases hk with ⟨rfl, hz⟩ | hk
  · (try simp (implicitDefEqProofs := false) only [go_sem, ↓reduceIte, Nat.reduceEqDiff, reduceCtorEq, Nat.reduceAdd, Nat.reduceSub, Nat.reduceLeDiff, Nat.reduceLT, Nat.reduceMul, Int.reduceToNat, Int.reduceLT, Int.reduceLE, show ((0 : Int) == 0) = true from rfl, show (ty.k == 0) = false from by simpa using hz, show ((0 : Int) == 7) = false from rfl, show ((0 : Int) == 1) = false from rfl, show ((7 : Int) == 1) = false from rfl, show ((7 : Int) == 7) = true from rfl])
    refine CallK_do h ?_
    (try simp (implicitDefEqProofs := false) only [go_sem, ↓reduceIte, Nat.reduceEqDiff, reduceCtorEq, Nat.reduceAdd, Nat.reduceSub, Nat.reduceLeDiff, Nat.reduceLT, Nat.reduceMul, Int.reduceToNat, Int.reduceLT, Int.reduceLE])
    refine CallK_do h5 ?_
    (try simp (implicitDefEqProofs := false) only [go_sem, ↓reduceIte, Nat.reduceEqDiff, reduceCtorEq, Nat.reduceAdd, Nat.reduceSub, Nat.reduceLeDiff, Nat.reduceLT, Nat.reduceMul, Int.reduceToNat, Int.reduceLT, Int.reduceLE])
  · (try simp (implicitDefEqProofs := false) only [go_sem, ↓reduceIte, Nat.reduceEqDiff, reduceCtorEq, Nat.reduceAdd, Nat.reduceSub, Nat.reduceLeDiff, Nat.reduceLT, Nat.reduceMul, Int.reduceToNat, Int.reduceLT, Int.reduceLE, show (k == 0) = false from by simp; omega, show (k == 7) = false from by simp; omega, show (k == 1) = false from by simp; omega, show ((7 : Int) == 1) = false from rfl, show ((7 : Int) == 7) = true from rfl])
    refine CallK_do h ?_
    (try simp (implicitDefEqProofs := false) only [go_sem, ↓reduceIte, Nat.reduceEqDiff, reduceCtorEq, Nat.reduceAdd, Nat.reduceSub, Nat.reduceLeDiff, Nat.reduceLT, Nat.reduceMul, Int.reduceToNat, Int.reduceLT, Int.reduceLE])
    refine CallK_do h5 ?_
    (try simp (implicitDefEqProofs := false) only [go_sem, ↓reduceIte, Nat.reduceEqDiff, reduceCtorEq, Nat.reduceAdd, Nat.reduceSub, Nat.reduceLeDiff, Nat.reduceLT, Nat.reduceMul, Int.reduceToNat, Int.reduceLT, Int.reduceLE])
theorem rj_two {k : Int} {x y u v c d : Cn} (hk : k = 4 ∨ k = 5 ∨ k = 6) (h : if k = 4 then RJD u x c else RJD x u c) (h' : RJD y v d) : RJD (part k x y) (part k u v) (part k c d) := by
  have hp := rpart_does k c d
  obtain ⟨kx, tyx, tox, labx, negx, ksx⟩ := x
  obtain ⟨ky, tyy, toy, laby, negy, ksy⟩ := y
  obtain ⟨ku, tyu, tou, labu, negu, ksu⟩ := u
  obtain ⟨kv, tyv, tov, labv, negv, ksv⟩ := v
  obtain ⟨k1, ty1, to1, lab1, neg1, ks1⟩ := c
  obtain ⟨k2, ty2, to2, lab2, neg2, ks2⟩ := d
  unfold RJD at h h' ⊢
  simp only [part_cells, Cn.cells] at h h' hp ⊢
  have n0 : (k == 0) = false := by simp; omega
  have n1 : (k == 1) = false := by simp; omega
  have n7 : (k == 7) = false := by simp; omega
  refine does91 (by rfl) (by rfl) ?_
  by_cases h4 : k = 4
  · rw [if_pos h4] at h
    subst h4
    (try simp (implicitDefEqProofs := false) only [go_sem, ↓reduceIte, Nat.reduceEqDiff, reduceCtorEq, Nat.reduceAdd, Nat.reduceSub, Nat.reduceLeDiff, Nat.reduceLT, Nat.reduceMul, Int.reduceToNat, Int.reduceLT, Int.reduceLE, n0, n1, n7, show ((4 : Int) == 4) = true from rfl])
    refine CallK_do h ?_
    (try simp (implicitDefEqProofs := false) only [go_sem, ↓reduceIte, Nat.reduceEqDiff, reduceCtorEq, Nat.reduceAdd, Nat.reduceSub, Nat.reduceLeDiff, Nat.reduceLT, Nat.reduceMul, Int.reduceToNat, Int.reduceLT, Int.reduceLE])
    refine CallK_do h' ?_
    (try simp (implicitDefEqProofs := false) only [go_sem, ↓reduceIte, Nat.reduceEqDiff, reduceCtorEq, Nat.reduceAdd, Nat.reduceSub, Nat.reduceLeDiff, Nat.reduceLT, Nat.reduceMul, Int.reduceToNat, Int.reduceLT, Int.reduceLE])
    refine CallK_do hp ?_
    (try simp (implicitDefEqProofs := false) only [go_sem, ↓reduceIte, Nat.reduceEqDiff, reduceCtorEq, Nat.reduceAdd, Nat.reduceSub, Nat.reduceLeDiff, Nat.reduceLT, Nat.reduceMul, Int.reduceToNat, Int.reduceLT, Int.reduceLE])
  · rw [if_neg h4] at h
    (try simp (implicitDefEqProofs := false) only [go_sem, ↓reduceIte, Nat.reduceEqDiff, reduceCtorEq, Nat.reduceAdd, Nat.reduceSub, Nat.reduceLeDiff, Nat.reduceLT, Nat.reduceMul, Int.reduceToNat, Int.reduceLT, Int.reduceLE, n0, n1, n7, show (k == 4) = false from by simpa using h4])
    refine CallK_do h ?_
    (try simp (implicitDefEqProofs := false) only [go_sem, ↓reduceIte, Nat.reduceEqDiff, reduceCtorEq, Nat.reduceAdd, Nat.reduceSub, Nat.reduceLeDiff, Nat.reduceLT, Nat.reduceMul, Int.reduceToNat, Int.reduceLT, Int.reduceLE])
    refine CallK_do h' ?_
    (try simp (implicitDefEqProofs := false) only [go_sem, ↓reduceIte, Nat.reduceEqDiff, reduceCtorEq, Nat.reduceAdd, Nat.reduceSub, Nat.reduceLeDiff, Nat.reduceLT, Nat.reduceMul, Int.reduceToNat, Int.reduceLT, Int.reduceLE])
    refine CallK_do hp ?_
    (try simp (implicitDefEqProofs := false) only [go_sem, ↓reduceIte, Nat.reduceEqDiff, reduceCtorEq, Nat.reduceAdd, Nat.reduceSub, Nat.reduceLeDiff, Nat.reduceLT, Nat.reduceMul, Int.reduceToNat, Int.reduceLT, Int.reduceLE])
theorem rj_base {k k' : Int} (hk : k ≠ 0) (hk' : k' ≠ 0) : RJD (.mk 0 (.mk k []) .un 0 false []) (.mk 0 (.mk k' []) .un 0 false []) (.mk 0 (.mk k []) .un 0 false []) := by
  unfold RJD
  simp only [Cn.cells, Ty.k_mk, Ty.ts_mk]
  refine does91 (by rfl) (by rfl) ?_
  (try simp (implicitDefEqProofs := false) only [go_sem, ↓reduceIte, Nat.reduceEqDiff, reduceCtorEq, Nat.reduceAdd, Nat.reduceSub, Nat.reduceLeDiff, Nat.reduceLT, Nat.reduceMul, Int.reduceToNat, Int.reduceLT, Int.reduceLE, show ((0 : Int) == 0) = true from rfl, show (k == 0) = false from by simpa using hk, show ((0 : Int) == 7) = false from rfl, show ((0 : Int) == 1) = false from rfl])
theorem rjoin_does : ∀ (N : Nat) (a b : Nf), a.sz + b.sz ≤ N → a.wf 2 → b.wf 2 → a.en.2 = b.en.1 → RJD a.cn b.cn (join a b).cn := by
  intro N
  induction N with
  | zero => intro a b hN; have := a.sz_pos; omega
  | succ N ih =>
    intro a b hN ha hb he
    have mid : a.mid = true → RJD a.cn b.cn (join a b).cn := by
      intro hm
      have hM := mid_isM ha hm
      rcases Nf.meets ha hb hm he with ⟨A, B, p, n, rfl⟩ | ⟨i, g, rfl⟩ | ⟨k, rfl, rfl⟩ | ⟨k, x, y, u, v, rfl, rfl⟩
      · rw [join_mid_fail hm]
        exact rj_mid_fail A B p n hM (ren_does a 2 ha)
      · rw [join_mid_inn hm]
        simp only [Nf.wf] at hb
        exact rj_mid_inn (gty g) hM (ih a i (by simp only [Nf.sz] at hN; omega) ha (Nf.wf_up hb.2.2.1 (by omega) (by omega)) he)
      · rw [join_base]
        simp only [Nf.wf] at ha
        exact rj_base (by omega) (by omega)
      · simp only [Nf.wf] at ha hb
        have hN2 : x.sz + y.sz + u.sz + v.sz + 2 ≤ N + 1 := by simp only [Nf.sz] at hN; omega
        by_cases h3 : k = 3
        · subst h3
          rw [join_fn]
          simp only [Nf.en_fn, Ty.mk.injEq, List.cons.injEq, and_true, true_and] at he
          exact rj_two (k := 4) (by omega) (by rw [if_pos rfl]; exact ih u x (by omega) hb.2.1 ha.2.1 he.1.symm) (ih y v (by omega) ha.2.2 hb.2.2 he.2)
        · rw [join_two h3]
          simp only [Nf.en_two h3, Ty.mk.injEq, List.cons.injEq, and_true, true_and] at he
          exact rj_two (k := k + 1) (by omega) (by rw [if_neg (by omega)]; exact ih x u (by omega) ha.2.1 hb.2.1 he.1) (ih y v (by omega) ha.2.2 hb.2.2 he.2)
    cases a with
    | un => rw [join_un]; exact rj_un b.cn
    | out g p n i =>
      simp only [Nf.wf] at ha
      rw [join_out]
      exact rj_out (gty g) p n (ih i b (by simp only [Nf.sz] at hN; omega) (Nf.wf_up ha.2.2.2.1 (by omega) (by omega)) hb he)
    | fail A B p n => rw [join_fail]; exact rj_fail A B p n (ren_does b 2 hb)
    | inn i g =>
      have ha' := ha
      simp only [Nf.wf] at ha
      have hi : i.cn.kd ≠ 3 := (isM_spec (mid_isM ha.2.2.1 (Nf.wf0 ha.2.2.1))).2.2.2
      rcases Nf.out_k hb (by rw [← he]; rfl) with rfl | ⟨h, p, n, j, rfl⟩
      · rw [join_inn_un]; exact rj_inn_un i.cn (gty g) hi
      · have hb' := hb
        simp only [Nf.wf] at hb
        by_cases hgh : g = h
        · subst hgh
          rw [join_inn_eq]
          exact rj_inn_eq g ha.2.1 p n hi (ih i j (by simp only [Nf.sz] at hN; omega) (Nf.wf_up ha.2.2.1 (by omega) (by omega)) (Nf.wf_up hb.2.2.2.1 (by omega) (by omega)) (by rw [ha.2.2.2, hb.2.2.2.2]))
        · rw [join_inn_ne _ _ _ _ _ _ hgh]
          exact rj_inn_ne (e := (Nf.inn i g).en) (e' := (Nf.out h p n j).en) g h ha.2.1 hb.2.1 p n hi hgh (ren_does _ 2 ha') (ren_does _ 2 hb')
    | base k => exact mid rfl
    | two k x y => exact mid rfl
end Go.Proofs.Ytopgmopdjiahmaa.Lg

/- The document's answer on normal forms: the normal form, casts: it is the program's; NormCast: the walk. Conditions: none; plain lemmas. -/
set_option linter.unusedVariables false
set_option linter.unusedSimpArgs false
set_option maxRecDepth 100000
set_option maxHeartbeats 2000000
namespace Go.Proofs.Ytopgmopdjiahmaa.Lg
open Go Go.RowKit Go.Proofs

def BareD (c : Cn) : Prop := Does Try.prog 89 [.imm false (.agg c.cells)] [] (.ret false (.agg c.clean.cells)) []
theorem bare_tail {k : Int} {ty to : Ty} {lab : Int} {neg : Bool} {ks : List Cn} {a1 a3 a5 : Int} {a6 : Bool} {f1 f3 f5 f6 : Bool} {v2 v4 : LV} {s2 s4 : List (List IV)} (h2 : (v2 = .nils ∧ s2 = []) ∨ v2 = .imm false (.slice s2)) (h4 : (v4 = .nils ∧ s4 = []) ∨ v4 = .imm false (.slice s4))
    (hk : ks = [] ∨ ∃ a b, ks = [a, b] ∧ BareD a ∧ BareD b) :
    awp Try.prog (.seq (.seq r89_9 (.block 0 (.loop l89_0))) (.seq r89_13 .ret)) (Fin [MR.c 2 (some 8)] (.ret false (.agg [.int .i8 k, .int .i8 a1, .slice s2, .int .i8 a3, .slice s4, .int .i64 a5, .bool a6, .slice (Cn.cellsL (Cn.cleanL ks))])) [])
      ⟨[(1, .imm false (.ptr (Cn.mk k ty to lab neg ks).cells 0)), (2, .loc (.own 2) 0), (3, .loc (.own 3) 0)], [(.own 2, zero8), (.own 3, .var [.imm false (.int .i8 k), .imm f1 (.int .i8 a1), v2, .imm f3 (.int .i8 a3), v4, .imm f5 (.int .i64 a5), .imm f6 (.bool a6), .nils])], []⟩ := by
  let B3 : LV → Box := fun v => .var [.imm false (.int .i8 k), .imm f1 (.int .i8 a1), v2, .imm f3 (.int .i8 a3), v4, .imm f5 (.int .i64 a5), .imm f6 (.bool a6), v]
  rcases hk with rfl | ⟨a, b, rfl, ha, hb⟩
  · (try simp (implicitDefEqProofs := false) only [go_sem, ↓reduceIte, Nat.reduceEqDiff, reduceCtorEq, Nat.reduceAdd, Nat.reduceSub, Nat.reduceLeDiff, Nat.reduceLT, Nat.reduceMul, Int.reduceToNat, Int.reduceLT, Int.reduceLE, zero8])
    refine ⟨fun n σ => n = 0 ∧ σ = ⟨[(1, .imm false (.ptr (Cn.mk k ty to lab neg []).cells 0)), (2, .loc (.own 2) 0), (3, .loc (.own 3) 0), (4, .imm true (.int .i64 0))], [(.own 2, zero8), (.own 3, B3 .nils)], []⟩, ⟨_, rfl, by simp only [zero8, B3]⟩, ?_⟩
    rintro n σ ⟨rfl, rfl⟩
    unfold l89_0
    rcases h2 with ⟨rfl, rfl⟩ | rfl <;> rcases h4 with ⟨rfl, rfl⟩ | rfl
    all_goals (try simp (implicitDefEqProofs := false) only [go_sem, ↓reduceIte, Nat.reduceEqDiff, reduceCtorEq, Nat.reduceAdd, Nat.reduceSub, Nat.reduceLeDiff, Nat.reduceLT, Nat.reduceMul, Int.reduceToNat, Int.reduceLT, Int.reduceLE, zero8, B3, Cn.cells, Cn.cleanL, Cn.cellsL, ncast0, show decide ((0 : Int) < 0) = false from rfl])
  · unfold BareD at ha hb
    simp only [Cn.cleanL]
    generalize a.clean = a' at ha
    generalize b.clean = b' at hb
    obtain ⟨k1, ty1, to1, lab1, neg1, ks1⟩ := a'
    obtain ⟨k2, ty2, to2, lab2, neg2, ks2⟩ := b'
    obtain ⟨k3, ty3, to3, lab3, neg3, ks3⟩ := a
    obtain ⟨k4, ty4, to4, lab4, neg4, ks4⟩ := b
    simp only [Cn.cells, Cn.cellsL] at ha hb ⊢
    (try simp (implicitDefEqProofs := false) only [go_sem, ↓reduceIte, Nat.reduceEqDiff, reduceCtorEq, Nat.reduceAdd, Nat.reduceSub, Nat.reduceLeDiff, Nat.reduceLT, Nat.reduceMul, Int.reduceToNat, Int.reduceLT, Int.reduceLE, zero8])
    let S : Int → LV → List (Key × Box) → St := fun j v r => ⟨[(1, .imm false (.ptr (Cn.mk k ty to lab neg [.mk k3 ty3 to3 lab3 neg3 ks3, .mk k4 ty4 to4 lab4 neg4 ks4]).cells 0)), (2, .loc (.own 2) 0), (3, .loc (.own 3) 0), (4, .imm true (.int .i64 j))], (.own 2, zero8) :: (.own 3, B3 v) :: r, []⟩
    refine ⟨fun n σ => (n = 2 ∧ σ = S 0 .nils []) ∨ (n = 1 ∧ σ = S 1 (.row (.own 65) 1) [(.own 65, .row 28 8 [(Cn.mk k1 ty1 to1 lab1 neg1 ks1).cells.map (.imm false)])]) ∨
      (n = 0 ∧ σ = S 2 (.row (.own 65) 2) [(.own 65, .row 28 8 [(Cn.mk k1 ty1 to1 lab1 neg1 ks1).cells.map (.imm false), (Cn.mk k2 ty2 to2 lab2 neg2 ks2).cells.map (.imm false)])]), ⟨_, .inl ⟨rfl, by simp only [S, zero8, B3, Cn.cells, Cn.cellsL]⟩⟩, ?_⟩
    rintro n σ (⟨rfl, rfl⟩ | ⟨rfl, rfl⟩ | ⟨rfl, rfl⟩)
    · unfold l89_0
      rcases h2 with ⟨rfl, rfl⟩ | rfl <;> rcases h4 with ⟨rfl, rfl⟩ | rfl
      all_goals
        (try simp (implicitDefEqProofs := false) only [go_sem, ↓reduceIte, Nat.reduceEqDiff, reduceCtorEq, Nat.reduceAdd, Nat.reduceSub, Nat.reduceLeDiff, Nat.reduceLT, Nat.reduceMul, Int.reduceToNat, Int.reduceLT, Int.reduceLE, S, zero8, B3, Cn.cells, Cn.cellsL, ncast2, show decide ((0 : Int) < 2) = true from rfl])
        refine CallK_do ha ?_
        (try simp (implicitDefEqProofs := false) only [go_sem, ↓reduceIte, Nat.reduceEqDiff, reduceCtorEq, Nat.reduceAdd, Nat.reduceSub, Nat.reduceLeDiff, Nat.reduceLT, Nat.reduceMul, Int.reduceToNat, Int.reduceLT, Int.reduceLE, wrap01])
        exact ⟨1, by omega, by simp⟩
    · unfold l89_0
      rcases h2 with ⟨rfl, rfl⟩ | rfl <;> rcases h4 with ⟨rfl, rfl⟩ | rfl
      all_goals
        (try simp (implicitDefEqProofs := false) only [go_sem, ↓reduceIte, Nat.reduceEqDiff, reduceCtorEq, Nat.reduceAdd, Nat.reduceSub, Nat.reduceLeDiff, Nat.reduceLT, Nat.reduceMul, Int.reduceToNat, Int.reduceLT, Int.reduceLE, S, zero8, B3, Cn.cells, Cn.cellsL, ncast2, show decide ((1 : Int) < 2) = true from rfl])
        refine CallK_do hb ?_
        (try simp (implicitDefEqProofs := false) only [go_sem, ↓reduceIte, Nat.reduceEqDiff, reduceCtorEq, Nat.reduceAdd, Nat.reduceSub, Nat.reduceLeDiff, Nat.reduceLT, Nat.reduceMul, Int.reduceToNat, Int.reduceLT, Int.reduceLE, wrap12])
        exact ⟨0, by omega, by simp⟩
    · unfold l89_0
      rcases h2 with ⟨rfl, rfl⟩ | rfl <;> rcases h4 with ⟨rfl, rfl⟩ | rfl
      all_goals (try simp (implicitDefEqProofs := false) only [go_sem, ↓reduceIte, Nat.reduceEqDiff, reduceCtorEq, Nat.reduceAdd, Nat.reduceSub, Nat.reduceLeDiff, Nat.reduceLT, Nat.reduceMul, Int.reduceToNat, Int.reduceLT, Int.reduceLE, S, zero8, B3, Cn.cells, Cn.cellsL, ncast2, show decide ((2 : Int) < 2) = false from rfl])
theorem bare_does : ∀ c : Cn, c.ends.2.2 = true → BareD c := by
  refine Cn.ind fun k ty to lab neg ks ih he => ?_
  have hk : ks = [] ∨ ∃ a b, ks = [a, b] ∧ BareD a ∧ BareD b := by
    rcases ends_shape he with ⟨rfl, _, _⟩ | ⟨a, b, rfl, _, ha, hb⟩
    · exact .inl rfl
    · exact .inr ⟨a, b, rfl, ih a (by simp) ha, ih b (by simp) hb⟩
  unfold BareD
  by_cases k1 : k = 1
  · subst k1
    have := bare_tail (k := 1) (ty := ty) (to := to) (lab := lab) (neg := neg) (ks := ks) (a1 := ty.k) (a3 := to.k) (a5 := lab) (a6 := neg) (f1 := false) (f3 := false) (f5 := false) (f6 := false) (.inr rfl) (.inr rfl) hk (s2 := Ty.cellsL ty.ts) (s4 := Ty.cellsL to.ts)
    simp only [Cn.clean, Cn.cells, if_true]
    (try simp (implicitDefEqProofs := false) only [go_sem, ↓reduceIte, Nat.reduceEqDiff, reduceCtorEq, Nat.reduceAdd, Nat.reduceSub, Nat.reduceLeDiff, Nat.reduceLT, Nat.reduceMul, Int.reduceToNat, Int.reduceLT, Int.reduceLE, Cn.cells, zero8] at this)
    refine does89 (by rfl) (by rfl) ?_
    (try simp (implicitDefEqProofs := false) only [go_sem, ↓reduceIte, Nat.reduceEqDiff, reduceCtorEq, Nat.reduceAdd, Nat.reduceSub, Nat.reduceLeDiff, Nat.reduceLT, Nat.reduceMul, Int.reduceToNat, Int.reduceLT, Int.reduceLE, show ((1 : Int) == 0) = false from rfl, show ((1 : Int) == 1) = true from rfl])
    exact this
  by_cases k3 : k = 3
  · subst k3
    have := bare_tail (k := 3) (ty := ty) (to := to) (lab := lab) (neg := neg) (ks := ks) (a1 := ty.k) (a3 := 0) (a5 := lab) (a6 := neg) (f1 := false) (f3 := true) (f5 := false) (f6 := false) (.inr rfl) (.inl ⟨rfl, rfl⟩) hk (s2 := Ty.cellsL ty.ts) (s4 := [])
    simp only [Cn.clean, Cn.cells, if_true, if_neg k1, Ty.un, Ty.k_mk, Ty.ts_mk, Ty.cellsL]
    (try simp (implicitDefEqProofs := false) only [go_sem, ↓reduceIte, Nat.reduceEqDiff, reduceCtorEq, Nat.reduceAdd, Nat.reduceSub, Nat.reduceLeDiff, Nat.reduceLT, Nat.reduceMul, Int.reduceToNat, Int.reduceLT, Int.reduceLE, Cn.cells, zero8] at this)
    refine does89 (by rfl) (by rfl) ?_
    (try simp (implicitDefEqProofs := false) only [go_sem, ↓reduceIte, Nat.reduceEqDiff, reduceCtorEq, Nat.reduceAdd, Nat.reduceSub, Nat.reduceLeDiff, Nat.reduceLT, Nat.reduceMul, Int.reduceToNat, Int.reduceLT, Int.reduceLE, show ((3 : Int) == 0) = false from rfl, show ((3 : Int) == 1) = false from rfl, show ((3 : Int) == 2) = false from rfl, show ((3 : Int) == 3) = true from rfl])
    exact this
  by_cases k0 : k = 0
  · subst k0
    have := bare_tail (k := 0) (ty := ty) (to := to) (lab := lab) (neg := neg) (ks := ks) (a1 := ty.k) (a3 := 0) (a5 := 0) (a6 := false) (f1 := false) (f3 := true) (f5 := true) (f6 := true) (.inr rfl) (.inl ⟨rfl, rfl⟩) hk (s2 := Ty.cellsL ty.ts) (s4 := [])
    simp only [Cn.clean, Cn.cells, if_true, if_neg k1, if_neg k3, true_or, Ty.un, Ty.k_mk, Ty.ts_mk, Ty.cellsL]
    (try simp (implicitDefEqProofs := false) only [go_sem, ↓reduceIte, Nat.reduceEqDiff, reduceCtorEq, Nat.reduceAdd, Nat.reduceSub, Nat.reduceLeDiff, Nat.reduceLT, Nat.reduceMul, Int.reduceToNat, Int.reduceLT, Int.reduceLE, Cn.cells, zero8] at this)
    refine does89 (by rfl) (by rfl) ?_
    (try simp (implicitDefEqProofs := false) only [go_sem, ↓reduceIte, Nat.reduceEqDiff, reduceCtorEq, Nat.reduceAdd, Nat.reduceSub, Nat.reduceLeDiff, Nat.reduceLT, Nat.reduceMul, Int.reduceToNat, Int.reduceLT, Int.reduceLE, show ((0 : Int) == 1) = false from rfl, show ((0 : Int) == 3) = false from rfl, show ((0 : Int) == 0) = true from rfl])
    exact this
  by_cases k2 : k = 2
  · subst k2
    have := bare_tail (k := 2) (ty := ty) (to := to) (lab := lab) (neg := neg) (ks := ks) (a1 := ty.k) (a3 := 0) (a5 := 0) (a6 := false) (f1 := false) (f3 := true) (f5 := true) (f6 := true) (.inr rfl) (.inl ⟨rfl, rfl⟩) hk (s2 := Ty.cellsL ty.ts) (s4 := [])
    simp only [Cn.clean, Cn.cells, if_true, if_neg k1, if_neg k3, or_true, Ty.un, Ty.k_mk, Ty.ts_mk, Ty.cellsL]
    (try simp (implicitDefEqProofs := false) only [go_sem, ↓reduceIte, Nat.reduceEqDiff, reduceCtorEq, Nat.reduceAdd, Nat.reduceSub, Nat.reduceLeDiff, Nat.reduceLT, Nat.reduceMul, Int.reduceToNat, Int.reduceLT, Int.reduceLE, Cn.cells, zero8] at this)
    refine does89 (by rfl) (by rfl) ?_
    (try simp (implicitDefEqProofs := false) only [go_sem, ↓reduceIte, Nat.reduceEqDiff, reduceCtorEq, Nat.reduceAdd, Nat.reduceSub, Nat.reduceLeDiff, Nat.reduceLT, Nat.reduceMul, Int.reduceToNat, Int.reduceLT, Int.reduceLE, show ((2 : Int) == 1) = false from rfl, show ((2 : Int) == 3) = false from rfl, show ((2 : Int) == 0) = false from rfl, show ((2 : Int) == 2) = true from rfl])
    exact this
  · have := bare_tail (k := k) (ty := ty) (to := to) (lab := lab) (neg := neg) (ks := ks) (a1 := 0) (a3 := 0) (a5 := 0) (a6 := false) (f1 := true) (f3 := true) (f5 := true) (f6 := true) (.inl ⟨rfl, rfl⟩) (.inl ⟨rfl, rfl⟩) hk (s2 := []) (s4 := [])
    have k02 : ¬ (k = 0 ∨ k = 2) := by omega
    simp only [Cn.clean, Cn.cells, if_neg k1, if_neg k3, if_neg k02, Ty.un, Ty.k_mk, Ty.ts_mk, Ty.cellsL]
    (try simp (implicitDefEqProofs := false) only [go_sem, ↓reduceIte, Nat.reduceEqDiff, reduceCtorEq, Nat.reduceAdd, Nat.reduceSub, Nat.reduceLeDiff, Nat.reduceLT, Nat.reduceMul, Int.reduceToNat, Int.reduceLT, Int.reduceLE, Cn.cells, zero8] at this)
    refine does89 (by rfl) (by rfl) ?_
    (try simp (implicitDefEqProofs := false) only [go_sem, ↓reduceIte, Nat.reduceEqDiff, reduceCtorEq, Nat.reduceAdd, Nat.reduceSub, Nat.reduceLeDiff, Nat.reduceLT, Nat.reduceMul, Int.reduceToNat, Int.reduceLT, Int.reduceLE, show (k == 1) = false from by simpa using k1, show (k == 3) = false from by simpa using k3, show (k == 0) = false from by simpa using k0, show (k == 2) = false from by simpa using k2])
    exact this

def RNormD (c : Cn) : Prop := Does Try.prog 58 [.imm false (.agg c.cells)] [] (.ret false (.agg c.nf.cn.cells)) []
theorem rnorm_does : ∀ c : Cn, c.ends.2.2 = true → RNormD c := by
  refine Cn.ind fun k ty to lab neg ks ih he => ?_
  have hbare := bare_does _ he
  unfold RNormD
  unfold BareD at hbare
  rcases ends_shape he with ⟨rfl, hk, _⟩ | ⟨a, b, rfl, hk, ha, hb⟩
  · obtain ⟨hc, e0, e1, e2, e3⟩ := ends_leaf hk he
    have hr := (check_iff.1 hc).2.2
    have hid := rid_does ty hr
    rcases hk with rfl | rfl | rfl | rfl
    · have e : (Cn.mk 0 ty to lab neg []).nf = ty.idn := by simp [Cn.nf, nfK]
      rw [e]
      generalize ty.idn.cn = d at hid
      obtain ⟨k2, ty2, to2, lab2, neg2, ks2⟩ := d
      simp only [Ty.cells_eq, Cn.cells] at hid ⊢
      refine does58 (by rfl) (by rfl) ?_
      (try simp (implicitDefEqProofs := false) only [go_sem, ↓reduceIte, Nat.reduceEqDiff, reduceCtorEq, Nat.reduceAdd, Nat.reduceSub, Nat.reduceLeDiff, Nat.reduceLT, Nat.reduceMul, Int.reduceToNat, Int.reduceLT, Int.reduceLE, show ((0 : Int) == 0) = true from rfl])
      refine CallK_do hid ?_
      (try simp (implicitDefEqProofs := false) only [go_sem, ↓reduceIte, Nat.reduceEqDiff, reduceCtorEq, Nat.reduceAdd, Nat.reduceSub, Nat.reduceLeDiff, Nat.reduceLT, Nat.reduceMul, Int.reduceToNat, Int.reduceLT, Int.reduceLE])
    · have e : (Cn.mk 1 ty to lab neg []).nf = .fail ty to lab neg := by simp [Cn.nf, nfK]
      rw [e]
      simp only [Cn.clean, Cn.cleanL, if_true, Nf.cn, Cn.cells] at hbare ⊢
      refine does58 (by rfl) (by rfl) ?_
      (try simp (implicitDefEqProofs := false) only [go_sem, ↓reduceIte, Nat.reduceEqDiff, reduceCtorEq, Nat.reduceAdd, Nat.reduceSub, Nat.reduceLeDiff, Nat.reduceLT, Nat.reduceMul, Int.reduceToNat, Int.reduceLT, Int.reduceLE, show ((1 : Int) == 0) = false from rfl, show ((1 : Int) == 1) = true from rfl])
      refine CallK_do hbare ?_
      (try simp (implicitDefEqProofs := false) only [go_sem, ↓reduceIte, Nat.reduceEqDiff, reduceCtorEq, Nat.reduceAdd, Nat.reduceSub, Nat.reduceLeDiff, Nat.reduceLT, Nat.reduceMul, Int.reduceToNat, Int.reduceLT, Int.reduceLE])
    · have e : (Cn.mk 2 ty to lab neg []).nf = .inn ty.idn ty.k := by simp [Cn.nf, nfK]
      rw [e]
      obtain ⟨_, hg⟩ := e2 rfl
      obtain ⟨g1, g2⟩ := isG_gty hg
      have hs := rseq_does ty.idn.cn (.mk 2 ty .un 0 false [])
      have hcl : (Cn.mk 2 ty to lab neg []).clean = .mk 2 ty .un 0 false [] := by simp [Cn.clean, Cn.cleanL]
      rw [hcl] at hbare
      simp only [Nf.cn, part_cells, ← g2] at hs ⊢
      generalize ty.idn.cn = d at hid hs
      obtain ⟨k2, ty2, to2, lab2, neg2, ks2⟩ := d
      simp only [Ty.cells_eq, Cn.cells] at hid hbare hs ⊢
      refine does58 (by rfl) (by rfl) ?_
      (try simp (implicitDefEqProofs := false) only [go_sem, ↓reduceIte, Nat.reduceEqDiff, reduceCtorEq, Nat.reduceAdd, Nat.reduceSub, Nat.reduceLeDiff, Nat.reduceLT, Nat.reduceMul, Int.reduceToNat, Int.reduceLT, Int.reduceLE, show ((2 : Int) == 0) = false from rfl, show ((2 : Int) == 1) = false from rfl, show ((2 : Int) == 2) = true from rfl])
      refine CallK_do hid ?_
      (try simp (implicitDefEqProofs := false) only [go_sem, ↓reduceIte, Nat.reduceEqDiff, reduceCtorEq, Nat.reduceAdd, Nat.reduceSub, Nat.reduceLeDiff, Nat.reduceLT, Nat.reduceMul, Int.reduceToNat, Int.reduceLT, Int.reduceLE])
      refine CallK_do hbare ?_
      (try simp (implicitDefEqProofs := false) only [go_sem, ↓reduceIte, Nat.reduceEqDiff, reduceCtorEq, Nat.reduceAdd, Nat.reduceSub, Nat.reduceLeDiff, Nat.reduceLT, Nat.reduceMul, Int.reduceToNat, Int.reduceLT, Int.reduceLE])
      refine CallK_do hs ?_
      (try simp (implicitDefEqProofs := false) only [go_sem, ↓reduceIte, Nat.reduceEqDiff, reduceCtorEq, Nat.reduceAdd, Nat.reduceSub, Nat.reduceLeDiff, Nat.reduceLT, Nat.reduceMul, Int.reduceToNat, Int.reduceLT, Int.reduceLE])
    · have e : (Cn.mk 3 ty to lab neg []).nf = .out ty.k lab neg ty.idn := by simp [Cn.nf, nfK]
      rw [e]
      obtain ⟨_, hg, _⟩ := e3 rfl
      obtain ⟨g1, g2⟩ := isG_gty hg
      have hs := rseq_does (.mk 3 ty .un lab neg []) ty.idn.cn
      have hcl : (Cn.mk 3 ty to lab neg []).clean = .mk 3 ty .un lab neg [] := by simp [Cn.clean, Cn.cleanL]
      rw [hcl] at hbare
      simp only [Nf.cn, part_cells, ← g2] at hs ⊢
      generalize ty.idn.cn = d at hid hs
      obtain ⟨k2, ty2, to2, lab2, neg2, ks2⟩ := d
      simp only [Ty.cells_eq, Cn.cells] at hid hbare hs ⊢
      refine does58 (by rfl) (by rfl) ?_
      (try simp (implicitDefEqProofs := false) only [go_sem, ↓reduceIte, Nat.reduceEqDiff, reduceCtorEq, Nat.reduceAdd, Nat.reduceSub, Nat.reduceLeDiff, Nat.reduceLT, Nat.reduceMul, Int.reduceToNat, Int.reduceLT, Int.reduceLE, show ((3 : Int) == 0) = false from rfl, show ((3 : Int) == 1) = false from rfl, show ((3 : Int) == 2) = false from rfl, show ((3 : Int) == 3) = true from rfl])
      refine CallK_do hbare ?_
      (try simp (implicitDefEqProofs := false) only [go_sem, ↓reduceIte, Nat.reduceEqDiff, reduceCtorEq, Nat.reduceAdd, Nat.reduceSub, Nat.reduceLeDiff, Nat.reduceLT, Nat.reduceMul, Int.reduceToNat, Int.reduceLT, Int.reduceLE])
      refine CallK_do hid ?_
      (try simp (implicitDefEqProofs := false) only [go_sem, ↓reduceIte, Nat.reduceEqDiff, reduceCtorEq, Nat.reduceAdd, Nat.reduceSub, Nat.reduceLeDiff, Nat.reduceLT, Nat.reduceMul, Int.reduceToNat, Int.reduceLT, Int.reduceLE])
      refine CallK_do hs ?_
      (try simp (implicitDefEqProofs := false) only [go_sem, ↓reduceIte, Nat.reduceEqDiff, reduceCtorEq, Nat.reduceAdd, Nat.reduceSub, Nat.reduceLeDiff, Nat.reduceLT, Nat.reduceMul, Int.reduceToNat, Int.reduceLT, Int.reduceLE])
  · have h1 := ih a (by simp) ha
    have h2 := ih b (by simp) hb
    have a1 := nf_wf a ha
    have b1 := nf_wf b hb
    obtain ⟨_, _, e4, e56, e7⟩ := ends_two hk he
    unfold RNormD at h1 h2
    by_cases k7 : k = 7
    · subst k7
      obtain ⟨e, _, hmeet⟩ := e7 rfl
      have ht := rjoin_does _ a.nf b.nf (Nat.le_refl _) a1.1 b1.1 (by rw [a1.2, b1.2]; exact hmeet)
      unfold RJD at ht
      rw [nf_seq]
      generalize (join a.nf b.nf).cn = r at ht
      generalize a.nf.cn = c at h1 ht
      generalize b.nf.cn = d at h2 ht
      obtain ⟨k1, ty1, to1, lab1, neg1, ks1⟩ := c
      obtain ⟨k2, ty2, to2, lab2, neg2, ks2⟩ := d
      obtain ⟨k3, ty3, to3, lab3, neg3, ks3⟩ := a
      obtain ⟨k4, ty4, to4, lab4, neg4, ks4⟩ := b
      obtain ⟨k5, ty5, to5, lab5, neg5, ks5⟩ := r
      simp only [Cn.cells, Cn.cellsL] at h1 h2 ht ⊢
      refine does58 (by rfl) (by rfl) ?_
      (try simp (implicitDefEqProofs := false) only [go_sem, ↓reduceIte, Nat.reduceEqDiff, reduceCtorEq, Nat.reduceAdd, Nat.reduceSub, Nat.reduceLeDiff, Nat.reduceLT, Nat.reduceMul, Int.reduceToNat, Int.reduceLT, Int.reduceLE, show ((7 : Int) == 0) = false from rfl, show ((7 : Int) == 1) = false from rfl, show ((7 : Int) == 2) = false from rfl, show ((7 : Int) == 3) = false from rfl, show ((7 : Int) == 7) = true from rfl])
      refine CallK_do h1 ?_
      (try simp (implicitDefEqProofs := false) only [go_sem, ↓reduceIte, Nat.reduceEqDiff, reduceCtorEq, Nat.reduceAdd, Nat.reduceSub, Nat.reduceLeDiff, Nat.reduceLT, Nat.reduceMul, Int.reduceToNat, Int.reduceLT, Int.reduceLE])
      refine CallK_do h2 ?_
      (try simp (implicitDefEqProofs := false) only [go_sem, ↓reduceIte, Nat.reduceEqDiff, reduceCtorEq, Nat.reduceAdd, Nat.reduceSub, Nat.reduceLeDiff, Nat.reduceLT, Nat.reduceMul, Int.reduceToNat, Int.reduceLT, Int.reduceLE])
      refine CallK_do ht ?_
      (try simp (implicitDefEqProofs := false) only [go_sem, ↓reduceIte, Nat.reduceEqDiff, reduceCtorEq, Nat.reduceAdd, Nat.reduceSub, Nat.reduceLeDiff, Nat.reduceLT, Nat.reduceMul, Int.reduceToNat, Int.reduceLT, Int.reduceLE])
    · rw [nf_two (by omega)]
      have hp := rpart_does k a.nf.cn b.nf.cn
      simp only [Nf.cn, part_cells] at hp ⊢
      rw [show k - 1 + 1 = k by omega]
      generalize a.nf.cn = c at h1 hp
      generalize b.nf.cn = d at h2 hp
      obtain ⟨k1, ty1, to1, lab1, neg1, ks1⟩ := c
      obtain ⟨k2, ty2, to2, lab2, neg2, ks2⟩ := d
      obtain ⟨k3, ty3, to3, lab3, neg3, ks3⟩ := a
      obtain ⟨k4, ty4, to4, lab4, neg4, ks4⟩ := b
      simp only [Cn.cells, Cn.cellsL] at h1 h2 hp ⊢
      refine does58 (by rfl) (by rfl) ?_
      (try simp (implicitDefEqProofs := false) only [go_sem, ↓reduceIte, Nat.reduceEqDiff, reduceCtorEq, Nat.reduceAdd, Nat.reduceSub, Nat.reduceLeDiff, Nat.reduceLT, Nat.reduceMul, Int.reduceToNat, Int.reduceLT, Int.reduceLE, show (k == 0) = false from by simp; omega, show (k == 1) = false from by simp; omega, show (k == 2) = false from by simp; omega, show (k == 3) = false from by simp; omega, show (k == 7) = false from by simpa using k7])
      refine CallK_do h1 ?_
      (try simp (implicitDefEqProofs := false) only [go_sem, ↓reduceIte, Nat.reduceEqDiff, reduceCtorEq, Nat.reduceAdd, Nat.reduceSub, Nat.reduceLeDiff, Nat.reduceLT, Nat.reduceMul, Int.reduceToNat, Int.reduceLT, Int.reduceLE])
      refine CallK_do h2 ?_
      (try simp (implicitDefEqProofs := false) only [go_sem, ↓reduceIte, Nat.reduceEqDiff, reduceCtorEq, Nat.reduceAdd, Nat.reduceSub, Nat.reduceLeDiff, Nat.reduceLT, Nat.reduceMul, Int.reduceToNat, Int.reduceLT, Int.reduceLE])
      refine CallK_do hp ?_
      (try simp (implicitDefEqProofs := false) only [go_sem, ↓reduceIte, Nat.reduceEqDiff, reduceCtorEq, Nat.reduceAdd, Nat.reduceSub, Nat.reduceLeDiff, Nat.reduceLT, Nat.reduceMul, Int.reduceToNat, Int.reduceLT, Int.reduceLE])
theorem rasked_does (a : Nf) (h : a.wf 2) : Does Try.prog 57 [.imm false (.agg a.cn.cells)] [] (.ret false (coV (tolN a))) [] := by
  have h1 := rcchk_does a.cn (cn_fits h)
  unfold chV at h1
  unfold tolN coV
  generalize a.cn.chk = e at h1
  generalize a.cn = c at h1
  obtain ⟨e1, e2, e3⟩ := e
  obtain ⟨k, ty, to, lab, neg, ks⟩ := c
  simp only [Ty.cells_eq, Cn.cells] at h1
  refine does57 (by rfl) (by rfl) ?_
  (try simp (implicitDefEqProofs := false) only [go_sem, ↓reduceIte, Nat.reduceEqDiff, reduceCtorEq, Nat.reduceAdd, Nat.reduceSub, Nat.reduceLeDiff, Nat.reduceLT, Nat.reduceMul, Int.reduceToNat, Int.reduceLT, Int.reduceLE, Cn.cells])
  refine CallK_do h1 ?_
  by_cases hz : e3 = 0
  · (try simp (implicitDefEqProofs := false) only [go_sem, ↓reduceIte, Nat.reduceEqDiff, reduceCtorEq, Nat.reduceAdd, Nat.reduceSub, Nat.reduceLeDiff, Nat.reduceLT, Nat.reduceMul, Int.reduceToNat, Int.reduceLT, Int.reduceLE, hz, show ((0 : Int) != 0) = false from rfl])
    simp [Cn.cells]
  · (try simp (implicitDefEqProofs := false) only [go_sem, ↓reduceIte, Nat.reduceEqDiff, reduceCtorEq, Nat.reduceAdd, Nat.reduceSub, Nat.reduceLeDiff, Nat.reduceLT, Nat.reduceMul, Int.reduceToNat, Int.reduceLT, Int.reduceLE, show (e3 != 0) = true from by simpa using hz])
    simp [hz, zero_cells]
theorem rnormA_does (c : Cn) (hf : c.fits) : Does Try.prog 21 [.imm false (.agg c.cells)] [] (.ret false (coV (normA c))) [] := by
  have h1 := rcchk_does c hf
  have h2 : c.chk.2.2 = 0 → RNormD c ∧ Does Try.prog 57 [.imm false (.agg c.nf.cn.cells)] [] (.ret false (coV (tolN c.nf))) [] := fun h => by
    have he := (ok_iff h).2.2.1
    exact ⟨rnorm_does c he, rasked_does c.nf (nf_wf c he).1⟩
  unfold chV at h1
  unfold RNormD at h2
  unfold normA coV at *
  generalize c.chk = e at h1 h2
  generalize tolN c.nf = r at h2
  generalize c.nf.cn = n at h2
  obtain ⟨r1, r2⟩ := r
  obtain ⟨e1, e2, e3⟩ := e
  obtain ⟨k, ty, to, lab, neg, ks⟩ := c
  obtain ⟨k2, ty2, to2, lab2, neg2, ks2⟩ := n
  obtain ⟨k3, ty3, to3, lab3, neg3, ks3⟩ := r1
  simp only [Ty.cells_eq, Cn.cells] at h1
  refine does21 (by rfl) (by rfl) ?_
  (try simp (implicitDefEqProofs := false) only [go_sem, ↓reduceIte, Nat.reduceEqDiff, reduceCtorEq, Nat.reduceAdd, Nat.reduceSub, Nat.reduceLeDiff, Nat.reduceLT, Nat.reduceMul, Int.reduceToNat, Int.reduceLT, Int.reduceLE, Cn.cells])
  refine CallK_do h1 ?_
  by_cases hz : e3 = 0
  · obtain ⟨h3, h4⟩ := h2 hz
    simp only [Cn.cells] at h3 h4
    (try simp (implicitDefEqProofs := false) only [go_sem, ↓reduceIte, Nat.reduceEqDiff, reduceCtorEq, Nat.reduceAdd, Nat.reduceSub, Nat.reduceLeDiff, Nat.reduceLT, Nat.reduceMul, Int.reduceToNat, Int.reduceLT, Int.reduceLE, hz, show ((0 : Int) != 0) = false from rfl])
    refine CallK_do h3 ?_
    (try simp (implicitDefEqProofs := false) only [go_sem, ↓reduceIte, Nat.reduceEqDiff, reduceCtorEq, Nat.reduceAdd, Nat.reduceSub, Nat.reduceLeDiff, Nat.reduceLT, Nat.reduceMul, Int.reduceToNat, Int.reduceLT, Int.reduceLE])
    refine CallK_do h4 ?_
    (try simp (implicitDefEqProofs := false) only [go_sem, ↓reduceIte, Nat.reduceEqDiff, reduceCtorEq, Nat.reduceAdd, Nat.reduceSub, Nat.reduceLeDiff, Nat.reduceLT, Nat.reduceMul, Int.reduceToNat, Int.reduceLT, Int.reduceLE])
    simp [Cn.cells]
  · (try simp (implicitDefEqProofs := false) only [go_sem, ↓reduceIte, Nat.reduceEqDiff, reduceCtorEq, Nat.reduceAdd, Nat.reduceSub, Nat.reduceLeDiff, Nat.reduceLT, Nat.reduceMul, Int.reduceToNat, Int.reduceLT, Int.reduceLE, show (e3 != 0) = true from by simpa using hz])
    simp [hz, zero_cells]
theorem CastA.det {a b : Ty} {lab : Int} {r s : Cn × Int} (h : CastA a b lab r) (h' : CastA a b lab s) : r = s := by
  cases h with
  | mk c e hA => cases h' with
    | mk d f hB => obtain ⟨rfl, rfl⟩ := hA.det hB; rfl
theorem CastA.fits {a b : Ty} {lab : Int} {r : Cn × Int} (h : CastA a b lab r) : r.1.fits := by
  cases h with
  | mk c e hA =>
    split
    · rename_i he
      obtain ⟨h1, h2, h3, h4, h5, h6⟩ := hA.good he
      rw [normA, if_pos h6]
      have w := (nf_wf c (ok_iff h6).2.2.1).1
      rcases tolN_cases w with ⟨ht, _⟩ | ⟨ht | ht, _⟩
      · rw [ht]; exact cn_fits w
      · rw [ht]; exact leaf_fits un_fits un_fits (by omega)
      · rw [ht]; exact leaf_fits un_fits un_fits (by omega)
    · exact leaf_fits un_fits un_fits (by omega)

end Go.Proofs.Ytopgmopdjiahmaa.Lg
