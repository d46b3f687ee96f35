/- Texts of one proof, joined by program (gen/tells.py): Ma Na Nb Nc. Conditions: none; plain definitions and lemmas. -/
import Derived.Test.YtopgmopdjiahmaaH3
import Derived.Test.YtopgmopdjiahmaaProg
import Derived.Tactics
import Derived.Tactics2
import Derived.Defers
import Derived.Recover
import Derived.Laws.Pointers
/- MADE BY PROGRAM (gen/mk.py): the code of functions, as the logic sees it. Conditions: none; plain definitions and lemmas. -/
set_option linter.unusedVariables false
set_option linter.defProp false
set_option maxRecDepth 100000
namespace Go.Proofs.Ytopgmopdjiahmaa.Lg
open Go Go.RowKit Go.Proofs
variable {Q : AEx → St → Prop} {σ : St}

theorem mixed : Try.prog.follows .mixedOrders = true := by kernel_rfl

/-! ### 66: lychgate/types.parts -/
def r66_0 : MC := .reg [⟨none, (.mv 2 (.c (.imm true (.int .i64 0))))⟩] none (some ([0], []))
def w66_0 := @awpR_no Try.prog Q σ r66_0 _ _ ⟨rfl, rfl⟩
def r66_1 : MC := .reg [⟨none, (.mv 3 (.t 0))⟩] none (some ([3], []))
def w66_1 := @awpR_no Try.prog Q σ r66_1 _ _ ⟨rfl, rfl⟩
def r66_2 : MC := .reg [⟨none, (.bin 5 .eql (.t 3) (.c (.imm true (.int .i8 0))))⟩, ⟨none, (.mv 4 (.t 5))⟩] none (some ([3, 4], []))
def w66_2 := @awpR_no Try.prog Q σ r66_2 _ _ ⟨rfl, rfl⟩
def r66_3 : MC := .reg [⟨none, (.bin 6 .eql (.t 3) (.c (.imm true (.int .i8 1))))⟩, ⟨none, (.mv 4 (.t 6))⟩] none (some ([3, 4], []))
def w66_3 := @awpR_no Try.prog Q σ r66_3 _ _ ⟨rfl, rfl⟩
def r66_4 : MC := .reg [⟨none, (.bin 7 .eql (.t 3) (.c (.imm true (.int .i8 2))))⟩, ⟨none, (.mv 4 (.t 7))⟩] none (some ([3, 4], []))
def w66_4 := @awpR_no Try.prog Q σ r66_4 _ _ ⟨rfl, rfl⟩
def r66_5 : MC := .reg [⟨none, (.mv 2 (.c (.imm true (.int .i64 0))))⟩] none (some ([2], []))
def w66_5 := @awpR_no Try.prog Q σ r66_5 _ _ ⟨rfl, rfl⟩
def r66_6 : MC := .reg [⟨none, (.bin 9 .eql (.t 3) (.c (.imm true (.int .i8 3))))⟩, ⟨none, (.mv 8 (.t 9))⟩] none (some ([3, 8], []))
def w66_6 := @awpR_no Try.prog Q σ r66_6 _ _ ⟨rfl, rfl⟩
def r66_7 : MC := .reg [⟨none, (.bin 10 .eql (.t 3) (.c (.imm true (.int .i8 4))))⟩, ⟨none, (.mv 8 (.t 10))⟩] none (some ([3, 8], []))
def w66_7 := @awpR_no Try.prog Q σ r66_7 _ _ ⟨rfl, rfl⟩
def r66_8 : MC := .reg [⟨none, (.bin 11 .eql (.t 3) (.c (.imm true (.int .i8 5))))⟩, ⟨none, (.mv 8 (.t 11))⟩] none (some ([8], []))
def w66_8 := @awpR_no Try.prog Q σ r66_8 _ _ ⟨rfl, rfl⟩
def r66_9 : MC := .reg [⟨none, (.mv 2 (.c (.imm true (.int .i64 2))))⟩] none (some ([2], []))
def w66_9 := @awpR_no Try.prog Q σ r66_9 _ _ ⟨rfl, rfl⟩
def r66_10 : MC := .reg [⟨none, (.mv 2 (.c (.imm true (.int .i64 (-1)))))⟩] none (some ([2], []))
def w66_10 := @awpR_no Try.prog Q σ r66_10 _ _ ⟨rfl, rfl⟩
def my66 : MC := (.seq r66_0 (.seq (.seq r66_1 (.block 0 (.seq (.seq r66_2 (.cond (.t 4) .skip (.seq r66_3 (.cond (.t 4) .skip r66_4)))) (.cond (.t 4) (.seq r66_5 .ret) (.seq (.seq r66_6 (.cond (.t 8) .skip (.seq r66_7 (.cond (.t 8) .skip r66_8)))) (.cond (.t 8) (.seq r66_9 .ret) .skip)))))) (.seq r66_10 .ret)))
theorem my66_is : trC Try.prog ⟨[], []⟩ ⟨[],
  [(0, [0], []), (1, [3], []), (2, [3, 4], []), (3, [3, 4], []), (4, [3, 4], []), (5, [2], []), (6, [3, 8], []), (7, [3, 8], []), (8, [8], []), (9, [2], []), (10, [2], [])]⟩ 12 (Try.f66.body.getD .skip) = some my66 := by kernel_rfl
theorem does66 {args : List LV} (hl : args.length.ble 12 = true) {S S' : List (List LV)} (hS : S'.length = S.length) {o : Out} (h : Lt ⟨numE 0 args, argS 0 S, []⟩ (awp Try.prog my66 (Fin [(.t 2)] o S'))) : Does Try.prog 66 args S o S' :=
  does_of_awp mixed Try.func66 (by kernel_rfl) (by kernel_rfl) my66_is (by kernel_rfl) (Nat.le_of_ble_eq_true hl) hS h
attribute [go_sem ↓] w66_0 w66_1 w66_2 w66_3 w66_4 w66_5 w66_6 w66_7 w66_8 w66_9 w66_10
attribute [go_sem] my66
/-! ### 37: lychgate/types.Check -/
def r37_0 : MC := .reg [⟨none, (.boxc 1 (.t 0))⟩, ⟨none, (.mv 2 (.c (.imm true (.int .i64 0))))⟩] none (some ([1], []))
def w37_0 := @awpR_no Try.prog Q σ r37_0 _ _ ⟨rfl, rfl⟩
def r37_1 : MC := .reg [⟨none, (.load 4 (.t 1) (some 2))⟩, ⟨none, (.call (some 5) (.c (.fn 38 [])) [(.t 4)])⟩, ⟨none, (.bin 6 .gtr (.t 5) (.c (.imm true (.int .i64 8192))))⟩, ⟨none, (.mv 3 (.t 6))⟩] none (some ([1, 3], []))
def w37_1 := @awpR_no Try.prog Q σ r37_1 _ _ ⟨rfl, rfl⟩
def r37_2 : MC := .reg [⟨none, (.mv 2 (.c (.imm true (.int .i64 32))))⟩] none (some ([2], []))
def w37_2 := @awpR_no Try.prog Q σ r37_2 _ _ ⟨rfl, rfl⟩
def r37_3 : MC := .reg [⟨none, (.load 8 (.t 1) (some 2))⟩, ⟨none, (.call (some 9) (.c (.fn 70 [])) [(.t 8)])⟩, ⟨none, (.bin 10 .gtr (.t 9) (.c (.imm true (.int .i64 200))))⟩, ⟨none, (.mv 7 (.t 10))⟩] none (some ([1, 7], []))
def w37_3 := @awpR_no Try.prog Q σ r37_3 _ _ ⟨rfl, rfl⟩
def r37_4 : MC := .reg [⟨none, (.mv 2 (.c (.imm true (.int .i64 31))))⟩] none (some ([2], []))
def w37_4 := @awpR_no Try.prog Q σ r37_4 _ _ ⟨rfl, rfl⟩
def r37_5 : MC := .reg [⟨none, (.load 12 (.t 1) (some 2))⟩, ⟨none, (.call (some 13) (.c (.fn 71 [])) [(.t 12)])⟩, ⟨none, (.un 14 .not (.t 13))⟩, ⟨none, (.mv 11 (.t 14))⟩] none (some ([11], []))
def w37_5 := @awpR_no Try.prog Q σ r37_5 _ _ ⟨rfl, rfl⟩
def r37_6 : MC := .reg [⟨none, (.mv 2 (.c (.imm true (.int .i64 20))))⟩] none (some ([2], []))
def w37_6 := @awpR_no Try.prog Q σ r37_6 _ _ ⟨rfl, rfl⟩
def r37_7 : MC := .reg [⟨none, (.mv 2 (.c (.imm true (.int .i64 0))))⟩] none (some ([2], []))
def w37_7 := @awpR_no Try.prog Q σ r37_7 _ _ ⟨rfl, rfl⟩
def my37 : MC := (.seq r37_0 (.seq (.block 0 (.seq r37_1 (.cond (.t 3) (.seq r37_2 .ret) (.seq r37_3 (.cond (.t 7) (.seq r37_4 .ret) (.seq r37_5 (.cond (.t 11) (.seq r37_6 .ret) .skip))))))) (.seq r37_7 .ret)))
theorem my37_is : trC Try.prog ⟨[1], []⟩ ⟨[],
  [(0, [1], []), (1, [1, 3], []), (2, [2], []), (3, [1, 7], []), (4, [2], []), (5, [11], []), (6, [2], []), (7, [2], [])]⟩ 15 (Try.f37.body.getD .skip) = some my37 := by kernel_rfl
theorem does37 {args : List LV} (hl : args.length.ble 15 = true) {S S' : List (List LV)} (hS : S'.length = S.length) {o : Out} (h : Lt ⟨numE 0 args, argS 0 S, []⟩ (awp Try.prog my37 (Fin [(.t 2)] o S'))) : Does Try.prog 37 args S o S' :=
  does_of_awp mixed Try.func37 (by kernel_rfl) (by kernel_rfl) my37_is (by kernel_rfl) (Nat.le_of_ble_eq_true hl) hS h
attribute [go_sem ↓] w37_0 w37_1 w37_2 w37_3 w37_4 w37_5 w37_6 w37_7
attribute [go_sem] my37
/-! ### 70: lychgate/types.Depth -/
def r70_0 : MC := .reg [⟨none, (.boxc 1 (.t 0))⟩, ⟨none, (.mv 2 (.c (.imm true (.int .i64 0))))⟩] none (some ([1], []))
def w70_0 := @awpR_no Try.prog Q σ r70_0 _ _ ⟨rfl, rfl⟩
def r70_1 : MC := .reg [⟨none, (.load 3 (.t 1) (some 2))⟩, ⟨none, (.call (some 4) (.c (.fn 38 [])) [(.t 3)])⟩, ⟨none, (.bin 5 .gtr (.t 4) (.c (.imm true (.int .i64 8192))))⟩] none (some ([1, 5], []))
def w70_1 := @awpR_no Try.prog Q σ r70_1 _ _ ⟨rfl, rfl⟩
def r70_2 : MC := .reg [⟨none, (.mv 2 (.c (.imm true (.int .i64 201))))⟩] none (some ([2], []))
def w70_2 := @awpR_no Try.prog Q σ r70_2 _ _ ⟨rfl, rfl⟩
def r70_3 : MC := .reg [⟨none, (.load 6 (.t 1) (some 2))⟩, ⟨none, (.call (some 7) (.c (.fn 109 [])) [(.t 6), (.c (.imm true (.int .i64 201)))])⟩, ⟨none, (.mv 2 (.t 7))⟩] none (some ([2], []))
def w70_3 := @awpR_no Try.prog Q σ r70_3 _ _ ⟨rfl, rfl⟩
def my70 : MC := (.seq r70_0 (.seq (.seq r70_1 (.cond (.t 5) (.seq r70_2 .ret) .skip)) (.seq r70_3 .ret)))
theorem my70_is : trC Try.prog ⟨[1], []⟩ ⟨[],
  [(0, [1], []), (1, [1, 5], []), (2, [2], []), (3, [2], [])]⟩ 8 (Try.f70.body.getD .skip) = some my70 := by kernel_rfl
theorem does70 {args : List LV} (hl : args.length.ble 8 = true) {S S' : List (List LV)} (hS : S'.length = S.length) {o : Out} (h : Lt ⟨numE 0 args, argS 0 S, []⟩ (awp Try.prog my70 (Fin [(.t 2)] o S'))) : Does Try.prog 70 args S o S' :=
  does_of_awp mixed Try.func70 (by kernel_rfl) (by kernel_rfl) my70_is (by kernel_rfl) (Nat.le_of_ble_eq_true hl) hS h
attribute [go_sem ↓] w70_0 w70_1 w70_2 w70_3
attribute [go_sem] my70
/-! ### 71: lychgate/types.right -/
def r71_0 : MC := .reg [⟨none, (.boxc 1 (.t 0))⟩, ⟨none, (.mv 2 (.c (.imm true (.bool false))))⟩] none (some ([1], []))
def w71_0 := @awpR_no Try.prog Q σ r71_0 _ _ ⟨rfl, rfl⟩
def r71_1 : MC := .reg [⟨none, (.fad 5 (.t 1) 0)⟩, ⟨none, (.load 6 (.t 5) none)⟩, ⟨none, (.call (some 7) (.c (.fn 66 [])) [(.t 6)])⟩, ⟨none, (.fad 8 (.t 1) 1)⟩, ⟨none, (.load 9 (.t 8) none)⟩, ⟨none, (.len 10 (.t 9))⟩, ⟨none, (.bin 11 .neq (.t 7) (.t 10))⟩] (some []) (some ([1, 11], []))
def w71_1 := @awpD_no Try.prog Q σ r71_1 _ _ _ ⟨rfl, rfl⟩
def r71_2 : MC := .reg [⟨none, (.mv 2 (.c (.imm true (.bool false))))⟩] none (some ([2], []))
def w71_2 := @awpR_no Try.prog Q σ r71_2 _ _ ⟨rfl, rfl⟩
def r71_3 : MC := .reg [⟨none, (.fad 12 (.t 1) 1)⟩, ⟨none, (.load 13 (.t 12) none)⟩, ⟨none, (.len 14 (.t 13))⟩, ⟨none, (.mv 15 (.c (.imm true (.int .i64 0))))⟩] none (some ([13, 14, 15], []))
def w71_3 := @awpR_no Try.prog Q σ r71_3 _ _ ⟨rfl, rfl⟩
def r71_4 : MC := .reg [⟨none, (.bin 16 .lss (.t 15) (.t 14))⟩] none (some ([13, 14, 15, 16], []))
def w71_4 := @awpR_no Try.prog Q σ r71_4 _ _ ⟨rfl, rfl⟩
def r71_5 : MC := .reg [⟨none, (.iad 17 (.t 13) (.t 15) 2)⟩, ⟨none, (.load 18 (.t 17) (some 2))⟩, ⟨none, (.alloc 4 z2)⟩, ⟨none, (.store (.t 4) (.t 18) 2)⟩] none (some ([4, 13, 14, 15], [4]))
def w71_5 := @awpR_get Try.prog Q σ r71_5 _ _ [4] ⟨rfl, rfl⟩
def r71_6 : MC := .reg [⟨none, (.load 19 (.t 4) (some 2))⟩, ⟨none, (.call (some 20) (.c (.fn 71 [])) [(.t 19)])⟩, ⟨none, (.un 21 .not (.t 20))⟩] none (some ([13, 14, 15, 21], []))
def w71_6 := @awpR_no Try.prog Q σ r71_6 _ _ ⟨rfl, rfl⟩
def r71_7 : MC := .reg [⟨none, (.mv 2 (.c (.imm true (.bool false))))⟩] none (some ([2], []))
def w71_7 := @awpR_no Try.prog Q σ r71_7 _ _ ⟨rfl, rfl⟩
def r71_8 : MC := .reg [⟨none, (.bin 22 .add (.t 15) (.c (.imm true (.int .i64 1))))⟩, ⟨none, (.mv 15 (.t 22))⟩] none (some ([13, 14, 15], []))
def w71_8 := @awpR_no Try.prog Q σ r71_8 _ _ ⟨rfl, rfl⟩
def l71_0 : MC := (.seq r71_4 (.seq (.cond (.t 16) .skip (.exit 0)) (.seq (.block 1 (.seq r71_5 (.seq r71_6 (.cond (.t 21) (.seq r71_7 .ret) .skip)))) r71_8)))
def r71_9 : MC := .reg [⟨none, (.mv 2 (.c (.imm true (.bool true))))⟩] none (some ([2], []))
def w71_9 := @awpR_no Try.prog Q σ r71_9 _ _ ⟨rfl, rfl⟩
def my71 : MC := (.seq r71_0 (.seq (.seq r71_1 (.cond (.t 11) (.seq r71_2 .ret) .skip)) (.seq (.seq r71_3 (.block 0 (.loop l71_0))) (.seq r71_9 .ret))))
theorem my71_is : trC Try.prog ⟨[1], []⟩ ⟨[(1, [[], [0], [0, 1], [], [3], [3, 4], [0, 1, 2, 3, 4, 5]], [])],
  [(0, [1], []), (1, [1, 11], []), (2, [2], []), (3, [13, 14, 15], []), (4, [13, 14, 15, 16], []), (5, [4, 13, 14, 15], [4]), (6, [13, 14, 15, 21], []), (7, [2], []), (8, [13, 14, 15], []), (9, [2], [])]⟩ 23 (Try.f71.body.getD .skip) = some my71 := by kernel_rfl
theorem does71 {args : List LV} (hl : args.length.ble 23 = true) {S S' : List (List LV)} (hS : S'.length = S.length) {o : Out} (h : Lt ⟨numE 0 args, argS 0 S, []⟩ (awp Try.prog my71 (Fin [(.t 2)] o S'))) : Does Try.prog 71 args S o S' :=
  does_of_awp mixed Try.func71 (by kernel_rfl) (by kernel_rfl) my71_is (by kernel_rfl) (Nat.le_of_ble_eq_true hl) hS h
attribute [go_sem ↓] w71_0 w71_1 w71_2 w71_3 w71_4 w71_5 w71_6 w71_7 w71_8 w71_9
attribute [go_sem] my71
/-! ### 50: lychgate/types.equal -/
def r50_0 : MC := .reg [⟨none, (.boxc 2 (.t 0))⟩, ⟨none, (.boxc 3 (.t 1))⟩, ⟨none, (.mv 4 (.c (.imm true (.bool false))))⟩] none (some ([2, 3], []))
def w50_0 := @awpR_no Try.prog Q σ r50_0 _ _ ⟨rfl, rfl⟩
def r50_1 : MC := .reg [⟨none, (.fad 6 (.t 2) 0)⟩, ⟨none, (.load 7 (.t 6) none)⟩, ⟨none, (.fad 8 (.t 3) 0)⟩, ⟨none, (.load 9 (.t 8) none)⟩, ⟨none, (.bin 10 .neq (.t 7) (.t 9))⟩] none (some ([2, 3, 10], []))
def w50_1 := @awpR_no Try.prog Q σ r50_1 _ _ ⟨rfl, rfl⟩
def r50_2 : MC := .reg [⟨none, (.mv 4 (.c (.imm true (.bool false))))⟩] none (some ([4], []))
def w50_2 := @awpR_no Try.prog Q σ r50_2 _ _ ⟨rfl, rfl⟩
def r50_3 : MC := .reg [⟨none, (.fad 11 (.t 2) 1)⟩, ⟨none, (.load 12 (.t 11) none)⟩, ⟨none, (.len 13 (.t 12))⟩, ⟨none, (.mv 14 (.c (.imm true (.int .i64 0))))⟩] none (some ([2, 3, 13, 14], []))
def w50_3 := @awpR_no Try.prog Q σ r50_3 _ _ ⟨rfl, rfl⟩
def r50_4 : MC := .reg [⟨none, (.bin 15 .lss (.t 14) (.t 13))⟩] none (some ([2, 3, 13, 14, 15], []))
def w50_4 := @awpR_no Try.prog Q σ r50_4 _ _ ⟨rfl, rfl⟩
def r50_5 : MC := .reg [⟨none, (.mv 16 (.t 14))⟩, ⟨none, (.mv 5 (.t 16))⟩] none (some ([2, 3, 5, 13, 14], []))
def w50_5 := @awpR_no Try.prog Q σ r50_5 _ _ ⟨rfl, rfl⟩
def r50_6 : MC := .reg [⟨none, (.fad 17 (.t 2) 1)⟩, ⟨none, (.load 18 (.t 17) none)⟩, ⟨none, (.mv 19 (.t 5))⟩, ⟨none, (.iad 20 (.t 18) (.t 19) 2)⟩, ⟨none, (.load 21 (.t 20) (some 2))⟩, ⟨none, (.fad 22 (.t 3) 1)⟩, ⟨none, (.load 23 (.t 22) none)⟩, ⟨none, (.mv 24 (.t 5))⟩, ⟨none, (.iad 25 (.t 23) (.t 24) 2)⟩, ⟨none, (.load 26 (.t 25) (some 2))⟩, ⟨none, (.call (some 27) (.c (.fn 50 [])) [(.t 21), (.t 26)])⟩, ⟨none, (.un 28 .not (.t 27))⟩] (some []) (some ([2, 3, 13, 14, 28], []))
def w50_6 := @awpD_no Try.prog Q σ r50_6 _ _ _ ⟨rfl, rfl⟩
def r50_7 : MC := .reg [⟨none, (.mv 4 (.c (.imm true (.bool false))))⟩] none (some ([4], []))
def w50_7 := @awpR_no Try.prog Q σ r50_7 _ _ ⟨rfl, rfl⟩
def r50_8 : MC := .reg [⟨none, (.bin 29 .add (.t 14) (.c (.imm true (.int .i64 1))))⟩, ⟨none, (.mv 14 (.t 29))⟩] none (some ([2, 3, 13, 14], []))
def w50_8 := @awpR_no Try.prog Q σ r50_8 _ _ ⟨rfl, rfl⟩
def l50_0 : MC := (.seq r50_4 (.seq (.cond (.t 15) .skip (.exit 0)) (.seq (.block 1 (.seq r50_5 (.seq r50_6 (.cond (.t 28) (.seq r50_7 .ret) .skip)))) r50_8)))
def r50_9 : MC := .reg [⟨none, (.mv 4 (.c (.imm true (.bool true))))⟩] none (some ([4], []))
def w50_9 := @awpR_no Try.prog Q σ r50_9 _ _ ⟨rfl, rfl⟩
def my50 : MC := (.seq r50_0 (.seq (.seq r50_1 (.cond (.t 10) (.seq r50_2 .ret) .skip)) (.seq (.seq r50_3 (.block 0 (.loop l50_0))) (.seq r50_9 .ret))))
theorem my50_is : trC Try.prog ⟨[2, 3], []⟩ ⟨[(6, [[], [0], [], [0, 1, 2], [0, 1, 2, 3], [], [5], [], [5, 6, 7], [5, 6, 7, 8], [0, 1, 2, 3, 4, 5, 6, 7, 8, 9], [0, 1, 2, 3, 4, 5, 6, 7, 8, 9, 10]], [])],
  [(0, [2, 3], []), (1, [2, 3, 10], []), (2, [4], []), (3, [2, 3, 13, 14], []), (4, [2, 3, 13, 14, 15], []), (5, [2, 3, 5, 13, 14], []), (6, [2, 3, 13, 14, 28], []), (7, [4], []), (8, [2, 3, 13, 14], []), (9, [4], [])]⟩ 30 (Try.f50.body.getD .skip) = some my50 := by kernel_rfl
theorem does50 {args : List LV} (hl : args.length.ble 30 = true) {S S' : List (List LV)} (hS : S'.length = S.length) {o : Out} (h : Lt ⟨numE 0 args, argS 0 S, []⟩ (awp Try.prog my50 (Fin [(.t 4)] o S'))) : Does Try.prog 50 args S o S' :=
  does_of_awp mixed Try.func50 (by kernel_rfl) (by kernel_rfl) my50_is (by kernel_rfl) (Nat.le_of_ble_eq_true hl) hS h
attribute [go_sem ↓] w50_0 w50_1 w50_2 w50_3 w50_4 w50_5 w50_6 w50_7 w50_8 w50_9
attribute [go_sem] my50
/-! ### 109: lychgate/types.deep -/
def r109_0 : MC := .reg [⟨none, (.boxc 2 (.t 0))⟩, ⟨none, (.mv 4 (.c (.imm true (.int .i64 0))))⟩] none (some ([1, 2], []))
def w109_0 := @awpR_no Try.prog Q σ r109_0 _ _ ⟨rfl, rfl⟩
def r109_1 : MC := .reg [⟨none, (.mv 8 (.t 1))⟩, ⟨none, (.bin 9 .leq (.t 8) (.c (.imm true (.int .i64 1))))⟩] none (some ([1, 2, 9], []))
def w109_1 := @awpR_no Try.prog Q σ r109_1 _ _ ⟨rfl, rfl⟩
def r109_2 : MC := .reg [⟨none, (.mv 10 (.t 1))⟩, ⟨none, (.mv 4 (.t 10))⟩] none (some ([4], []))
def w109_2 := @awpR_no Try.prog Q σ r109_2 _ _ ⟨rfl, rfl⟩
def r109_3 : MC := .reg [⟨none, (.mv 5 (.c (.imm true (.int .i64 0))))⟩] none (some ([1, 2, 5], []))
def w109_3 := @awpR_no Try.prog Q σ r109_3 _ _ ⟨rfl, rfl⟩
def r109_4 : MC := .reg [⟨none, (.fad 11 (.t 2) 1)⟩, ⟨none, (.load 12 (.t 11) none)⟩, ⟨none, (.len 13 (.t 12))⟩, ⟨none, (.mv 14 (.c (.imm true (.int .i64 0))))⟩] none (some ([1, 5, 12, 13, 14], []))
def w109_4 := @awpR_no Try.prog Q σ r109_4 _ _ ⟨rfl, rfl⟩
def r109_5 : MC := .reg [⟨none, (.bin 15 .lss (.t 14) (.t 13))⟩] none (some ([1, 5, 12, 13, 14, 15], []))
def w109_5 := @awpR_no Try.prog Q σ r109_5 _ _ ⟨rfl, rfl⟩
def r109_6 : MC := .reg [⟨none, (.iad 16 (.t 12) (.t 14) 2)⟩, ⟨none, (.load 17 (.t 16) (some 2))⟩, ⟨none, (.alloc 7 z2)⟩, ⟨none, (.store (.t 7) (.t 17) 2)⟩] none (some ([1, 5, 7, 12, 13, 14], [7]))
def w109_6 := @awpR_get Try.prog Q σ r109_6 _ _ [7] ⟨rfl, rfl⟩
def r109_7 : MC := .reg [⟨none, (.mv 18 (.t 5))⟩, ⟨none, (.load 19 (.t 7) (some 2))⟩, ⟨none, (.mv 20 (.t 1))⟩, ⟨none, (.bin 21 .sub (.t 20) (.c (.imm true (.int .i64 1))))⟩, ⟨none, (.call (some 22) (.c (.fn 109 [])) [(.t 19), (.t 21)])⟩, ⟨none, (.mx 23 [(.t 18), (.t 22)])⟩, ⟨none, (.mv 5 (.t 23))⟩] none (some ([1, 5, 12, 13, 14], []))
def w109_7 := @awpR_no Try.prog Q σ r109_7 _ _ ⟨rfl, rfl⟩
def r109_8 : MC := .reg [⟨none, (.bin 24 .add (.t 14) (.c (.imm true (.int .i64 1))))⟩, ⟨none, (.mv 14 (.t 24))⟩] none (some ([1, 5, 12, 13, 14], []))
def w109_8 := @awpR_no Try.prog Q σ r109_8 _ _ ⟨rfl, rfl⟩
def l109_0 : MC := (.seq r109_5 (.seq (.cond (.t 15) .skip (.exit 0)) (.seq (.block 1 (.seq r109_6 r109_7)) r109_8)))
def r109_9 : MC := .reg [⟨none, (.mv 25 (.t 5))⟩, ⟨none, (.bin 26 .add (.t 25) (.c (.imm true (.int .i64 1))))⟩, ⟨none, (.mv 4 (.t 26))⟩] none (some ([4], []))
def w109_9 := @awpR_no Try.prog Q σ r109_9 _ _ ⟨rfl, rfl⟩
def my109 : MC := (.seq r109_0 (.seq (.seq r109_1 (.cond (.t 9) (.seq r109_2 .ret) .skip)) (.seq r109_3 (.seq (.seq r109_4 (.block 0 (.loop l109_0))) (.seq r109_9 .ret)))))
theorem my109_is : trC Try.prog ⟨[2], []⟩ ⟨[],
  [(0, [1, 2], []), (1, [1, 2, 9], []), (2, [4], []), (3, [1, 2, 5], []), (4, [1, 5, 12, 13, 14], []), (5, [1, 5, 12, 13, 14, 15], []), (6, [1, 5, 7, 12, 13, 14], [7]), (7, [1, 5, 12, 13, 14], []), (8, [1, 5, 12, 13, 14], []), (9, [4], [])]⟩ 27 (Try.f109.body.getD .skip) = some my109 := by kernel_rfl
theorem does109 {args : List LV} (hl : args.length.ble 27 = true) {S S' : List (List LV)} (hS : S'.length = S.length) {o : Out} (h : Lt ⟨numE 0 args, argS 0 S, []⟩ (awp Try.prog my109 (Fin [(.t 4)] o S'))) : Does Try.prog 109 args S o S' :=
  does_of_awp mixed Try.func109 (by kernel_rfl) (by kernel_rfl) my109_is (by kernel_rfl) (Nat.le_of_ble_eq_true hl) hS h
attribute [go_sem ↓] w109_0 w109_1 w109_2 w109_3 w109_4 w109_5 w109_6 w109_7 w109_8 w109_9
attribute [go_sem] my109
/-! ### 73: (*lychgate/types.counter).count -/
def r73_0 : MC := .reg [⟨none, (.boxc 3 (.t 1))⟩] none (some ([0, 3], []))
def w73_0 := @awpR_no Try.prog Q σ r73_0 _ _ ⟨rfl, rfl⟩
def r73_1 : MC := .reg [⟨none, (.mv 6 (.t 0))⟩, ⟨none, (.nilc 7 (.t 6))⟩, ⟨none, (.fad 8 (.t 7) 0)⟩, ⟨none, (.load 9 (.t 8) none)⟩, ⟨none, (.bin 10 .add (.t 9) (.c (.imm true (.int .i64 1))))⟩, ⟨none, (.nilc 11 (.t 6))⟩, ⟨none, (.fad 12 (.t 11) 0)⟩, ⟨none, (.store (.t 12) (.t 10) 1)⟩] none (some ([0, 3], []))
def w73_1 := @awpR_no Try.prog Q σ r73_1 _ _ ⟨rfl, rfl⟩
def r73_2 : MC := .reg [⟨none, (.mv 13 (.t 0))⟩, ⟨none, (.nilc 14 (.t 13))⟩, ⟨none, (.fad 15 (.t 14) 0)⟩, ⟨none, (.load 16 (.t 15) none)⟩, ⟨none, (.bin 17 .gtr (.t 16) (.c (.imm true (.int .i64 8192))))⟩] none (some ([0, 3, 17], []))
def w73_2 := @awpR_no Try.prog Q σ r73_2 _ _ ⟨rfl, rfl⟩
def r73_3 : MC := .reg [⟨none, (.build 18 [] [])⟩, ⟨none, (.mkif 19 89 (.t 18))⟩, ⟨none, (.pan (.t 19))⟩] none (some ([0, 3], []))
def w73_3 := @awpR_no Try.prog Q σ r73_3 _ _ ⟨rfl, rfl⟩
def r73_4 : MC := .reg [⟨none, (.fad 20 (.t 3) 1)⟩, ⟨none, (.load 21 (.t 20) none)⟩, ⟨none, (.len 22 (.t 21))⟩, ⟨none, (.mv 23 (.c (.imm true (.int .i64 0))))⟩] none (some ([0, 21, 22, 23], []))
def w73_4 := @awpR_no Try.prog Q σ r73_4 _ _ ⟨rfl, rfl⟩
def r73_5 : MC := .reg [⟨none, (.bin 24 .lss (.t 23) (.t 22))⟩] none (some ([0, 21, 22, 23, 24], []))
def w73_5 := @awpR_no Try.prog Q σ r73_5 _ _ ⟨rfl, rfl⟩
def r73_6 : MC := .reg [⟨none, (.iad 25 (.t 21) (.t 23) 2)⟩, ⟨none, (.load 26 (.t 25) (some 2))⟩, ⟨none, (.alloc 5 z2)⟩, ⟨none, (.store (.t 5) (.t 26) 2)⟩] none (some ([0, 5, 21, 22, 23], [5]))
def w73_6 := @awpR_get Try.prog Q σ r73_6 _ _ [5] ⟨rfl, rfl⟩
def r73_7 : MC := .reg [⟨none, (.mv 27 (.t 0))⟩, ⟨none, (.load 28 (.t 5) (some 2))⟩, ⟨none, (.callB (some 29) (.c (.fn 73 [])) [(.t 27), (.t 28)] [(.arg 0)])⟩] none (some ([0, 21, 22, 23], []))
def w73_7 := @awpR_no Try.prog Q σ r73_7 _ _ ⟨rfl, rfl⟩
def r73_8 : MC := .reg [⟨none, (.bin 30 .add (.t 23) (.c (.imm true (.int .i64 1))))⟩, ⟨none, (.mv 23 (.t 30))⟩] none (some ([0, 21, 22, 23], []))
def w73_8 := @awpR_no Try.prog Q σ r73_8 _ _ ⟨rfl, rfl⟩
def l73_0 : MC := (.seq r73_5 (.seq (.cond (.t 24) .skip (.exit 0)) (.seq (.block 1 (.seq r73_6 r73_7)) r73_8)))
def my73 : MC := (.seq r73_0 (.seq (.seq r73_1 (.seq r73_2 (.cond (.t 17) r73_3 .skip))) (.seq r73_4 (.block 0 (.loop l73_0)))))
theorem my73_is : trC Try.prog ⟨[3], [(29, [.arg 0])]⟩ ⟨[],
  [(0, [0, 3], []), (1, [0, 3], []), (2, [0, 3, 17], []), (3, [0, 3], []), (4, [0, 21, 22, 23], []), (5, [0, 21, 22, 23, 24], []), (6, [0, 5, 21, 22, 23], [5]), (7, [0, 21, 22, 23], []), (8, [0, 21, 22, 23], [])]⟩ 31 (Try.f73.body.getD .skip) = some my73 := by kernel_rfl
theorem does73 {args : List LV} (hl : args.length.ble 31 = true) {S S' : List (List LV)} (hS : S'.length = S.length) {o : Out} (h : Lt ⟨numE 0 args, argS 0 S, []⟩ (awp Try.prog my73 (Fin [] o S'))) : Does Try.prog 73 args S o S' :=
  does_of_awp mixed Try.func73 (by kernel_rfl) (by kernel_rfl) my73_is (by kernel_rfl) (Nat.le_of_ble_eq_true hl) hS h
attribute [go_sem ↓] w73_0 w73_1 w73_2 w73_3 w73_4 w73_5 w73_6 w73_7 w73_8
attribute [go_sem] my73
/-! ### 14: lychgate/types.Same -/
def r14_0 : MC := .reg [⟨none, (.boxc 2 (.t 0))⟩, ⟨none, (.boxc 3 (.t 1))⟩, ⟨none, (.mv 4 (.c (.imm true (.bool false))))⟩] none (some ([2, 3], []))
def w14_0 := @awpR_no Try.prog Q σ r14_0 _ _ ⟨rfl, rfl⟩
def r14_1 : MC := .reg [⟨none, (.load 5 (.t 2) (some 2))⟩, ⟨none, (.call (some 6) (.c (.fn 37 [])) [(.t 5)])⟩, ⟨none, (.bin 7 .eql (.t 6) (.c (.imm true (.int .i64 0))))⟩, ⟨none, (.mv 8 (.t 7))⟩, ⟨(some (8, true)), (.load 9 (.t 3) (some 2))⟩, ⟨(some (8, true)), (.call (some 10) (.c (.fn 37 [])) [(.t 9)])⟩, ⟨(some (8, true)), (.bin 11 .eql (.t 10) (.c (.imm true (.int .i64 0))))⟩, ⟨none, (.pick 12 (.t 8) (.t 11) (.c (.imm true (.bool false))))⟩, ⟨none, (.mv 13 (.t 12))⟩, ⟨(some (13, true)), (.load 14 (.t 2) (some 2))⟩, ⟨(some (13, true)), (.load 15 (.t 3) (some 2))⟩, ⟨(some (13, true)), (.call (some 16) (.c (.fn 50 [])) [(.t 14), (.t 15)])⟩, ⟨none, (.pick 17 (.t 13) (.t 16) (.c (.imm true (.bool false))))⟩, ⟨none, (.mv 4 (.t 17))⟩] none (some ([4], []))
def w14_1 := @awpR_no Try.prog Q σ r14_1 _ _ ⟨rfl, rfl⟩
def my14 : MC := (.seq r14_0 (.seq r14_1 .ret))
theorem my14_is : trC Try.prog ⟨[2, 3], []⟩ ⟨[],
  [(0, [2, 3], []), (1, [4], [])]⟩ 18 (Try.f14.body.getD .skip) = some my14 := by kernel_rfl
theorem does14 {args : List LV} (hl : args.length.ble 18 = true) {S S' : List (List LV)} (hS : S'.length = S.length) {o : Out} (h : Lt ⟨numE 0 args, argS 0 S, []⟩ (awp Try.prog my14 (Fin [(.t 4)] o S'))) : Does Try.prog 14 args S o S' :=
  does_of_awp mixed Try.func14 (by kernel_rfl) (by kernel_rfl) my14_is (by kernel_rfl) (Nat.le_of_ble_eq_true hl) hS h
attribute [go_sem ↓] w14_0 w14_1
attribute [go_sem] my14
/-! ### 31: lychgate/types.Ground -/
def r31_0 : MC := .reg [⟨none, (.boxc 1 (.t 0))⟩, ⟨none, (.alloc 2 z2)⟩, ⟨none, (.mv 3 (.c (.imm true (.bool false))))⟩] none (some ([1, 2], [2, 18]))
def w31_0 := @awpR_get Try.prog Q σ r31_0 _ _ [2] ⟨rfl, rfl⟩
def r31_1 : MC := .reg [⟨none, (.load 4 (.t 1) (some 2))⟩, ⟨none, (.call (some 5) (.c (.fn 37 [])) [(.t 4)])⟩, ⟨none, (.bin 6 .neq (.t 5) (.c (.imm true (.int .i64 0))))⟩, ⟨none, (.mv 7 (.t 6))⟩, ⟨(some (7, false)), (.fad 8 (.t 1) 0)⟩, ⟨(some (7, false)), (.load 9 (.t 8) none)⟩, ⟨(some (7, false)), (.bin 10 .eql (.t 9) (.c (.imm true (.int .i8 0))))⟩, ⟨none, (.pick 11 (.t 7) (.c (.imm true (.bool true))) (.t 10))⟩] none (some ([1, 2, 11], [2, 18]))
def w31_1 := @awpR_no Try.prog Q σ r31_1 _ _ ⟨rfl, rfl⟩
def r31_2 : MC := .reg [⟨none, (.build 12 z2 [])⟩, ⟨none, (.store (.t 2) (.t 12) 2)⟩, ⟨none, (.mv 3 (.c (.imm true (.bool false))))⟩] none (some ([2, 3], [2, 18]))
def w31_2 := @awpR_no Try.prog Q σ r31_2 _ _ ⟨rfl, rfl⟩
def r31_3 : MC := .reg [⟨none, (.fad 13 (.t 1) 0)⟩, ⟨none, (.load 14 (.t 13) none)⟩, ⟨none, (.fad 15 (.t 1) 0)⟩, ⟨none, (.load 16 (.t 15) none)⟩, ⟨none, (.call (some 17) (.c (.fn 66 [])) [(.t 16)])⟩, ⟨none, (.mksl 18 (.t 17) z2)⟩, ⟨none, (.build 19 z2 [(0, (1, (.t 14))), (1, (1, (.t 18)))])⟩, ⟨none, (.store (.t 2) (.t 19) 2)⟩, ⟨none, (.mv 3 (.c (.imm true (.bool true))))⟩] (some []) (some ([2, 3], [2, 18]))
def w31_3 := @awpD_no Try.prog Q σ r31_3 _ _ _ ⟨rfl, rfl⟩
def my31 : MC := (.seq r31_0 (.seq (.seq r31_1 (.cond (.t 11) (.seq r31_2 .ret) .skip)) (.seq r31_3 .ret)))
theorem my31_is : trC Try.prog ⟨[1], []⟩ ⟨[(3, [[], [0], [], [2], [2, 3], [2, 3, 4], [0, 1, 2, 3, 4, 5], [0, 1, 2, 3, 4, 5, 6], [0, 1, 2, 3, 4, 5, 6, 7]], [])],
  [(0, [1, 2], [2, 18]), (1, [1, 2, 11], [2, 18]), (2, [2, 3], [2, 18]), (3, [2, 3], [2, 18])]⟩ 20 (Try.f31.body.getD .skip) = some my31 := by kernel_rfl
theorem does31 {args : List LV} (hl : args.length.ble 20 = true) {S S' : List (List LV)} (hS : S'.length = S.length) {o : Out} (h : Lt ⟨numE 0 args, argS 0 S, []⟩ (awp Try.prog my31 (Fin [(.c 2 (some 2)), (.t 3)] o S'))) : Does Try.prog 31 args S o S' :=
  does_of_awp mixed Try.func31 (by kernel_rfl) (by kernel_rfl) my31_is (by kernel_rfl) (Nat.le_of_ble_eq_true hl) hS h
attribute [go_sem ↓] w31_0 w31_1 w31_2 w31_3
attribute [go_sem] my31
/-! ### 74: lychgate/agree.level -/
def r74_0 : MC := .reg [⟨none, (.boxc 2 (.t 0))⟩, ⟨none, (.boxc 3 (.t 1))⟩, ⟨none, (.mv 4 (.c (.imm true (.bool false))))⟩] none (some ([2, 3], []))
def w74_0 := @awpR_no Try.prog Q σ r74_0 _ _ ⟨rfl, rfl⟩
def r74_1 : MC := .reg [⟨none, (.fad 7 (.t 2) 0)⟩, ⟨none, (.load 8 (.t 7) none)⟩, ⟨none, (.fad 9 (.t 3) 0)⟩, ⟨none, (.load 10 (.t 9) none)⟩, ⟨none, (.build 11 [(.imm true (.int .i8 0)), (.imm true (.int .i8 0))] [(0, (1, (.t 8))), (1, (1, (.t 10)))])⟩, ⟨none, (.alloc 5 [(.imm true (.int .i8 0)), (.imm true (.int .i8 0))])⟩, ⟨none, (.store (.t 5) (.t 11) 2)⟩] none (some ([2, 3, 5], [5]))
def w74_1 := @awpR_get Try.prog Q σ r74_1 _ _ [5] ⟨rfl, rfl⟩
def r74_2 : MC := .reg [⟨none, (.aad 13 (.t 5) (.c (.imm true (.int .i64 0))) 2 1)⟩, ⟨none, (.load 14 (.t 13) none)⟩, ⟨none, (.bin 15 .eql (.t 14) (.c (.imm true (.int .i8 0))))⟩, ⟨none, (.mv 12 (.t 15))⟩] none (some ([2, 3, 5, 12], [5]))
def w74_2 := @awpR_no Try.prog Q σ r74_2 _ _ ⟨rfl, rfl⟩
def r74_3 : MC := .reg [⟨none, (.aad 16 (.t 5) (.c (.imm true (.int .i64 1))) 2 1)⟩, ⟨none, (.load 17 (.t 16) none)⟩, ⟨none, (.bin 18 .eql (.t 17) (.c (.imm true (.int .i8 0))))⟩, ⟨none, (.mv 12 (.t 18))⟩] none (some ([2, 3, 5, 12], [5]))
def w74_3 := @awpR_no Try.prog Q σ r74_3 _ _ ⟨rfl, rfl⟩
def r74_4 : MC := .reg [⟨none, (.mv 4 (.c (.imm true (.bool true))))⟩] none (some ([4], []))
def w74_4 := @awpR_no Try.prog Q σ r74_4 _ _ ⟨rfl, rfl⟩
def r74_5 : MC := .reg [⟨none, (.aad 20 (.t 5) (.c (.imm true (.int .i64 0))) 2 1)⟩, ⟨none, (.load 21 (.t 20) none)⟩, ⟨none, (.aad 22 (.t 5) (.c (.imm true (.int .i64 1))) 2 1)⟩, ⟨none, (.load 23 (.t 22) none)⟩, ⟨none, (.bin 24 .neq (.t 21) (.t 23))⟩, ⟨none, (.mv 19 (.t 24))⟩] none (some ([2, 3, 19], []))
def w74_5 := @awpR_no Try.prog Q σ r74_5 _ _ ⟨rfl, rfl⟩
def r74_6 : MC := .reg [⟨none, (.mv 4 (.c (.imm true (.bool false))))⟩] none (some ([4], []))
def w74_6 := @awpR_no Try.prog Q σ r74_6 _ _ ⟨rfl, rfl⟩
def r74_7 : MC := .reg [⟨none, (.fad 25 (.t 2) 1)⟩, ⟨none, (.load 26 (.t 25) none)⟩, ⟨none, (.len 27 (.t 26))⟩, ⟨none, (.mv 28 (.c (.imm true (.int .i64 0))))⟩] none (some ([2, 3, 27, 28], []))
def w74_7 := @awpR_no Try.prog Q σ r74_7 _ _ ⟨rfl, rfl⟩
def r74_8 : MC := .reg [⟨none, (.bin 29 .lss (.t 28) (.t 27))⟩] none (some ([2, 3, 27, 28, 29], []))
def w74_8 := @awpR_no Try.prog Q σ r74_8 _ _ ⟨rfl, rfl⟩
def r74_9 : MC := .reg [⟨none, (.mv 30 (.t 28))⟩, ⟨none, (.mv 6 (.t 30))⟩] none (some ([2, 3, 6, 27, 28], []))
def w74_9 := @awpR_no Try.prog Q σ r74_9 _ _ ⟨rfl, rfl⟩
def r74_10 : MC := .reg [⟨none, (.fad 31 (.t 2) 1)⟩, ⟨none, (.load 32 (.t 31) none)⟩, ⟨none, (.mv 33 (.t 6))⟩, ⟨none, (.iad 34 (.t 32) (.t 33) 2)⟩, ⟨none, (.load 35 (.t 34) (some 2))⟩, ⟨none, (.fad 36 (.t 3) 1)⟩, ⟨none, (.load 37 (.t 36) none)⟩, ⟨none, (.mv 38 (.t 6))⟩, ⟨none, (.iad 39 (.t 37) (.t 38) 2)⟩, ⟨none, (.load 40 (.t 39) (some 2))⟩, ⟨none, (.call (some 41) (.c (.fn 74 [])) [(.t 35), (.t 40)])⟩, ⟨none, (.un 42 .not (.t 41))⟩] (some []) (some ([2, 3, 27, 28, 42], []))
def w74_10 := @awpD_no Try.prog Q σ r74_10 _ _ _ ⟨rfl, rfl⟩
def r74_11 : MC := .reg [⟨none, (.mv 4 (.c (.imm true (.bool false))))⟩] none (some ([4], []))
def w74_11 := @awpR_no Try.prog Q σ r74_11 _ _ ⟨rfl, rfl⟩
def r74_12 : MC := .reg [⟨none, (.bin 43 .add (.t 28) (.c (.imm true (.int .i64 1))))⟩, ⟨none, (.mv 28 (.t 43))⟩] none (some ([2, 3, 27, 28], []))
def w74_12 := @awpR_no Try.prog Q σ r74_12 _ _ ⟨rfl, rfl⟩
def l74_0 : MC := (.seq r74_8 (.seq (.cond (.t 29) .skip (.exit 1)) (.seq (.block 2 (.seq r74_9 (.seq r74_10 (.cond (.t 42) (.seq r74_11 .ret) .skip)))) r74_12)))
def r74_13 : MC := .reg [⟨none, (.mv 4 (.c (.imm true (.bool true))))⟩] none (some ([4], []))
def w74_13 := @awpR_no Try.prog Q σ r74_13 _ _ ⟨rfl, rfl⟩
def my74 : MC := (.seq r74_0 (.seq (.seq r74_1 (.block 0 (.seq (.seq r74_2 (.cond (.t 12) .skip r74_3)) (.cond (.t 12) (.seq r74_4 .ret) (.seq r74_5 (.cond (.t 19) (.seq r74_6 .ret) .skip)))))) (.seq (.seq r74_7 (.block 1 (.loop l74_0))) (.seq r74_13 .ret))))
theorem my74_is : trC Try.prog ⟨[2, 3], []⟩ ⟨[(10, [[], [0], [], [0, 1, 2], [0, 1, 2, 3], [], [5], [], [5, 6, 7], [5, 6, 7, 8], [0, 1, 2, 3, 4, 5, 6, 7, 8, 9], [0, 1, 2, 3, 4, 5, 6, 7, 8, 9, 10]], [])],
  [(0, [2, 3], []), (1, [2, 3, 5], [5]), (2, [2, 3, 5, 12], [5]), (3, [2, 3, 5, 12], [5]), (4, [4], []), (5, [2, 3, 19], []), (6, [4], []), (7, [2, 3, 27, 28], []), (8, [2, 3, 27, 28, 29], []), (9, [2, 3, 6, 27, 28], []), (10, [2, 3, 27, 28, 42], []), (11, [4], []), (12, [2, 3, 27, 28], []), (13, [4], [])]⟩ 44 (Try.f74.body.getD .skip) = some my74 := by kernel_rfl
theorem does74 {args : List LV} (hl : args.length.ble 44 = true) {S S' : List (List LV)} (hS : S'.length = S.length) {o : Out} (h : Lt ⟨numE 0 args, argS 0 S, []⟩ (awp Try.prog my74 (Fin [(.t 4)] o S'))) : Does Try.prog 74 args S o S' :=
  does_of_awp mixed Try.func74 (by kernel_rfl) (by kernel_rfl) my74_is (by kernel_rfl) (Nat.le_of_ble_eq_true hl) hS h
attribute [go_sem ↓] w74_0 w74_1 w74_2 w74_3 w74_4 w74_5 w74_6 w74_7 w74_8 w74_9 w74_10 w74_11 w74_12 w74_13
attribute [go_sem] my74
/-! ### 39: lychgate/agree.Agree -/
def r39_0 : MC := .reg [⟨none, (.boxc 2 (.t 0))⟩, ⟨none, (.boxc 3 (.t 1))⟩, ⟨none, (.mv 4 (.c (.imm true (.bool false))))⟩] none (some ([2, 3], []))
def w39_0 := @awpR_no Try.prog Q σ r39_0 _ _ ⟨rfl, rfl⟩
def r39_1 : MC := .reg [⟨none, (.load 5 (.t 2) (some 2))⟩, ⟨none, (.call (some 6) (.c (.fn 37 [])) [(.t 5)])⟩, ⟨none, (.bin 7 .eql (.t 6) (.c (.imm true (.int .i64 0))))⟩, ⟨none, (.mv 8 (.t 7))⟩, ⟨(some (8, true)), (.load 9 (.t 3) (some 2))⟩, ⟨(some (8, true)), (.call (some 10) (.c (.fn 37 [])) [(.t 9)])⟩, ⟨(some (8, true)), (.bin 11 .eql (.t 10) (.c (.imm true (.int .i64 0))))⟩, ⟨none, (.pick 12 (.t 8) (.t 11) (.c (.imm true (.bool false))))⟩, ⟨none, (.mv 13 (.t 12))⟩, ⟨(some (13, true)), (.load 14 (.t 2) (some 2))⟩, ⟨(some (13, true)), (.load 15 (.t 3) (some 2))⟩, ⟨(some (13, true)), (.call (some 16) (.c (.fn 74 [])) [(.t 14), (.t 15)])⟩, ⟨none, (.pick 17 (.t 13) (.t 16) (.c (.imm true (.bool false))))⟩, ⟨none, (.mv 4 (.t 17))⟩] none (some ([4], []))
def w39_1 := @awpR_no Try.prog Q σ r39_1 _ _ ⟨rfl, rfl⟩
def my39 : MC := (.seq r39_0 (.seq r39_1 .ret))
theorem my39_is : trC Try.prog ⟨[2, 3], []⟩ ⟨[],
  [(0, [2, 3], []), (1, [4], [])]⟩ 18 (Try.f39.body.getD .skip) = some my39 := by kernel_rfl
theorem does39 {args : List LV} (hl : args.length.ble 18 = true) {S S' : List (List LV)} (hS : S'.length = S.length) {o : Out} (h : Lt ⟨numE 0 args, argS 0 S, []⟩ (awp Try.prog my39 (Fin [(.t 4)] o S'))) : Does Try.prog 39 args S o S' :=
  does_of_awp mixed Try.func39 (by kernel_rfl) (by kernel_rfl) my39_is (by kernel_rfl) (Nat.le_of_ble_eq_true hl) hS h
attribute [go_sem ↓] w39_0 w39_1
attribute [go_sem] my39
end Go.Proofs.Ytopgmopdjiahmaa.Lg

/- Types: what the functions on types answer. Conditions: none; plain definitions and lemmas. -/
set_option linter.unusedVariables false
set_option linter.unusedSimpArgs false
set_option maxRecDepth 100000
namespace Go.Proofs.Ytopgmopdjiahmaa.Lg
open Go Go.RowKit Go.Proofs

inductive Ty where
  | mk (k : Int) (ts : List Ty)
theorem Ty.ind {motive : Ty → Prop} (h : ∀ k ts, (∀ t ∈ ts, motive t) → motive (.mk k ts)) : ∀ t, motive t
  | .mk k ts => h k ts fun t ht => Ty.ind h t
termination_by t => SizeOf.sizeOf t
decreasing_by have := List.sizeOf_lt_of_mem ht; simp; omega
mutual
def Ty.cells : Ty → List IV
  | .mk k ts => [.int .i8 k, .slice (Ty.cellsL ts)]
def Ty.cellsL : List Ty → List (List IV)
  | [] => []
  | t :: r => t.cells :: Ty.cellsL r
end
theorem Ty.cellsL_len : ∀ ts : List Ty, (Ty.cellsL ts).length = ts.length
  | [] => rfl
  | t :: r => by simp [Ty.cellsL, Ty.cellsL_len r]
theorem Ty.cellsL_at : ∀ (ts : List Ty) (j : Nat) (h : j < ts.length), (Ty.cellsL ts)[j]? = some ts[j].cells
  | t :: r, 0, h => by simp [Ty.cellsL]
  | t :: r, j + 1, h => by simpa [Ty.cellsL] using Ty.cellsL_at r j (by simpa using h)
theorem Ty.cells_len (t : Ty) : t.cells.length = 2 := by cases t; simp [Ty.cells]
mutual
def Ty.fits : Ty → Prop
  | .mk _ ts => ts.length ≤ 9223372036854775807 ∧ Ty.fitsL ts
def Ty.fitsL : List Ty → Prop
  | [] => True
  | t :: r => t.fits ∧ Ty.fitsL r
end
theorem Ty.fitsL_mem : ∀ {ts : List Ty}, Ty.fitsL ts → ∀ t ∈ ts, t.fits
  | a :: r, h, t, ht => by
    simp only [Ty.fitsL] at h
    rcases List.mem_cons.1 ht with rfl | ht
    · exact h.1
    · exact Ty.fitsL_mem h.2 t ht

theorem Ty.kid {ts : List Ty} {j : Nat} (h : j < ts.length) : ∃ k' ts', Ty.mk k' ts' ∈ ts ∧ (Ty.cellsL ts)[j]? = some [.int .i8 k', .slice (Ty.cellsL ts')] ∧ ts.drop j = .mk k' ts' :: ts.drop (j + 1) ∧ ts[j]? = some (.mk k' ts') := by
  have hat := Ty.cellsL_at ts j h
  have hdr := List.drop_eq_getElem_cons h
  have hm := List.getElem_mem h
  have hg : ts[j]? = some ts[j] := by simp
  generalize ts[j] = t at hat hdr hm hg
  obtain ⟨k', ts'⟩ := t
  exact ⟨k', ts', hm, hat, hdr, hg⟩
theorem wrap64 {n : Int} (h : -9223372036854775808 ≤ n) (h' : n ≤ 9223372036854775807) : IntKind.i64.wrap n = n := by
  unfold IntKind.wrap
  simp only [show IntKind.i64.bits = 64 from rfl, show IntKind.i64.signed = true from rfl, Bool.true_and, decide_eq_true_eq]
  rw [show (2:Int)^64 = 18446744073709551616 from rfl, show (2:Int)^(64-1) = 9223372036854775808 from rfl]
  split <;> omega

def partsF (k : Int) : Int := if k = 0 ∨ k = 1 ∨ k = 2 then 0 else if k = 3 ∨ k = 4 ∨ k = 5 then 2 else -1
mutual
def Ty.right : Ty → Bool
  | .mk k ts => (partsF k == ts.length) && Ty.rightL ts
def Ty.rightL : List Ty → Bool
  | [] => true
  | t :: r => t.right && Ty.rightL r
end

theorem parts_does (k : Int) (b : Bool) : Does Try.prog 66 [.imm b (.int .i8 k)] [] (.ret true (.int .i64 (partsF k))) [] := by
  refine does66 (by rfl) (by rfl) ?_
  (try simp (implicitDefEqProofs := false) only [go_sem, ↓reduceIte, Nat.reduceEqDiff, reduceCtorEq, Nat.reduceAdd, Nat.reduceSub, Nat.reduceLeDiff, Nat.reduceLT, Nat.reduceMul, Int.reduceToNat, Int.reduceLT, Int.reduceLE, CondOn_imm])
  simp only [beq_iff_eq, beq_eq_false_iff_ne, partsF]
  refine ⟨?_, ?_⟩ <;> intros <;> (repeat' (first | refine And.intro ?_ ?_ | intro _)) <;> simp_all

theorem right_does : ∀ t : Ty, t.fits → Does Try.prog 71 [.imm false (.agg t.cells)] [] (.ret true (.bool t.right)) [] := by
  refine Ty.ind fun k ts ih hf => ?_
  refine does71 (by rfl) (by rfl) ?_
  (try simp (implicitDefEqProofs := false) only [go_sem, ↓reduceIte, Nat.reduceEqDiff, reduceCtorEq, Nat.reduceAdd, Nat.reduceSub, Nat.reduceLeDiff, Nat.reduceLT, Nat.reduceMul, Int.reduceToNat, Int.reduceLT, Int.reduceLE, Ty.cells])
  refine CallK_do (parts_does k false) ?_
  (try simp (implicitDefEqProofs := false) only [go_sem, ↓reduceIte, Nat.reduceEqDiff, reduceCtorEq, Nat.reduceAdd, Nat.reduceSub, Nat.reduceLeDiff, Nat.reduceLT, Nat.reduceMul, Int.reduceToNat, Int.reduceLT, Int.reduceLE, Ty.cellsL_len, CondOn_imm])
  refine ⟨fun h => ?_, fun h => ?_⟩
  · simp only [Ty.right]
    simp_all
  have hk : partsF k = ts.length := by simpa using h
  refine ⟨fun n σ => ∃ j f, j ≤ ts.length ∧ n = ts.length - j ∧ (Ty.rightL ts = Ty.rightL (ts.drop j)) ∧ σ = ⟨[(13, .imm f (.slice (Ty.cellsL ts))), (14, .imm true (.int .i64 ts.length)), (15, .imm true (.int .i64 j))], [], []⟩, ⟨_, 0, _, by omega, rfl, rfl, rfl⟩, ?_⟩
  rintro n σ ⟨j, f, hj, rfl, hr, rfl⟩
  unfold l71_0
  (try simp (implicitDefEqProofs := false) only [go_sem, ↓reduceIte, Nat.reduceEqDiff, reduceCtorEq, Nat.reduceAdd, Nat.reduceSub, Nat.reduceLeDiff, Nat.reduceLT, Nat.reduceMul, Int.reduceToNat, Int.reduceLT, Int.reduceLE, CondOn_imm])
  refine ⟨fun hlt => ?_, fun hlt => ?_⟩
  · have hlt : j < ts.length := by simpa using hlt
    obtain ⟨k', ts', hm, hat, hdr, _⟩ := Ty.kid hlt
    (try simp (implicitDefEqProofs := false) only [go_sem, ↓reduceIte, Nat.reduceEqDiff, reduceCtorEq, Nat.reduceAdd, Nat.reduceSub, Nat.reduceLeDiff, Nat.reduceLT, Nat.reduceMul, Int.reduceToNat, Int.reduceLT, Int.reduceLE, hat, Int.toNat_natCast, Int.natCast_nonneg])
    refine CallK_do (ih _ hm (Ty.fitsL_mem (by simpa [Ty.fits] using hf.2) _ hm)) ?_
    (try simp (implicitDefEqProofs := false) only [go_sem, ↓reduceIte, Nat.reduceEqDiff, reduceCtorEq, Nat.reduceAdd, Nat.reduceSub, Nat.reduceLeDiff, Nat.reduceLT, Nat.reduceMul, Int.reduceToNat, Int.reduceLT, Int.reduceLE, CondOn_imm])
    rw [hdr, Ty.rightL] at hr
    refine ⟨fun hb => ?_, fun hb => ?_⟩
    · have hb : (Ty.mk k' ts').right = false := by simpa using hb
      rw [Ty.right, hr, hb]; simp
    · have hb : (Ty.mk k' ts').right = true := by simpa using hb
      have hfl : ts.length ≤ 9223372036854775807 := hf.1
      (try simp (implicitDefEqProofs := false) only [go_sem, ↓reduceIte, Nat.reduceEqDiff, reduceCtorEq, Nat.reduceAdd, Nat.reduceSub, Nat.reduceLeDiff, Nat.reduceLT, Nat.reduceMul, Int.reduceToNat, Int.reduceLT, Int.reduceLE, wrap64 (n := (j : Int) + 1) (by omega) (by omega)])
      exact ⟨_, by omega, j + 1, _, by omega, rfl, by rw [hr, hb, Bool.true_and], rfl⟩
  · have hge : j = ts.length := by have : ¬ j < ts.length := by simpa using hlt
                                   omega
    (try simp (implicitDefEqProofs := false) only [go_sem, ↓reduceIte, Nat.reduceEqDiff, reduceCtorEq, Nat.reduceAdd, Nat.reduceSub, Nat.reduceLeDiff, Nat.reduceLT, Nat.reduceMul, Int.reduceToNat, Int.reduceLT, Int.reduceLE])
    subst hge
    simp [Ty.right, hk, hr, Ty.rightL]

mutual
def Ty.nodes : Ty → Nat
  | .mk _ ts => 1 + Ty.nodesL ts
def Ty.nodesL : List Ty → Nat
  | [] => 0
  | t :: r => t.nodes + Ty.nodesL r
end

def countO (n : Nat) (t : Ty) : Out := if n + t.nodes ≤ 8192 then .ret true (.tup []) else .pan 89
def countN (n : Nat) (t : Ty) : Int := if n + t.nodes ≤ 8192 then ((n + t.nodes : Nat) : Int) else 8193
theorem count_does : ∀ t : Ty, t.fits → ∀ n : Nat, n ≤ 8192 → Does Try.prog 73 [.loc (.arg 0) 0, .imm false (.agg t.cells)] [[.imm false (.int .i64 n)]] (countO n t) [[.imm false (.int .i64 (countN n t))]] := by
  refine Ty.ind fun k ts ih hf n hn => ?_
  refine does73 (by rfl) (by rfl) ?_
  have w1 := wrap64 (n := (n : Int) + 1) (by omega) (by omega)
  (try simp (implicitDefEqProofs := false) only [go_sem, ↓reduceIte, Nat.reduceEqDiff, reduceCtorEq, Nat.reduceAdd, Nat.reduceSub, Nat.reduceLeDiff, Nat.reduceLT, Nat.reduceMul, Int.reduceToNat, Int.reduceLT, Int.reduceLE, Ty.cells, w1, CondOn_imm])
  refine ⟨fun h => ?_, fun h => ?_⟩
  · have h : (n : Int) = 8192 := by have : (8192 : Int) < (n : Int) + 1 := by simpa using h
                                    omega
    have h2 : ¬ (n + (Ty.mk k ts).nodes ≤ 8192) := by simp [Ty.nodes]; omega
    (try simp (implicitDefEqProofs := false) only [go_sem, ↓reduceIte, Nat.reduceEqDiff, reduceCtorEq, Nat.reduceAdd, Nat.reduceSub, Nat.reduceLeDiff, Nat.reduceLT, Nat.reduceMul, Int.reduceToNat, Int.reduceLT, Int.reduceLE, countO, countN, h2, if_false, h])
    simp
  have hn' : n + 1 ≤ 8192 := by have : ¬ ((8192 : Int) < (n : Int) + 1) := by simpa using h
                                omega
  have hl : ts.length ≤ 9223372036854775807 := hf.1
  rw [Ty.cellsL_len]
  refine ⟨fun m σ => ∃ j f g n', j ≤ ts.length ∧ m = ts.length - j ∧ n' ≤ 8192 ∧ n + 1 + Ty.nodesL ts = n' + Ty.nodesL (ts.drop j) ∧ σ = ⟨[(0, .loc (.arg 0) 0), (21, .imm f (.slice (Ty.cellsL ts))), (22, .imm true (.int .i64 ts.length)), (23, .imm true (.int .i64 j))], [(.arg 0, .var [.imm g (.int .i64 (n' : Nat))])], []⟩, ⟨_, 0, _, _, n + 1, by omega, rfl, hn', rfl, rfl⟩, ?_⟩
  rintro m σ ⟨j, f, g, n', hj, rfl, hn2, hs, rfl⟩
  unfold l73_0
  (try simp (implicitDefEqProofs := false) only [go_sem, ↓reduceIte, Nat.reduceEqDiff, reduceCtorEq, Nat.reduceAdd, Nat.reduceSub, Nat.reduceLeDiff, Nat.reduceLT, Nat.reduceMul, Int.reduceToNat, Int.reduceLT, Int.reduceLE, CondOn_imm])
  refine ⟨fun hlt => ?_, fun hlt => ?_⟩
  · have hlt : j < ts.length := by simpa using hlt
    obtain ⟨k', ts', hm, hat, hdr, _⟩ := Ty.kid hlt
    rw [hdr, Ty.nodesL] at hs
    (try simp (implicitDefEqProofs := false) only [go_sem, ↓reduceIte, Nat.reduceEqDiff, reduceCtorEq, Nat.reduceAdd, Nat.reduceSub, Nat.reduceLeDiff, Nat.reduceLT, Nat.reduceMul, Int.reduceToNat, Int.reduceLT, Int.reduceLE, hat, Int.toNat_natCast, Int.natCast_nonneg])
    refine CallBK_do (ih _ hm (Ty.fitsL_mem (by simpa [Ty.fits] using hf.2) _ hm) n' hn2) ?_
    by_cases hc : n' + (Ty.mk k' ts').nodes ≤ 8192
    · simp only [countO, countN, if_pos hc]
      (try simp (implicitDefEqProofs := false) only [go_sem, ↓reduceIte, Nat.reduceEqDiff, reduceCtorEq, Nat.reduceAdd, Nat.reduceSub, Nat.reduceLeDiff, Nat.reduceLT, Nat.reduceMul, Int.reduceToNat, Int.reduceLT, Int.reduceLE, wrap64 (n := (j : Int) + 1) (by omega) (by omega)])
      exact ⟨_, by omega, j + 1, _, _, n' + (Ty.mk k' ts').nodes, by omega, rfl, hc, by omega, rfl⟩
    · have h2 : ¬ (n + (Ty.mk k ts).nodes ≤ 8192) := by simp [Ty.nodes]; omega
      simp only [countO, countN, if_neg hc, if_neg h2]
      (try simp (implicitDefEqProofs := false) only [go_sem, ↓reduceIte, Nat.reduceEqDiff, reduceCtorEq, Nat.reduceAdd, Nat.reduceSub, Nat.reduceLeDiff, Nat.reduceLT, Nat.reduceMul, Int.reduceToNat, Int.reduceLT, Int.reduceLE])
  · have hge : j = ts.length := by have : ¬ j < ts.length := by simpa using hlt
                                   omega
    subst hge
    simp only [List.drop_length, Ty.nodesL] at hs
    have h2 : (n + (Ty.mk k ts).nodes ≤ 8192) := by simp [Ty.nodes]; omega
    have h3 : ((n + (Ty.mk k ts).nodes : Nat) : Int) = (n' : Int) := by simp only [Ty.nodes]; omega
    (try simp (implicitDefEqProofs := false) only [go_sem, ↓reduceIte, Nat.reduceEqDiff, reduceCtorEq, Nat.reduceAdd, Nat.reduceSub, Nat.reduceLeDiff, Nat.reduceLT, Nat.reduceMul, Int.reduceToNat, Int.reduceLT, Int.reduceLE, countO, countN, if_pos h2, h3])

/-! ### how deep -/
mutual
def Ty.deep : Ty → Int → Int
  | .mk _ ts, n => if n ≤ 1 then n else Ty.deepL ts (n - 1) 0 + 1
def Ty.deepL : List Ty → Int → Int → Int
  | [], _, d => d
  | t :: r, n, d => Ty.deepL r n (if t.deep n > d then t.deep n else d)
end
mutual
theorem Ty.deep_le : ∀ (t : Ty) (n : Int), t.deep n ≤ max n 1 ∧ (0 < n → 0 < t.deep n)
  | .mk _ ts, n => by
    simp only [Ty.deep]
    split
    · omega
    · have := Ty.deepL_le ts (n - 1) 0 (by omega) (by omega)
      omega
theorem Ty.deepL_le : ∀ (ts : List Ty) (n d : Int), 0 ≤ d → d ≤ max n 1 → d ≤ Ty.deepL ts n d ∧ Ty.deepL ts n d ≤ max n 1
  | [], n, d, h, h' => by simp only [Ty.deepL]; omega
  | t :: r, n, d, h, h' => by
    simp only [Ty.deepL]
    have h1 := Ty.deep_le t n
    have h2 := Ty.deepL_le r n (if t.deep n > d then t.deep n else d) (by split <;> omega) (by split <;> omega)
    constructor
    · have := h2.1; split at this <;> split <;> omega
    · exact h2.2
end
theorem deep_does : ∀ t : Ty, t.fits → ∀ n : Int, n ≤ 201 → -1000 ≤ n → Does Try.prog 109 [.imm false (.agg t.cells), .imm false (.int .i64 n)] [] (.ret true (.int .i64 (t.deep n))) [] := by
  refine Ty.ind fun k ts ih hf n hn hn0 => ?_
  refine does109 (by rfl) (by rfl) ?_
  (try simp (implicitDefEqProofs := false) only [go_sem, ↓reduceIte, Nat.reduceEqDiff, reduceCtorEq, Nat.reduceAdd, Nat.reduceSub, Nat.reduceLeDiff, Nat.reduceLT, Nat.reduceMul, Int.reduceToNat, Int.reduceLT, Int.reduceLE, Ty.cells, CondOn_imm, Ty.cellsL_len])
  refine ⟨fun h => ?_, fun h => ?_⟩
  · simp only [Ty.deep, if_pos (of_decide_eq_true h)]
  have h1 : ¬ (n ≤ 1) := by simpa using h
  have hfl : ts.length ≤ 9223372036854775807 := hf.1
  have e0 : (Ty.mk k ts).deep n = Ty.deepL ts (n - 1) 0 + 1 := by simp only [Ty.deep, if_neg h1]
  refine ⟨fun m σ => ∃ j f d, j ≤ ts.length ∧ m = ts.length - j ∧ 0 ≤ d ∧ d ≤ 200 ∧ Ty.deepL ts (n - 1) 0 = Ty.deepL (ts.drop j) (n - 1) d ∧ σ = ⟨[(1, .imm false (.int .i64 n)), (5, .imm true (.int .i64 d)), (12, .imm f (.slice (Ty.cellsL ts))), (13, .imm true (.int .i64 ts.length)), (14, .imm true (.int .i64 j))], [], []⟩, ⟨_, 0, _, 0, by omega, rfl, by omega, by omega, rfl, rfl⟩, ?_⟩
  rintro m σ ⟨j, f, d, hj, rfl, hd0, hd1, hs, rfl⟩
  unfold l109_0
  (try simp (implicitDefEqProofs := false) only [go_sem, ↓reduceIte, Nat.reduceEqDiff, reduceCtorEq, Nat.reduceAdd, Nat.reduceSub, Nat.reduceLeDiff, Nat.reduceLT, Nat.reduceMul, Int.reduceToNat, Int.reduceLT, Int.reduceLE, CondOn_imm])
  refine ⟨fun hlt => ?_, fun hlt => ?_⟩
  · have hlt : j < ts.length := by simpa using hlt
    obtain ⟨k', ts', hm, hat, hdr, _⟩ := Ty.kid hlt
    rw [hdr, Ty.deepL] at hs
    have hb := Ty.deep_le (.mk k' ts') (n - 1)
    (try simp (implicitDefEqProofs := false) only [go_sem, ↓reduceIte, Nat.reduceEqDiff, reduceCtorEq, Nat.reduceAdd, Nat.reduceSub, Nat.reduceLeDiff, Nat.reduceLT, Nat.reduceMul, Int.reduceToNat, Int.reduceLT, Int.reduceLE, hat, Int.toNat_natCast, Int.natCast_nonneg, wrap64 (n := n - 1) (by omega) (by omega)])
    refine CallK_do (ih _ hm (Ty.fitsL_mem (by simpa [Ty.fits] using hf.2) _ hm) (n - 1) (by omega) (by omega)) ?_
    (try simp (implicitDefEqProofs := false) only [go_sem, ↓reduceIte, Nat.reduceEqDiff, reduceCtorEq, Nat.reduceAdd, Nat.reduceSub, Nat.reduceLeDiff, Nat.reduceLT, Nat.reduceMul, Int.reduceToNat, Int.reduceLT, Int.reduceLE, wrap64 (n := (j : Int) + 1) (by omega) (by omega)])
    exact ⟨_, by omega, j + 1, _, _, by omega, rfl, by split <;> omega, by split <;> omega, hs, rfl⟩
  · have hge : j = ts.length := by have : ¬ j < ts.length := by simpa using hlt
                                   omega
    subst hge
    simp only [List.drop_length, Ty.deepL] at hs
    (try simp (implicitDefEqProofs := false) only [go_sem, ↓reduceIte, Nat.reduceEqDiff, reduceCtorEq, Nat.reduceAdd, Nat.reduceSub, Nat.reduceLeDiff, Nat.reduceLT, Nat.reduceMul, Int.reduceToNat, Int.reduceLT, Int.reduceLE, wrap64 (n := d + 1) (by omega) (by omega), e0, hs])
end Go.Proofs.Ytopgmopdjiahmaa.Lg

/- The closure that catches a count's end. Conditions: none; plain lemmas. -/
set_option linter.unusedVariables false
set_option linter.unusedSimpArgs false
set_option maxRecDepth 100000
namespace Go.Proofs.Ytopgmopdjiahmaa.Lg
open Go Go.RowKit Go.Proofs

theorem idle72 (p : Addr) (w : World) :
    CallsD Try.prog 72 #[.pointer (some p)] .returning w fun e u' w' => e = .returned (.tuple #[]) ∧ u' = .returning ∧ w' = w := by
  refine callsD_of_wpS Try.func72 rfl fun c₀ cs hu => ?_
  apply wpS_seq
  apply wpS_region
  simp [wpOpsS, go_sem, recoverD, hu, Try.ntmps72, Exit.thenS]
  refine wpS_of_wp (wp_block (wp_seq (wp_region ?_)))
  simp [wpOps, go_sem]
  refine .inl (wp_cond (t := true) (by simp [Act.eval, Array.replicate]) ?_)
  simp only [if_true]
  apply wp_region
  simp [wpOps, go_sem, Exit.inBlock]
  cases c₀
  simp_all [bodyPostS, results, Try.results72]

theorem catch72 (n : Nat) (x : Int) (w : World) (hn : n < w.heap.size) (hc : w.cell? ⟨n, 0, none⟩ = some (.int .i64 x)) (hz : w.frozen? ⟨n, 0, none⟩ = false) :
    CallsD Try.prog 72 #[.pointer (some ⟨n, 0, none⟩)] (.panicking [{ v := .iface 89 (.agg #[]), recovered := false }]) w fun e u' w' =>
      e = .returned (.tuple #[]) ∧ u' = .panicking [{ v := .iface 89 (.agg #[]), recovered := true }] ∧ w' = (w.alloc (.cells #[] 89)).setCell ⟨n, 0, none⟩ (.int .i64 8193) := by
  refine callsD_of_wpS Try.func72 rfl fun c₀ cs hu => ?_
  apply wpS_seq
  apply wpS_region
  simp [wpOpsS, go_sem, recoverD, hu, Try.ntmps72, Exit.thenS]
  refine wpS_of_wp (wp_block (wp_seq (wp_region ?_)))
  simp [wpOps, go_sem]
  refine .inl (wp_cond (t := false) (by simp [Act.eval, Array.replicate]) ?_)
  simp only [Bool.false_eq_true, if_false]
  refine wp_seq (wp_region ?_)
  simp [wpOps, go_sem, Exit.then, Instr.typeAssert, run_underlying Try.underlying89]
  refine .inl (.inl (.inl (wp_cond (t := true) (by simp [Act.eval, Array.replicate]) ?_)))
  simp only [if_true]
  refine wp_seq (wp_region ?_)
  simp [wpOps, go_sem, Exit.then, hc, hz]
  refine .inl (.inl (wp_region ?_))
  simp [wpOps, go_sem, Exit.inBlock, hn, hc, hz]
  simp [bodyPostS, results, Try.results72, go_sem, hn, hc, hz]


def cA : Code → Code
  | .seq a _ => a
  | c => c
def cB : Code → Code
  | .seq _ b => b
  | c => c
def nodesF (n : Nat) : Int := if n ≤ 8192 then (n : Int) else 8193

noncomputable def bd38 : Code := Try.f38.body.getD .skip
theorem body38 : Try.f38.body = some (.seq (cA bd38) (.seq (cA (cB bd38)) (.seq (.region 2 #[{ dst := some 6, op := .makeFunc (.func 72) #[] #[.tmp 2], type := 1, pos := "types.go:37", after := #[], guard := none }, { dst := none, op := .defer { callee := .value (.tmp 6), args := #[], argTypes := #[] }, type := 0, pos := "types.go:37", after := #[{ on := 0, ground := .data }], guard := none }] false) (cB (cB (cB bd38)))))) := by kernel_rfl
def m38a : MC := .reg [⟨none, .boxc 1 (.t 0)⟩, ⟨none, .alloc 2 [.imm true (.int .i64 0)]⟩] none (some ([1, 2], [2]))
def m38b : MC := .reg [⟨none, .build 4 [.imm true (.int .i64 0)] []⟩, ⟨none, .box 5 (.t 4)⟩, ⟨none, .mv 3 (.t 5)⟩] none (some ([1, 2, 3], [2, 5]))
def m38c : MC := .seq (.reg [⟨none, .mv 7 (.t 3)⟩, ⟨none, .load 8 (.t 1) (some 2)⟩, ⟨none, .callB (some 9) (.c (.fn 73 [])) [.t 7, .t 8] [.arg 1]⟩] none (some ([2, 3], [])))
  (.seq (.reg [⟨none, .mv 10 (.t 3)⟩, ⟨none, .nilc 11 (.t 10)⟩, ⟨none, .fad 12 (.t 11) 0⟩, ⟨none, .load 13 (.t 12) none⟩, ⟨none, .store (.t 2) (.t 13) 1⟩] none (some ([2], []))) .ret)
theorem m38a_is : trC Try.prog ⟨[1], []⟩ ⟨[], [(0, [1, 2], [2])]⟩ 14 (cA bd38) = some m38a := by kernel_rfl
theorem m38b_is : trC Try.prog ⟨[], []⟩ ⟨[], [(1, [1, 2, 3], [2, 5])]⟩ 14 (cA (cB bd38)) = some m38b := by kernel_rfl
theorem m38c_is : trC Try.prog ⟨[], [(9, [.arg 1])]⟩ ⟨[], [(3, [2, 3], []), (4, [2], [])]⟩ 14 (cB (cB (cB bd38))) = some m38c := by kernel_rfl

theorem defer_two {cx : Cx} {σ : St} {M : Pl} {a : Act} {w : World} {f : FuncId} {b : Nat} (pos : String) (h2 : a.tmps.getD 2 undef = .pointer (some ⟨b, 0, none⟩)) (hsz : 6 < a.tmps.size) {Q : Exit → Act → World → Prop}
    (hQ : Q .normal { tmps := (a.put (some 6) (.func (.func f) #[] #[.pointer (some ⟨b, 0, none⟩)])).tmps, defers := { target := .fn (.func f) #[.pointer (some ⟨b, 0, none⟩)], args := #[] } :: a.defers } w) :
    wpOps Try.prog #[{ dst := some 6, op := .makeFunc (.func f) #[] #[.tmp 2], type := 1, pos := pos, after := #[], guard := none }, { dst := none, op := .defer { callee := .value (.tmp 6), args := #[], argTypes := #[] }, type := 0, pos := pos, after := #[{ on := 0, ground := .data }], guard := none }] Q (List.range 2) a w := by
  have hmf : ∀ (fn : Fn) (first cap : Array Value) (w : World), (Instr.makeFunc fn first cap).run Try.prog w = .ok (.func fn first cap) w := fun _ _ _ _ => rfl
  have h6 : (a.put (some 6) (.func (.func f) #[] #[.pointer (some ⟨b, 0, none⟩)])).eval (.tmp 6) = .func (.func f) #[] #[.pointer (some ⟨b, 0, none⟩)] := by
    simp [Act.eval, Act.put, hsz]
  have h2' : a.eval (.tmp 2) = .pointer (some ⟨b, 0, none⟩) := h2
  have h3 : a.tmps[2]?.getD undef = .pointer (some ⟨b, 0, none⟩) := by rw [← Array.getD_eq_getD_getElem?]; exact h2
  simp [wpOps, List.range_succ, Region.wanted, Oper.upon, execOp, hmf, h2', h6, go_sem, hsz, h3]
  refine .inl (.inl ?_)
  simpa [Act.put, h3] using hQ

theorem Inv.bare {cx : Cx} {M : Pl} {w : World} (hna : cx.na = 0) (hd : cx.dfs = []) (h1 : w.os = cx.w.os) (h2 : w.tape = cx.w.tape) (h3 : w.output = cx.w.output) (h4 : cx.w.heap.size ≤ w.heap.size) (h5 : ∀ b, b < cx.w.heap.size → w.heap[b]? = cx.w.heap[b]?) : Inv cx ⟨[], argS 0 [], []⟩ M ⟨#[], []⟩ w :=
  { os := h1, tape := h2, output := h3, size := h4, frame := fun b hb _ => h5 b hb
    plc := fun k hk => by simp [argS, getB] at hk
    box := fun k b pl hk _ => by simp [argS, getB] at hk
    own := fun t pl ht _ => by simp [argS, getB] at ht
    arg := fun i hi => by simp [argS, getB] at hi
    argM := fun i hi => by omega
    argz := fun i hi => nomatch hi
    inj := fun k k' b c c' hk => by simp [argS, getB] at hk
    env := fun t => .undef _
    defers := hd.symm }

theorem Inv.entry {cx : Cx} {S : List (List LV)} {M : Pl} {args : List LV} {vals : List Value} {n : Nat} (hI : Inv cx ⟨[], argS 0 S, []⟩ M ⟨#[], []⟩ cx.w) (hR : Rows2 (RR cx (argS 0 S) [] M cx.w) args vals) : Inv cx ⟨numE 0 args, argS 0 S, []⟩ M ⟨vals.toArray ++ Array.replicate n undef, []⟩ cx.w :=
  { os := hI.os, tape := hI.tape, output := hI.output, size := hI.size, frame := hI.frame, plc := hI.plc, box := hI.box, own := hI.own, arg := hI.arg, argM := hI.argM, argz := hI.argz, inj := hI.inj, defers := hI.defers
    env := fun t => by
      have hlen : vals.length = args.length := hR.1
      have hg : getE (numE 0 args) t = args.getD t .undef := by rw [getE_numE]; simp
      show RR cx _ _ M _ (getE (numE 0 args) t) _
      rw [hg]
      by_cases ht : t < args.length
      · have : (vals.toArray ++ Array.replicate n undef).getD t undef = vals[t]'(by omega) := by
          rw [Array.getD_eq_getD_getElem?, Array.getElem?_append_left (by simp; omega)]
          simp [hlen, ht]
        rw [this]
        have e : args.getD t .undef = args[t] := by simp [List.getD_eq_getElem?_getD, ht]
        rw [e]
        exact hR.2 t ht (by omega)
      · have e : args.getD t .undef = .undef := by rw [List.getD_eq_getElem?_getD, List.getElem?_eq_none (by omega)]; rfl
        rw [e]; exact .undef _ }

theorem nodes_does (t : Ty) (hf : t.fits) : Does Try.prog 38 [.imm false (.agg t.cells)] [] (.ret true (.int .i64 (nodesF t.nodes))) [] := by
  refine ⟨⟨Try.f38, Try.func38, by kernel_rfl, by kernel_rfl⟩, rfl, fun cx M vals hna hI hR => ?_⟩
  have hlen : vals.length = 1 := hR.1
  have hdf : cx.dfs = [] := hI.defers.symm
  refine calls_of_wp_defers Try.func38 body38 ?_
  obtain ⟨k, ts⟩ := t
  -- the beginning
  refine wp_seq (awp_sound (cx := cx) mixed _ _ m38a_is (fun e σ => e = .normal ∧ ∃ f, σ = ⟨[(1, .imm f (.ptr (Ty.mk k ts).cells 0)), (2, .loc (.own 2) 0)], [(.own 2, .var [.imm true (.int .i64 0)])], []⟩) _ (fun e σ M1 a1 w1 hq hI1 hn1 => ?_) ⟨numE 0 [.imm false (.agg (Ty.mk k ts).cells)], argS 0 [], []⟩ M _ _ ?_ (hI.entry hR) (by simp [Try.ntmps38, hlen]))
  rotate_left
  · rw [awpR_get (m := m38a) (D := [2]) ⟨rfl, rfl⟩]
    (try simp (implicitDefEqProofs := false) only [go_sem, ↓reduceIte, Nat.reduceEqDiff, reduceCtorEq, Nat.reduceAdd, Nat.reduceSub, Nat.reduceLeDiff, Nat.reduceLT, Nat.reduceMul, Int.reduceToNat, Int.reduceLT, Int.reduceLE, Ty.cells])
    exact ⟨_, rfl⟩
  obtain ⟨rfl, f, rfl⟩ := hq
  have hn1 := hn1 rfl
  refine wp_seq (awp_sound (cx := cx) mixed _ _ m38b_is (fun e σ => e = .normal ∧ σ = ⟨[(1, .imm f (.ptr (Ty.mk k ts).cells 0)), (2, .loc (.own 2) 0), (3, .loc (.own 5) 0)], [(.own 2, .var [.imm true (.int .i64 0)]), (.own 5, .var [.imm true (.int .i64 0)])], []⟩) _ (fun e σ M2 a2 w2 hq hI2 hn2 => ?_) _ M1 _ _ ?_ hI1 hn1)
  rotate_left
  · rw [awpR_get (m := m38b) (D := [5]) ⟨rfl, rfl⟩]
    (try simp (implicitDefEqProofs := false) only [go_sem, ↓reduceIte, Nat.reduceEqDiff, reduceCtorEq, Nat.reduceAdd, Nat.reduceSub, Nat.reduceLeDiff, Nat.reduceLT, Nat.reduceMul, Int.reduceToNat, Int.reduceLT, Int.reduceLE, Ty.cells])
  obtain ⟨rfl, rfl⟩ := hq
  have hn2 := hn2 rfl
  -- where the two variables lie
  have he2 := hI2.env 2
  have he3 := hI2.env 3
  have he1 := hI2.env 1
  simp only [getE, show (1 : Nat) = 2 ↔ False by simp, show (1 : Nat) = 3 ↔ False by simp, show (2 : Nat) = 3 ↔ False by simp, if_true, if_false] at he1 he2 he3
  obtain ⟨⟨b2, c2⟩, hp2⟩ := hI2.plc (.own 2) (by simp [getB])
  obtain ⟨⟨b5, c5⟩, hp5⟩ := hI2.plc (.own 5) (by simp [getB])
  have hb2 : cx.w.heap.size ≤ b2 := hI2.own 2 _ (by simp [getB]) hp2
  have hb5 : cx.w.heap.size ≤ b5 := hI2.own 5 _ (by simp [getB]) hp5
  have hv2 : a2.tmps.getD 2 undef = .pointer (some ⟨b2, 0, none⟩) := by
    generalize a2.tmps.getD 2 undef = x at he2
    cases he2 with
    | loc k off b c h => rw [hp2] at h; simp only [Option.some.injEq, Prod.mk.injEq] at h; rw [h.1]
  have hlive : ∀ i (hi : i < [Key.own 2, Key.own 5].length), [Key.own 2, Key.own 5][i] ∉ ([] : List Key) ∧ (getB [(Key.own 2, Box.var [LV.imm true (.int .i64 0)]), (Key.own 5, Box.var [.imm true (.int .i64 0)])] [Key.own 2, Key.own 5][i]).isSome = true := by
    intro i hi
    match i, hi with
    | 0, _ => simp [getB]
    | 1, _ => simp [getB]
  refine wp_seq (wp_region (defer_two (cx := cx) (σ := ⟨[], [], []⟩) (M := M) "types.go:37" hv2 (by omega) ?_))
  have hlent := lent_inv hI2 [.own 2, .own 5] hlive (S := [[.imm false (.int .i64 0)], [.imm false (.int .i64 0)]]) (by simp) (by simp [lendBoxes, St.box, getB, lendL, lend])
  have hm0 : (lentCx hI2 [.own 2, .own 5] hlive).m 0 = b2 := by simp [lentCx, hp2]
  have hm1 : (lentCx hI2 [.own 2, .own 5] hlive).m 1 = b5 := by simp [lentCx, hp5]
  have hna3 : (lentCx hI2 [.own 2, .own 5] hlive).na = 2 := rfl
  have hw3 : (lentCx hI2 [.own 2, .own 5] hlive).w = w2 := rfl
  have le1 := lend_sound hI2 [.own 2, .own 5] hlive (S := [[.imm false (.int .i64 0)], [.imm false (.int .i64 0)]]) (by simp) 4 _ (.imm false (.ptr (Ty.mk k ts).cells 0)) _ (by simp [lend]) he1
  have le2 := lend_sound hI2 [.own 2, .own 5] hlive (S := [[.imm false (.int .i64 0)], [.imm false (.int .i64 0)]]) (by simp) 4 _ (.loc (.arg 0) 0) _ (by simp [lend, findK]) he2
  have le3 := lend_sound hI2 [.own 2, .own 5] hlive (S := [[.imm false (.int .i64 0)], [.imm false (.int .i64 0)]]) (by simp) 4 _ (.loc (.arg 1) 0) _ (by simp [lend, findK]) he3
  generalize lentCx hI2 [.own 2, .own 5] hlive = cx3 at hlent hm0 hm1 hna3 hw3 le1 le2 le3
  have hdd : a2.defers = [] := hI2.defers.trans hdf
  have h4 : Inv { cx3 with dfs := [{ target := .fn (.func 72) #[.pointer (some ⟨b2, 0, none⟩)], args := #[] }] } ⟨[(1, .imm false (.ptr (Ty.mk k ts).cells 0)), (2, .loc (.arg 0) 0), (3, .loc (.arg 1) 0)], argS 0 [[.imm false (.int .i64 0)], [.imm false (.int .i64 0)]], []⟩ (lentM M2 [.own 2, .own 5])
      { tmps := (a2.put (some 6) (.func (.func 72) #[] #[.pointer (some ⟨b2, 0, none⟩)])).tmps, defers := { target := .fn (.func 72) #[.pointer (some ⟨b2, 0, none⟩)], args := #[] } :: a2.defers } w2 :=
    { os := hlent.os, tape := hlent.tape, output := hlent.output, size := hlent.size, frame := hlent.frame, plc := hlent.plc, box := hlent.box, own := hlent.own, arg := hlent.arg, argM := hlent.argM, argz := hlent.argz, inj := hlent.inj
      defers := by rw [hdd]
      env := fun t => by
        have hput : ∀ u, u ≠ 6 → (a2.put (some 6) (.func (.func 72) #[] #[.pointer (some ⟨b2, 0, none⟩)])).tmps.getD u undef = a2.tmps.getD u undef := fun u hu => by
          simp [Act.put, Array.getElem?_setIfInBounds_ne (Ne.symm hu)]
        simp only [getE]
        by_cases e1 : 1 = t
        · subst e1; rw [if_pos rfl, hput 1 (by simp)]; exact le1
        · rw [if_neg e1]
          by_cases e2 : 2 = t
          · subst e2; rw [if_pos rfl, hput 2 (by simp)]; exact le2
          · rw [if_neg e2]
            by_cases e3 : 3 = t
            · subst e3; rw [if_pos rfl, hput 3 (by simp)]; exact le3
            · rw [if_neg e3]; exact .undef _ }
  refine awp_sound mixed _ _ m38c_is (fun e σ => getE σ.e 2 = .loc (.arg 0) 0 ∧ ((e = .ret ∧ (Ty.mk k ts).nodes ≤ 8192 ∧ ∃ g, getB σ.s (.arg 0) = some (.var [.imm g (.int .i64 ((Ty.mk k ts).nodes : Nat))])) ∨ (e = .pan 89 ∧ ¬ (Ty.mk k ts).nodes ≤ 8192 ∧ ∃ g, getB σ.s (.arg 0) = some (.var [.imm g (.int .i64 0)])))) _ (fun e σ M5 a5 w5 hq hI5 hn5 => ?_) _ _ _ _ ?_ h4 (by simp [Act.put, hn2])
  rotate_left
  · unfold m38c
    rw [awp_seq, awpR_get (m := .reg _ none _) (D := []) ⟨rfl, rfl⟩]
    have hc := count_does (Ty.mk k ts) hf 0 (by omega)
    (try simp (implicitDefEqProofs := false) only [go_sem, ↓reduceIte, Nat.reduceEqDiff, reduceCtorEq, Nat.reduceAdd, Nat.reduceSub, Nat.reduceLeDiff, Nat.reduceLT, Nat.reduceMul, Int.reduceToNat, Int.reduceLT, Int.reduceLE, Ty.cells])
    refine CallBK_do hc ?_
    by_cases hle : (Ty.mk k ts).nodes ≤ 8192
    · simp only [countO, countN, Nat.zero_add, if_pos hle]
      (try simp (implicitDefEqProofs := false) only [go_sem, ↓reduceIte, Nat.reduceEqDiff, reduceCtorEq, Nat.reduceAdd, Nat.reduceSub, Nat.reduceLeDiff, Nat.reduceLT, Nat.reduceMul, Int.reduceToNat, Int.reduceLT, Int.reduceLE])
      rw [awpR_get (m := .reg _ none _) (D := []) ⟨rfl, rfl⟩]
      (try simp (implicitDefEqProofs := false) only [go_sem, ↓reduceIte, Nat.reduceEqDiff, reduceCtorEq, Nat.reduceAdd, Nat.reduceSub, Nat.reduceLeDiff, Nat.reduceLT, Nat.reduceMul, Int.reduceToNat, Int.reduceLT, Int.reduceLE])
      exact ⟨hle, _, rfl⟩
    · simp only [countO, countN, Nat.zero_add, if_neg hle]
      (try simp (implicitDefEqProofs := false) only [go_sem, ↓reduceIte, Nat.reduceEqDiff, reduceCtorEq, Nat.reduceAdd, Nat.reduceSub, Nat.reduceLeDiff, Nat.reduceLT, Nat.reduceMul, Int.reduceToNat, Int.reduceLT, Int.reduceLE])
      exact ⟨hle, _, rfl⟩
  obtain ⟨he, hq⟩ := hq
  have hfr : ∀ b, b < cx.w.heap.size → w5.heap[b]? = cx.w.heap[b]? := fun b hb => by
    have h1 := hI5.frame b (by show b < cx3.w.heap.size; rw [hw3]; exact Nat.lt_of_lt_of_le hb hI2.size) (fun i hi => by
      have hi : i < cx3.na := hi
      rw [hna3] at hi
      show cx3.m i ≠ b
      match i, hi with
      | 0, _ => rw [hm0]; omega
      | 1, _ => rw [hm1]; omega)
    have h2 := hI2.frame b hb (fun i hi => by have : cx.na = 0 := hna; omega)
    rw [h1]; show cx3.w.heap[b]? = _; rw [hw3]; exact h2
  have hos : w5.os = cx.w.os := by rw [hI5.os]; show cx3.w.os = _; rw [hw3]; exact hI2.os
  have htape : w5.tape = cx.w.tape := by rw [hI5.tape]; show cx3.w.tape = _; rw [hw3]; exact hI2.tape
  have hout : w5.output = cx.w.output := by rw [hI5.output]; show cx3.w.output = _; rw [hw3]; exact hI2.output
  have hsz3 : cx3.w.heap.size ≤ w5.heap.size := hI5.size
  rw [hw3] at hsz3
  have hsize : cx.w.heap.size ≤ w5.heap.size := Nat.le_trans hI2.size hsz3
  obtain ⟨c, hM0⟩ := hI5.argM 0 (by show 0 < cx3.na; omega)
  have hM0 : M5 (.arg 0) = some (b2, c) := by rw [hM0]; show some (cx3.m 0, c) = _; rw [hm0]
  have hv5 : a5.tmps.getD 2 undef = .pointer (some ⟨b2, 0, none⟩) := by
    have := hI5.env 2
    rw [he] at this
    generalize a5.tmps.getD 2 undef = x at this
    cases this with
    | loc k off b c h => rw [hM0] at h; simp only [Option.some.injEq, Prod.mk.injEq] at h; rw [h.1]
  have hdf5 : a5.defers = [{ target := .fn (.func 72) #[.pointer (some ⟨b2, 0, none⟩)], args := #[] }] := hI5.defers
  have hin : (getB σ.s (.arg 0)).isSome = true → True := fun _ => trivial
  rcases hq with ⟨rfl, hle, g, hbox⟩ | ⟨rfl, hle, g, hbox⟩
  · obtain ⟨vs, e, hheap, hrow, _⟩ := hI5.box _ _ _ hbox hM0
    have hvs : vs = #[.int .i64 ((Ty.mk k ts).nodes : Nat)] := by
      have h1 := hrow.1
      have h2 := hrow.2 0 (by simp) (by rw [h1]; simp)
      have h3 := RepL.imm_iff.1 h2
      obtain ⟨l, rfl⟩ : ∃ l, vs = #[l] := by
        obtain ⟨vs⟩ := vs
        match vs, h1 with
        | [l], _ => exact ⟨l, rfl⟩
      simp only [List.getElem_cons_zero] at h3
      cases h3; rfl
    subst hvs
    have hcell : w5.cell? ⟨b2, 0, none⟩ = some (.int .i64 ((Ty.mk k ts).nodes : Nat)) := by simp [World.cell?, hheap]
    show Leaves _ _ _ _ a5.defers _ _
    rw [hdf5]
    refine leaves_cons (f := 72) (args := #[.pointer (some ⟨b2, 0, none⟩)]) (by simp) (by simp [go_sem]) ?_
    refine (idle72 ⟨b2, 0, none⟩ w5).mono ?_
    rintro e u w ⟨rfl, rfl, rfl⟩
    refine ⟨.int .i64 (nodesF (Ty.mk k ts).nodes), ?_, Inv.bare hna hdf hos htape hout hsize hfr, _, rfl, RepL.imm_iff.2 (.int _ _)⟩
    have hv5' : a5.tmps[2]?.getD undef = .pointer (some ⟨b2, 0, none⟩) := by rw [← Array.getD_eq_getD_getElem?]; exact hv5
    simp [results, Try.results38, hv5', go_sem, hcell, nodesF, hle]
  · obtain ⟨vs, e, hheap, hrow, _⟩ := hI5.box _ _ _ hbox hM0
    have hvs : vs = #[.int .i64 0] := by
      have h1 := hrow.1
      have h2 := hrow.2 0 (by simp) (by rw [h1]; simp)
      have h3 := RepL.imm_iff.1 h2
      obtain ⟨l, rfl⟩ : ∃ l, vs = #[l] := by
        obtain ⟨vs⟩ := vs
        match vs, h1 with
        | [l], _ => exact ⟨l, rfl⟩
      simp only [List.getElem_cons_zero] at h3
      cases h3; rfl
    subst hvs
    have hcell : w5.cell? ⟨b2, 0, none⟩ = some (.int .i64 0) := by simp [World.cell?, hheap]
    have hfz : w5.frozen? ⟨b2, 0, none⟩ = false := by simp [World.frozen?, hheap]
    have hlt : b2 < w5.heap.size := (Array.getElem?_eq_some_iff.1 hheap).1
    show Leaves _ _ _ _ a5.defers _ _
    rw [hdf5]
    refine leaves_cons (f := 72) (args := #[.pointer (some ⟨b2, 0, none⟩)]) (by simp) (by simp [go_sem]) ?_
    refine (catch72 b2 0 w5 hlt hcell hfz).mono ?_
    rintro e u w ⟨rfl, rfl, rfl⟩
    have hc2 : (w5.alloc (.cells #[] 89)).cell? ⟨b2, 0, none⟩ = some (.int .i64 0) := by rw [World.cell?_alloc_past _ _ _ hlt]; exact hcell
    have hc3 : ((w5.alloc (.cells #[] 89)).setCell ⟨b2, 0, none⟩ (.int .i64 8193)).cell? ⟨b2, 0, none⟩ = some (.int .i64 8193) := World.cell?_setCell_same' _ _ _ (by rw [hc2]; rfl)
    refine ⟨.int .i64 (nodesF (Ty.mk k ts).nodes), ?_, Inv.bare hna hdf ?_ ?_ ?_ ?_ ?_, _, rfl, RepL.imm_iff.2 (.int _ _)⟩
    · have hv5' : a5.tmps[2]?.getD undef = .pointer (some ⟨b2, 0, none⟩) := by rw [← Array.getD_eq_getD_getElem?]; exact hv5
      simp [results, Try.results38, hv5', go_sem, hc3, nodesF, hle]
    · exact hos
    · exact htape
    · exact hout
    · show _ ≤ (Array.modify (w5.heap.push _) b2 _).size
      rw [Array.size_modify, Array.size_push]; omega
    · intro b hb
      rw [Below.heap_setCell _ _ _ b (by show b ≠ b2; omega), heap_alloc_old _ _ b (by omega)]
      exact hfr b hb
end Go.Proofs.Ytopgmopdjiahmaa.Lg

/- Types: checks, sameness, agreement, grounds. Conditions: none; plain definitions and lemmas. -/
set_option linter.unusedVariables false
set_option linter.unusedSimpArgs false
set_option maxRecDepth 100000
namespace Go.Proofs.Ytopgmopdjiahmaa.Lg
open Go Go.RowKit Go.Proofs

def Ty.k : Ty → Int
  | .mk k _ => k
def Ty.ts : Ty → List Ty
  | .mk _ ts => ts
def Ty.depth (t : Ty) : Int := if t.nodes ≤ 8192 then t.deep 201 else 201
def Ty.check (t : Ty) : Int := if t.nodes ≤ 8192 then if t.depth > 200 then 31 else if t.right then 0 else 20 else 32
mutual
def Ty.eqv : Ty → Ty → Bool
  | .mk k ts, .mk k' us => k == k' && Ty.eqvL ts us
def Ty.eqvL : List Ty → List Ty → Bool
  | [], _ => true
  | _ :: _, [] => false
  | t :: r, u :: s => t.eqv u && Ty.eqvL r s
end
mutual
def Ty.lev : Ty → Ty → Bool
  | .mk k ts, .mk k' us => if k = 0 ∨ k' = 0 then true else if k ≠ k' then false else Ty.levL ts us
def Ty.levL : List Ty → List Ty → Bool
  | [], _ => true
  | _ :: _, [] => false
  | t :: r, u :: s => t.lev u && Ty.levL r s
end
def Ty.same (a b : Ty) : Bool := a.check == 0 && b.check == 0 && a.eqv b
def Ty.agree (a b : Ty) : Bool := a.check == 0 && b.check == 0 && a.lev b

theorem nodesF_gt (n : Nat) : (nodesF n > 8192) ↔ ¬ n ≤ 8192 := by unfold nodesF; split <;> omega

theorem depth_does (t : Ty) (hf : t.fits) : Does Try.prog 70 [.imm false (.agg t.cells)] [] (.ret true (.int .i64 t.depth)) [] := by
  obtain ⟨k, ts⟩ := t
  refine does70 (by rfl) (by rfl) ?_
  (try simp (implicitDefEqProofs := false) only [go_sem, ↓reduceIte, Nat.reduceEqDiff, reduceCtorEq, Nat.reduceAdd, Nat.reduceSub, Nat.reduceLeDiff, Nat.reduceLT, Nat.reduceMul, Int.reduceToNat, Int.reduceLT, Int.reduceLE, Ty.cells])
  refine CallK_do (nodes_does _ hf) ?_
  (try simp (implicitDefEqProofs := false) only [go_sem, ↓reduceIte, Nat.reduceEqDiff, reduceCtorEq, Nat.reduceAdd, Nat.reduceSub, Nat.reduceLeDiff, Nat.reduceLT, Nat.reduceMul, Int.reduceToNat, Int.reduceLT, Int.reduceLE, CondOn_imm])
  refine ⟨fun h => ?_, fun h => ?_⟩
  · have h := (nodesF_gt _).1 (of_decide_eq_true h)
    rw [Ty.depth, if_neg h]
  · have h : (Ty.mk k ts).nodes ≤ 8192 := by
      have := of_decide_eq_false h
      rw [nodesF_gt] at this; omega
    refine CallK_do (deep_does _ hf 201 (by omega) (by omega)) ?_
    (try simp (implicitDefEqProofs := false) only [go_sem, ↓reduceIte, Nat.reduceEqDiff, reduceCtorEq, Nat.reduceAdd, Nat.reduceSub, Nat.reduceLeDiff, Nat.reduceLT, Nat.reduceMul, Int.reduceToNat, Int.reduceLT, Int.reduceLE])
    rw [Ty.depth, if_pos h]

theorem check_does (t : Ty) (hf : t.fits) : Does Try.prog 37 [.imm false (.agg t.cells)] [] (.ret true (.int .i64 t.check)) [] := by
  obtain ⟨k, ts⟩ := t
  refine does37 (by rfl) (by rfl) ?_
  (try simp (implicitDefEqProofs := false) only [go_sem, ↓reduceIte, Nat.reduceEqDiff, reduceCtorEq, Nat.reduceAdd, Nat.reduceSub, Nat.reduceLeDiff, Nat.reduceLT, Nat.reduceMul, Int.reduceToNat, Int.reduceLT, Int.reduceLE, Ty.cells])
  refine CallK_do (nodes_does _ hf) ?_
  (try simp (implicitDefEqProofs := false) only [go_sem, ↓reduceIte, Nat.reduceEqDiff, reduceCtorEq, Nat.reduceAdd, Nat.reduceSub, Nat.reduceLeDiff, Nat.reduceLT, Nat.reduceMul, Int.reduceToNat, Int.reduceLT, Int.reduceLE, CondOn_imm])
  refine ⟨fun h => ?_, fun h => ?_⟩
  · have h := (nodesF_gt _).1 (of_decide_eq_true h)
    rw [Ty.check, if_neg h]
  have h : (Ty.mk k ts).nodes ≤ 8192 := by
    have := of_decide_eq_false h
    rw [nodesF_gt] at this; omega
  refine CallK_do (depth_does _ hf) ?_
  (try simp (implicitDefEqProofs := false) only [go_sem, ↓reduceIte, Nat.reduceEqDiff, reduceCtorEq, Nat.reduceAdd, Nat.reduceSub, Nat.reduceLeDiff, Nat.reduceLT, Nat.reduceMul, Int.reduceToNat, Int.reduceLT, Int.reduceLE, CondOn_imm])
  refine ⟨fun h2 => ?_, fun h2 => ?_⟩
  · have h2 := of_decide_eq_true h2
    rw [Ty.check, if_pos h, if_pos h2]
  have h2 := of_decide_eq_false h2
  refine CallK_do (right_does _ hf) ?_
  (try simp (implicitDefEqProofs := false) only [go_sem, ↓reduceIte, Nat.reduceEqDiff, reduceCtorEq, Nat.reduceAdd, Nat.reduceSub, Nat.reduceLeDiff, Nat.reduceLT, Nat.reduceMul, Int.reduceToNat, Int.reduceLT, Int.reduceLE, CondOn_imm])
  refine ⟨fun h3 => ?_, fun h3 => ?_⟩
  · rw [Ty.check, if_pos h, if_neg h2, if_neg (by simpa using h3)]
  · rw [Ty.check, if_pos h, if_neg h2, if_pos (by simpa using h3)]

theorem Ty.right_kids {k : Int} {ts : List Ty} (h : (Ty.mk k ts).right = true) : partsF k = ts.length ∧ Ty.rightL ts = true := by
  simp only [Ty.right, Bool.and_eq_true, beq_iff_eq] at h
  exact h
theorem Ty.rightL_mem : ∀ {ts : List Ty}, Ty.rightL ts = true → ∀ t ∈ ts, t.right = true
  | a :: r, h, t, ht => by
    simp only [Ty.rightL, Bool.and_eq_true] at h
    rcases List.mem_cons.1 ht with rfl | ht
    · exact h.1
    · exact Ty.rightL_mem h.2 t ht

theorem equal_does : ∀ a : Ty, a.fits → a.right = true → ∀ b : Ty, b.right = true → Does Try.prog 50 [.imm false (.agg a.cells), .imm false (.agg b.cells)] [] (.ret true (.bool (a.eqv b))) [] := by
  refine Ty.ind fun k ts ih hf ha b hb => ?_
  obtain ⟨k2, us⟩ := b
  refine does50 (by rfl) (by rfl) ?_
  (try simp (implicitDefEqProofs := false) only [go_sem, ↓reduceIte, Nat.reduceEqDiff, reduceCtorEq, Nat.reduceAdd, Nat.reduceSub, Nat.reduceLeDiff, Nat.reduceLT, Nat.reduceMul, Int.reduceToNat, Int.reduceLT, Int.reduceLE, Ty.cells, CondOn_imm, Ty.cellsL_len])
  refine ⟨fun h => ?_, fun h => ?_⟩
  · have h : k ≠ k2 := by simpa using h
    simp [Ty.eqv, h]
  have h : k = k2 := by simpa using h
  subst h
  have hpa := Ty.right_kids ha
  have hpb := Ty.right_kids hb
  have hlen : us.length = ts.length := by have := hpa.1; have := hpb.1; omega
  have e0 : (Ty.mk k ts).eqv (.mk k us) = Ty.eqvL ts us := by simp [Ty.eqv]
  refine ⟨fun m σ => ∃ j f g, j ≤ ts.length ∧ m = ts.length - j ∧ Ty.eqvL ts us = Ty.eqvL (ts.drop j) (us.drop j) ∧ σ = ⟨[(2, .imm f (.ptr (Ty.mk k ts).cells 0)), (3, .imm g (.ptr (Ty.mk k us).cells 0)), (13, .imm true (.int .i64 ts.length)), (14, .imm true (.int .i64 j))], [], []⟩, ⟨_, 0, _, _, by omega, rfl, rfl, rfl⟩, ?_⟩
  rintro m σ ⟨j, f, g, hj, rfl, hs, rfl⟩
  unfold l50_0
  (try simp (implicitDefEqProofs := false) only [go_sem, ↓reduceIte, Nat.reduceEqDiff, reduceCtorEq, Nat.reduceAdd, Nat.reduceSub, Nat.reduceLeDiff, Nat.reduceLT, Nat.reduceMul, Int.reduceToNat, Int.reduceLT, Int.reduceLE, CondOn_imm, Ty.cells])
  refine ⟨fun hlt => ?_, fun hlt => ?_⟩
  · have hlt : j < ts.length := by simpa using hlt
    have hfl : ts.length ≤ 9223372036854775807 := hf.1
    obtain ⟨k', ts', hm, hat, hdr, _⟩ := Ty.kid hlt
    obtain ⟨k3, us', hm2, hat2, hdr2, _⟩ := Ty.kid (ts := us) (j := j) (by omega)
    rw [hdr, hdr2, Ty.eqvL] at hs
    (try simp (implicitDefEqProofs := false) only [go_sem, ↓reduceIte, Nat.reduceEqDiff, reduceCtorEq, Nat.reduceAdd, Nat.reduceSub, Nat.reduceLeDiff, Nat.reduceLT, Nat.reduceMul, Int.reduceToNat, Int.reduceLT, Int.reduceLE, hat, hat2, Int.toNat_natCast, Int.natCast_nonneg])
    refine CallK_do (ih _ hm (Ty.fitsL_mem (by simpa [Ty.fits] using hf.2) _ hm) (Ty.rightL_mem hpa.2 _ hm) _ (Ty.rightL_mem hpb.2 _ hm2)) ?_
    (try simp (implicitDefEqProofs := false) only [go_sem, ↓reduceIte, Nat.reduceEqDiff, reduceCtorEq, Nat.reduceAdd, Nat.reduceSub, Nat.reduceLeDiff, Nat.reduceLT, Nat.reduceMul, Int.reduceToNat, Int.reduceLT, Int.reduceLE, CondOn_imm])
    refine ⟨fun hb => ?_, fun hb => ?_⟩
    · have hb : (Ty.mk k' ts').eqv (.mk k3 us') = false := by simpa using hb
      rw [e0, hs, hb]; simp
    · have hb : (Ty.mk k' ts').eqv (.mk k3 us') = true := by simpa using hb
      (try simp (implicitDefEqProofs := false) only [go_sem, ↓reduceIte, Nat.reduceEqDiff, reduceCtorEq, Nat.reduceAdd, Nat.reduceSub, Nat.reduceLeDiff, Nat.reduceLT, Nat.reduceMul, Int.reduceToNat, Int.reduceLT, Int.reduceLE, wrap64 (n := (j : Int) + 1) (by omega) (by omega)])
      exact ⟨_, by omega, j + 1, _, _, by omega, rfl, by rw [hs, hb, Bool.true_and], rfl⟩
  · have hge : j = ts.length := by have : ¬ j < ts.length := by simpa using hlt
                                   omega
    (try simp (implicitDefEqProofs := false) only [go_sem, ↓reduceIte, Nat.reduceEqDiff, reduceCtorEq, Nat.reduceAdd, Nat.reduceSub, Nat.reduceLeDiff, Nat.reduceLT, Nat.reduceMul, Int.reduceToNat, Int.reduceLT, Int.reduceLE])
    subst hge
    rw [e0, hs]; simp [Ty.eqvL]

theorem level_does : ∀ a : Ty, a.fits → a.right = true → ∀ b : Ty, b.right = true → Does Try.prog 74 [.imm false (.agg a.cells), .imm false (.agg b.cells)] [] (.ret true (.bool (a.lev b))) [] := by
  refine Ty.ind fun k ts ih hf ha b hb => ?_
  obtain ⟨k2, us⟩ := b
  refine does74 (by rfl) (by rfl) ?_
  (try simp (implicitDefEqProofs := false) only [go_sem, ↓reduceIte, Nat.reduceEqDiff, reduceCtorEq, Nat.reduceAdd, Nat.reduceSub, Nat.reduceLeDiff, Nat.reduceLT, Nat.reduceMul, Int.reduceToNat, Int.reduceLT, Int.reduceLE, Ty.cells, Ty.cellsL_len])
  by_cases h0 : k = 0
  · subst h0
    (try simp (implicitDefEqProofs := false) only [go_sem, ↓reduceIte, Nat.reduceEqDiff, reduceCtorEq, Nat.reduceAdd, Nat.reduceSub, Nat.reduceLeDiff, Nat.reduceLT, Nat.reduceMul, Int.reduceToNat, Int.reduceLT, Int.reduceLE, beq_self_eq_true])
    simp [Ty.lev]
  by_cases h1 : k2 = 0
  · subst h1
    (try simp (implicitDefEqProofs := false) only [go_sem, ↓reduceIte, Nat.reduceEqDiff, reduceCtorEq, Nat.reduceAdd, Nat.reduceSub, Nat.reduceLeDiff, Nat.reduceLT, Nat.reduceMul, Int.reduceToNat, Int.reduceLT, Int.reduceLE, beq_self_eq_true, show (k == 0) = false from by simpa using h0])
    simp [Ty.lev]
  (try simp (implicitDefEqProofs := false) only [go_sem, ↓reduceIte, Nat.reduceEqDiff, reduceCtorEq, Nat.reduceAdd, Nat.reduceSub, Nat.reduceLeDiff, Nat.reduceLT, Nat.reduceMul, Int.reduceToNat, Int.reduceLT, Int.reduceLE, show (k == 0) = false from by simpa using h0, show (k2 == 0) = false from by simpa using h1])
  (try simp (implicitDefEqProofs := false) only [go_sem, ↓reduceIte, Nat.reduceEqDiff, reduceCtorEq, Nat.reduceAdd, Nat.reduceSub, Nat.reduceLeDiff, Nat.reduceLT, Nat.reduceMul, Int.reduceToNat, Int.reduceLT, Int.reduceLE, CondOn_imm, Ty.cellsL_len])
  refine ⟨fun h => ?_, fun h => ?_⟩
  · have h : k ≠ k2 := by simpa using h
    simp [Ty.lev, h, h0, h1]
  have h : k = k2 := by simpa using h
  subst h
  have hpa := Ty.right_kids ha
  have hpb := Ty.right_kids hb
  have hlen : us.length = ts.length := by have := hpa.1; have := hpb.1; omega
  have e0 : (Ty.mk k ts).lev (.mk k us) = Ty.levL ts us := by simp [Ty.lev, h0]
  refine ⟨fun m σ => ∃ j f g, j ≤ ts.length ∧ m = ts.length - j ∧ Ty.levL ts us = Ty.levL (ts.drop j) (us.drop j) ∧ σ = ⟨[(2, .imm f (.ptr (Ty.mk k ts).cells 0)), (3, .imm g (.ptr (Ty.mk k us).cells 0)), (27, .imm true (.int .i64 ts.length)), (28, .imm true (.int .i64 j))], [], []⟩, ⟨_, 0, _, _, by omega, rfl, rfl, rfl⟩, ?_⟩
  rintro m σ ⟨j, f, g, hj, rfl, hs, rfl⟩
  unfold l74_0
  (try simp (implicitDefEqProofs := false) only [go_sem, ↓reduceIte, Nat.reduceEqDiff, reduceCtorEq, Nat.reduceAdd, Nat.reduceSub, Nat.reduceLeDiff, Nat.reduceLT, Nat.reduceMul, Int.reduceToNat, Int.reduceLT, Int.reduceLE, CondOn_imm, Ty.cells])
  refine ⟨fun hlt => ?_, fun hlt => ?_⟩
  · have hlt : j < ts.length := by simpa using hlt
    have hfl : ts.length ≤ 9223372036854775807 := hf.1
    obtain ⟨k', ts', hm, hat, hdr, _⟩ := Ty.kid hlt
    obtain ⟨k3, us', hm2, hat2, hdr2, _⟩ := Ty.kid (ts := us) (j := j) (by omega)
    rw [hdr, hdr2, Ty.levL] at hs
    (try simp (implicitDefEqProofs := false) only [go_sem, ↓reduceIte, Nat.reduceEqDiff, reduceCtorEq, Nat.reduceAdd, Nat.reduceSub, Nat.reduceLeDiff, Nat.reduceLT, Nat.reduceMul, Int.reduceToNat, Int.reduceLT, Int.reduceLE, hat, hat2, Int.toNat_natCast, Int.natCast_nonneg])
    refine CallK_do (ih _ hm (Ty.fitsL_mem (by simpa [Ty.fits] using hf.2) _ hm) (Ty.rightL_mem hpa.2 _ hm) _ (Ty.rightL_mem hpb.2 _ hm2)) ?_
    (try simp (implicitDefEqProofs := false) only [go_sem, ↓reduceIte, Nat.reduceEqDiff, reduceCtorEq, Nat.reduceAdd, Nat.reduceSub, Nat.reduceLeDiff, Nat.reduceLT, Nat.reduceMul, Int.reduceToNat, Int.reduceLT, Int.reduceLE, CondOn_imm])
    refine ⟨fun hb => ?_, fun hb => ?_⟩
    · have hb : (Ty.mk k' ts').lev (.mk k3 us') = false := by simpa using hb
      rw [e0, hs, hb]; simp
    · have hb : (Ty.mk k' ts').lev (.mk k3 us') = true := by simpa using hb
      (try simp (implicitDefEqProofs := false) only [go_sem, ↓reduceIte, Nat.reduceEqDiff, reduceCtorEq, Nat.reduceAdd, Nat.reduceSub, Nat.reduceLeDiff, Nat.reduceLT, Nat.reduceMul, Int.reduceToNat, Int.reduceLT, Int.reduceLE, wrap64 (n := (j : Int) + 1) (by omega) (by omega)])
      exact ⟨_, by omega, j + 1, _, _, by omega, rfl, by rw [hs, hb, Bool.true_and], rfl⟩
  · have hge : j = ts.length := by have : ¬ j < ts.length := by simpa using hlt
                                   omega
    (try simp (implicitDefEqProofs := false) only [go_sem, ↓reduceIte, Nat.reduceEqDiff, reduceCtorEq, Nat.reduceAdd, Nat.reduceSub, Nat.reduceLeDiff, Nat.reduceLT, Nat.reduceMul, Int.reduceToNat, Int.reduceLT, Int.reduceLE])
    subst hge
    rw [e0, hs]; simp [Ty.levL]

theorem check_zero {t : Ty} (h : t.check = 0) : t.nodes ≤ 8192 ∧ t.depth ≤ 200 ∧ t.right = true := by
  unfold Ty.check at h
  split at h
  · split at h
    · omega
    · split at h
      · rename_i h1 h2 h3; exact ⟨h1, by omega, h3⟩
      · omega
  · omega

theorem same_does (a b : Ty) (ha : a.fits) (hb : b.fits) : Does Try.prog 14 [.imm false (.agg a.cells), .imm false (.agg b.cells)] [] (.ret true (.bool (a.same b))) [] := by
  obtain ⟨k, ts⟩ := a
  obtain ⟨k2, us⟩ := b
  refine does14 (by rfl) (by rfl) ?_
  (try simp (implicitDefEqProofs := false) only [go_sem, ↓reduceIte, Nat.reduceEqDiff, reduceCtorEq, Nat.reduceAdd, Nat.reduceSub, Nat.reduceLeDiff, Nat.reduceLT, Nat.reduceMul, Int.reduceToNat, Int.reduceLT, Int.reduceLE, Ty.cells])
  refine CallK_do (check_does _ ha) ?_
  by_cases h1 : (Ty.mk k ts).check = 0
  · (try simp (implicitDefEqProofs := false) only [go_sem, ↓reduceIte, Nat.reduceEqDiff, reduceCtorEq, Nat.reduceAdd, Nat.reduceSub, Nat.reduceLeDiff, Nat.reduceLT, Nat.reduceMul, Int.reduceToNat, Int.reduceLT, Int.reduceLE, h1, beq_self_eq_true])
    refine CallK_do (check_does _ hb) ?_
    by_cases h2 : (Ty.mk k2 us).check = 0
    · (try simp (implicitDefEqProofs := false) only [go_sem, ↓reduceIte, Nat.reduceEqDiff, reduceCtorEq, Nat.reduceAdd, Nat.reduceSub, Nat.reduceLeDiff, Nat.reduceLT, Nat.reduceMul, Int.reduceToNat, Int.reduceLT, Int.reduceLE, h2, beq_self_eq_true])
      refine CallK_do (equal_does _ ha (check_zero h1).2.2 _ (check_zero h2).2.2) ?_
      (try simp (implicitDefEqProofs := false) only [go_sem, ↓reduceIte, Nat.reduceEqDiff, reduceCtorEq, Nat.reduceAdd, Nat.reduceSub, Nat.reduceLeDiff, Nat.reduceLT, Nat.reduceMul, Int.reduceToNat, Int.reduceLT, Int.reduceLE])
      simp [Ty.same, h1, h2]
    · (try simp (implicitDefEqProofs := false) only [go_sem, ↓reduceIte, Nat.reduceEqDiff, reduceCtorEq, Nat.reduceAdd, Nat.reduceSub, Nat.reduceLeDiff, Nat.reduceLT, Nat.reduceMul, Int.reduceToNat, Int.reduceLT, Int.reduceLE, show ((Ty.mk k2 us).check == 0) = false from by simpa using h2])
      simp [Ty.same, h1, h2]
  · (try simp (implicitDefEqProofs := false) only [go_sem, ↓reduceIte, Nat.reduceEqDiff, reduceCtorEq, Nat.reduceAdd, Nat.reduceSub, Nat.reduceLeDiff, Nat.reduceLT, Nat.reduceMul, Int.reduceToNat, Int.reduceLT, Int.reduceLE, show ((Ty.mk k ts).check == 0) = false from by simpa using h1])
    simp [Ty.same, h1]
theorem agree_does (a b : Ty) (ha : a.fits) (hb : b.fits) : Does Try.prog 39 [.imm false (.agg a.cells), .imm false (.agg b.cells)] [] (.ret true (.bool (a.agree b))) [] := by
  obtain ⟨k, ts⟩ := a
  obtain ⟨k2, us⟩ := b
  refine does39 (by rfl) (by rfl) ?_
  (try simp (implicitDefEqProofs := false) only [go_sem, ↓reduceIte, Nat.reduceEqDiff, reduceCtorEq, Nat.reduceAdd, Nat.reduceSub, Nat.reduceLeDiff, Nat.reduceLT, Nat.reduceMul, Int.reduceToNat, Int.reduceLT, Int.reduceLE, Ty.cells])
  refine CallK_do (check_does _ ha) ?_
  by_cases h1 : (Ty.mk k ts).check = 0
  · (try simp (implicitDefEqProofs := false) only [go_sem, ↓reduceIte, Nat.reduceEqDiff, reduceCtorEq, Nat.reduceAdd, Nat.reduceSub, Nat.reduceLeDiff, Nat.reduceLT, Nat.reduceMul, Int.reduceToNat, Int.reduceLT, Int.reduceLE, h1, beq_self_eq_true])
    refine CallK_do (check_does _ hb) ?_
    by_cases h2 : (Ty.mk k2 us).check = 0
    · (try simp (implicitDefEqProofs := false) only [go_sem, ↓reduceIte, Nat.reduceEqDiff, reduceCtorEq, Nat.reduceAdd, Nat.reduceSub, Nat.reduceLeDiff, Nat.reduceLT, Nat.reduceMul, Int.reduceToNat, Int.reduceLT, Int.reduceLE, h2, beq_self_eq_true])
      refine CallK_do (level_does _ ha (check_zero h1).2.2 _ (check_zero h2).2.2) ?_
      (try simp (implicitDefEqProofs := false) only [go_sem, ↓reduceIte, Nat.reduceEqDiff, reduceCtorEq, Nat.reduceAdd, Nat.reduceSub, Nat.reduceLeDiff, Nat.reduceLT, Nat.reduceMul, Int.reduceToNat, Int.reduceLT, Int.reduceLE])
      simp [Ty.agree, h1, h2]
    · (try simp (implicitDefEqProofs := false) only [go_sem, ↓reduceIte, Nat.reduceEqDiff, reduceCtorEq, Nat.reduceAdd, Nat.reduceSub, Nat.reduceLeDiff, Nat.reduceLT, Nat.reduceMul, Int.reduceToNat, Int.reduceLT, Int.reduceLE, show ((Ty.mk k2 us).check == 0) = false from by simpa using h2])
      simp [Ty.agree, h1, h2]
  · (try simp (implicitDefEqProofs := false) only [go_sem, ↓reduceIte, Nat.reduceEqDiff, reduceCtorEq, Nat.reduceAdd, Nat.reduceSub, Nat.reduceLeDiff, Nat.reduceLT, Nat.reduceMul, Int.reduceToNat, Int.reduceLT, Int.reduceLE, show ((Ty.mk k ts).check == 0) = false from by simpa using h1])
    simp [Ty.agree, h1]

def Ty.ground (t : Ty) : Ty × Bool := if t.check ≠ 0 ∨ t.k = 0 then (.mk 0 [], false) else (.mk t.k (List.replicate (partsF t.k).toNat (.mk 0 [])), true)
theorem ground_does (t : Ty) (hf : t.fits) : Does Try.prog 31 [.imm false (.agg t.cells)] [] (.ret true (.tup [.agg t.ground.1.cells, .bool t.ground.2])) [] := by
  obtain ⟨k, ts⟩ := t
  by_cases h1 : (Ty.mk k ts).check = 0
  · by_cases h2 : k = 0
    · subst h2
      refine does31 (by rfl) (by rfl) ?_
      (try simp (implicitDefEqProofs := false) only [go_sem, ↓reduceIte, Nat.reduceEqDiff, reduceCtorEq, Nat.reduceAdd, Nat.reduceSub, Nat.reduceLeDiff, Nat.reduceLT, Nat.reduceMul, Int.reduceToNat, Int.reduceLT, Int.reduceLE, Ty.cells])
      refine CallK_do (check_does _ hf) ?_
      (try simp (implicitDefEqProofs := false) only [go_sem, ↓reduceIte, Nat.reduceEqDiff, reduceCtorEq, Nat.reduceAdd, Nat.reduceSub, Nat.reduceLeDiff, Nat.reduceLT, Nat.reduceMul, Int.reduceToNat, Int.reduceLT, Int.reduceLE, h1, beq_self_eq_true, bne_self_eq_false])
      simp [Ty.ground, Ty.k, Ty.cells, Ty.cellsL]
    · have hp := Ty.right_kids (check_zero h1).2.2
      have hp2 : partsF k = 0 ∨ partsF k = 2 := by
        have := hp.1
        unfold partsF at this ⊢
        split
        · exact .inl rfl
        · split
          · exact .inr rfl
          · rename_i e1 e2; rw [if_neg e1, if_neg e2] at this; omega
      refine does31 (by rfl) (by rfl) ?_
      (try simp (implicitDefEqProofs := false) only [go_sem, ↓reduceIte, Nat.reduceEqDiff, reduceCtorEq, Nat.reduceAdd, Nat.reduceSub, Nat.reduceLeDiff, Nat.reduceLT, Nat.reduceMul, Int.reduceToNat, Int.reduceLT, Int.reduceLE, Ty.cells])
      refine CallK_do (check_does _ hf) ?_
      (try simp (implicitDefEqProofs := false) only [go_sem, ↓reduceIte, Nat.reduceEqDiff, reduceCtorEq, Nat.reduceAdd, Nat.reduceSub, Nat.reduceLeDiff, Nat.reduceLT, Nat.reduceMul, Int.reduceToNat, Int.reduceLT, Int.reduceLE, h1, beq_self_eq_true, bne_self_eq_false, show (k == 0) = false from by simpa using h2])
      refine CallK_do (parts_does k false) ?_
      rcases hp2 with hp2 | hp2
      · (try simp (implicitDefEqProofs := false) only [go_sem, ↓reduceIte, Nat.reduceEqDiff, reduceCtorEq, Nat.reduceAdd, Nat.reduceSub, Nat.reduceLeDiff, Nat.reduceLT, Nat.reduceMul, Int.reduceToNat, Int.reduceLT, Int.reduceLE, hp2, List.replicate, resL])
        simp [Ty.ground, Ty.k, Ty.cells, h1, h2, hp2, Ty.cellsL]
      · (try simp (implicitDefEqProofs := false) only [go_sem, ↓reduceIte, Nat.reduceEqDiff, reduceCtorEq, Nat.reduceAdd, Nat.reduceSub, Nat.reduceLeDiff, Nat.reduceLT, Nat.reduceMul, Int.reduceToNat, Int.reduceLT, Int.reduceLE, hp2, List.replicate, resL])
        simp [Ty.ground, Ty.k, Ty.cells, h1, h2, hp2, Ty.cellsL, List.replicate]
  · refine does31 (by rfl) (by rfl) ?_
    (try simp (implicitDefEqProofs := false) only [go_sem, ↓reduceIte, Nat.reduceEqDiff, reduceCtorEq, Nat.reduceAdd, Nat.reduceSub, Nat.reduceLeDiff, Nat.reduceLT, Nat.reduceMul, Int.reduceToNat, Int.reduceLT, Int.reduceLE, Ty.cells])
    refine CallK_do (check_does _ hf) ?_
    (try simp (implicitDefEqProofs := false) only [go_sem, ↓reduceIte, Nat.reduceEqDiff, reduceCtorEq, Nat.reduceAdd, Nat.reduceSub, Nat.reduceLeDiff, Nat.reduceLT, Nat.reduceMul, Int.reduceToNat, Int.reduceLT, Int.reduceLE, show ((Ty.mk k ts).check != 0) = true from by simpa using h1])
    simp [Ty.ground, Ty.k, Ty.cells, Ty.cellsL, h1]
end Go.Proofs.Ytopgmopdjiahmaa.Lg
