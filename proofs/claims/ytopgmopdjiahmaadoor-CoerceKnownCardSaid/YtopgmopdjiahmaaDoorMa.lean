/- MADE BY PROGRAM (gen/mk.py): the code of functions, as the logic sees it. Conditions: none; plain definitions and lemmas. -/
import Derived.Test.YtopgmopdjiahmaaDoorLr
import Derived.Test.YtopgmopdjiahmaaDoorProg
set_option linter.unusedVariables false
set_option linter.defProp false
set_option maxRecDepth 100000
namespace Go.Proofs.YtopgmopdjiahmaaDoor.Lg
open Go Go.RowKit Go.Proofs
variable {Q : AEx → St → Prop} {σ : St}

theorem mixed : Tryd.prog.follows .mixedOrders = true := by kernel_rfl

/-! ### 37: lychgate/types.parts -/
def r37_0 : MC := .reg [⟨none, (.mv 2 (.c (.imm true (.int .i64 0))))⟩] none (some ([0], []))
def w37_0 := @awpR_no Tryd.prog Q σ r37_0 _ _ ⟨rfl, rfl⟩
def r37_1 : MC := .reg [⟨none, (.mv 3 (.t 0))⟩] none (some ([3], []))
def w37_1 := @awpR_no Tryd.prog Q σ r37_1 _ _ ⟨rfl, rfl⟩
def r37_2 : MC := .reg [⟨none, (.bin 5 .eql (.t 3) (.c (.imm true (.int .i8 0))))⟩, ⟨none, (.mv 4 (.t 5))⟩] none (some ([3, 4], []))
def w37_2 := @awpR_no Tryd.prog Q σ r37_2 _ _ ⟨rfl, rfl⟩
def r37_3 : MC := .reg [⟨none, (.bin 6 .eql (.t 3) (.c (.imm true (.int .i8 1))))⟩, ⟨none, (.mv 4 (.t 6))⟩] none (some ([3, 4], []))
def w37_3 := @awpR_no Tryd.prog Q σ r37_3 _ _ ⟨rfl, rfl⟩
def r37_4 : MC := .reg [⟨none, (.bin 7 .eql (.t 3) (.c (.imm true (.int .i8 2))))⟩, ⟨none, (.mv 4 (.t 7))⟩] none (some ([3, 4], []))
def w37_4 := @awpR_no Tryd.prog Q σ r37_4 _ _ ⟨rfl, rfl⟩
def r37_5 : MC := .reg [⟨none, (.mv 2 (.c (.imm true (.int .i64 0))))⟩] none (some ([2], []))
def w37_5 := @awpR_no Tryd.prog Q σ r37_5 _ _ ⟨rfl, rfl⟩
def r37_6 : MC := .reg [⟨none, (.bin 9 .eql (.t 3) (.c (.imm true (.int .i8 3))))⟩, ⟨none, (.mv 8 (.t 9))⟩] none (some ([3, 8], []))
def w37_6 := @awpR_no Tryd.prog Q σ r37_6 _ _ ⟨rfl, rfl⟩
def r37_7 : MC := .reg [⟨none, (.bin 10 .eql (.t 3) (.c (.imm true (.int .i8 4))))⟩, ⟨none, (.mv 8 (.t 10))⟩] none (some ([3, 8], []))
def w37_7 := @awpR_no Tryd.prog Q σ r37_7 _ _ ⟨rfl, rfl⟩
def r37_8 : MC := .reg [⟨none, (.bin 11 .eql (.t 3) (.c (.imm true (.int .i8 5))))⟩, ⟨none, (.mv 8 (.t 11))⟩] none (some ([8], []))
def w37_8 := @awpR_no Tryd.prog Q σ r37_8 _ _ ⟨rfl, rfl⟩
def r37_9 : MC := .reg [⟨none, (.mv 2 (.c (.imm true (.int .i64 2))))⟩] none (some ([2], []))
def w37_9 := @awpR_no Tryd.prog Q σ r37_9 _ _ ⟨rfl, rfl⟩
def r37_10 : MC := .reg [⟨none, (.mv 2 (.c (.imm true (.int .i64 (-1)))))⟩] none (some ([2], []))
def w37_10 := @awpR_no Tryd.prog Q σ r37_10 _ _ ⟨rfl, rfl⟩
def my37 : MC := (.seq r37_0 (.seq (.seq r37_1 (.block 0 (.seq (.seq r37_2 (.cond (.t 4) .skip (.seq r37_3 (.cond (.t 4) .skip r37_4)))) (.cond (.t 4) (.seq r37_5 .ret) (.seq (.seq r37_6 (.cond (.t 8) .skip (.seq r37_7 (.cond (.t 8) .skip r37_8)))) (.cond (.t 8) (.seq r37_9 .ret) .skip)))))) (.seq r37_10 .ret)))
theorem my37_is : trC Tryd.prog ⟨[], []⟩ ⟨[],
  [(0, [0], []), (1, [3], []), (2, [3, 4], []), (3, [3, 4], []), (4, [3, 4], []), (5, [2], []), (6, [3, 8], []), (7, [3, 8], []), (8, [8], []), (9, [2], []), (10, [2], [])]⟩ 12 (Tryd.f37.body.getD .skip) = some my37 := by kernel_rfl
theorem does37 {args : List LV} (hl : args.length.ble 12 = true) {S S' : List (List LV)} (hS : S'.length = S.length) {o : Out} (h : Lt ⟨numE 0 args, argS 0 S, []⟩ (awp Tryd.prog my37 (Fin [(.t 2)] o S'))) : Does Tryd.prog 37 args S o S' :=
  does_of_awp mixed Tryd.func37 (by kernel_rfl) (by kernel_rfl) my37_is (by kernel_rfl) (Nat.le_of_ble_eq_true hl) hS h
attribute [go_sem ↓] w37_0 w37_1 w37_2 w37_3 w37_4 w37_5 w37_6 w37_7 w37_8 w37_9 w37_10
attribute [go_sem] my37
/-! ### 9: lychgate/types.Check -/
def r9_0 : MC := .reg [⟨none, (.boxc 1 (.t 0))⟩, ⟨none, (.mv 2 (.c (.imm true (.int .i64 0))))⟩] none (some ([1], []))
def w9_0 := @awpR_no Tryd.prog Q σ r9_0 _ _ ⟨rfl, rfl⟩
def r9_1 : MC := .reg [⟨none, (.load 4 (.t 1) (some 2))⟩, ⟨none, (.call (some 5) (.c (.fn 16 [])) [(.t 4)])⟩, ⟨none, (.bin 6 .gtr (.t 5) (.c (.imm true (.int .i64 8192))))⟩, ⟨none, (.mv 3 (.t 6))⟩] none (some ([1, 3], []))
def w9_1 := @awpR_no Tryd.prog Q σ r9_1 _ _ ⟨rfl, rfl⟩
def r9_2 : MC := .reg [⟨none, (.mv 2 (.c (.imm true (.int .i64 32))))⟩] none (some ([2], []))
def w9_2 := @awpR_no Tryd.prog Q σ r9_2 _ _ ⟨rfl, rfl⟩
def r9_3 : MC := .reg [⟨none, (.load 8 (.t 1) (some 2))⟩, ⟨none, (.call (some 9) (.c (.fn 17 [])) [(.t 8)])⟩, ⟨none, (.bin 10 .gtr (.t 9) (.c (.imm true (.int .i64 200))))⟩, ⟨none, (.mv 7 (.t 10))⟩] none (some ([1, 7], []))
def w9_3 := @awpR_no Tryd.prog Q σ r9_3 _ _ ⟨rfl, rfl⟩
def r9_4 : MC := .reg [⟨none, (.mv 2 (.c (.imm true (.int .i64 31))))⟩] none (some ([2], []))
def w9_4 := @awpR_no Tryd.prog Q σ r9_4 _ _ ⟨rfl, rfl⟩
def r9_5 : MC := .reg [⟨none, (.load 12 (.t 1) (some 2))⟩, ⟨none, (.call (some 13) (.c (.fn 18 [])) [(.t 12)])⟩, ⟨none, (.un 14 .not (.t 13))⟩, ⟨none, (.mv 11 (.t 14))⟩] none (some ([11], []))
def w9_5 := @awpR_no Tryd.prog Q σ r9_5 _ _ ⟨rfl, rfl⟩
def r9_6 : MC := .reg [⟨none, (.mv 2 (.c (.imm true (.int .i64 20))))⟩] none (some ([2], []))
def w9_6 := @awpR_no Tryd.prog Q σ r9_6 _ _ ⟨rfl, rfl⟩
def r9_7 : MC := .reg [⟨none, (.mv 2 (.c (.imm true (.int .i64 0))))⟩] none (some ([2], []))
def w9_7 := @awpR_no Tryd.prog Q σ r9_7 _ _ ⟨rfl, rfl⟩
def my9 : MC := (.seq r9_0 (.seq (.block 0 (.seq r9_1 (.cond (.t 3) (.seq r9_2 .ret) (.seq r9_3 (.cond (.t 7) (.seq r9_4 .ret) (.seq r9_5 (.cond (.t 11) (.seq r9_6 .ret) .skip))))))) (.seq r9_7 .ret)))
theorem my9_is : trC Tryd.prog ⟨[1], []⟩ ⟨[],
  [(0, [1], []), (1, [1, 3], []), (2, [2], []), (3, [1, 7], []), (4, [2], []), (5, [11], []), (6, [2], []), (7, [2], [])]⟩ 15 (Tryd.f9.body.getD .skip) = some my9 := by kernel_rfl
theorem does9 {args : List LV} (hl : args.length.ble 15 = true) {S S' : List (List LV)} (hS : S'.length = S.length) {o : Out} (h : Lt ⟨numE 0 args, argS 0 S, []⟩ (awp Tryd.prog my9 (Fin [(.t 2)] o S'))) : Does Tryd.prog 9 args S o S' :=
  does_of_awp mixed Tryd.func9 (by kernel_rfl) (by kernel_rfl) my9_is (by kernel_rfl) (Nat.le_of_ble_eq_true hl) hS h
attribute [go_sem ↓] w9_0 w9_1 w9_2 w9_3 w9_4 w9_5 w9_6 w9_7
attribute [go_sem] my9
/-! ### 17: lychgate/types.Depth -/
def r17_0 : MC := .reg [⟨none, (.boxc 1 (.t 0))⟩, ⟨none, (.mv 2 (.c (.imm true (.int .i64 0))))⟩] none (some ([1], []))
def w17_0 := @awpR_no Tryd.prog Q σ r17_0 _ _ ⟨rfl, rfl⟩
def r17_1 : MC := .reg [⟨none, (.load 3 (.t 1) (some 2))⟩, ⟨none, (.call (some 4) (.c (.fn 16 [])) [(.t 3)])⟩, ⟨none, (.bin 5 .gtr (.t 4) (.c (.imm true (.int .i64 8192))))⟩] none (some ([1, 5], []))
def w17_1 := @awpR_no Tryd.prog Q σ r17_1 _ _ ⟨rfl, rfl⟩
def r17_2 : MC := .reg [⟨none, (.mv 2 (.c (.imm true (.int .i64 201))))⟩] none (some ([2], []))
def w17_2 := @awpR_no Tryd.prog Q σ r17_2 _ _ ⟨rfl, rfl⟩
def r17_3 : MC := .reg [⟨none, (.load 6 (.t 1) (some 2))⟩, ⟨none, (.call (some 7) (.c (.fn 36 [])) [(.t 6), (.c (.imm true (.int .i64 201)))])⟩, ⟨none, (.mv 2 (.t 7))⟩] none (some ([2], []))
def w17_3 := @awpR_no Tryd.prog Q σ r17_3 _ _ ⟨rfl, rfl⟩
def my17 : MC := (.seq r17_0 (.seq (.seq r17_1 (.cond (.t 5) (.seq r17_2 .ret) .skip)) (.seq r17_3 .ret)))
theorem my17_is : trC Tryd.prog ⟨[1], []⟩ ⟨[],
  [(0, [1], []), (1, [1, 5], []), (2, [2], []), (3, [2], [])]⟩ 8 (Tryd.f17.body.getD .skip) = some my17 := by kernel_rfl
theorem does17 {args : List LV} (hl : args.length.ble 8 = true) {S S' : List (List LV)} (hS : S'.length = S.length) {o : Out} (h : Lt ⟨numE 0 args, argS 0 S, []⟩ (awp Tryd.prog my17 (Fin [(.t 2)] o S'))) : Does Tryd.prog 17 args S o S' :=
  does_of_awp mixed Tryd.func17 (by kernel_rfl) (by kernel_rfl) my17_is (by kernel_rfl) (Nat.le_of_ble_eq_true hl) hS h
attribute [go_sem ↓] w17_0 w17_1 w17_2 w17_3
attribute [go_sem] my17
/-! ### 18: lychgate/types.right -/
def r18_0 : MC := .reg [⟨none, (.boxc 1 (.t 0))⟩, ⟨none, (.mv 2 (.c (.imm true (.bool false))))⟩] none (some ([1], []))
def w18_0 := @awpR_no Tryd.prog Q σ r18_0 _ _ ⟨rfl, rfl⟩
def r18_1 : MC := .reg [⟨none, (.fad 5 (.t 1) 0)⟩, ⟨none, (.load 6 (.t 5) none)⟩, ⟨none, (.call (some 7) (.c (.fn 37 [])) [(.t 6)])⟩, ⟨none, (.fad 8 (.t 1) 1)⟩, ⟨none, (.load 9 (.t 8) none)⟩, ⟨none, (.len 10 (.t 9))⟩, ⟨none, (.bin 11 .neq (.t 7) (.t 10))⟩] (some []) (some ([1, 11], []))
def w18_1 := @awpD_no Tryd.prog Q σ r18_1 _ _ _ ⟨rfl, rfl⟩
def r18_2 : MC := .reg [⟨none, (.mv 2 (.c (.imm true (.bool false))))⟩] none (some ([2], []))
def w18_2 := @awpR_no Tryd.prog Q σ r18_2 _ _ ⟨rfl, rfl⟩
def r18_3 : MC := .reg [⟨none, (.fad 12 (.t 1) 1)⟩, ⟨none, (.load 13 (.t 12) none)⟩, ⟨none, (.len 14 (.t 13))⟩, ⟨none, (.mv 15 (.c (.imm true (.int .i64 0))))⟩] none (some ([13, 14, 15], []))
def w18_3 := @awpR_no Tryd.prog Q σ r18_3 _ _ ⟨rfl, rfl⟩
def r18_4 : MC := .reg [⟨none, (.bin 16 .lss (.t 15) (.t 14))⟩] none (some ([13, 14, 15, 16], []))
def w18_4 := @awpR_no Tryd.prog Q σ r18_4 _ _ ⟨rfl, rfl⟩
def r18_5 : MC := .reg [⟨none, (.iad 17 (.t 13) (.t 15) 2)⟩, ⟨none, (.load 18 (.t 17) (some 2))⟩, ⟨none, (.alloc 4 z2)⟩, ⟨none, (.store (.t 4) (.t 18) 2)⟩] none (some ([4, 13, 14, 15], [4]))
def w18_5 := @awpR_get Tryd.prog Q σ r18_5 _ _ [4] ⟨rfl, rfl⟩
def r18_6 : MC := .reg [⟨none, (.load 19 (.t 4) (some 2))⟩, ⟨none, (.call (some 20) (.c (.fn 18 [])) [(.t 19)])⟩, ⟨none, (.un 21 .not (.t 20))⟩] none (some ([13, 14, 15, 21], []))
def w18_6 := @awpR_no Tryd.prog Q σ r18_6 _ _ ⟨rfl, rfl⟩
def r18_7 : MC := .reg [⟨none, (.mv 2 (.c (.imm true (.bool false))))⟩] none (some ([2], []))
def w18_7 := @awpR_no Tryd.prog Q σ r18_7 _ _ ⟨rfl, rfl⟩
def r18_8 : MC := .reg [⟨none, (.bin 22 .add (.t 15) (.c (.imm true (.int .i64 1))))⟩, ⟨none, (.mv 15 (.t 22))⟩] none (some ([13, 14, 15], []))
def w18_8 := @awpR_no Tryd.prog Q σ r18_8 _ _ ⟨rfl, rfl⟩
def l18_0 : MC := (.seq r18_4 (.seq (.cond (.t 16) .skip (.exit 0)) (.seq (.block 1 (.seq r18_5 (.seq r18_6 (.cond (.t 21) (.seq r18_7 .ret) .skip)))) r18_8)))
def r18_9 : MC := .reg [⟨none, (.mv 2 (.c (.imm true (.bool true))))⟩] none (some ([2], []))
def w18_9 := @awpR_no Tryd.prog Q σ r18_9 _ _ ⟨rfl, rfl⟩
def my18 : MC := (.seq r18_0 (.seq (.seq r18_1 (.cond (.t 11) (.seq r18_2 .ret) .skip)) (.seq (.seq r18_3 (.block 0 (.loop l18_0))) (.seq r18_9 .ret))))
theorem my18_is : trC Tryd.prog ⟨[1], []⟩ ⟨[(1, [[], [0], [0, 1], [], [3], [3, 4], [0, 1, 2, 3, 4, 5]], [])],
  [(0, [1], []), (1, [1, 11], []), (2, [2], []), (3, [13, 14, 15], []), (4, [13, 14, 15, 16], []), (5, [4, 13, 14, 15], [4]), (6, [13, 14, 15, 21], []), (7, [2], []), (8, [13, 14, 15], []), (9, [2], [])]⟩ 23 (Tryd.f18.body.getD .skip) = some my18 := by kernel_rfl
theorem does18 {args : List LV} (hl : args.length.ble 23 = true) {S S' : List (List LV)} (hS : S'.length = S.length) {o : Out} (h : Lt ⟨numE 0 args, argS 0 S, []⟩ (awp Tryd.prog my18 (Fin [(.t 2)] o S'))) : Does Tryd.prog 18 args S o S' :=
  does_of_awp mixed Tryd.func18 (by kernel_rfl) (by kernel_rfl) my18_is (by kernel_rfl) (Nat.le_of_ble_eq_true hl) hS h
attribute [go_sem ↓] w18_0 w18_1 w18_2 w18_3 w18_4 w18_5 w18_6 w18_7 w18_8 w18_9
attribute [go_sem] my18
/-! ### 53: lychgate/types.equal -/
def r53_0 : MC := .reg [⟨none, (.boxc 2 (.t 0))⟩, ⟨none, (.boxc 3 (.t 1))⟩, ⟨none, (.mv 4 (.c (.imm true (.bool false))))⟩] none (some ([2, 3], []))
def w53_0 := @awpR_no Tryd.prog Q σ r53_0 _ _ ⟨rfl, rfl⟩
def r53_1 : MC := .reg [⟨none, (.fad 6 (.t 2) 0)⟩, ⟨none, (.load 7 (.t 6) none)⟩, ⟨none, (.fad 8 (.t 3) 0)⟩, ⟨none, (.load 9 (.t 8) none)⟩, ⟨none, (.bin 10 .neq (.t 7) (.t 9))⟩] none (some ([2, 3, 10], []))
def w53_1 := @awpR_no Tryd.prog Q σ r53_1 _ _ ⟨rfl, rfl⟩
def r53_2 : MC := .reg [⟨none, (.mv 4 (.c (.imm true (.bool false))))⟩] none (some ([4], []))
def w53_2 := @awpR_no Tryd.prog Q σ r53_2 _ _ ⟨rfl, rfl⟩
def r53_3 : MC := .reg [⟨none, (.fad 11 (.t 2) 1)⟩, ⟨none, (.load 12 (.t 11) none)⟩, ⟨none, (.len 13 (.t 12))⟩, ⟨none, (.mv 14 (.c (.imm true (.int .i64 0))))⟩] none (some ([2, 3, 13, 14], []))
def w53_3 := @awpR_no Tryd.prog Q σ r53_3 _ _ ⟨rfl, rfl⟩
def r53_4 : MC := .reg [⟨none, (.bin 15 .lss (.t 14) (.t 13))⟩] none (some ([2, 3, 13, 14, 15], []))
def w53_4 := @awpR_no Tryd.prog Q σ r53_4 _ _ ⟨rfl, rfl⟩
def r53_5 : MC := .reg [⟨none, (.mv 16 (.t 14))⟩, ⟨none, (.mv 5 (.t 16))⟩] none (some ([2, 3, 5, 13, 14], []))
def w53_5 := @awpR_no Tryd.prog Q σ r53_5 _ _ ⟨rfl, rfl⟩
def r53_6 : MC := .reg [⟨none, (.fad 17 (.t 2) 1)⟩, ⟨none, (.load 18 (.t 17) none)⟩, ⟨none, (.mv 19 (.t 5))⟩, ⟨none, (.iad 20 (.t 18) (.t 19) 2)⟩, ⟨none, (.load 21 (.t 20) (some 2))⟩, ⟨none, (.fad 22 (.t 3) 1)⟩, ⟨none, (.load 23 (.t 22) none)⟩, ⟨none, (.mv 24 (.t 5))⟩, ⟨none, (.iad 25 (.t 23) (.t 24) 2)⟩, ⟨none, (.load 26 (.t 25) (some 2))⟩, ⟨none, (.call (some 27) (.c (.fn 53 [])) [(.t 21), (.t 26)])⟩, ⟨none, (.un 28 .not (.t 27))⟩] (some []) (some ([2, 3, 13, 14, 28], []))
def w53_6 := @awpD_no Tryd.prog Q σ r53_6 _ _ _ ⟨rfl, rfl⟩
def r53_7 : MC := .reg [⟨none, (.mv 4 (.c (.imm true (.bool false))))⟩] none (some ([4], []))
def w53_7 := @awpR_no Tryd.prog Q σ r53_7 _ _ ⟨rfl, rfl⟩
def r53_8 : MC := .reg [⟨none, (.bin 29 .add (.t 14) (.c (.imm true (.int .i64 1))))⟩, ⟨none, (.mv 14 (.t 29))⟩] none (some ([2, 3, 13, 14], []))
def w53_8 := @awpR_no Tryd.prog Q σ r53_8 _ _ ⟨rfl, rfl⟩
def l53_0 : MC := (.seq r53_4 (.seq (.cond (.t 15) .skip (.exit 0)) (.seq (.block 1 (.seq r53_5 (.seq r53_6 (.cond (.t 28) (.seq r53_7 .ret) .skip)))) r53_8)))
def r53_9 : MC := .reg [⟨none, (.mv 4 (.c (.imm true (.bool true))))⟩] none (some ([4], []))
def w53_9 := @awpR_no Tryd.prog Q σ r53_9 _ _ ⟨rfl, rfl⟩
def my53 : MC := (.seq r53_0 (.seq (.seq r53_1 (.cond (.t 10) (.seq r53_2 .ret) .skip)) (.seq (.seq r53_3 (.block 0 (.loop l53_0))) (.seq r53_9 .ret))))
theorem my53_is : trC Tryd.prog ⟨[2, 3], []⟩ ⟨[(6, [[], [0], [], [0, 1, 2], [0, 1, 2, 3], [], [5], [], [5, 6, 7], [5, 6, 7, 8], [0, 1, 2, 3, 4, 5, 6, 7, 8, 9], [0, 1, 2, 3, 4, 5, 6, 7, 8, 9, 10]], [])],
  [(0, [2, 3], []), (1, [2, 3, 10], []), (2, [4], []), (3, [2, 3, 13, 14], []), (4, [2, 3, 13, 14, 15], []), (5, [2, 3, 5, 13, 14], []), (6, [2, 3, 13, 14, 28], []), (7, [4], []), (8, [2, 3, 13, 14], []), (9, [4], [])]⟩ 30 (Tryd.f53.body.getD .skip) = some my53 := by kernel_rfl
theorem does53 {args : List LV} (hl : args.length.ble 30 = true) {S S' : List (List LV)} (hS : S'.length = S.length) {o : Out} (h : Lt ⟨numE 0 args, argS 0 S, []⟩ (awp Tryd.prog my53 (Fin [(.t 4)] o S'))) : Does Tryd.prog 53 args S o S' :=
  does_of_awp mixed Tryd.func53 (by kernel_rfl) (by kernel_rfl) my53_is (by kernel_rfl) (Nat.le_of_ble_eq_true hl) hS h
attribute [go_sem ↓] w53_0 w53_1 w53_2 w53_3 w53_4 w53_5 w53_6 w53_7 w53_8 w53_9
attribute [go_sem] my53
/-! ### 36: lychgate/types.deep -/
def r36_0 : MC := .reg [⟨none, (.boxc 2 (.t 0))⟩, ⟨none, (.mv 4 (.c (.imm true (.int .i64 0))))⟩] none (some ([1, 2], []))
def w36_0 := @awpR_no Tryd.prog Q σ r36_0 _ _ ⟨rfl, rfl⟩
def r36_1 : MC := .reg [⟨none, (.mv 8 (.t 1))⟩, ⟨none, (.bin 9 .leq (.t 8) (.c (.imm true (.int .i64 1))))⟩] none (some ([1, 2, 9], []))
def w36_1 := @awpR_no Tryd.prog Q σ r36_1 _ _ ⟨rfl, rfl⟩
def r36_2 : MC := .reg [⟨none, (.mv 10 (.t 1))⟩, ⟨none, (.mv 4 (.t 10))⟩] none (some ([4], []))
def w36_2 := @awpR_no Tryd.prog Q σ r36_2 _ _ ⟨rfl, rfl⟩
def r36_3 : MC := .reg [⟨none, (.mv 5 (.c (.imm true (.int .i64 0))))⟩] none (some ([1, 2, 5], []))
def w36_3 := @awpR_no Tryd.prog Q σ r36_3 _ _ ⟨rfl, rfl⟩
def r36_4 : MC := .reg [⟨none, (.fad 11 (.t 2) 1)⟩, ⟨none, (.load 12 (.t 11) none)⟩, ⟨none, (.len 13 (.t 12))⟩, ⟨none, (.mv 14 (.c (.imm true (.int .i64 0))))⟩] none (some ([1, 5, 12, 13, 14], []))
def w36_4 := @awpR_no Tryd.prog Q σ r36_4 _ _ ⟨rfl, rfl⟩
def r36_5 : MC := .reg [⟨none, (.bin 15 .lss (.t 14) (.t 13))⟩] none (some ([1, 5, 12, 13, 14, 15], []))
def w36_5 := @awpR_no Tryd.prog Q σ r36_5 _ _ ⟨rfl, rfl⟩
def r36_6 : MC := .reg [⟨none, (.iad 16 (.t 12) (.t 14) 2)⟩, ⟨none, (.load 17 (.t 16) (some 2))⟩, ⟨none, (.alloc 7 z2)⟩, ⟨none, (.store (.t 7) (.t 17) 2)⟩] none (some ([1, 5, 7, 12, 13, 14], [7]))
def w36_6 := @awpR_get Tryd.prog Q σ r36_6 _ _ [7] ⟨rfl, rfl⟩
def r36_7 : MC := .reg [⟨none, (.mv 18 (.t 5))⟩, ⟨none, (.load 19 (.t 7) (some 2))⟩, ⟨none, (.mv 20 (.t 1))⟩, ⟨none, (.bin 21 .sub (.t 20) (.c (.imm true (.int .i64 1))))⟩, ⟨none, (.call (some 22) (.c (.fn 36 [])) [(.t 19), (.t 21)])⟩, ⟨none, (.mx 23 [(.t 18), (.t 22)])⟩, ⟨none, (.mv 5 (.t 23))⟩] none (some ([1, 5, 12, 13, 14], []))
def w36_7 := @awpR_no Tryd.prog Q σ r36_7 _ _ ⟨rfl, rfl⟩
def r36_8 : MC := .reg [⟨none, (.bin 24 .add (.t 14) (.c (.imm true (.int .i64 1))))⟩, ⟨none, (.mv 14 (.t 24))⟩] none (some ([1, 5, 12, 13, 14], []))
def w36_8 := @awpR_no Tryd.prog Q σ r36_8 _ _ ⟨rfl, rfl⟩
def l36_0 : MC := (.seq r36_5 (.seq (.cond (.t 15) .skip (.exit 0)) (.seq (.block 1 (.seq r36_6 r36_7)) r36_8)))
def r36_9 : MC := .reg [⟨none, (.mv 25 (.t 5))⟩, ⟨none, (.bin 26 .add (.t 25) (.c (.imm true (.int .i64 1))))⟩, ⟨none, (.mv 4 (.t 26))⟩] none (some ([4], []))
def w36_9 := @awpR_no Tryd.prog Q σ r36_9 _ _ ⟨rfl, rfl⟩
def my36 : MC := (.seq r36_0 (.seq (.seq r36_1 (.cond (.t 9) (.seq r36_2 .ret) .skip)) (.seq r36_3 (.seq (.seq r36_4 (.block 0 (.loop l36_0))) (.seq r36_9 .ret)))))
theorem my36_is : trC Tryd.prog ⟨[2], []⟩ ⟨[],
  [(0, [1, 2], []), (1, [1, 2, 9], []), (2, [4], []), (3, [1, 2, 5], []), (4, [1, 5, 12, 13, 14], []), (5, [1, 5, 12, 13, 14, 15], []), (6, [1, 5, 7, 12, 13, 14], [7]), (7, [1, 5, 12, 13, 14], []), (8, [1, 5, 12, 13, 14], []), (9, [4], [])]⟩ 27 (Tryd.f36.body.getD .skip) = some my36 := by kernel_rfl
theorem does36 {args : List LV} (hl : args.length.ble 27 = true) {S S' : List (List LV)} (hS : S'.length = S.length) {o : Out} (h : Lt ⟨numE 0 args, argS 0 S, []⟩ (awp Tryd.prog my36 (Fin [(.t 4)] o S'))) : Does Tryd.prog 36 args S o S' :=
  does_of_awp mixed Tryd.func36 (by kernel_rfl) (by kernel_rfl) my36_is (by kernel_rfl) (Nat.le_of_ble_eq_true hl) hS h
attribute [go_sem ↓] w36_0 w36_1 w36_2 w36_3 w36_4 w36_5 w36_6 w36_7 w36_8 w36_9
attribute [go_sem] my36
/-! ### 35: (*lychgate/types.counter).count -/
def r35_0 : MC := .reg [⟨none, (.boxc 3 (.t 1))⟩] none (some ([0, 3], []))
def w35_0 := @awpR_no Tryd.prog Q σ r35_0 _ _ ⟨rfl, rfl⟩
def r35_1 : MC := .reg [⟨none, (.mv 6 (.t 0))⟩, ⟨none, (.nilc 7 (.t 6))⟩, ⟨none, (.fad 8 (.t 7) 0)⟩, ⟨none, (.load 9 (.t 8) none)⟩, ⟨none, (.bin 10 .add (.t 9) (.c (.imm true (.int .i64 1))))⟩, ⟨none, (.nilc 11 (.t 6))⟩, ⟨none, (.fad 12 (.t 11) 0)⟩, ⟨none, (.store (.t 12) (.t 10) 1)⟩] none (some ([0, 3], []))
def w35_1 := @awpR_no Tryd.prog Q σ r35_1 _ _ ⟨rfl, rfl⟩
def r35_2 : MC := .reg [⟨none, (.mv 13 (.t 0))⟩, ⟨none, (.nilc 14 (.t 13))⟩, ⟨none, (.fad 15 (.t 14) 0)⟩, ⟨none, (.load 16 (.t 15) none)⟩, ⟨none, (.bin 17 .gtr (.t 16) (.c (.imm true (.int .i64 8192))))⟩] none (some ([0, 3, 17], []))
def w35_2 := @awpR_no Tryd.prog Q σ r35_2 _ _ ⟨rfl, rfl⟩
def r35_3 : MC := .reg [⟨none, (.build 18 [] [])⟩, ⟨none, (.mkif 19 82 (.t 18))⟩, ⟨none, (.pan (.t 19))⟩] none (some ([0, 3], []))
def w35_3 := @awpR_no Tryd.prog Q σ r35_3 _ _ ⟨rfl, rfl⟩
def r35_4 : MC := .reg [⟨none, (.fad 20 (.t 3) 1)⟩, ⟨none, (.load 21 (.t 20) none)⟩, ⟨none, (.len 22 (.t 21))⟩, ⟨none, (.mv 23 (.c (.imm true (.int .i64 0))))⟩] none (some ([0, 21, 22, 23], []))
def w35_4 := @awpR_no Tryd.prog Q σ r35_4 _ _ ⟨rfl, rfl⟩
def r35_5 : MC := .reg [⟨none, (.bin 24 .lss (.t 23) (.t 22))⟩] none (some ([0, 21, 22, 23, 24], []))
def w35_5 := @awpR_no Tryd.prog Q σ r35_5 _ _ ⟨rfl, rfl⟩
def r35_6 : MC := .reg [⟨none, (.iad 25 (.t 21) (.t 23) 2)⟩, ⟨none, (.load 26 (.t 25) (some 2))⟩, ⟨none, (.alloc 5 z2)⟩, ⟨none, (.store (.t 5) (.t 26) 2)⟩] none (some ([0, 5, 21, 22, 23], [5]))
def w35_6 := @awpR_get Tryd.prog Q σ r35_6 _ _ [5] ⟨rfl, rfl⟩
def r35_7 : MC := .reg [⟨none, (.mv 27 (.t 0))⟩, ⟨none, (.load 28 (.t 5) (some 2))⟩, ⟨none, (.callB (some 29) (.c (.fn 35 [])) [(.t 27), (.t 28)] [(.arg 0)])⟩] none (some ([0, 21, 22, 23], []))
def w35_7 := @awpR_no Tryd.prog Q σ r35_7 _ _ ⟨rfl, rfl⟩
def r35_8 : MC := .reg [⟨none, (.bin 30 .add (.t 23) (.c (.imm true (.int .i64 1))))⟩, ⟨none, (.mv 23 (.t 30))⟩] none (some ([0, 21, 22, 23], []))
def w35_8 := @awpR_no Tryd.prog Q σ r35_8 _ _ ⟨rfl, rfl⟩
def l35_0 : MC := (.seq r35_5 (.seq (.cond (.t 24) .skip (.exit 0)) (.seq (.block 1 (.seq r35_6 r35_7)) r35_8)))
def my35 : MC := (.seq r35_0 (.seq (.seq r35_1 (.seq r35_2 (.cond (.t 17) r35_3 .skip))) (.seq r35_4 (.block 0 (.loop l35_0)))))
theorem my35_is : trC Tryd.prog ⟨[3], [(29, [.arg 0])]⟩ ⟨[],
  [(0, [0, 3], []), (1, [0, 3], []), (2, [0, 3, 17], []), (3, [0, 3], []), (4, [0, 21, 22, 23], []), (5, [0, 21, 22, 23, 24], []), (6, [0, 5, 21, 22, 23], [5]), (7, [0, 21, 22, 23], []), (8, [0, 21, 22, 23], [])]⟩ 31 (Tryd.f35.body.getD .skip) = some my35 := by kernel_rfl
theorem does35 {args : List LV} (hl : args.length.ble 31 = true) {S S' : List (List LV)} (hS : S'.length = S.length) {o : Out} (h : Lt ⟨numE 0 args, argS 0 S, []⟩ (awp Tryd.prog my35 (Fin [] o S'))) : Does Tryd.prog 35 args S o S' :=
  does_of_awp mixed Tryd.func35 (by kernel_rfl) (by kernel_rfl) my35_is (by kernel_rfl) (Nat.le_of_ble_eq_true hl) hS h
attribute [go_sem ↓] w35_0 w35_1 w35_2 w35_3 w35_4 w35_5 w35_6 w35_7 w35_8
attribute [go_sem] my35
/-! ### 47: lychgate/types.Same -/
def r47_0 : MC := .reg [⟨none, (.boxc 2 (.t 0))⟩, ⟨none, (.boxc 3 (.t 1))⟩, ⟨none, (.mv 4 (.c (.imm true (.bool false))))⟩] none (some ([2, 3], []))
def w47_0 := @awpR_no Tryd.prog Q σ r47_0 _ _ ⟨rfl, rfl⟩
def r47_1 : MC := .reg [⟨none, (.load 5 (.t 2) (some 2))⟩, ⟨none, (.call (some 6) (.c (.fn 9 [])) [(.t 5)])⟩, ⟨none, (.bin 7 .eql (.t 6) (.c (.imm true (.int .i64 0))))⟩, ⟨none, (.mv 8 (.t 7))⟩, ⟨(some (8, true)), (.load 9 (.t 3) (some 2))⟩, ⟨(some (8, true)), (.call (some 10) (.c (.fn 9 [])) [(.t 9)])⟩, ⟨(some (8, true)), (.bin 11 .eql (.t 10) (.c (.imm true (.int .i64 0))))⟩, ⟨none, (.pick 12 (.t 8) (.t 11) (.c (.imm true (.bool false))))⟩, ⟨none, (.mv 13 (.t 12))⟩, ⟨(some (13, true)), (.load 14 (.t 2) (some 2))⟩, ⟨(some (13, true)), (.load 15 (.t 3) (some 2))⟩, ⟨(some (13, true)), (.call (some 16) (.c (.fn 53 [])) [(.t 14), (.t 15)])⟩, ⟨none, (.pick 17 (.t 13) (.t 16) (.c (.imm true (.bool false))))⟩, ⟨none, (.mv 4 (.t 17))⟩] none (some ([4], []))
def w47_1 := @awpR_no Tryd.prog Q σ r47_1 _ _ ⟨rfl, rfl⟩
def my47 : MC := (.seq r47_0 (.seq r47_1 .ret))
theorem my47_is : trC Tryd.prog ⟨[2, 3], []⟩ ⟨[],
  [(0, [2, 3], []), (1, [4], [])]⟩ 18 (Tryd.f47.body.getD .skip) = some my47 := by kernel_rfl
theorem does47 {args : List LV} (hl : args.length.ble 18 = true) {S S' : List (List LV)} (hS : S'.length = S.length) {o : Out} (h : Lt ⟨numE 0 args, argS 0 S, []⟩ (awp Tryd.prog my47 (Fin [(.t 4)] o S'))) : Does Tryd.prog 47 args S o S' :=
  does_of_awp mixed Tryd.func47 (by kernel_rfl) (by kernel_rfl) my47_is (by kernel_rfl) (Nat.le_of_ble_eq_true hl) hS h
attribute [go_sem ↓] w47_0 w47_1
attribute [go_sem] my47
/-! ### 20: lychgate/types.Ground -/
def r20_0 : MC := .reg [⟨none, (.boxc 1 (.t 0))⟩, ⟨none, (.alloc 2 z2)⟩, ⟨none, (.mv 3 (.c (.imm true (.bool false))))⟩] none (some ([1, 2], [2, 18]))
def w20_0 := @awpR_get Tryd.prog Q σ r20_0 _ _ [2] ⟨rfl, rfl⟩
def r20_1 : MC := .reg [⟨none, (.load 4 (.t 1) (some 2))⟩, ⟨none, (.call (some 5) (.c (.fn 9 [])) [(.t 4)])⟩, ⟨none, (.bin 6 .neq (.t 5) (.c (.imm true (.int .i64 0))))⟩, ⟨none, (.mv 7 (.t 6))⟩, ⟨(some (7, false)), (.fad 8 (.t 1) 0)⟩, ⟨(some (7, false)), (.load 9 (.t 8) none)⟩, ⟨(some (7, false)), (.bin 10 .eql (.t 9) (.c (.imm true (.int .i8 0))))⟩, ⟨none, (.pick 11 (.t 7) (.c (.imm true (.bool true))) (.t 10))⟩] none (some ([1, 2, 11], [2, 18]))
def w20_1 := @awpR_no Tryd.prog Q σ r20_1 _ _ ⟨rfl, rfl⟩
def r20_2 : MC := .reg [⟨none, (.build 12 z2 [])⟩, ⟨none, (.store (.t 2) (.t 12) 2)⟩, ⟨none, (.mv 3 (.c (.imm true (.bool false))))⟩] none (some ([2, 3], [2, 18]))
def w20_2 := @awpR_no Tryd.prog Q σ r20_2 _ _ ⟨rfl, rfl⟩
def r20_3 : MC := .reg [⟨none, (.fad 13 (.t 1) 0)⟩, ⟨none, (.load 14 (.t 13) none)⟩, ⟨none, (.fad 15 (.t 1) 0)⟩, ⟨none, (.load 16 (.t 15) none)⟩, ⟨none, (.call (some 17) (.c (.fn 37 [])) [(.t 16)])⟩, ⟨none, (.mksl 18 (.t 17) z2)⟩, ⟨none, (.build 19 z2 [(0, (1, (.t 14))), (1, (1, (.t 18)))])⟩, ⟨none, (.store (.t 2) (.t 19) 2)⟩, ⟨none, (.mv 3 (.c (.imm true (.bool true))))⟩] (some []) (some ([2, 3], [2, 18]))
def w20_3 := @awpD_no Tryd.prog Q σ r20_3 _ _ _ ⟨rfl, rfl⟩
def my20 : MC := (.seq r20_0 (.seq (.seq r20_1 (.cond (.t 11) (.seq r20_2 .ret) .skip)) (.seq r20_3 .ret)))
theorem my20_is : trC Tryd.prog ⟨[1], []⟩ ⟨[(3, [[], [0], [], [2], [2, 3], [2, 3, 4], [0, 1, 2, 3, 4, 5], [0, 1, 2, 3, 4, 5, 6], [0, 1, 2, 3, 4, 5, 6, 7]], [])],
  [(0, [1, 2], [2, 18]), (1, [1, 2, 11], [2, 18]), (2, [2, 3], [2, 18]), (3, [2, 3], [2, 18])]⟩ 20 (Tryd.f20.body.getD .skip) = some my20 := by kernel_rfl
theorem does20 {args : List LV} (hl : args.length.ble 20 = true) {S S' : List (List LV)} (hS : S'.length = S.length) {o : Out} (h : Lt ⟨numE 0 args, argS 0 S, []⟩ (awp Tryd.prog my20 (Fin [(.c 2 (some 2)), (.t 3)] o S'))) : Does Tryd.prog 20 args S o S' :=
  does_of_awp mixed Tryd.func20 (by kernel_rfl) (by kernel_rfl) my20_is (by kernel_rfl) (Nat.le_of_ble_eq_true hl) hS h
attribute [go_sem ↓] w20_0 w20_1 w20_2 w20_3
attribute [go_sem] my20
/-! ### 19: lychgate/agree.level -/
def r19_0 : MC := .reg [⟨none, (.boxc 2 (.t 0))⟩, ⟨none, (.boxc 3 (.t 1))⟩, ⟨none, (.mv 4 (.c (.imm true (.bool false))))⟩] none (some ([2, 3], []))
def w19_0 := @awpR_no Tryd.prog Q σ r19_0 _ _ ⟨rfl, rfl⟩
def r19_1 : MC := .reg [⟨none, (.fad 7 (.t 2) 0)⟩, ⟨none, (.load 8 (.t 7) none)⟩, ⟨none, (.fad 9 (.t 3) 0)⟩, ⟨none, (.load 10 (.t 9) none)⟩, ⟨none, (.build 11 [(.imm true (.int .i8 0)), (.imm true (.int .i8 0))] [(0, (1, (.t 8))), (1, (1, (.t 10)))])⟩, ⟨none, (.alloc 5 [(.imm true (.int .i8 0)), (.imm true (.int .i8 0))])⟩, ⟨none, (.store (.t 5) (.t 11) 2)⟩] none (some ([2, 3, 5], [5]))
def w19_1 := @awpR_get Tryd.prog Q σ r19_1 _ _ [5] ⟨rfl, rfl⟩
def r19_2 : MC := .reg [⟨none, (.aad 13 (.t 5) (.c (.imm true (.int .i64 0))) 2 1)⟩, ⟨none, (.load 14 (.t 13) none)⟩, ⟨none, (.bin 15 .eql (.t 14) (.c (.imm true (.int .i8 0))))⟩, ⟨none, (.mv 12 (.t 15))⟩] none (some ([2, 3, 5, 12], [5]))
def w19_2 := @awpR_no Tryd.prog Q σ r19_2 _ _ ⟨rfl, rfl⟩
def r19_3 : MC := .reg [⟨none, (.aad 16 (.t 5) (.c (.imm true (.int .i64 1))) 2 1)⟩, ⟨none, (.load 17 (.t 16) none)⟩, ⟨none, (.bin 18 .eql (.t 17) (.c (.imm true (.int .i8 0))))⟩, ⟨none, (.mv 12 (.t 18))⟩] none (some ([2, 3, 5, 12], [5]))
def w19_3 := @awpR_no Tryd.prog Q σ r19_3 _ _ ⟨rfl, rfl⟩
def r19_4 : MC := .reg [⟨none, (.mv 4 (.c (.imm true (.bool true))))⟩] none (some ([4], []))
def w19_4 := @awpR_no Tryd.prog Q σ r19_4 _ _ ⟨rfl, rfl⟩
def r19_5 : MC := .reg [⟨none, (.aad 20 (.t 5) (.c (.imm true (.int .i64 0))) 2 1)⟩, ⟨none, (.load 21 (.t 20) none)⟩, ⟨none, (.aad 22 (.t 5) (.c (.imm true (.int .i64 1))) 2 1)⟩, ⟨none, (.load 23 (.t 22) none)⟩, ⟨none, (.bin 24 .neq (.t 21) (.t 23))⟩, ⟨none, (.mv 19 (.t 24))⟩] none (some ([2, 3, 19], []))
def w19_5 := @awpR_no Tryd.prog Q σ r19_5 _ _ ⟨rfl, rfl⟩
def r19_6 : MC := .reg [⟨none, (.mv 4 (.c (.imm true (.bool false))))⟩] none (some ([4], []))
def w19_6 := @awpR_no Tryd.prog Q σ r19_6 _ _ ⟨rfl, rfl⟩
def r19_7 : MC := .reg [⟨none, (.fad 25 (.t 2) 1)⟩, ⟨none, (.load 26 (.t 25) none)⟩, ⟨none, (.len 27 (.t 26))⟩, ⟨none, (.mv 28 (.c (.imm true (.int .i64 0))))⟩] none (some ([2, 3, 27, 28], []))
def w19_7 := @awpR_no Tryd.prog Q σ r19_7 _ _ ⟨rfl, rfl⟩
def r19_8 : MC := .reg [⟨none, (.bin 29 .lss (.t 28) (.t 27))⟩] none (some ([2, 3, 27, 28, 29], []))
def w19_8 := @awpR_no Tryd.prog Q σ r19_8 _ _ ⟨rfl, rfl⟩
def r19_9 : MC := .reg [⟨none, (.mv 30 (.t 28))⟩, ⟨none, (.mv 6 (.t 30))⟩] none (some ([2, 3, 6, 27, 28], []))
def w19_9 := @awpR_no Tryd.prog Q σ r19_9 _ _ ⟨rfl, rfl⟩
def r19_10 : MC := .reg [⟨none, (.fad 31 (.t 2) 1)⟩, ⟨none, (.load 32 (.t 31) none)⟩, ⟨none, (.mv 33 (.t 6))⟩, ⟨none, (.iad 34 (.t 32) (.t 33) 2)⟩, ⟨none, (.load 35 (.t 34) (some 2))⟩, ⟨none, (.fad 36 (.t 3) 1)⟩, ⟨none, (.load 37 (.t 36) none)⟩, ⟨none, (.mv 38 (.t 6))⟩, ⟨none, (.iad 39 (.t 37) (.t 38) 2)⟩, ⟨none, (.load 40 (.t 39) (some 2))⟩, ⟨none, (.call (some 41) (.c (.fn 19 [])) [(.t 35), (.t 40)])⟩, ⟨none, (.un 42 .not (.t 41))⟩] (some []) (some ([2, 3, 27, 28, 42], []))
def w19_10 := @awpD_no Tryd.prog Q σ r19_10 _ _ _ ⟨rfl, rfl⟩
def r19_11 : MC := .reg [⟨none, (.mv 4 (.c (.imm true (.bool false))))⟩] none (some ([4], []))
def w19_11 := @awpR_no Tryd.prog Q σ r19_11 _ _ ⟨rfl, rfl⟩
def r19_12 : MC := .reg [⟨none, (.bin 43 .add (.t 28) (.c (.imm true (.int .i64 1))))⟩, ⟨none, (.mv 28 (.t 43))⟩] none (some ([2, 3, 27, 28], []))
def w19_12 := @awpR_no Tryd.prog Q σ r19_12 _ _ ⟨rfl, rfl⟩
def l19_0 : MC := (.seq r19_8 (.seq (.cond (.t 29) .skip (.exit 1)) (.seq (.block 2 (.seq r19_9 (.seq r19_10 (.cond (.t 42) (.seq r19_11 .ret) .skip)))) r19_12)))
def r19_13 : MC := .reg [⟨none, (.mv 4 (.c (.imm true (.bool true))))⟩] none (some ([4], []))
def w19_13 := @awpR_no Tryd.prog Q σ r19_13 _ _ ⟨rfl, rfl⟩
def my19 : MC := (.seq r19_0 (.seq (.seq r19_1 (.block 0 (.seq (.seq r19_2 (.cond (.t 12) .skip r19_3)) (.cond (.t 12) (.seq r19_4 .ret) (.seq r19_5 (.cond (.t 19) (.seq r19_6 .ret) .skip)))))) (.seq (.seq r19_7 (.block 1 (.loop l19_0))) (.seq r19_13 .ret))))
theorem my19_is : trC Tryd.prog ⟨[2, 3], []⟩ ⟨[(10, [[], [0], [], [0, 1, 2], [0, 1, 2, 3], [], [5], [], [5, 6, 7], [5, 6, 7, 8], [0, 1, 2, 3, 4, 5, 6, 7, 8, 9], [0, 1, 2, 3, 4, 5, 6, 7, 8, 9, 10]], [])],
  [(0, [2, 3], []), (1, [2, 3, 5], [5]), (2, [2, 3, 5, 12], [5]), (3, [2, 3, 5, 12], [5]), (4, [4], []), (5, [2, 3, 19], []), (6, [4], []), (7, [2, 3, 27, 28], []), (8, [2, 3, 27, 28, 29], []), (9, [2, 3, 6, 27, 28], []), (10, [2, 3, 27, 28, 42], []), (11, [4], []), (12, [2, 3, 27, 28], []), (13, [4], [])]⟩ 44 (Tryd.f19.body.getD .skip) = some my19 := by kernel_rfl
theorem does19 {args : List LV} (hl : args.length.ble 44 = true) {S S' : List (List LV)} (hS : S'.length = S.length) {o : Out} (h : Lt ⟨numE 0 args, argS 0 S, []⟩ (awp Tryd.prog my19 (Fin [(.t 4)] o S'))) : Does Tryd.prog 19 args S o S' :=
  does_of_awp mixed Tryd.func19 (by kernel_rfl) (by kernel_rfl) my19_is (by kernel_rfl) (Nat.le_of_ble_eq_true hl) hS h
attribute [go_sem ↓] w19_0 w19_1 w19_2 w19_3 w19_4 w19_5 w19_6 w19_7 w19_8 w19_9 w19_10 w19_11 w19_12 w19_13
attribute [go_sem] my19
/-! ### 10: lychgate/agree.Agree -/
def r10_0 : MC := .reg [⟨none, (.boxc 2 (.t 0))⟩, ⟨none, (.boxc 3 (.t 1))⟩, ⟨none, (.mv 4 (.c (.imm true (.bool false))))⟩] none (some ([2, 3], []))
def w10_0 := @awpR_no Tryd.prog Q σ r10_0 _ _ ⟨rfl, rfl⟩
def r10_1 : MC := .reg [⟨none, (.load 5 (.t 2) (some 2))⟩, ⟨none, (.call (some 6) (.c (.fn 9 [])) [(.t 5)])⟩, ⟨none, (.bin 7 .eql (.t 6) (.c (.imm true (.int .i64 0))))⟩, ⟨none, (.mv 8 (.t 7))⟩, ⟨(some (8, true)), (.load 9 (.t 3) (some 2))⟩, ⟨(some (8, true)), (.call (some 10) (.c (.fn 9 [])) [(.t 9)])⟩, ⟨(some (8, true)), (.bin 11 .eql (.t 10) (.c (.imm true (.int .i64 0))))⟩, ⟨none, (.pick 12 (.t 8) (.t 11) (.c (.imm true (.bool false))))⟩, ⟨none, (.mv 13 (.t 12))⟩, ⟨(some (13, true)), (.load 14 (.t 2) (some 2))⟩, ⟨(some (13, true)), (.load 15 (.t 3) (some 2))⟩, ⟨(some (13, true)), (.call (some 16) (.c (.fn 19 [])) [(.t 14), (.t 15)])⟩, ⟨none, (.pick 17 (.t 13) (.t 16) (.c (.imm true (.bool false))))⟩, ⟨none, (.mv 4 (.t 17))⟩] none (some ([4], []))
def w10_1 := @awpR_no Tryd.prog Q σ r10_1 _ _ ⟨rfl, rfl⟩
def my10 : MC := (.seq r10_0 (.seq r10_1 .ret))
theorem my10_is : trC Tryd.prog ⟨[2, 3], []⟩ ⟨[],
  [(0, [2, 3], []), (1, [4], [])]⟩ 18 (Tryd.f10.body.getD .skip) = some my10 := by kernel_rfl
theorem does10 {args : List LV} (hl : args.length.ble 18 = true) {S S' : List (List LV)} (hS : S'.length = S.length) {o : Out} (h : Lt ⟨numE 0 args, argS 0 S, []⟩ (awp Tryd.prog my10 (Fin [(.t 4)] o S'))) : Does Tryd.prog 10 args S o S' :=
  does_of_awp mixed Tryd.func10 (by kernel_rfl) (by kernel_rfl) my10_is (by kernel_rfl) (Nat.le_of_ble_eq_true hl) hS h
attribute [go_sem ↓] w10_0 w10_1
attribute [go_sem] my10
end Go.Proofs.YtopgmopdjiahmaaDoor.Lg
