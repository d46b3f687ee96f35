/- Texts of one proof, joined by program (gen/tells.py): Mg Ua. Conditions: none; plain definitions and lemmas. -/
import Derived.Test.YtopgmopdjiahmaaH4
import Derived.Test.YtopgmopdjiahmaaProg
import Derived.Test.YtopgmopdjiahmaaH8
/- MADE BY PROGRAM (gen/mk.py): the code of functions, as the logic sees it. Conditions: none; plain definitions and lemmas. -/
set_option linter.unusedVariables false
set_option linter.defProp false
set_option maxRecDepth 100000
namespace Go.Proofs.Ytopgmopdjiahmaa.Lg
open Go Go.RowKit Go.Proofs
variable {Q : AEx → St → Prop} {σ : St}

/-! ### 132: lychgate/lychgateref02.count -/
def r132_0 : MC := .reg [⟨none, (.boxc 2 (.t 0))⟩, ⟨none, (.mv 4 (.c (.imm true (.int .i64 0))))⟩] none (some ([1, 2], []))
def w132_0 := @awpR_no Try.prog Q σ r132_0 _ _ ⟨rfl, rfl⟩
def r132_1 : MC := .reg [⟨none, (.mv 6 (.t 1))⟩, ⟨none, (.bin 7 .add (.t 6) (.c (.imm true (.int .i64 1))))⟩, ⟨none, (.mv 1 (.t 7))⟩] none (some ([1, 2], []))
def w132_1 := @awpR_no Try.prog Q σ r132_1 _ _ ⟨rfl, rfl⟩
def r132_2 : MC := .reg [⟨none, (.mv 5 (.c (.imm true (.int .i64 0))))⟩] none (some ([1, 2, 5], []))
def w132_2 := @awpR_no Try.prog Q σ r132_2 _ _ ⟨rfl, rfl⟩
def r132_3 : MC := .reg [⟨none, (.mv 8 (.t 5))⟩, ⟨none, (.fad 9 (.t 2) 1)⟩, ⟨none, (.load 10 (.t 9) none)⟩, ⟨none, (.len 11 (.t 10))⟩, ⟨none, (.bin 12 .lss (.t 8) (.t 11))⟩, ⟨none, (.mv 13 (.t 12))⟩, ⟨(some (13, true)), (.mv 14 (.t 1))⟩, ⟨(some (13, true)), (.bin 15 .leq (.t 14) (.c (.imm true (.int .i64 8192))))⟩, ⟨none, (.pick 16 (.t 13) (.t 15) (.c (.imm true (.bool false))))⟩] none (some ([1, 2, 5, 16], []))
def w132_3 := @awpR_no Try.prog Q σ r132_3 _ _ ⟨rfl, rfl⟩
def r132_4 : MC := .reg [⟨none, (.fad 19 (.t 2) 1)⟩, ⟨none, (.load 20 (.t 19) none)⟩, ⟨none, (.mv 21 (.t 5))⟩, ⟨none, (.iad 22 (.t 20) (.t 21) 2)⟩, ⟨none, (.load 23 (.t 22) (some 2))⟩, ⟨none, (.mv 24 (.t 1))⟩, ⟨none, (.call (some 25) (.c (.fn 132 [])) [(.t 23), (.t 24)])⟩, ⟨none, (.mv 1 (.t 25))⟩] none (some ([1, 2, 5], []))
def w132_4 := @awpR_no Try.prog Q σ r132_4 _ _ ⟨rfl, rfl⟩
def r132_5 : MC := .reg [⟨none, (.mv 17 (.t 5))⟩, ⟨none, (.bin 18 .add (.t 17) (.c (.imm true (.int .i64 1))))⟩, ⟨none, (.mv 5 (.t 18))⟩] none (some ([1, 2, 5], []))
def w132_5 := @awpR_no Try.prog Q σ r132_5 _ _ ⟨rfl, rfl⟩
def l132_0 : MC := (.seq (.seq r132_3 (.cond (.t 16) .skip (.exit 0))) (.seq (.block 1 r132_4) r132_5))
def r132_6 : MC := .reg [⟨none, (.mv 26 (.t 1))⟩, ⟨none, (.mv 4 (.t 26))⟩] none (some ([4], []))
def w132_6 := @awpR_no Try.prog Q σ r132_6 _ _ ⟨rfl, rfl⟩
def my132 : MC := (.seq r132_0 (.seq r132_1 (.seq (.seq r132_2 (.block 0 (.loop l132_0))) (.seq r132_6 .ret))))
theorem my132_is : trC Try.prog ⟨[2], []⟩ ⟨[],
  [(0, [1, 2], []), (1, [1, 2], []), (2, [1, 2, 5], []), (3, [1, 2, 5, 16], []), (5, [1, 2, 5], []), (4, [1, 2, 5], []), (6, [4], [])]⟩ 27 (Try.f132.body.getD .skip) = some my132 := by kernel_rfl
theorem does132 {args : List LV} (hl : args.length.ble 27 = true) {S S' : List (List LV)} (hS : S'.length = S.length) {o : Out} (h : Lt ⟨numE 0 args, argS 0 S, []⟩ (awp Try.prog my132 (Fin [(.t 4)] o S'))) : Does Try.prog 132 args S o S' :=
  does_of_awp mixed Try.func132 (by kernel_rfl) (by kernel_rfl) my132_is (by kernel_rfl) (Nat.le_of_ble_eq_true hl) hS h
attribute [go_sem ↓] w132_0 w132_1 w132_2 w132_3 w132_4 w132_5 w132_6
attribute [go_sem] my132
/-! ### 113: lychgate/lychgateref02.Nodes -/
def r113_0 : MC := .reg [⟨none, (.boxc 1 (.t 0))⟩, ⟨none, (.mv 2 (.c (.imm true (.int .i64 0))))⟩] none (some ([1], []))
def w113_0 := @awpR_no Try.prog Q σ r113_0 _ _ ⟨rfl, rfl⟩
def r113_1 : MC := .reg [⟨none, (.load 3 (.t 1) (some 2))⟩, ⟨none, (.call (some 4) (.c (.fn 132 [])) [(.t 3), (.c (.imm true (.int .i64 0)))])⟩, ⟨none, (.mn 5 [(.t 4), (.c (.imm true (.int .i64 8193)))])⟩, ⟨none, (.mv 2 (.t 5))⟩] none (some ([2], []))
def w113_1 := @awpR_no Try.prog Q σ r113_1 _ _ ⟨rfl, rfl⟩
def my113 : MC := (.seq r113_0 (.seq r113_1 .ret))
theorem my113_is : trC Try.prog ⟨[1], []⟩ ⟨[],
  [(0, [1], []), (1, [2], [])]⟩ 6 (Try.f113.body.getD .skip) = some my113 := by kernel_rfl
theorem does113 {args : List LV} (hl : args.length.ble 6 = true) {S S' : List (List LV)} (hS : S'.length = S.length) {o : Out} (h : Lt ⟨numE 0 args, argS 0 S, []⟩ (awp Try.prog my113 (Fin [(.t 2)] o S'))) : Does Try.prog 113 args S o S' :=
  does_of_awp mixed Try.func113 (by kernel_rfl) (by kernel_rfl) my113_is (by kernel_rfl) (Nat.le_of_ble_eq_true hl) hS h
attribute [go_sem ↓] w113_0 w113_1
attribute [go_sem] my113
/-! ### 133: lychgate/lychgateref02.deep -/
def r133_0 : MC := .reg [⟨none, (.boxc 2 (.t 0))⟩, ⟨none, (.mv 4 (.c (.imm true (.int .i64 0))))⟩] none (some ([1, 2], []))
def w133_0 := @awpR_no Try.prog Q σ r133_0 _ _ ⟨rfl, rfl⟩
def r133_1 : MC := .reg [⟨none, (.mv 7 (.t 1))⟩, ⟨none, (.bin 8 .leq (.t 7) (.c (.imm true (.int .i64 1))))⟩] none (some ([1, 2, 8], []))
def w133_1 := @awpR_no Try.prog Q σ r133_1 _ _ ⟨rfl, rfl⟩
def r133_2 : MC := .reg [⟨none, (.mv 9 (.t 1))⟩, ⟨none, (.mv 4 (.t 9))⟩] none (some ([4], []))
def w133_2 := @awpR_no Try.prog Q σ r133_2 _ _ ⟨rfl, rfl⟩
def r133_3 : MC := .reg [⟨none, (.mv 5 (.c (.imm true (.int .i64 0))))⟩] none (some ([1, 2, 5], []))
def w133_3 := @awpR_no Try.prog Q σ r133_3 _ _ ⟨rfl, rfl⟩
def r133_4 : MC := .reg [⟨none, (.mv 6 (.c (.imm true (.int .i64 0))))⟩] none (some ([1, 2, 5, 6], []))
def w133_4 := @awpR_no Try.prog Q σ r133_4 _ _ ⟨rfl, rfl⟩
def r133_5 : MC := .reg [⟨none, (.mv 10 (.t 6))⟩, ⟨none, (.fad 11 (.t 2) 1)⟩, ⟨none, (.load 12 (.t 11) none)⟩, ⟨none, (.len 13 (.t 12))⟩, ⟨none, (.bin 14 .lss (.t 10) (.t 13))⟩] none (some ([1, 2, 5, 6, 14], []))
def w133_5 := @awpR_no Try.prog Q σ r133_5 _ _ ⟨rfl, rfl⟩
def r133_6 : MC := .reg [⟨none, (.mv 17 (.t 5))⟩, ⟨none, (.fad 18 (.t 2) 1)⟩, ⟨none, (.load 19 (.t 18) none)⟩, ⟨none, (.mv 20 (.t 6))⟩, ⟨none, (.iad 21 (.t 19) (.t 20) 2)⟩, ⟨none, (.load 22 (.t 21) (some 2))⟩, ⟨none, (.mv 23 (.t 1))⟩, ⟨none, (.bin 24 .sub (.t 23) (.c (.imm true (.int .i64 1))))⟩, ⟨none, (.call (some 25) (.c (.fn 133 [])) [(.t 22), (.t 24)])⟩, ⟨none, (.mx 26 [(.t 17), (.t 25)])⟩, ⟨none, (.mv 5 (.t 26))⟩] none (some ([1, 2, 5, 6], []))
def w133_6 := @awpR_no Try.prog Q σ r133_6 _ _ ⟨rfl, rfl⟩
def r133_7 : MC := .reg [⟨none, (.mv 15 (.t 6))⟩, ⟨none, (.bin 16 .add (.t 15) (.c (.imm true (.int .i64 1))))⟩, ⟨none, (.mv 6 (.t 16))⟩] none (some ([1, 2, 5, 6], []))
def w133_7 := @awpR_no Try.prog Q σ r133_7 _ _ ⟨rfl, rfl⟩
def l133_0 : MC := (.seq (.seq r133_5 (.cond (.t 14) .skip (.exit 0))) (.seq (.block 1 r133_6) r133_7))
def r133_8 : MC := .reg [⟨none, (.mv 27 (.t 5))⟩, ⟨none, (.bin 28 .add (.c (.imm true (.int .i64 1))) (.t 27))⟩, ⟨none, (.mv 29 (.t 1))⟩, ⟨none, (.mn 30 [(.t 28), (.t 29)])⟩, ⟨none, (.mv 4 (.t 30))⟩] none (some ([4], []))
def w133_8 := @awpR_no Try.prog Q σ r133_8 _ _ ⟨rfl, rfl⟩
def my133 : MC := (.seq r133_0 (.seq (.seq r133_1 (.cond (.t 8) (.seq r133_2 .ret) .skip)) (.seq r133_3 (.seq (.seq r133_4 (.block 0 (.loop l133_0))) (.seq r133_8 .ret)))))
theorem my133_is : trC Try.prog ⟨[2], []⟩ ⟨[],
  [(0, [1, 2], []), (1, [1, 2, 8], []), (2, [4], []), (3, [1, 2, 5], []), (4, [1, 2, 5, 6], []), (5, [1, 2, 5, 6, 14], []), (7, [1, 2, 5, 6], []), (6, [1, 2, 5, 6], []), (8, [4], [])]⟩ 31 (Try.f133.body.getD .skip) = some my133 := by kernel_rfl
theorem does133 {args : List LV} (hl : args.length.ble 31 = true) {S S' : List (List LV)} (hS : S'.length = S.length) {o : Out} (h : Lt ⟨numE 0 args, argS 0 S, []⟩ (awp Try.prog my133 (Fin [(.t 4)] o S'))) : Does Try.prog 133 args S o S' :=
  does_of_awp mixed Try.func133 (by kernel_rfl) (by kernel_rfl) my133_is (by kernel_rfl) (Nat.le_of_ble_eq_true hl) hS h
attribute [go_sem ↓] w133_0 w133_1 w133_2 w133_3 w133_4 w133_5 w133_6 w133_7 w133_8
attribute [go_sem] my133
/-! ### 115: lychgate/lychgateref02.Depth -/
def r115_0 : MC := .reg [⟨none, (.boxc 1 (.t 0))⟩, ⟨none, (.mv 2 (.c (.imm true (.int .i64 0))))⟩] none (some ([1], []))
def w115_0 := @awpR_no Try.prog Q σ r115_0 _ _ ⟨rfl, rfl⟩
def r115_1 : MC := .reg [⟨none, (.load 3 (.t 1) (some 2))⟩, ⟨none, (.call (some 4) (.c (.fn 113 [])) [(.t 3)])⟩, ⟨none, (.bin 5 .gtr (.t 4) (.c (.imm true (.int .i64 8192))))⟩] none (some ([1, 5], []))
def w115_1 := @awpR_no Try.prog Q σ r115_1 _ _ ⟨rfl, rfl⟩
def r115_2 : MC := .reg [⟨none, (.mv 2 (.c (.imm true (.int .i64 201))))⟩] none (some ([2], []))
def w115_2 := @awpR_no Try.prog Q σ r115_2 _ _ ⟨rfl, rfl⟩
def r115_3 : MC := .reg [⟨none, (.load 6 (.t 1) (some 2))⟩, ⟨none, (.call (some 7) (.c (.fn 133 [])) [(.t 6), (.c (.imm true (.int .i64 201)))])⟩, ⟨none, (.mv 2 (.t 7))⟩] none (some ([2], []))
def w115_3 := @awpR_no Try.prog Q σ r115_3 _ _ ⟨rfl, rfl⟩
def my115 : MC := (.seq r115_0 (.seq (.seq r115_1 (.cond (.t 5) (.seq r115_2 .ret) .skip)) (.seq r115_3 .ret)))
theorem my115_is : trC Try.prog ⟨[1], []⟩ ⟨[],
  [(0, [1], []), (1, [1, 5], []), (2, [2], []), (3, [2], [])]⟩ 8 (Try.f115.body.getD .skip) = some my115 := by kernel_rfl
theorem does115 {args : List LV} (hl : args.length.ble 8 = true) {S S' : List (List LV)} (hS : S'.length = S.length) {o : Out} (h : Lt ⟨numE 0 args, argS 0 S, []⟩ (awp Try.prog my115 (Fin [(.t 2)] o S'))) : Does Try.prog 115 args S o S' :=
  does_of_awp mixed Try.func115 (by kernel_rfl) (by kernel_rfl) my115_is (by kernel_rfl) (Nat.le_of_ble_eq_true hl) hS h
attribute [go_sem ↓] w115_0 w115_1 w115_2 w115_3
attribute [go_sem] my115
/-! ### 137: lychgate/lychgateref02.Kids -/
def r137_0 : MC := .reg [⟨none, (.mv 2 (.c (.imm true (.int .i64 0))))⟩] none (some ([0], []))
def w137_0 := @awpR_no Try.prog Q σ r137_0 _ _ ⟨rfl, rfl⟩
def r137_1 : MC := .reg [⟨none, (.mv 3 (.t 0))⟩] none (some ([3], []))
def w137_1 := @awpR_no Try.prog Q σ r137_1 _ _ ⟨rfl, rfl⟩
def r137_2 : MC := .reg [⟨none, (.bin 5 .eql (.t 3) (.c (.imm true (.int .i8 0))))⟩, ⟨none, (.mv 4 (.t 5))⟩] none (some ([3, 4], []))
def w137_2 := @awpR_no Try.prog Q σ r137_2 _ _ ⟨rfl, rfl⟩
def r137_3 : MC := .reg [⟨none, (.bin 6 .eql (.t 3) (.c (.imm true (.int .i8 1))))⟩, ⟨none, (.mv 4 (.t 6))⟩] none (some ([3, 4], []))
def w137_3 := @awpR_no Try.prog Q σ r137_3 _ _ ⟨rfl, rfl⟩
def r137_4 : MC := .reg [⟨none, (.bin 7 .eql (.t 3) (.c (.imm true (.int .i8 2))))⟩, ⟨none, (.mv 4 (.t 7))⟩] none (some ([3, 4], []))
def w137_4 := @awpR_no Try.prog Q σ r137_4 _ _ ⟨rfl, rfl⟩
def r137_5 : MC := .reg [⟨none, (.mv 2 (.c (.imm true (.int .i64 0))))⟩] none (some ([2], []))
def w137_5 := @awpR_no Try.prog Q σ r137_5 _ _ ⟨rfl, rfl⟩
def r137_6 : MC := .reg [⟨none, (.bin 9 .eql (.t 3) (.c (.imm true (.int .i8 3))))⟩, ⟨none, (.mv 8 (.t 9))⟩] none (some ([3, 8], []))
def w137_6 := @awpR_no Try.prog Q σ r137_6 _ _ ⟨rfl, rfl⟩
def r137_7 : MC := .reg [⟨none, (.bin 10 .eql (.t 3) (.c (.imm true (.int .i8 4))))⟩, ⟨none, (.mv 8 (.t 10))⟩] none (some ([3, 8], []))
def w137_7 := @awpR_no Try.prog Q σ r137_7 _ _ ⟨rfl, rfl⟩
def r137_8 : MC := .reg [⟨none, (.bin 11 .eql (.t 3) (.c (.imm true (.int .i8 5))))⟩, ⟨none, (.mv 8 (.t 11))⟩] none (some ([8], []))
def w137_8 := @awpR_no Try.prog Q σ r137_8 _ _ ⟨rfl, rfl⟩
def r137_9 : MC := .reg [⟨none, (.mv 2 (.c (.imm true (.int .i64 2))))⟩] none (some ([2], []))
def w137_9 := @awpR_no Try.prog Q σ r137_9 _ _ ⟨rfl, rfl⟩
def r137_10 : MC := .reg [⟨none, (.mv 2 (.c (.imm true (.int .i64 (-1)))))⟩] none (some ([2], []))
def w137_10 := @awpR_no Try.prog Q σ r137_10 _ _ ⟨rfl, rfl⟩
def my137 : MC := (.seq r137_0 (.seq (.seq r137_1 (.block 0 (.seq (.seq r137_2 (.cond (.t 4) .skip (.seq r137_3 (.cond (.t 4) .skip r137_4)))) (.cond (.t 4) (.seq r137_5 .ret) (.seq (.seq r137_6 (.cond (.t 8) .skip (.seq r137_7 (.cond (.t 8) .skip r137_8)))) (.cond (.t 8) (.seq r137_9 .ret) .skip)))))) (.seq r137_10 .ret)))
theorem my137_is : trC Try.prog ⟨[], []⟩ ⟨[],
  [(0, [0], []), (1, [3], []), (2, [3, 4], []), (3, [3, 4], []), (4, [3, 4], []), (5, [2], []), (6, [3, 8], []), (7, [3, 8], []), (8, [8], []), (9, [2], []), (10, [2], [])]⟩ 12 (Try.f137.body.getD .skip) = some my137 := by kernel_rfl
theorem does137 {args : List LV} (hl : args.length.ble 12 = true) {S S' : List (List LV)} (hS : S'.length = S.length) {o : Out} (h : Lt ⟨numE 0 args, argS 0 S, []⟩ (awp Try.prog my137 (Fin [(.t 2)] o S'))) : Does Try.prog 137 args S o S' :=
  does_of_awp mixed Try.func137 (by kernel_rfl) (by kernel_rfl) my137_is (by kernel_rfl) (Nat.le_of_ble_eq_true hl) hS h
attribute [go_sem ↓] w137_0 w137_1 w137_2 w137_3 w137_4 w137_5 w137_6 w137_7 w137_8 w137_9 w137_10
attribute [go_sem] my137
/-! ### 119: lychgate/lychgateref02.right -/
def r119_0 : MC := .reg [⟨none, (.boxc 1 (.t 0))⟩, ⟨none, (.mv 2 (.c (.imm true (.bool false))))⟩] none (some ([1], []))
def w119_0 := @awpR_no Try.prog Q σ r119_0 _ _ ⟨rfl, rfl⟩
def r119_1 : MC := .reg [⟨none, (.fad 5 (.t 1) 0)⟩, ⟨none, (.load 6 (.t 5) none)⟩, ⟨none, (.call (some 7) (.c (.fn 137 [])) [(.t 6)])⟩, ⟨none, (.fad 8 (.t 1) 1)⟩, ⟨none, (.load 9 (.t 8) none)⟩, ⟨none, (.len 10 (.t 9))⟩, ⟨none, (.bin 11 .neq (.t 7) (.t 10))⟩] (some []) (some ([1, 11], []))
def w119_1 := @awpD_no Try.prog Q σ r119_1 _ _ _ ⟨rfl, rfl⟩
def r119_2 : MC := .reg [⟨none, (.mv 2 (.c (.imm true (.bool false))))⟩] none (some ([2], []))
def w119_2 := @awpR_no Try.prog Q σ r119_2 _ _ ⟨rfl, rfl⟩
def r119_3 : MC := .reg [⟨none, (.mv 3 (.c (.imm true (.int .i64 0))))⟩] none (some ([1, 3], []))
def w119_3 := @awpR_no Try.prog Q σ r119_3 _ _ ⟨rfl, rfl⟩
def r119_4 : MC := .reg [⟨none, (.mv 12 (.t 3))⟩, ⟨none, (.fad 13 (.t 1) 1)⟩, ⟨none, (.load 14 (.t 13) none)⟩, ⟨none, (.len 15 (.t 14))⟩, ⟨none, (.bin 16 .lss (.t 12) (.t 15))⟩] none (some ([1, 3, 16], []))
def w119_4 := @awpR_no Try.prog Q σ r119_4 _ _ ⟨rfl, rfl⟩
def r119_5 : MC := .reg [⟨none, (.fad 19 (.t 1) 1)⟩, ⟨none, (.load 20 (.t 19) none)⟩, ⟨none, (.mv 21 (.t 3))⟩, ⟨none, (.iad 22 (.t 20) (.t 21) 2)⟩, ⟨none, (.load 23 (.t 22) (some 2))⟩, ⟨none, (.call (some 24) (.c (.fn 119 [])) [(.t 23)])⟩, ⟨none, (.mv 4 (.t 24))⟩] none (some ([1, 3, 4], []))
def w119_5 := @awpR_no Try.prog Q σ r119_5 _ _ ⟨rfl, rfl⟩
def r119_6 : MC := .reg [⟨none, (.mv 25 (.t 4))⟩, ⟨none, (.un 26 .not (.t 25))⟩] none (some ([1, 3, 26], []))
def w119_6 := @awpR_no Try.prog Q σ r119_6 _ _ ⟨rfl, rfl⟩
def r119_7 : MC := .reg [⟨none, (.mv 2 (.c (.imm true (.bool false))))⟩] none (some ([2], []))
def w119_7 := @awpR_no Try.prog Q σ r119_7 _ _ ⟨rfl, rfl⟩
def r119_8 : MC := .reg [⟨none, (.mv 17 (.t 3))⟩, ⟨none, (.bin 18 .add (.t 17) (.c (.imm true (.int .i64 1))))⟩, ⟨none, (.mv 3 (.t 18))⟩] none (some ([1, 3], []))
def w119_8 := @awpR_no Try.prog Q σ r119_8 _ _ ⟨rfl, rfl⟩
def l119_0 : MC := (.seq (.seq r119_4 (.cond (.t 16) .skip (.exit 0))) (.seq (.block 1 (.seq r119_5 (.seq r119_6 (.cond (.t 26) (.seq r119_7 .ret) .skip)))) r119_8))
def r119_9 : MC := .reg [⟨none, (.mv 2 (.c (.imm true (.bool true))))⟩] none (some ([2], []))
def w119_9 := @awpR_no Try.prog Q σ r119_9 _ _ ⟨rfl, rfl⟩
def my119 : MC := (.seq r119_0 (.seq (.seq r119_1 (.cond (.t 11) (.seq r119_2 .ret) .skip)) (.seq (.seq r119_3 (.block 0 (.loop l119_0))) (.seq r119_9 .ret))))
theorem my119_is : trC Try.prog ⟨[1], []⟩ ⟨[(1, [[], [0], [0, 1], [], [3], [3, 4], [0, 1, 2, 3, 4, 5]], [])],
  [(0, [1], []), (1, [1, 11], []), (2, [2], []), (3, [1, 3], []), (4, [1, 3, 16], []), (6, [1, 3, 4], []), (7, [1, 3, 26], []), (8, [2], []), (5, [1, 3], []), (9, [2], [])]⟩ 27 (Try.f119.body.getD .skip) = some my119 := by kernel_rfl
theorem does119 {args : List LV} (hl : args.length.ble 27 = true) {S S' : List (List LV)} (hS : S'.length = S.length) {o : Out} (h : Lt ⟨numE 0 args, argS 0 S, []⟩ (awp Try.prog my119 (Fin [(.t 2)] o S'))) : Does Try.prog 119 args S o S' :=
  does_of_awp mixed Try.func119 (by kernel_rfl) (by kernel_rfl) my119_is (by kernel_rfl) (Nat.le_of_ble_eq_true hl) hS h
attribute [go_sem ↓] w119_0 w119_1 w119_2 w119_3 w119_4 w119_5 w119_6 w119_7 w119_8 w119_9
attribute [go_sem] my119
/-! ### 87: lychgate/lychgateref02.Check -/
def r87_0 : MC := .reg [⟨none, (.boxc 1 (.t 0))⟩, ⟨none, (.mv 2 (.c (.imm true (.int .i64 0))))⟩] none (some ([1], []))
def w87_0 := @awpR_no Try.prog Q σ r87_0 _ _ ⟨rfl, rfl⟩
def r87_1 : MC := .reg [⟨none, (.load 4 (.t 1) (some 2))⟩, ⟨none, (.call (some 5) (.c (.fn 113 [])) [(.t 4)])⟩, ⟨none, (.bin 6 .gtr (.t 5) (.c (.imm true (.int .i64 8192))))⟩] none (some ([1, 6], []))
def w87_1 := @awpR_no Try.prog Q σ r87_1 _ _ ⟨rfl, rfl⟩
def r87_2 : MC := .reg [⟨none, (.mv 2 (.c (.imm true (.int .i64 32))))⟩] none (some ([2], []))
def w87_2 := @awpR_no Try.prog Q σ r87_2 _ _ ⟨rfl, rfl⟩
def r87_3 : MC := .reg [⟨none, (.load 7 (.t 1) (some 2))⟩, ⟨none, (.call (some 8) (.c (.fn 115 [])) [(.t 7)])⟩, ⟨none, (.bin 9 .gtr (.t 8) (.c (.imm true (.int .i64 200))))⟩] none (some ([1, 9], []))
def w87_3 := @awpR_no Try.prog Q σ r87_3 _ _ ⟨rfl, rfl⟩
def r87_4 : MC := .reg [⟨none, (.mv 2 (.c (.imm true (.int .i64 31))))⟩] none (some ([2], []))
def w87_4 := @awpR_no Try.prog Q σ r87_4 _ _ ⟨rfl, rfl⟩
def r87_5 : MC := .reg [⟨none, (.load 10 (.t 1) (some 2))⟩, ⟨none, (.call (some 11) (.c (.fn 119 [])) [(.t 10)])⟩, ⟨none, (.mv 3 (.t 11))⟩] none (some ([3], []))
def w87_5 := @awpR_no Try.prog Q σ r87_5 _ _ ⟨rfl, rfl⟩
def r87_6 : MC := .reg [⟨none, (.mv 12 (.t 3))⟩, ⟨none, (.un 13 .not (.t 12))⟩] none (some ([13], []))
def w87_6 := @awpR_no Try.prog Q σ r87_6 _ _ ⟨rfl, rfl⟩
def r87_7 : MC := .reg [⟨none, (.mv 2 (.c (.imm true (.int .i64 20))))⟩] none (some ([2], []))
def w87_7 := @awpR_no Try.prog Q σ r87_7 _ _ ⟨rfl, rfl⟩
def r87_8 : MC := .reg [⟨none, (.mv 2 (.c (.imm true (.int .i64 0))))⟩] none (some ([2], []))
def w87_8 := @awpR_no Try.prog Q σ r87_8 _ _ ⟨rfl, rfl⟩
def my87 : MC := (.seq r87_0 (.seq (.seq r87_1 (.cond (.t 6) (.seq r87_2 .ret) .skip)) (.seq (.seq r87_3 (.cond (.t 9) (.seq r87_4 .ret) .skip)) (.seq r87_5 (.seq (.seq r87_6 (.cond (.t 13) (.seq r87_7 .ret) .skip)) (.seq r87_8 .ret))))))
theorem my87_is : trC Try.prog ⟨[1], []⟩ ⟨[],
  [(0, [1], []), (1, [1, 6], []), (2, [2], []), (3, [1, 9], []), (4, [2], []), (5, [3], []), (6, [13], []), (7, [2], []), (8, [2], [])]⟩ 14 (Try.f87.body.getD .skip) = some my87 := by kernel_rfl
theorem does87 {args : List LV} (hl : args.length.ble 14 = true) {S S' : List (List LV)} (hS : S'.length = S.length) {o : Out} (h : Lt ⟨numE 0 args, argS 0 S, []⟩ (awp Try.prog my87 (Fin [(.t 2)] o S'))) : Does Try.prog 87 args S o S' :=
  does_of_awp mixed Try.func87 (by kernel_rfl) (by kernel_rfl) my87_is (by kernel_rfl) (Nat.le_of_ble_eq_true hl) hS h
attribute [go_sem ↓] w87_0 w87_1 w87_2 w87_3 w87_4 w87_5 w87_6 w87_7 w87_8
attribute [go_sem] my87
/-! ### 121: lychgate/lychgateref02.Equal -/
def r121_0 : MC := .reg [⟨none, (.boxc 2 (.t 0))⟩, ⟨none, (.boxc 3 (.t 1))⟩, ⟨none, (.mv 4 (.c (.imm true (.bool false))))⟩] none (some ([2, 3], []))
def w121_0 := @awpR_no Try.prog Q σ r121_0 _ _ ⟨rfl, rfl⟩
def r121_1 : MC := .reg [⟨none, (.fad 7 (.t 2) 0)⟩, ⟨none, (.load 8 (.t 7) none)⟩, ⟨none, (.fad 9 (.t 3) 0)⟩, ⟨none, (.load 10 (.t 9) none)⟩, ⟨none, (.bin 11 .neq (.t 8) (.t 10))⟩] none (some ([2, 3, 11], []))
def w121_1 := @awpR_no Try.prog Q σ r121_1 _ _ ⟨rfl, rfl⟩
def r121_2 : MC := .reg [⟨none, (.mv 4 (.c (.imm true (.bool false))))⟩] none (some ([4], []))
def w121_2 := @awpR_no Try.prog Q σ r121_2 _ _ ⟨rfl, rfl⟩
def r121_3 : MC := .reg [⟨none, (.mv 5 (.c (.imm true (.int .i64 0))))⟩] none (some ([2, 3, 5], []))
def w121_3 := @awpR_no Try.prog Q σ r121_3 _ _ ⟨rfl, rfl⟩
def r121_4 : MC := .reg [⟨none, (.mv 12 (.t 5))⟩, ⟨none, (.fad 13 (.t 2) 1)⟩, ⟨none, (.load 14 (.t 13) none)⟩, ⟨none, (.len 15 (.t 14))⟩, ⟨none, (.bin 16 .lss (.t 12) (.t 15))⟩] none (some ([2, 3, 5, 16], []))
def w121_4 := @awpR_no Try.prog Q σ r121_4 _ _ ⟨rfl, rfl⟩
def r121_5 : MC := .reg [⟨none, (.fad 19 (.t 2) 1)⟩, ⟨none, (.load 20 (.t 19) none)⟩, ⟨none, (.mv 21 (.t 5))⟩, ⟨none, (.iad 22 (.t 20) (.t 21) 2)⟩, ⟨none, (.load 23 (.t 22) (some 2))⟩, ⟨none, (.fad 24 (.t 3) 1)⟩, ⟨none, (.load 25 (.t 24) none)⟩, ⟨none, (.mv 26 (.t 5))⟩, ⟨none, (.iad 27 (.t 25) (.t 26) 2)⟩, ⟨none, (.load 28 (.t 27) (some 2))⟩, ⟨none, (.call (some 29) (.c (.fn 121 [])) [(.t 23), (.t 28)])⟩, ⟨none, (.mv 6 (.t 29))⟩] (some []) (some ([2, 3, 5, 6], []))
def w121_5 := @awpD_no Try.prog Q σ r121_5 _ _ _ ⟨rfl, rfl⟩
def r121_6 : MC := .reg [⟨none, (.mv 30 (.t 6))⟩, ⟨none, (.un 31 .not (.t 30))⟩] none (some ([2, 3, 5, 31], []))
def w121_6 := @awpR_no Try.prog Q σ r121_6 _ _ ⟨rfl, rfl⟩
def r121_7 : MC := .reg [⟨none, (.mv 4 (.c (.imm true (.bool false))))⟩] none (some ([4], []))
def w121_7 := @awpR_no Try.prog Q σ r121_7 _ _ ⟨rfl, rfl⟩
def r121_8 : MC := .reg [⟨none, (.mv 17 (.t 5))⟩, ⟨none, (.bin 18 .add (.t 17) (.c (.imm true (.int .i64 1))))⟩, ⟨none, (.mv 5 (.t 18))⟩] none (some ([2, 3, 5], []))
def w121_8 := @awpR_no Try.prog Q σ r121_8 _ _ ⟨rfl, rfl⟩
def l121_0 : MC := (.seq (.seq r121_4 (.cond (.t 16) .skip (.exit 0))) (.seq (.block 1 (.seq r121_5 (.seq r121_6 (.cond (.t 31) (.seq r121_7 .ret) .skip)))) r121_8))
def r121_9 : MC := .reg [⟨none, (.mv 4 (.c (.imm true (.bool true))))⟩] none (some ([4], []))
def w121_9 := @awpR_no Try.prog Q σ r121_9 _ _ ⟨rfl, rfl⟩
def my121 : MC := (.seq r121_0 (.seq (.seq r121_1 (.cond (.t 11) (.seq r121_2 .ret) .skip)) (.seq (.seq r121_3 (.block 0 (.loop l121_0))) (.seq r121_9 .ret))))
theorem my121_is : trC Try.prog ⟨[2, 3], []⟩ ⟨[(6, [[], [0], [], [0, 1, 2], [0, 1, 2, 3], [], [5], [], [5, 6, 7], [5, 6, 7, 8], [0, 1, 2, 3, 4, 5, 6, 7, 8, 9], [0, 1, 2, 3, 4, 5, 6, 7, 8, 9, 10]], [])],
  [(0, [2, 3], []), (1, [2, 3, 11], []), (2, [4], []), (3, [2, 3, 5], []), (4, [2, 3, 5, 16], []), (6, [2, 3, 5, 6], []), (7, [2, 3, 5, 31], []), (8, [4], []), (5, [2, 3, 5], []), (9, [4], [])]⟩ 32 (Try.f121.body.getD .skip) = some my121 := by kernel_rfl
theorem does121 {args : List LV} (hl : args.length.ble 32 = true) {S S' : List (List LV)} (hS : S'.length = S.length) {o : Out} (h : Lt ⟨numE 0 args, argS 0 S, []⟩ (awp Try.prog my121 (Fin [(.t 4)] o S'))) : Does Try.prog 121 args S o S' :=
  does_of_awp mixed Try.func121 (by kernel_rfl) (by kernel_rfl) my121_is (by kernel_rfl) (Nat.le_of_ble_eq_true hl) hS h
attribute [go_sem ↓] w121_0 w121_1 w121_2 w121_3 w121_4 w121_5 w121_6 w121_7 w121_8 w121_9
attribute [go_sem] my121
/-! ### 134: lychgate/lychgateref02.Same -/
def r134_0 : MC := .reg [⟨none, (.boxc 2 (.t 0))⟩, ⟨none, (.boxc 3 (.t 1))⟩, ⟨none, (.mv 4 (.c (.imm true (.bool false))))⟩] none (some ([2, 3], []))
def w134_0 := @awpR_no Try.prog Q σ r134_0 _ _ ⟨rfl, rfl⟩
def r134_1 : MC := .reg [⟨none, (.load 5 (.t 2) (some 2))⟩, ⟨none, (.call (some 6) (.c (.fn 87 [])) [(.t 5)])⟩, ⟨none, (.bin 7 .eql (.t 6) (.c (.imm true (.int .i64 0))))⟩, ⟨none, (.mv 8 (.t 7))⟩, ⟨(some (8, true)), (.load 9 (.t 3) (some 2))⟩, ⟨(some (8, true)), (.call (some 10) (.c (.fn 87 [])) [(.t 9)])⟩, ⟨(some (8, true)), (.bin 11 .eql (.t 10) (.c (.imm true (.int .i64 0))))⟩, ⟨none, (.pick 12 (.t 8) (.t 11) (.c (.imm true (.bool false))))⟩, ⟨none, (.mv 13 (.t 12))⟩, ⟨(some (13, true)), (.load 14 (.t 2) (some 2))⟩, ⟨(some (13, true)), (.load 15 (.t 3) (some 2))⟩, ⟨(some (13, true)), (.call (some 16) (.c (.fn 121 [])) [(.t 14), (.t 15)])⟩, ⟨none, (.pick 17 (.t 13) (.t 16) (.c (.imm true (.bool false))))⟩, ⟨none, (.mv 4 (.t 17))⟩] none (some ([4], []))
def w134_1 := @awpR_no Try.prog Q σ r134_1 _ _ ⟨rfl, rfl⟩
def my134 : MC := (.seq r134_0 (.seq r134_1 .ret))
theorem my134_is : trC Try.prog ⟨[2, 3], []⟩ ⟨[],
  [(0, [2, 3], []), (1, [4], [])]⟩ 18 (Try.f134.body.getD .skip) = some my134 := by kernel_rfl
theorem does134 {args : List LV} (hl : args.length.ble 18 = true) {S S' : List (List LV)} (hS : S'.length = S.length) {o : Out} (h : Lt ⟨numE 0 args, argS 0 S, []⟩ (awp Try.prog my134 (Fin [(.t 4)] o S'))) : Does Try.prog 134 args S o S' :=
  does_of_awp mixed Try.func134 (by kernel_rfl) (by kernel_rfl) my134_is (by kernel_rfl) (Nat.le_of_ble_eq_true hl) hS h
attribute [go_sem ↓] w134_0 w134_1
attribute [go_sem] my134
/-! ### 125: lychgate/lychgateref02.Ground -/
def r125_0 : MC := .reg [⟨none, (.boxc 1 (.t 0))⟩, ⟨none, (.alloc 2 z2)⟩, ⟨none, (.mv 3 (.c (.imm true (.bool false))))⟩] none (some ([1, 2], [2]))
def w125_0 := @awpR_get Try.prog Q σ r125_0 _ _ [2] ⟨rfl, rfl⟩
def r125_1 : MC := .reg [⟨none, (.load 4 (.t 1) (some 2))⟩, ⟨none, (.call (some 5) (.c (.fn 87 [])) [(.t 4)])⟩, ⟨none, (.bin 6 .neq (.t 5) (.c (.imm true (.int .i64 0))))⟩, ⟨none, (.mv 7 (.t 6))⟩, ⟨(some (7, false)), (.fad 8 (.t 1) 0)⟩, ⟨(some (7, false)), (.load 9 (.t 8) none)⟩, ⟨(some (7, false)), (.bin 10 .eql (.t 9) (.c (.imm true (.int .i8 0))))⟩, ⟨none, (.pick 11 (.t 7) (.c (.imm true (.bool true))) (.t 10))⟩] none (some ([1, 2, 11], [2]))
def w125_1 := @awpR_no Try.prog Q σ r125_1 _ _ ⟨rfl, rfl⟩
def r125_2 : MC := .reg [⟨none, (.build 12 z2 [])⟩, ⟨none, (.store (.t 2) (.t 12) 2)⟩, ⟨none, (.mv 3 (.c (.imm true (.bool false))))⟩] none (some ([2, 3], [2]))
def w125_2 := @awpR_no Try.prog Q σ r125_2 _ _ ⟨rfl, rfl⟩
def r125_3 : MC := .reg [⟨none, (.fad 13 (.t 1) 1)⟩, ⟨none, (.load 14 (.t 13) none)⟩, ⟨none, (.len 15 (.t 14))⟩, ⟨none, (.bin 16 .eql (.t 15) (.c (.imm true (.int .i64 0))))⟩] none (some ([1, 2, 16], [2]))
def w125_3 := @awpR_no Try.prog Q σ r125_3 _ _ ⟨rfl, rfl⟩
def r125_4 : MC := .reg [⟨none, (.fad 17 (.t 1) 0)⟩, ⟨none, (.load 18 (.t 17) none)⟩, ⟨none, (.build 19 z2 [(0, (1, (.t 18)))])⟩, ⟨none, (.store (.t 2) (.t 19) 2)⟩, ⟨none, (.mv 3 (.c (.imm true (.bool true))))⟩] none (some ([2, 3], [2]))
def w125_4 := @awpR_no Try.prog Q σ r125_4 _ _ ⟨rfl, rfl⟩
def r125_5 : MC := .reg [⟨none, (.fad 20 (.t 1) 0)⟩, ⟨none, (.load 21 (.t 20) none)⟩, ⟨none, (.build 22 z2 [])⟩, ⟨none, (.build 23 z2 [])⟩, ⟨none, (.call (some 24) (.c (.fn 139 [])) [(.t 21), (.t 22), (.t 23)])⟩, ⟨none, (.store (.t 2) (.t 24) 2)⟩, ⟨none, (.mv 3 (.c (.imm true (.bool true))))⟩] none (some ([2, 3], [2]))
def w125_5 := @awpR_no Try.prog Q σ r125_5 _ _ ⟨rfl, rfl⟩
def my125 : MC := (.seq r125_0 (.seq (.seq r125_1 (.cond (.t 11) (.seq r125_2 .ret) .skip)) (.seq (.seq r125_3 (.cond (.t 16) (.seq r125_4 .ret) .skip)) (.seq r125_5 .ret))))
theorem my125_is : trC Try.prog ⟨[1], []⟩ ⟨[],
  [(0, [1, 2], [2]), (1, [1, 2, 11], [2]), (2, [2, 3], [2]), (3, [1, 2, 16], [2]), (4, [2, 3], [2]), (5, [2, 3], [2])]⟩ 25 (Try.f125.body.getD .skip) = some my125 := by kernel_rfl
theorem does125 {args : List LV} (hl : args.length.ble 25 = true) {S S' : List (List LV)} (hS : S'.length = S.length) {o : Out} (h : Lt ⟨numE 0 args, argS 0 S, []⟩ (awp Try.prog my125 (Fin [(.c 2 (some 2)), (.t 3)] o S'))) : Does Try.prog 125 args S o S' :=
  does_of_awp mixed Try.func125 (by kernel_rfl) (by kernel_rfl) my125_is (by kernel_rfl) (Nat.le_of_ble_eq_true hl) hS h
attribute [go_sem ↓] w125_0 w125_1 w125_2 w125_3 w125_4 w125_5
attribute [go_sem] my125
/-! ### 139: lychgate/lychgateref02.Of -/
def r139_0 : MC := .reg [⟨none, (.boxc 4 (.t 1))⟩, ⟨none, (.boxc 5 (.t 2))⟩, ⟨none, (.alloc 6 z2)⟩] none (some ([0, 4, 5, 6], [6]))
def w139_0 := @awpR_get Try.prog Q σ r139_0 _ _ [6] ⟨rfl, rfl⟩
def r139_1 : MC := .reg [⟨none, (.mv 7 (.t 0))⟩, ⟨none, (.load 8 (.t 4) (some 2))⟩, ⟨none, (.load 9 (.t 5) (some 2))⟩, ⟨none, (.lit 10 2 [(.t 8), (.t 9)])⟩, ⟨none, (.build 11 z2 [(0, (1, (.t 7))), (1, (1, (.t 10)))])⟩, ⟨none, (.store (.t 6) (.t 11) 2)⟩] none (some ([6], [6]))
def w139_1 := @awpR_no Try.prog Q σ r139_1 _ _ ⟨rfl, rfl⟩
def my139 : MC := (.seq r139_0 (.seq r139_1 .ret))
theorem my139_is : trC Try.prog ⟨[4, 5], []⟩ ⟨[],
  [(0, [0, 4, 5, 6], [6]), (1, [6], [6])]⟩ 12 (Try.f139.body.getD .skip) = some my139 := by kernel_rfl
theorem does139 {args : List LV} (hl : args.length.ble 12 = true) {S S' : List (List LV)} (hS : S'.length = S.length) {o : Out} (h : Lt ⟨numE 0 args, argS 0 S, []⟩ (awp Try.prog my139 (Fin [(.c 6 (some 2))] o S'))) : Does Try.prog 139 args S o S' :=
  does_of_awp mixed Try.func139 (by kernel_rfl) (by kernel_rfl) my139_is (by kernel_rfl) (Nat.le_of_ble_eq_true hl) hS h
attribute [go_sem ↓] w139_0 w139_1
attribute [go_sem] my139
end Go.Proofs.Ytopgmopdjiahmaa.Lg

/- The document's answer on types: it is the program's. Conditions: none; plain lemmas. -/
set_option linter.unusedVariables false
set_option linter.unusedSimpArgs false
set_option maxRecDepth 100000
set_option maxHeartbeats 2000000
namespace Go.Proofs.Ytopgmopdjiahmaa.Lg
open Go Go.RowKit Go.Proofs

mutual
def Ty.rc : Ty → Int → Int
  | .mk _ ts, n => Ty.rcL ts (n + 1)
def Ty.rcL : List Ty → Int → Int
  | [], n => n
  | t :: r, n => if n > 8192 then n else Ty.rcL r (t.rc n)
end
theorem Ty.rcL_gt : ∀ (ts : List Ty) (m : Int), m > 8192 → Ty.rcL ts m = m
  | [], m, h => rfl
  | c :: r, m, h => by simp only [Ty.rcL, if_pos h]
mutual
theorem Ty.rc_le : ∀ (t : Ty) (n : Int), 0 ≤ n → n ≤ 8192 → 0 ≤ t.rc n ∧ t.rc n ≤ 8193 ∧ (n + t.nodes ≤ 8192 → t.rc n = n + t.nodes) ∧ (n + t.nodes > 8192 → t.rc n > 8192)
  | .mk k ts, n, h, h' => by
    simp only [Ty.rc, Ty.nodes]
    have := Ty.rcL_le ts (n + 1) (by omega) (by omega)
    omega
theorem Ty.rcL_le : ∀ (ts : List Ty) (n : Int), 0 ≤ n → n ≤ 8193 → 0 ≤ Ty.rcL ts n ∧ Ty.rcL ts n ≤ 8193 ∧ (n + Ty.nodesL ts ≤ 8192 → Ty.rcL ts n = n + Ty.nodesL ts) ∧ (n + Ty.nodesL ts > 8192 → Ty.rcL ts n > 8192)
  | [], n, h, h' => by simp only [Ty.rcL, Ty.nodesL]; omega
  | t :: r, n, h, h' => by
    simp only [Ty.rcL, Ty.nodesL]
    split
    · omega
    · have h1 := Ty.rc_le t n h (by omega)
      have h2 := Ty.rcL_le r (t.rc n) h1.1 h1.2.1
      omega
end
theorem rcount_does : ∀ t : Ty, t.fits → ∀ n : Int, 0 ≤ n → n ≤ 8192 → Does Try.prog 132 [.imm false (.agg t.cells), .imm false (.int .i64 n)] [] (.ret true (.int .i64 (t.rc n))) [] := by
  refine Ty.ind fun k ts ih hf n hn hn2 => ?_
  have hfl : ts.length ≤ 9223372036854775807 := hf.1
  refine does132 (by rfl) (by rfl) ?_
  (try simp (implicitDefEqProofs := false) only [go_sem, ↓reduceIte, Nat.reduceEqDiff, reduceCtorEq, Nat.reduceAdd, Nat.reduceSub, Nat.reduceLeDiff, Nat.reduceLT, Nat.reduceMul, Int.reduceToNat, Int.reduceLT, Int.reduceLE, Ty.cells, wrap64 (n := n + 1) (by omega) (by omega)])
  refine ⟨fun m σ => ∃ j f g n', j ≤ ts.length ∧ m = ts.length - j ∧ 0 ≤ n' ∧ n' ≤ 8193 ∧ (Ty.mk k ts).rc n = Ty.rcL (ts.drop j) n' ∧ σ = ⟨[(1, .imm g (.int .i64 n')), (2, .imm false (.ptr (Ty.mk k ts).cells 0)), (5, .imm f (.int .i64 (j : Nat)))], [], []⟩, ⟨_, 0, true, true, n + 1, by omega, rfl, by omega, by omega, by simp [Ty.rc], by simp only [Ty.cells]; rfl⟩, ?_⟩
  rintro m σ ⟨j, f, g, n', hj, rfl, h1, h2, hs, rfl⟩
  unfold l132_0
  by_cases hlt : j < ts.length
  · by_cases hle : n' ≤ 8192
    · obtain ⟨k', ts', hm, hat, hdr, _⟩ := Ty.kid hlt
      rw [hdr, Ty.rcL, if_neg (by omega)] at hs
      have hb := Ty.rc_le (.mk k' ts') n' (by omega) (by omega)
      (try simp (implicitDefEqProofs := false) only [go_sem, ↓reduceIte, Nat.reduceEqDiff, reduceCtorEq, Nat.reduceAdd, Nat.reduceSub, Nat.reduceLeDiff, Nat.reduceLT, Nat.reduceMul, Int.reduceToNat, Int.reduceLT, Int.reduceLE, Ty.cells, Ty.cellsL_len, hat, Int.toNat_natCast, Int.natCast_nonneg, show decide ((j : Int) < (ts.length : Int)) = true from by simpa using hlt, decide_eq_true hle])
      refine CallK_do (ih _ hm (Ty.fitsL_mem (by simpa [Ty.fits] using hf.2) _ hm) n' (by omega) (by omega)) ?_
      (try simp (implicitDefEqProofs := false) only [go_sem, ↓reduceIte, Nat.reduceEqDiff, reduceCtorEq, Nat.reduceAdd, Nat.reduceSub, Nat.reduceLeDiff, Nat.reduceLT, Nat.reduceMul, Int.reduceToNat, Int.reduceLT, Int.reduceLE, wrap64 (n := (j : Int) + 1) (by omega) (by omega)])
      exact ⟨_, by omega, j + 1, true, true, _, by omega, rfl, by omega, by omega, hs, rfl⟩
    · rw [Ty.rcL_gt _ _ (by omega)] at hs
      (try simp (implicitDefEqProofs := false) only [go_sem, ↓reduceIte, Nat.reduceEqDiff, reduceCtorEq, Nat.reduceAdd, Nat.reduceSub, Nat.reduceLeDiff, Nat.reduceLT, Nat.reduceMul, Int.reduceToNat, Int.reduceLT, Int.reduceLE, Ty.cells, Ty.cellsL_len, show decide ((j : Int) < (ts.length : Int)) = true from by simpa using hlt, decide_eq_false hle])
      simp [hs]
  · have hge : j = ts.length := by omega
    subst hge
    simp only [List.drop_length, Ty.rcL] at hs
    (try simp (implicitDefEqProofs := false) only [go_sem, ↓reduceIte, Nat.reduceEqDiff, reduceCtorEq, Nat.reduceAdd, Nat.reduceSub, Nat.reduceLeDiff, Nat.reduceLT, Nat.reduceMul, Int.reduceToNat, Int.reduceLT, Int.reduceLE, Ty.cells, Ty.cellsL_len, show decide ((ts.length : Int) < (ts.length : Int)) = false from by simp])
    simp [hs]
theorem rnodes_does (t : Ty) (hf : t.fits) : Does Try.prog 113 [.imm false (.agg t.cells)] [] (.ret true (.int .i64 (nodesF t.nodes))) [] := by
  have h := rcount_does t hf 0 (by omega) (by omega)
  have hb := Ty.rc_le t 0 (by omega) (by omega)
  have hn := nodesF_le t.nodes
  have e : (if 8193 < t.rc 0 then 8193 else t.rc 0) = nodesF t.nodes := by split <;> omega
  rw [Ty.cells_eq] at h ⊢
  refine does113 (by rfl) (by rfl) ?_
  (try simp (implicitDefEqProofs := false) only [go_sem, ↓reduceIte, Nat.reduceEqDiff, reduceCtorEq, Nat.reduceAdd, Nat.reduceSub, Nat.reduceLeDiff, Nat.reduceLT, Nat.reduceMul, Int.reduceToNat, Int.reduceLT, Int.reduceLE])
  refine CallK_do h ?_
  (try simp (implicitDefEqProofs := false) only [go_sem, ↓reduceIte, Nat.reduceEqDiff, reduceCtorEq, Nat.reduceAdd, Nat.reduceSub, Nat.reduceLeDiff, Nat.reduceLT, Nat.reduceMul, Int.reduceToNat, Int.reduceLT, Int.reduceLE, e])
theorem rdeep_does : ∀ t : Ty, t.fits → ∀ n : Int, n ≤ 201 → 1 ≤ n → Does Try.prog 133 [.imm false (.agg t.cells), .imm false (.int .i64 n)] [] (.ret true (.int .i64 (t.deep n))) [] := by
  refine Ty.ind fun k ts ih hf n hn hn0 => ?_
  have hfl : ts.length ≤ 9223372036854775807 := hf.1
  refine does133 (by rfl) (by rfl) ?_
  by_cases h1 : n ≤ 1
  · (try simp (implicitDefEqProofs := false) only [go_sem, ↓reduceIte, Nat.reduceEqDiff, reduceCtorEq, Nat.reduceAdd, Nat.reduceSub, Nat.reduceLeDiff, Nat.reduceLT, Nat.reduceMul, Int.reduceToNat, Int.reduceLT, Int.reduceLE, Ty.cells, decide_eq_true h1])
    simp only [Ty.deep, if_pos h1]
  have e0 : (Ty.mk k ts).deep n = Ty.deepL ts (n - 1) 0 + 1 := by simp only [Ty.deep, if_neg h1]
  have hle := (Ty.deep_le (.mk k ts) n).1
  (try simp (implicitDefEqProofs := false) only [go_sem, ↓reduceIte, Nat.reduceEqDiff, reduceCtorEq, Nat.reduceAdd, Nat.reduceSub, Nat.reduceLeDiff, Nat.reduceLT, Nat.reduceMul, Int.reduceToNat, Int.reduceLT, Int.reduceLE, Ty.cells, decide_eq_false h1])
  refine ⟨fun m σ => ∃ j f g d, j ≤ ts.length ∧ m = ts.length - j ∧ 0 ≤ d ∧ d ≤ 200 ∧ Ty.deepL ts (n - 1) 0 = Ty.deepL (ts.drop j) (n - 1) d ∧ σ = ⟨[(1, .imm false (.int .i64 n)), (2, .imm false (.ptr (Ty.mk k ts).cells 0)), (5, .imm g (.int .i64 d)), (6, .imm f (.int .i64 (j : Nat)))], [], []⟩, ⟨_, 0, true, true, 0, by omega, rfl, by omega, by omega, rfl, by simp only [Ty.cells]; rfl⟩, ?_⟩
  rintro m σ ⟨j, f, g, d, hj, rfl, hd0, hd1, hs, rfl⟩
  unfold l133_0
  by_cases hlt : j < ts.length
  · obtain ⟨k', ts', hm, hat, hdr, _⟩ := Ty.kid hlt
    rw [hdr, Ty.deepL] at hs
    have hb := Ty.deep_le (.mk k' ts') (n - 1)
    (try simp (implicitDefEqProofs := false) only [go_sem, ↓reduceIte, Nat.reduceEqDiff, reduceCtorEq, Nat.reduceAdd, Nat.reduceSub, Nat.reduceLeDiff, Nat.reduceLT, Nat.reduceMul, Int.reduceToNat, Int.reduceLT, Int.reduceLE, Ty.cells, Ty.cellsL_len, hat, Int.toNat_natCast, Int.natCast_nonneg, show decide ((j : Int) < (ts.length : Int)) = true from by simpa using hlt, wrap64 (n := n - 1) (by omega) (by omega)])
    refine CallK_do (ih _ hm (Ty.fitsL_mem (by simpa [Ty.fits] using hf.2) _ hm) (n - 1) (by omega) (by omega)) ?_
    (try simp (implicitDefEqProofs := false) only [go_sem, ↓reduceIte, Nat.reduceEqDiff, reduceCtorEq, Nat.reduceAdd, Nat.reduceSub, Nat.reduceLeDiff, Nat.reduceLT, Nat.reduceMul, Int.reduceToNat, Int.reduceLT, Int.reduceLE, wrap64 (n := (j : Int) + 1) (by omega) (by omega)])
    exact ⟨_, by omega, j + 1, true, true, _, by omega, rfl, by split <;> omega, by split <;> omega, hs, rfl⟩
  · have hge : j = ts.length := by omega
    subst hge
    simp only [List.drop_length, Ty.deepL] at hs
    (try simp (implicitDefEqProofs := false) only [go_sem, ↓reduceIte, Nat.reduceEqDiff, reduceCtorEq, Nat.reduceAdd, Nat.reduceSub, Nat.reduceLeDiff, Nat.reduceLT, Nat.reduceMul, Int.reduceToNat, Int.reduceLT, Int.reduceLE, Ty.cells, Ty.cellsL_len, show decide ((ts.length : Int) < (ts.length : Int)) = false from by simp, wrap64 (n := 1 + d) (by omega) (by omega)])
    rw [e0, hs] at hle ⊢
    rw [if_neg (by omega), Int.add_comm]
theorem rdepth_does (t : Ty) (hf : t.fits) : Does Try.prog 115 [.imm false (.agg t.cells)] [] (.ret true (.int .i64 t.depth)) [] := by
  have h1 := rnodes_does t hf
  have h2 := rdeep_does t hf 201 (by omega) (by omega)
  have hn := nodesF_le t.nodes
  unfold Ty.depth
  generalize t.deep 201 = d at h2
  rw [Ty.cells_eq] at h1 h2 ⊢
  refine does115 (by rfl) (by rfl) ?_
  (try simp (implicitDefEqProofs := false) only [go_sem, ↓reduceIte, Nat.reduceEqDiff, reduceCtorEq, Nat.reduceAdd, Nat.reduceSub, Nat.reduceLeDiff, Nat.reduceLT, Nat.reduceMul, Int.reduceToNat, Int.reduceLT, Int.reduceLE])
  refine CallK_do h1 ?_
  by_cases hc : t.nodes ≤ 8192
  · (try simp (implicitDefEqProofs := false) only [go_sem, ↓reduceIte, Nat.reduceEqDiff, reduceCtorEq, Nat.reduceAdd, Nat.reduceSub, Nat.reduceLeDiff, Nat.reduceLT, Nat.reduceMul, Int.reduceToNat, Int.reduceLT, Int.reduceLE, show decide (nodesF t.nodes > 8192) = false from decide_eq_false (by omega)])
    refine CallK_do h2 ?_
    (try simp (implicitDefEqProofs := false) only [go_sem, ↓reduceIte, Nat.reduceEqDiff, reduceCtorEq, Nat.reduceAdd, Nat.reduceSub, Nat.reduceLeDiff, Nat.reduceLT, Nat.reduceMul, Int.reduceToNat, Int.reduceLT, Int.reduceLE])
    simp [hc]
  · (try simp (implicitDefEqProofs := false) only [go_sem, ↓reduceIte, Nat.reduceEqDiff, reduceCtorEq, Nat.reduceAdd, Nat.reduceSub, Nat.reduceLeDiff, Nat.reduceLT, Nat.reduceMul, Int.reduceToNat, Int.reduceLT, Int.reduceLE, show decide (nodesF t.nodes > 8192) = true from decide_eq_true (by omega)])
    simp [hc]
theorem rkids_does (k : Int) : Does Try.prog 137 [.imm false (.int .i8 k)] [] (.ret true (.int .i64 (partsF k))) [] := by
  refine does137 (by rfl) (by rfl) ?_
  (try simp (implicitDefEqProofs := false) only [go_sem, ↓reduceIte, Nat.reduceEqDiff, reduceCtorEq, Nat.reduceAdd, Nat.reduceSub, Nat.reduceLeDiff, Nat.reduceLT, Nat.reduceMul, Int.reduceToNat, Int.reduceLT, Int.reduceLE, CondOn_imm])
  simp only [beq_iff_eq, beq_eq_false_iff_ne, partsF]
  refine ⟨?_, ?_⟩ <;> intros <;> (repeat' (first | refine And.intro ?_ ?_ | intro _)) <;> simp_all
theorem rright_does : ∀ t : Ty, t.fits → Does Try.prog 119 [.imm false (.agg t.cells)] [] (.ret true (.bool t.right)) [] := by
  refine Ty.ind fun k ts ih hf => ?_
  have hfl : ts.length ≤ 9223372036854775807 := hf.1
  refine does119 (by rfl) (by rfl) ?_
  (try simp (implicitDefEqProofs := false) only [go_sem, ↓reduceIte, Nat.reduceEqDiff, reduceCtorEq, Nat.reduceAdd, Nat.reduceSub, Nat.reduceLeDiff, Nat.reduceLT, Nat.reduceMul, Int.reduceToNat, Int.reduceLT, Int.reduceLE, Ty.cells])
  refine CallK_do (rkids_does k) ?_
  by_cases hk : partsF k = ts.length
  · (try simp (implicitDefEqProofs := false) only [go_sem, ↓reduceIte, Nat.reduceEqDiff, reduceCtorEq, Nat.reduceAdd, Nat.reduceSub, Nat.reduceLeDiff, Nat.reduceLT, Nat.reduceMul, Int.reduceToNat, Int.reduceLT, Int.reduceLE, Ty.cells, Ty.cellsL_len, show (partsF k != (ts.length : Int)) = false from by simpa using hk])
    refine ⟨fun n σ => ∃ j f, j ≤ ts.length ∧ n = ts.length - j ∧ (Ty.rightL ts = Ty.rightL (ts.drop j)) ∧ σ = ⟨[(1, .imm false (.ptr (Ty.mk k ts).cells 0)), (3, .imm f (.int .i64 (j : Nat)))], [], []⟩, ⟨_, 0, true, by omega, rfl, rfl, by simp only [Ty.cells]; rfl⟩, ?_⟩
    rintro n σ ⟨j, f, hj, rfl, hr, rfl⟩
    unfold l119_0
    by_cases hlt : j < ts.length
    · obtain ⟨k', ts', hm, hat, hdr, _⟩ := Ty.kid hlt
      rw [hdr, Ty.rightL] at hr
      (try simp (implicitDefEqProofs := false) only [go_sem, ↓reduceIte, Nat.reduceEqDiff, reduceCtorEq, Nat.reduceAdd, Nat.reduceSub, Nat.reduceLeDiff, Nat.reduceLT, Nat.reduceMul, Int.reduceToNat, Int.reduceLT, Int.reduceLE, Ty.cells, Ty.cellsL_len, hat, Int.toNat_natCast, Int.natCast_nonneg, show decide ((j : Int) < (ts.length : Int)) = true from by simpa using hlt])
      refine CallK_do (ih _ hm (Ty.fitsL_mem (by simpa [Ty.fits] using hf.2) _ hm)) ?_
      cases hb : (Ty.mk k' ts').right with
      | true =>
        (try simp (implicitDefEqProofs := false) only [go_sem, ↓reduceIte, Nat.reduceEqDiff, reduceCtorEq, Nat.reduceAdd, Nat.reduceSub, Nat.reduceLeDiff, Nat.reduceLT, Nat.reduceMul, Int.reduceToNat, Int.reduceLT, Int.reduceLE, Bool.not_true, wrap64 (n := (j : Int) + 1) (by omega) (by omega)])
        exact ⟨_, by omega, j + 1, true, by omega, rfl, by rw [hr, hb, Bool.true_and], rfl⟩
      | false =>
        (try simp (implicitDefEqProofs := false) only [go_sem, ↓reduceIte, Nat.reduceEqDiff, reduceCtorEq, Nat.reduceAdd, Nat.reduceSub, Nat.reduceLeDiff, Nat.reduceLT, Nat.reduceMul, Int.reduceToNat, Int.reduceLT, Int.reduceLE, Bool.not_false])
        rw [Ty.right, hr, hb]; simp
    · have hge : j = ts.length := by omega
      subst hge
      (try simp (implicitDefEqProofs := false) only [go_sem, ↓reduceIte, Nat.reduceEqDiff, reduceCtorEq, Nat.reduceAdd, Nat.reduceSub, Nat.reduceLeDiff, Nat.reduceLT, Nat.reduceMul, Int.reduceToNat, Int.reduceLT, Int.reduceLE, Ty.cells, Ty.cellsL_len, show decide ((ts.length : Int) < (ts.length : Int)) = false from by simp])
      simp [Ty.right, hk, hr, Ty.rightL]
  · (try simp (implicitDefEqProofs := false) only [go_sem, ↓reduceIte, Nat.reduceEqDiff, reduceCtorEq, Nat.reduceAdd, Nat.reduceSub, Nat.reduceLeDiff, Nat.reduceLT, Nat.reduceMul, Int.reduceToNat, Int.reduceLT, Int.reduceLE, Ty.cells, Ty.cellsL_len, show (partsF k != (ts.length : Int)) = true from by simpa using hk])
    simp [Ty.right, hk]
theorem rcheck_does (t : Ty) (hf : t.fits) : Does Try.prog 87 [.imm false (.agg t.cells)] [] (.ret true (.int .i64 t.check)) [] := by
  have h1 := rnodes_does t hf
  have h2 := rdepth_does t hf
  have h3 := rright_does t hf
  have hn := nodesF_le t.nodes
  unfold Ty.check
  generalize t.right = r at h3
  generalize t.depth = d at h2
  rw [Ty.cells_eq] at h1 h2 h3 ⊢
  refine does87 (by rfl) (by rfl) ?_
  (try simp (implicitDefEqProofs := false) only [go_sem, ↓reduceIte, Nat.reduceEqDiff, reduceCtorEq, Nat.reduceAdd, Nat.reduceSub, Nat.reduceLeDiff, Nat.reduceLT, Nat.reduceMul, Int.reduceToNat, Int.reduceLT, Int.reduceLE])
  refine CallK_do h1 ?_
  by_cases hc : t.nodes ≤ 8192
  · (try simp (implicitDefEqProofs := false) only [go_sem, ↓reduceIte, Nat.reduceEqDiff, reduceCtorEq, Nat.reduceAdd, Nat.reduceSub, Nat.reduceLeDiff, Nat.reduceLT, Nat.reduceMul, Int.reduceToNat, Int.reduceLT, Int.reduceLE, show decide (nodesF t.nodes > 8192) = false from decide_eq_false (by omega)])
    refine CallK_do h2 ?_
    by_cases hd : d > 200
    · (try simp (implicitDefEqProofs := false) only [go_sem, ↓reduceIte, Nat.reduceEqDiff, reduceCtorEq, Nat.reduceAdd, Nat.reduceSub, Nat.reduceLeDiff, Nat.reduceLT, Nat.reduceMul, Int.reduceToNat, Int.reduceLT, Int.reduceLE, decide_eq_true hd])
      simp [hc, hd]
    · (try simp (implicitDefEqProofs := false) only [go_sem, ↓reduceIte, Nat.reduceEqDiff, reduceCtorEq, Nat.reduceAdd, Nat.reduceSub, Nat.reduceLeDiff, Nat.reduceLT, Nat.reduceMul, Int.reduceToNat, Int.reduceLT, Int.reduceLE, decide_eq_false hd])
      refine CallK_do h3 ?_
      cases r with
      | true =>
        (try simp (implicitDefEqProofs := false) only [go_sem, ↓reduceIte, Nat.reduceEqDiff, reduceCtorEq, Nat.reduceAdd, Nat.reduceSub, Nat.reduceLeDiff, Nat.reduceLT, Nat.reduceMul, Int.reduceToNat, Int.reduceLT, Int.reduceLE, Bool.not_true])
        simp [hc]; omega
      | false =>
        (try simp (implicitDefEqProofs := false) only [go_sem, ↓reduceIte, Nat.reduceEqDiff, reduceCtorEq, Nat.reduceAdd, Nat.reduceSub, Nat.reduceLeDiff, Nat.reduceLT, Nat.reduceMul, Int.reduceToNat, Int.reduceLT, Int.reduceLE, Bool.not_false])
        simp [hc]; omega
  · (try simp (implicitDefEqProofs := false) only [go_sem, ↓reduceIte, Nat.reduceEqDiff, reduceCtorEq, Nat.reduceAdd, Nat.reduceSub, Nat.reduceLeDiff, Nat.reduceLT, Nat.reduceMul, Int.reduceToNat, Int.reduceLT, Int.reduceLE, show decide (nodesF t.nodes > 8192) = true from decide_eq_true (by omega)])
    simp [hc]
theorem requal_does : ∀ a : Ty, a.fits → a.right = true → ∀ b : Ty, b.right = true → Does Try.prog 121 [.imm false (.agg a.cells), .imm false (.agg b.cells)] [] (.ret true (.bool (a.eqv b))) [] := by
  refine Ty.ind fun k ts ih hf ha b hb => ?_
  obtain ⟨k2, us⟩ := b
  refine does121 (by rfl) (by rfl) ?_
  by_cases h : k = k2
  · subst h
    have hfl : ts.length ≤ 9223372036854775807 := hf.1
    have hpa := Ty.right_kids ha
    have hpb := Ty.right_kids hb
    have hlen : us.length = ts.length := by have := hpa.1; have := hpb.1; omega
    have e0 : (Ty.mk k ts).eqv (.mk k us) = Ty.eqvL ts us := by simp [Ty.eqv]
    (try simp (implicitDefEqProofs := false) only [go_sem, ↓reduceIte, Nat.reduceEqDiff, reduceCtorEq, Nat.reduceAdd, Nat.reduceSub, Nat.reduceLeDiff, Nat.reduceLT, Nat.reduceMul, Int.reduceToNat, Int.reduceLT, Int.reduceLE, Ty.cells, bne_self_eq_false])
    refine ⟨fun m σ => ∃ j f, j ≤ ts.length ∧ m = ts.length - j ∧ Ty.eqvL ts us = Ty.eqvL (ts.drop j) (us.drop j) ∧ σ = ⟨[(2, .imm false (.ptr (Ty.mk k ts).cells 0)), (3, .imm false (.ptr (Ty.mk k us).cells 0)), (5, .imm f (.int .i64 (j : Nat)))], [], []⟩, ⟨_, 0, true, by omega, rfl, rfl, by simp only [Ty.cells]; rfl⟩, ?_⟩
    rintro m σ ⟨j, f, hj, rfl, hs, rfl⟩
    unfold l121_0
    by_cases hlt : j < ts.length
    · obtain ⟨k', ts', hm, hat, hdr, _⟩ := Ty.kid hlt
      obtain ⟨k3, us', hm2, hat2, hdr2, _⟩ := Ty.kid (ts := us) (j := j) (by omega)
      rw [hdr, hdr2, Ty.eqvL] at hs
      (try simp (implicitDefEqProofs := false) only [go_sem, ↓reduceIte, Nat.reduceEqDiff, reduceCtorEq, Nat.reduceAdd, Nat.reduceSub, Nat.reduceLeDiff, Nat.reduceLT, Nat.reduceMul, Int.reduceToNat, Int.reduceLT, Int.reduceLE, Ty.cells, Ty.cellsL_len, hat, hat2, Int.toNat_natCast, Int.natCast_nonneg, show decide ((j : Int) < (ts.length : Int)) = true from by simpa using hlt])
      refine CallK_do (ih _ hm (Ty.fitsL_mem (by simpa [Ty.fits] using hf.2) _ hm) (Ty.rightL_mem hpa.2 _ hm) _ (Ty.rightL_mem hpb.2 _ hm2)) ?_
      cases hb : (Ty.mk k' ts').eqv (.mk k3 us') with
      | true =>
        (try simp (implicitDefEqProofs := false) only [go_sem, ↓reduceIte, Nat.reduceEqDiff, reduceCtorEq, Nat.reduceAdd, Nat.reduceSub, Nat.reduceLeDiff, Nat.reduceLT, Nat.reduceMul, Int.reduceToNat, Int.reduceLT, Int.reduceLE, Bool.not_true, wrap64 (n := (j : Int) + 1) (by omega) (by omega)])
        exact ⟨_, by omega, j + 1, true, by omega, rfl, by rw [hs, hb, Bool.true_and], rfl⟩
      | false =>
        (try simp (implicitDefEqProofs := false) only [go_sem, ↓reduceIte, Nat.reduceEqDiff, reduceCtorEq, Nat.reduceAdd, Nat.reduceSub, Nat.reduceLeDiff, Nat.reduceLT, Nat.reduceMul, Int.reduceToNat, Int.reduceLT, Int.reduceLE, Bool.not_false])
        rw [e0, hs, hb]; simp
    · have hge : j = ts.length := by omega
      subst hge
      (try simp (implicitDefEqProofs := false) only [go_sem, ↓reduceIte, Nat.reduceEqDiff, reduceCtorEq, Nat.reduceAdd, Nat.reduceSub, Nat.reduceLeDiff, Nat.reduceLT, Nat.reduceMul, Int.reduceToNat, Int.reduceLT, Int.reduceLE, Ty.cells, Ty.cellsL_len, show decide ((ts.length : Int) < (ts.length : Int)) = false from by simp])
      rw [e0, hs]; simp [Ty.eqvL]
  · (try simp (implicitDefEqProofs := false) only [go_sem, ↓reduceIte, Nat.reduceEqDiff, reduceCtorEq, Nat.reduceAdd, Nat.reduceSub, Nat.reduceLeDiff, Nat.reduceLT, Nat.reduceMul, Int.reduceToNat, Int.reduceLT, Int.reduceLE, Ty.cells, show (k != k2) = true from by simpa using h])
    simp [Ty.eqv, h]
theorem rsame_does (a b : Ty) (ha : a.fits) (hb : b.fits) : Does Try.prog 134 [.imm false (.agg a.cells), .imm false (.agg b.cells)] [] (.ret true (.bool (a.same b))) [] := by
  have c1 := rcheck_does a ha
  have c2 := rcheck_does b hb
  have c3 : a.check = 0 → b.check = 0 → _ := fun h h' => requal_does a ha (check_zero h).2.2 b (check_zero h').2.2
  unfold Ty.same
  generalize a.eqv b = r at c3
  rw [Ty.cells_eq] at c1 c2 c3 ⊢
  rw [Ty.cells_eq b] at c3 ⊢
  refine does134 (by rfl) (by rfl) ?_
  (try simp (implicitDefEqProofs := false) only [go_sem, ↓reduceIte, Nat.reduceEqDiff, reduceCtorEq, Nat.reduceAdd, Nat.reduceSub, Nat.reduceLeDiff, Nat.reduceLT, Nat.reduceMul, Int.reduceToNat, Int.reduceLT, Int.reduceLE])
  refine CallK_do c1 ?_
  by_cases h1 : a.check = 0
  · (try simp (implicitDefEqProofs := false) only [go_sem, ↓reduceIte, Nat.reduceEqDiff, reduceCtorEq, Nat.reduceAdd, Nat.reduceSub, Nat.reduceLeDiff, Nat.reduceLT, Nat.reduceMul, Int.reduceToNat, Int.reduceLT, Int.reduceLE, h1, show ((0 : Int) == 0) = true from rfl])
    refine CallK_do c2 ?_
    by_cases h2 : b.check = 0
    · have c3 := c3 h1 h2
      (try simp (implicitDefEqProofs := false) only [go_sem, ↓reduceIte, Nat.reduceEqDiff, reduceCtorEq, Nat.reduceAdd, Nat.reduceSub, Nat.reduceLeDiff, Nat.reduceLT, Nat.reduceMul, Int.reduceToNat, Int.reduceLT, Int.reduceLE, h2, show ((0 : Int) == 0) = true from rfl])
      refine CallK_do c3 ?_
      (try simp (implicitDefEqProofs := false) only [go_sem, ↓reduceIte, Nat.reduceEqDiff, reduceCtorEq, Nat.reduceAdd, Nat.reduceSub, Nat.reduceLeDiff, Nat.reduceLT, Nat.reduceMul, Int.reduceToNat, Int.reduceLT, Int.reduceLE])
    · (try simp (implicitDefEqProofs := false) only [go_sem, ↓reduceIte, Nat.reduceEqDiff, reduceCtorEq, Nat.reduceAdd, Nat.reduceSub, Nat.reduceLeDiff, Nat.reduceLT, Nat.reduceMul, Int.reduceToNat, Int.reduceLT, Int.reduceLE, show (b.check == 0) = false from by simpa using h2])
  · (try simp (implicitDefEqProofs := false) only [go_sem, ↓reduceIte, Nat.reduceEqDiff, reduceCtorEq, Nat.reduceAdd, Nat.reduceSub, Nat.reduceLeDiff, Nat.reduceLT, Nat.reduceMul, Int.reduceToNat, Int.reduceLT, Int.reduceLE, show (a.check == 0) = false from by simpa using h1])
theorem rof_does (k : Int) (a b : Ty) : Does Try.prog 139 [.imm false (.int .i8 k), .imm false (.agg a.cells), .imm false (.agg b.cells)] [] (.ret false (.agg (Ty.mk k [a, b]).cells)) [] := by
  rw [Ty.cells_eq a, Ty.cells_eq b]
  refine does139 (by rfl) (by rfl) ?_
  (try simp (implicitDefEqProofs := false) only [go_sem, ↓reduceIte, Nat.reduceEqDiff, reduceCtorEq, Nat.reduceAdd, Nat.reduceSub, Nat.reduceLeDiff, Nat.reduceLT, Nat.reduceMul, Int.reduceToNat, Int.reduceLT, Int.reduceLE])
  simp [Ty.cells_eq, Ty.k, Ty.ts, Ty.cellsL]
theorem rground_does (t : Ty) (hf : t.fits) : Does Try.prog 125 [.imm false (.agg t.cells)] [] (.ret false (.tup [.agg t.ground.1.cells, .bool t.ground.2])) [] := by
  have c := rcheck_does t hf
  obtain ⟨k, ts⟩ := t
  have ho := rof_does k .un .un
  simp only [un_cells, Ty.cells, Ty.cellsL] at ho
  simp only [Ty.cells] at c
  refine does125 (by rfl) (by rfl) ?_
  (try simp (implicitDefEqProofs := false) only [go_sem, ↓reduceIte, Nat.reduceEqDiff, reduceCtorEq, Nat.reduceAdd, Nat.reduceSub, Nat.reduceLeDiff, Nat.reduceLT, Nat.reduceMul, Int.reduceToNat, Int.reduceLT, Int.reduceLE, Ty.cells])
  refine CallK_do c ?_
  by_cases h1 : (Ty.mk k ts).check = 0
  · by_cases h2 : k = 0
    · (try simp (implicitDefEqProofs := false) only [go_sem, ↓reduceIte, Nat.reduceEqDiff, reduceCtorEq, Nat.reduceAdd, Nat.reduceSub, Nat.reduceLeDiff, Nat.reduceLT, Nat.reduceMul, Int.reduceToNat, Int.reduceLT, Int.reduceLE, h1, show ((0 : Int) != 0) = false from rfl, show (k == 0) = true from by simpa using h2])
      simp [Ty.ground, Ty.k, h2, Ty.cells, Ty.cellsL]
    · rcases right_shape (check_iff.1 h1).2.2 with ⟨rfl, _⟩ | ⟨a, b, rfl, _, _, _⟩
      · rw [show (Ty.mk k []).ground = ((Ty.mk k []).ground.1, (Ty.mk k []).ground.2) from rfl, ground_base h1 h2, show (Ty.mk k []).ground.2 = true from by simp [Ty.ground, h1, Ty.k, h2]]
        (try simp (implicitDefEqProofs := false) only [go_sem, ↓reduceIte, Nat.reduceEqDiff, reduceCtorEq, Nat.reduceAdd, Nat.reduceSub, Nat.reduceLeDiff, Nat.reduceLT, Nat.reduceMul, Int.reduceToNat, Int.reduceLT, Int.reduceLE, h1, show ((0 : Int) != 0) = false from rfl, show (k == 0) = false from by simpa using h2, Ty.cellsL, ncast0, show ((0 : Int) == 0) = true from rfl])
        simp [Ty.cells, Ty.cellsL]
      · rw [show (Ty.mk k [a, b]).ground = ((Ty.mk k [a, b]).ground.1, (Ty.mk k [a, b]).ground.2) from rfl, ground_pair h1 h2, show (Ty.mk k [a, b]).ground.2 = true from by simp [Ty.ground, h1, Ty.k, h2]]
        (try simp (implicitDefEqProofs := false) only [go_sem, ↓reduceIte, Nat.reduceEqDiff, reduceCtorEq, Nat.reduceAdd, Nat.reduceSub, Nat.reduceLeDiff, Nat.reduceLT, Nat.reduceMul, Int.reduceToNat, Int.reduceLT, Int.reduceLE, h1, show ((0 : Int) != 0) = false from rfl, show (k == 0) = false from by simpa using h2, Ty.cellsL, ncast2, show ((2 : Int) == 0) = false from rfl])
        refine CallK_do ho ?_
        (try simp (implicitDefEqProofs := false) only [go_sem, ↓reduceIte, Nat.reduceEqDiff, reduceCtorEq, Nat.reduceAdd, Nat.reduceSub, Nat.reduceLeDiff, Nat.reduceLT, Nat.reduceMul, Int.reduceToNat, Int.reduceLT, Int.reduceLE])
        simp [Ty.cells, Ty.cellsL, un_cells]
  · (try simp (implicitDefEqProofs := false) only [go_sem, ↓reduceIte, Nat.reduceEqDiff, reduceCtorEq, Nat.reduceAdd, Nat.reduceSub, Nat.reduceLeDiff, Nat.reduceLT, Nat.reduceMul, Int.reduceToNat, Int.reduceLT, Int.reduceLE, show ((Ty.mk k ts).check != 0) = true from by simpa using h1])
    simp [Ty.ground, Ty.k, h1, Ty.cells, Ty.cellsL]
end Go.Proofs.Ytopgmopdjiahmaa.Lg
