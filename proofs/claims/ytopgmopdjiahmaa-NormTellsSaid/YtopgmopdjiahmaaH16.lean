/- Texts of one proof, joined by program (gen/tells.py): Mh Ub Uc. Conditions: none; plain definitions and lemmas. -/
import Derived.Test.YtopgmopdjiahmaaH4
import Derived.Test.YtopgmopdjiahmaaProg
import Derived.Test.YtopgmopdjiahmaaH15
import Derived.Test.YtopgmopdjiahmaaH11
/- MADE BY PROGRAM (gen/mk.py): the code of functions, as the logic sees it. Conditions: none; plain definitions and lemmas. -/
set_option linter.unusedVariables false
set_option linter.defProp false
set_option maxRecDepth 100000
namespace Go.Proofs.Ytopgmopdjiahmaa.Lg
open Go Go.RowKit Go.Proofs
variable {Q : AEx → St → Prop} {σ : St}

/-! ### 112: lychgate/lychgateref15.typed -/
def r112_0 : MC := .reg [⟨none, (.mv 2 (.c (.imm true (.bool false))))⟩] none (some ([0], []))
def w112_0 := @awpR_no Try.prog Q σ r112_0 _ _ ⟨rfl, rfl⟩
def r112_1 : MC := .reg [⟨none, (.mv 3 (.t 0))⟩, ⟨none, (.bin 4 .eql (.t 3) (.c (.imm true (.int .i8 0))))⟩, ⟨none, (.mv 5 (.t 4))⟩, ⟨(some (5, false)), (.mv 6 (.t 0))⟩, ⟨(some (5, false)), (.bin 7 .eql (.t 6) (.c (.imm true (.int .i8 1))))⟩, ⟨none, (.pick 8 (.t 5) (.c (.imm true (.bool true))) (.t 7))⟩, ⟨none, (.mv 9 (.t 8))⟩, ⟨(some (9, false)), (.mv 10 (.t 0))⟩, ⟨(some (9, false)), (.bin 11 .eql (.t 10) (.c (.imm true (.int .i8 2))))⟩, ⟨none, (.pick 12 (.t 9) (.c (.imm true (.bool true))) (.t 11))⟩, ⟨none, (.mv 13 (.t 12))⟩, ⟨(some (13, false)), (.mv 14 (.t 0))⟩, ⟨(some (13, false)), (.bin 15 .eql (.t 14) (.c (.imm true (.int .i8 3))))⟩, ⟨none, (.pick 16 (.t 13) (.c (.imm true (.bool true))) (.t 15))⟩, ⟨none, (.mv 2 (.t 16))⟩] none (some ([2], []))
def w112_1 := @awpR_no Try.prog Q σ r112_1 _ _ ⟨rfl, rfl⟩
def my112 : MC := (.seq r112_0 (.seq r112_1 .ret))
theorem my112_is : trC Try.prog ⟨[], []⟩ ⟨[],
  [(0, [0], []), (1, [2], [])]⟩ 17 (Try.f112.body.getD .skip) = some my112 := by kernel_rfl
theorem does112 {args : List LV} (hl : args.length.ble 17 = true) {S S' : List (List LV)} (hS : S'.length = S.length) {o : Out} (h : Lt ⟨numE 0 args, argS 0 S, []⟩ (awp Try.prog my112 (Fin [(.t 2)] o S'))) : Does Try.prog 112 args S o S' :=
  does_of_awp mixed Try.func112 (by kernel_rfl) (by kernel_rfl) my112_is (by kernel_rfl) (Nat.le_of_ble_eq_true hl) hS h
attribute [go_sem ↓] w112_0 w112_1
attribute [go_sem] my112
/-! ### 114: lychgate/lychgateref15.toed -/
def r114_0 : MC := .reg [⟨none, (.mv 2 (.c (.imm true (.bool false))))⟩] none (some ([0], []))
def w114_0 := @awpR_no Try.prog Q σ r114_0 _ _ ⟨rfl, rfl⟩
def r114_1 : MC := .reg [⟨none, (.mv 3 (.t 0))⟩, ⟨none, (.bin 4 .eql (.t 3) (.c (.imm true (.int .i8 1))))⟩, ⟨none, (.mv 2 (.t 4))⟩] none (some ([2], []))
def w114_1 := @awpR_no Try.prog Q σ r114_1 _ _ ⟨rfl, rfl⟩
def my114 : MC := (.seq r114_0 (.seq r114_1 .ret))
theorem my114_is : trC Try.prog ⟨[], []⟩ ⟨[],
  [(0, [0], []), (1, [2], [])]⟩ 5 (Try.f114.body.getD .skip) = some my114 := by kernel_rfl
theorem does114 {args : List LV} (hl : args.length.ble 5 = true) {S S' : List (List LV)} (hS : S'.length = S.length) {o : Out} (h : Lt ⟨numE 0 args, argS 0 S, []⟩ (awp Try.prog my114 (Fin [(.t 2)] o S'))) : Does Try.prog 114 args S o S' :=
  does_of_awp mixed Try.func114 (by kernel_rfl) (by kernel_rfl) my114_is (by kernel_rfl) (Nat.le_of_ble_eq_true hl) hS h
attribute [go_sem ↓] w114_0 w114_1
attribute [go_sem] my114
/-! ### 116: lychgate/lychgateref15.labelled -/
def r116_0 : MC := .reg [⟨none, (.mv 2 (.c (.imm true (.bool false))))⟩] none (some ([0], []))
def w116_0 := @awpR_no Try.prog Q σ r116_0 _ _ ⟨rfl, rfl⟩
def r116_1 : MC := .reg [⟨none, (.mv 3 (.t 0))⟩, ⟨none, (.bin 4 .eql (.t 3) (.c (.imm true (.int .i8 1))))⟩, ⟨none, (.mv 5 (.t 4))⟩, ⟨(some (5, false)), (.mv 6 (.t 0))⟩, ⟨(some (5, false)), (.bin 7 .eql (.t 6) (.c (.imm true (.int .i8 3))))⟩, ⟨none, (.pick 8 (.t 5) (.c (.imm true (.bool true))) (.t 7))⟩, ⟨none, (.mv 2 (.t 8))⟩] none (some ([2], []))
def w116_1 := @awpR_no Try.prog Q σ r116_1 _ _ ⟨rfl, rfl⟩
def my116 : MC := (.seq r116_0 (.seq r116_1 .ret))
theorem my116_is : trC Try.prog ⟨[], []⟩ ⟨[],
  [(0, [0], []), (1, [2], [])]⟩ 9 (Try.f116.body.getD .skip) = some my116 := by kernel_rfl
theorem does116 {args : List LV} (hl : args.length.ble 9 = true) {S S' : List (List LV)} (hS : S'.length = S.length) {o : Out} (h : Lt ⟨numE 0 args, argS 0 S, []⟩ (awp Try.prog my116 (Fin [(.t 2)] o S'))) : Does Try.prog 116 args S o S' :=
  does_of_awp mixed Try.func116 (by kernel_rfl) (by kernel_rfl) my116_is (by kernel_rfl) (Nat.le_of_ble_eq_true hl) hS h
attribute [go_sem ↓] w116_0 w116_1
attribute [go_sem] my116
/-! ### 84: lychgate/lychgateref15.count -/
def r84_0 : MC := .reg [⟨none, (.boxc 2 (.t 0))⟩, ⟨none, (.mv 4 (.c (.imm true (.int .i64 0))))⟩] none (some ([1, 2], []))
def w84_0 := @awpR_no Try.prog Q σ r84_0 _ _ ⟨rfl, rfl⟩
def r84_1 : MC := .reg [⟨none, (.mv 6 (.t 1))⟩, ⟨none, (.bin 7 .add (.t 6) (.c (.imm true (.int .i64 1))))⟩, ⟨none, (.mv 1 (.t 7))⟩] none (some ([1, 2], []))
def w84_1 := @awpR_no Try.prog Q σ r84_1 _ _ ⟨rfl, rfl⟩
def r84_2 : MC := .reg [⟨none, (.fad 8 (.t 2) 0)⟩, ⟨none, (.load 9 (.t 8) none)⟩, ⟨none, (.call (some 10) (.c (.fn 112 [])) [(.t 9)])⟩] none (some ([1, 2, 10], []))
def w84_2 := @awpR_no Try.prog Q σ r84_2 _ _ ⟨rfl, rfl⟩
def r84_3 : MC := .reg [⟨none, (.mv 11 (.t 1))⟩, ⟨none, (.fad 12 (.t 2) 1)⟩, ⟨none, (.load 13 (.t 12) (some 2))⟩, ⟨none, (.call (some 14) (.c (.fn 113 [])) [(.t 13)])⟩, ⟨none, (.bin 15 .add (.t 11) (.t 14))⟩, ⟨none, (.mv 1 (.t 15))⟩] none (some ([1, 2], []))
def w84_3 := @awpR_no Try.prog Q σ r84_3 _ _ ⟨rfl, rfl⟩
def r84_4 : MC := .reg [⟨none, (.fad 16 (.t 2) 0)⟩, ⟨none, (.load 17 (.t 16) none)⟩, ⟨none, (.call (some 18) (.c (.fn 114 [])) [(.t 17)])⟩] none (some ([1, 2, 18], []))
def w84_4 := @awpR_no Try.prog Q σ r84_4 _ _ ⟨rfl, rfl⟩
def r84_5 : MC := .reg [⟨none, (.mv 19 (.t 1))⟩, ⟨none, (.fad 20 (.t 2) 3)⟩, ⟨none, (.load 21 (.t 20) (some 2))⟩, ⟨none, (.call (some 22) (.c (.fn 113 [])) [(.t 21)])⟩, ⟨none, (.bin 23 .add (.t 19) (.t 22))⟩, ⟨none, (.mv 1 (.t 23))⟩] none (some ([1, 2], []))
def w84_5 := @awpR_no Try.prog Q σ r84_5 _ _ ⟨rfl, rfl⟩
def r84_6 : MC := .reg [⟨none, (.mv 5 (.c (.imm true (.int .i64 0))))⟩] none (some ([1, 2, 5], []))
def w84_6 := @awpR_no Try.prog Q σ r84_6 _ _ ⟨rfl, rfl⟩
def r84_7 : MC := .reg [⟨none, (.mv 24 (.t 5))⟩, ⟨none, (.fad 25 (.t 2) 7)⟩, ⟨none, (.load 26 (.t 25) none)⟩, ⟨none, (.len 27 (.t 26))⟩, ⟨none, (.bin 28 .lss (.t 24) (.t 27))⟩, ⟨none, (.mv 29 (.t 28))⟩, ⟨(some (29, true)), (.mv 30 (.t 1))⟩, ⟨(some (29, true)), (.bin 31 .leq (.t 30) (.c (.imm true (.int .i64 8192))))⟩, ⟨none, (.pick 32 (.t 29) (.t 31) (.c (.imm true (.bool false))))⟩] none (some ([1, 2, 5, 32], []))
def w84_7 := @awpR_no Try.prog Q σ r84_7 _ _ ⟨rfl, rfl⟩
def r84_8 : MC := .reg [⟨none, (.fad 35 (.t 2) 7)⟩, ⟨none, (.load 36 (.t 35) none)⟩, ⟨none, (.mv 37 (.t 5))⟩, ⟨none, (.iad 38 (.t 36) (.t 37) 8)⟩, ⟨none, (.load 39 (.t 38) (some 8))⟩, ⟨none, (.mv 40 (.t 1))⟩, ⟨none, (.call (some 41) (.c (.fn 84 [])) [(.t 39), (.t 40)])⟩, ⟨none, (.mv 1 (.t 41))⟩] none (some ([1, 2, 5], []))
def w84_8 := @awpR_no Try.prog Q σ r84_8 _ _ ⟨rfl, rfl⟩
def r84_9 : MC := .reg [⟨none, (.mv 33 (.t 5))⟩, ⟨none, (.bin 34 .add (.t 33) (.c (.imm true (.int .i64 1))))⟩, ⟨none, (.mv 5 (.t 34))⟩] none (some ([1, 2, 5], []))
def w84_9 := @awpR_no Try.prog Q σ r84_9 _ _ ⟨rfl, rfl⟩
def l84_0 : MC := (.seq (.seq r84_7 (.cond (.t 32) .skip (.exit 0))) (.seq (.block 1 r84_8) r84_9))
def r84_10 : MC := .reg [⟨none, (.mv 42 (.t 1))⟩, ⟨none, (.mv 4 (.t 42))⟩] none (some ([4], []))
def w84_10 := @awpR_no Try.prog Q σ r84_10 _ _ ⟨rfl, rfl⟩
def my84 : MC := (.seq r84_0 (.seq r84_1 (.seq (.seq r84_2 (.cond (.t 10) r84_3 .skip)) (.seq (.seq r84_4 (.cond (.t 18) r84_5 .skip)) (.seq (.seq r84_6 (.block 0 (.loop l84_0))) (.seq r84_10 .ret))))))
theorem my84_is : trC Try.prog ⟨[2], []⟩ ⟨[],
  [(0, [1, 2], []), (1, [1, 2], []), (2, [1, 2, 10], []), (3, [1, 2], []), (4, [1, 2, 18], []), (5, [1, 2], []), (6, [1, 2, 5], []), (7, [1, 2, 5, 32], []), (9, [1, 2, 5], []), (8, [1, 2, 5], []), (10, [4], [])]⟩ 43 (Try.f84.body.getD .skip) = some my84 := by kernel_rfl
theorem does84 {args : List LV} (hl : args.length.ble 43 = true) {S S' : List (List LV)} (hS : S'.length = S.length) {o : Out} (h : Lt ⟨numE 0 args, argS 0 S, []⟩ (awp Try.prog my84 (Fin [(.t 4)] o S'))) : Does Try.prog 84 args S o S' :=
  does_of_awp mixed Try.func84 (by kernel_rfl) (by kernel_rfl) my84_is (by kernel_rfl) (Nat.le_of_ble_eq_true hl) hS h
attribute [go_sem ↓] w84_0 w84_1 w84_2 w84_3 w84_4 w84_5 w84_6 w84_7 w84_8 w84_9 w84_10
attribute [go_sem] my84
/-! ### 85: lychgate/lychgateref15.deep -/
def r85_0 : MC := .reg [⟨none, (.boxc 2 (.t 0))⟩, ⟨none, (.mv 4 (.c (.imm true (.int .i64 0))))⟩] none (some ([1, 2], []))
def w85_0 := @awpR_no Try.prog Q σ r85_0 _ _ ⟨rfl, rfl⟩
def r85_1 : MC := .reg [⟨none, (.mv 7 (.t 1))⟩, ⟨none, (.bin 8 .leq (.t 7) (.c (.imm true (.int .i64 1))))⟩] none (some ([1, 2, 8], []))
def w85_1 := @awpR_no Try.prog Q σ r85_1 _ _ ⟨rfl, rfl⟩
def r85_2 : MC := .reg [⟨none, (.mv 9 (.t 1))⟩, ⟨none, (.mv 4 (.t 9))⟩] none (some ([4], []))
def w85_2 := @awpR_no Try.prog Q σ r85_2 _ _ ⟨rfl, rfl⟩
def r85_3 : MC := .reg [⟨none, (.mv 5 (.c (.imm true (.int .i64 0))))⟩] none (some ([1, 2, 5], []))
def w85_3 := @awpR_no Try.prog Q σ r85_3 _ _ ⟨rfl, rfl⟩
def r85_4 : MC := .reg [⟨none, (.fad 10 (.t 2) 0)⟩, ⟨none, (.load 11 (.t 10) none)⟩, ⟨none, (.call (some 12) (.c (.fn 112 [])) [(.t 11)])⟩] none (some ([1, 2, 5, 12], []))
def w85_4 := @awpR_no Try.prog Q σ r85_4 _ _ ⟨rfl, rfl⟩
def r85_5 : MC := .reg [⟨none, (.mv 13 (.t 5))⟩, ⟨none, (.fad 14 (.t 2) 1)⟩, ⟨none, (.load 15 (.t 14) (some 2))⟩, ⟨none, (.call (some 16) (.c (.fn 115 [])) [(.t 15)])⟩, ⟨none, (.mx 17 [(.t 13), (.t 16)])⟩, ⟨none, (.mv 5 (.t 17))⟩] none (some ([1, 2, 5], []))
def w85_5 := @awpR_no Try.prog Q σ r85_5 _ _ ⟨rfl, rfl⟩
def r85_6 : MC := .reg [⟨none, (.fad 18 (.t 2) 0)⟩, ⟨none, (.load 19 (.t 18) none)⟩, ⟨none, (.call (some 20) (.c (.fn 114 [])) [(.t 19)])⟩] none (some ([1, 2, 5, 20], []))
def w85_6 := @awpR_no Try.prog Q σ r85_6 _ _ ⟨rfl, rfl⟩
def r85_7 : MC := .reg [⟨none, (.mv 21 (.t 5))⟩, ⟨none, (.fad 22 (.t 2) 3)⟩, ⟨none, (.load 23 (.t 22) (some 2))⟩, ⟨none, (.call (some 24) (.c (.fn 115 [])) [(.t 23)])⟩, ⟨none, (.mx 25 [(.t 21), (.t 24)])⟩, ⟨none, (.mv 5 (.t 25))⟩] none (some ([1, 2, 5], []))
def w85_7 := @awpR_no Try.prog Q σ r85_7 _ _ ⟨rfl, rfl⟩
def r85_8 : MC := .reg [⟨none, (.mv 6 (.c (.imm true (.int .i64 0))))⟩] none (some ([1, 2, 5, 6], []))
def w85_8 := @awpR_no Try.prog Q σ r85_8 _ _ ⟨rfl, rfl⟩
def r85_9 : MC := .reg [⟨none, (.mv 26 (.t 6))⟩, ⟨none, (.fad 27 (.t 2) 7)⟩, ⟨none, (.load 28 (.t 27) none)⟩, ⟨none, (.len 29 (.t 28))⟩, ⟨none, (.bin 30 .lss (.t 26) (.t 29))⟩] none (some ([1, 2, 5, 6, 30], []))
def w85_9 := @awpR_no Try.prog Q σ r85_9 _ _ ⟨rfl, rfl⟩
def r85_10 : MC := .reg [⟨none, (.mv 33 (.t 5))⟩, ⟨none, (.fad 34 (.t 2) 7)⟩, ⟨none, (.load 35 (.t 34) none)⟩, ⟨none, (.mv 36 (.t 6))⟩, ⟨none, (.iad 37 (.t 35) (.t 36) 8)⟩, ⟨none, (.load 38 (.t 37) (some 8))⟩, ⟨none, (.mv 39 (.t 1))⟩, ⟨none, (.bin 40 .sub (.t 39) (.c (.imm true (.int .i64 1))))⟩, ⟨none, (.call (some 41) (.c (.fn 85 [])) [(.t 38), (.t 40)])⟩, ⟨none, (.mx 42 [(.t 33), (.t 41)])⟩, ⟨none, (.mv 5 (.t 42))⟩] none (some ([1, 2, 5, 6], []))
def w85_10 := @awpR_no Try.prog Q σ r85_10 _ _ ⟨rfl, rfl⟩
def r85_11 : MC := .reg [⟨none, (.mv 31 (.t 6))⟩, ⟨none, (.bin 32 .add (.t 31) (.c (.imm true (.int .i64 1))))⟩, ⟨none, (.mv 6 (.t 32))⟩] none (some ([1, 2, 5, 6], []))
def w85_11 := @awpR_no Try.prog Q σ r85_11 _ _ ⟨rfl, rfl⟩
def l85_0 : MC := (.seq (.seq r85_9 (.cond (.t 30) .skip (.exit 0))) (.seq (.block 1 r85_10) r85_11))
def r85_12 : MC := .reg [⟨none, (.mv 43 (.t 5))⟩, ⟨none, (.bin 44 .add (.c (.imm true (.int .i64 1))) (.t 43))⟩, ⟨none, (.mv 45 (.t 1))⟩, ⟨none, (.mn 46 [(.t 44), (.t 45)])⟩, ⟨none, (.mv 4 (.t 46))⟩] none (some ([4], []))
def w85_12 := @awpR_no Try.prog Q σ r85_12 _ _ ⟨rfl, rfl⟩
def my85 : MC := (.seq r85_0 (.seq (.seq r85_1 (.cond (.t 8) (.seq r85_2 .ret) .skip)) (.seq r85_3 (.seq (.seq r85_4 (.cond (.t 12) r85_5 .skip)) (.seq (.seq r85_6 (.cond (.t 20) r85_7 .skip)) (.seq (.seq r85_8 (.block 0 (.loop l85_0))) (.seq r85_12 .ret)))))))
theorem my85_is : trC Try.prog ⟨[2], []⟩ ⟨[],
  [(0, [1, 2], []), (1, [1, 2, 8], []), (2, [4], []), (3, [1, 2, 5], []), (4, [1, 2, 5, 12], []), (5, [1, 2, 5], []), (6, [1, 2, 5, 20], []), (7, [1, 2, 5], []), (8, [1, 2, 5, 6], []), (9, [1, 2, 5, 6, 30], []), (11, [1, 2, 5, 6], []), (10, [1, 2, 5, 6], []), (12, [4], [])]⟩ 47 (Try.f85.body.getD .skip) = some my85 := by kernel_rfl
theorem does85 {args : List LV} (hl : args.length.ble 47 = true) {S S' : List (List LV)} (hS : S'.length = S.length) {o : Out} (h : Lt ⟨numE 0 args, argS 0 S, []⟩ (awp Try.prog my85 (Fin [(.t 4)] o S'))) : Does Try.prog 85 args S o S' :=
  does_of_awp mixed Try.func85 (by kernel_rfl) (by kernel_rfl) my85_is (by kernel_rfl) (Nat.le_of_ble_eq_true hl) hS h
attribute [go_sem ↓] w85_0 w85_1 w85_2 w85_3 w85_4 w85_5 w85_6 w85_7 w85_8 w85_9 w85_10 w85_11 w85_12
attribute [go_sem] my85
/-! ### 117: lychgate/lychgateref15.Ground -/
def r117_0 : MC := .reg [⟨none, (.boxc 1 (.t 0))⟩, ⟨none, (.mv 2 (.c (.imm true (.bool false))))⟩] none (some ([1], []))
def w117_0 := @awpR_no Try.prog Q σ r117_0 _ _ ⟨rfl, rfl⟩
def r117_1 : MC := .reg [⟨none, (.load 5 (.t 1) (some 2))⟩, ⟨none, (.call (some 6) (.c (.fn 87 [])) [(.t 5)])⟩, ⟨none, (.bin 7 .neq (.t 6) (.c (.imm true (.int .i64 0))))⟩, ⟨none, (.mv 8 (.t 7))⟩, ⟨(some (8, false)), (.fad 9 (.t 1) 0)⟩, ⟨(some (8, false)), (.load 10 (.t 9) none)⟩, ⟨(some (8, false)), (.bin 11 .eql (.t 10) (.c (.imm true (.int .i8 0))))⟩, ⟨none, (.pick 12 (.t 8) (.c (.imm true (.bool true))) (.t 11))⟩] none (some ([1, 12], []))
def w117_1 := @awpR_no Try.prog Q σ r117_1 _ _ ⟨rfl, rfl⟩
def r117_2 : MC := .reg [⟨none, (.mv 2 (.c (.imm true (.bool false))))⟩] none (some ([2], []))
def w117_2 := @awpR_no Try.prog Q σ r117_2 _ _ ⟨rfl, rfl⟩
def r117_3 : MC := .reg [⟨none, (.load 14 (.t 1) (some 2))⟩, ⟨none, (.call (some 15) (.c (.fn 125 [])) [(.t 14)])⟩, ⟨none, (.mv 13 (.t 15))⟩, ⟨none, (.ext 16 (.t 13) 0)⟩, ⟨none, (.ext 17 (.t 13) 1)⟩, ⟨none, (.alloc 3 z2)⟩, ⟨none, (.store (.t 3) (.t 16) 2)⟩, ⟨none, (.mv 4 (.t 17))⟩] none (some ([1, 3], [3]))
def w117_3 := @awpR_get Try.prog Q σ r117_3 _ _ [3] ⟨rfl, rfl⟩
def r117_4 : MC := .reg [⟨none, (.load 18 (.t 1) (some 2))⟩, ⟨none, (.load 19 (.t 3) (some 2))⟩, ⟨none, (.call (some 20) (.c (.fn 134 [])) [(.t 18), (.t 19)])⟩, ⟨none, (.mv 2 (.t 20))⟩] none (some ([2], []))
def w117_4 := @awpR_no Try.prog Q σ r117_4 _ _ ⟨rfl, rfl⟩
def my117 : MC := (.seq r117_0 (.seq (.seq r117_1 (.cond (.t 12) (.seq r117_2 .ret) .skip)) (.seq r117_3 (.seq r117_4 .ret))))
theorem my117_is : trC Try.prog ⟨[1], []⟩ ⟨[],
  [(0, [1], []), (1, [1, 12], []), (2, [2], []), (3, [1, 3], [3]), (4, [2], [])]⟩ 21 (Try.f117.body.getD .skip) = some my117 := by kernel_rfl
theorem does117 {args : List LV} (hl : args.length.ble 21 = true) {S S' : List (List LV)} (hS : S'.length = S.length) {o : Out} (h : Lt ⟨numE 0 args, argS 0 S, []⟩ (awp Try.prog my117 (Fin [(.t 2)] o S'))) : Does Try.prog 117 args S o S' :=
  does_of_awp mixed Try.func117 (by kernel_rfl) (by kernel_rfl) my117_is (by kernel_rfl) (Nat.le_of_ble_eq_true hl) hS h
attribute [go_sem ↓] w117_0 w117_1 w117_2 w117_3 w117_4
attribute [go_sem] my117
/-! ### 135: lychgate/lychgateref15.pair -/
def r135_0 : MC := .reg [⟨none, (.boxc 4 (.t 1))⟩, ⟨none, (.boxc 5 (.t 2))⟩, ⟨none, (.alloc 6 z2)⟩] none (some ([0, 4, 5, 6], [6]))
def w135_0 := @awpR_get Try.prog Q σ r135_0 _ _ [6] ⟨rfl, rfl⟩
def r135_1 : MC := .reg [⟨none, (.mv 7 (.t 0))⟩, ⟨none, (.load 8 (.t 4) (some 2))⟩, ⟨none, (.load 9 (.t 5) (some 2))⟩, ⟨none, (.lit 10 2 [(.t 8), (.t 9)])⟩, ⟨none, (.build 11 z2 [(0, (1, (.t 7))), (1, (1, (.t 10)))])⟩, ⟨none, (.store (.t 6) (.t 11) 2)⟩] none (some ([6], [6]))
def w135_1 := @awpR_no Try.prog Q σ r135_1 _ _ ⟨rfl, rfl⟩
def my135 : MC := (.seq r135_0 (.seq r135_1 .ret))
theorem my135_is : trC Try.prog ⟨[4, 5], []⟩ ⟨[],
  [(0, [0, 4, 5, 6], [6]), (1, [6], [6])]⟩ 12 (Try.f135.body.getD .skip) = some my135 := by kernel_rfl
theorem does135 {args : List LV} (hl : args.length.ble 12 = true) {S S' : List (List LV)} (hS : S'.length = S.length) {o : Out} (h : Lt ⟨numE 0 args, argS 0 S, []⟩ (awp Try.prog my135 (Fin [(.c 6 (some 2))] o S'))) : Does Try.prog 135 args S o S' :=
  does_of_awp mixed Try.func135 (by kernel_rfl) (by kernel_rfl) my135_is (by kernel_rfl) (Nat.le_of_ble_eq_true hl) hS h
attribute [go_sem ↓] w135_0 w135_1
attribute [go_sem] my135
/-! ### 136: lychgate/lychgateref15.small -/
def r136_0 : MC := .reg [⟨none, (.boxc 1 (.t 0))⟩, ⟨none, (.mv 2 (.c (.imm true (.bool false))))⟩] none (some ([1], []))
def w136_0 := @awpR_no Try.prog Q σ r136_0 _ _ ⟨rfl, rfl⟩
def r136_1 : MC := .reg [⟨none, (.load 3 (.t 1) (some 2))⟩, ⟨none, (.call (some 4) (.c (.fn 87 [])) [(.t 3)])⟩, ⟨none, (.bin 5 .eql (.t 4) (.c (.imm true (.int .i64 0))))⟩, ⟨none, (.mv 2 (.t 5))⟩] none (some ([2], []))
def w136_1 := @awpR_no Try.prog Q σ r136_1 _ _ ⟨rfl, rfl⟩
def my136 : MC := (.seq r136_0 (.seq r136_1 .ret))
theorem my136_is : trC Try.prog ⟨[1], []⟩ ⟨[],
  [(0, [1], []), (1, [2], [])]⟩ 6 (Try.f136.body.getD .skip) = some my136 := by kernel_rfl
theorem does136 {args : List LV} (hl : args.length.ble 6 = true) {S S' : List (List LV)} (hS : S'.length = S.length) {o : Out} (h : Lt ⟨numE 0 args, argS 0 S, []⟩ (awp Try.prog my136 (Fin [(.t 2)] o S'))) : Does Try.prog 136 args S o S' :=
  does_of_awp mixed Try.func136 (by kernel_rfl) (by kernel_rfl) my136_is (by kernel_rfl) (Nat.le_of_ble_eq_true hl) hS h
attribute [go_sem ↓] w136_0 w136_1
attribute [go_sem] my136
/-! ### 118: lychgate/lychgateref15.parts -/
def r118_0 : MC := .reg [⟨none, (.boxc 1 (.t 0))⟩, ⟨none, (.alloc 2 z2)⟩, ⟨none, (.alloc 3 z2)⟩, ⟨none, (.mv 4 (.c (.imm true (.bool false))))⟩] none (some ([1, 2, 3], [2, 3]))
def w118_0 := @awpR_get Try.prog Q σ r118_0 _ _ [2, 3] ⟨rfl, rfl⟩
def r118_1 : MC := .reg [⟨none, (.fad 12 (.t 1) 7)⟩, ⟨none, (.load 13 (.t 12) none)⟩, ⟨none, (.iad 14 (.t 13) (.c (.imm true (.int .i64 0))) 8)⟩, ⟨none, (.load 15 (.t 14) (some 8))⟩, ⟨none, (.call (some 16) (.c (.fn 86 [])) [(.t 15)])⟩, ⟨none, (.mv 11 (.t 16))⟩, ⟨none, (.ext 17 (.t 11) 0)⟩, ⟨none, (.ext 18 (.t 11) 1)⟩, ⟨none, (.ext 19 (.t 11) 2)⟩, ⟨none, (.alloc 5 z2)⟩, ⟨none, (.alloc 6 z2)⟩, ⟨none, (.store (.t 5) (.t 17) 2)⟩, ⟨none, (.store (.t 6) (.t 18) 2)⟩, ⟨none, (.mv 7 (.t 19))⟩] none (some ([1, 2, 3, 5, 6, 7], [2, 3, 5, 6]))
def w118_1 := @awpR_get Try.prog Q σ r118_1 _ _ [5, 6] ⟨rfl, rfl⟩
def r118_2 : MC := .reg [⟨none, (.fad 21 (.t 1) 7)⟩, ⟨none, (.load 22 (.t 21) none)⟩, ⟨none, (.iad 23 (.t 22) (.c (.imm true (.int .i64 1))) 8)⟩, ⟨none, (.load 24 (.t 23) (some 8))⟩, ⟨none, (.call (some 25) (.c (.fn 86 [])) [(.t 24)])⟩, ⟨none, (.mv 20 (.t 25))⟩, ⟨none, (.ext 26 (.t 20) 0)⟩, ⟨none, (.ext 27 (.t 20) 1)⟩, ⟨none, (.ext 28 (.t 20) 2)⟩, ⟨none, (.alloc 8 z2)⟩, ⟨none, (.alloc 9 z2)⟩, ⟨none, (.store (.t 8) (.t 26) 2)⟩, ⟨none, (.store (.t 9) (.t 27) 2)⟩, ⟨none, (.mv 10 (.t 28))⟩] none (some ([1, 2, 3, 5, 6, 7, 8, 9, 10], [2, 3, 5, 6, 8, 9]))
def w118_2 := @awpR_get Try.prog Q σ r118_2 _ _ [8, 9] ⟨rfl, rfl⟩
def r118_3 : MC := .reg [⟨none, (.mv 29 (.t 7))⟩, ⟨none, (.un 30 .not (.t 29))⟩, ⟨none, (.mv 31 (.t 30))⟩, ⟨(some (31, false)), (.mv 32 (.t 10))⟩, ⟨(some (31, false)), (.un 33 .not (.t 32))⟩, ⟨none, (.pick 34 (.t 31) (.c (.imm true (.bool true))) (.t 33))⟩] none (some ([1, 2, 3, 5, 6, 8, 9, 34], [2, 3, 5, 6, 8, 9]))
def w118_3 := @awpR_no Try.prog Q σ r118_3 _ _ ⟨rfl, rfl⟩
def r118_4 : MC := .reg [⟨none, (.build 35 z2 [])⟩, ⟨none, (.build 36 z2 [])⟩, ⟨none, (.store (.t 2) (.t 35) 2)⟩, ⟨none, (.store (.t 3) (.t 36) 2)⟩, ⟨none, (.mv 4 (.c (.imm true (.bool false))))⟩] none (some ([2, 3, 4], [2, 3]))
def w118_4 := @awpR_no Try.prog Q σ r118_4 _ _ ⟨rfl, rfl⟩
def r118_5 : MC := .reg [⟨none, (.fad 37 (.t 1) 0)⟩, ⟨none, (.load 38 (.t 37) none)⟩] none (some ([2, 3, 5, 6, 8, 9, 38], [2, 3, 5, 6, 8, 9]))
def w118_5 := @awpR_no Try.prog Q σ r118_5 _ _ ⟨rfl, rfl⟩
def r118_6 : MC := .reg [⟨none, (.bin 40 .eql (.t 38) (.c (.imm true (.int .i8 4))))⟩, ⟨none, (.mv 39 (.t 40))⟩] none (some ([2, 3, 5, 6, 8, 9, 38, 39], [2, 3, 5, 6, 8, 9]))
def w118_6 := @awpR_no Try.prog Q σ r118_6 _ _ ⟨rfl, rfl⟩
def r118_7 : MC := .reg [⟨none, (.load 41 (.t 6) (some 2))⟩, ⟨none, (.load 42 (.t 8) (some 2))⟩, ⟨none, (.call (some 43) (.c (.fn 135 [])) [(.c (.imm true (.int .i8 3))), (.t 41), (.t 42)])⟩, ⟨none, (.load 44 (.t 5) (some 2))⟩, ⟨none, (.load 45 (.t 9) (some 2))⟩, ⟨none, (.call (some 46) (.c (.fn 135 [])) [(.c (.imm true (.int .i8 3))), (.t 44), (.t 45)])⟩, ⟨none, (.store (.t 2) (.t 43) 2)⟩, ⟨none, (.store (.t 3) (.t 46) 2)⟩, ⟨none, (.mv 4 (.c (.imm true (.bool true))))⟩] (some []) (some ([2, 3, 4], [2, 3]))
def w118_7 := @awpD_no Try.prog Q σ r118_7 _ _ _ ⟨rfl, rfl⟩
def r118_8 : MC := .reg [⟨none, (.bin 48 .eql (.t 38) (.c (.imm true (.int .i8 5))))⟩, ⟨none, (.mv 47 (.t 48))⟩] none (some ([2, 3, 5, 6, 8, 9, 38, 47], [2, 3, 5, 6, 8, 9]))
def w118_8 := @awpR_no Try.prog Q σ r118_8 _ _ ⟨rfl, rfl⟩
def r118_9 : MC := .reg [⟨none, (.load 49 (.t 5) (some 2))⟩, ⟨none, (.load 50 (.t 8) (some 2))⟩, ⟨none, (.call (some 51) (.c (.fn 135 [])) [(.c (.imm true (.int .i8 4))), (.t 49), (.t 50)])⟩, ⟨none, (.load 52 (.t 6) (some 2))⟩, ⟨none, (.load 53 (.t 9) (some 2))⟩, ⟨none, (.call (some 54) (.c (.fn 135 [])) [(.c (.imm true (.int .i8 4))), (.t 52), (.t 53)])⟩, ⟨none, (.store (.t 2) (.t 51) 2)⟩, ⟨none, (.store (.t 3) (.t 54) 2)⟩, ⟨none, (.mv 4 (.c (.imm true (.bool true))))⟩] (some []) (some ([2, 3, 4], [2, 3]))
def w118_9 := @awpD_no Try.prog Q σ r118_9 _ _ _ ⟨rfl, rfl⟩
def r118_10 : MC := .reg [⟨none, (.bin 56 .eql (.t 38) (.c (.imm true (.int .i8 6))))⟩, ⟨none, (.mv 55 (.t 56))⟩] none (some ([2, 3, 5, 6, 8, 9, 38, 55], [2, 3, 5, 6, 8, 9]))
def w118_10 := @awpR_no Try.prog Q σ r118_10 _ _ ⟨rfl, rfl⟩
def r118_11 : MC := .reg [⟨none, (.load 57 (.t 5) (some 2))⟩, ⟨none, (.load 58 (.t 8) (some 2))⟩, ⟨none, (.call (some 59) (.c (.fn 135 [])) [(.c (.imm true (.int .i8 5))), (.t 57), (.t 58)])⟩, ⟨none, (.load 60 (.t 6) (some 2))⟩, ⟨none, (.load 61 (.t 9) (some 2))⟩, ⟨none, (.call (some 62) (.c (.fn 135 [])) [(.c (.imm true (.int .i8 5))), (.t 60), (.t 61)])⟩, ⟨none, (.store (.t 2) (.t 59) 2)⟩, ⟨none, (.store (.t 3) (.t 62) 2)⟩, ⟨none, (.mv 4 (.c (.imm true (.bool true))))⟩] (some []) (some ([2, 3, 4], [2, 3]))
def w118_11 := @awpD_no Try.prog Q σ r118_11 _ _ _ ⟨rfl, rfl⟩
def r118_12 : MC := .reg [⟨none, (.bin 64 .eql (.t 38) (.c (.imm true (.int .i8 7))))⟩, ⟨none, (.mv 63 (.t 64))⟩] none (some ([2, 3, 5, 6, 8, 9, 63], [2, 3, 5, 6, 8, 9]))
def w118_12 := @awpR_no Try.prog Q σ r118_12 _ _ ⟨rfl, rfl⟩
def r118_13 : MC := .reg [⟨none, (.load 65 (.t 5) (some 2))⟩, ⟨none, (.load 66 (.t 9) (some 2))⟩, ⟨none, (.load 67 (.t 6) (some 2))⟩, ⟨none, (.call (some 68) (.c (.fn 136 [])) [(.t 67)])⟩, ⟨none, (.mv 69 (.t 68))⟩, ⟨(some (69, true)), (.load 70 (.t 8) (some 2))⟩, ⟨(some (69, true)), (.call (some 71) (.c (.fn 136 [])) [(.t 70)])⟩, ⟨none, (.pick 72 (.t 69) (.t 71) (.c (.imm true (.bool false))))⟩, ⟨none, (.mv 73 (.t 72))⟩, ⟨(some (73, true)), (.load 74 (.t 6) (some 2))⟩, ⟨(some (73, true)), (.load 75 (.t 8) (some 2))⟩, ⟨(some (73, true)), (.call (some 76) (.c (.fn 134 [])) [(.t 74), (.t 75)])⟩, ⟨none, (.pick 77 (.t 73) (.t 76) (.c (.imm true (.bool false))))⟩, ⟨none, (.store (.t 2) (.t 65) 2)⟩, ⟨none, (.store (.t 3) (.t 66) 2)⟩, ⟨none, (.mv 4 (.t 77))⟩] (some [(1, 13), (12, 13), (12, 14)]) (some ([2, 3, 4], [2, 3]))
def w118_13 := @awpD_no Try.prog Q σ r118_13 _ _ _ ⟨rfl, rfl⟩
def r118_14 : MC := .reg [⟨none, (.build 78 z2 [])⟩, ⟨none, (.build 79 z2 [])⟩, ⟨none, (.store (.t 2) (.t 78) 2)⟩, ⟨none, (.store (.t 3) (.t 79) 2)⟩, ⟨none, (.mv 4 (.c (.imm true (.bool false))))⟩] none (some ([2, 3, 4], [2, 3]))
def w118_14 := @awpR_no Try.prog Q σ r118_14 _ _ ⟨rfl, rfl⟩
def my118 : MC := (.seq r118_0 (.seq r118_1 (.seq r118_2 (.seq (.seq r118_3 (.cond (.t 34) (.seq r118_4 .ret) .skip)) (.seq (.seq r118_5 (.block 0 (.seq r118_6 (.cond (.t 39) (.seq r118_7 .ret) (.seq r118_8 (.cond (.t 47) (.seq r118_9 .ret) (.seq r118_10 (.cond (.t 55) (.seq r118_11 .ret) (.seq r118_12 (.cond (.t 63) (.seq r118_13 .ret) .skip)))))))))) (.seq r118_14 .ret))))))
theorem my118_is : trC Try.prog ⟨[1], []⟩ ⟨[(7, [[], [], [0, 1], [], [], [0, 1, 2, 3, 4], [0, 1, 2, 3, 4, 5], [0, 1, 2, 3, 4, 5, 6], [0, 1, 2, 3, 4, 5, 6, 7]], []), (9, [[], [], [0, 1], [], [], [0, 1, 2, 3, 4], [0, 1, 2, 3, 4, 5], [0, 1, 2, 3, 4, 5, 6], [0, 1, 2, 3, 4, 5, 6, 7]], []), (11, [[], [], [0, 1], [], [], [0, 1, 2, 3, 4], [0, 1, 2, 3, 4, 5], [0, 1, 2, 3, 4, 5, 6], [0, 1, 2, 3, 4, 5, 6, 7]], []), (13, [[], [], [], [2], [2, 3], [2, 3, 4], [2, 3, 4, 5], [2, 3, 4, 5, 6], [2, 3, 4, 5, 6, 7], [2, 3, 4, 5, 6, 7, 8], [2, 3, 4, 5, 6, 7, 8], [2, 3, 4, 5, 6, 7, 8, 9, 10], [2, 3, 4, 5, 6, 7, 8, 9, 10, 11], [0, 2, 3, 4, 5, 6, 7, 8, 9, 10, 11], [0, 1, 2, 3, 4, 5, 6, 7, 8, 9, 10, 11, 13], [0, 1, 2, 3, 4, 5, 6, 7, 8, 9, 10, 11, 12, 13, 14]], [(1, 13), (12, 13), (12, 14)])],
  [(0, [1, 2, 3], [2, 3]), (1, [1, 2, 3, 5, 6, 7], [2, 3, 5, 6]), (2, [1, 2, 3, 5, 6, 7, 8, 9, 10], [2, 3, 5, 6, 8, 9]), (3, [1, 2, 3, 5, 6, 8, 9, 34], [2, 3, 5, 6, 8, 9]), (4, [2, 3, 4], [2, 3]), (5, [2, 3, 5, 6, 8, 9, 38], [2, 3, 5, 6, 8, 9]), (6, [2, 3, 5, 6, 8, 9, 38, 39], [2, 3, 5, 6, 8, 9]), (7, [2, 3, 4], [2, 3]), (8, [2, 3, 5, 6, 8, 9, 38, 47], [2, 3, 5, 6, 8, 9]), (9, [2, 3, 4], [2, 3]), (10, [2, 3, 5, 6, 8, 9, 38, 55], [2, 3, 5, 6, 8, 9]), (11, [2, 3, 4], [2, 3]), (12, [2, 3, 5, 6, 8, 9, 63], [2, 3, 5, 6, 8, 9]), (13, [2, 3, 4], [2, 3]), (14, [2, 3, 4], [2, 3])]⟩ 80 (Try.f118.body.getD .skip) = some my118 := by kernel_rfl
theorem does118 {args : List LV} (hl : args.length.ble 80 = true) {S S' : List (List LV)} (hS : S'.length = S.length) {o : Out} (h : Lt ⟨numE 0 args, argS 0 S, []⟩ (awp Try.prog my118 (Fin [(.c 2 (some 2)), (.c 3 (some 2)), (.t 4)] o S'))) : Does Try.prog 118 args S o S' :=
  does_of_awp mixed Try.func118 (by kernel_rfl) (by kernel_rfl) my118_is (by kernel_rfl) (Nat.le_of_ble_eq_true hl) hS h
attribute [go_sem ↓] w118_0 w118_1 w118_2 w118_3 w118_4 w118_5 w118_6 w118_7 w118_8 w118_9 w118_10 w118_11 w118_12 w118_13 w118_14
attribute [go_sem] my118
/-! ### 86: lychgate/lychgateref15.ends -/
def r86_0 : MC := .reg [⟨none, (.boxc 1 (.t 0))⟩, ⟨none, (.alloc 2 z2)⟩, ⟨none, (.alloc 3 z2)⟩, ⟨none, (.mv 4 (.c (.imm true (.bool false))))⟩] none (some ([1, 2, 3], [2, 3]))
def w86_0 := @awpR_get Try.prog Q σ r86_0 _ _ [2, 3] ⟨rfl, rfl⟩
def r86_1 : MC := .reg [⟨none, (.fad 6 (.t 1) 0)⟩, ⟨none, (.load 7 (.t 6) none)⟩, ⟨none, (.call (some 8) (.c (.fn 112 [])) [(.t 7)])⟩, ⟨none, (.mv 9 (.t 8))⟩, ⟨(some (9, true)), (.fad 10 (.t 1) 1)⟩, ⟨(some (9, true)), (.load 11 (.t 10) (some 2))⟩, ⟨(some (9, true)), (.call (some 12) (.c (.fn 87 [])) [(.t 11)])⟩, ⟨(some (9, true)), (.bin 13 .neq (.t 12) (.c (.imm true (.int .i64 0))))⟩, ⟨none, (.pick 14 (.t 9) (.t 13) (.c (.imm true (.bool false))))⟩, ⟨none, (.mv 15 (.t 14))⟩, ⟨(some (15, false)), (.fad 16 (.t 1) 0)⟩, ⟨(some (15, false)), (.load 17 (.t 16) none)⟩, ⟨(some (15, false)), (.call (some 18) (.c (.fn 114 [])) [(.t 17)])⟩, ⟨(some (15, false)), (.mv 19 (.t 18))⟩, ⟨(some (19, true)), (.fad 20 (.t 1) 3)⟩, ⟨(some (19, true)), (.load 21 (.t 20) (some 2))⟩, ⟨(some (19, true)), (.call (some 22) (.c (.fn 87 [])) [(.t 21)])⟩, ⟨(some (19, true)), (.bin 23 .neq (.t 22) (.c (.imm true (.int .i64 0))))⟩, ⟨(some (15, false)), (.pick 24 (.t 19) (.t 23) (.c (.imm true (.bool false))))⟩, ⟨none, (.pick 25 (.t 15) (.c (.imm true (.bool true))) (.t 24))⟩, ⟨none, (.mv 26 (.t 25))⟩, ⟨(some (26, false)), (.fad 27 (.t 1) 0)⟩, ⟨(some (26, false)), (.load 28 (.t 27) none)⟩, ⟨(some (26, false)), (.call (some 29) (.c (.fn 116 [])) [(.t 28)])⟩, ⟨(some (26, false)), (.mv 30 (.t 29))⟩, ⟨(some (30, true)), (.fad 31 (.t 1) 5)⟩, ⟨(some (30, true)), (.load 32 (.t 31) none)⟩, ⟨(some (30, true)), (.bin 33 .lss (.t 32) (.c (.imm true (.int .i64 1))))⟩, ⟨(some (30, true)), (.mv 34 (.t 33))⟩, ⟨(some (34, false)), (.fad 35 (.t 1) 5)⟩, ⟨(some (34, false)), (.load 36 (.t 35) none)⟩, ⟨(some (34, false)), (.bin 37 .gtr (.t 36) (.c (.imm true (.int .i64 2147483648))))⟩, ⟨(some (30, true)), (.pick 38 (.t 34) (.c (.imm true (.bool true))) (.t 37))⟩, ⟨(some (26, false)), (.pick 39 (.t 30) (.t 38) (.c (.imm true (.bool false))))⟩, ⟨none, (.pick 40 (.t 26) (.c (.imm true (.bool true))) (.t 39))⟩] none (some ([1, 2, 3, 40], [2, 3]))
def w86_1 := @awpR_no Try.prog Q σ r86_1 _ _ ⟨rfl, rfl⟩
def r86_2 : MC := .reg [⟨none, (.build 41 z2 [])⟩, ⟨none, (.build 42 z2 [])⟩, ⟨none, (.store (.t 2) (.t 41) 2)⟩, ⟨none, (.store (.t 3) (.t 42) 2)⟩, ⟨none, (.mv 4 (.c (.imm true (.bool false))))⟩] none (some ([2, 3, 4], [2, 3]))
def w86_2 := @awpR_no Try.prog Q σ r86_2 _ _ ⟨rfl, rfl⟩
def r86_3 : MC := .reg [⟨none, (.build 43 z2 [(0, (1, (.c (.imm true (.int .i8 0)))))])⟩, ⟨none, (.alloc 5 z2)⟩, ⟨none, (.store (.t 5) (.t 43) 2)⟩] none (some ([1, 2, 3, 5], [2, 3, 5]))
def w86_3 := @awpR_get Try.prog Q σ r86_3 _ _ [5] ⟨rfl, rfl⟩
def r86_4 : MC := .reg [⟨none, (.fad 44 (.t 1) 0)⟩, ⟨none, (.load 45 (.t 44) none)⟩, ⟨none, (.call (some 46) (.c (.fn 112 [])) [(.t 45)])⟩, ⟨none, (.mv 47 (.t 46))⟩, ⟨(some (47, true)), (.fad 48 (.t 1) 7)⟩, ⟨(some (47, true)), (.load 49 (.t 48) none)⟩, ⟨(some (47, true)), (.len 50 (.t 49))⟩, ⟨(some (47, true)), (.bin 51 .neq (.t 50) (.c (.imm true (.int .i64 0))))⟩, ⟨none, (.pick 52 (.t 47) (.t 51) (.c (.imm true (.bool false))))⟩, ⟨none, (.mv 53 (.t 52))⟩, ⟨(some (53, false)), (.fad 54 (.t 1) 0)⟩, ⟨(some (53, false)), (.load 55 (.t 54) none)⟩, ⟨(some (53, false)), (.call (some 56) (.c (.fn 112 [])) [(.t 55)])⟩, ⟨(some (53, false)), (.un 57 .not (.t 56))⟩, ⟨(some (53, false)), (.mv 58 (.t 57))⟩, ⟨(some (58, true)), (.fad 59 (.t 1) 7)⟩, ⟨(some (58, true)), (.load 60 (.t 59) none)⟩, ⟨(some (58, true)), (.len 61 (.t 60))⟩, ⟨(some (58, true)), (.bin 62 .neq (.t 61) (.c (.imm true (.int .i64 2))))⟩, ⟨(some (53, false)), (.pick 63 (.t 58) (.t 62) (.c (.imm true (.bool false))))⟩, ⟨none, (.pick 64 (.t 53) (.c (.imm true (.bool true))) (.t 63))⟩] none (some ([1, 2, 3, 5, 64], [2, 3, 5]))
def w86_4 := @awpR_no Try.prog Q σ r86_4 _ _ ⟨rfl, rfl⟩
def r86_5 : MC := .reg [⟨none, (.load 65 (.t 5) (some 2))⟩, ⟨none, (.load 66 (.t 5) (some 2))⟩, ⟨none, (.store (.t 2) (.t 65) 2)⟩, ⟨none, (.store (.t 3) (.t 66) 2)⟩, ⟨none, (.mv 4 (.c (.imm true (.bool false))))⟩] (some [(1, 2)]) (some ([2, 3, 4], [2, 3]))
def w86_5 := @awpD_no Try.prog Q σ r86_5 _ _ _ ⟨rfl, rfl⟩
def r86_6 : MC := .reg [⟨none, (.fad 67 (.t 1) 0)⟩, ⟨none, (.load 68 (.t 67) none)⟩] none (some ([1, 2, 3, 5, 68], [2, 3, 5]))
def w86_6 := @awpR_no Try.prog Q σ r86_6 _ _ ⟨rfl, rfl⟩
def r86_7 : MC := .reg [⟨none, (.bin 70 .eql (.t 68) (.c (.imm true (.int .i8 0))))⟩, ⟨none, (.mv 69 (.t 70))⟩] none (some ([1, 2, 3, 5, 68, 69], [2, 3, 5]))
def w86_7 := @awpR_no Try.prog Q σ r86_7 _ _ ⟨rfl, rfl⟩
def r86_8 : MC := .reg [⟨none, (.fad 71 (.t 1) 1)⟩, ⟨none, (.load 72 (.t 71) (some 2))⟩, ⟨none, (.fad 73 (.t 1) 1)⟩, ⟨none, (.load 74 (.t 73) (some 2))⟩, ⟨none, (.store (.t 2) (.t 72) 2)⟩, ⟨none, (.store (.t 3) (.t 74) 2)⟩, ⟨none, (.mv 4 (.c (.imm true (.bool true))))⟩] (some [(2, 4), (3, 4)]) (some ([2, 3, 4], [2, 3]))
def w86_8 := @awpD_no Try.prog Q σ r86_8 _ _ _ ⟨rfl, rfl⟩
def r86_9 : MC := .reg [⟨none, (.bin 76 .eql (.t 68) (.c (.imm true (.int .i8 1))))⟩, ⟨none, (.mv 75 (.t 76))⟩] none (some ([1, 2, 3, 5, 68, 75], [2, 3, 5]))
def w86_9 := @awpR_no Try.prog Q σ r86_9 _ _ ⟨rfl, rfl⟩
def r86_10 : MC := .reg [⟨none, (.fad 77 (.t 1) 1)⟩, ⟨none, (.load 78 (.t 77) (some 2))⟩, ⟨none, (.fad 79 (.t 1) 3)⟩, ⟨none, (.load 80 (.t 79) (some 2))⟩, ⟨none, (.fad 81 (.t 1) 1)⟩, ⟨none, (.fad 82 (.t 81) 0)⟩, ⟨none, (.load 83 (.t 82) none)⟩, ⟨none, (.bin 84 .neq (.t 83) (.c (.imm true (.int .i8 0))))⟩, ⟨none, (.store (.t 2) (.t 78) 2)⟩, ⟨none, (.store (.t 3) (.t 80) 2)⟩, ⟨none, (.mv 4 (.t 84))⟩] (some [(2, 8), (3, 8), (4, 8), (5, 8), (6, 8), (7, 8), (4, 9), (5, 9), (6, 9), (7, 9)]) (some ([2, 3, 4], [2, 3]))
def w86_10 := @awpD_no Try.prog Q σ r86_10 _ _ _ ⟨rfl, rfl⟩
def r86_11 : MC := .reg [⟨none, (.bin 86 .eql (.t 68) (.c (.imm true (.int .i8 2))))⟩, ⟨none, (.mv 85 (.t 86))⟩] none (some ([1, 2, 3, 5, 68, 85], [2, 3, 5]))
def w86_11 := @awpR_no Try.prog Q σ r86_11 _ _ ⟨rfl, rfl⟩
def r86_12 : MC := .reg [⟨none, (.fad 87 (.t 1) 1)⟩, ⟨none, (.load 88 (.t 87) (some 2))⟩, ⟨none, (.load 89 (.t 5) (some 2))⟩, ⟨none, (.fad 90 (.t 1) 1)⟩, ⟨none, (.load 91 (.t 90) (some 2))⟩, ⟨none, (.call (some 92) (.c (.fn 117 [])) [(.t 91)])⟩, ⟨none, (.store (.t 2) (.t 88) 2)⟩, ⟨none, (.store (.t 3) (.t 89) 2)⟩, ⟨none, (.mv 4 (.t 92))⟩] (some [(2, 6)]) (some ([2, 3, 4], [2, 3]))
def w86_12 := @awpD_no Try.prog Q σ r86_12 _ _ _ ⟨rfl, rfl⟩
def r86_13 : MC := .reg [⟨none, (.bin 94 .eql (.t 68) (.c (.imm true (.int .i8 3))))⟩, ⟨none, (.mv 93 (.t 94))⟩] none (some ([1, 2, 3, 5, 93], [2, 3, 5]))
def w86_13 := @awpR_no Try.prog Q σ r86_13 _ _ ⟨rfl, rfl⟩
def r86_14 : MC := .reg [⟨none, (.load 95 (.t 5) (some 2))⟩, ⟨none, (.fad 96 (.t 1) 1)⟩, ⟨none, (.load 97 (.t 96) (some 2))⟩, ⟨none, (.fad 98 (.t 1) 1)⟩, ⟨none, (.load 99 (.t 98) (some 2))⟩, ⟨none, (.call (some 100) (.c (.fn 117 [])) [(.t 99)])⟩, ⟨none, (.store (.t 2) (.t 95) 2)⟩, ⟨none, (.store (.t 3) (.t 97) 2)⟩, ⟨none, (.mv 4 (.t 100))⟩] (some [(1, 6), (2, 6)]) (some ([2, 3, 4], [2, 3]))
def w86_14 := @awpD_no Try.prog Q σ r86_14 _ _ _ ⟨rfl, rfl⟩
def r86_15 : MC := .reg [⟨none, (.load 101 (.t 1) (some 8))⟩, ⟨none, (.call (some 102) (.c (.fn 118 [])) [(.t 101)])⟩, ⟨none, (.ext 103 (.t 102) 0)⟩, ⟨none, (.ext 104 (.t 102) 1)⟩, ⟨none, (.ext 105 (.t 102) 2)⟩, ⟨none, (.store (.t 2) (.t 103) 2)⟩, ⟨none, (.store (.t 3) (.t 104) 2)⟩, ⟨none, (.mv 4 (.t 105))⟩] none (some ([2, 3, 4], [2, 3]))
def w86_15 := @awpR_no Try.prog Q σ r86_15 _ _ ⟨rfl, rfl⟩
def my86 : MC := (.seq r86_0 (.seq (.seq r86_1 (.cond (.t 40) (.seq r86_2 .ret) .skip)) (.seq r86_3 (.seq (.seq r86_4 (.cond (.t 64) (.seq r86_5 .ret) .skip)) (.seq (.seq r86_6 (.block 0 (.seq r86_7 (.cond (.t 69) (.seq r86_8 .ret) (.seq r86_9 (.cond (.t 75) (.seq r86_10 .ret) (.seq r86_11 (.cond (.t 85) (.seq r86_12 .ret) (.seq r86_13 (.cond (.t 93) (.seq r86_14 .ret) .skip)))))))))) (.seq r86_15 .ret))))))
theorem my86_is : trC Try.prog ⟨[1], []⟩ ⟨[(5, [[], [], [0], [0, 1, 2], [0, 1, 2, 3]], [(1, 2)]), (8, [[], [0], [], [2], [0, 1], [0, 1, 2, 3, 4], [0, 1, 2, 3, 4, 5]], [(2, 4), (3, 4)]), (10, [[], [0], [], [2], [], [4], [4, 5], [4, 5, 6], [0, 1], [0, 1, 2, 3, 8], [0, 1, 2, 3, 4, 5, 6, 7, 8, 9]], [(2, 8), (3, 8), (4, 8), (5, 8), (6, 8), (7, 8), (4, 9), (5, 9), (6, 9), (7, 9)]), (12, [[], [0], [], [], [3], [3, 4], [0, 1, 3, 4, 5], [0, 1, 2, 3, 4, 5, 6], [0, 1, 2, 3, 4, 5, 6, 7]], [(2, 6)]), (14, [[], [], [1], [], [3], [3, 4], [0, 3, 4, 5], [0, 1, 2, 3, 4, 5, 6], [0, 1, 2, 3, 4, 5, 6, 7]], [(1, 6), (2, 6)])],
  [(0, [1, 2, 3], [2, 3]), (1, [1, 2, 3, 40], [2, 3]), (2, [2, 3, 4], [2, 3]), (3, [1, 2, 3, 5], [2, 3, 5]), (4, [1, 2, 3, 5, 64], [2, 3, 5]), (5, [2, 3, 4], [2, 3]), (6, [1, 2, 3, 5, 68], [2, 3, 5]), (7, [1, 2, 3, 5, 68, 69], [2, 3, 5]), (8, [2, 3, 4], [2, 3]), (9, [1, 2, 3, 5, 68, 75], [2, 3, 5]), (10, [2, 3, 4], [2, 3]), (11, [1, 2, 3, 5, 68, 85], [2, 3, 5]), (12, [2, 3, 4], [2, 3]), (13, [1, 2, 3, 5, 93], [2, 3, 5]), (14, [2, 3, 4], [2, 3]), (15, [2, 3, 4], [2, 3])]⟩ 106 (Try.f86.body.getD .skip) = some my86 := by kernel_rfl
theorem does86 {args : List LV} (hl : args.length.ble 106 = true) {S S' : List (List LV)} (hS : S'.length = S.length) {o : Out} (h : Lt ⟨numE 0 args, argS 0 S, []⟩ (awp Try.prog my86 (Fin [(.c 2 (some 2)), (.c 3 (some 2)), (.t 4)] o S'))) : Does Try.prog 86 args S o S' :=
  does_of_awp mixed Try.func86 (by kernel_rfl) (by kernel_rfl) my86_is (by kernel_rfl) (Nat.le_of_ble_eq_true hl) hS h
attribute [go_sem ↓] w86_0 w86_1 w86_2 w86_3 w86_4 w86_5 w86_6 w86_7 w86_8 w86_9 w86_10 w86_11 w86_12 w86_13 w86_14 w86_15
attribute [go_sem] my86
/-! ### 56: lychgate/lychgateref15.Check -/
def r56_0 : MC := .reg [⟨none, (.boxc 1 (.t 0))⟩, ⟨none, (.alloc 2 z2)⟩, ⟨none, (.alloc 3 z2)⟩, ⟨none, (.mv 4 (.c (.imm true (.int .i64 0))))⟩] none (some ([1, 2, 3], [2, 3]))
def w56_0 := @awpR_get Try.prog Q σ r56_0 _ _ [2, 3] ⟨rfl, rfl⟩
def r56_1 : MC := .reg [⟨none, (.load 10 (.t 1) (some 8))⟩, ⟨none, (.call (some 11) (.c (.fn 84 [])) [(.t 10), (.c (.imm true (.int .i64 0)))])⟩, ⟨none, (.bin 12 .gtr (.t 11) (.c (.imm true (.int .i64 8192))))⟩] none (some ([1, 2, 3, 12], [2, 3]))
def w56_1 := @awpR_no Try.prog Q σ r56_1 _ _ ⟨rfl, rfl⟩
def r56_2 : MC := .reg [⟨none, (.build 13 z2 [])⟩, ⟨none, (.build 14 z2 [])⟩, ⟨none, (.store (.t 2) (.t 13) 2)⟩, ⟨none, (.store (.t 3) (.t 14) 2)⟩, ⟨none, (.mv 4 (.c (.imm true (.int .i64 32))))⟩] none (some ([2, 3, 4], [2, 3]))
def w56_2 := @awpR_no Try.prog Q σ r56_2 _ _ ⟨rfl, rfl⟩
def r56_3 : MC := .reg [⟨none, (.load 15 (.t 1) (some 8))⟩, ⟨none, (.call (some 16) (.c (.fn 85 [])) [(.t 15), (.c (.imm true (.int .i64 201)))])⟩, ⟨none, (.bin 17 .gtr (.t 16) (.c (.imm true (.int .i64 200))))⟩] none (some ([1, 2, 3, 17], [2, 3]))
def w56_3 := @awpR_no Try.prog Q σ r56_3 _ _ ⟨rfl, rfl⟩
def r56_4 : MC := .reg [⟨none, (.build 18 z2 [])⟩, ⟨none, (.build 19 z2 [])⟩, ⟨none, (.store (.t 2) (.t 18) 2)⟩, ⟨none, (.store (.t 3) (.t 19) 2)⟩, ⟨none, (.mv 4 (.c (.imm true (.int .i64 31))))⟩] none (some ([2, 3, 4], [2, 3]))
def w56_4 := @awpR_no Try.prog Q σ r56_4 _ _ ⟨rfl, rfl⟩
def r56_5 : MC := .reg [⟨none, (.load 21 (.t 1) (some 8))⟩, ⟨none, (.call (some 22) (.c (.fn 86 [])) [(.t 21)])⟩, ⟨none, (.mv 20 (.t 22))⟩, ⟨none, (.ext 23 (.t 20) 0)⟩, ⟨none, (.ext 24 (.t 20) 1)⟩, ⟨none, (.ext 25 (.t 20) 2)⟩, ⟨none, (.alloc 5 z2)⟩, ⟨none, (.alloc 6 z2)⟩, ⟨none, (.store (.t 5) (.t 23) 2)⟩, ⟨none, (.store (.t 6) (.t 24) 2)⟩, ⟨none, (.mv 7 (.t 25))⟩] none (some ([2, 3, 5, 6, 7], [2, 3, 5, 6]))
def w56_5 := @awpR_get Try.prog Q σ r56_5 _ _ [5, 6] ⟨rfl, rfl⟩
def r56_6 : MC := .reg [⟨none, (.mv 26 (.t 7))⟩, ⟨none, (.un 27 .not (.t 26))⟩] none (some ([2, 3, 5, 6, 27], [2, 3, 5, 6]))
def w56_6 := @awpR_no Try.prog Q σ r56_6 _ _ ⟨rfl, rfl⟩
def r56_7 : MC := .reg [⟨none, (.build 28 z2 [])⟩, ⟨none, (.build 29 z2 [])⟩, ⟨none, (.store (.t 2) (.t 28) 2)⟩, ⟨none, (.store (.t 3) (.t 29) 2)⟩, ⟨none, (.mv 4 (.c (.imm true (.int .i64 150))))⟩] none (some ([2, 3, 4], [2, 3]))
def w56_7 := @awpR_no Try.prog Q σ r56_7 _ _ ⟨rfl, rfl⟩
def r56_8 : MC := .reg [⟨none, (.load 30 (.t 5) (some 2))⟩, ⟨none, (.call (some 31) (.c (.fn 87 [])) [(.t 30)])⟩, ⟨none, (.mv 8 (.t 31))⟩] none (some ([2, 3, 5, 6, 8], [2, 3, 5, 6]))
def w56_8 := @awpR_no Try.prog Q σ r56_8 _ _ ⟨rfl, rfl⟩
def r56_9 : MC := .reg [⟨none, (.mv 32 (.t 8))⟩, ⟨none, (.bin 33 .neq (.t 32) (.c (.imm true (.int .i64 0))))⟩] none (some ([2, 3, 5, 6, 8, 33], [2, 3, 5, 6]))
def w56_9 := @awpR_no Try.prog Q σ r56_9 _ _ ⟨rfl, rfl⟩
def r56_10 : MC := .reg [⟨none, (.build 34 z2 [])⟩, ⟨none, (.build 35 z2 [])⟩, ⟨none, (.mv 36 (.t 8))⟩, ⟨none, (.store (.t 2) (.t 34) 2)⟩, ⟨none, (.store (.t 3) (.t 35) 2)⟩, ⟨none, (.mv 4 (.t 36))⟩] none (some ([2, 3, 4], [2, 3]))
def w56_10 := @awpR_no Try.prog Q σ r56_10 _ _ ⟨rfl, rfl⟩
def r56_11 : MC := .reg [⟨none, (.load 37 (.t 6) (some 2))⟩, ⟨none, (.call (some 38) (.c (.fn 87 [])) [(.t 37)])⟩, ⟨none, (.mv 9 (.t 38))⟩] none (some ([2, 3, 5, 6, 9], [2, 3, 5, 6]))
def w56_11 := @awpR_no Try.prog Q σ r56_11 _ _ ⟨rfl, rfl⟩
def r56_12 : MC := .reg [⟨none, (.mv 39 (.t 9))⟩, ⟨none, (.bin 40 .neq (.t 39) (.c (.imm true (.int .i64 0))))⟩] none (some ([2, 3, 5, 6, 9, 40], [2, 3, 5, 6]))
def w56_12 := @awpR_no Try.prog Q σ r56_12 _ _ ⟨rfl, rfl⟩
def r56_13 : MC := .reg [⟨none, (.build 41 z2 [])⟩, ⟨none, (.build 42 z2 [])⟩, ⟨none, (.mv 43 (.t 9))⟩, ⟨none, (.store (.t 2) (.t 41) 2)⟩, ⟨none, (.store (.t 3) (.t 42) 2)⟩, ⟨none, (.mv 4 (.t 43))⟩] none (some ([2, 3, 4], [2, 3]))
def w56_13 := @awpR_no Try.prog Q σ r56_13 _ _ ⟨rfl, rfl⟩
def r56_14 : MC := .reg [⟨none, (.load 44 (.t 5) (some 2))⟩, ⟨none, (.load 45 (.t 6) (some 2))⟩, ⟨none, (.store (.t 2) (.t 44) 2)⟩, ⟨none, (.store (.t 3) (.t 45) 2)⟩, ⟨none, (.mv 4 (.c (.imm true (.int .i64 0))))⟩] (some [(1, 2)]) (some ([2, 3, 4], [2, 3]))
def w56_14 := @awpD_no Try.prog Q σ r56_14 _ _ _ ⟨rfl, rfl⟩
def my56 : MC := (.seq r56_0 (.seq (.seq r56_1 (.cond (.t 12) (.seq r56_2 .ret) .skip)) (.seq (.seq r56_3 (.cond (.t 17) (.seq r56_4 .ret) .skip)) (.seq r56_5 (.seq (.seq r56_6 (.cond (.t 27) (.seq r56_7 .ret) .skip)) (.seq (.seq r56_8 (.seq r56_9 (.cond (.t 33) (.seq r56_10 .ret) .skip))) (.seq (.seq r56_11 (.seq r56_12 (.cond (.t 40) (.seq r56_13 .ret) .skip))) (.seq r56_14 .ret))))))))
theorem my56_is : trC Try.prog ⟨[1], []⟩ ⟨[(14, [[], [], [0], [0, 1, 2], [0, 1, 2, 3]], [(1, 2)])],
  [(0, [1, 2, 3], [2, 3]), (1, [1, 2, 3, 12], [2, 3]), (2, [2, 3, 4], [2, 3]), (3, [1, 2, 3, 17], [2, 3]), (4, [2, 3, 4], [2, 3]), (5, [2, 3, 5, 6, 7], [2, 3, 5, 6]), (6, [2, 3, 5, 6, 27], [2, 3, 5, 6]), (7, [2, 3, 4], [2, 3]), (8, [2, 3, 5, 6, 8], [2, 3, 5, 6]), (9, [2, 3, 5, 6, 8, 33], [2, 3, 5, 6]), (10, [2, 3, 4], [2, 3]), (11, [2, 3, 5, 6, 9], [2, 3, 5, 6]), (12, [2, 3, 5, 6, 9, 40], [2, 3, 5, 6]), (13, [2, 3, 4], [2, 3]), (14, [2, 3, 4], [2, 3])]⟩ 46 (Try.f56.body.getD .skip) = some my56 := by kernel_rfl
theorem does56 {args : List LV} (hl : args.length.ble 46 = true) {S S' : List (List LV)} (hS : S'.length = S.length) {o : Out} (h : Lt ⟨numE 0 args, argS 0 S, []⟩ (awp Try.prog my56 (Fin [(.c 2 (some 2)), (.c 3 (some 2)), (.t 4)] o S'))) : Does Try.prog 56 args S o S' :=
  does_of_awp mixed Try.func56 (by kernel_rfl) (by kernel_rfl) my56_is (by kernel_rfl) (Nat.le_of_ble_eq_true hl) hS h
attribute [go_sem ↓] w56_0 w56_1 w56_2 w56_3 w56_4 w56_5 w56_6 w56_7 w56_8 w56_9 w56_10 w56_11 w56_12 w56_13 w56_14
attribute [go_sem] my56
/-! ### 90: lychgate/lychgateref15.Seq -/
def r90_0 : MC := .reg [⟨none, (.boxc 2 (.t 0))⟩, ⟨none, (.boxc 3 (.t 1))⟩, ⟨none, (.alloc 4 z8)⟩] none (some ([2, 3, 4], [4]))
def w90_0 := @awpR_get Try.prog Q σ r90_0 _ _ [4] ⟨rfl, rfl⟩
def r90_1 : MC := .reg [⟨none, (.load 5 (.t 2) (some 8))⟩, ⟨none, (.load 6 (.t 3) (some 8))⟩, ⟨none, (.lit 7 8 [(.t 5), (.t 6)])⟩, ⟨none, (.build 8 z8 [(0, (1, (.c (.imm true (.int .i8 7))))), (7, (1, (.t 7)))])⟩, ⟨none, (.store (.t 4) (.t 8) 8)⟩] none (some ([4], [4]))
def w90_1 := @awpR_no Try.prog Q σ r90_1 _ _ ⟨rfl, rfl⟩
def my90 : MC := (.seq r90_0 (.seq r90_1 .ret))
theorem my90_is : trC Try.prog ⟨[2, 3], []⟩ ⟨[],
  [(0, [2, 3, 4], [4]), (1, [4], [4])]⟩ 9 (Try.f90.body.getD .skip) = some my90 := by kernel_rfl
theorem does90 {args : List LV} (hl : args.length.ble 9 = true) {S S' : List (List LV)} (hS : S'.length = S.length) {o : Out} (h : Lt ⟨numE 0 args, argS 0 S, []⟩ (awp Try.prog my90 (Fin [(.c 4 (some 8))] o S'))) : Does Try.prog 90 args S o S' :=
  does_of_awp mixed Try.func90 (by kernel_rfl) (by kernel_rfl) my90_is (by kernel_rfl) (Nat.le_of_ble_eq_true hl) hS h
attribute [go_sem ↓] w90_0 w90_1
attribute [go_sem] my90
/-! ### 92: lychgate/lychgateref15.Part -/
def r92_0 : MC := .reg [⟨none, (.boxc 4 (.t 1))⟩, ⟨none, (.boxc 5 (.t 2))⟩, ⟨none, (.alloc 6 z8)⟩] none (some ([0, 4, 5, 6], [6]))
def w92_0 := @awpR_get Try.prog Q σ r92_0 _ _ [6] ⟨rfl, rfl⟩
def r92_1 : MC := .reg [⟨none, (.mv 7 (.t 0))⟩, ⟨none, (.load 8 (.t 4) (some 8))⟩, ⟨none, (.load 9 (.t 5) (some 8))⟩, ⟨none, (.lit 10 8 [(.t 8), (.t 9)])⟩, ⟨none, (.build 11 z8 [(0, (1, (.t 7))), (7, (1, (.t 10)))])⟩, ⟨none, (.store (.t 6) (.t 11) 8)⟩] none (some ([6], [6]))
def w92_1 := @awpR_no Try.prog Q σ r92_1 _ _ ⟨rfl, rfl⟩
def my92 : MC := (.seq r92_0 (.seq r92_1 .ret))
theorem my92_is : trC Try.prog ⟨[4, 5], []⟩ ⟨[],
  [(0, [0, 4, 5, 6], [6]), (1, [6], [6])]⟩ 12 (Try.f92.body.getD .skip) = some my92 := by kernel_rfl
theorem does92 {args : List LV} (hl : args.length.ble 12 = true) {S S' : List (List LV)} (hS : S'.length = S.length) {o : Out} (h : Lt ⟨numE 0 args, argS 0 S, []⟩ (awp Try.prog my92 (Fin [(.c 6 (some 8))] o S'))) : Does Try.prog 92 args S o S' :=
  does_of_awp mixed Try.func92 (by kernel_rfl) (by kernel_rfl) my92_is (by kernel_rfl) (Nat.le_of_ble_eq_true hl) hS h
attribute [go_sem ↓] w92_0 w92_1
attribute [go_sem] my92
end Go.Proofs.Ytopgmopdjiahmaa.Lg

/- The document's answer on coercions: counting, depth, ends, the check: it is the program's. Conditions: none; plain lemmas. -/
set_option linter.unusedVariables false
set_option linter.unusedSimpArgs false
set_option maxRecDepth 100000
set_option maxHeartbeats 2000000
namespace Go.Proofs.Ytopgmopdjiahmaa.Lg
open Go Go.RowKit Go.Proofs

theorem leafF_cases (k : Int) : (k = 0 ∨ k = 1 ∨ k = 2 ∨ k = 3) ∧ leafF k = true ∨ (k ≠ 0 ∧ k ≠ 1 ∧ k ≠ 2 ∧ k ≠ 3) ∧ leafF k = false := by
  by_cases h0 : k = 0; · exact .inl ⟨.inl h0, by simp [leafF, h0]⟩
  by_cases h1 : k = 1; · exact .inl ⟨.inr (.inl h1), by simp [leafF, h1]⟩
  by_cases h2 : k = 2; · exact .inl ⟨.inr (.inr (.inl h2)), by simp [leafF, h2]⟩
  by_cases h3 : k = 3; · exact .inl ⟨.inr (.inr (.inr h3)), by simp [leafF, h3]⟩
  exact .inr ⟨⟨h0, h1, h2, h3⟩, by simp [leafF, h0, h1, h2, h3]⟩
theorem rtyped_does (k : Int) : Does Try.prog 112 [.imm false (.int .i8 k)] [] (.ret true (.bool (leafF k))) [] := by
  refine does112 (by rfl) (by rfl) ?_
  rcases leafF_cases k with ⟨rfl | rfl | rfl | rfl, h⟩ | ⟨⟨h0, h1, h2, h3⟩, h⟩
  · (try simp (implicitDefEqProofs := false) only [go_sem, ↓reduceIte, Nat.reduceEqDiff, reduceCtorEq, Nat.reduceAdd, Nat.reduceSub, Nat.reduceLeDiff, Nat.reduceLT, Nat.reduceMul, Int.reduceToNat, Int.reduceLT, Int.reduceLE, show ((0 : Int) == 0) = true from rfl, h])
  · (try simp (implicitDefEqProofs := false) only [go_sem, ↓reduceIte, Nat.reduceEqDiff, reduceCtorEq, Nat.reduceAdd, Nat.reduceSub, Nat.reduceLeDiff, Nat.reduceLT, Nat.reduceMul, Int.reduceToNat, Int.reduceLT, Int.reduceLE, show ((1 : Int) == 0) = false from rfl, show ((1 : Int) == 1) = true from rfl, h])
  · (try simp (implicitDefEqProofs := false) only [go_sem, ↓reduceIte, Nat.reduceEqDiff, reduceCtorEq, Nat.reduceAdd, Nat.reduceSub, Nat.reduceLeDiff, Nat.reduceLT, Nat.reduceMul, Int.reduceToNat, Int.reduceLT, Int.reduceLE, show ((2 : Int) == 0) = false from rfl, show ((2 : Int) == 1) = false from rfl, show ((2 : Int) == 2) = true from rfl, h])
  · (try simp (implicitDefEqProofs := false) only [go_sem, ↓reduceIte, Nat.reduceEqDiff, reduceCtorEq, Nat.reduceAdd, Nat.reduceSub, Nat.reduceLeDiff, Nat.reduceLT, Nat.reduceMul, Int.reduceToNat, Int.reduceLT, Int.reduceLE, show ((3 : Int) == 0) = false from rfl, show ((3 : Int) == 1) = false from rfl, show ((3 : Int) == 2) = false from rfl, show ((3 : Int) == 3) = true from rfl, h])
  · (try simp (implicitDefEqProofs := false) only [go_sem, ↓reduceIte, Nat.reduceEqDiff, reduceCtorEq, Nat.reduceAdd, Nat.reduceSub, Nat.reduceLeDiff, Nat.reduceLT, Nat.reduceMul, Int.reduceToNat, Int.reduceLT, Int.reduceLE, show (k == 0) = false from by simpa using h0, show (k == 1) = false from by simpa using h1, show (k == 2) = false from by simpa using h2, show (k == 3) = false from by simpa using h3, h])
theorem rtoed_does (k : Int) : Does Try.prog 114 [.imm false (.int .i8 k)] [] (.ret true (.bool (k == 1))) [] := by
  refine does114 (by rfl) (by rfl) ?_
  (try simp (implicitDefEqProofs := false) only [go_sem, ↓reduceIte, Nat.reduceEqDiff, reduceCtorEq, Nat.reduceAdd, Nat.reduceSub, Nat.reduceLeDiff, Nat.reduceLT, Nat.reduceMul, Int.reduceToNat, Int.reduceLT, Int.reduceLE])
theorem rlabelled_does (k : Int) : Does Try.prog 116 [.imm false (.int .i8 k)] [] (.ret true (.bool (k == 1 || k == 3))) [] := by
  refine does116 (by rfl) (by rfl) ?_
  cases h : (k == 1) with
  | true => (try simp (implicitDefEqProofs := false) only [go_sem, ↓reduceIte, Nat.reduceEqDiff, reduceCtorEq, Nat.reduceAdd, Nat.reduceSub, Nat.reduceLeDiff, Nat.reduceLT, Nat.reduceMul, Int.reduceToNat, Int.reduceLT, Int.reduceLE, h])
  | false => (try simp (implicitDefEqProofs := false) only [go_sem, ↓reduceIte, Nat.reduceEqDiff, reduceCtorEq, Nat.reduceAdd, Nat.reduceSub, Nat.reduceLeDiff, Nat.reduceLT, Nat.reduceMul, Int.reduceToNat, Int.reduceLT, Int.reduceLE, h])

theorem rccount_does : ∀ c : Cn, c.fits → ∀ n : Int, 0 ≤ n → n ≤ 8192 → Does Try.prog 84 [.imm false (.agg c.cells), .imm false (.int .i64 n)] [] (.ret true (.int .i64 (c.down n))) [] := by
  refine Cn.ind fun k ty to lab neg ks ih hf n hn hn2 => ?_
  have hfl : ks.length ≤ 9223372036854775807 := hf.2.2.1
  have b1 := nodesF_le ty.nodes
  have b2 := nodesF_le to.nodes
  have t1 := rnodes_does ty hf.1
  have t2 := rnodes_does to hf.2.1
  have ty1 := rtyped_does k
  have ty2 := rtoed_does k
  simp only [Ty.cells_eq] at t1 t2
  have loop : ∀ (g : Bool) (n' : Int), n' = n + headN k ty to →
      awp Try.prog (.seq (.seq r84_6 (.block 0 (.loop l84_0))) (.seq r84_10 .ret)) (Fin [MR.t 4] (.ret true (.int .i64 ((Cn.mk k ty to lab neg ks).down n))) []) ⟨[(1, .imm g (.int .i64 n')), (2, .imm false (.ptr (Cn.mk k ty to lab neg ks).cells 0))], [], []⟩ := by
    intro g n' hn'
    have hh := headN_le k ty to
    (try simp (implicitDefEqProofs := false) only [go_sem, ↓reduceIte, Nat.reduceEqDiff, reduceCtorEq, Nat.reduceAdd, Nat.reduceSub, Nat.reduceLeDiff, Nat.reduceLT, Nat.reduceMul, Int.reduceToNat, Int.reduceLT, Int.reduceLE])
    refine ⟨fun m σ => ∃ j f g n', j ≤ ks.length ∧ m = ks.length - j ∧ 0 ≤ n' ∧ n' ≤ 24579 ∧ (Cn.mk k ty to lab neg ks).down n = Cn.downL (ks.drop j) n' ∧ σ = ⟨[(1, .imm g (.int .i64 n')), (2, .imm false (.ptr (Cn.mk k ty to lab neg ks).cells 0)), (5, .imm f (.int .i64 (j : Nat)))], [], []⟩, ⟨_, 0, true, g, n', by omega, rfl, by omega, by omega, by simp [Cn.down, hn'], rfl⟩, ?_⟩
    rintro m σ ⟨j, f, g, n', hj, rfl, h1, h2, hs, rfl⟩
    unfold l84_0
    by_cases hlt : j < ks.length
    · by_cases hle : n' ≤ 8192
      · obtain ⟨c, hm, hat, hdr, _⟩ := Cn.kid hlt
        rw [hdr, Cn.downL, if_neg (by omega)] at hs
        have hb := Cn.down_le c n' (by omega) (by omega)
        have hc := ih _ hm (Cn.fitsL_mem hf.2.2.2.2 _ hm) n' (by omega) (by omega)
        have hlc := Cn.cells_len c
        generalize hcy : c.down n' = y at hs hb hc
        obtain ⟨k2, ty2, to2, lab2, neg2, ks2⟩ := c
        simp only [Cn.cells] at hat hc
        (try simp (implicitDefEqProofs := false) only [go_sem, ↓reduceIte, Nat.reduceEqDiff, reduceCtorEq, Nat.reduceAdd, Nat.reduceSub, Nat.reduceLeDiff, Nat.reduceLT, Nat.reduceMul, Int.reduceToNat, Int.reduceLT, Int.reduceLE, Cn.cells, Cn.cellsL_len, hat, Int.toNat_natCast, Int.natCast_nonneg, show decide ((j : Int) < (ks.length : Int)) = true from by simpa using hlt, decide_eq_true hle])
        refine CallK_do hc ?_
        (try simp (implicitDefEqProofs := false) only [go_sem, ↓reduceIte, Nat.reduceEqDiff, reduceCtorEq, Nat.reduceAdd, Nat.reduceSub, Nat.reduceLeDiff, Nat.reduceLT, Nat.reduceMul, Int.reduceToNat, Int.reduceLT, Int.reduceLE, wrap64 (n := (j : Int) + 1) (by omega) (by omega)])
        exact ⟨_, by omega, j + 1, true, true, _, by omega, rfl, by omega, by omega, hs, rfl⟩
      · rw [Cn.downL_gt _ _ (by omega)] at hs
        (try simp (implicitDefEqProofs := false) only [go_sem, ↓reduceIte, Nat.reduceEqDiff, reduceCtorEq, Nat.reduceAdd, Nat.reduceSub, Nat.reduceLeDiff, Nat.reduceLT, Nat.reduceMul, Int.reduceToNat, Int.reduceLT, Int.reduceLE, Cn.cells, Cn.cellsL_len, show decide ((j : Int) < (ks.length : Int)) = true from by simpa using hlt, decide_eq_false hle])
        simp [hs]
    · have hge : j = ks.length := by omega
      subst hge
      simp only [List.drop_length, Cn.downL] at hs
      (try simp (implicitDefEqProofs := false) only [go_sem, ↓reduceIte, Nat.reduceEqDiff, reduceCtorEq, Nat.reduceAdd, Nat.reduceSub, Nat.reduceLeDiff, Nat.reduceLT, Nat.reduceMul, Int.reduceToNat, Int.reduceLT, Int.reduceLE, Cn.cells, Cn.cellsL_len, show decide ((ks.length : Int) < (ks.length : Int)) = false from by simp])
      simp [hs]
  refine does84 (by rfl) (by rfl) ?_
  (try simp (implicitDefEqProofs := false) only [go_sem, ↓reduceIte, Nat.reduceEqDiff, reduceCtorEq, Nat.reduceAdd, Nat.reduceSub, Nat.reduceLeDiff, Nat.reduceLT, Nat.reduceMul, Int.reduceToNat, Int.reduceLT, Int.reduceLE, Cn.cells, wrap64 (n := n + 1) (by omega) (by omega)])
  refine CallK_do ty1 ?_
  rcases leafF_cases k with ⟨hk, hl⟩ | ⟨hk, hl⟩
  · (try simp (implicitDefEqProofs := false) only [go_sem, ↓reduceIte, Nat.reduceEqDiff, reduceCtorEq, Nat.reduceAdd, Nat.reduceSub, Nat.reduceLeDiff, Nat.reduceLT, Nat.reduceMul, Int.reduceToNat, Int.reduceLT, Int.reduceLE, hl])
    refine CallK_do t1 ?_
    (try simp (implicitDefEqProofs := false) only [go_sem, ↓reduceIte, Nat.reduceEqDiff, reduceCtorEq, Nat.reduceAdd, Nat.reduceSub, Nat.reduceLeDiff, Nat.reduceLT, Nat.reduceMul, Int.reduceToNat, Int.reduceLT, Int.reduceLE, wrap64 (n := n + 1 + nodesF ty.nodes) (by omega) (by omega)])
    refine CallK_do ty2 ?_
    by_cases h1 : k = 1
    · (try simp (implicitDefEqProofs := false) only [go_sem, ↓reduceIte, Nat.reduceEqDiff, reduceCtorEq, Nat.reduceAdd, Nat.reduceSub, Nat.reduceLeDiff, Nat.reduceLT, Nat.reduceMul, Int.reduceToNat, Int.reduceLT, Int.reduceLE, show (k == 1) = true from by simpa using h1])
      refine CallK_do t2 ?_
      have := loop true (n + 1 + nodesF ty.nodes + nodesF to.nodes) (by unfold headN; rw [if_pos hl, if_pos h1]; omega)
      (try simp (implicitDefEqProofs := false) only [go_sem, ↓reduceIte, Nat.reduceEqDiff, reduceCtorEq, Nat.reduceAdd, Nat.reduceSub, Nat.reduceLeDiff, Nat.reduceLT, Nat.reduceMul, Int.reduceToNat, Int.reduceLT, Int.reduceLE, Cn.cells] at this)
      (try simp (implicitDefEqProofs := false) only [go_sem, ↓reduceIte, Nat.reduceEqDiff, reduceCtorEq, Nat.reduceAdd, Nat.reduceSub, Nat.reduceLeDiff, Nat.reduceLT, Nat.reduceMul, Int.reduceToNat, Int.reduceLT, Int.reduceLE, wrap64 (n := n + 1 + nodesF ty.nodes + nodesF to.nodes) (by omega) (by omega)])
      exact this
    · have := loop true (n + 1 + nodesF ty.nodes) (by unfold headN; rw [if_pos hl, if_neg h1]; omega)
      (try simp (implicitDefEqProofs := false) only [go_sem, ↓reduceIte, Nat.reduceEqDiff, reduceCtorEq, Nat.reduceAdd, Nat.reduceSub, Nat.reduceLeDiff, Nat.reduceLT, Nat.reduceMul, Int.reduceToNat, Int.reduceLT, Int.reduceLE, Cn.cells] at this)
      (try simp (implicitDefEqProofs := false) only [go_sem, ↓reduceIte, Nat.reduceEqDiff, reduceCtorEq, Nat.reduceAdd, Nat.reduceSub, Nat.reduceLeDiff, Nat.reduceLT, Nat.reduceMul, Int.reduceToNat, Int.reduceLT, Int.reduceLE, show (k == 1) = false from by simpa using h1])
      exact this
  · (try simp (implicitDefEqProofs := false) only [go_sem, ↓reduceIte, Nat.reduceEqDiff, reduceCtorEq, Nat.reduceAdd, Nat.reduceSub, Nat.reduceLeDiff, Nat.reduceLT, Nat.reduceMul, Int.reduceToNat, Int.reduceLT, Int.reduceLE, hl])
    refine CallK_do ty2 ?_
    have := loop true (n + 1) (by unfold headN; rw [if_neg (by simp [hl]), if_neg hk.2.1]; omega)
    (try simp (implicitDefEqProofs := false) only [go_sem, ↓reduceIte, Nat.reduceEqDiff, reduceCtorEq, Nat.reduceAdd, Nat.reduceSub, Nat.reduceLeDiff, Nat.reduceLT, Nat.reduceMul, Int.reduceToNat, Int.reduceLT, Int.reduceLE, Cn.cells] at this)
    (try simp (implicitDefEqProofs := false) only [go_sem, ↓reduceIte, Nat.reduceEqDiff, reduceCtorEq, Nat.reduceAdd, Nat.reduceSub, Nat.reduceLeDiff, Nat.reduceLT, Nat.reduceMul, Int.reduceToNat, Int.reduceLT, Int.reduceLE, show (k == 1) = false from by simpa using hk.2.1])
    exact this

theorem rcdeep_does : ∀ c : Cn, c.fits → ∀ n : Int, 1 ≤ n → n ≤ 201 → Does Try.prog 85 [.imm false (.agg c.cells), .imm false (.int .i64 n)] [] (.ret true (.int .i64 (c.deep n))) [] := by
  refine Cn.ind fun k ty to lab neg ks ih hf n hn hn2 => ?_
  have hfl : ks.length ≤ 9223372036854775807 := hf.2.2.1
  have b1 := depth_le ty
  have b2 := depth_le to
  have t1 := rdepth_does ty hf.1
  have t2 := rdepth_does to hf.2.1
  have ty1 := rtyped_does k
  have ty2 := rtoed_does k
  simp only [Ty.cells_eq] at t1 t2
  refine does85 (by rfl) (by rfl) ?_
  by_cases h1 : n ≤ 1
  · have : n = 1 := by omega
    (try simp (implicitDefEqProofs := false) only [go_sem, ↓reduceIte, Nat.reduceEqDiff, reduceCtorEq, Nat.reduceAdd, Nat.reduceSub, Nat.reduceLeDiff, Nat.reduceLT, Nat.reduceMul, Int.reduceToNat, Int.reduceLT, Int.reduceLE, Cn.cells, decide_eq_true h1])
    simp [Cn.deep, this]
  have e0 : (Cn.mk k ty to lab neg ks).deep n = minI (Cn.deepL ks (n - 1) (deep0 k ty to) + 1) n := by simp only [Cn.deep, if_neg (show ¬ n = 1 by omega)]
  have hd0 := deep0_le k ty to
  have loop : ∀ (g : Bool) (d : Int), d = deep0 k ty to →
      awp Try.prog (.seq (.seq r85_8 (.block 0 (.loop l85_0))) (.seq r85_12 .ret)) (Fin [MR.t 4] (.ret true (.int .i64 ((Cn.mk k ty to lab neg ks).deep n))) []) ⟨[(1, .imm false (.int .i64 n)), (2, .imm false (.ptr (Cn.mk k ty to lab neg ks).cells 0)), (5, .imm g (.int .i64 d))], [], []⟩ := by
    intro g d hd
    (try simp (implicitDefEqProofs := false) only [go_sem, ↓reduceIte, Nat.reduceEqDiff, reduceCtorEq, Nat.reduceAdd, Nat.reduceSub, Nat.reduceLeDiff, Nat.reduceLT, Nat.reduceMul, Int.reduceToNat, Int.reduceLT, Int.reduceLE])
    refine ⟨fun m σ => ∃ j f g d, j ≤ ks.length ∧ m = ks.length - j ∧ 0 ≤ d ∧ d ≤ 201 ∧ Cn.deepL ks (n - 1) (deep0 k ty to) = Cn.deepL (ks.drop j) (n - 1) d ∧ σ = ⟨[(1, .imm false (.int .i64 n)), (2, .imm false (.ptr (Cn.mk k ty to lab neg ks).cells 0)), (5, .imm g (.int .i64 d)), (6, .imm f (.int .i64 (j : Nat)))], [], []⟩, ⟨_, 0, true, g, d, by omega, rfl, by omega, by omega, by rw [hd]; rfl, rfl⟩, ?_⟩
    rintro m σ ⟨j, f, g, d, hj, rfl, h1, h2, hs, rfl⟩
    unfold l85_0
    by_cases hlt : j < ks.length
    · obtain ⟨c, hm, hat, hdr, _⟩ := Cn.kid hlt
      rw [hdr, Cn.deepL] at hs
      have hb := Cn.deep_le c (n - 1) (by omega) (by omega)
      have hc := ih _ hm (Cn.fitsL_mem hf.2.2.2.2 _ hm) (n - 1) (by omega) (by omega)
      have hlc := Cn.cells_len c
      generalize hcy : c.deep (n - 1) = y at hs hb hc
      obtain ⟨k2, ty2, to2, lab2, neg2, ks2⟩ := c
      simp only [Cn.cells] at hat hc
      (try simp (implicitDefEqProofs := false) only [go_sem, ↓reduceIte, Nat.reduceEqDiff, reduceCtorEq, Nat.reduceAdd, Nat.reduceSub, Nat.reduceLeDiff, Nat.reduceLT, Nat.reduceMul, Int.reduceToNat, Int.reduceLT, Int.reduceLE, Cn.cells, Cn.cellsL_len, hat, Int.toNat_natCast, Int.natCast_nonneg, show decide ((j : Int) < (ks.length : Int)) = true from by simpa using hlt, wrap64 (n := n - 1) (by omega) (by omega)])
      refine CallK_do hc ?_
      (try simp (implicitDefEqProofs := false) only [go_sem, ↓reduceIte, Nat.reduceEqDiff, reduceCtorEq, Nat.reduceAdd, Nat.reduceSub, Nat.reduceLeDiff, Nat.reduceLT, Nat.reduceMul, Int.reduceToNat, Int.reduceLT, Int.reduceLE, wrap64 (n := (j : Int) + 1) (by omega) (by omega)])
      exact ⟨_, by omega, j + 1, true, true, maxI d y, by omega, rfl, by have := le_maxI (a := d) (b := y); omega, by exact maxI_le (by omega) (by omega), hs, rfl⟩
    · have hge : j = ks.length := by omega
      subst hge
      simp only [List.drop_length, Cn.deepL] at hs
      (try simp (implicitDefEqProofs := false) only [go_sem, ↓reduceIte, Nat.reduceEqDiff, reduceCtorEq, Nat.reduceAdd, Nat.reduceSub, Nat.reduceLeDiff, Nat.reduceLT, Nat.reduceMul, Int.reduceToNat, Int.reduceLT, Int.reduceLE, Cn.cells, Cn.cellsL_len, show decide ((ks.length : Int) < (ks.length : Int)) = false from by simp, wrap64 (n := 1 + d) (by omega) (by omega)])
      rw [e0, hs]
      simp [minI, Int.add_comm]
  (try simp (implicitDefEqProofs := false) only [go_sem, ↓reduceIte, Nat.reduceEqDiff, reduceCtorEq, Nat.reduceAdd, Nat.reduceSub, Nat.reduceLeDiff, Nat.reduceLT, Nat.reduceMul, Int.reduceToNat, Int.reduceLT, Int.reduceLE, Cn.cells, decide_eq_false h1])
  refine CallK_do ty1 ?_
  rcases leafF_cases k with ⟨hk, hl⟩ | ⟨hk, hl⟩
  · (try simp (implicitDefEqProofs := false) only [go_sem, ↓reduceIte, Nat.reduceEqDiff, reduceCtorEq, Nat.reduceAdd, Nat.reduceSub, Nat.reduceLeDiff, Nat.reduceLT, Nat.reduceMul, Int.reduceToNat, Int.reduceLT, Int.reduceLE, hl])
    refine CallK_do t1 ?_
    have e1 : (if ty.depth > 0 then ty.depth else 0) = ty.depth := by split <;> omega
    (try simp (implicitDefEqProofs := false) only [go_sem, ↓reduceIte, Nat.reduceEqDiff, reduceCtorEq, Nat.reduceAdd, Nat.reduceSub, Nat.reduceLeDiff, Nat.reduceLT, Nat.reduceMul, Int.reduceToNat, Int.reduceLT, Int.reduceLE, e1])
    refine CallK_do ty2 ?_
    by_cases h1 : k = 1
    · (try simp (implicitDefEqProofs := false) only [go_sem, ↓reduceIte, Nat.reduceEqDiff, reduceCtorEq, Nat.reduceAdd, Nat.reduceSub, Nat.reduceLeDiff, Nat.reduceLT, Nat.reduceMul, Int.reduceToNat, Int.reduceLT, Int.reduceLE, show (k == 1) = true from by simpa using h1])
      refine CallK_do t2 ?_
      have := loop true (if to.depth > ty.depth then to.depth else ty.depth) (by unfold deep0 maxI; rw [if_pos h1])
      (try simp (implicitDefEqProofs := false) only [go_sem, ↓reduceIte, Nat.reduceEqDiff, reduceCtorEq, Nat.reduceAdd, Nat.reduceSub, Nat.reduceLeDiff, Nat.reduceLT, Nat.reduceMul, Int.reduceToNat, Int.reduceLT, Int.reduceLE, Cn.cells] at this)
      (try simp (implicitDefEqProofs := false) only [go_sem, ↓reduceIte, Nat.reduceEqDiff, reduceCtorEq, Nat.reduceAdd, Nat.reduceSub, Nat.reduceLeDiff, Nat.reduceLT, Nat.reduceMul, Int.reduceToNat, Int.reduceLT, Int.reduceLE])
      exact this
    · have := loop true ty.depth (by unfold deep0; rw [if_neg h1, if_pos hl])
      (try simp (implicitDefEqProofs := false) only [go_sem, ↓reduceIte, Nat.reduceEqDiff, reduceCtorEq, Nat.reduceAdd, Nat.reduceSub, Nat.reduceLeDiff, Nat.reduceLT, Nat.reduceMul, Int.reduceToNat, Int.reduceLT, Int.reduceLE, Cn.cells] at this)
      (try simp (implicitDefEqProofs := false) only [go_sem, ↓reduceIte, Nat.reduceEqDiff, reduceCtorEq, Nat.reduceAdd, Nat.reduceSub, Nat.reduceLeDiff, Nat.reduceLT, Nat.reduceMul, Int.reduceToNat, Int.reduceLT, Int.reduceLE, show (k == 1) = false from by simpa using h1])
      exact this
  · (try simp (implicitDefEqProofs := false) only [go_sem, ↓reduceIte, Nat.reduceEqDiff, reduceCtorEq, Nat.reduceAdd, Nat.reduceSub, Nat.reduceLeDiff, Nat.reduceLT, Nat.reduceMul, Int.reduceToNat, Int.reduceLT, Int.reduceLE, hl])
    refine CallK_do ty2 ?_
    have := loop true 0 (by unfold deep0; rw [if_neg hk.2.1, if_neg (by simp [hl])])
    (try simp (implicitDefEqProofs := false) only [go_sem, ↓reduceIte, Nat.reduceEqDiff, reduceCtorEq, Nat.reduceAdd, Nat.reduceSub, Nat.reduceLeDiff, Nat.reduceLT, Nat.reduceMul, Int.reduceToNat, Int.reduceLT, Int.reduceLE, Cn.cells] at this)
    (try simp (implicitDefEqProofs := false) only [go_sem, ↓reduceIte, Nat.reduceEqDiff, reduceCtorEq, Nat.reduceAdd, Nat.reduceSub, Nat.reduceLeDiff, Nat.reduceLT, Nat.reduceMul, Int.reduceToNat, Int.reduceLT, Int.reduceLE, show (k == 1) = false from by simpa using hk.2.1])
    exact this

/-! ### the ends -/
theorem risG_does (t : Ty) (hf : t.fits) : Does Try.prog 117 [.imm false (.agg t.cells)] [] (.ret true (.bool t.isG)) [] := by
  have c := rcheck_does t hf
  have hg := rground_does t hf
  have hs := rsame_does t t.ground.1 hf (ground_fits t)
  have e : t.isG = (t.ground.2 && t.same t.ground.1) := rfl
  have hg2 : t.ground.2 = true ↔ t.check = 0 ∧ t.k ≠ 0 := by
    unfold Ty.ground
    split
    · rename_i h; simp; rcases h with h | h <;> simp [h]
    · rename_i h; simp at h ⊢; exact h
  rw [e]
  generalize t.ground = g at hg hs hg2
  obtain ⟨g, b⟩ := g
  simp only at hg2
  rw [Ty.cells_eq] at c hg hs ⊢
  simp only [Ty.cells_eq g] at hg hs
  refine does117 (by rfl) (by rfl) ?_
  (try simp (implicitDefEqProofs := false) only [go_sem, ↓reduceIte, Nat.reduceEqDiff, reduceCtorEq, Nat.reduceAdd, Nat.reduceSub, Nat.reduceLeDiff, Nat.reduceLT, Nat.reduceMul, Int.reduceToNat, Int.reduceLT, Int.reduceLE])
  refine CallK_do c ?_
  by_cases h1 : t.check = 0
  · by_cases h2 : t.k = 0
    · (try simp (implicitDefEqProofs := false) only [go_sem, ↓reduceIte, Nat.reduceEqDiff, reduceCtorEq, Nat.reduceAdd, Nat.reduceSub, Nat.reduceLeDiff, Nat.reduceLT, Nat.reduceMul, Int.reduceToNat, Int.reduceLT, Int.reduceLE, h1, show ((0 : Int) != 0) = false from rfl, show (t.k == 0) = true from by simpa using h2])
      have : b = false := by
        cases b with
        | false => rfl
        | true => exact absurd h2 (hg2.1 rfl).2
      simp [this]
    · have hb : b = true := hg2.2 ⟨h1, h2⟩
      subst hb
      (try simp (implicitDefEqProofs := false) only [go_sem, ↓reduceIte, Nat.reduceEqDiff, reduceCtorEq, Nat.reduceAdd, Nat.reduceSub, Nat.reduceLeDiff, Nat.reduceLT, Nat.reduceMul, Int.reduceToNat, Int.reduceLT, Int.reduceLE, h1, show ((0 : Int) != 0) = false from rfl, show (t.k == 0) = false from by simpa using h2])
      refine CallK_do hg ?_
      (try simp (implicitDefEqProofs := false) only [go_sem, ↓reduceIte, Nat.reduceEqDiff, reduceCtorEq, Nat.reduceAdd, Nat.reduceSub, Nat.reduceLeDiff, Nat.reduceLT, Nat.reduceMul, Int.reduceToNat, Int.reduceLT, Int.reduceLE])
      refine CallK_do hs ?_
      (try simp (implicitDefEqProofs := false) only [go_sem, ↓reduceIte, Nat.reduceEqDiff, reduceCtorEq, Nat.reduceAdd, Nat.reduceSub, Nat.reduceLeDiff, Nat.reduceLT, Nat.reduceMul, Int.reduceToNat, Int.reduceLT, Int.reduceLE])
  · (try simp (implicitDefEqProofs := false) only [go_sem, ↓reduceIte, Nat.reduceEqDiff, reduceCtorEq, Nat.reduceAdd, Nat.reduceSub, Nat.reduceLeDiff, Nat.reduceLT, Nat.reduceMul, Int.reduceToNat, Int.reduceLT, Int.reduceLE, show (t.check != 0) = true from by simpa using h1])
    have : b = false := by
      cases b with
      | false => rfl
      | true => exact absurd (hg2.1 rfl).1 h1
    simp [this]
theorem rpair_does (k : Int) (a b : Ty) : Does Try.prog 135 [.imm false (.int .i8 k), .imm false (.agg a.cells), .imm false (.agg b.cells)] [] (.ret false (.agg (Ty.mk k [a, b]).cells)) [] := by
  rw [Ty.cells_eq a, Ty.cells_eq b]
  refine does135 (by rfl) (by rfl) ?_
  (try simp (implicitDefEqProofs := false) only [go_sem, ↓reduceIte, Nat.reduceEqDiff, reduceCtorEq, Nat.reduceAdd, Nat.reduceSub, Nat.reduceLeDiff, Nat.reduceLT, Nat.reduceMul, Int.reduceToNat, Int.reduceLT, Int.reduceLE])
  simp [Ty.cells_eq, Ty.k, Ty.ts, Ty.cellsL]
theorem rsmall_does (t : Ty) (hf : t.fits) : Does Try.prog 136 [.imm false (.agg t.cells)] [] (.ret true (.bool (t.check == 0))) [] := by
  have c := rcheck_does t hf
  rw [Ty.cells_eq] at c ⊢
  refine does136 (by rfl) (by rfl) ?_
  (try simp (implicitDefEqProofs := false) only [go_sem, ↓reduceIte, Nat.reduceEqDiff, reduceCtorEq, Nat.reduceAdd, Nat.reduceSub, Nat.reduceLeDiff, Nat.reduceLT, Nat.reduceMul, Int.reduceToNat, Int.reduceLT, Int.reduceLE])
  refine CallK_do c ?_
  (try simp (implicitDefEqProofs := false) only [go_sem, ↓reduceIte, Nat.reduceEqDiff, reduceCtorEq, Nat.reduceAdd, Nat.reduceSub, Nat.reduceLeDiff, Nat.reduceLT, Nat.reduceMul, Int.reduceToNat, Int.reduceLT, Int.reduceLE])

def REnd (c : Cn) (e : En) : Prop := Does Try.prog 86 [.imm false (.agg c.cells)] [] (.ret false (enV e)) []
theorem rparts_two {k : Int} {ty to : Ty} {lab : Int} {neg : Bool} {a b : Cn} {e f : En} (ha : REnd a e) (hb : REnd b f) (hfa : e.2.2 = true → e.2.1.fits) (hfb : f.2.2 = true → f.1.fits) :
    Does Try.prog 118 [.imm false (.agg (Cn.mk k ty to lab neg [a, b]).cells)] [] (.ret false (enV (partsE k e f))) [] := by
  unfold REnd at ha hb
  obtain ⟨e1, e2, e3⟩ := e
  obtain ⟨f1, f2, f3⟩ := f
  simp only at hfa hfb
  have hs : e3 = true → f3 = true → _ := fun h h' => rsame_does e2 f1 (hfa h) (hfb h')
  have hm1 : e3 = true → _ := fun h => rsmall_does e2 (hfa h)
  have hm2 : f3 = true → _ := fun h => rsmall_does f1 (hfb h)
  obtain ⟨k1, ty1, to1, lab1, neg1, ks1⟩ := a
  obtain ⟨k2, ty2, to2, lab2, neg2, ks2⟩ := b
  have h2 := rpair_does 3 e2 f1
  have h3 := rpair_does 3 e1 f2
  have h4 := rpair_does 4 e1 f1
  have h5 := rpair_does 4 e2 f2
  have h6 := rpair_does 5 e1 f1
  have h7 := rpair_does 5 e2 f2
  simp only [enV, Ty.cells_eq, Cn.cells, Ty.k_mk, Ty.ts_mk, Ty.cellsL] at ha hb hs hm1 hm2 h2 h3 h4 h5 h6 h7
  refine does118 (by rfl) (by rfl) ?_
  (try simp (implicitDefEqProofs := false) only [go_sem, ↓reduceIte, Nat.reduceEqDiff, reduceCtorEq, Nat.reduceAdd, Nat.reduceSub, Nat.reduceLeDiff, Nat.reduceLT, Nat.reduceMul, Int.reduceToNat, Int.reduceLT, Int.reduceLE, Cn.cells, Cn.cellsL])
  refine CallK_do ha ?_
  (try simp (implicitDefEqProofs := false) only [go_sem, ↓reduceIte, Nat.reduceEqDiff, reduceCtorEq, Nat.reduceAdd, Nat.reduceSub, Nat.reduceLeDiff, Nat.reduceLT, Nat.reduceMul, Int.reduceToNat, Int.reduceLT, Int.reduceLE, Cn.cells, Cn.cellsL])
  refine CallK_do hb ?_
  cases e3 with
  | false =>
    (try simp (implicitDefEqProofs := false) only [go_sem, ↓reduceIte, Nat.reduceEqDiff, reduceCtorEq, Nat.reduceAdd, Nat.reduceSub, Nat.reduceLeDiff, Nat.reduceLT, Nat.reduceMul, Int.reduceToNat, Int.reduceLT, Int.reduceLE, Bool.not_false])
    simp [partsE, noE_v]
  | true =>
  cases f3 with
  | false =>
    (try simp (implicitDefEqProofs := false) only [go_sem, ↓reduceIte, Nat.reduceEqDiff, reduceCtorEq, Nat.reduceAdd, Nat.reduceSub, Nat.reduceLeDiff, Nat.reduceLT, Nat.reduceMul, Int.reduceToNat, Int.reduceLT, Int.reduceLE, Bool.not_false, Bool.not_true])
    simp [partsE, noE_v]
  | true =>
  by_cases k4 : k = 4
  · subst k4
    (try simp (implicitDefEqProofs := false) only [go_sem, ↓reduceIte, Nat.reduceEqDiff, reduceCtorEq, Nat.reduceAdd, Nat.reduceSub, Nat.reduceLeDiff, Nat.reduceLT, Nat.reduceMul, Int.reduceToNat, Int.reduceLT, Int.reduceLE, Bool.not_true, show ((4 : Int) == 4) = true from rfl])
    refine CallK_do h2 ?_
    (try simp (implicitDefEqProofs := false) only [go_sem, ↓reduceIte, Nat.reduceEqDiff, reduceCtorEq, Nat.reduceAdd, Nat.reduceSub, Nat.reduceLeDiff, Nat.reduceLT, Nat.reduceMul, Int.reduceToNat, Int.reduceLT, Int.reduceLE])
    refine CallK_do h3 ?_
    (try simp (implicitDefEqProofs := false) only [go_sem, ↓reduceIte, Nat.reduceEqDiff, reduceCtorEq, Nat.reduceAdd, Nat.reduceSub, Nat.reduceLeDiff, Nat.reduceLT, Nat.reduceMul, Int.reduceToNat, Int.reduceLT, Int.reduceLE])
    simp [partsE, enV, Ty.cells_eq, Ty.k, Ty.ts, Ty.cellsL]
  have n4 : (k == 4) = false := by simpa using k4
  by_cases k5 : k = 5
  · subst k5
    (try simp (implicitDefEqProofs := false) only [go_sem, ↓reduceIte, Nat.reduceEqDiff, reduceCtorEq, Nat.reduceAdd, Nat.reduceSub, Nat.reduceLeDiff, Nat.reduceLT, Nat.reduceMul, Int.reduceToNat, Int.reduceLT, Int.reduceLE, Bool.not_true, n4, show ((5 : Int) == 5) = true from rfl])
    refine CallK_do h4 ?_
    (try simp (implicitDefEqProofs := false) only [go_sem, ↓reduceIte, Nat.reduceEqDiff, reduceCtorEq, Nat.reduceAdd, Nat.reduceSub, Nat.reduceLeDiff, Nat.reduceLT, Nat.reduceMul, Int.reduceToNat, Int.reduceLT, Int.reduceLE])
    refine CallK_do h5 ?_
    (try simp (implicitDefEqProofs := false) only [go_sem, ↓reduceIte, Nat.reduceEqDiff, reduceCtorEq, Nat.reduceAdd, Nat.reduceSub, Nat.reduceLeDiff, Nat.reduceLT, Nat.reduceMul, Int.reduceToNat, Int.reduceLT, Int.reduceLE])
    simp [partsE, enV, Ty.cells_eq, Ty.k, Ty.ts, Ty.cellsL]
  have n5 : (k == 5) = false := by simpa using k5
  by_cases k6 : k = 6
  · subst k6
    (try simp (implicitDefEqProofs := false) only [go_sem, ↓reduceIte, Nat.reduceEqDiff, reduceCtorEq, Nat.reduceAdd, Nat.reduceSub, Nat.reduceLeDiff, Nat.reduceLT, Nat.reduceMul, Int.reduceToNat, Int.reduceLT, Int.reduceLE, Bool.not_true, n4, n5, show ((6 : Int) == 6) = true from rfl])
    refine CallK_do h6 ?_
    (try simp (implicitDefEqProofs := false) only [go_sem, ↓reduceIte, Nat.reduceEqDiff, reduceCtorEq, Nat.reduceAdd, Nat.reduceSub, Nat.reduceLeDiff, Nat.reduceLT, Nat.reduceMul, Int.reduceToNat, Int.reduceLT, Int.reduceLE])
    refine CallK_do h7 ?_
    (try simp (implicitDefEqProofs := false) only [go_sem, ↓reduceIte, Nat.reduceEqDiff, reduceCtorEq, Nat.reduceAdd, Nat.reduceSub, Nat.reduceLeDiff, Nat.reduceLT, Nat.reduceMul, Int.reduceToNat, Int.reduceLT, Int.reduceLE])
    simp [partsE, enV, Ty.cells_eq, Ty.k, Ty.ts, Ty.cellsL]
  have n6 : (k == 6) = false := by simpa using k6
  by_cases k7 : k = 7
  · subst k7
    have hm1 := hm1 rfl
    have hm2 := hm2 rfl
    have hs := hs rfl rfl
    have es : e2.same f1 = (e2.check == 0 && f1.check == 0 && e2.same f1) := by
      cases hh : e2.same f1 with
      | false => simp
      | true =>
        have := same_iff.1 hh
        rw [← this.2]; simp [this.1]
    (try simp (implicitDefEqProofs := false) only [go_sem, ↓reduceIte, Nat.reduceEqDiff, reduceCtorEq, Nat.reduceAdd, Nat.reduceSub, Nat.reduceLeDiff, Nat.reduceLT, Nat.reduceMul, Int.reduceToNat, Int.reduceLT, Int.reduceLE, Bool.not_true, n4, n5, n6, show ((7 : Int) == 7) = true from rfl])
    refine CallK_do hm1 ?_
    cases hc1 : (e2.check == 0) with
    | false =>
      (try simp (implicitDefEqProofs := false) only [go_sem, ↓reduceIte, Nat.reduceEqDiff, reduceCtorEq, Nat.reduceAdd, Nat.reduceSub, Nat.reduceLeDiff, Nat.reduceLT, Nat.reduceMul, Int.reduceToNat, Int.reduceLT, Int.reduceLE])
      rw [hc1, Bool.false_and, Bool.false_and] at es
      simp [partsE, enV, Ty.cells_eq, es]
    | true =>
    (try simp (implicitDefEqProofs := false) only [go_sem, ↓reduceIte, Nat.reduceEqDiff, reduceCtorEq, Nat.reduceAdd, Nat.reduceSub, Nat.reduceLeDiff, Nat.reduceLT, Nat.reduceMul, Int.reduceToNat, Int.reduceLT, Int.reduceLE])
    refine CallK_do hm2 ?_
    cases hc2 : (f1.check == 0) with
    | false =>
      (try simp (implicitDefEqProofs := false) only [go_sem, ↓reduceIte, Nat.reduceEqDiff, reduceCtorEq, Nat.reduceAdd, Nat.reduceSub, Nat.reduceLeDiff, Nat.reduceLT, Nat.reduceMul, Int.reduceToNat, Int.reduceLT, Int.reduceLE])
      rw [hc2, Bool.and_false, Bool.false_and] at es
      simp [partsE, enV, Ty.cells_eq, es]
    | true =>
    (try simp (implicitDefEqProofs := false) only [go_sem, ↓reduceIte, Nat.reduceEqDiff, reduceCtorEq, Nat.reduceAdd, Nat.reduceSub, Nat.reduceLeDiff, Nat.reduceLT, Nat.reduceMul, Int.reduceToNat, Int.reduceLT, Int.reduceLE])
    refine CallK_do hs ?_
    (try simp (implicitDefEqProofs := false) only [go_sem, ↓reduceIte, Nat.reduceEqDiff, reduceCtorEq, Nat.reduceAdd, Nat.reduceSub, Nat.reduceLeDiff, Nat.reduceLT, Nat.reduceMul, Int.reduceToNat, Int.reduceLT, Int.reduceLE])
    simp [partsE, enV, Ty.cells_eq]
  have n7 : (k == 7) = false := by simpa using k7
  (try simp (implicitDefEqProofs := false) only [go_sem, ↓reduceIte, Nat.reduceEqDiff, reduceCtorEq, Nat.reduceAdd, Nat.reduceSub, Nat.reduceLeDiff, Nat.reduceLT, Nat.reduceMul, Int.reduceToNat, Int.reduceLT, Int.reduceLE, Bool.not_true, n4, n5, n6, n7])
  simp [partsE, k4, k5, k6, k7, noE_v]
end Go.Proofs.Ytopgmopdjiahmaa.Lg

/- The document's answer on coercions: the ends, the check, a cast's coercion: it is the program's. Conditions: none; plain lemmas. -/
set_option linter.unusedVariables false
set_option linter.unusedSimpArgs false
set_option maxRecDepth 100000
set_option maxHeartbeats 2000000
namespace Go.Proofs.Ytopgmopdjiahmaa.Lg
open Go Go.RowKit Go.Proofs

def RelE (e e0 : En) : Prop := e.2.2 = e0.2.2 ∧ (e0.2.2 = true → e = e0)
theorem RelE.refl (e : En) : RelE e e := ⟨rfl, fun _ => rfl⟩
theorem relE_parts {k : Int} {e f e0 f0 : En} (h : RelE e e0) (h' : RelE f f0) : partsE k e f = partsE k e0 f0 := by
  by_cases hb : (e0.2.2 && f0.2.2) = true
  · simp only [Bool.and_eq_true] at hb
    rw [h.2 hb.1, h'.2 hb.2]
  · have hb : (e0.2.2 && f0.2.2) = false := by simpa using hb
    unfold partsE
    rw [h.1, h'.1, if_pos hb, if_pos hb]
theorem rends_leaf {k : Int} {ty to : Ty} {lab : Int} {neg : Bool} {ks : List Cn} (hk : k = 0 ∨ k = 1 ∨ k = 2 ∨ k = 3) (hf : (Cn.mk k ty to lab neg ks).fits) : ∃ e, REnd (.mk k ty to lab neg ks) e ∧ RelE e (Cn.mk k ty to lab neg ks).ends := by
  have hfl : ks.length ≤ 9223372036854775807 := hf.2.2.1
  have hl : leafF k = true := by simp only [leafF, Bool.or_eq_true, beq_iff_eq]; omega
  have e0 : (Cn.mk k ty to lab neg ks).ends = leafE k ty to lab ks.isEmpty := by simp only [Cn.ends, hl, if_true]
  have c1 := rcheck_does ty hf.1
  have c2 := rcheck_does to hf.2.1
  have g1 := risG_does ty hf.1
  have ty1 := rtyped_does k
  have ty2 := rtoed_does k
  have ty3 := rlabelled_does k
  rw [hl] at ty1
  simp only [Ty.cells_eq] at c1 c2 g1
  rw [e0]
  have no : leafE k ty to lab ks.isEmpty = noE → REnd (.mk k ty to lab neg ks) noE → ∃ e, REnd (.mk k ty to lab neg ks) e ∧ RelE e (leafE k ty to lab ks.isEmpty) := fun h h' => ⟨noE, h', by rw [h]; exact .refl _⟩
  have nofalse : (leafE k ty to lab ks.isEmpty).2.2 = false → REnd (.mk k ty to lab neg ks) noE → ∃ e, REnd (.mk k ty to lab neg ks) e ∧ RelE e (leafE k ty to lab ks.isEmpty) := fun h h' => ⟨noE, h', by rw [RelE, h]; exact ⟨rfl, fun h => by cases h⟩⟩
  unfold REnd at no nofalse ⊢
  rw [noE_v] at no nofalse
  have hem : ks.isEmpty = false ↔ ks ≠ [] := by cases ks <;> simp
  by_cases hc : ty.check = 0
  rotate_left
  · refine no (by simp [leafE, hc]) ?_
    refine does86 (by rfl) (by rfl) ?_
    (try simp (implicitDefEqProofs := false) only [go_sem, ↓reduceIte, Nat.reduceEqDiff, reduceCtorEq, Nat.reduceAdd, Nat.reduceSub, Nat.reduceLeDiff, Nat.reduceLT, Nat.reduceMul, Int.reduceToNat, Int.reduceLT, Int.reduceLE, Cn.cells])
    refine CallK_do ty1 ?_
    (try simp (implicitDefEqProofs := false) only [go_sem, ↓reduceIte, Nat.reduceEqDiff, reduceCtorEq, Nat.reduceAdd, Nat.reduceSub, Nat.reduceLeDiff, Nat.reduceLT, Nat.reduceMul, Int.reduceToNat, Int.reduceLT, Int.reduceLE])
    refine CallK_do c1 ?_
    (try simp (implicitDefEqProofs := false) only [go_sem, ↓reduceIte, Nat.reduceEqDiff, reduceCtorEq, Nat.reduceAdd, Nat.reduceSub, Nat.reduceLeDiff, Nat.reduceLT, Nat.reduceMul, Int.reduceToNat, Int.reduceLT, Int.reduceLE, show (ty.check != 0) = true from by simpa using hc])
  by_cases h1 : k = 1
  · -- a failure
    subst h1
    by_cases ht : to.check = 0
    rotate_left
    · refine nofalse (by unfold leafE; split; rfl; simp [ht]) ?_
      refine does86 (by rfl) (by rfl) ?_
      (try simp (implicitDefEqProofs := false) only [go_sem, ↓reduceIte, Nat.reduceEqDiff, reduceCtorEq, Nat.reduceAdd, Nat.reduceSub, Nat.reduceLeDiff, Nat.reduceLT, Nat.reduceMul, Int.reduceToNat, Int.reduceLT, Int.reduceLE, Cn.cells])
      refine CallK_do ty1 ?_
      (try simp (implicitDefEqProofs := false) only [go_sem, ↓reduceIte, Nat.reduceEqDiff, reduceCtorEq, Nat.reduceAdd, Nat.reduceSub, Nat.reduceLeDiff, Nat.reduceLT, Nat.reduceMul, Int.reduceToNat, Int.reduceLT, Int.reduceLE])
      refine CallK_do c1 ?_
      (try simp (implicitDefEqProofs := false) only [go_sem, ↓reduceIte, Nat.reduceEqDiff, reduceCtorEq, Nat.reduceAdd, Nat.reduceSub, Nat.reduceLeDiff, Nat.reduceLT, Nat.reduceMul, Int.reduceToNat, Int.reduceLT, Int.reduceLE, hc, show ((0 : Int) != 0) = false from rfl])
      refine CallK_do ty2 ?_
      (try simp (implicitDefEqProofs := false) only [go_sem, ↓reduceIte, Nat.reduceEqDiff, reduceCtorEq, Nat.reduceAdd, Nat.reduceSub, Nat.reduceLeDiff, Nat.reduceLT, Nat.reduceMul, Int.reduceToNat, Int.reduceLT, Int.reduceLE, show ((1 : Int) == 1) = true from rfl])
      refine CallK_do c2 ?_
      (try simp (implicitDefEqProofs := false) only [go_sem, ↓reduceIte, Nat.reduceEqDiff, reduceCtorEq, Nat.reduceAdd, Nat.reduceSub, Nat.reduceLeDiff, Nat.reduceLT, Nat.reduceMul, Int.reduceToNat, Int.reduceLT, Int.reduceLE, show (to.check != 0) = true from by simpa using ht])
    by_cases hlab : lab < 1
    · refine nofalse (by unfold leafE; split; rfl; simp [labOk]; omega) ?_
      refine does86 (by rfl) (by rfl) ?_
      (try simp (implicitDefEqProofs := false) only [go_sem, ↓reduceIte, Nat.reduceEqDiff, reduceCtorEq, Nat.reduceAdd, Nat.reduceSub, Nat.reduceLeDiff, Nat.reduceLT, Nat.reduceMul, Int.reduceToNat, Int.reduceLT, Int.reduceLE, Cn.cells])
      refine CallK_do ty1 ?_
      (try simp (implicitDefEqProofs := false) only [go_sem, ↓reduceIte, Nat.reduceEqDiff, reduceCtorEq, Nat.reduceAdd, Nat.reduceSub, Nat.reduceLeDiff, Nat.reduceLT, Nat.reduceMul, Int.reduceToNat, Int.reduceLT, Int.reduceLE])
      refine CallK_do c1 ?_
      (try simp (implicitDefEqProofs := false) only [go_sem, ↓reduceIte, Nat.reduceEqDiff, reduceCtorEq, Nat.reduceAdd, Nat.reduceSub, Nat.reduceLeDiff, Nat.reduceLT, Nat.reduceMul, Int.reduceToNat, Int.reduceLT, Int.reduceLE, hc, show ((0 : Int) != 0) = false from rfl])
      refine CallK_do ty2 ?_
      (try simp (implicitDefEqProofs := false) only [go_sem, ↓reduceIte, Nat.reduceEqDiff, reduceCtorEq, Nat.reduceAdd, Nat.reduceSub, Nat.reduceLeDiff, Nat.reduceLT, Nat.reduceMul, Int.reduceToNat, Int.reduceLT, Int.reduceLE, show ((1 : Int) == 1) = true from rfl])
      refine CallK_do c2 ?_
      (try simp (implicitDefEqProofs := false) only [go_sem, ↓reduceIte, Nat.reduceEqDiff, reduceCtorEq, Nat.reduceAdd, Nat.reduceSub, Nat.reduceLeDiff, Nat.reduceLT, Nat.reduceMul, Int.reduceToNat, Int.reduceLT, Int.reduceLE, ht, show ((0 : Int) != 0) = false from rfl])
      refine CallK_do ty3 ?_
      (try simp (implicitDefEqProofs := false) only [go_sem, ↓reduceIte, Nat.reduceEqDiff, reduceCtorEq, Nat.reduceAdd, Nat.reduceSub, Nat.reduceLeDiff, Nat.reduceLT, Nat.reduceMul, Int.reduceToNat, Int.reduceLT, Int.reduceLE, show ((1 : Int) == 1) = true from rfl, decide_eq_true hlab])
    by_cases hlab2 : lab > 2147483648
    · refine nofalse (by unfold leafE; split; rfl; simp [labOk]; omega) ?_
      refine does86 (by rfl) (by rfl) ?_
      (try simp (implicitDefEqProofs := false) only [go_sem, ↓reduceIte, Nat.reduceEqDiff, reduceCtorEq, Nat.reduceAdd, Nat.reduceSub, Nat.reduceLeDiff, Nat.reduceLT, Nat.reduceMul, Int.reduceToNat, Int.reduceLT, Int.reduceLE, Cn.cells])
      refine CallK_do ty1 ?_
      (try simp (implicitDefEqProofs := false) only [go_sem, ↓reduceIte, Nat.reduceEqDiff, reduceCtorEq, Nat.reduceAdd, Nat.reduceSub, Nat.reduceLeDiff, Nat.reduceLT, Nat.reduceMul, Int.reduceToNat, Int.reduceLT, Int.reduceLE])
      refine CallK_do c1 ?_
      (try simp (implicitDefEqProofs := false) only [go_sem, ↓reduceIte, Nat.reduceEqDiff, reduceCtorEq, Nat.reduceAdd, Nat.reduceSub, Nat.reduceLeDiff, Nat.reduceLT, Nat.reduceMul, Int.reduceToNat, Int.reduceLT, Int.reduceLE, hc, show ((0 : Int) != 0) = false from rfl])
      refine CallK_do ty2 ?_
      (try simp (implicitDefEqProofs := false) only [go_sem, ↓reduceIte, Nat.reduceEqDiff, reduceCtorEq, Nat.reduceAdd, Nat.reduceSub, Nat.reduceLeDiff, Nat.reduceLT, Nat.reduceMul, Int.reduceToNat, Int.reduceLT, Int.reduceLE, show ((1 : Int) == 1) = true from rfl])
      refine CallK_do c2 ?_
      (try simp (implicitDefEqProofs := false) only [go_sem, ↓reduceIte, Nat.reduceEqDiff, reduceCtorEq, Nat.reduceAdd, Nat.reduceSub, Nat.reduceLeDiff, Nat.reduceLT, Nat.reduceMul, Int.reduceToNat, Int.reduceLT, Int.reduceLE, ht, show ((0 : Int) != 0) = false from rfl])
      refine CallK_do ty3 ?_
      (try simp (implicitDefEqProofs := false) only [go_sem, ↓reduceIte, Nat.reduceEqDiff, reduceCtorEq, Nat.reduceAdd, Nat.reduceSub, Nat.reduceLeDiff, Nat.reduceLT, Nat.reduceMul, Int.reduceToNat, Int.reduceLT, Int.reduceLE, show ((1 : Int) == 1) = true from rfl, decide_eq_false hlab, decide_eq_true hlab2])
    by_cases hks : ks = []
    · subst hks
      refine ⟨(ty, to, ty.k != 0), ?_, ?_⟩
      · refine does86 (by rfl) (by rfl) ?_
        (try simp (implicitDefEqProofs := false) only [go_sem, ↓reduceIte, Nat.reduceEqDiff, reduceCtorEq, Nat.reduceAdd, Nat.reduceSub, Nat.reduceLeDiff, Nat.reduceLT, Nat.reduceMul, Int.reduceToNat, Int.reduceLT, Int.reduceLE, Cn.cells, Cn.cellsL])
        refine CallK_do ty1 ?_
        (try simp (implicitDefEqProofs := false) only [go_sem, ↓reduceIte, Nat.reduceEqDiff, reduceCtorEq, Nat.reduceAdd, Nat.reduceSub, Nat.reduceLeDiff, Nat.reduceLT, Nat.reduceMul, Int.reduceToNat, Int.reduceLT, Int.reduceLE])
        refine CallK_do c1 ?_
        (try simp (implicitDefEqProofs := false) only [go_sem, ↓reduceIte, Nat.reduceEqDiff, reduceCtorEq, Nat.reduceAdd, Nat.reduceSub, Nat.reduceLeDiff, Nat.reduceLT, Nat.reduceMul, Int.reduceToNat, Int.reduceLT, Int.reduceLE, hc, show ((0 : Int) != 0) = false from rfl])
        refine CallK_do ty2 ?_
        (try simp (implicitDefEqProofs := false) only [go_sem, ↓reduceIte, Nat.reduceEqDiff, reduceCtorEq, Nat.reduceAdd, Nat.reduceSub, Nat.reduceLeDiff, Nat.reduceLT, Nat.reduceMul, Int.reduceToNat, Int.reduceLT, Int.reduceLE, show ((1 : Int) == 1) = true from rfl])
        refine CallK_do c2 ?_
        (try simp (implicitDefEqProofs := false) only [go_sem, ↓reduceIte, Nat.reduceEqDiff, reduceCtorEq, Nat.reduceAdd, Nat.reduceSub, Nat.reduceLeDiff, Nat.reduceLT, Nat.reduceMul, Int.reduceToNat, Int.reduceLT, Int.reduceLE, ht, show ((0 : Int) != 0) = false from rfl])
        refine CallK_do ty3 ?_
        (try simp (implicitDefEqProofs := false) only [go_sem, ↓reduceIte, Nat.reduceEqDiff, reduceCtorEq, Nat.reduceAdd, Nat.reduceSub, Nat.reduceLeDiff, Nat.reduceLT, Nat.reduceMul, Int.reduceToNat, Int.reduceLT, Int.reduceLE, show ((1 : Int) == 1) = true from rfl, decide_eq_false hlab, decide_eq_false hlab2, ncast0])
        refine CallK_do ty1 ?_
        (try simp (implicitDefEqProofs := false) only [go_sem, ↓reduceIte, Nat.reduceEqDiff, reduceCtorEq, Nat.reduceAdd, Nat.reduceSub, Nat.reduceLeDiff, Nat.reduceLT, Nat.reduceMul, Int.reduceToNat, Int.reduceLT, Int.reduceLE, show ((0 : Int) != 0) = false from rfl])
        refine CallK_do ty1 ?_
        (try simp (implicitDefEqProofs := false) only [go_sem, ↓reduceIte, Nat.reduceEqDiff, reduceCtorEq, Nat.reduceAdd, Nat.reduceSub, Nat.reduceLeDiff, Nat.reduceLT, Nat.reduceMul, Int.reduceToNat, Int.reduceLT, Int.reduceLE, Bool.not_true, show ((1 : Int) == 0) = false from rfl, show ((1 : Int) == 1) = true from rfl])
        simp [enV, Ty.cells_eq]
      · have : leafE 1 ty to lab ([] : List Cn).isEmpty = (ty, to, ty.k != 0) := by simp [leafE, hc, ht, labOk]; omega
        rw [this]; exact .refl _
    · have hb : ((ks.length : Int) != 0) = true := by
        have : ks.length ≠ 0 := by simpa using hks
        simp; omega
      refine no (by simp [leafE, hem.2 hks]) ?_
      refine does86 (by rfl) (by rfl) ?_
      (try simp (implicitDefEqProofs := false) only [go_sem, ↓reduceIte, Nat.reduceEqDiff, reduceCtorEq, Nat.reduceAdd, Nat.reduceSub, Nat.reduceLeDiff, Nat.reduceLT, Nat.reduceMul, Int.reduceToNat, Int.reduceLT, Int.reduceLE, Cn.cells, Cn.cellsL_len])
      refine CallK_do ty1 ?_
      (try simp (implicitDefEqProofs := false) only [go_sem, ↓reduceIte, Nat.reduceEqDiff, reduceCtorEq, Nat.reduceAdd, Nat.reduceSub, Nat.reduceLeDiff, Nat.reduceLT, Nat.reduceMul, Int.reduceToNat, Int.reduceLT, Int.reduceLE])
      refine CallK_do c1 ?_
      (try simp (implicitDefEqProofs := false) only [go_sem, ↓reduceIte, Nat.reduceEqDiff, reduceCtorEq, Nat.reduceAdd, Nat.reduceSub, Nat.reduceLeDiff, Nat.reduceLT, Nat.reduceMul, Int.reduceToNat, Int.reduceLT, Int.reduceLE, hc, show ((0 : Int) != 0) = false from rfl])
      refine CallK_do ty2 ?_
      (try simp (implicitDefEqProofs := false) only [go_sem, ↓reduceIte, Nat.reduceEqDiff, reduceCtorEq, Nat.reduceAdd, Nat.reduceSub, Nat.reduceLeDiff, Nat.reduceLT, Nat.reduceMul, Int.reduceToNat, Int.reduceLT, Int.reduceLE, show ((1 : Int) == 1) = true from rfl])
      refine CallK_do c2 ?_
      (try simp (implicitDefEqProofs := false) only [go_sem, ↓reduceIte, Nat.reduceEqDiff, reduceCtorEq, Nat.reduceAdd, Nat.reduceSub, Nat.reduceLeDiff, Nat.reduceLT, Nat.reduceMul, Int.reduceToNat, Int.reduceLT, Int.reduceLE, ht, show ((0 : Int) != 0) = false from rfl])
      refine CallK_do ty3 ?_
      (try simp (implicitDefEqProofs := false) only [go_sem, ↓reduceIte, Nat.reduceEqDiff, reduceCtorEq, Nat.reduceAdd, Nat.reduceSub, Nat.reduceLeDiff, Nat.reduceLT, Nat.reduceMul, Int.reduceToNat, Int.reduceLT, Int.reduceLE, show ((1 : Int) == 1) = true from rfl, decide_eq_false hlab, decide_eq_false hlab2])
      refine CallK_do ty1 ?_
      (try simp (implicitDefEqProofs := false) only [go_sem, ↓reduceIte, Nat.reduceEqDiff, reduceCtorEq, Nat.reduceAdd, Nat.reduceSub, Nat.reduceLeDiff, Nat.reduceLT, Nat.reduceMul, Int.reduceToNat, Int.reduceLT, Int.reduceLE, hb, Cn.cellsL_len])
  by_cases h3 : k = 3
  · subst h3
    by_cases hlab : lab < 1
    · refine nofalse (by unfold leafE; split; rfl; simp [labOk]; omega) ?_
      refine does86 (by rfl) (by rfl) ?_
      (try simp (implicitDefEqProofs := false) only [go_sem, ↓reduceIte, Nat.reduceEqDiff, reduceCtorEq, Nat.reduceAdd, Nat.reduceSub, Nat.reduceLeDiff, Nat.reduceLT, Nat.reduceMul, Int.reduceToNat, Int.reduceLT, Int.reduceLE, Cn.cells])
      refine CallK_do ty1 ?_
      (try simp (implicitDefEqProofs := false) only [go_sem, ↓reduceIte, Nat.reduceEqDiff, reduceCtorEq, Nat.reduceAdd, Nat.reduceSub, Nat.reduceLeDiff, Nat.reduceLT, Nat.reduceMul, Int.reduceToNat, Int.reduceLT, Int.reduceLE])
      refine CallK_do c1 ?_
      (try simp (implicitDefEqProofs := false) only [go_sem, ↓reduceIte, Nat.reduceEqDiff, reduceCtorEq, Nat.reduceAdd, Nat.reduceSub, Nat.reduceLeDiff, Nat.reduceLT, Nat.reduceMul, Int.reduceToNat, Int.reduceLT, Int.reduceLE, hc, show ((0 : Int) != 0) = false from rfl])
      refine CallK_do ty2 ?_
      (try simp (implicitDefEqProofs := false) only [go_sem, ↓reduceIte, Nat.reduceEqDiff, reduceCtorEq, Nat.reduceAdd, Nat.reduceSub, Nat.reduceLeDiff, Nat.reduceLT, Nat.reduceMul, Int.reduceToNat, Int.reduceLT, Int.reduceLE, show ((3 : Int) == 1) = false from rfl])
      refine CallK_do ty3 ?_
      (try simp (implicitDefEqProofs := false) only [go_sem, ↓reduceIte, Nat.reduceEqDiff, reduceCtorEq, Nat.reduceAdd, Nat.reduceSub, Nat.reduceLeDiff, Nat.reduceLT, Nat.reduceMul, Int.reduceToNat, Int.reduceLT, Int.reduceLE, show ((3 : Int) == 1) = false from rfl, show ((3 : Int) == 3) = true from rfl, decide_eq_true hlab])
    by_cases hlab2 : lab > 2147483648
    · refine nofalse (by unfold leafE; split; rfl; simp [labOk]; omega) ?_
      refine does86 (by rfl) (by rfl) ?_
      (try simp (implicitDefEqProofs := false) only [go_sem, ↓reduceIte, Nat.reduceEqDiff, reduceCtorEq, Nat.reduceAdd, Nat.reduceSub, Nat.reduceLeDiff, Nat.reduceLT, Nat.reduceMul, Int.reduceToNat, Int.reduceLT, Int.reduceLE, Cn.cells])
      refine CallK_do ty1 ?_
      (try simp (implicitDefEqProofs := false) only [go_sem, ↓reduceIte, Nat.reduceEqDiff, reduceCtorEq, Nat.reduceAdd, Nat.reduceSub, Nat.reduceLeDiff, Nat.reduceLT, Nat.reduceMul, Int.reduceToNat, Int.reduceLT, Int.reduceLE])
      refine CallK_do c1 ?_
      (try simp (implicitDefEqProofs := false) only [go_sem, ↓reduceIte, Nat.reduceEqDiff, reduceCtorEq, Nat.reduceAdd, Nat.reduceSub, Nat.reduceLeDiff, Nat.reduceLT, Nat.reduceMul, Int.reduceToNat, Int.reduceLT, Int.reduceLE, hc, show ((0 : Int) != 0) = false from rfl])
      refine CallK_do ty2 ?_
      (try simp (implicitDefEqProofs := false) only [go_sem, ↓reduceIte, Nat.reduceEqDiff, reduceCtorEq, Nat.reduceAdd, Nat.reduceSub, Nat.reduceLeDiff, Nat.reduceLT, Nat.reduceMul, Int.reduceToNat, Int.reduceLT, Int.reduceLE, show ((3 : Int) == 1) = false from rfl])
      refine CallK_do ty3 ?_
      (try simp (implicitDefEqProofs := false) only [go_sem, ↓reduceIte, Nat.reduceEqDiff, reduceCtorEq, Nat.reduceAdd, Nat.reduceSub, Nat.reduceLeDiff, Nat.reduceLT, Nat.reduceMul, Int.reduceToNat, Int.reduceLT, Int.reduceLE, show ((3 : Int) == 1) = false from rfl, show ((3 : Int) == 3) = true from rfl, decide_eq_false hlab, decide_eq_true hlab2])
    by_cases hks : ks = []
    · subst hks
      refine ⟨(.un, ty, ty.isG), ?_, ?_⟩
      · refine does86 (by rfl) (by rfl) ?_
        (try simp (implicitDefEqProofs := false) only [go_sem, ↓reduceIte, Nat.reduceEqDiff, reduceCtorEq, Nat.reduceAdd, Nat.reduceSub, Nat.reduceLeDiff, Nat.reduceLT, Nat.reduceMul, Int.reduceToNat, Int.reduceLT, Int.reduceLE, Cn.cells, Cn.cellsL])
        refine CallK_do ty1 ?_
        (try simp (implicitDefEqProofs := false) only [go_sem, ↓reduceIte, Nat.reduceEqDiff, reduceCtorEq, Nat.reduceAdd, Nat.reduceSub, Nat.reduceLeDiff, Nat.reduceLT, Nat.reduceMul, Int.reduceToNat, Int.reduceLT, Int.reduceLE])
        refine CallK_do c1 ?_
        (try simp (implicitDefEqProofs := false) only [go_sem, ↓reduceIte, Nat.reduceEqDiff, reduceCtorEq, Nat.reduceAdd, Nat.reduceSub, Nat.reduceLeDiff, Nat.reduceLT, Nat.reduceMul, Int.reduceToNat, Int.reduceLT, Int.reduceLE, hc, show ((0 : Int) != 0) = false from rfl])
        refine CallK_do ty2 ?_
        (try simp (implicitDefEqProofs := false) only [go_sem, ↓reduceIte, Nat.reduceEqDiff, reduceCtorEq, Nat.reduceAdd, Nat.reduceSub, Nat.reduceLeDiff, Nat.reduceLT, Nat.reduceMul, Int.reduceToNat, Int.reduceLT, Int.reduceLE, show ((3 : Int) == 1) = false from rfl])
        refine CallK_do ty3 ?_
        (try simp (implicitDefEqProofs := false) only [go_sem, ↓reduceIte, Nat.reduceEqDiff, reduceCtorEq, Nat.reduceAdd, Nat.reduceSub, Nat.reduceLeDiff, Nat.reduceLT, Nat.reduceMul, Int.reduceToNat, Int.reduceLT, Int.reduceLE, show ((3 : Int) == 1) = false from rfl, show ((3 : Int) == 3) = true from rfl, decide_eq_false hlab, decide_eq_false hlab2, ncast0])
        refine CallK_do ty1 ?_
        (try simp (implicitDefEqProofs := false) only [go_sem, ↓reduceIte, Nat.reduceEqDiff, reduceCtorEq, Nat.reduceAdd, Nat.reduceSub, Nat.reduceLeDiff, Nat.reduceLT, Nat.reduceMul, Int.reduceToNat, Int.reduceLT, Int.reduceLE, show ((0 : Int) != 0) = false from rfl])
        refine CallK_do ty1 ?_
        (try simp (implicitDefEqProofs := false) only [go_sem, ↓reduceIte, Nat.reduceEqDiff, reduceCtorEq, Nat.reduceAdd, Nat.reduceSub, Nat.reduceLeDiff, Nat.reduceLT, Nat.reduceMul, Int.reduceToNat, Int.reduceLT, Int.reduceLE, Bool.not_true, show ((3 : Int) == 0) = false from rfl, show ((3 : Int) == 1) = false from rfl, show ((3 : Int) == 2) = false from rfl, show ((3 : Int) == 3) = true from rfl])
        refine CallK_do g1 ?_
        (try simp (implicitDefEqProofs := false) only [go_sem, ↓reduceIte, Nat.reduceEqDiff, reduceCtorEq, Nat.reduceAdd, Nat.reduceSub, Nat.reduceLeDiff, Nat.reduceLT, Nat.reduceMul, Int.reduceToNat, Int.reduceLT, Int.reduceLE])
        simp [enV, Ty.cells_eq, Ty.un, Ty.k, Ty.ts, Ty.cellsL]
      · have : leafE 3 ty to lab ([] : List Cn).isEmpty = (.un, ty, ty.isG) := by
          have : labOk lab = true := by simp [labOk]; omega
          simp [leafE, hc, this]
        rw [this]; exact .refl _
    · have hb : ((ks.length : Int) != 0) = true := by
        have : ks.length ≠ 0 := by simpa using hks
        simp; omega
      refine no (by simp [leafE, hem.2 hks]) ?_
      refine does86 (by rfl) (by rfl) ?_
      (try simp (implicitDefEqProofs := false) only [go_sem, ↓reduceIte, Nat.reduceEqDiff, reduceCtorEq, Nat.reduceAdd, Nat.reduceSub, Nat.reduceLeDiff, Nat.reduceLT, Nat.reduceMul, Int.reduceToNat, Int.reduceLT, Int.reduceLE, Cn.cells, Cn.cellsL_len])
      refine CallK_do ty1 ?_
      (try simp (implicitDefEqProofs := false) only [go_sem, ↓reduceIte, Nat.reduceEqDiff, reduceCtorEq, Nat.reduceAdd, Nat.reduceSub, Nat.reduceLeDiff, Nat.reduceLT, Nat.reduceMul, Int.reduceToNat, Int.reduceLT, Int.reduceLE])
      refine CallK_do c1 ?_
      (try simp (implicitDefEqProofs := false) only [go_sem, ↓reduceIte, Nat.reduceEqDiff, reduceCtorEq, Nat.reduceAdd, Nat.reduceSub, Nat.reduceLeDiff, Nat.reduceLT, Nat.reduceMul, Int.reduceToNat, Int.reduceLT, Int.reduceLE, hc, show ((0 : Int) != 0) = false from rfl])
      refine CallK_do ty2 ?_
      (try simp (implicitDefEqProofs := false) only [go_sem, ↓reduceIte, Nat.reduceEqDiff, reduceCtorEq, Nat.reduceAdd, Nat.reduceSub, Nat.reduceLeDiff, Nat.reduceLT, Nat.reduceMul, Int.reduceToNat, Int.reduceLT, Int.reduceLE, show ((3 : Int) == 1) = false from rfl])
      refine CallK_do ty3 ?_
      (try simp (implicitDefEqProofs := false) only [go_sem, ↓reduceIte, Nat.reduceEqDiff, reduceCtorEq, Nat.reduceAdd, Nat.reduceSub, Nat.reduceLeDiff, Nat.reduceLT, Nat.reduceMul, Int.reduceToNat, Int.reduceLT, Int.reduceLE, show ((3 : Int) == 1) = false from rfl, show ((3 : Int) == 3) = true from rfl, decide_eq_false hlab, decide_eq_false hlab2])
      refine CallK_do ty1 ?_
      (try simp (implicitDefEqProofs := false) only [go_sem, ↓reduceIte, Nat.reduceEqDiff, reduceCtorEq, Nat.reduceAdd, Nat.reduceSub, Nat.reduceLeDiff, Nat.reduceLT, Nat.reduceMul, Int.reduceToNat, Int.reduceLT, Int.reduceLE, hb, Cn.cellsL_len])
  have n1 : (k == 1) = false := by simpa using h1
  have n3 : (k == 3) = false := by simpa using h3
  by_cases hks : ks = []
  · subst hks
    by_cases h0 : k = 0
    · subst h0
      refine ⟨(ty, ty, true), ?_, ?_⟩
      · refine does86 (by rfl) (by rfl) ?_
        (try simp (implicitDefEqProofs := false) only [go_sem, ↓reduceIte, Nat.reduceEqDiff, reduceCtorEq, Nat.reduceAdd, Nat.reduceSub, Nat.reduceLeDiff, Nat.reduceLT, Nat.reduceMul, Int.reduceToNat, Int.reduceLT, Int.reduceLE, Cn.cells, Cn.cellsL])
        refine CallK_do ty1 ?_
        (try simp (implicitDefEqProofs := false) only [go_sem, ↓reduceIte, Nat.reduceEqDiff, reduceCtorEq, Nat.reduceAdd, Nat.reduceSub, Nat.reduceLeDiff, Nat.reduceLT, Nat.reduceMul, Int.reduceToNat, Int.reduceLT, Int.reduceLE])
        refine CallK_do c1 ?_
        (try simp (implicitDefEqProofs := false) only [go_sem, ↓reduceIte, Nat.reduceEqDiff, reduceCtorEq, Nat.reduceAdd, Nat.reduceSub, Nat.reduceLeDiff, Nat.reduceLT, Nat.reduceMul, Int.reduceToNat, Int.reduceLT, Int.reduceLE, hc, show ((0 : Int) != 0) = false from rfl])
        refine CallK_do ty2 ?_
        (try simp (implicitDefEqProofs := false) only [go_sem, ↓reduceIte, Nat.reduceEqDiff, reduceCtorEq, Nat.reduceAdd, Nat.reduceSub, Nat.reduceLeDiff, Nat.reduceLT, Nat.reduceMul, Int.reduceToNat, Int.reduceLT, Int.reduceLE, n1])
        refine CallK_do ty3 ?_
        (try simp (implicitDefEqProofs := false) only [go_sem, ↓reduceIte, Nat.reduceEqDiff, reduceCtorEq, Nat.reduceAdd, Nat.reduceSub, Nat.reduceLeDiff, Nat.reduceLT, Nat.reduceMul, Int.reduceToNat, Int.reduceLT, Int.reduceLE, n1, n3, ncast0])
        refine CallK_do ty1 ?_
        (try simp (implicitDefEqProofs := false) only [go_sem, ↓reduceIte, Nat.reduceEqDiff, reduceCtorEq, Nat.reduceAdd, Nat.reduceSub, Nat.reduceLeDiff, Nat.reduceLT, Nat.reduceMul, Int.reduceToNat, Int.reduceLT, Int.reduceLE, show ((0 : Int) != 0) = false from rfl])
        refine CallK_do ty1 ?_
        (try simp (implicitDefEqProofs := false) only [go_sem, ↓reduceIte, Nat.reduceEqDiff, reduceCtorEq, Nat.reduceAdd, Nat.reduceSub, Nat.reduceLeDiff, Nat.reduceLT, Nat.reduceMul, Int.reduceToNat, Int.reduceLT, Int.reduceLE, Bool.not_true, show ((0 : Int) == 0) = true from rfl])
        simp [enV, Ty.cells_eq]
      · have : leafE 0 ty to lab ([] : List Cn).isEmpty = (ty, ty, true) := by simp [leafE, hc]
        rw [this]; exact .refl _
    · have h2 : k = 2 := by omega
      subst h2
      refine ⟨(ty, .un, ty.isG), ?_, ?_⟩
      · refine does86 (by rfl) (by rfl) ?_
        (try simp (implicitDefEqProofs := false) only [go_sem, ↓reduceIte, Nat.reduceEqDiff, reduceCtorEq, Nat.reduceAdd, Nat.reduceSub, Nat.reduceLeDiff, Nat.reduceLT, Nat.reduceMul, Int.reduceToNat, Int.reduceLT, Int.reduceLE, Cn.cells, Cn.cellsL])
        refine CallK_do ty1 ?_
        (try simp (implicitDefEqProofs := false) only [go_sem, ↓reduceIte, Nat.reduceEqDiff, reduceCtorEq, Nat.reduceAdd, Nat.reduceSub, Nat.reduceLeDiff, Nat.reduceLT, Nat.reduceMul, Int.reduceToNat, Int.reduceLT, Int.reduceLE])
        refine CallK_do c1 ?_
        (try simp (implicitDefEqProofs := false) only [go_sem, ↓reduceIte, Nat.reduceEqDiff, reduceCtorEq, Nat.reduceAdd, Nat.reduceSub, Nat.reduceLeDiff, Nat.reduceLT, Nat.reduceMul, Int.reduceToNat, Int.reduceLT, Int.reduceLE, hc, show ((0 : Int) != 0) = false from rfl])
        refine CallK_do ty2 ?_
        (try simp (implicitDefEqProofs := false) only [go_sem, ↓reduceIte, Nat.reduceEqDiff, reduceCtorEq, Nat.reduceAdd, Nat.reduceSub, Nat.reduceLeDiff, Nat.reduceLT, Nat.reduceMul, Int.reduceToNat, Int.reduceLT, Int.reduceLE, n1])
        refine CallK_do ty3 ?_
        (try simp (implicitDefEqProofs := false) only [go_sem, ↓reduceIte, Nat.reduceEqDiff, reduceCtorEq, Nat.reduceAdd, Nat.reduceSub, Nat.reduceLeDiff, Nat.reduceLT, Nat.reduceMul, Int.reduceToNat, Int.reduceLT, Int.reduceLE, n1, n3, ncast0])
        refine CallK_do ty1 ?_
        (try simp (implicitDefEqProofs := false) only [go_sem, ↓reduceIte, Nat.reduceEqDiff, reduceCtorEq, Nat.reduceAdd, Nat.reduceSub, Nat.reduceLeDiff, Nat.reduceLT, Nat.reduceMul, Int.reduceToNat, Int.reduceLT, Int.reduceLE, show ((0 : Int) != 0) = false from rfl])
        refine CallK_do ty1 ?_
        (try simp (implicitDefEqProofs := false) only [go_sem, ↓reduceIte, Nat.reduceEqDiff, reduceCtorEq, Nat.reduceAdd, Nat.reduceSub, Nat.reduceLeDiff, Nat.reduceLT, Nat.reduceMul, Int.reduceToNat, Int.reduceLT, Int.reduceLE, Bool.not_true, show ((2 : Int) == 0) = false from rfl, show ((2 : Int) == 1) = false from rfl, show ((2 : Int) == 2) = true from rfl])
        refine CallK_do g1 ?_
        (try simp (implicitDefEqProofs := false) only [go_sem, ↓reduceIte, Nat.reduceEqDiff, reduceCtorEq, Nat.reduceAdd, Nat.reduceSub, Nat.reduceLeDiff, Nat.reduceLT, Nat.reduceMul, Int.reduceToNat, Int.reduceLT, Int.reduceLE])
        simp [enV, Ty.cells_eq, Ty.un, Ty.k, Ty.ts, Ty.cellsL]
      · have : leafE 2 ty to lab ([] : List Cn).isEmpty = (ty, .un, ty.isG) := by simp [leafE, hc]
        rw [this]; exact .refl _
  · have hb : ((ks.length : Int) != 0) = true := by
      have : ks.length ≠ 0 := by simpa using hks
      simp; omega
    refine no (by simp [leafE, hem.2 hks]) ?_
    refine does86 (by rfl) (by rfl) ?_
    (try simp (implicitDefEqProofs := false) only [go_sem, ↓reduceIte, Nat.reduceEqDiff, reduceCtorEq, Nat.reduceAdd, Nat.reduceSub, Nat.reduceLeDiff, Nat.reduceLT, Nat.reduceMul, Int.reduceToNat, Int.reduceLT, Int.reduceLE, Cn.cells, Cn.cellsL_len])
    refine CallK_do ty1 ?_
    (try simp (implicitDefEqProofs := false) only [go_sem, ↓reduceIte, Nat.reduceEqDiff, reduceCtorEq, Nat.reduceAdd, Nat.reduceSub, Nat.reduceLeDiff, Nat.reduceLT, Nat.reduceMul, Int.reduceToNat, Int.reduceLT, Int.reduceLE])
    refine CallK_do c1 ?_
    (try simp (implicitDefEqProofs := false) only [go_sem, ↓reduceIte, Nat.reduceEqDiff, reduceCtorEq, Nat.reduceAdd, Nat.reduceSub, Nat.reduceLeDiff, Nat.reduceLT, Nat.reduceMul, Int.reduceToNat, Int.reduceLT, Int.reduceLE, hc, show ((0 : Int) != 0) = false from rfl])
    refine CallK_do ty2 ?_
    (try simp (implicitDefEqProofs := false) only [go_sem, ↓reduceIte, Nat.reduceEqDiff, reduceCtorEq, Nat.reduceAdd, Nat.reduceSub, Nat.reduceLeDiff, Nat.reduceLT, Nat.reduceMul, Int.reduceToNat, Int.reduceLT, Int.reduceLE, n1])
    refine CallK_do ty3 ?_
    (try simp (implicitDefEqProofs := false) only [go_sem, ↓reduceIte, Nat.reduceEqDiff, reduceCtorEq, Nat.reduceAdd, Nat.reduceSub, Nat.reduceLeDiff, Nat.reduceLT, Nat.reduceMul, Int.reduceToNat, Int.reduceLT, Int.reduceLE, n1, n3])
    refine CallK_do ty1 ?_
    (try simp (implicitDefEqProofs := false) only [go_sem, ↓reduceIte, Nat.reduceEqDiff, reduceCtorEq, Nat.reduceAdd, Nat.reduceSub, Nat.reduceLeDiff, Nat.reduceLT, Nat.reduceMul, Int.reduceToNat, Int.reduceLT, Int.reduceLE, hb, Cn.cellsL_len])

theorem rends_does : ∀ c : Cn, c.fits → ∃ e, REnd c e ∧ RelE e c.ends := by
  refine Cn.ind fun k ty to lab neg ks ih hf => ?_
  rcases leafF_cases k with ⟨hk, hl⟩ | ⟨hk, hl⟩
  · exact rends_leaf hk hf
  have ty1 := rtyped_does k
  have ty2 := rtoed_does k
  have ty3 := rlabelled_does k
  rw [hl] at ty1
  have n1 : (k == 1) = false := by simpa using hk.2.1
  have n3 : (k == 3) = false := by simpa using hk.2.2.2
  have hfl : ks.length ≤ 9223372036854775807 := hf.2.2.1
  have two : ks.length ≠ 2 → REnd (.mk k ty to lab neg ks) noE := by
    intro h2
    have hb : ((ks.length : Int) != 2) = true := by simp; omega
    unfold REnd
    rw [noE_v]
    refine does86 (by rfl) (by rfl) ?_
    (try simp (implicitDefEqProofs := false) only [go_sem, ↓reduceIte, Nat.reduceEqDiff, reduceCtorEq, Nat.reduceAdd, Nat.reduceSub, Nat.reduceLeDiff, Nat.reduceLT, Nat.reduceMul, Int.reduceToNat, Int.reduceLT, Int.reduceLE, Cn.cells, Cn.cellsL_len])
    refine CallK_do ty1 ?_
    (try simp (implicitDefEqProofs := false) only [go_sem, ↓reduceIte, Nat.reduceEqDiff, reduceCtorEq, Nat.reduceAdd, Nat.reduceSub, Nat.reduceLeDiff, Nat.reduceLT, Nat.reduceMul, Int.reduceToNat, Int.reduceLT, Int.reduceLE])
    refine CallK_do ty2 ?_
    (try simp (implicitDefEqProofs := false) only [go_sem, ↓reduceIte, Nat.reduceEqDiff, reduceCtorEq, Nat.reduceAdd, Nat.reduceSub, Nat.reduceLeDiff, Nat.reduceLT, Nat.reduceMul, Int.reduceToNat, Int.reduceLT, Int.reduceLE, n1])
    refine CallK_do ty3 ?_
    (try simp (implicitDefEqProofs := false) only [go_sem, ↓reduceIte, Nat.reduceEqDiff, reduceCtorEq, Nat.reduceAdd, Nat.reduceSub, Nat.reduceLeDiff, Nat.reduceLT, Nat.reduceMul, Int.reduceToNat, Int.reduceLT, Int.reduceLE, n1, n3])
    refine CallK_do ty1 ?_
    (try simp (implicitDefEqProofs := false) only [go_sem, ↓reduceIte, Nat.reduceEqDiff, reduceCtorEq, Nat.reduceAdd, Nat.reduceSub, Nat.reduceLeDiff, Nat.reduceLT, Nat.reduceMul, Int.reduceToNat, Int.reduceLT, Int.reduceLE])
    refine CallK_do ty1 ?_
    (try simp (implicitDefEqProofs := false) only [go_sem, ↓reduceIte, Nat.reduceEqDiff, reduceCtorEq, Nat.reduceAdd, Nat.reduceSub, Nat.reduceLeDiff, Nat.reduceLT, Nat.reduceMul, Int.reduceToNat, Int.reduceLT, Int.reduceLE, Bool.not_false, hb, Cn.cellsL_len])
  match ks, ih, hf with
  | [], _, _ => exact ⟨noE, two (by simp), by simp [Cn.ends, hl, Cn.endsL, partsL]; exact .refl _⟩
  | [a], _, _ => exact ⟨noE, two (by simp), by simp [Cn.ends, hl, Cn.endsL, partsL]; exact .refl _⟩
  | [a, b], ih, hf =>
    have hkk := hf.2.2.2.2
    obtain ⟨e, he, re⟩ := ih a (by simp) hkk.1
    obtain ⟨f, hf2, rf⟩ := ih b (by simp) hkk.2.1
    have hp := rparts_two (k := k) (ty := ty) (to := to) (lab := lab) (neg := neg) he hf2 (fun h => by rw [re.2 (by rw [← re.1]; exact h)]; exact (Cn.ends_fits a hkk.1).2) (fun h => by rw [rf.2 (by rw [← rf.1]; exact h)]; exact (Cn.ends_fits b hkk.2.1).1)
    refine ⟨partsE k e f, ?_, ?_⟩
    · unfold REnd
      generalize partsE k e f = r at hp
      obtain ⟨r1, r2, r3⟩ := r
      obtain ⟨k1, ty1', to1, lab1, neg1, ks1⟩ := a
      obtain ⟨k2, ty2', to2, lab2, neg2, ks2⟩ := b
      simp only [enV, Ty.cells_eq, Cn.cells, Cn.cellsL] at hp ⊢
      refine does86 (by rfl) (by rfl) ?_
      (try simp (implicitDefEqProofs := false) only [go_sem, ↓reduceIte, Nat.reduceEqDiff, reduceCtorEq, Nat.reduceAdd, Nat.reduceSub, Nat.reduceLeDiff, Nat.reduceLT, Nat.reduceMul, Int.reduceToNat, Int.reduceLT, Int.reduceLE])
      refine CallK_do ty1 ?_
      (try simp (implicitDefEqProofs := false) only [go_sem, ↓reduceIte, Nat.reduceEqDiff, reduceCtorEq, Nat.reduceAdd, Nat.reduceSub, Nat.reduceLeDiff, Nat.reduceLT, Nat.reduceMul, Int.reduceToNat, Int.reduceLT, Int.reduceLE])
      refine CallK_do ty2 ?_
      (try simp (implicitDefEqProofs := false) only [go_sem, ↓reduceIte, Nat.reduceEqDiff, reduceCtorEq, Nat.reduceAdd, Nat.reduceSub, Nat.reduceLeDiff, Nat.reduceLT, Nat.reduceMul, Int.reduceToNat, Int.reduceLT, Int.reduceLE, n1])
      refine CallK_do ty3 ?_
      (try simp (implicitDefEqProofs := false) only [go_sem, ↓reduceIte, Nat.reduceEqDiff, reduceCtorEq, Nat.reduceAdd, Nat.reduceSub, Nat.reduceLeDiff, Nat.reduceLT, Nat.reduceMul, Int.reduceToNat, Int.reduceLT, Int.reduceLE, n1, n3])
      refine CallK_do ty1 ?_
      (try simp (implicitDefEqProofs := false) only [go_sem, ↓reduceIte, Nat.reduceEqDiff, reduceCtorEq, Nat.reduceAdd, Nat.reduceSub, Nat.reduceLeDiff, Nat.reduceLT, Nat.reduceMul, Int.reduceToNat, Int.reduceLT, Int.reduceLE])
      refine CallK_do ty1 ?_
      (try simp (implicitDefEqProofs := false) only [go_sem, ↓reduceIte, Nat.reduceEqDiff, reduceCtorEq, Nat.reduceAdd, Nat.reduceSub, Nat.reduceLeDiff, Nat.reduceLT, Nat.reduceMul, Int.reduceToNat, Int.reduceLT, Int.reduceLE, Bool.not_false, ncast2, show ((2 : Int) != 2) = false from rfl, show (k == 0) = false from by simpa using hk.1, show (k == 2) = false from by simpa using hk.2.2.1, n1, n3])
      refine CallK_do hp ?_
      (try simp (implicitDefEqProofs := false) only [go_sem, ↓reduceIte, Nat.reduceEqDiff, reduceCtorEq, Nat.reduceAdd, Nat.reduceSub, Nat.reduceLeDiff, Nat.reduceLT, Nat.reduceMul, Int.reduceToNat, Int.reduceLT, Int.reduceLE])
    · rw [relE_parts re rf]
      simp [Cn.ends, hl, Cn.endsL, partsL]
      exact .refl _
  | a :: b :: c :: r, _, _ => exact ⟨noE, two (by simp), by simp [Cn.ends, hl, Cn.endsL, partsL]; exact .refl _⟩

theorem rcchk_does (c : Cn) (hf : c.fits) : Does Try.prog 56 [.imm false (.agg c.cells)] [] (.ret false (chV c.chk)) [] := by
  have h1 := rccount_does c hf 0 (by omega) (by omega)
  have h2 := rcdeep_does c hf 201 (by omega) (by omega)
  obtain ⟨e, h3, re⟩ := rends_does c hf
  have hef := Cn.ends_fits c hf
  unfold REnd at h3
  have hb : c.few = decide (c.down 0 ≤ 8192) := rfl
  unfold Cn.chk
  rw [hb]
  have fe : e.2.2 = true → e.1.fits ∧ e.2.1.fits := fun h => by rw [re.2 (by rw [← re.1]; exact h)]; exact hef
  have key : (if c.ends.2.2 = false then ((.un, .un, 150) : Ty × Ty × Int) else if c.ends.1.check ≠ 0 then (.un, .un, c.ends.1.check) else if c.ends.2.1.check ≠ 0 then (.un, .un, c.ends.2.1.check) else (c.ends.1, c.ends.2.1, 0)) =
      (if e.2.2 = false then ((.un, .un, 150) : Ty × Ty × Int) else if e.1.check ≠ 0 then (.un, .un, e.1.check) else if e.2.1.check ≠ 0 then (.un, .un, e.2.1.check) else (e.1, e.2.1, 0)) := by
    cases hc : c.ends.2.2 with
    | false => rw [re.1, hc]; rfl
    | true => rw [re.2 hc]; simp [hc]
  rw [key]
  clear key re hef hb
  have c1 : e.2.2 = true → _ := fun h => rcheck_does e.1 (fe h).1
  have c2 : e.2.2 = true → _ := fun h => rcheck_does e.2.1 (fe h).2
  generalize c.down 0 = d0 at h1
  generalize c.deep 201 = d at h2
  obtain ⟨e1, e2, e3⟩ := e
  obtain ⟨k, ty, to, lab, neg, ks⟩ := c
  simp only [enV, Ty.cells_eq, Cn.cells] at h1 h2 h3 c1 c2
  refine does56 (by rfl) (by rfl) ?_
  (try simp (implicitDefEqProofs := false) only [go_sem, ↓reduceIte, Nat.reduceEqDiff, reduceCtorEq, Nat.reduceAdd, Nat.reduceSub, Nat.reduceLeDiff, Nat.reduceLT, Nat.reduceMul, Int.reduceToNat, Int.reduceLT, Int.reduceLE, Cn.cells])
  refine CallK_do h1 ?_
  by_cases hd0 : d0 ≤ 8192
  rotate_left
  · (try simp (implicitDefEqProofs := false) only [go_sem, ↓reduceIte, Nat.reduceEqDiff, reduceCtorEq, Nat.reduceAdd, Nat.reduceSub, Nat.reduceLeDiff, Nat.reduceLT, Nat.reduceMul, Int.reduceToNat, Int.reduceLT, Int.reduceLE, show decide (d0 > 8192) = true from decide_eq_true (by omega), decide_eq_false hd0])
    simp [chV, un_cells]
  (try simp (implicitDefEqProofs := false) only [go_sem, ↓reduceIte, Nat.reduceEqDiff, reduceCtorEq, Nat.reduceAdd, Nat.reduceSub, Nat.reduceLeDiff, Nat.reduceLT, Nat.reduceMul, Int.reduceToNat, Int.reduceLT, Int.reduceLE, show decide (d0 > 8192) = false from decide_eq_false (by omega), decide_eq_true hd0])
  refine CallK_do h2 ?_
  by_cases hd : d > 200
  · (try simp (implicitDefEqProofs := false) only [go_sem, ↓reduceIte, Nat.reduceEqDiff, reduceCtorEq, Nat.reduceAdd, Nat.reduceSub, Nat.reduceLeDiff, Nat.reduceLT, Nat.reduceMul, Int.reduceToNat, Int.reduceLT, Int.reduceLE, decide_eq_true hd])
    simp [chV, un_cells, hd]
  (try simp (implicitDefEqProofs := false) only [go_sem, ↓reduceIte, Nat.reduceEqDiff, reduceCtorEq, Nat.reduceAdd, Nat.reduceSub, Nat.reduceLeDiff, Nat.reduceLT, Nat.reduceMul, Int.reduceToNat, Int.reduceLT, Int.reduceLE, decide_eq_false hd])
  refine CallK_do h3 ?_
  cases e3 with
  | false =>
    (try simp (implicitDefEqProofs := false) only [go_sem, ↓reduceIte, Nat.reduceEqDiff, reduceCtorEq, Nat.reduceAdd, Nat.reduceSub, Nat.reduceLeDiff, Nat.reduceLT, Nat.reduceMul, Int.reduceToNat, Int.reduceLT, Int.reduceLE, Bool.not_false])
    simp [chV, un_cells, hd]
  | true =>
  have c1 := c1 rfl
  have c2 := c2 rfl
  (try simp (implicitDefEqProofs := false) only [go_sem, ↓reduceIte, Nat.reduceEqDiff, reduceCtorEq, Nat.reduceAdd, Nat.reduceSub, Nat.reduceLeDiff, Nat.reduceLT, Nat.reduceMul, Int.reduceToNat, Int.reduceLT, Int.reduceLE, Bool.not_true])
  refine CallK_do c1 ?_
  by_cases z1 : e1.check = 0
  rotate_left
  · (try simp (implicitDefEqProofs := false) only [go_sem, ↓reduceIte, Nat.reduceEqDiff, reduceCtorEq, Nat.reduceAdd, Nat.reduceSub, Nat.reduceLeDiff, Nat.reduceLT, Nat.reduceMul, Int.reduceToNat, Int.reduceLT, Int.reduceLE, show (e1.check != 0) = true from by simpa using z1])
    simp [chV, un_cells, hd, z1]
  (try simp (implicitDefEqProofs := false) only [go_sem, ↓reduceIte, Nat.reduceEqDiff, reduceCtorEq, Nat.reduceAdd, Nat.reduceSub, Nat.reduceLeDiff, Nat.reduceLT, Nat.reduceMul, Int.reduceToNat, Int.reduceLT, Int.reduceLE, z1, show ((0 : Int) != 0) = false from rfl])
  refine CallK_do c2 ?_
  by_cases z2 : e2.check = 0
  rotate_left
  · (try simp (implicitDefEqProofs := false) only [go_sem, ↓reduceIte, Nat.reduceEqDiff, reduceCtorEq, Nat.reduceAdd, Nat.reduceSub, Nat.reduceLeDiff, Nat.reduceLT, Nat.reduceMul, Int.reduceToNat, Int.reduceLT, Int.reduceLE, show (e2.check != 0) = true from by simpa using z2])
    simp [chV, un_cells, hd, z1, z2]
  (try simp (implicitDefEqProofs := false) only [go_sem, ↓reduceIte, Nat.reduceEqDiff, reduceCtorEq, Nat.reduceAdd, Nat.reduceSub, Nat.reduceLeDiff, Nat.reduceLT, Nat.reduceMul, Int.reduceToNat, Int.reduceLT, Int.reduceLE, z2, show ((0 : Int) != 0) = false from rfl])
  simp [chV, un_cells, hd, z1, z2, Ty.cells_eq]
end Go.Proofs.Ytopgmopdjiahmaa.Lg
