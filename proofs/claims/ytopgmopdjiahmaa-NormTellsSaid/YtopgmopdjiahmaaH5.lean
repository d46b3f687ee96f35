/- Texts of one proof, joined by program (gen/tells.py): Mb Nd. Conditions: none; plain definitions and lemmas. -/
import Derived.Test.YtopgmopdjiahmaaH4
import Derived.Test.YtopgmopdjiahmaaProg
/- MADE BY PROGRAM (gen/mk.py): the code of functions, as the logic sees it. Conditions: none; plain definitions and lemmas. -/
set_option linter.unusedVariables false
set_option linter.defProp false
set_option maxRecDepth 100000
namespace Go.Proofs.Ytopgmopdjiahmaa.Lg
open Go Go.RowKit Go.Proofs
variable {Q : AEx → St → Prop} {σ : St}

/-! ### 78: lychgate/coerce.leaf -/
def r78_0 : MC := .reg [⟨none, (.mv 2 (.c (.imm true (.bool false))))⟩] none (some ([0], []))
def w78_0 := @awpR_no Try.prog Q σ r78_0 _ _ ⟨rfl, rfl⟩
def r78_1 : MC := .reg [⟨none, (.mv 3 (.t 0))⟩] none (some ([3], []))
def w78_1 := @awpR_no Try.prog Q σ r78_1 _ _ ⟨rfl, rfl⟩
def r78_2 : MC := .reg [⟨none, (.bin 5 .eql (.t 3) (.c (.imm true (.int .i8 0))))⟩, ⟨none, (.mv 4 (.t 5))⟩] none (some ([3, 4], []))
def w78_2 := @awpR_no Try.prog Q σ r78_2 _ _ ⟨rfl, rfl⟩
def r78_3 : MC := .reg [⟨none, (.bin 6 .eql (.t 3) (.c (.imm true (.int .i8 1))))⟩, ⟨none, (.mv 4 (.t 6))⟩] none (some ([3, 4], []))
def w78_3 := @awpR_no Try.prog Q σ r78_3 _ _ ⟨rfl, rfl⟩
def r78_4 : MC := .reg [⟨none, (.bin 7 .eql (.t 3) (.c (.imm true (.int .i8 2))))⟩, ⟨none, (.mv 4 (.t 7))⟩] none (some ([3, 4], []))
def w78_4 := @awpR_no Try.prog Q σ r78_4 _ _ ⟨rfl, rfl⟩
def r78_5 : MC := .reg [⟨none, (.bin 8 .eql (.t 3) (.c (.imm true (.int .i8 3))))⟩, ⟨none, (.mv 4 (.t 8))⟩] none (some ([4], []))
def w78_5 := @awpR_no Try.prog Q σ r78_5 _ _ ⟨rfl, rfl⟩
def r78_6 : MC := .reg [⟨none, (.mv 2 (.c (.imm true (.bool true))))⟩] none (some ([2], []))
def w78_6 := @awpR_no Try.prog Q σ r78_6 _ _ ⟨rfl, rfl⟩
def r78_7 : MC := .reg [⟨none, (.mv 2 (.c (.imm true (.bool false))))⟩] none (some ([2], []))
def w78_7 := @awpR_no Try.prog Q σ r78_7 _ _ ⟨rfl, rfl⟩
def my78 : MC := (.seq r78_0 (.seq (.seq r78_1 (.block 0 (.seq (.seq r78_2 (.cond (.t 4) .skip (.seq r78_3 (.cond (.t 4) .skip (.seq r78_4 (.cond (.t 4) .skip r78_5)))))) (.cond (.t 4) (.seq r78_6 .ret) .skip)))) (.seq r78_7 .ret)))
theorem my78_is : trC Try.prog ⟨[], []⟩ ⟨[],
  [(0, [0], []), (1, [3], []), (2, [3, 4], []), (3, [3, 4], []), (4, [3, 4], []), (5, [4], []), (6, [2], []), (7, [2], [])]⟩ 9 (Try.f78.body.getD .skip) = some my78 := by kernel_rfl
theorem does78 {args : List LV} (hl : args.length.ble 9 = true) {S S' : List (List LV)} (hS : S'.length = S.length) {o : Out} (h : Lt ⟨numE 0 args, argS 0 S, []⟩ (awp Try.prog my78 (Fin [(.t 2)] o S'))) : Does Try.prog 78 args S o S' :=
  does_of_awp mixed Try.func78 (by kernel_rfl) (by kernel_rfl) my78_is (by kernel_rfl) (Nat.le_of_ble_eq_true hl) hS h
attribute [go_sem ↓] w78_0 w78_1 w78_2 w78_3 w78_4 w78_5 w78_6 w78_7
attribute [go_sem] my78
/-! ### 75: lychgate/coerce.seq -/
def r75_0 : MC := .reg [⟨none, (.boxc 2 (.t 0))⟩, ⟨none, (.boxc 3 (.t 1))⟩, ⟨none, (.alloc 4 z8)⟩] none (some ([2, 3, 4], [4]))
def w75_0 := @awpR_get Try.prog Q σ r75_0 _ _ [4] ⟨rfl, rfl⟩
def r75_1 : MC := .reg [⟨none, (.load 5 (.t 2) (some 8))⟩, ⟨none, (.load 6 (.t 3) (some 8))⟩, ⟨none, (.lit 7 8 [(.t 5), (.t 6)])⟩, ⟨none, (.build 8 z8 [(0, (1, (.c (.imm true (.int .i8 7))))), (7, (1, (.t 7)))])⟩, ⟨none, (.store (.t 4) (.t 8) 8)⟩] none (some ([4], [4]))
def w75_1 := @awpR_no Try.prog Q σ r75_1 _ _ ⟨rfl, rfl⟩
def my75 : MC := (.seq r75_0 (.seq r75_1 .ret))
theorem my75_is : trC Try.prog ⟨[2, 3], []⟩ ⟨[],
  [(0, [2, 3, 4], [4]), (1, [4], [4])]⟩ 9 (Try.f75.body.getD .skip) = some my75 := by kernel_rfl
theorem does75 {args : List LV} (hl : args.length.ble 9 = true) {S S' : List (List LV)} (hS : S'.length = S.length) {o : Out} (h : Lt ⟨numE 0 args, argS 0 S, []⟩ (awp Try.prog my75 (Fin [(.c 4 (some 8))] o S'))) : Does Try.prog 75 args S o S' :=
  does_of_awp mixed Try.func75 (by kernel_rfl) (by kernel_rfl) my75_is (by kernel_rfl) (Nat.le_of_ble_eq_true hl) hS h
attribute [go_sem ↓] w75_0 w75_1
attribute [go_sem] my75
/-! ### 44: (*lychgate/coerce.maker).of -/
def r44_0 : MC := .reg [⟨none, (.alloc 6 z8)⟩] none (some ([0, 1, 2, 6], [6]))
def w44_0 := @awpR_get Try.prog Q σ r44_0 _ _ [6] ⟨rfl, rfl⟩
def r44_1 : MC := .reg [⟨none, (.mv 14 (.t 1))⟩, ⟨none, (.nilc 15 (.t 14))⟩, ⟨none, (.fad 16 (.t 15) 0)⟩, ⟨none, (.load 17 (.t 16) none)⟩, ⟨none, (.mv 18 (.t 2))⟩, ⟨none, (.nilc 19 (.t 18))⟩, ⟨none, (.fad 20 (.t 19) 0)⟩, ⟨none, (.load 21 (.t 20) none)⟩, ⟨none, (.bin 22 .eql (.t 17) (.t 21))⟩, ⟨none, (.mv 23 (.t 22))⟩, ⟨(some (23, true)), (.mv 24 (.t 1))⟩, ⟨(some (23, true)), (.nilc 25 (.t 24))⟩, ⟨(some (23, true)), (.fad 26 (.t 25) 1)⟩, ⟨(some (23, true)), (.load 27 (.t 26) none)⟩, ⟨(some (23, true)), (.len 28 (.t 27))⟩, ⟨(some (23, true)), (.bin 29 .eql (.t 28) (.c (.imm true (.int .i64 0))))⟩, ⟨none, (.pick 30 (.t 23) (.t 29) (.c (.imm true (.bool false))))⟩, ⟨none, (.mv 13 (.t 30))⟩] (some []) (some ([0, 1, 2, 6, 13], [6]))
def w44_1 := @awpD_no Try.prog Q σ r44_1 _ _ _ ⟨rfl, rfl⟩
def r44_2 : MC := .reg [⟨none, (.mv 31 (.t 1))⟩, ⟨none, (.nilc 32 (.t 31))⟩, ⟨none, (.fad 33 (.t 32) 0)⟩, ⟨none, (.load 34 (.t 33) none)⟩, ⟨none, (.build 35 z2 [(0, (1, (.t 34)))])⟩, ⟨none, (.build 36 z8 [(0, (1, (.c (.imm true (.int .i8 0))))), (1, (2, (.t 35)))])⟩, ⟨none, (.store (.t 6) (.t 36) 8)⟩] none (some ([6], [6]))
def w44_2 := @awpR_no Try.prog Q σ r44_2 _ _ ⟨rfl, rfl⟩
def r44_3 : MC := .reg [⟨none, (.mv 38 (.t 2))⟩, ⟨none, (.nilc 39 (.t 38))⟩, ⟨none, (.fad 40 (.t 39) 0)⟩, ⟨none, (.load 41 (.t 40) none)⟩, ⟨none, (.bin 42 .eql (.t 41) (.c (.imm true (.int .i8 0))))⟩, ⟨none, (.mv 37 (.t 42))⟩] none (some ([0, 1, 2, 6, 37], [6]))
def w44_3 := @awpR_no Try.prog Q σ r44_3 _ _ ⟨rfl, rfl⟩
def r44_4 : MC := .reg [⟨none, (.mv 44 (.t 1))⟩, ⟨none, (.nilc 45 (.t 44))⟩, ⟨none, (.load 46 (.t 45) (some 2))⟩, ⟨none, (.call (some 47) (.c (.fn 31 [])) [(.t 46)])⟩, ⟨none, (.mv 43 (.t 47))⟩, ⟨none, (.ext 48 (.t 43) 0)⟩, ⟨none, (.ext 49 (.t 43) 1)⟩, ⟨none, (.alloc 7 z2)⟩, ⟨none, (.store (.t 7) (.t 48) 2)⟩, ⟨none, (.mv 8 (.t 49))⟩] none (some ([0, 1, 6, 7], [6, 7]))
def w44_4 := @awpR_get Try.prog Q σ r44_4 _ _ [7] ⟨rfl, rfl⟩
def r44_5 : MC := .reg [⟨none, (.mv 50 (.t 0))⟩, ⟨none, (.mv 51 (.t 1))⟩, ⟨none, (.callB (some 52) (.c (.fn 44 [])) [(.t 50), (.t 51), (.t 7)] [(.arg 0)])⟩, ⟨none, (.load 53 (.t 7) (some 2))⟩, ⟨none, (.build 54 z8 [(0, (1, (.c (.imm true (.int .i8 2))))), (1, (2, (.t 53)))])⟩, ⟨none, (.call (some 55) (.c (.fn 75 [])) [(.t 52), (.t 54)])⟩, ⟨none, (.store (.t 6) (.t 55) 8)⟩] (some [(2, 3), (2, 4)]) (some ([6], [6]))
def w44_5 := @awpD_no Try.prog Q σ r44_5 _ _ _ ⟨rfl, rfl⟩
def r44_6 : MC := .reg [⟨none, (.mv 57 (.t 1))⟩, ⟨none, (.nilc 58 (.t 57))⟩, ⟨none, (.fad 59 (.t 58) 0)⟩, ⟨none, (.load 60 (.t 59) none)⟩, ⟨none, (.bin 61 .eql (.t 60) (.c (.imm true (.int .i8 0))))⟩, ⟨none, (.mv 56 (.t 61))⟩] none (some ([0, 1, 2, 6, 56], [6]))
def w44_6 := @awpR_no Try.prog Q σ r44_6 _ _ ⟨rfl, rfl⟩
def r44_7 : MC := .reg [⟨none, (.mv 63 (.t 2))⟩, ⟨none, (.nilc 64 (.t 63))⟩, ⟨none, (.load 65 (.t 64) (some 2))⟩, ⟨none, (.call (some 66) (.c (.fn 31 [])) [(.t 65)])⟩, ⟨none, (.mv 62 (.t 66))⟩, ⟨none, (.ext 67 (.t 62) 0)⟩, ⟨none, (.ext 68 (.t 62) 1)⟩, ⟨none, (.alloc 9 z2)⟩, ⟨none, (.store (.t 9) (.t 67) 2)⟩, ⟨none, (.mv 10 (.t 68))⟩] none (some ([0, 2, 6, 9], [6, 9]))
def w44_7 := @awpR_get Try.prog Q σ r44_7 _ _ [9] ⟨rfl, rfl⟩
def r44_8 : MC := .reg [⟨none, (.mv 69 (.t 0))⟩, ⟨none, (.mv 70 (.t 2))⟩, ⟨none, (.callB (some 71) (.c (.fn 44 [])) [(.t 69), (.t 9), (.t 70)] [(.arg 0)])⟩, ⟨none, (.alloc 11 z8)⟩, ⟨none, (.store (.t 11) (.t 71) 8)⟩] none (some ([0, 6, 9, 11], [6, 9, 11]))
def w44_8 := @awpR_get Try.prog Q σ r44_8 _ _ [11] ⟨rfl, rfl⟩
def r44_9 : MC := .reg [⟨none, (.load 72 (.t 9) (some 2))⟩, ⟨none, (.mv 73 (.t 0))⟩, ⟨none, (.nilc 74 (.t 73))⟩, ⟨none, (.fad 75 (.t 74) 0)⟩, ⟨none, (.load 76 (.t 75) none)⟩, ⟨none, (.mv 77 (.t 0))⟩, ⟨none, (.nilc 78 (.t 77))⟩, ⟨none, (.fad 79 (.t 78) 1)⟩, ⟨none, (.load 80 (.t 79) none)⟩, ⟨none, (.build 81 z8 [(0, (1, (.c (.imm true (.int .i8 3))))), (1, (2, (.t 72))), (5, (1, (.t 76))), (6, (1, (.t 80)))])⟩, ⟨none, (.load 82 (.t 11) (some 8))⟩, ⟨none, (.call (some 83) (.c (.fn 75 [])) [(.t 81), (.t 82)])⟩, ⟨none, (.store (.t 6) (.t 83) 8)⟩] (some []) (some ([6], [6]))
def w44_9 := @awpD_no Try.prog Q σ r44_9 _ _ _ ⟨rfl, rfl⟩
def r44_10 : MC := .reg [⟨none, (.mv 85 (.t 1))⟩, ⟨none, (.nilc 86 (.t 85))⟩, ⟨none, (.fad 87 (.t 86) 0)⟩, ⟨none, (.load 88 (.t 87) none)⟩, ⟨none, (.bin 89 .eql (.t 88) (.c (.imm true (.int .i8 3))))⟩, ⟨none, (.mv 84 (.t 89))⟩] none (some ([0, 1, 2, 6, 84], [6]))
def w44_10 := @awpR_no Try.prog Q σ r44_10 _ _ ⟨rfl, rfl⟩
def r44_11 : MC := .reg [⟨none, (.mv 90 (.t 0))⟩, ⟨none, (.mv 91 (.t 2))⟩, ⟨none, (.nilc 92 (.t 91))⟩, ⟨none, (.fad 93 (.t 92) 1)⟩, ⟨none, (.load 94 (.t 93) none)⟩, ⟨none, (.iad 95 (.t 94) (.c (.imm true (.int .i64 0))) 2)⟩, ⟨none, (.mv 96 (.t 1))⟩, ⟨none, (.nilc 97 (.t 96))⟩, ⟨none, (.fad 98 (.t 97) 1)⟩, ⟨none, (.load 99 (.t 98) none)⟩, ⟨none, (.iad 100 (.t 99) (.c (.imm true (.int .i64 0))) 2)⟩, ⟨none, (.callB (some 101) (.c (.fn 76 [])) [(.t 90), (.t 95), (.t 100)] [(.arg 0)])⟩, ⟨none, (.mv 102 (.t 0))⟩, ⟨none, (.mv 103 (.t 1))⟩, ⟨none, (.nilc 104 (.t 103))⟩, ⟨none, (.fad 105 (.t 104) 1)⟩, ⟨none, (.load 106 (.t 105) none)⟩, ⟨none, (.iad 107 (.t 106) (.c (.imm true (.int .i64 1))) 2)⟩, ⟨none, (.mv 108 (.t 2))⟩, ⟨none, (.nilc 109 (.t 108))⟩, ⟨none, (.fad 110 (.t 109) 1)⟩, ⟨none, (.load 111 (.t 110) none)⟩, ⟨none, (.iad 112 (.t 111) (.c (.imm true (.int .i64 1))) 2)⟩, ⟨none, (.callB (some 113) (.c (.fn 44 [])) [(.t 102), (.t 107), (.t 112)] [(.arg 0)])⟩, ⟨none, (.lit 114 8 [(.t 101), (.t 113)])⟩, ⟨none, (.build 115 z8 [(0, (1, (.c (.imm true (.int .i8 4))))), (7, (1, (.t 114)))])⟩, ⟨none, (.store (.t 6) (.t 115) 8)⟩] (some [(11, 12), (11, 13), (11, 14), (11, 15), (11, 16), (11, 17), (11, 18), (11, 19), (11, 20), (11, 21), (11, 22)]) (some ([6], [6]))
def w44_11 := @awpD_no Try.prog Q σ r44_11 _ _ _ ⟨rfl, rfl⟩
def r44_12 : MC := .reg [⟨none, (.mv 12 (.c (.imm true (.int .i8 5))))⟩] none (some ([0, 1, 2, 6, 12], [6]))
def w44_12 := @awpR_no Try.prog Q σ r44_12 _ _ ⟨rfl, rfl⟩
def r44_13 : MC := .reg [⟨none, (.mv 116 (.t 1))⟩, ⟨none, (.nilc 117 (.t 116))⟩, ⟨none, (.fad 118 (.t 117) 0)⟩, ⟨none, (.load 119 (.t 118) none)⟩, ⟨none, (.bin 120 .eql (.t 119) (.c (.imm true (.int .i8 5))))⟩] none (some ([0, 1, 2, 6, 12, 120], [6]))
def w44_13 := @awpR_no Try.prog Q σ r44_13 _ _ ⟨rfl, rfl⟩
def r44_14 : MC := .reg [⟨none, (.mv 12 (.c (.imm true (.int .i8 6))))⟩] none (some ([0, 1, 2, 6, 12], [6]))
def w44_14 := @awpR_no Try.prog Q σ r44_14 _ _ ⟨rfl, rfl⟩
def r44_15 : MC := .reg [⟨none, (.mv 121 (.t 12))⟩, ⟨none, (.mv 122 (.t 0))⟩, ⟨none, (.mv 123 (.t 1))⟩, ⟨none, (.nilc 124 (.t 123))⟩, ⟨none, (.fad 125 (.t 124) 1)⟩, ⟨none, (.load 126 (.t 125) none)⟩, ⟨none, (.iad 127 (.t 126) (.c (.imm true (.int .i64 0))) 2)⟩, ⟨none, (.mv 128 (.t 2))⟩, ⟨none, (.nilc 129 (.t 128))⟩, ⟨none, (.fad 130 (.t 129) 1)⟩, ⟨none, (.load 131 (.t 130) none)⟩, ⟨none, (.iad 132 (.t 131) (.c (.imm true (.int .i64 0))) 2)⟩, ⟨none, (.callB (some 133) (.c (.fn 44 [])) [(.t 122), (.t 127), (.t 132)] [(.arg 0)])⟩, ⟨none, (.mv 134 (.t 0))⟩, ⟨none, (.mv 135 (.t 1))⟩, ⟨none, (.nilc 136 (.t 135))⟩, ⟨none, (.fad 137 (.t 136) 1)⟩, ⟨none, (.load 138 (.t 137) none)⟩, ⟨none, (.iad 139 (.t 138) (.c (.imm true (.int .i64 1))) 2)⟩, ⟨none, (.mv 140 (.t 2))⟩, ⟨none, (.nilc 141 (.t 140))⟩, ⟨none, (.fad 142 (.t 141) 1)⟩, ⟨none, (.load 143 (.t 142) none)⟩, ⟨none, (.iad 144 (.t 143) (.c (.imm true (.int .i64 1))) 2)⟩, ⟨none, (.callB (some 145) (.c (.fn 44 [])) [(.t 134), (.t 139), (.t 144)] [(.arg 0)])⟩, ⟨none, (.lit 146 8 [(.t 133), (.t 145)])⟩, ⟨none, (.build 147 z8 [(0, (1, (.t 121))), (7, (1, (.t 146)))])⟩, ⟨none, (.store (.t 6) (.t 147) 8)⟩] (some [(0, 12), (12, 13), (12, 14), (12, 15), (12, 16), (12, 17), (12, 18), (12, 19), (12, 20), (12, 21), (12, 22), (12, 23), (0, 24)]) (some ([6], [6]))
def w44_15 := @awpD_no Try.prog Q σ r44_15 _ _ _ ⟨rfl, rfl⟩
def my44 : MC := (.seq r44_0 (.seq (.block 0 (.seq r44_1 (.cond (.t 13) (.seq r44_2 .ret) (.seq r44_3 (.cond (.t 37) (.seq r44_4 (.seq r44_5 .ret)) (.seq r44_6 (.cond (.t 56) (.seq r44_7 (.seq r44_8 (.seq r44_9 .ret))) (.seq r44_10 (.cond (.t 84) (.seq r44_11 .ret) .skip))))))))) (.seq r44_12 (.seq (.seq r44_13 (.cond (.t 120) r44_14 .skip)) (.seq r44_15 .ret)))))
theorem my44_is : trC Try.prog ⟨[], [(52, [.arg 0]), (71, [.arg 0]), (101, [.arg 0]), (113, [.arg 0]), (133, [.arg 0]), (145, [.arg 0])]⟩ ⟨[(1, [[], [0], [0, 1], [0, 1, 2], [], [4], [4, 5], [4, 5, 6], [0, 1, 2, 3, 4, 5, 6, 7], [0, 1, 2, 3, 4, 5, 6, 7, 8], [0, 1, 2, 3, 4, 5, 6, 7, 8, 9], [0, 1, 2, 3, 4, 5, 6, 7, 8, 9, 10], [0, 1, 2, 3, 4, 5, 6, 7, 8, 9, 10, 11], [0, 1, 2, 3, 4, 5, 6, 7, 8, 9, 10, 11, 12], [0, 1, 2, 3, 4, 5, 6, 7, 8, 9, 10, 11, 12, 13], [0, 1, 2, 3, 4, 5, 6, 7, 8, 9, 10, 11, 12, 13, 14], [0, 1, 2, 3, 4, 5, 6, 7, 8, 9, 10, 11, 12, 13, 14, 15], [0, 1, 2, 3, 4, 5, 6, 7, 8, 9, 10, 11, 12, 13, 14, 15, 16]], []), (5, [[], [], [0, 1], [], [3], [0, 1, 2, 3, 4], [0, 1, 2, 3, 4, 5]], [(2, 3), (2, 4)]), (9, [[], [], [1], [1, 2], [1, 2, 3], [], [5], [5, 6], [5, 6, 7], [0, 1, 2, 3, 4, 5, 6, 7, 8], [], [0, 1, 2, 3, 4, 5, 6, 7, 8, 9, 10], [0, 1, 2, 3, 4, 5, 6, 7, 8, 9, 10, 11]], []), (11, [[], [], [1], [1, 2], [1, 2, 3], [1, 2, 3, 4], [], [6], [6, 7], [6, 7, 8], [6, 7, 8, 9], [0, 1, 2, 3, 4, 5, 6, 7, 8, 9, 10], [], [], [13], [13, 14], [13, 14, 15], [13, 14, 15, 16], [], [18], [18, 19], [18, 19, 20], [18, 19, 20, 21], [0, 1, 2, 3, 4, 5, 6, 7, 8, 9, 10, 11, 12, 13, 14, 15, 16, 17, 18, 19, 20, 21, 22], [0, 1, 2, 3, 4, 5, 6, 7, 8, 9, 10, 11, 12, 13, 14, 15, 16, 17, 18, 19, 20, 21, 22, 23], [0, 1, 2, 3, 4, 5, 6, 7, 8, 9, 10, 11, 12, 13, 14, 15, 16, 17, 18, 19, 20, 21, 22, 23, 24], [0, 1, 2, 3, 4, 5, 6, 7, 8, 9, 10, 11, 12, 13, 14, 15, 16, 17, 18, 19, 20, 21, 22, 23, 24, 25]], [(11, 12), (11, 13), (11, 14), (11, 15), (11, 16), (11, 17), (11, 18), (11, 19), (11, 20), (11, 21), (11, 22)]), (15, [[], [], [], [2], [2, 3], [2, 3, 4], [2, 3, 4, 5], [], [7], [7, 8], [7, 8, 9], [7, 8, 9, 10], [1, 2, 3, 4, 5, 6, 7, 8, 9, 10, 11], [], [], [14], [14, 15], [14, 15, 16], [14, 15, 16, 17], [], [19], [19, 20], [19, 20, 21], [19, 20, 21, 22], [1, 2, 3, 4, 5, 6, 7, 8, 9, 10, 11, 12, 13, 14, 15, 16, 17, 18, 19, 20, 21, 22, 23], [1, 2, 3, 4, 5, 6, 7, 8, 9, 10, 11, 12, 13, 14, 15, 16, 17, 18, 19, 20, 21, 22, 23, 24], [0, 1, 2, 3, 4, 5, 6, 7, 8, 9, 10, 11, 12, 13, 14, 15, 16, 17, 18, 19, 20, 21, 22, 23, 24, 25], [0, 1, 2, 3, 4, 5, 6, 7, 8, 9, 10, 11, 12, 13, 14, 15, 16, 17, 18, 19, 20, 21, 22, 23, 24, 25, 26]], [(0, 12), (12, 13), (12, 14), (12, 15), (12, 16), (12, 17), (12, 18), (12, 19), (12, 20), (12, 21), (12, 22), (12, 23), (0, 24)])],
  [(0, [0, 1, 2, 6], [6]), (1, [0, 1, 2, 6, 13], [6]), (2, [6], [6]), (3, [0, 1, 2, 6, 37], [6]), (4, [0, 1, 6, 7], [6, 7]), (5, [6], [6]), (6, [0, 1, 2, 6, 56], [6]), (7, [0, 2, 6, 9], [6, 9]), (8, [0, 6, 9, 11], [6, 9, 11]), (9, [6], [6]), (10, [0, 1, 2, 6, 84], [6]), (11, [6], [6]), (12, [0, 1, 2, 6, 12], [6]), (13, [0, 1, 2, 6, 12, 120], [6]), (14, [0, 1, 2, 6, 12], [6]), (15, [6], [6])]⟩ 148 (Try.f44.body.getD .skip) = some my44 := by kernel_rfl
theorem does44 {args : List LV} (hl : args.length.ble 148 = true) {S S' : List (List LV)} (hS : S'.length = S.length) {o : Out} (h : Lt ⟨numE 0 args, argS 0 S, []⟩ (awp Try.prog my44 (Fin [(.c 6 (some 8))] o S'))) : Does Try.prog 44 args S o S' :=
  does_of_awp mixed Try.func44 (by kernel_rfl) (by kernel_rfl) my44_is (by kernel_rfl) (Nat.le_of_ble_eq_true hl) hS h
attribute [go_sem ↓] w44_0 w44_1 w44_2 w44_3 w44_4 w44_5 w44_6 w44_7 w44_8 w44_9 w44_10 w44_11 w44_12 w44_13 w44_14 w44_15
attribute [go_sem] my44
/-! ### 76: (*lychgate/coerce.maker).other -/
def r76_0 : MC := .reg [⟨none, (.alloc 6 z8)⟩] none (some ([0, 1, 2, 6], [6]))
def w76_0 := @awpR_get Try.prog Q σ r76_0 _ _ [6] ⟨rfl, rfl⟩
def r76_1 : MC := .reg [⟨none, (.mv 8 (.t 0))⟩, ⟨none, (.mv 9 (.t 0))⟩, ⟨none, (.nilc 10 (.t 9))⟩, ⟨none, (.fad 11 (.t 10) 1)⟩, ⟨none, (.load 12 (.t 11) none)⟩, ⟨none, (.un 13 .not (.t 12))⟩, ⟨none, (.nilc 14 (.t 8))⟩, ⟨none, (.fad 15 (.t 14) 1)⟩, ⟨none, (.store (.t 15) (.t 13) 1)⟩] none (some ([0, 1, 2, 6], [6]))
def w76_1 := @awpR_no Try.prog Q σ r76_1 _ _ ⟨rfl, rfl⟩
def r76_2 : MC := .reg [⟨none, (.mv 16 (.t 0))⟩, ⟨none, (.mv 17 (.t 1))⟩, ⟨none, (.mv 18 (.t 2))⟩, ⟨none, (.callB (some 19) (.c (.fn 44 [])) [(.t 16), (.t 17), (.t 18)] [(.arg 0)])⟩, ⟨none, (.alloc 7 z8)⟩, ⟨none, (.store (.t 7) (.t 19) 8)⟩] none (some ([0, 6, 7], [6, 7]))
def w76_2 := @awpR_get Try.prog Q σ r76_2 _ _ [7] ⟨rfl, rfl⟩
def r76_3 : MC := .reg [⟨none, (.mv 20 (.t 0))⟩, ⟨none, (.mv 21 (.t 0))⟩, ⟨none, (.nilc 22 (.t 21))⟩, ⟨none, (.fad 23 (.t 22) 1)⟩, ⟨none, (.load 24 (.t 23) none)⟩, ⟨none, (.un 25 .not (.t 24))⟩, ⟨none, (.nilc 26 (.t 20))⟩, ⟨none, (.fad 27 (.t 26) 1)⟩, ⟨none, (.store (.t 27) (.t 25) 1)⟩] none (some ([6, 7], [6, 7]))
def w76_3 := @awpR_no Try.prog Q σ r76_3 _ _ ⟨rfl, rfl⟩
def r76_4 : MC := .reg [⟨none, (.load 28 (.t 7) (some 8))⟩, ⟨none, (.store (.t 6) (.t 28) 8)⟩] none (some ([6], [6]))
def w76_4 := @awpR_no Try.prog Q σ r76_4 _ _ ⟨rfl, rfl⟩
def my76 : MC := (.seq r76_0 (.seq r76_1 (.seq r76_2 (.seq r76_3 (.seq r76_4 .ret)))))
theorem my76_is : trC Try.prog ⟨[], [(19, [.arg 0])]⟩ ⟨[],
  [(0, [0, 1, 2, 6], [6]), (1, [0, 1, 2, 6], [6]), (2, [0, 6, 7], [6, 7]), (3, [6, 7], [6, 7]), (4, [6], [6])]⟩ 29 (Try.f76.body.getD .skip) = some my76 := by kernel_rfl
theorem does76 {args : List LV} (hl : args.length.ble 29 = true) {S S' : List (List LV)} (hS : S'.length = S.length) {o : Out} (h : Lt ⟨numE 0 args, argS 0 S, []⟩ (awp Try.prog my76 (Fin [(.c 6 (some 8))] o S'))) : Does Try.prog 76 args S o S' :=
  does_of_awp mixed Try.func76 (by kernel_rfl) (by kernel_rfl) my76_is (by kernel_rfl) (Nat.le_of_ble_eq_true hl) hS h
attribute [go_sem ↓] w76_0 w76_1 w76_2 w76_3 w76_4
attribute [go_sem] my76
/-! ### 77: lychgate/coerce.counted$1 -/
def r77_0 : MC := .reg [⟨none, (.mv 4 (.c (.imm true (.bool false))))⟩] none (some ([0, 1, 2], []))
def w77_0 := @awpR_no Try.prog Q σ r77_0 _ _ ⟨rfl, rfl⟩
def r77_1 : MC := .reg [⟨none, (.load 6 (.t 1) none)⟩, ⟨none, (.bin 7 .add (.t 6) (.c (.imm true (.int .i64 1))))⟩, ⟨none, (.store (.t 1) (.t 7) 1)⟩] none (some ([0, 1, 2], []))
def w77_1 := @awpR_no Try.prog Q σ r77_1 _ _ ⟨rfl, rfl⟩
def r77_2 : MC := .reg [⟨none, (.mv 8 (.t 0))⟩, ⟨none, (.nilc 9 (.t 8))⟩, ⟨none, (.fad 10 (.t 9) 0)⟩, ⟨none, (.load 11 (.t 10) none)⟩, ⟨none, (.call (some 12) (.c (.fn 78 [])) [(.t 11)])⟩] none (some ([0, 1, 2, 12], []))
def w77_2 := @awpR_no Try.prog Q σ r77_2 _ _ ⟨rfl, rfl⟩
def r77_3 : MC := .reg [⟨none, (.load 13 (.t 1) none)⟩, ⟨none, (.mv 14 (.t 0))⟩, ⟨none, (.nilc 15 (.t 14))⟩, ⟨none, (.fad 16 (.t 15) 1)⟩, ⟨none, (.load 17 (.t 16) (some 2))⟩, ⟨none, (.call (some 18) (.c (.fn 38 [])) [(.t 17)])⟩, ⟨none, (.bin 19 .add (.t 13) (.t 18))⟩, ⟨none, (.store (.t 1) (.t 19) 1)⟩] (some []) (some ([0, 1, 2], []))
def w77_3 := @awpD_no Try.prog Q σ r77_3 _ _ _ ⟨rfl, rfl⟩
def r77_4 : MC := .reg [⟨none, (.mv 20 (.t 0))⟩, ⟨none, (.nilc 21 (.t 20))⟩, ⟨none, (.fad 22 (.t 21) 0)⟩, ⟨none, (.load 23 (.t 22) none)⟩, ⟨none, (.bin 24 .eql (.t 23) (.c (.imm true (.int .i8 1))))⟩] none (some ([0, 1, 2, 24], []))
def w77_4 := @awpR_no Try.prog Q σ r77_4 _ _ ⟨rfl, rfl⟩
def r77_5 : MC := .reg [⟨none, (.load 25 (.t 1) none)⟩, ⟨none, (.mv 26 (.t 0))⟩, ⟨none, (.nilc 27 (.t 26))⟩, ⟨none, (.fad 28 (.t 27) 3)⟩, ⟨none, (.load 29 (.t 28) (some 2))⟩, ⟨none, (.call (some 30) (.c (.fn 38 [])) [(.t 29)])⟩, ⟨none, (.bin 31 .add (.t 25) (.t 30))⟩, ⟨none, (.store (.t 1) (.t 31) 1)⟩] (some []) (some ([0, 1, 2], []))
def w77_5 := @awpD_no Try.prog Q σ r77_5 _ _ _ ⟨rfl, rfl⟩
def r77_6 : MC := .reg [⟨none, (.mv 32 (.t 0))⟩, ⟨none, (.nilc 33 (.t 32))⟩, ⟨none, (.fad 34 (.t 33) 7)⟩, ⟨none, (.load 35 (.t 34) none)⟩, ⟨none, (.len 36 (.t 35))⟩, ⟨none, (.mv 37 (.c (.imm true (.int .i64 0))))⟩] none (some ([0, 1, 2, 36, 37], []))
def w77_6 := @awpR_no Try.prog Q σ r77_6 _ _ ⟨rfl, rfl⟩
def r77_7 : MC := .reg [⟨none, (.bin 38 .lss (.t 37) (.t 36))⟩] none (some ([0, 1, 2, 36, 37, 38], []))
def w77_7 := @awpR_no Try.prog Q σ r77_7 _ _ ⟨rfl, rfl⟩
def r77_8 : MC := .reg [⟨none, (.mv 39 (.t 37))⟩, ⟨none, (.mv 5 (.t 39))⟩] none (some ([0, 1, 2, 5, 36, 37], []))
def w77_8 := @awpR_no Try.prog Q σ r77_8 _ _ ⟨rfl, rfl⟩
def r77_9 : MC := .reg [⟨none, (.load 40 (.t 1) none)⟩, ⟨none, (.bin 41 .gtr (.t 40) (.c (.imm true (.int .i64 8192))))⟩, ⟨none, (.mv 42 (.t 41))⟩, ⟨(some (42, false)), (.load 43 (.t 2) none)⟩, ⟨(some (42, false)), (.mv 44 (.t 0))⟩, ⟨(some (42, false)), (.nilc 45 (.t 44))⟩, ⟨(some (42, false)), (.fad 46 (.t 45) 7)⟩, ⟨(some (42, false)), (.load 47 (.t 46) none)⟩, ⟨(some (42, false)), (.mv 48 (.t 5))⟩, ⟨(some (42, false)), (.iad 49 (.t 47) (.t 48) 8)⟩, ⟨(some (42, false)), (.callB (some 50) (.t 43) [(.t 49)] [(.arg 0), (.arg 1)])⟩, ⟨(some (42, false)), (.un 51 .not (.t 50))⟩, ⟨none, (.pick 52 (.t 42) (.c (.imm true (.bool true))) (.t 51))⟩] (some []) (some ([0, 1, 2, 36, 37, 52], []))
def w77_9 := @awpD_no Try.prog Q σ r77_9 _ _ _ ⟨rfl, rfl⟩
def r77_10 : MC := .reg [⟨none, (.mv 4 (.c (.imm true (.bool false))))⟩] none (some ([4], []))
def w77_10 := @awpR_no Try.prog Q σ r77_10 _ _ ⟨rfl, rfl⟩
def r77_11 : MC := .reg [⟨none, (.bin 53 .add (.t 37) (.c (.imm true (.int .i64 1))))⟩, ⟨none, (.mv 37 (.t 53))⟩] none (some ([0, 1, 2, 36, 37], []))
def w77_11 := @awpR_no Try.prog Q σ r77_11 _ _ ⟨rfl, rfl⟩
def l77_0 : MC := (.seq r77_7 (.seq (.cond (.t 38) .skip (.exit 0)) (.seq (.block 1 (.seq r77_8 (.seq r77_9 (.cond (.t 52) (.seq r77_10 .ret) .skip)))) r77_11)))
def r77_12 : MC := .reg [⟨none, (.load 54 (.t 1) none)⟩, ⟨none, (.bin 55 .leq (.t 54) (.c (.imm true (.int .i64 8192))))⟩, ⟨none, (.mv 4 (.t 55))⟩] none (some ([4], []))
def w77_12 := @awpR_no Try.prog Q σ r77_12 _ _ ⟨rfl, rfl⟩
def my77 : MC := (.seq r77_0 (.seq r77_1 (.seq (.seq r77_2 (.cond (.t 12) r77_3 .skip)) (.seq (.seq r77_4 (.cond (.t 24) r77_5 .skip)) (.seq (.seq r77_6 (.block 0 (.loop l77_0))) (.seq r77_12 .ret))))))
theorem my77_is : trC Try.prog ⟨[], [(50, [.arg 0, .arg 1])]⟩ ⟨[(3, [[], [], [1], [1, 2], [1, 2, 3], [1, 2, 3, 4], [0, 1, 2, 3, 4, 5], [0, 1, 2, 3, 4, 5, 6]], []), (5, [[], [], [1], [1, 2], [1, 2, 3], [1, 2, 3, 4], [0, 1, 2, 3, 4, 5], [0, 1, 2, 3, 4, 5, 6]], []), (9, [[], [0], [0, 1], [0, 1, 2], [0, 1, 2], [0, 1, 2, 4], [0, 1, 2, 4, 5], [0, 1, 2, 4, 5, 6], [0, 1, 2], [0, 1, 2, 4, 5, 6, 7, 8], [0, 1, 2, 3, 4, 5, 6, 7, 8, 9], [0, 1, 2, 3, 4, 5, 6, 7, 8, 9, 10], [0, 1, 2, 3, 4, 5, 6, 7, 8, 9, 10, 11]], [])],
  [(0, [0, 1, 2], []), (1, [0, 1, 2], []), (2, [0, 1, 2, 12], []), (3, [0, 1, 2], []), (4, [0, 1, 2, 24], []), (5, [0, 1, 2], []), (6, [0, 1, 2, 36, 37], []), (7, [0, 1, 2, 36, 37, 38], []), (8, [0, 1, 2, 5, 36, 37], []), (9, [0, 1, 2, 36, 37, 52], []), (10, [4], []), (11, [0, 1, 2, 36, 37], []), (12, [4], [])]⟩ 56 (Try.f77.body.getD .skip) = some my77 := by kernel_rfl
theorem does77 {args : List LV} (hl : args.length.ble 56 = true) {S S' : List (List LV)} (hS : S'.length = S.length) {o : Out} (h : Lt ⟨numE 0 args, argS 0 S, []⟩ (awp Try.prog my77 (Fin [(.t 4)] o S'))) : Does Try.prog 77 args S o S' :=
  does_of_awp mixed Try.func77 (by kernel_rfl) (by kernel_rfl) my77_is (by kernel_rfl) (Nat.le_of_ble_eq_true hl) hS h
attribute [go_sem ↓] w77_0 w77_1 w77_2 w77_3 w77_4 w77_5 w77_6 w77_7 w77_8 w77_9 w77_10 w77_11 w77_12
attribute [go_sem] my77
/-! ### 46: lychgate/coerce.counted -/
def r46_0 : MC := .reg [⟨none, (.mv 2 (.c (.imm true (.bool false))))⟩] none (some ([0], []))
def w46_0 := @awpR_no Try.prog Q σ r46_0 _ _ ⟨rfl, rfl⟩
def r46_1 : MC := .reg [⟨none, (.alloc 3 [(.imm true (.int .i64 0))])⟩, ⟨none, (.store (.t 3) (.c (.imm true (.int .i64 0))) 1)⟩] none (some ([0, 3], [3]))
def w46_1 := @awpR_get Try.prog Q σ r46_1 _ _ [3] ⟨rfl, rfl⟩
def r46_2 : MC := .reg [⟨none, (.alloc 4 [.undef])⟩] none (some ([0, 3, 4], [3, 4]))
def w46_2 := @awpR_get Try.prog Q σ r46_2 _ _ [4] ⟨rfl, rfl⟩
def r46_3 : MC := .reg [⟨none, (.mkfn 5 77 [(.t 3), (.t 4)])⟩, ⟨none, (.store (.t 4) (.t 5) 1)⟩] none (some ([0, 4], [3, 4]))
def w46_3 := @awpR_no Try.prog Q σ r46_3 _ _ ⟨rfl, rfl⟩
def r46_4 : MC := .reg [⟨none, (.load 6 (.t 4) none)⟩, ⟨none, (.mv 7 (.t 0))⟩, ⟨none, (.callB (some 8) (.t 6) [(.t 7)] [(.own 3), (.own 4)])⟩, ⟨none, (.mv 2 (.t 8))⟩] none (some ([2], []))
def w46_4 := @awpR_no Try.prog Q σ r46_4 _ _ ⟨rfl, rfl⟩
def my46 : MC := (.seq r46_0 (.seq r46_1 (.seq r46_2 (.seq r46_3 (.seq r46_4 .ret)))))
theorem my46_is : trC Try.prog ⟨[], [(8, [.own 3, .own 4])]⟩ ⟨[],
  [(0, [0], []), (1, [0, 3], [3]), (2, [0, 3, 4], [3, 4]), (3, [0, 4], [3, 4]), (4, [2], [])]⟩ 9 (Try.f46.body.getD .skip) = some my46 := by kernel_rfl
theorem does46 {args : List LV} (hl : args.length.ble 9 = true) {S S' : List (List LV)} (hS : S'.length = S.length) {o : Out} (h : Lt ⟨numE 0 args, argS 0 S, []⟩ (awp Try.prog my46 (Fin [(.t 2)] o S'))) : Does Try.prog 46 args S o S' :=
  does_of_awp mixed Try.func46 (by kernel_rfl) (by kernel_rfl) my46_is (by kernel_rfl) (Nat.le_of_ble_eq_true hl) hS h
attribute [go_sem ↓] w46_0 w46_1 w46_2 w46_3 w46_4
attribute [go_sem] my46
/-! ### 47: lychgate/coerce.deep -/
def r47_0 : MC := .reg [⟨none, (.mv 4 (.c (.imm true (.int .i64 0))))⟩] none (some ([0, 1], []))
def w47_0 := @awpR_no Try.prog Q σ r47_0 _ _ ⟨rfl, rfl⟩
def r47_1 : MC := .reg [⟨none, (.mv 7 (.t 1))⟩, ⟨none, (.bin 8 .eql (.t 7) (.c (.imm true (.int .i64 1))))⟩] none (some ([0, 1, 8], []))
def w47_1 := @awpR_no Try.prog Q σ r47_1 _ _ ⟨rfl, rfl⟩
def r47_2 : MC := .reg [⟨none, (.mv 4 (.c (.imm true (.int .i64 1))))⟩] none (some ([4], []))
def w47_2 := @awpR_no Try.prog Q σ r47_2 _ _ ⟨rfl, rfl⟩
def r47_3 : MC := .reg [⟨none, (.mv 5 (.c (.imm true (.int .i64 0))))⟩] none (some ([0, 1, 5], []))
def w47_3 := @awpR_no Try.prog Q σ r47_3 _ _ ⟨rfl, rfl⟩
def r47_4 : MC := .reg [⟨none, (.mv 9 (.t 0))⟩, ⟨none, (.nilc 10 (.t 9))⟩, ⟨none, (.fad 11 (.t 10) 0)⟩, ⟨none, (.load 12 (.t 11) none)⟩, ⟨none, (.call (some 13) (.c (.fn 78 [])) [(.t 12)])⟩] none (some ([0, 1, 5, 13], []))
def w47_4 := @awpR_no Try.prog Q σ r47_4 _ _ ⟨rfl, rfl⟩
def r47_5 : MC := .reg [⟨none, (.mv 14 (.t 0))⟩, ⟨none, (.nilc 15 (.t 14))⟩, ⟨none, (.fad 16 (.t 15) 1)⟩, ⟨none, (.load 17 (.t 16) (some 2))⟩, ⟨none, (.call (some 18) (.c (.fn 70 [])) [(.t 17)])⟩, ⟨none, (.mv 5 (.t 18))⟩] none (some ([0, 1, 5], []))
def w47_5 := @awpR_no Try.prog Q σ r47_5 _ _ ⟨rfl, rfl⟩
def r47_6 : MC := .reg [⟨none, (.mv 19 (.t 0))⟩, ⟨none, (.nilc 20 (.t 19))⟩, ⟨none, (.fad 21 (.t 20) 0)⟩, ⟨none, (.load 22 (.t 21) none)⟩, ⟨none, (.bin 23 .eql (.t 22) (.c (.imm true (.int .i8 1))))⟩] none (some ([0, 1, 5, 23], []))
def w47_6 := @awpR_no Try.prog Q σ r47_6 _ _ ⟨rfl, rfl⟩
def r47_7 : MC := .reg [⟨none, (.mv 24 (.t 5))⟩, ⟨none, (.mv 25 (.t 0))⟩, ⟨none, (.nilc 26 (.t 25))⟩, ⟨none, (.fad 27 (.t 26) 3)⟩, ⟨none, (.load 28 (.t 27) (some 2))⟩, ⟨none, (.call (some 29) (.c (.fn 70 [])) [(.t 28)])⟩, ⟨none, (.mx 30 [(.t 24), (.t 29)])⟩, ⟨none, (.mv 5 (.t 30))⟩] none (some ([0, 1, 5], []))
def w47_7 := @awpR_no Try.prog Q σ r47_7 _ _ ⟨rfl, rfl⟩
def r47_8 : MC := .reg [⟨none, (.mv 31 (.t 0))⟩, ⟨none, (.nilc 32 (.t 31))⟩, ⟨none, (.fad 33 (.t 32) 7)⟩, ⟨none, (.load 34 (.t 33) none)⟩, ⟨none, (.len 35 (.t 34))⟩, ⟨none, (.mv 36 (.c (.imm true (.int .i64 0))))⟩] none (some ([0, 1, 5, 35, 36], []))
def w47_8 := @awpR_no Try.prog Q σ r47_8 _ _ ⟨rfl, rfl⟩
def r47_9 : MC := .reg [⟨none, (.bin 37 .lss (.t 36) (.t 35))⟩] none (some ([0, 1, 5, 35, 36, 37], []))
def w47_9 := @awpR_no Try.prog Q σ r47_9 _ _ ⟨rfl, rfl⟩
def r47_10 : MC := .reg [⟨none, (.mv 38 (.t 36))⟩, ⟨none, (.mv 6 (.t 38))⟩] none (some ([0, 1, 5, 6, 35, 36], []))
def w47_10 := @awpR_no Try.prog Q σ r47_10 _ _ ⟨rfl, rfl⟩
def r47_11 : MC := .reg [⟨none, (.mv 39 (.t 5))⟩, ⟨none, (.mv 40 (.t 0))⟩, ⟨none, (.nilc 41 (.t 40))⟩, ⟨none, (.fad 42 (.t 41) 7)⟩, ⟨none, (.load 43 (.t 42) none)⟩, ⟨none, (.mv 44 (.t 6))⟩, ⟨none, (.iad 45 (.t 43) (.t 44) 8)⟩, ⟨none, (.mv 46 (.t 1))⟩, ⟨none, (.bin 47 .sub (.t 46) (.c (.imm true (.int .i64 1))))⟩, ⟨none, (.call (some 48) (.c (.fn 47 [])) [(.t 45), (.t 47)])⟩, ⟨none, (.mx 49 [(.t 39), (.t 48)])⟩, ⟨none, (.mv 5 (.t 49))⟩] none (some ([0, 1, 5, 35, 36], []))
def w47_11 := @awpR_no Try.prog Q σ r47_11 _ _ ⟨rfl, rfl⟩
def r47_12 : MC := .reg [⟨none, (.bin 50 .add (.t 36) (.c (.imm true (.int .i64 1))))⟩, ⟨none, (.mv 36 (.t 50))⟩] none (some ([0, 1, 5, 35, 36], []))
def w47_12 := @awpR_no Try.prog Q σ r47_12 _ _ ⟨rfl, rfl⟩
def l47_0 : MC := (.seq r47_9 (.seq (.cond (.t 37) .skip (.exit 0)) (.seq (.block 1 (.seq r47_10 r47_11)) r47_12)))
def r47_13 : MC := .reg [⟨none, (.mv 51 (.t 5))⟩, ⟨none, (.bin 52 .add (.t 51) (.c (.imm true (.int .i64 1))))⟩, ⟨none, (.mv 53 (.t 1))⟩, ⟨none, (.mn 54 [(.t 52), (.t 53)])⟩, ⟨none, (.mv 4 (.t 54))⟩] none (some ([4], []))
def w47_13 := @awpR_no Try.prog Q σ r47_13 _ _ ⟨rfl, rfl⟩
def my47 : MC := (.seq r47_0 (.seq (.seq r47_1 (.cond (.t 8) (.seq r47_2 .ret) .skip)) (.seq r47_3 (.seq (.seq r47_4 (.cond (.t 13) r47_5 .skip)) (.seq (.seq r47_6 (.cond (.t 23) r47_7 .skip)) (.seq (.seq r47_8 (.block 0 (.loop l47_0))) (.seq r47_13 .ret)))))))
theorem my47_is : trC Try.prog ⟨[], []⟩ ⟨[],
  [(0, [0, 1], []), (1, [0, 1, 8], []), (2, [4], []), (3, [0, 1, 5], []), (4, [0, 1, 5, 13], []), (5, [0, 1, 5], []), (6, [0, 1, 5, 23], []), (7, [0, 1, 5], []), (8, [0, 1, 5, 35, 36], []), (9, [0, 1, 5, 35, 36, 37], []), (10, [0, 1, 5, 6, 35, 36], []), (11, [0, 1, 5, 35, 36], []), (12, [0, 1, 5, 35, 36], []), (13, [4], [])]⟩ 55 (Try.f47.body.getD .skip) = some my47 := by kernel_rfl
theorem does47 {args : List LV} (hl : args.length.ble 55 = true) {S S' : List (List LV)} (hS : S'.length = S.length) {o : Out} (h : Lt ⟨numE 0 args, argS 0 S, []⟩ (awp Try.prog my47 (Fin [(.t 4)] o S'))) : Does Try.prog 47 args S o S' :=
  does_of_awp mixed Try.func47 (by kernel_rfl) (by kernel_rfl) my47_is (by kernel_rfl) (Nat.le_of_ble_eq_true hl) hS h
attribute [go_sem ↓] w47_0 w47_1 w47_2 w47_3 w47_4 w47_5 w47_6 w47_7 w47_8 w47_9 w47_10 w47_11 w47_12 w47_13
attribute [go_sem] my47
/-! ### 80: lychgate/coerce.ground -/
def r80_0 : MC := .reg [⟨none, (.boxc 1 (.t 0))⟩, ⟨none, (.mv 2 (.c (.imm true (.bool false))))⟩] none (some ([1], []))
def w80_0 := @awpR_no Try.prog Q σ r80_0 _ _ ⟨rfl, rfl⟩
def r80_1 : MC := .reg [⟨none, (.load 6 (.t 1) (some 2))⟩, ⟨none, (.call (some 7) (.c (.fn 31 [])) [(.t 6)])⟩, ⟨none, (.mv 5 (.t 7))⟩, ⟨none, (.ext 8 (.t 5) 0)⟩, ⟨none, (.ext 9 (.t 5) 1)⟩, ⟨none, (.alloc 3 z2)⟩, ⟨none, (.store (.t 3) (.t 8) 2)⟩, ⟨none, (.mv 4 (.t 9))⟩] none (some ([1, 3, 4], [3]))
def w80_1 := @awpR_get Try.prog Q σ r80_1 _ _ [3] ⟨rfl, rfl⟩
def r80_2 : MC := .reg [⟨none, (.mv 10 (.t 4))⟩, ⟨none, (.mv 11 (.t 10))⟩, ⟨(some (11, true)), (.load 12 (.t 1) (some 2))⟩, ⟨(some (11, true)), (.load 13 (.t 3) (some 2))⟩, ⟨(some (11, true)), (.call (some 14) (.c (.fn 14 [])) [(.t 12), (.t 13)])⟩, ⟨none, (.pick 15 (.t 11) (.t 14) (.c (.imm true (.bool false))))⟩, ⟨none, (.mv 2 (.t 15))⟩] none (some ([2], []))
def w80_2 := @awpR_no Try.prog Q σ r80_2 _ _ ⟨rfl, rfl⟩
def my80 : MC := (.seq r80_0 (.seq r80_1 (.seq r80_2 .ret)))
theorem my80_is : trC Try.prog ⟨[1], []⟩ ⟨[],
  [(0, [1], []), (1, [1, 3, 4], [3]), (2, [2], [])]⟩ 16 (Try.f80.body.getD .skip) = some my80 := by kernel_rfl
theorem does80 {args : List LV} (hl : args.length.ble 16 = true) {S S' : List (List LV)} (hS : S'.length = S.length) {o : Out} (h : Lt ⟨numE 0 args, argS 0 S, []⟩ (awp Try.prog my80 (Fin [(.t 2)] o S'))) : Does Try.prog 80 args S o S' :=
  does_of_awp mixed Try.func80 (by kernel_rfl) (by kernel_rfl) my80_is (by kernel_rfl) (Nat.le_of_ble_eq_true hl) hS h
attribute [go_sem ↓] w80_0 w80_1 w80_2
attribute [go_sem] my80
/-! ### 48: lychgate/coerce.ends -/
def r48_0 : MC := .reg [⟨none, (.alloc 2 z2)⟩, ⟨none, (.alloc 3 z2)⟩, ⟨none, (.mv 4 (.c (.imm true (.bool false))))⟩] none (some ([0, 2, 3], [2, 3]))
def w48_0 := @awpR_get Try.prog Q σ r48_0 _ _ [2, 3] ⟨rfl, rfl⟩
def r48_1 : MC := .reg [⟨none, (.mv 6 (.t 0))⟩, ⟨none, (.nilc 7 (.t 6))⟩, ⟨none, (.fad 8 (.t 7) 0)⟩, ⟨none, (.load 9 (.t 8) none)⟩, ⟨none, (.call (some 10) (.c (.fn 78 [])) [(.t 9)])⟩, ⟨none, (.un 11 .not (.t 10))⟩] none (some ([0, 2, 3, 11], [2, 3]))
def w48_1 := @awpR_no Try.prog Q σ r48_1 _ _ ⟨rfl, rfl⟩
def r48_2 : MC := .reg [⟨none, (.mv 12 (.t 0))⟩, ⟨none, (.call (some 13) (.c (.fn 79 [])) [(.t 12)])⟩, ⟨none, (.ext 14 (.t 13) 0)⟩, ⟨none, (.ext 15 (.t 13) 1)⟩, ⟨none, (.ext 16 (.t 13) 2)⟩, ⟨none, (.store (.t 2) (.t 14) 2)⟩, ⟨none, (.store (.t 3) (.t 15) 2)⟩, ⟨none, (.mv 4 (.t 16))⟩] none (some ([2, 3, 4], [2, 3]))
def w48_2 := @awpR_no Try.prog Q σ r48_2 _ _ ⟨rfl, rfl⟩
def r48_3 : MC := .reg [⟨none, (.mv 17 (.t 0))⟩, ⟨none, (.nilc 18 (.t 17))⟩, ⟨none, (.fad 19 (.t 18) 7)⟩, ⟨none, (.load 20 (.t 19) none)⟩, ⟨none, (.len 21 (.t 20))⟩, ⟨none, (.bin 22 .neq (.t 21) (.c (.imm true (.int .i64 0))))⟩, ⟨none, (.mv 23 (.t 22))⟩, ⟨(some (23, false)), (.mv 24 (.t 0))⟩, ⟨(some (23, false)), (.nilc 25 (.t 24))⟩, ⟨(some (23, false)), (.fad 26 (.t 25) 1)⟩, ⟨(some (23, false)), (.load 27 (.t 26) (some 2))⟩, ⟨(some (23, false)), (.call (some 28) (.c (.fn 37 [])) [(.t 27)])⟩, ⟨(some (23, false)), (.bin 29 .neq (.t 28) (.c (.imm true (.int .i64 0))))⟩, ⟨none, (.pick 30 (.t 23) (.c (.imm true (.bool true))) (.t 29))⟩] none (some ([0, 2, 3, 30], [2, 3]))
def w48_3 := @awpR_no Try.prog Q σ r48_3 _ _ ⟨rfl, rfl⟩
def r48_4 : MC := .reg [⟨none, (.load 31 (.t 2) (some 2))⟩, ⟨none, (.load 32 (.t 3) (some 2))⟩, ⟨none, (.store (.t 2) (.t 31) 2)⟩, ⟨none, (.store (.t 3) (.t 32) 2)⟩, ⟨none, (.mv 4 (.c (.imm true (.bool false))))⟩] (some [(1, 2)]) (some ([2, 3, 4], [2, 3]))
def w48_4 := @awpD_no Try.prog Q σ r48_4 _ _ _ ⟨rfl, rfl⟩
def r48_5 : MC := .reg [⟨none, (.mv 33 (.t 0))⟩, ⟨none, (.nilc 34 (.t 33))⟩, ⟨none, (.fad 35 (.t 34) 5)⟩, ⟨none, (.load 36 (.t 35) none)⟩, ⟨none, (.bin 37 .geq (.t 36) (.c (.imm true (.int .i64 1))))⟩, ⟨none, (.mv 38 (.t 37))⟩, ⟨(some (38, true)), (.mv 39 (.t 0))⟩, ⟨(some (38, true)), (.nilc 40 (.t 39))⟩, ⟨(some (38, true)), (.fad 41 (.t 40) 5)⟩, ⟨(some (38, true)), (.load 42 (.t 41) none)⟩, ⟨(some (38, true)), (.bin 43 .leq (.t 42) (.c (.imm true (.int .i64 2147483648))))⟩, ⟨none, (.pick 44 (.t 38) (.t 43) (.c (.imm true (.bool false))))⟩, ⟨none, (.mv 5 (.t 44))⟩] none (some ([0, 2, 3, 5], [2, 3]))
def w48_5 := @awpR_no Try.prog Q σ r48_5 _ _ ⟨rfl, rfl⟩
def r48_6 : MC := .reg [⟨none, (.mv 45 (.t 0))⟩, ⟨none, (.nilc 46 (.t 45))⟩, ⟨none, (.fad 47 (.t 46) 0)⟩, ⟨none, (.load 48 (.t 47) none)⟩] none (some ([0, 2, 3, 5, 48], [2, 3]))
def w48_6 := @awpR_no Try.prog Q σ r48_6 _ _ ⟨rfl, rfl⟩
def r48_7 : MC := .reg [⟨none, (.bin 50 .eql (.t 48) (.c (.imm true (.int .i8 0))))⟩, ⟨none, (.mv 49 (.t 50))⟩] none (some ([0, 2, 3, 5, 48, 49], [2, 3]))
def w48_7 := @awpR_no Try.prog Q σ r48_7 _ _ ⟨rfl, rfl⟩
def r48_8 : MC := .reg [⟨none, (.mv 51 (.t 0))⟩, ⟨none, (.nilc 52 (.t 51))⟩, ⟨none, (.fad 53 (.t 52) 1)⟩, ⟨none, (.load 54 (.t 53) (some 2))⟩, ⟨none, (.mv 55 (.t 0))⟩, ⟨none, (.nilc 56 (.t 55))⟩, ⟨none, (.fad 57 (.t 56) 1)⟩, ⟨none, (.load 58 (.t 57) (some 2))⟩, ⟨none, (.store (.t 2) (.t 54) 2)⟩, ⟨none, (.store (.t 3) (.t 58) 2)⟩, ⟨none, (.mv 4 (.c (.imm true (.bool true))))⟩] (some [(4, 8), (5, 8), (6, 8), (7, 8)]) (some ([2, 3, 4], [2, 3]))
def w48_8 := @awpD_no Try.prog Q σ r48_8 _ _ _ ⟨rfl, rfl⟩
def r48_9 : MC := .reg [⟨none, (.bin 60 .eql (.t 48) (.c (.imm true (.int .i8 2))))⟩, ⟨none, (.mv 59 (.t 60))⟩] none (some ([0, 2, 3, 5, 48, 59], [2, 3]))
def w48_9 := @awpR_no Try.prog Q σ r48_9 _ _ ⟨rfl, rfl⟩
def r48_10 : MC := .reg [⟨none, (.mv 61 (.t 0))⟩, ⟨none, (.nilc 62 (.t 61))⟩, ⟨none, (.fad 63 (.t 62) 1)⟩, ⟨none, (.load 64 (.t 63) (some 2))⟩, ⟨none, (.build 65 z2 [])⟩, ⟨none, (.mv 66 (.t 0))⟩, ⟨none, (.nilc 67 (.t 66))⟩, ⟨none, (.fad 68 (.t 67) 1)⟩, ⟨none, (.load 69 (.t 68) (some 2))⟩, ⟨none, (.call (some 70) (.c (.fn 80 [])) [(.t 69)])⟩, ⟨none, (.store (.t 2) (.t 64) 2)⟩, ⟨none, (.store (.t 3) (.t 65) 2)⟩, ⟨none, (.mv 4 (.t 70))⟩] (some [(4, 10)]) (some ([2, 3, 4], [2, 3]))
def w48_10 := @awpD_no Try.prog Q σ r48_10 _ _ _ ⟨rfl, rfl⟩
def r48_11 : MC := .reg [⟨none, (.bin 72 .eql (.t 48) (.c (.imm true (.int .i8 3))))⟩, ⟨none, (.mv 71 (.t 72))⟩] none (some ([0, 2, 3, 5, 71], [2, 3]))
def w48_11 := @awpR_no Try.prog Q σ r48_11 _ _ ⟨rfl, rfl⟩
def r48_12 : MC := .reg [⟨none, (.build 73 z2 [])⟩, ⟨none, (.mv 74 (.t 0))⟩, ⟨none, (.nilc 75 (.t 74))⟩, ⟨none, (.fad 76 (.t 75) 1)⟩, ⟨none, (.load 77 (.t 76) (some 2))⟩, ⟨none, (.mv 78 (.t 0))⟩, ⟨none, (.nilc 79 (.t 78))⟩, ⟨none, (.fad 80 (.t 79) 1)⟩, ⟨none, (.load 81 (.t 80) (some 2))⟩, ⟨none, (.call (some 82) (.c (.fn 80 [])) [(.t 81)])⟩, ⟨none, (.mv 83 (.t 82))⟩, ⟨(some (83, true)), (.mv 84 (.t 5))⟩, ⟨none, (.pick 85 (.t 83) (.t 84) (.c (.imm true (.bool false))))⟩, ⟨none, (.store (.t 2) (.t 73) 2)⟩, ⟨none, (.store (.t 3) (.t 77) 2)⟩, ⟨none, (.mv 4 (.t 85))⟩] (some [(1, 13), (2, 13), (3, 13), (4, 13), (11, 13), (12, 13), (11, 14), (12, 14)]) (some ([2, 3, 4], [2, 3]))
def w48_12 := @awpD_no Try.prog Q σ r48_12 _ _ _ ⟨rfl, rfl⟩
def r48_13 : MC := .reg [⟨none, (.mv 86 (.t 0))⟩, ⟨none, (.nilc 87 (.t 86))⟩, ⟨none, (.fad 88 (.t 87) 1)⟩, ⟨none, (.load 89 (.t 88) (some 2))⟩, ⟨none, (.mv 90 (.t 0))⟩, ⟨none, (.nilc 91 (.t 90))⟩, ⟨none, (.fad 92 (.t 91) 3)⟩, ⟨none, (.load 93 (.t 92) (some 2))⟩, ⟨none, (.mv 94 (.t 5))⟩, ⟨none, (.mv 95 (.t 94))⟩, ⟨(some (95, true)), (.mv 96 (.t 0))⟩, ⟨(some (95, true)), (.nilc 97 (.t 96))⟩, ⟨(some (95, true)), (.fad 98 (.t 97) 1)⟩, ⟨(some (95, true)), (.fad 99 (.t 98) 0)⟩, ⟨(some (95, true)), (.load 100 (.t 99) none)⟩, ⟨(some (95, true)), (.bin 101 .neq (.t 100) (.c (.imm true (.int .i8 0))))⟩, ⟨none, (.pick 102 (.t 95) (.t 101) (.c (.imm true (.bool false))))⟩, ⟨none, (.mv 103 (.t 102))⟩, ⟨(some (103, true)), (.mv 104 (.t 0))⟩, ⟨(some (103, true)), (.nilc 105 (.t 104))⟩, ⟨(some (103, true)), (.fad 106 (.t 105) 3)⟩, ⟨(some (103, true)), (.load 107 (.t 106) (some 2))⟩, ⟨(some (103, true)), (.call (some 108) (.c (.fn 37 [])) [(.t 107)])⟩, ⟨(some (103, true)), (.bin 109 .eql (.t 108) (.c (.imm true (.int .i64 0))))⟩, ⟨none, (.pick 110 (.t 103) (.t 109) (.c (.imm true (.bool false))))⟩, ⟨none, (.store (.t 2) (.t 89) 2)⟩, ⟨none, (.store (.t 3) (.t 93) 2)⟩, ⟨none, (.mv 4 (.t 110))⟩] (some [(4, 25), (5, 25), (6, 25), (7, 25), (23, 25), (24, 25), (23, 26), (24, 26)]) (some ([2, 3, 4], [2, 3]))
def w48_13 := @awpD_no Try.prog Q σ r48_13 _ _ _ ⟨rfl, rfl⟩
def my48 : MC := (.seq r48_0 (.seq (.seq r48_1 (.cond (.t 11) (.seq r48_2 .ret) .skip)) (.seq (.seq r48_3 (.cond (.t 30) (.seq r48_4 .ret) .skip)) (.seq r48_5 (.seq (.seq r48_6 (.block 0 (.seq r48_7 (.cond (.t 49) (.seq r48_8 .ret) (.seq r48_9 (.cond (.t 59) (.seq r48_10 .ret) (.seq r48_11 (.cond (.t 71) (.seq r48_12 .ret) .skip)))))))) (.seq r48_13 .ret))))))
theorem my48_is : trC Try.prog ⟨[], []⟩ ⟨[(4, [[], [], [0], [0, 1, 2], [0, 1, 2, 3]], [(1, 2)]), (8, [[], [0], [0, 1], [0, 1, 2], [], [4], [4, 5], [4, 5, 6], [0, 1, 2, 3], [0, 1, 2, 3, 4, 5, 6, 7, 8], [0, 1, 2, 3, 4, 5, 6, 7, 8, 9]], [(4, 8), (5, 8), (6, 8), (7, 8)]), (10, [[], [0], [0, 1], [0, 1, 2], [], [], [5], [5, 6], [5, 6, 7], [5, 6, 7, 8], [0, 1, 2, 3, 5, 6, 7, 8, 9], [0, 1, 2, 3, 4, 5, 6, 7, 8, 9, 10], [0, 1, 2, 3, 4, 5, 6, 7, 8, 9, 10, 11]], [(4, 10)]), (12, [[], [], [1], [1, 2], [1, 2, 3], [], [5], [5, 6], [5, 6, 7], [5, 6, 7, 8], [5, 6, 7, 8, 9], [5, 6, 7, 8, 9, 10], [5, 6, 7, 8, 9, 10, 11], [0, 5, 6, 7, 8, 9, 10], [0, 1, 2, 3, 4, 5, 6, 7, 8, 9, 10, 13], [0, 1, 2, 3, 4, 5, 6, 7, 8, 9, 10, 11, 12, 13, 14]], [(1, 13), (2, 13), (3, 13), (4, 13), (11, 13), (12, 13), (11, 14), (12, 14)]), (13, [[], [0], [0, 1], [0, 1, 2], [], [4], [4, 5], [4, 5, 6], [], [8], [8, 9], [8, 9, 10], [8, 9, 10, 11], [8, 9, 10, 11, 12], [8, 9, 10, 11, 12, 13], [8, 9, 10, 11, 12, 13, 14], [8, 9, 10, 11, 12, 13, 14, 15], [8, 9, 10, 11, 12, 13, 14, 15, 16], [8, 9, 10, 11, 12, 13, 14, 15, 16, 17], [8, 9, 10, 11, 12, 13, 14, 15, 16, 17, 18], [8, 9, 10, 11, 12, 13, 14, 15, 16, 17, 18, 19], [8, 9, 10, 11, 12, 13, 14, 15, 16, 17, 18, 19, 20], [8, 9, 10, 11, 12, 13, 14, 15, 16, 17, 18, 19, 20, 21], [8, 9, 10, 11, 12, 13, 14, 15, 16, 17, 18, 19, 20, 21, 22], [8, 9, 10, 11, 12, 13, 14, 15, 16, 17, 18, 19, 20, 21, 22, 23], [0, 1, 2, 3, 8, 9, 10, 11, 12, 13, 14, 15, 16, 17, 18, 19, 20, 21, 22], [0, 1, 2, 3, 4, 5, 6, 7, 8, 9, 10, 11, 12, 13, 14, 15, 16, 17, 18, 19, 20, 21, 22, 25], [0, 1, 2, 3, 4, 5, 6, 7, 8, 9, 10, 11, 12, 13, 14, 15, 16, 17, 18, 19, 20, 21, 22, 23, 24, 25, 26]], [(4, 25), (5, 25), (6, 25), (7, 25), (23, 25), (24, 25), (23, 26), (24, 26)])],
  [(0, [0, 2, 3], [2, 3]), (1, [0, 2, 3, 11], [2, 3]), (2, [2, 3, 4], [2, 3]), (3, [0, 2, 3, 30], [2, 3]), (4, [2, 3, 4], [2, 3]), (5, [0, 2, 3, 5], [2, 3]), (6, [0, 2, 3, 5, 48], [2, 3]), (7, [0, 2, 3, 5, 48, 49], [2, 3]), (8, [2, 3, 4], [2, 3]), (9, [0, 2, 3, 5, 48, 59], [2, 3]), (10, [2, 3, 4], [2, 3]), (11, [0, 2, 3, 5, 71], [2, 3]), (12, [2, 3, 4], [2, 3]), (13, [2, 3, 4], [2, 3])]⟩ 111 (Try.f48.body.getD .skip) = some my48 := by kernel_rfl
theorem does48 {args : List LV} (hl : args.length.ble 111 = true) {S S' : List (List LV)} (hS : S'.length = S.length) {o : Out} (h : Lt ⟨numE 0 args, argS 0 S, []⟩ (awp Try.prog my48 (Fin [(.c 2 (some 2)), (.c 3 (some 2)), (.t 4)] o S'))) : Does Try.prog 48 args S o S' :=
  does_of_awp mixed Try.func48 (by kernel_rfl) (by kernel_rfl) my48_is (by kernel_rfl) (Nat.le_of_ble_eq_true hl) hS h
attribute [go_sem ↓] w48_0 w48_1 w48_2 w48_3 w48_4 w48_5 w48_6 w48_7 w48_8 w48_9 w48_10 w48_11 w48_12 w48_13
attribute [go_sem] my48
/-! ### 79: lychgate/coerce.parts -/
def r79_0 : MC := .reg [⟨none, (.alloc 2 z2)⟩, ⟨none, (.alloc 3 z2)⟩, ⟨none, (.mv 4 (.c (.imm true (.bool false))))⟩] none (some ([0, 2, 3], [2, 3]))
def w79_0 := @awpR_get Try.prog Q σ r79_0 _ _ [2, 3] ⟨rfl, rfl⟩
def r79_1 : MC := .reg [⟨none, (.mv 11 (.t 0))⟩, ⟨none, (.nilc 12 (.t 11))⟩, ⟨none, (.fad 13 (.t 12) 7)⟩, ⟨none, (.load 14 (.t 13) none)⟩, ⟨none, (.len 15 (.t 14))⟩, ⟨none, (.bin 16 .neq (.t 15) (.c (.imm true (.int .i64 2))))⟩] none (some ([0, 2, 3, 16], [2, 3]))
def w79_1 := @awpR_no Try.prog Q σ r79_1 _ _ ⟨rfl, rfl⟩
def r79_2 : MC := .reg [⟨none, (.load 17 (.t 2) (some 2))⟩, ⟨none, (.load 18 (.t 3) (some 2))⟩, ⟨none, (.store (.t 2) (.t 17) 2)⟩, ⟨none, (.store (.t 3) (.t 18) 2)⟩, ⟨none, (.mv 4 (.c (.imm true (.bool false))))⟩] (some [(1, 2)]) (some ([2, 3, 4], [2, 3]))
def w79_2 := @awpD_no Try.prog Q σ r79_2 _ _ _ ⟨rfl, rfl⟩
def r79_3 : MC := .reg [⟨none, (.mv 20 (.t 0))⟩, ⟨none, (.nilc 21 (.t 20))⟩, ⟨none, (.fad 22 (.t 21) 7)⟩, ⟨none, (.load 23 (.t 22) none)⟩, ⟨none, (.iad 24 (.t 23) (.c (.imm true (.int .i64 0))) 8)⟩, ⟨none, (.call (some 25) (.c (.fn 48 [])) [(.t 24)])⟩, ⟨none, (.mv 19 (.t 25))⟩, ⟨none, (.ext 26 (.t 19) 0)⟩, ⟨none, (.ext 27 (.t 19) 1)⟩, ⟨none, (.ext 28 (.t 19) 2)⟩, ⟨none, (.alloc 5 z2)⟩, ⟨none, (.alloc 6 z2)⟩, ⟨none, (.store (.t 5) (.t 26) 2)⟩, ⟨none, (.store (.t 6) (.t 27) 2)⟩, ⟨none, (.mv 4 (.t 28))⟩] none (some ([0, 2, 3, 4, 5, 6], [2, 3, 5, 6]))
def w79_3 := @awpR_get Try.prog Q σ r79_3 _ _ [5, 6] ⟨rfl, rfl⟩
def r79_4 : MC := .reg [⟨none, (.mv 30 (.t 0))⟩, ⟨none, (.nilc 31 (.t 30))⟩, ⟨none, (.fad 32 (.t 31) 7)⟩, ⟨none, (.load 33 (.t 32) none)⟩, ⟨none, (.iad 34 (.t 33) (.c (.imm true (.int .i64 1))) 8)⟩, ⟨none, (.call (some 35) (.c (.fn 48 [])) [(.t 34)])⟩, ⟨none, (.mv 29 (.t 35))⟩, ⟨none, (.ext 36 (.t 29) 0)⟩, ⟨none, (.ext 37 (.t 29) 1)⟩, ⟨none, (.ext 38 (.t 29) 2)⟩, ⟨none, (.alloc 7 z2)⟩, ⟨none, (.alloc 8 z2)⟩, ⟨none, (.store (.t 7) (.t 36) 2)⟩, ⟨none, (.store (.t 8) (.t 37) 2)⟩, ⟨none, (.mv 9 (.t 38))⟩] none (some ([0, 2, 3, 4, 5, 6, 7, 8, 9], [2, 3, 5, 6, 7, 8]))
def w79_4 := @awpR_get Try.prog Q σ r79_4 _ _ [7, 8] ⟨rfl, rfl⟩
def r79_5 : MC := .reg [⟨none, (.mv 39 (.t 4))⟩, ⟨none, (.un 40 .not (.t 39))⟩, ⟨none, (.mv 41 (.t 40))⟩, ⟨(some (41, false)), (.mv 42 (.t 9))⟩, ⟨(some (41, false)), (.un 43 .not (.t 42))⟩, ⟨none, (.pick 44 (.t 41) (.c (.imm true (.bool true))) (.t 43))⟩] none (some ([0, 2, 3, 5, 6, 7, 8, 44], [2, 3, 5, 6, 7, 8]))
def w79_5 := @awpR_no Try.prog Q σ r79_5 _ _ ⟨rfl, rfl⟩
def r79_6 : MC := .reg [⟨none, (.load 45 (.t 2) (some 2))⟩, ⟨none, (.load 46 (.t 3) (some 2))⟩, ⟨none, (.store (.t 2) (.t 45) 2)⟩, ⟨none, (.store (.t 3) (.t 46) 2)⟩, ⟨none, (.mv 4 (.c (.imm true (.bool false))))⟩] (some [(1, 2)]) (some ([2, 3, 4], [2, 3]))
def w79_6 := @awpD_no Try.prog Q σ r79_6 _ _ _ ⟨rfl, rfl⟩
def r79_7 : MC := .reg [⟨none, (.mv 10 (.c (.fn 110 [])))⟩] none (some ([0, 2, 3, 5, 6, 7, 8, 10], [2, 3, 5, 6, 7, 8]))
def w79_7 := @awpR_no Try.prog Q σ r79_7 _ _ ⟨rfl, rfl⟩
def r79_8 : MC := .reg [⟨none, (.mv 47 (.t 0))⟩, ⟨none, (.nilc 48 (.t 47))⟩, ⟨none, (.fad 49 (.t 48) 0)⟩, ⟨none, (.load 50 (.t 49) none)⟩] none (some ([2, 3, 5, 6, 7, 8, 10, 50], [2, 3, 5, 6, 7, 8]))
def w79_8 := @awpR_no Try.prog Q σ r79_8 _ _ ⟨rfl, rfl⟩
def r79_9 : MC := .reg [⟨none, (.bin 52 .eql (.t 50) (.c (.imm true (.int .i8 4))))⟩, ⟨none, (.mv 51 (.t 52))⟩] none (some ([2, 3, 5, 6, 7, 8, 10, 50, 51], [2, 3, 5, 6, 7, 8]))
def w79_9 := @awpR_no Try.prog Q σ r79_9 _ _ ⟨rfl, rfl⟩
def r79_10 : MC := .reg [⟨none, (.mv 53 (.t 10))⟩, ⟨none, (.load 54 (.t 6) (some 2))⟩, ⟨none, (.load 55 (.t 7) (some 2))⟩, ⟨none, (.call (some 56) (.t 53) [(.c (.imm true (.int .i8 3))), (.t 54), (.t 55)])⟩, ⟨none, (.mv 57 (.t 10))⟩, ⟨none, (.load 58 (.t 5) (some 2))⟩, ⟨none, (.load 59 (.t 8) (some 2))⟩, ⟨none, (.call (some 60) (.t 57) [(.c (.imm true (.int .i8 3))), (.t 58), (.t 59)])⟩, ⟨none, (.store (.t 2) (.t 56) 2)⟩, ⟨none, (.store (.t 3) (.t 60) 2)⟩, ⟨none, (.mv 4 (.c (.imm true (.bool true))))⟩] (some []) (some ([2, 3, 4], [2, 3]))
def w79_10 := @awpD_no Try.prog Q σ r79_10 _ _ _ ⟨rfl, rfl⟩
def r79_11 : MC := .reg [⟨none, (.bin 62 .eql (.t 50) (.c (.imm true (.int .i8 5))))⟩, ⟨none, (.mv 61 (.t 62))⟩] none (some ([2, 3, 5, 6, 7, 8, 10, 50, 61], [2, 3, 5, 6, 7, 8]))
def w79_11 := @awpR_no Try.prog Q σ r79_11 _ _ ⟨rfl, rfl⟩
def r79_12 : MC := .reg [⟨none, (.mv 63 (.t 10))⟩, ⟨none, (.load 64 (.t 5) (some 2))⟩, ⟨none, (.load 65 (.t 7) (some 2))⟩, ⟨none, (.call (some 66) (.t 63) [(.c (.imm true (.int .i8 4))), (.t 64), (.t 65)])⟩, ⟨none, (.mv 67 (.t 10))⟩, ⟨none, (.load 68 (.t 6) (some 2))⟩, ⟨none, (.load 69 (.t 8) (some 2))⟩, ⟨none, (.call (some 70) (.t 67) [(.c (.imm true (.int .i8 4))), (.t 68), (.t 69)])⟩, ⟨none, (.store (.t 2) (.t 66) 2)⟩, ⟨none, (.store (.t 3) (.t 70) 2)⟩, ⟨none, (.mv 4 (.c (.imm true (.bool true))))⟩] (some []) (some ([2, 3, 4], [2, 3]))
def w79_12 := @awpD_no Try.prog Q σ r79_12 _ _ _ ⟨rfl, rfl⟩
def r79_13 : MC := .reg [⟨none, (.bin 72 .eql (.t 50) (.c (.imm true (.int .i8 6))))⟩, ⟨none, (.mv 71 (.t 72))⟩] none (some ([2, 3, 5, 6, 7, 8, 10, 50, 71], [2, 3, 5, 6, 7, 8]))
def w79_13 := @awpR_no Try.prog Q σ r79_13 _ _ ⟨rfl, rfl⟩
def r79_14 : MC := .reg [⟨none, (.mv 73 (.t 10))⟩, ⟨none, (.load 74 (.t 5) (some 2))⟩, ⟨none, (.load 75 (.t 7) (some 2))⟩, ⟨none, (.call (some 76) (.t 73) [(.c (.imm true (.int .i8 5))), (.t 74), (.t 75)])⟩, ⟨none, (.mv 77 (.t 10))⟩, ⟨none, (.load 78 (.t 6) (some 2))⟩, ⟨none, (.load 79 (.t 8) (some 2))⟩, ⟨none, (.call (some 80) (.t 77) [(.c (.imm true (.int .i8 5))), (.t 78), (.t 79)])⟩, ⟨none, (.store (.t 2) (.t 76) 2)⟩, ⟨none, (.store (.t 3) (.t 80) 2)⟩, ⟨none, (.mv 4 (.c (.imm true (.bool true))))⟩] (some []) (some ([2, 3, 4], [2, 3]))
def w79_14 := @awpD_no Try.prog Q σ r79_14 _ _ _ ⟨rfl, rfl⟩
def r79_15 : MC := .reg [⟨none, (.bin 82 .eql (.t 50) (.c (.imm true (.int .i8 7))))⟩, ⟨none, (.mv 81 (.t 82))⟩] none (some ([2, 3, 5, 6, 7, 8, 81], [2, 3, 5, 6, 7, 8]))
def w79_15 := @awpR_no Try.prog Q σ r79_15 _ _ ⟨rfl, rfl⟩
def r79_16 : MC := .reg [⟨none, (.load 83 (.t 5) (some 2))⟩, ⟨none, (.load 84 (.t 8) (some 2))⟩, ⟨none, (.load 85 (.t 6) (some 2))⟩, ⟨none, (.load 86 (.t 7) (some 2))⟩, ⟨none, (.call (some 87) (.c (.fn 14 [])) [(.t 85), (.t 86)])⟩, ⟨none, (.store (.t 2) (.t 83) 2)⟩, ⟨none, (.store (.t 3) (.t 84) 2)⟩, ⟨none, (.mv 4 (.t 87))⟩] (some [(1, 5)]) (some ([2, 3, 4], [2, 3]))
def w79_16 := @awpD_no Try.prog Q σ r79_16 _ _ _ ⟨rfl, rfl⟩
def r79_17 : MC := .reg [⟨none, (.load 88 (.t 2) (some 2))⟩, ⟨none, (.load 89 (.t 3) (some 2))⟩, ⟨none, (.store (.t 2) (.t 88) 2)⟩, ⟨none, (.store (.t 3) (.t 89) 2)⟩, ⟨none, (.mv 4 (.c (.imm true (.bool false))))⟩] (some [(1, 2)]) (some ([2, 3, 4], [2, 3]))
def w79_17 := @awpD_no Try.prog Q σ r79_17 _ _ _ ⟨rfl, rfl⟩
def my79 : MC := (.seq r79_0 (.seq (.seq r79_1 (.cond (.t 16) (.seq r79_2 .ret) .skip)) (.seq r79_3 (.seq r79_4 (.seq (.seq r79_5 (.cond (.t 44) (.seq r79_6 .ret) .skip)) (.seq r79_7 (.seq (.seq r79_8 (.block 0 (.seq r79_9 (.cond (.t 51) (.seq r79_10 .ret) (.seq r79_11 (.cond (.t 61) (.seq r79_12 .ret) (.seq r79_13 (.cond (.t 71) (.seq r79_14 .ret) (.seq r79_15 (.cond (.t 81) (.seq r79_16 .ret) .skip)))))))))) (.seq r79_17 .ret))))))))
theorem my79_is : trC Try.prog ⟨[], []⟩ ⟨[(2, [[], [], [0], [0, 1, 2], [0, 1, 2, 3]], [(1, 2)]), (6, [[], [], [0], [0, 1, 2], [0, 1, 2, 3]], [(1, 2)]), (10, [[], [], [], [0, 1, 2], [], [], [], [0, 1, 2, 3, 4, 5, 6], [0, 1, 2, 3, 4, 5, 6, 7], [0, 1, 2, 3, 4, 5, 6, 7, 8], [0, 1, 2, 3, 4, 5, 6, 7, 8, 9]], []), (12, [[], [], [], [0, 1, 2], [], [], [], [0, 1, 2, 3, 4, 5, 6], [0, 1, 2, 3, 4, 5, 6, 7], [0, 1, 2, 3, 4, 5, 6, 7, 8], [0, 1, 2, 3, 4, 5, 6, 7, 8, 9]], []), (14, [[], [], [], [0, 1, 2], [], [], [], [0, 1, 2, 3, 4, 5, 6], [0, 1, 2, 3, 4, 5, 6, 7], [0, 1, 2, 3, 4, 5, 6, 7, 8], [0, 1, 2, 3, 4, 5, 6, 7, 8, 9]], []), (16, [[], [], [], [], [2, 3], [0, 2, 3, 4], [0, 1, 2, 3, 4, 5], [0, 1, 2, 3, 4, 5, 6]], [(1, 5)]), (17, [[], [], [0], [0, 1, 2], [0, 1, 2, 3]], [(1, 2)])],
  [(0, [0, 2, 3], [2, 3]), (1, [0, 2, 3, 16], [2, 3]), (2, [2, 3, 4], [2, 3]), (3, [0, 2, 3, 4, 5, 6], [2, 3, 5, 6]), (4, [0, 2, 3, 4, 5, 6, 7, 8, 9], [2, 3, 5, 6, 7, 8]), (5, [0, 2, 3, 5, 6, 7, 8, 44], [2, 3, 5, 6, 7, 8]), (6, [2, 3, 4], [2, 3]), (7, [0, 2, 3, 5, 6, 7, 8, 10], [2, 3, 5, 6, 7, 8]), (8, [2, 3, 5, 6, 7, 8, 10, 50], [2, 3, 5, 6, 7, 8]), (9, [2, 3, 5, 6, 7, 8, 10, 50, 51], [2, 3, 5, 6, 7, 8]), (10, [2, 3, 4], [2, 3]), (11, [2, 3, 5, 6, 7, 8, 10, 50, 61], [2, 3, 5, 6, 7, 8]), (12, [2, 3, 4], [2, 3]), (13, [2, 3, 5, 6, 7, 8, 10, 50, 71], [2, 3, 5, 6, 7, 8]), (14, [2, 3, 4], [2, 3]), (15, [2, 3, 5, 6, 7, 8, 81], [2, 3, 5, 6, 7, 8]), (16, [2, 3, 4], [2, 3]), (17, [2, 3, 4], [2, 3])]⟩ 90 (Try.f79.body.getD .skip) = some my79 := by kernel_rfl
theorem does79 {args : List LV} (hl : args.length.ble 90 = true) {S S' : List (List LV)} (hS : S'.length = S.length) {o : Out} (h : Lt ⟨numE 0 args, argS 0 S, []⟩ (awp Try.prog my79 (Fin [(.c 2 (some 2)), (.c 3 (some 2)), (.t 4)] o S'))) : Does Try.prog 79 args S o S' :=
  does_of_awp mixed Try.func79 (by kernel_rfl) (by kernel_rfl) my79_is (by kernel_rfl) (Nat.le_of_ble_eq_true hl) hS h
attribute [go_sem ↓] w79_0 w79_1 w79_2 w79_3 w79_4 w79_5 w79_6 w79_7 w79_8 w79_9 w79_10 w79_11 w79_12 w79_13 w79_14 w79_15 w79_16 w79_17
attribute [go_sem] my79
/-! ### 110: lychgate/coerce.parts$1 -/
def r110_0 : MC := .reg [⟨none, (.boxc 4 (.t 1))⟩, ⟨none, (.boxc 5 (.t 2))⟩, ⟨none, (.alloc 6 z2)⟩] none (some ([0, 4, 5, 6], [6]))
def w110_0 := @awpR_get Try.prog Q σ r110_0 _ _ [6] ⟨rfl, rfl⟩
def r110_1 : MC := .reg [⟨none, (.mv 7 (.t 0))⟩, ⟨none, (.load 8 (.t 4) (some 2))⟩, ⟨none, (.load 9 (.t 5) (some 2))⟩, ⟨none, (.lit 10 2 [(.t 8), (.t 9)])⟩, ⟨none, (.build 11 z2 [(0, (1, (.t 7))), (1, (1, (.t 10)))])⟩, ⟨none, (.store (.t 6) (.t 11) 2)⟩] none (some ([6], [6]))
def w110_1 := @awpR_no Try.prog Q σ r110_1 _ _ ⟨rfl, rfl⟩
def my110 : MC := (.seq r110_0 (.seq r110_1 .ret))
theorem my110_is : trC Try.prog ⟨[4, 5], []⟩ ⟨[],
  [(0, [0, 4, 5, 6], [6]), (1, [6], [6])]⟩ 12 (Try.f110.body.getD .skip) = some my110 := by kernel_rfl
theorem does110 {args : List LV} (hl : args.length.ble 12 = true) {S S' : List (List LV)} (hS : S'.length = S.length) {o : Out} (h : Lt ⟨numE 0 args, argS 0 S, []⟩ (awp Try.prog my110 (Fin [(.c 6 (some 2))] o S'))) : Does Try.prog 110 args S o S' :=
  does_of_awp mixed Try.func110 (by kernel_rfl) (by kernel_rfl) my110_is (by kernel_rfl) (Nat.le_of_ble_eq_true hl) hS h
attribute [go_sem ↓] w110_0 w110_1
attribute [go_sem] my110
/-! ### 49: lychgate/coerce.whole -/
def r49_0 : MC := .reg [⟨none, (.alloc 2 z2)⟩] none (some ([0, 2], [2, 28]))
def w49_0 := @awpR_get Try.prog Q σ r49_0 _ _ [2] ⟨rfl, rfl⟩
def r49_1 : MC := .reg [⟨none, (.mv 5 (.t 0))⟩, ⟨none, (.nilc 6 (.t 5))⟩, ⟨none, (.fad 7 (.t 6) 0)⟩, ⟨none, (.load 8 (.t 7) none)⟩, ⟨none, (.build 9 z2 [(0, (1, (.t 8)))])⟩, ⟨none, (.alloc 3 z2)⟩, ⟨none, (.store (.t 3) (.t 9) 2)⟩] none (some ([0, 2, 3], [2, 3, 28]))
def w49_1 := @awpR_get Try.prog Q σ r49_1 _ _ [3] ⟨rfl, rfl⟩
def r49_2 : MC := .reg [⟨none, (.mv 10 (.t 0))⟩, ⟨none, (.nilc 11 (.t 10))⟩, ⟨none, (.fad 12 (.t 11) 1)⟩, ⟨none, (.load 13 (.t 12) none)⟩, ⟨none, (.len 14 (.t 13))⟩, ⟨none, (.mv 15 (.c (.imm true (.int .i64 0))))⟩] none (some ([0, 2, 3, 14, 15], [2, 3, 28]))
def w49_2 := @awpR_no Try.prog Q σ r49_2 _ _ ⟨rfl, rfl⟩
def r49_3 : MC := .reg [⟨none, (.bin 16 .lss (.t 15) (.t 14))⟩] none (some ([0, 2, 3, 14, 15, 16], [2, 3, 28]))
def w49_3 := @awpR_no Try.prog Q σ r49_3 _ _ ⟨rfl, rfl⟩
def r49_4 : MC := .reg [⟨none, (.mv 17 (.t 15))⟩, ⟨none, (.mv 4 (.t 17))⟩] none (some ([0, 2, 3, 4, 14, 15], [2, 3, 28]))
def w49_4 := @awpR_no Try.prog Q σ r49_4 _ _ ⟨rfl, rfl⟩
def r49_5 : MC := .reg [⟨none, (.fad 18 (.t 3) 1)⟩, ⟨none, (.load 19 (.t 18) none)⟩, ⟨none, (.mv 20 (.t 0))⟩, ⟨none, (.nilc 21 (.t 20))⟩, ⟨none, (.fad 22 (.t 21) 1)⟩, ⟨none, (.load 23 (.t 22) none)⟩, ⟨none, (.mv 24 (.t 4))⟩, ⟨none, (.iad 25 (.t 23) (.t 24) 2)⟩, ⟨none, (.call (some 26) (.c (.fn 49 [])) [(.t 25)])⟩, ⟨none, (.lit 27 2 [(.t 26)])⟩, ⟨none, (.append 28 (.t 19) (.t 27) 25 2 32)⟩, ⟨none, (.fad 29 (.t 3) 1)⟩, ⟨none, (.store (.t 29) (.t 28) 1)⟩] (some []) (some ([0, 2, 3, 14, 15], [2, 3, 28]))
def w49_5 := @awpD_get Try.prog Q σ r49_5 _ _ _ [28] ⟨rfl, rfl⟩
def r49_6 : MC := .reg [⟨none, (.bin 30 .add (.t 15) (.c (.imm true (.int .i64 1))))⟩, ⟨none, (.mv 15 (.t 30))⟩] none (some ([0, 2, 3, 14, 15], [2, 3, 28]))
def w49_6 := @awpR_no Try.prog Q σ r49_6 _ _ ⟨rfl, rfl⟩
def l49_0 : MC := (.seq r49_3 (.seq (.cond (.t 16) .skip (.exit 0)) (.seq (.block 1 (.seq r49_4 r49_5)) r49_6)))
def r49_7 : MC := .reg [⟨none, (.load 31 (.t 3) (some 2))⟩, ⟨none, (.store (.t 2) (.t 31) 2)⟩] none (some ([2], [2, 28]))
def w49_7 := @awpR_no Try.prog Q σ r49_7 _ _ ⟨rfl, rfl⟩
def my49 : MC := (.seq r49_0 (.seq r49_1 (.seq (.seq r49_2 (.block 0 (.loop l49_0))) (.seq r49_7 .ret))))
theorem my49_is : trC Try.prog ⟨[], []⟩ ⟨[(5, [[], [0], [], [2], [2, 3], [2, 3, 4], [], [2, 3, 4, 5, 6], [2, 3, 4, 5, 6, 7], [2, 3, 4, 5, 6, 7, 8], [0, 1, 2, 3, 4, 5, 6, 7, 8, 9], [0, 1, 2, 3, 4, 5, 6, 7, 8, 9, 10], [0, 1, 2, 3, 4, 5, 6, 7, 8, 9, 10, 11]], [])],
  [(0, [0, 2], [2, 28]), (1, [0, 2, 3], [2, 3, 28]), (2, [0, 2, 3, 14, 15], [2, 3, 28]), (3, [0, 2, 3, 14, 15, 16], [2, 3, 28]), (4, [0, 2, 3, 4, 14, 15], [2, 3, 28]), (5, [0, 2, 3, 14, 15], [2, 3, 28]), (6, [0, 2, 3, 14, 15], [2, 3, 28]), (7, [2], [2, 28])]⟩ 32 (Try.f49.body.getD .skip) = some my49 := by kernel_rfl
theorem does49 {args : List LV} (hl : args.length.ble 32 = true) {S S' : List (List LV)} (hS : S'.length = S.length) {o : Out} (h : Lt ⟨numE 0 args, argS 0 S, []⟩ (awp Try.prog my49 (Fin [(.c 2 (some 2))] o S'))) : Does Try.prog 49 args S o S' :=
  does_of_awp mixed Try.func49 (by kernel_rfl) (by kernel_rfl) my49_is (by kernel_rfl) (Nat.le_of_ble_eq_true hl) hS h
attribute [go_sem ↓] w49_0 w49_1 w49_2 w49_3 w49_4 w49_5 w49_6 w49_7
attribute [go_sem] my49
/-! ### 13: lychgate/coerce.Check -/
def r13_0 : MC := .reg [⟨none, (.boxc 1 (.t 0))⟩, ⟨none, (.alloc 2 z2)⟩, ⟨none, (.alloc 3 z2)⟩, ⟨none, (.mv 4 (.c (.imm true (.int .i64 0))))⟩] none (some ([1, 2, 3], [2, 3]))
def w13_0 := @awpR_get Try.prog Q σ r13_0 _ _ [2, 3] ⟨rfl, rfl⟩
def r13_1 : MC := .reg [⟨none, (.call (some 11) (.c (.fn 46 [])) [(.t 1)])⟩, ⟨none, (.un 12 .not (.t 11))⟩] none (some ([1, 2, 3, 12], [2, 3]))
def w13_1 := @awpR_no Try.prog Q σ r13_1 _ _ ⟨rfl, rfl⟩
def r13_2 : MC := .reg [⟨none, (.load 13 (.t 2) (some 2))⟩, ⟨none, (.load 14 (.t 3) (some 2))⟩, ⟨none, (.store (.t 2) (.t 13) 2)⟩, ⟨none, (.store (.t 3) (.t 14) 2)⟩, ⟨none, (.mv 4 (.c (.imm true (.int .i64 32))))⟩] (some [(1, 2)]) (some ([2, 3, 4], [2, 3]))
def w13_2 := @awpD_no Try.prog Q σ r13_2 _ _ _ ⟨rfl, rfl⟩
def r13_3 : MC := .reg [⟨none, (.call (some 15) (.c (.fn 47 [])) [(.t 1), (.c (.imm true (.int .i64 201)))])⟩, ⟨none, (.bin 16 .gtr (.t 15) (.c (.imm true (.int .i64 200))))⟩] none (some ([1, 2, 3, 16], [2, 3]))
def w13_3 := @awpR_no Try.prog Q σ r13_3 _ _ ⟨rfl, rfl⟩
def r13_4 : MC := .reg [⟨none, (.load 17 (.t 2) (some 2))⟩, ⟨none, (.load 18 (.t 3) (some 2))⟩, ⟨none, (.store (.t 2) (.t 17) 2)⟩, ⟨none, (.store (.t 3) (.t 18) 2)⟩, ⟨none, (.mv 4 (.c (.imm true (.int .i64 31))))⟩] (some [(1, 2)]) (some ([2, 3, 4], [2, 3]))
def w13_4 := @awpD_no Try.prog Q σ r13_4 _ _ _ ⟨rfl, rfl⟩
def r13_5 : MC := .reg [⟨none, (.call (some 20) (.c (.fn 48 [])) [(.t 1)])⟩, ⟨none, (.mv 19 (.t 20))⟩, ⟨none, (.ext 21 (.t 19) 0)⟩, ⟨none, (.ext 22 (.t 19) 1)⟩, ⟨none, (.ext 23 (.t 19) 2)⟩, ⟨none, (.alloc 5 z2)⟩, ⟨none, (.alloc 6 z2)⟩, ⟨none, (.store (.t 5) (.t 21) 2)⟩, ⟨none, (.store (.t 6) (.t 22) 2)⟩, ⟨none, (.mv 7 (.t 23))⟩] none (some ([2, 3, 5, 6, 7], [2, 3, 5, 6]))
def w13_5 := @awpR_get Try.prog Q σ r13_5 _ _ [5, 6] ⟨rfl, rfl⟩
def r13_6 : MC := .reg [⟨none, (.mv 24 (.t 7))⟩, ⟨none, (.un 25 .not (.t 24))⟩] none (some ([2, 3, 5, 6, 25], [2, 3, 5, 6]))
def w13_6 := @awpR_no Try.prog Q σ r13_6 _ _ ⟨rfl, rfl⟩
def r13_7 : MC := .reg [⟨none, (.load 26 (.t 2) (some 2))⟩, ⟨none, (.load 27 (.t 3) (some 2))⟩, ⟨none, (.store (.t 2) (.t 26) 2)⟩, ⟨none, (.store (.t 3) (.t 27) 2)⟩, ⟨none, (.mv 4 (.c (.imm true (.int .i64 150))))⟩] (some [(1, 2)]) (some ([2, 3, 4], [2, 3]))
def w13_7 := @awpD_no Try.prog Q σ r13_7 _ _ _ ⟨rfl, rfl⟩
def r13_8 : MC := .reg [⟨none, (.load 28 (.t 5) (some 2))⟩, ⟨none, (.load 29 (.t 6) (some 2))⟩, ⟨none, (.lit 30 2 [(.t 28), (.t 29)])⟩, ⟨none, (.len 31 (.t 30))⟩, ⟨none, (.mv 32 (.c (.imm true (.int .i64 0))))⟩] none (some ([2, 3, 5, 6, 30, 31, 32], [2, 3, 5, 6]))
def w13_8 := @awpR_no Try.prog Q σ r13_8 _ _ ⟨rfl, rfl⟩
def r13_9 : MC := .reg [⟨none, (.bin 33 .lss (.t 32) (.t 31))⟩] none (some ([2, 3, 5, 6, 30, 31, 32, 33], [2, 3, 5, 6]))
def w13_9 := @awpR_no Try.prog Q σ r13_9 _ _ ⟨rfl, rfl⟩
def r13_10 : MC := .reg [⟨none, (.iad 34 (.t 30) (.t 32) 2)⟩, ⟨none, (.load 35 (.t 34) (some 2))⟩, ⟨none, (.alloc 9 z2)⟩, ⟨none, (.store (.t 9) (.t 35) 2)⟩] none (some ([2, 3, 5, 6, 9, 30, 31, 32], [2, 3, 5, 6, 9]))
def w13_10 := @awpR_get Try.prog Q σ r13_10 _ _ [9] ⟨rfl, rfl⟩
def r13_11 : MC := .reg [⟨none, (.load 36 (.t 9) (some 2))⟩, ⟨none, (.call (some 37) (.c (.fn 37 [])) [(.t 36)])⟩, ⟨none, (.mv 10 (.t 37))⟩] none (some ([2, 3, 5, 6, 10, 30, 31, 32], [2, 3, 5, 6]))
def w13_11 := @awpR_no Try.prog Q σ r13_11 _ _ ⟨rfl, rfl⟩
def r13_12 : MC := .reg [⟨none, (.mv 38 (.t 10))⟩, ⟨none, (.bin 39 .neq (.t 38) (.c (.imm true (.int .i64 0))))⟩] none (some ([2, 3, 5, 6, 10, 30, 31, 32, 39], [2, 3, 5, 6]))
def w13_12 := @awpR_no Try.prog Q σ r13_12 _ _ ⟨rfl, rfl⟩
def r13_13 : MC := .reg [⟨none, (.load 40 (.t 2) (some 2))⟩, ⟨none, (.load 41 (.t 3) (some 2))⟩, ⟨none, (.mv 42 (.t 10))⟩, ⟨none, (.store (.t 2) (.t 40) 2)⟩, ⟨none, (.store (.t 3) (.t 41) 2)⟩, ⟨none, (.mv 4 (.t 42))⟩] (some [(1, 3), (2, 3), (2, 4)]) (some ([2, 3, 4], [2, 3]))
def w13_13 := @awpD_no Try.prog Q σ r13_13 _ _ _ ⟨rfl, rfl⟩
def r13_14 : MC := .reg [⟨none, (.bin 43 .add (.t 32) (.c (.imm true (.int .i64 1))))⟩, ⟨none, (.mv 32 (.t 43))⟩] none (some ([2, 3, 5, 6, 30, 31, 32], [2, 3, 5, 6]))
def w13_14 := @awpR_no Try.prog Q σ r13_14 _ _ ⟨rfl, rfl⟩
def l13_0 : MC := (.seq r13_9 (.seq (.cond (.t 33) .skip (.exit 0)) (.seq (.block 1 (.seq r13_10 (.seq r13_11 (.seq r13_12 (.cond (.t 39) (.seq r13_13 .ret) .skip))))) r13_14)))
def r13_15 : MC := .reg [⟨none, (.call (some 44) (.c (.fn 49 [])) [(.t 5)])⟩, ⟨none, (.call (some 45) (.c (.fn 49 [])) [(.t 6)])⟩, ⟨none, (.store (.t 2) (.t 44) 2)⟩, ⟨none, (.store (.t 3) (.t 45) 2)⟩, ⟨none, (.mv 4 (.c (.imm true (.int .i64 0))))⟩] none (some ([2, 3, 4], [2, 3]))
def w13_15 := @awpR_no Try.prog Q σ r13_15 _ _ ⟨rfl, rfl⟩
def my13 : MC := (.seq r13_0 (.seq (.seq r13_1 (.cond (.t 12) (.seq r13_2 .ret) .skip)) (.seq (.seq r13_3 (.cond (.t 16) (.seq r13_4 .ret) .skip)) (.seq r13_5 (.seq (.seq r13_6 (.cond (.t 25) (.seq r13_7 .ret) .skip)) (.seq (.seq r13_8 (.block 0 (.loop l13_0))) (.seq r13_15 .ret)))))))
theorem my13_is : trC Try.prog ⟨[1], []⟩ ⟨[(2, [[], [], [0], [0, 1, 2], [0, 1, 2, 3]], [(1, 2)]), (4, [[], [], [0], [0, 1, 2], [0, 1, 2, 3]], [(1, 2)]), (7, [[], [], [0], [0, 1, 2], [0, 1, 2, 3]], [(1, 2)]), (13, [[], [], [], [0], [0, 1, 3], [0, 1, 2, 3, 4]], [(1, 3), (2, 3), (2, 4)])],
  [(0, [1, 2, 3], [2, 3]), (1, [1, 2, 3, 12], [2, 3]), (2, [2, 3, 4], [2, 3]), (3, [1, 2, 3, 16], [2, 3]), (4, [2, 3, 4], [2, 3]), (5, [2, 3, 5, 6, 7], [2, 3, 5, 6]), (6, [2, 3, 5, 6, 25], [2, 3, 5, 6]), (7, [2, 3, 4], [2, 3]), (8, [2, 3, 5, 6, 30, 31, 32], [2, 3, 5, 6]), (9, [2, 3, 5, 6, 30, 31, 32, 33], [2, 3, 5, 6]), (10, [2, 3, 5, 6, 9, 30, 31, 32], [2, 3, 5, 6, 9]), (11, [2, 3, 5, 6, 10, 30, 31, 32], [2, 3, 5, 6]), (12, [2, 3, 5, 6, 10, 30, 31, 32, 39], [2, 3, 5, 6]), (13, [2, 3, 4], [2, 3]), (14, [2, 3, 5, 6, 30, 31, 32], [2, 3, 5, 6]), (15, [2, 3, 4], [2, 3])]⟩ 46 (Try.f13.body.getD .skip) = some my13 := by kernel_rfl
theorem does13 {args : List LV} (hl : args.length.ble 46 = true) {S S' : List (List LV)} (hS : S'.length = S.length) {o : Out} (h : Lt ⟨numE 0 args, argS 0 S, []⟩ (awp Try.prog my13 (Fin [(.c 2 (some 2)), (.c 3 (some 2)), (.t 4)] o S'))) : Does Try.prog 13 args S o S' :=
  does_of_awp mixed Try.func13 (by kernel_rfl) (by kernel_rfl) my13_is (by kernel_rfl) (Nat.le_of_ble_eq_true hl) hS h
attribute [go_sem ↓] w13_0 w13_1 w13_2 w13_3 w13_4 w13_5 w13_6 w13_7 w13_8 w13_9 w13_10 w13_11 w13_12 w13_13 w13_14 w13_15
attribute [go_sem] my13
/-! ### 11: lychgate/coerce.Of -/
def r11_0 : MC := .reg [⟨none, (.boxc 3 (.t 0))⟩, ⟨none, (.boxc 4 (.t 1))⟩, ⟨none, (.alloc 6 z8)⟩, ⟨none, (.mv 7 (.c (.imm true (.int .i64 0))))⟩] none (some ([2, 3, 4, 6], [6]))
def w11_0 := @awpR_get Try.prog Q σ r11_0 _ _ [6] ⟨rfl, rfl⟩
def r11_1 : MC := .reg [⟨none, (.load 15 (.t 3) (some 2))⟩, ⟨none, (.call (some 16) (.c (.fn 37 [])) [(.t 15)])⟩, ⟨none, (.mv 8 (.t 16))⟩] none (some ([2, 3, 4, 6, 8], [6]))
def w11_1 := @awpR_no Try.prog Q σ r11_1 _ _ ⟨rfl, rfl⟩
def r11_2 : MC := .reg [⟨none, (.mv 17 (.t 8))⟩, ⟨none, (.bin 18 .neq (.t 17) (.c (.imm true (.int .i64 0))))⟩] none (some ([2, 3, 4, 6, 8, 18], [6]))
def w11_2 := @awpR_no Try.prog Q σ r11_2 _ _ ⟨rfl, rfl⟩
def r11_3 : MC := .reg [⟨none, (.build 19 z8 [])⟩, ⟨none, (.mv 20 (.t 8))⟩, ⟨none, (.store (.t 6) (.t 19) 8)⟩, ⟨none, (.mv 7 (.t 20))⟩] none (some ([6, 7], [6]))
def w11_3 := @awpR_no Try.prog Q σ r11_3 _ _ ⟨rfl, rfl⟩
def r11_4 : MC := .reg [⟨none, (.load 21 (.t 4) (some 2))⟩, ⟨none, (.call (some 22) (.c (.fn 37 [])) [(.t 21)])⟩, ⟨none, (.mv 9 (.t 22))⟩] none (some ([2, 3, 4, 6, 9], [6]))
def w11_4 := @awpR_no Try.prog Q σ r11_4 _ _ ⟨rfl, rfl⟩
def r11_5 : MC := .reg [⟨none, (.mv 23 (.t 9))⟩, ⟨none, (.bin 24 .neq (.t 23) (.c (.imm true (.int .i64 0))))⟩] none (some ([2, 3, 4, 6, 9, 24], [6]))
def w11_5 := @awpR_no Try.prog Q σ r11_5 _ _ ⟨rfl, rfl⟩
def r11_6 : MC := .reg [⟨none, (.build 25 z8 [])⟩, ⟨none, (.mv 26 (.t 9))⟩, ⟨none, (.store (.t 6) (.t 25) 8)⟩, ⟨none, (.mv 7 (.t 26))⟩] none (some ([6, 7], [6]))
def w11_6 := @awpR_no Try.prog Q σ r11_6 _ _ ⟨rfl, rfl⟩
def r11_7 : MC := .reg [⟨none, (.load 27 (.t 3) (some 2))⟩, ⟨none, (.load 28 (.t 4) (some 2))⟩, ⟨none, (.call (some 29) (.c (.fn 39 [])) [(.t 27), (.t 28)])⟩, ⟨none, (.un 30 .not (.t 29))⟩, ⟨none, (.mv 31 (.t 30))⟩, ⟨(some (31, false)), (.mv 32 (.t 2))⟩, ⟨(some (31, false)), (.bin 33 .eql (.t 32) (.c (.imm true (.int .i64 0))))⟩, ⟨none, (.pick 34 (.t 31) (.c (.imm true (.bool true))) (.t 33))⟩, ⟨none, (.mv 35 (.t 34))⟩, ⟨(some (35, false)), (.mv 36 (.t 2))⟩, ⟨(some (35, false)), (.bin 37 .lss (.t 36) (.c (.imm true (.int .i64 (-2147483648)))))⟩, ⟨none, (.pick 38 (.t 35) (.c (.imm true (.bool true))) (.t 37))⟩, ⟨none, (.mv 39 (.t 38))⟩, ⟨(some (39, false)), (.mv 40 (.t 2))⟩, ⟨(some (39, false)), (.bin 41 .gtr (.t 40) (.c (.imm true (.int .i64 2147483648))))⟩, ⟨none, (.pick 42 (.t 39) (.c (.imm true (.bool true))) (.t 41))⟩] none (some ([2, 3, 4, 6, 42], [6]))
def w11_7 := @awpR_no Try.prog Q σ r11_7 _ _ ⟨rfl, rfl⟩
def r11_8 : MC := .reg [⟨none, (.build 43 z8 [])⟩, ⟨none, (.store (.t 6) (.t 43) 8)⟩, ⟨none, (.mv 7 (.c (.imm true (.int .i64 150))))⟩] none (some ([6, 7], [6]))
def w11_8 := @awpR_no Try.prog Q σ r11_8 _ _ ⟨rfl, rfl⟩
def r11_9 : MC := .reg [⟨none, (.mv 44 (.t 2))⟩, ⟨none, (.build 45 [(.imm true (.int .i64 0)), (.imm true (.bool false))] [(0, (1, (.t 44)))])⟩, ⟨none, (.box 46 (.t 45))⟩, ⟨none, (.mv 10 (.t 46))⟩] none (some ([2, 3, 4, 6, 10], [6, 46]))
def w11_9 := @awpR_get Try.prog Q σ r11_9 _ _ [46] ⟨rfl, rfl⟩
def r11_10 : MC := .reg [⟨none, (.mv 47 (.t 2))⟩, ⟨none, (.bin 48 .lss (.t 47) (.c (.imm true (.int .i64 0))))⟩] none (some ([2, 3, 4, 6, 10, 48], [6, 46]))
def w11_10 := @awpR_no Try.prog Q σ r11_10 _ _ ⟨rfl, rfl⟩
def r11_11 : MC := .reg [⟨none, (.mv 49 (.t 10))⟩, ⟨none, (.mv 50 (.t 10))⟩, ⟨none, (.mv 51 (.t 2))⟩, ⟨none, (.un 52 .neg (.t 51))⟩, ⟨none, (.nilc 53 (.t 49))⟩, ⟨none, (.fad 54 (.t 53) 0)⟩, ⟨none, (.store (.t 54) (.t 52) 1)⟩, ⟨none, (.nilc 55 (.t 50))⟩, ⟨none, (.fad 56 (.t 55) 1)⟩, ⟨none, (.store (.t 56) (.c (.imm true (.bool true))) 1)⟩] none (some ([3, 4, 6, 10], [6, 46]))
def w11_11 := @awpR_no Try.prog Q σ r11_11 _ _ ⟨rfl, rfl⟩
def r11_12 : MC := .reg [⟨none, (.mv 57 (.t 10))⟩, ⟨none, (.callB (some 58) (.c (.fn 44 [])) [(.t 57), (.t 3), (.t 4)] [(.own 46)])⟩, ⟨none, (.alloc 11 z8)⟩, ⟨none, (.store (.t 11) (.t 58) 8)⟩] none (some ([6, 11], [6, 11]))
def w11_12 := @awpR_get Try.prog Q σ r11_12 _ _ [11] ⟨rfl, rfl⟩
def r11_13 : MC := .reg [⟨none, (.load 60 (.t 11) (some 8))⟩, ⟨none, (.call (some 61) (.c (.fn 13 [])) [(.t 60)])⟩, ⟨none, (.mv 59 (.t 61))⟩, ⟨none, (.ext 62 (.t 59) 0)⟩, ⟨none, (.ext 63 (.t 59) 1)⟩, ⟨none, (.ext 64 (.t 59) 2)⟩, ⟨none, (.alloc 12 z2)⟩, ⟨none, (.alloc 13 z2)⟩, ⟨none, (.store (.t 12) (.t 62) 2)⟩, ⟨none, (.store (.t 13) (.t 63) 2)⟩, ⟨none, (.mv 14 (.t 64))⟩] none (some ([6, 11, 14], [6, 11]))
def w11_13 := @awpR_get Try.prog Q σ r11_13 _ _ [12, 13] ⟨rfl, rfl⟩
def r11_14 : MC := .reg [⟨none, (.mv 65 (.t 14))⟩, ⟨none, (.bin 66 .neq (.t 65) (.c (.imm true (.int .i64 0))))⟩] none (some ([6, 11, 14, 66], [6, 11]))
def w11_14 := @awpR_no Try.prog Q σ r11_14 _ _ ⟨rfl, rfl⟩
def r11_15 : MC := .reg [⟨none, (.build 67 z8 [])⟩, ⟨none, (.mv 68 (.t 14))⟩, ⟨none, (.store (.t 6) (.t 67) 8)⟩, ⟨none, (.mv 7 (.t 68))⟩] none (some ([6, 7], [6]))
def w11_15 := @awpR_no Try.prog Q σ r11_15 _ _ ⟨rfl, rfl⟩
def r11_16 : MC := .reg [⟨none, (.load 69 (.t 11) (some 8))⟩, ⟨none, (.store (.t 6) (.t 69) 8)⟩, ⟨none, (.mv 7 (.c (.imm true (.int .i64 0))))⟩] none (some ([6, 7], [6]))
def w11_16 := @awpR_no Try.prog Q σ r11_16 _ _ ⟨rfl, rfl⟩
def my11 : MC := (.seq r11_0 (.seq (.seq r11_1 (.seq r11_2 (.cond (.t 18) (.seq r11_3 .ret) .skip))) (.seq (.seq r11_4 (.seq r11_5 (.cond (.t 24) (.seq r11_6 .ret) .skip))) (.seq (.seq r11_7 (.cond (.t 42) (.seq r11_8 .ret) .skip)) (.seq r11_9 (.seq (.seq r11_10 (.cond (.t 48) r11_11 .skip)) (.seq r11_12 (.seq (.seq r11_13 (.seq r11_14 (.cond (.t 66) (.seq r11_15 .ret) .skip))) (.seq r11_16 .ret)))))))))
theorem my11_is : trC Try.prog ⟨[3, 4], [(58, [.own 46])]⟩ ⟨[],
  [(0, [2, 3, 4, 6], [6]), (1, [2, 3, 4, 6, 8], [6]), (2, [2, 3, 4, 6, 8, 18], [6]), (3, [6, 7], [6]), (4, [2, 3, 4, 6, 9], [6]), (5, [2, 3, 4, 6, 9, 24], [6]), (6, [6, 7], [6]), (7, [2, 3, 4, 6, 42], [6]), (8, [6, 7], [6]), (9, [2, 3, 4, 6, 10], [6, 46]), (10, [2, 3, 4, 6, 10, 48], [6, 46]), (11, [3, 4, 6, 10], [6, 46]), (12, [6, 11], [6, 11]), (13, [6, 11, 14], [6, 11]), (14, [6, 11, 14, 66], [6, 11]), (15, [6, 7], [6]), (16, [6, 7], [6])]⟩ 70 (Try.f11.body.getD .skip) = some my11 := by kernel_rfl
theorem does11 {args : List LV} (hl : args.length.ble 70 = true) {S S' : List (List LV)} (hS : S'.length = S.length) {o : Out} (h : Lt ⟨numE 0 args, argS 0 S, []⟩ (awp Try.prog my11 (Fin [(.c 6 (some 8)), (.t 7)] o S'))) : Does Try.prog 11 args S o S' :=
  does_of_awp mixed Try.func11 (by kernel_rfl) (by kernel_rfl) my11_is (by kernel_rfl) (Nat.le_of_ble_eq_true hl) hS h
attribute [go_sem ↓] w11_0 w11_1 w11_2 w11_3 w11_4 w11_5 w11_6 w11_7 w11_8 w11_9 w11_10 w11_11 w11_12 w11_13 w11_14 w11_15 w11_16
attribute [go_sem] my11
end Go.Proofs.Ytopgmopdjiahmaa.Lg

/- Coercions: trees, and the small functions on them. Conditions: none; plain definitions and lemmas. -/
set_option linter.unusedVariables false
set_option linter.unusedSimpArgs false
set_option maxRecDepth 100000
set_option maxHeartbeats 4000000
namespace Go.Proofs.Ytopgmopdjiahmaa.Lg
open Go Go.RowKit Go.Proofs

inductive Cn where
  | mk (k : Int) (ty to : Ty) (lab : Int) (neg : Bool) (ks : List Cn)
theorem Cn.ind {motive : Cn → Prop} (h : ∀ k ty to lab neg ks, (∀ c ∈ ks, motive c) → motive (.mk k ty to lab neg ks)) : ∀ c, motive c
  | .mk k ty to lab neg ks => h k ty to lab neg ks fun c hc => Cn.ind h c
termination_by c => SizeOf.sizeOf c
decreasing_by have := List.sizeOf_lt_of_mem hc; simp; omega
mutual
def Cn.cells : Cn → List IV
  | .mk k ty to lab neg ks => [.int .i8 k, .int .i8 ty.k, .slice (Ty.cellsL ty.ts), .int .i8 to.k, .slice (Ty.cellsL to.ts), .int .i64 lab, .bool neg, .slice (Cn.cellsL ks)]
def Cn.cellsL : List Cn → List (List IV)
  | [] => []
  | c :: r => c.cells :: Cn.cellsL r
end
theorem Cn.cellsL_len : ∀ ks : List Cn, (Cn.cellsL ks).length = ks.length
  | [] => rfl
  | c :: r => by simp [Cn.cellsL, Cn.cellsL_len r]
theorem Cn.cellsL_at : ∀ (ks : List Cn) (j : Nat) (h : j < ks.length), (Cn.cellsL ks)[j]? = some ks[j].cells
  | c :: r, 0, h => by simp [Cn.cellsL]
  | c :: r, j + 1, h => by simpa [Cn.cellsL] using Cn.cellsL_at r j (by simpa using h)
theorem Ty.cells_eq (t : Ty) : t.cells = [.int .i8 t.k, .slice (Ty.cellsL t.ts)] := by cases t; simp [Ty.cells, Ty.k, Ty.ts]
theorem Cn.kid {ks : List Cn} {j : Nat} (h : j < ks.length) : ∃ c, c ∈ ks ∧ (Cn.cellsL ks)[j]? = some c.cells ∧ ks.drop j = c :: ks.drop (j + 1) ∧ ks[j]? = some c :=
  ⟨ks[j], List.getElem_mem h, Cn.cellsL_at ks j h, List.drop_eq_getElem_cons h, by simp⟩
mutual
def Cn.fits : Cn → Prop
  | .mk _ ty to lab _ ks => ty.fits ∧ to.fits ∧ ks.length ≤ 9223372036854775807 ∧ (-9223372036854775808 ≤ lab ∧ lab ≤ 9223372036854775807) ∧ Cn.fitsL ks
def Cn.fitsL : List Cn → Prop
  | [] => True
  | c :: r => c.fits ∧ Cn.fitsL r
end
theorem Cn.fitsL_mem : ∀ {ks : List Cn}, Cn.fitsL ks → ∀ c ∈ ks, c.fits
  | a :: r, h, t, ht => by
    simp only [Cn.fitsL] at h
    rcases List.mem_cons.1 ht with rfl | ht
    · exact h.1
    · exact Cn.fitsL_mem h.2 t ht

def leafF (k : Int) : Bool := k == 0 || k == 1 || k == 2 || k == 3
theorem leaf_does (k : Int) : Does Try.prog 78 [.imm false (.int .i8 k)] [] (.ret true (.bool (leafF k))) [] := by
  refine does78 (by rfl) (by rfl) ?_
  (try simp (implicitDefEqProofs := false) only [go_sem, ↓reduceIte, Nat.reduceEqDiff, reduceCtorEq, Nat.reduceAdd, Nat.reduceSub, Nat.reduceLeDiff, Nat.reduceLT, Nat.reduceMul, Int.reduceToNat, Int.reduceLT, Int.reduceLE])
  by_cases h0 : k = 0
  · subst h0; (try simp (implicitDefEqProofs := false) only [go_sem, ↓reduceIte, Nat.reduceEqDiff, reduceCtorEq, Nat.reduceAdd, Nat.reduceSub, Nat.reduceLeDiff, Nat.reduceLT, Nat.reduceMul, Int.reduceToNat, Int.reduceLT, Int.reduceLE, beq_self_eq_true]); rfl
  by_cases h1 : k = 1
  · subst h1; (try simp (implicitDefEqProofs := false) only [go_sem, ↓reduceIte, Nat.reduceEqDiff, reduceCtorEq, Nat.reduceAdd, Nat.reduceSub, Nat.reduceLeDiff, Nat.reduceLT, Nat.reduceMul, Int.reduceToNat, Int.reduceLT, Int.reduceLE, beq_self_eq_true, show ((1:Int) == 0) = false from rfl]); rfl
  by_cases h2 : k = 2
  · subst h2; (try simp (implicitDefEqProofs := false) only [go_sem, ↓reduceIte, Nat.reduceEqDiff, reduceCtorEq, Nat.reduceAdd, Nat.reduceSub, Nat.reduceLeDiff, Nat.reduceLT, Nat.reduceMul, Int.reduceToNat, Int.reduceLT, Int.reduceLE, beq_self_eq_true, show ((2:Int) == 0) = false from rfl, show ((2:Int) == 1) = false from rfl]); rfl
  by_cases h3 : k = 3
  · subst h3; (try simp (implicitDefEqProofs := false) only [go_sem, ↓reduceIte, Nat.reduceEqDiff, reduceCtorEq, Nat.reduceAdd, Nat.reduceSub, Nat.reduceLeDiff, Nat.reduceLT, Nat.reduceMul, Int.reduceToNat, Int.reduceLT, Int.reduceLE, beq_self_eq_true, show ((3:Int) == 0) = false from rfl, show ((3:Int) == 1) = false from rfl, show ((3:Int) == 2) = false from rfl]); rfl
  (try simp (implicitDefEqProofs := false) only [go_sem, ↓reduceIte, Nat.reduceEqDiff, reduceCtorEq, Nat.reduceAdd, Nat.reduceSub, Nat.reduceLeDiff, Nat.reduceLT, Nat.reduceMul, Int.reduceToNat, Int.reduceLT, Int.reduceLE, show (k == 0) = false from by simpa using h0, show (k == 1) = false from by simpa using h1, show (k == 2) = false from by simpa using h2, show (k == 3) = false from by simpa using h3])
  simp [leafF, h0, h1, h2, h3]

def Ty.un : Ty := .mk 0 []
/-- a coercion of two -/
def part (k : Int) (a b : Cn) : Cn := .mk k .un .un 0 false [a, b]
def Cn.zero : Cn := .mk 0 .un .un 0 false []
theorem part_cells (k : Int) (a b : Cn) : (part k a b).cells = [.int .i8 k, .int .i8 0, .slice [], .int .i8 0, .slice [], .int .i64 0, .bool false, .slice [a.cells, b.cells]] := by
  simp [part, Cn.cells, Cn.cellsL, Ty.un, Ty.k, Ty.ts, Ty.cellsL]
theorem Cn.cells_len (c : Cn) : c.cells.length = 8 := by cases c; simp [Cn.cells]

theorem seq_does (a b : Cn) : Does Try.prog 75 [.imm false (.agg a.cells), .imm false (.agg b.cells)] [] (.ret false (.agg (part 7 a b).cells)) [] := by
  obtain ⟨k, ty, to, lab, neg, ks⟩ := a
  obtain ⟨k', ty', to', lab', neg', ks'⟩ := b
  refine does75 (by rfl) (by rfl) ?_
  (try simp (implicitDefEqProofs := false) only [go_sem, ↓reduceIte, Nat.reduceEqDiff, reduceCtorEq, Nat.reduceAdd, Nat.reduceSub, Nat.reduceLeDiff, Nat.reduceLT, Nat.reduceMul, Int.reduceToNat, Int.reduceLT, Int.reduceLE, Cn.cells, part_cells])

/-! ### of two that agree -/
def OfD (lab : Int) (neg : Bool) (a b : Ty) (c : Cn) : Prop := Does Try.prog 44 [.loc (.arg 0) 0, .imm false (.ptr a.cells 0), .imm false (.ptr b.cells 0)] [[.imm false (.int .i64 lab), .imm false (.bool neg)]] (.ret false (.agg c.cells)) [[.imm false (.int .i64 lab), .imm false (.bool neg)]]
def OtD (lab : Int) (neg : Bool) (a b : Ty) (c : Cn) : Prop := Does Try.prog 76 [.loc (.arg 0) 0, .imm false (.ptr a.cells 0), .imm false (.ptr b.cells 0)] [[.imm false (.int .i64 lab), .imm false (.bool neg)]] (.ret false (.agg c.cells)) [[.imm false (.int .i64 lab), .imm false (.bool neg)]]

theorem other_does {lab : Int} {neg : Bool} {a b : Ty} {c : Cn} (h : OfD lab (!neg) a b c) : OtD lab neg a b c := by
  obtain ⟨k, ts⟩ := a
  obtain ⟨k', us⟩ := b
  obtain ⟨k2, ty, to, lab2, neg2, ks⟩ := c
  refine does76 (by rfl) (by rfl) ?_
  (try simp (implicitDefEqProofs := false) only [go_sem, ↓reduceIte, Nat.reduceEqDiff, reduceCtorEq, Nat.reduceAdd, Nat.reduceSub, Nat.reduceLeDiff, Nat.reduceLT, Nat.reduceMul, Int.reduceToNat, Int.reduceLT, Int.reduceLE, Ty.cells])
  refine CallBK_do h ?_
  (try simp (implicitDefEqProofs := false) only [go_sem, ↓reduceIte, Nat.reduceEqDiff, reduceCtorEq, Nat.reduceAdd, Nat.reduceSub, Nat.reduceLeDiff, Nat.reduceLT, Nat.reduceMul, Int.reduceToNat, Int.reduceLT, Int.reduceLE, Cn.cells, Bool.not_not])

theorem of_id (lab : Int) (neg : Bool) (k : Int) (us : List Ty) : OfD lab neg (.mk k []) (.mk k us) (.mk 0 (.mk k []) .un 0 false []) := by
  refine does44 (by rfl) (by rfl) ?_
  simp (implicitDefEqProofs := false) only [go_sem, ↓reduceIte, Nat.reduceEqDiff, reduceCtorEq, Nat.reduceAdd, Nat.reduceSub, Nat.reduceLeDiff, Nat.reduceLT, Nat.reduceMul, Int.reduceToNat, Int.reduceLT, Int.reduceLE, Ty.cells, Ty.cellsL, Cn.cells, Cn.cellsL, Ty.un, Ty.k, Ty.ts]

theorem of_in {lab : Int} {neg : Bool} {k : Int} {ts us : List Ty} {c : Cn} (hk : k ≠ 0) (hf : (Ty.mk k ts).fits) (h : OfD lab neg (.mk k ts) (Ty.mk k ts).ground.1 c) :
    OfD lab neg (.mk k ts) (.mk 0 us) (part 7 c (.mk 2 (Ty.mk k ts).ground.1 .un 0 false [])) := by
  have hb : (k == 0) = false := by simpa using hk
  have hg := ground_does _ hf
  generalize (Ty.mk k ts).ground = g at h hg
  obtain ⟨⟨gk, gs⟩, gb⟩ := g
  refine does44 (by rfl) (by rfl) ?_
  (try simp (implicitDefEqProofs := false) only [go_sem, ↓reduceIte, Nat.reduceEqDiff, reduceCtorEq, Nat.reduceAdd, Nat.reduceSub, Nat.reduceLeDiff, Nat.reduceLT, Nat.reduceMul, Int.reduceToNat, Int.reduceLT, Int.reduceLE, Ty.cells, Cn.cells, hb, beq_self_eq_true])
  refine CallK_do hg ?_
  (try simp (implicitDefEqProofs := false) only [go_sem, ↓reduceIte, Nat.reduceEqDiff, reduceCtorEq, Nat.reduceAdd, Nat.reduceSub, Nat.reduceLeDiff, Nat.reduceLT, Nat.reduceMul, Int.reduceToNat, Int.reduceLT, Int.reduceLE, Ty.cells, List.map_cons, List.map_nil])
  refine CallBK_do h ?_
  (try simp (implicitDefEqProofs := false) only [go_sem, ↓reduceIte, Nat.reduceEqDiff, reduceCtorEq, Nat.reduceAdd, Nat.reduceSub, Nat.reduceLeDiff, Nat.reduceLT, Nat.reduceMul, Int.reduceToNat, Int.reduceLT, Int.reduceLE])
  refine CallK_do (v := .agg (part 7 c (.mk 2 (.mk gk gs) .un 0 false [])).cells) (fr := false) ?_ ?_
  · have := seq_does c (.mk 2 (.mk gk gs) .un 0 false [])
    simpa [Cn.cells, Cn.cellsL, Ty.k, Ty.ts, Ty.un, Ty.cellsL] using this
  · (try simp (implicitDefEqProofs := false) only [go_sem, ↓reduceIte, Nat.reduceEqDiff, reduceCtorEq, Nat.reduceAdd, Nat.reduceSub, Nat.reduceLeDiff, Nat.reduceLT, Nat.reduceMul, Int.reduceToNat, Int.reduceLT, Int.reduceLE, part_cells])

theorem of_out {lab : Int} {neg : Bool} {k : Int} {ts us : List Ty} {c : Cn} (hk : k ≠ 0) (hf : (Ty.mk k ts).fits) (h : OfD lab neg (Ty.mk k ts).ground.1 (.mk k ts) c) :
    OfD lab neg (.mk 0 us) (.mk k ts) (part 7 (.mk 3 (Ty.mk k ts).ground.1 .un lab neg []) c) := by
  have hb : (k == 0) = false := by simpa using hk
  have hb' : ((0 : Int) == k) = false := by simpa using Ne.symm hk
  have hg := ground_does _ hf
  generalize (Ty.mk k ts).ground = g at h hg
  obtain ⟨⟨gk, gs⟩, gb⟩ := g
  obtain ⟨k2, ty, to, lab2, neg2, ks⟩ := c
  refine does44 (by rfl) (by rfl) ?_
  (try simp (implicitDefEqProofs := false) only [go_sem, ↓reduceIte, Nat.reduceEqDiff, reduceCtorEq, Nat.reduceAdd, Nat.reduceSub, Nat.reduceLeDiff, Nat.reduceLT, Nat.reduceMul, Int.reduceToNat, Int.reduceLT, Int.reduceLE, Ty.cells, Cn.cells, hb, hb'])
  refine CallK_do hg ?_
  (try simp (implicitDefEqProofs := false) only [go_sem, ↓reduceIte, Nat.reduceEqDiff, reduceCtorEq, Nat.reduceAdd, Nat.reduceSub, Nat.reduceLeDiff, Nat.reduceLT, Nat.reduceMul, Int.reduceToNat, Int.reduceLT, Int.reduceLE, Ty.cells])
  refine CallBK_do h ?_
  (try simp (implicitDefEqProofs := false) only [go_sem, ↓reduceIte, Nat.reduceEqDiff, reduceCtorEq, Nat.reduceAdd, Nat.reduceSub, Nat.reduceLeDiff, Nat.reduceLT, Nat.reduceMul, Int.reduceToNat, Int.reduceLT, Int.reduceLE, Cn.cells])
  refine CallK_do (v := .agg (part 7 (.mk 3 (.mk gk gs) .un lab neg []) (.mk k2 ty to lab2 neg2 ks)).cells) (fr := false) ?_ ?_
  · have := seq_does (.mk 3 (.mk gk gs) .un lab neg []) (.mk k2 ty to lab2 neg2 ks)
    simpa [Cn.cells, Ty.k, Ty.ts, Ty.un, Ty.cellsL, Cn.cellsL] using this
  · (try simp (implicitDefEqProofs := false) only [go_sem, ↓reduceIte, Nat.reduceEqDiff, reduceCtorEq, Nat.reduceAdd, Nat.reduceSub, Nat.reduceLeDiff, Nat.reduceLT, Nat.reduceMul, Int.reduceToNat, Int.reduceLT, Int.reduceLE, part_cells])

theorem of_fun {lab : Int} {neg : Bool} {f0 f1 t0 t1 : Ty} {c d : Cn} (h : OfD lab (!neg) t0 f0 c) (h' : OfD lab neg f1 t1 d) :
    OfD lab neg (.mk 3 [f0, f1]) (.mk 3 [t0, t1]) (part 4 c d) := by
  have ho := other_does h
  obtain ⟨a0, a1⟩ := f0
  obtain ⟨b0, b1⟩ := f1
  obtain ⟨c0, c1⟩ := t0
  obtain ⟨d0, d1⟩ := t1
  obtain ⟨k1, ty1, to1, lab1, neg1, ks1⟩ := c
  obtain ⟨k2, ty2, to2, lab2, neg2, ks2⟩ := d
  refine does44 (by rfl) (by rfl) ?_
  (try simp (implicitDefEqProofs := false) only [go_sem, ↓reduceIte, Nat.reduceEqDiff, reduceCtorEq, Nat.reduceAdd, Nat.reduceSub, Nat.reduceLeDiff, Nat.reduceLT, Nat.reduceMul, Int.reduceToNat, Int.reduceLT, Int.reduceLE, Ty.cells, Cn.cells, Ty.cellsL, show ((3 : Int) == 0) = false from rfl, show ((2 : Int) == 0) = false from rfl])
  refine CallBK_do ho ?_
  (try simp (implicitDefEqProofs := false) only [go_sem, ↓reduceIte, Nat.reduceEqDiff, reduceCtorEq, Nat.reduceAdd, Nat.reduceSub, Nat.reduceLeDiff, Nat.reduceLT, Nat.reduceMul, Int.reduceToNat, Int.reduceLT, Int.reduceLE, Ty.cells, Ty.cellsL])
  refine CallBK_do h' ?_
  (try simp (implicitDefEqProofs := false) only [go_sem, ↓reduceIte, Nat.reduceEqDiff, reduceCtorEq, Nat.reduceAdd, Nat.reduceSub, Nat.reduceLeDiff, Nat.reduceLT, Nat.reduceMul, Int.reduceToNat, Int.reduceLT, Int.reduceLE, Cn.cells, part_cells])

theorem of_two {lab : Int} {neg : Bool} {k : Int} {f0 f1 t0 t1 : Ty} {c d : Cn} (hk : k = 4 ∨ k = 5) (h : OfD lab neg f0 t0 c) (h' : OfD lab neg f1 t1 d) :
    OfD lab neg (.mk k [f0, f1]) (.mk k [t0, t1]) (part (k + 1) c d) := by
  obtain ⟨a0, a1⟩ := f0
  obtain ⟨b0, b1⟩ := f1
  obtain ⟨c0, c1⟩ := t0
  obtain ⟨d0, d1⟩ := t1
  obtain ⟨k1, ty1, to1, lab1, neg1, ks1⟩ := c
  obtain ⟨k2, ty2, to2, lab2, neg2, ks2⟩ := d
  rcases hk with rfl | rfl
  · refine does44 (by rfl) (by rfl) ?_
    (try simp (implicitDefEqProofs := false) only [go_sem, ↓reduceIte, Nat.reduceEqDiff, reduceCtorEq, Nat.reduceAdd, Nat.reduceSub, Nat.reduceLeDiff, Nat.reduceLT, Nat.reduceMul, Int.reduceToNat, Int.reduceLT, Int.reduceLE, Ty.cells, Cn.cells, Ty.cellsL, show ((4 : Int) == 0) = false from rfl, show ((2 : Int) == 0) = false from rfl, show ((4 : Int) == 3) = false from rfl, show ((4 : Int) == 5) = false from rfl])
    refine CallBK_do h ?_
    (try simp (implicitDefEqProofs := false) only [go_sem, ↓reduceIte, Nat.reduceEqDiff, reduceCtorEq, Nat.reduceAdd, Nat.reduceSub, Nat.reduceLeDiff, Nat.reduceLT, Nat.reduceMul, Int.reduceToNat, Int.reduceLT, Int.reduceLE, Ty.cells, Ty.cellsL])
    refine CallBK_do h' ?_
    (try simp (implicitDefEqProofs := false) only [go_sem, ↓reduceIte, Nat.reduceEqDiff, reduceCtorEq, Nat.reduceAdd, Nat.reduceSub, Nat.reduceLeDiff, Nat.reduceLT, Nat.reduceMul, Int.reduceToNat, Int.reduceLT, Int.reduceLE, Cn.cells, part_cells, show (4 : Int) + 1 = 5 from rfl])
  · refine does44 (by rfl) (by rfl) ?_
    (try simp (implicitDefEqProofs := false) only [go_sem, ↓reduceIte, Nat.reduceEqDiff, reduceCtorEq, Nat.reduceAdd, Nat.reduceSub, Nat.reduceLeDiff, Nat.reduceLT, Nat.reduceMul, Int.reduceToNat, Int.reduceLT, Int.reduceLE, Ty.cells, Cn.cells, Ty.cellsL, show ((5 : Int) == 0) = false from rfl, show ((2 : Int) == 0) = false from rfl, show ((5 : Int) == 3) = false from rfl])
    refine CallBK_do h ?_
    (try simp (implicitDefEqProofs := false) only [go_sem, ↓reduceIte, Nat.reduceEqDiff, reduceCtorEq, Nat.reduceAdd, Nat.reduceSub, Nat.reduceLeDiff, Nat.reduceLT, Nat.reduceMul, Int.reduceToNat, Int.reduceLT, Int.reduceLE, Ty.cells, Ty.cellsL])
    refine CallBK_do h' ?_
    (try simp (implicitDefEqProofs := false) only [go_sem, ↓reduceIte, Nat.reduceEqDiff, reduceCtorEq, Nat.reduceAdd, Nat.reduceSub, Nat.reduceLeDiff, Nat.reduceLT, Nat.reduceMul, Int.reduceToNat, Int.reduceLT, Int.reduceLE, Cn.cells, part_cells, show (5 : Int) + 1 = 6 from rfl])
end Go.Proofs.Ytopgmopdjiahmaa.Lg
