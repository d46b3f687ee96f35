/- MADE BY PROGRAM (gen/mk.py): the code of functions, as the logic sees it. Conditions: none; plain definitions and lemmas. -/
import Derived.Test.YtopgmopdjiahmaaDoorMa
import Derived.Test.YtopgmopdjiahmaaDoorProg
set_option linter.unusedVariables false
set_option linter.defProp false
set_option maxRecDepth 100000
namespace Go.Proofs.YtopgmopdjiahmaaDoor.Lg
open Go Go.RowKit Go.Proofs
variable {Q : AEx → St → Prop} {σ : St}

/-! ### 39: lychgate/coerce.leaf -/
def r39_0 : MC := .reg [⟨none, (.mv 2 (.c (.imm true (.bool false))))⟩] none (some ([0], []))
def w39_0 := @awpR_no Tryd.prog Q σ r39_0 _ _ ⟨rfl, rfl⟩
def r39_1 : MC := .reg [⟨none, (.mv 3 (.t 0))⟩] none (some ([3], []))
def w39_1 := @awpR_no Tryd.prog Q σ r39_1 _ _ ⟨rfl, rfl⟩
def r39_2 : MC := .reg [⟨none, (.bin 5 .eql (.t 3) (.c (.imm true (.int .i8 0))))⟩, ⟨none, (.mv 4 (.t 5))⟩] none (some ([3, 4], []))
def w39_2 := @awpR_no Tryd.prog Q σ r39_2 _ _ ⟨rfl, rfl⟩
def r39_3 : MC := .reg [⟨none, (.bin 6 .eql (.t 3) (.c (.imm true (.int .i8 1))))⟩, ⟨none, (.mv 4 (.t 6))⟩] none (some ([3, 4], []))
def w39_3 := @awpR_no Tryd.prog Q σ r39_3 _ _ ⟨rfl, rfl⟩
def r39_4 : MC := .reg [⟨none, (.bin 7 .eql (.t 3) (.c (.imm true (.int .i8 2))))⟩, ⟨none, (.mv 4 (.t 7))⟩] none (some ([3, 4], []))
def w39_4 := @awpR_no Tryd.prog Q σ r39_4 _ _ ⟨rfl, rfl⟩
def r39_5 : MC := .reg [⟨none, (.bin 8 .eql (.t 3) (.c (.imm true (.int .i8 3))))⟩, ⟨none, (.mv 4 (.t 8))⟩] none (some ([4], []))
def w39_5 := @awpR_no Tryd.prog Q σ r39_5 _ _ ⟨rfl, rfl⟩
def r39_6 : MC := .reg [⟨none, (.mv 2 (.c (.imm true (.bool true))))⟩] none (some ([2], []))
def w39_6 := @awpR_no Tryd.prog Q σ r39_6 _ _ ⟨rfl, rfl⟩
def r39_7 : MC := .reg [⟨none, (.mv 2 (.c (.imm true (.bool false))))⟩] none (some ([2], []))
def w39_7 := @awpR_no Tryd.prog Q σ r39_7 _ _ ⟨rfl, rfl⟩
def my39 : MC := (.seq r39_0 (.seq (.seq r39_1 (.block 0 (.seq (.seq r39_2 (.cond (.t 4) .skip (.seq r39_3 (.cond (.t 4) .skip (.seq r39_4 (.cond (.t 4) .skip r39_5)))))) (.cond (.t 4) (.seq r39_6 .ret) .skip)))) (.seq r39_7 .ret)))
theorem my39_is : trC Tryd.prog ⟨[], []⟩ ⟨[],
  [(0, [0], []), (1, [3], []), (2, [3, 4], []), (3, [3, 4], []), (4, [3, 4], []), (5, [4], []), (6, [2], []), (7, [2], [])]⟩ 9 (Tryd.f39.body.getD .skip) = some my39 := by kernel_rfl
theorem does39 {args : List LV} (hl : args.length.ble 9 = true) {S S' : List (List LV)} (hS : S'.length = S.length) {o : Out} (h : Lt ⟨numE 0 args, argS 0 S, []⟩ (awp Tryd.prog my39 (Fin [(.t 2)] o S'))) : Does Tryd.prog 39 args S o S' :=
  does_of_awp mixed Tryd.func39 (by kernel_rfl) (by kernel_rfl) my39_is (by kernel_rfl) (Nat.le_of_ble_eq_true hl) hS h
attribute [go_sem ↓] w39_0 w39_1 w39_2 w39_3 w39_4 w39_5 w39_6 w39_7
attribute [go_sem] my39
/-! ### 21: lychgate/coerce.seq -/
def r21_0 : MC := .reg [⟨none, (.boxc 2 (.t 0))⟩, ⟨none, (.boxc 3 (.t 1))⟩, ⟨none, (.alloc 4 z8)⟩] none (some ([2, 3, 4], [4]))
def w21_0 := @awpR_get Tryd.prog Q σ r21_0 _ _ [4] ⟨rfl, rfl⟩
def r21_1 : MC := .reg [⟨none, (.load 5 (.t 2) (some 8))⟩, ⟨none, (.load 6 (.t 3) (some 8))⟩, ⟨none, (.lit 7 8 [(.t 5), (.t 6)])⟩, ⟨none, (.build 8 z8 [(0, (1, (.c (.imm true (.int .i8 7))))), (7, (1, (.t 7)))])⟩, ⟨none, (.store (.t 4) (.t 8) 8)⟩] none (some ([4], [4]))
def w21_1 := @awpR_no Tryd.prog Q σ r21_1 _ _ ⟨rfl, rfl⟩
def my21 : MC := (.seq r21_0 (.seq r21_1 .ret))
theorem my21_is : trC Tryd.prog ⟨[2, 3], []⟩ ⟨[],
  [(0, [2, 3, 4], [4]), (1, [4], [4])]⟩ 9 (Tryd.f21.body.getD .skip) = some my21 := by kernel_rfl
theorem does21 {args : List LV} (hl : args.length.ble 9 = true) {S S' : List (List LV)} (hS : S'.length = S.length) {o : Out} (h : Lt ⟨numE 0 args, argS 0 S, []⟩ (awp Tryd.prog my21 (Fin [(.c 4 (some 8))] o S'))) : Does Tryd.prog 21 args S o S' :=
  does_of_awp mixed Tryd.func21 (by kernel_rfl) (by kernel_rfl) my21_is (by kernel_rfl) (Nat.le_of_ble_eq_true hl) hS h
attribute [go_sem ↓] w21_0 w21_1
attribute [go_sem] my21
/-! ### 11: (*lychgate/coerce.maker).of -/
def r11_0 : MC := .reg [⟨none, (.alloc 6 z8)⟩] none (some ([0, 1, 2, 6], [6]))
def w11_0 := @awpR_get Tryd.prog Q σ r11_0 _ _ [6] ⟨rfl, rfl⟩
def r11_1 : MC := .reg [⟨none, (.mv 14 (.t 1))⟩, ⟨none, (.nilc 15 (.t 14))⟩, ⟨none, (.fad 16 (.t 15) 0)⟩, ⟨none, (.load 17 (.t 16) none)⟩, ⟨none, (.mv 18 (.t 2))⟩, ⟨none, (.nilc 19 (.t 18))⟩, ⟨none, (.fad 20 (.t 19) 0)⟩, ⟨none, (.load 21 (.t 20) none)⟩, ⟨none, (.bin 22 .eql (.t 17) (.t 21))⟩, ⟨none, (.mv 23 (.t 22))⟩, ⟨(some (23, true)), (.mv 24 (.t 1))⟩, ⟨(some (23, true)), (.nilc 25 (.t 24))⟩, ⟨(some (23, true)), (.fad 26 (.t 25) 1)⟩, ⟨(some (23, true)), (.load 27 (.t 26) none)⟩, ⟨(some (23, true)), (.len 28 (.t 27))⟩, ⟨(some (23, true)), (.bin 29 .eql (.t 28) (.c (.imm true (.int .i64 0))))⟩, ⟨none, (.pick 30 (.t 23) (.t 29) (.c (.imm true (.bool false))))⟩, ⟨none, (.mv 13 (.t 30))⟩] (some []) (some ([0, 1, 2, 6, 13], [6]))
def w11_1 := @awpD_no Tryd.prog Q σ r11_1 _ _ _ ⟨rfl, rfl⟩
def r11_2 : MC := .reg [⟨none, (.mv 31 (.t 1))⟩, ⟨none, (.nilc 32 (.t 31))⟩, ⟨none, (.fad 33 (.t 32) 0)⟩, ⟨none, (.load 34 (.t 33) none)⟩, ⟨none, (.build 35 z2 [(0, (1, (.t 34)))])⟩, ⟨none, (.build 36 z8 [(0, (1, (.c (.imm true (.int .i8 0))))), (1, (2, (.t 35)))])⟩, ⟨none, (.store (.t 6) (.t 36) 8)⟩] none (some ([6], [6]))
def w11_2 := @awpR_no Tryd.prog Q σ r11_2 _ _ ⟨rfl, rfl⟩
def r11_3 : MC := .reg [⟨none, (.mv 38 (.t 2))⟩, ⟨none, (.nilc 39 (.t 38))⟩, ⟨none, (.fad 40 (.t 39) 0)⟩, ⟨none, (.load 41 (.t 40) none)⟩, ⟨none, (.bin 42 .eql (.t 41) (.c (.imm true (.int .i8 0))))⟩, ⟨none, (.mv 37 (.t 42))⟩] none (some ([0, 1, 2, 6, 37], [6]))
def w11_3 := @awpR_no Tryd.prog Q σ r11_3 _ _ ⟨rfl, rfl⟩
def r11_4 : MC := .reg [⟨none, (.mv 44 (.t 1))⟩, ⟨none, (.nilc 45 (.t 44))⟩, ⟨none, (.load 46 (.t 45) (some 2))⟩, ⟨none, (.call (some 47) (.c (.fn 20 [])) [(.t 46)])⟩, ⟨none, (.mv 43 (.t 47))⟩, ⟨none, (.ext 48 (.t 43) 0)⟩, ⟨none, (.ext 49 (.t 43) 1)⟩, ⟨none, (.alloc 7 z2)⟩, ⟨none, (.store (.t 7) (.t 48) 2)⟩, ⟨none, (.mv 8 (.t 49))⟩] none (some ([0, 1, 6, 7], [6, 7]))
def w11_4 := @awpR_get Tryd.prog Q σ r11_4 _ _ [7] ⟨rfl, rfl⟩
def r11_5 : MC := .reg [⟨none, (.mv 50 (.t 0))⟩, ⟨none, (.mv 51 (.t 1))⟩, ⟨none, (.callB (some 52) (.c (.fn 11 [])) [(.t 50), (.t 51), (.t 7)] [(.arg 0)])⟩, ⟨none, (.load 53 (.t 7) (some 2))⟩, ⟨none, (.build 54 z8 [(0, (1, (.c (.imm true (.int .i8 2))))), (1, (2, (.t 53)))])⟩, ⟨none, (.call (some 55) (.c (.fn 21 [])) [(.t 52), (.t 54)])⟩, ⟨none, (.store (.t 6) (.t 55) 8)⟩] (some [(2, 3), (2, 4)]) (some ([6], [6]))
def w11_5 := @awpD_no Tryd.prog Q σ r11_5 _ _ _ ⟨rfl, rfl⟩
def r11_6 : MC := .reg [⟨none, (.mv 57 (.t 1))⟩, ⟨none, (.nilc 58 (.t 57))⟩, ⟨none, (.fad 59 (.t 58) 0)⟩, ⟨none, (.load 60 (.t 59) none)⟩, ⟨none, (.bin 61 .eql (.t 60) (.c (.imm true (.int .i8 0))))⟩, ⟨none, (.mv 56 (.t 61))⟩] none (some ([0, 1, 2, 6, 56], [6]))
def w11_6 := @awpR_no Tryd.prog Q σ r11_6 _ _ ⟨rfl, rfl⟩
def r11_7 : MC := .reg [⟨none, (.mv 63 (.t 2))⟩, ⟨none, (.nilc 64 (.t 63))⟩, ⟨none, (.load 65 (.t 64) (some 2))⟩, ⟨none, (.call (some 66) (.c (.fn 20 [])) [(.t 65)])⟩, ⟨none, (.mv 62 (.t 66))⟩, ⟨none, (.ext 67 (.t 62) 0)⟩, ⟨none, (.ext 68 (.t 62) 1)⟩, ⟨none, (.alloc 9 z2)⟩, ⟨none, (.store (.t 9) (.t 67) 2)⟩, ⟨none, (.mv 10 (.t 68))⟩] none (some ([0, 2, 6, 9], [6, 9]))
def w11_7 := @awpR_get Tryd.prog Q σ r11_7 _ _ [9] ⟨rfl, rfl⟩
def r11_8 : MC := .reg [⟨none, (.mv 69 (.t 0))⟩, ⟨none, (.mv 70 (.t 2))⟩, ⟨none, (.callB (some 71) (.c (.fn 11 [])) [(.t 69), (.t 9), (.t 70)] [(.arg 0)])⟩, ⟨none, (.alloc 11 z8)⟩, ⟨none, (.store (.t 11) (.t 71) 8)⟩] none (some ([0, 6, 9, 11], [6, 9, 11]))
def w11_8 := @awpR_get Tryd.prog Q σ r11_8 _ _ [11] ⟨rfl, rfl⟩
def r11_9 : MC := .reg [⟨none, (.load 72 (.t 9) (some 2))⟩, ⟨none, (.mv 73 (.t 0))⟩, ⟨none, (.nilc 74 (.t 73))⟩, ⟨none, (.fad 75 (.t 74) 0)⟩, ⟨none, (.load 76 (.t 75) none)⟩, ⟨none, (.mv 77 (.t 0))⟩, ⟨none, (.nilc 78 (.t 77))⟩, ⟨none, (.fad 79 (.t 78) 1)⟩, ⟨none, (.load 80 (.t 79) none)⟩, ⟨none, (.build 81 z8 [(0, (1, (.c (.imm true (.int .i8 3))))), (1, (2, (.t 72))), (5, (1, (.t 76))), (6, (1, (.t 80)))])⟩, ⟨none, (.load 82 (.t 11) (some 8))⟩, ⟨none, (.call (some 83) (.c (.fn 21 [])) [(.t 81), (.t 82)])⟩, ⟨none, (.store (.t 6) (.t 83) 8)⟩] (some []) (some ([6], [6]))
def w11_9 := @awpD_no Tryd.prog Q σ r11_9 _ _ _ ⟨rfl, rfl⟩
def r11_10 : MC := .reg [⟨none, (.mv 85 (.t 1))⟩, ⟨none, (.nilc 86 (.t 85))⟩, ⟨none, (.fad 87 (.t 86) 0)⟩, ⟨none, (.load 88 (.t 87) none)⟩, ⟨none, (.bin 89 .eql (.t 88) (.c (.imm true (.int .i8 3))))⟩, ⟨none, (.mv 84 (.t 89))⟩] none (some ([0, 1, 2, 6, 84], [6]))
def w11_10 := @awpR_no Tryd.prog Q σ r11_10 _ _ ⟨rfl, rfl⟩
def r11_11 : MC := .reg [⟨none, (.mv 90 (.t 0))⟩, ⟨none, (.mv 91 (.t 2))⟩, ⟨none, (.nilc 92 (.t 91))⟩, ⟨none, (.fad 93 (.t 92) 1)⟩, ⟨none, (.load 94 (.t 93) none)⟩, ⟨none, (.iad 95 (.t 94) (.c (.imm true (.int .i64 0))) 2)⟩, ⟨none, (.mv 96 (.t 1))⟩, ⟨none, (.nilc 97 (.t 96))⟩, ⟨none, (.fad 98 (.t 97) 1)⟩, ⟨none, (.load 99 (.t 98) none)⟩, ⟨none, (.iad 100 (.t 99) (.c (.imm true (.int .i64 0))) 2)⟩, ⟨none, (.callB (some 101) (.c (.fn 22 [])) [(.t 90), (.t 95), (.t 100)] [(.arg 0)])⟩, ⟨none, (.mv 102 (.t 0))⟩, ⟨none, (.mv 103 (.t 1))⟩, ⟨none, (.nilc 104 (.t 103))⟩, ⟨none, (.fad 105 (.t 104) 1)⟩, ⟨none, (.load 106 (.t 105) none)⟩, ⟨none, (.iad 107 (.t 106) (.c (.imm true (.int .i64 1))) 2)⟩, ⟨none, (.mv 108 (.t 2))⟩, ⟨none, (.nilc 109 (.t 108))⟩, ⟨none, (.fad 110 (.t 109) 1)⟩, ⟨none, (.load 111 (.t 110) none)⟩, ⟨none, (.iad 112 (.t 111) (.c (.imm true (.int .i64 1))) 2)⟩, ⟨none, (.callB (some 113) (.c (.fn 11 [])) [(.t 102), (.t 107), (.t 112)] [(.arg 0)])⟩, ⟨none, (.lit 114 8 [(.t 101), (.t 113)])⟩, ⟨none, (.build 115 z8 [(0, (1, (.c (.imm true (.int .i8 4))))), (7, (1, (.t 114)))])⟩, ⟨none, (.store (.t 6) (.t 115) 8)⟩] (some [(11, 12), (11, 13), (11, 14), (11, 15), (11, 16), (11, 17), (11, 18), (11, 19), (11, 20), (11, 21), (11, 22)]) (some ([6], [6]))
def w11_11 := @awpD_no Tryd.prog Q σ r11_11 _ _ _ ⟨rfl, rfl⟩
def r11_12 : MC := .reg [⟨none, (.mv 12 (.c (.imm true (.int .i8 5))))⟩] none (some ([0, 1, 2, 6, 12], [6]))
def w11_12 := @awpR_no Tryd.prog Q σ r11_12 _ _ ⟨rfl, rfl⟩
def r11_13 : MC := .reg [⟨none, (.mv 116 (.t 1))⟩, ⟨none, (.nilc 117 (.t 116))⟩, ⟨none, (.fad 118 (.t 117) 0)⟩, ⟨none, (.load 119 (.t 118) none)⟩, ⟨none, (.bin 120 .eql (.t 119) (.c (.imm true (.int .i8 5))))⟩] none (some ([0, 1, 2, 6, 12, 120], [6]))
def w11_13 := @awpR_no Tryd.prog Q σ r11_13 _ _ ⟨rfl, rfl⟩
def r11_14 : MC := .reg [⟨none, (.mv 12 (.c (.imm true (.int .i8 6))))⟩] none (some ([0, 1, 2, 6, 12], [6]))
def w11_14 := @awpR_no Tryd.prog Q σ r11_14 _ _ ⟨rfl, rfl⟩
def r11_15 : MC := .reg [⟨none, (.mv 121 (.t 12))⟩, ⟨none, (.mv 122 (.t 0))⟩, ⟨none, (.mv 123 (.t 1))⟩, ⟨none, (.nilc 124 (.t 123))⟩, ⟨none, (.fad 125 (.t 124) 1)⟩, ⟨none, (.load 126 (.t 125) none)⟩, ⟨none, (.iad 127 (.t 126) (.c (.imm true (.int .i64 0))) 2)⟩, ⟨none, (.mv 128 (.t 2))⟩, ⟨none, (.nilc 129 (.t 128))⟩, ⟨none, (.fad 130 (.t 129) 1)⟩, ⟨none, (.load 131 (.t 130) none)⟩, ⟨none, (.iad 132 (.t 131) (.c (.imm true (.int .i64 0))) 2)⟩, ⟨none, (.callB (some 133) (.c (.fn 11 [])) [(.t 122), (.t 127), (.t 132)] [(.arg 0)])⟩, ⟨none, (.mv 134 (.t 0))⟩, ⟨none, (.mv 135 (.t 1))⟩, ⟨none, (.nilc 136 (.t 135))⟩, ⟨none, (.fad 137 (.t 136) 1)⟩, ⟨none, (.load 138 (.t 137) none)⟩, ⟨none, (.iad 139 (.t 138) (.c (.imm true (.int .i64 1))) 2)⟩, ⟨none, (.mv 140 (.t 2))⟩, ⟨none, (.nilc 141 (.t 140))⟩, ⟨none, (.fad 142 (.t 141) 1)⟩, ⟨none, (.load 143 (.t 142) none)⟩, ⟨none, (.iad 144 (.t 143) (.c (.imm true (.int .i64 1))) 2)⟩, ⟨none, (.callB (some 145) (.c (.fn 11 [])) [(.t 134), (.t 139), (.t 144)] [(.arg 0)])⟩, ⟨none, (.lit 146 8 [(.t 133), (.t 145)])⟩, ⟨none, (.build 147 z8 [(0, (1, (.t 121))), (7, (1, (.t 146)))])⟩, ⟨none, (.store (.t 6) (.t 147) 8)⟩] (some [(0, 12), (12, 13), (12, 14), (12, 15), (12, 16), (12, 17), (12, 18), (12, 19), (12, 20), (12, 21), (12, 22), (12, 23), (0, 24)]) (some ([6], [6]))
def w11_15 := @awpD_no Tryd.prog Q σ r11_15 _ _ _ ⟨rfl, rfl⟩
def my11 : MC := (.seq r11_0 (.seq (.block 0 (.seq r11_1 (.cond (.t 13) (.seq r11_2 .ret) (.seq r11_3 (.cond (.t 37) (.seq r11_4 (.seq r11_5 .ret)) (.seq r11_6 (.cond (.t 56) (.seq r11_7 (.seq r11_8 (.seq r11_9 .ret))) (.seq r11_10 (.cond (.t 84) (.seq r11_11 .ret) .skip))))))))) (.seq r11_12 (.seq (.seq r11_13 (.cond (.t 120) r11_14 .skip)) (.seq r11_15 .ret)))))
theorem my11_is : trC Tryd.prog ⟨[], [(52, [.arg 0]), (71, [.arg 0]), (101, [.arg 0]), (113, [.arg 0]), (133, [.arg 0]), (145, [.arg 0])]⟩ ⟨[(1, [[], [0], [0, 1], [0, 1, 2], [], [4], [4, 5], [4, 5, 6], [0, 1, 2, 3, 4, 5, 6, 7], [0, 1, 2, 3, 4, 5, 6, 7, 8], [0, 1, 2, 3, 4, 5, 6, 7, 8, 9], [0, 1, 2, 3, 4, 5, 6, 7, 8, 9, 10], [0, 1, 2, 3, 4, 5, 6, 7, 8, 9, 10, 11], [0, 1, 2, 3, 4, 5, 6, 7, 8, 9, 10, 11, 12], [0, 1, 2, 3, 4, 5, 6, 7, 8, 9, 10, 11, 12, 13], [0, 1, 2, 3, 4, 5, 6, 7, 8, 9, 10, 11, 12, 13, 14], [0, 1, 2, 3, 4, 5, 6, 7, 8, 9, 10, 11, 12, 13, 14, 15], [0, 1, 2, 3, 4, 5, 6, 7, 8, 9, 10, 11, 12, 13, 14, 15, 16]], []), (5, [[], [], [0, 1], [], [3], [0, 1, 2, 3, 4], [0, 1, 2, 3, 4, 5]], [(2, 3), (2, 4)]), (9, [[], [], [1], [1, 2], [1, 2, 3], [], [5], [5, 6], [5, 6, 7], [0, 1, 2, 3, 4, 5, 6, 7, 8], [], [0, 1, 2, 3, 4, 5, 6, 7, 8, 9, 10], [0, 1, 2, 3, 4, 5, 6, 7, 8, 9, 10, 11]], []), (11, [[], [], [1], [1, 2], [1, 2, 3], [1, 2, 3, 4], [], [6], [6, 7], [6, 7, 8], [6, 7, 8, 9], [0, 1, 2, 3, 4, 5, 6, 7, 8, 9, 10], [], [], [13], [13, 14], [13, 14, 15], [13, 14, 15, 16], [], [18], [18, 19], [18, 19, 20], [18, 19, 20, 21], [0, 1, 2, 3, 4, 5, 6, 7, 8, 9, 10, 11, 12, 13, 14, 15, 16, 17, 18, 19, 20, 21, 22], [0, 1, 2, 3, 4, 5, 6, 7, 8, 9, 10, 11, 12, 13, 14, 15, 16, 17, 18, 19, 20, 21, 22, 23], [0, 1, 2, 3, 4, 5, 6, 7, 8, 9, 10, 11, 12, 13, 14, 15, 16, 17, 18, 19, 20, 21, 22, 23, 24], [0, 1, 2, 3, 4, 5, 6, 7, 8, 9, 10, 11, 12, 13, 14, 15, 16, 17, 18, 19, 20, 21, 22, 23, 24, 25]], [(11, 12), (11, 13), (11, 14), (11, 15), (11, 16), (11, 17), (11, 18), (11, 19), (11, 20), (11, 21), (11, 22)]), (15, [[], [], [], [2], [2, 3], [2, 3, 4], [2, 3, 4, 5], [], [7], [7, 8], [7, 8, 9], [7, 8, 9, 10], [1, 2, 3, 4, 5, 6, 7, 8, 9, 10, 11], [], [], [14], [14, 15], [14, 15, 16], [14, 15, 16, 17], [], [19], [19, 20], [19, 20, 21], [19, 20, 21, 22], [1, 2, 3, 4, 5, 6, 7, 8, 9, 10, 11, 12, 13, 14, 15, 16, 17, 18, 19, 20, 21, 22, 23], [1, 2, 3, 4, 5, 6, 7, 8, 9, 10, 11, 12, 13, 14, 15, 16, 17, 18, 19, 20, 21, 22, 23, 24], [0, 1, 2, 3, 4, 5, 6, 7, 8, 9, 10, 11, 12, 13, 14, 15, 16, 17, 18, 19, 20, 21, 22, 23, 24, 25], [0, 1, 2, 3, 4, 5, 6, 7, 8, 9, 10, 11, 12, 13, 14, 15, 16, 17, 18, 19, 20, 21, 22, 23, 24, 25, 26]], [(0, 12), (12, 13), (12, 14), (12, 15), (12, 16), (12, 17), (12, 18), (12, 19), (12, 20), (12, 21), (12, 22), (12, 23), (0, 24)])],
  [(0, [0, 1, 2, 6], [6]), (1, [0, 1, 2, 6, 13], [6]), (2, [6], [6]), (3, [0, 1, 2, 6, 37], [6]), (4, [0, 1, 6, 7], [6, 7]), (5, [6], [6]), (6, [0, 1, 2, 6, 56], [6]), (7, [0, 2, 6, 9], [6, 9]), (8, [0, 6, 9, 11], [6, 9, 11]), (9, [6], [6]), (10, [0, 1, 2, 6, 84], [6]), (11, [6], [6]), (12, [0, 1, 2, 6, 12], [6]), (13, [0, 1, 2, 6, 12, 120], [6]), (14, [0, 1, 2, 6, 12], [6]), (15, [6], [6])]⟩ 148 (Tryd.f11.body.getD .skip) = some my11 := by kernel_rfl
theorem does11 {args : List LV} (hl : args.length.ble 148 = true) {S S' : List (List LV)} (hS : S'.length = S.length) {o : Out} (h : Lt ⟨numE 0 args, argS 0 S, []⟩ (awp Tryd.prog my11 (Fin [(.c 6 (some 8))] o S'))) : Does Tryd.prog 11 args S o S' :=
  does_of_awp mixed Tryd.func11 (by kernel_rfl) (by kernel_rfl) my11_is (by kernel_rfl) (Nat.le_of_ble_eq_true hl) hS h
attribute [go_sem ↓] w11_0 w11_1 w11_2 w11_3 w11_4 w11_5 w11_6 w11_7 w11_8 w11_9 w11_10 w11_11 w11_12 w11_13 w11_14 w11_15
attribute [go_sem] my11
/-! ### 22: (*lychgate/coerce.maker).other -/
def r22_0 : MC := .reg [⟨none, (.alloc 6 z8)⟩] none (some ([0, 1, 2, 6], [6]))
def w22_0 := @awpR_get Tryd.prog Q σ r22_0 _ _ [6] ⟨rfl, rfl⟩
def r22_1 : MC := .reg [⟨none, (.mv 8 (.t 0))⟩, ⟨none, (.mv 9 (.t 0))⟩, ⟨none, (.nilc 10 (.t 9))⟩, ⟨none, (.fad 11 (.t 10) 1)⟩, ⟨none, (.load 12 (.t 11) none)⟩, ⟨none, (.un 13 .not (.t 12))⟩, ⟨none, (.nilc 14 (.t 8))⟩, ⟨none, (.fad 15 (.t 14) 1)⟩, ⟨none, (.store (.t 15) (.t 13) 1)⟩] none (some ([0, 1, 2, 6], [6]))
def w22_1 := @awpR_no Tryd.prog Q σ r22_1 _ _ ⟨rfl, rfl⟩
def r22_2 : MC := .reg [⟨none, (.mv 16 (.t 0))⟩, ⟨none, (.mv 17 (.t 1))⟩, ⟨none, (.mv 18 (.t 2))⟩, ⟨none, (.callB (some 19) (.c (.fn 11 [])) [(.t 16), (.t 17), (.t 18)] [(.arg 0)])⟩, ⟨none, (.alloc 7 z8)⟩, ⟨none, (.store (.t 7) (.t 19) 8)⟩] none (some ([0, 6, 7], [6, 7]))
def w22_2 := @awpR_get Tryd.prog Q σ r22_2 _ _ [7] ⟨rfl, rfl⟩
def r22_3 : MC := .reg [⟨none, (.mv 20 (.t 0))⟩, ⟨none, (.mv 21 (.t 0))⟩, ⟨none, (.nilc 22 (.t 21))⟩, ⟨none, (.fad 23 (.t 22) 1)⟩, ⟨none, (.load 24 (.t 23) none)⟩, ⟨none, (.un 25 .not (.t 24))⟩, ⟨none, (.nilc 26 (.t 20))⟩, ⟨none, (.fad 27 (.t 26) 1)⟩, ⟨none, (.store (.t 27) (.t 25) 1)⟩] none (some ([6, 7], [6, 7]))
def w22_3 := @awpR_no Tryd.prog Q σ r22_3 _ _ ⟨rfl, rfl⟩
def r22_4 : MC := .reg [⟨none, (.load 28 (.t 7) (some 8))⟩, ⟨none, (.store (.t 6) (.t 28) 8)⟩] none (some ([6], [6]))
def w22_4 := @awpR_no Tryd.prog Q σ r22_4 _ _ ⟨rfl, rfl⟩
def my22 : MC := (.seq r22_0 (.seq r22_1 (.seq r22_2 (.seq r22_3 (.seq r22_4 .ret)))))
theorem my22_is : trC Tryd.prog ⟨[], [(19, [.arg 0])]⟩ ⟨[],
  [(0, [0, 1, 2, 6], [6]), (1, [0, 1, 2, 6], [6]), (2, [0, 6, 7], [6, 7]), (3, [6, 7], [6, 7]), (4, [6], [6])]⟩ 29 (Tryd.f22.body.getD .skip) = some my22 := by kernel_rfl
theorem does22 {args : List LV} (hl : args.length.ble 29 = true) {S S' : List (List LV)} (hS : S'.length = S.length) {o : Out} (h : Lt ⟨numE 0 args, argS 0 S, []⟩ (awp Tryd.prog my22 (Fin [(.c 6 (some 8))] o S'))) : Does Tryd.prog 22 args S o S' :=
  does_of_awp mixed Tryd.func22 (by kernel_rfl) (by kernel_rfl) my22_is (by kernel_rfl) (Nat.le_of_ble_eq_true hl) hS h
attribute [go_sem ↓] w22_0 w22_1 w22_2 w22_3 w22_4
attribute [go_sem] my22
/-! ### 38: lychgate/coerce.counted$1 -/
def r38_0 : MC := .reg [⟨none, (.mv 4 (.c (.imm true (.bool false))))⟩] none (some ([0, 1, 2], []))
def w38_0 := @awpR_no Tryd.prog Q σ r38_0 _ _ ⟨rfl, rfl⟩
def r38_1 : MC := .reg [⟨none, (.load 6 (.t 1) none)⟩, ⟨none, (.bin 7 .add (.t 6) (.c (.imm true (.int .i64 1))))⟩, ⟨none, (.store (.t 1) (.t 7) 1)⟩] none (some ([0, 1, 2], []))
def w38_1 := @awpR_no Tryd.prog Q σ r38_1 _ _ ⟨rfl, rfl⟩
def r38_2 : MC := .reg [⟨none, (.mv 8 (.t 0))⟩, ⟨none, (.nilc 9 (.t 8))⟩, ⟨none, (.fad 10 (.t 9) 0)⟩, ⟨none, (.load 11 (.t 10) none)⟩, ⟨none, (.call (some 12) (.c (.fn 39 [])) [(.t 11)])⟩] none (some ([0, 1, 2, 12], []))
def w38_2 := @awpR_no Tryd.prog Q σ r38_2 _ _ ⟨rfl, rfl⟩
def r38_3 : MC := .reg [⟨none, (.load 13 (.t 1) none)⟩, ⟨none, (.mv 14 (.t 0))⟩, ⟨none, (.nilc 15 (.t 14))⟩, ⟨none, (.fad 16 (.t 15) 1)⟩, ⟨none, (.load 17 (.t 16) (some 2))⟩, ⟨none, (.call (some 18) (.c (.fn 16 [])) [(.t 17)])⟩, ⟨none, (.bin 19 .add (.t 13) (.t 18))⟩, ⟨none, (.store (.t 1) (.t 19) 1)⟩] (some []) (some ([0, 1, 2], []))
def w38_3 := @awpD_no Tryd.prog Q σ r38_3 _ _ _ ⟨rfl, rfl⟩
def r38_4 : MC := .reg [⟨none, (.mv 20 (.t 0))⟩, ⟨none, (.nilc 21 (.t 20))⟩, ⟨none, (.fad 22 (.t 21) 0)⟩, ⟨none, (.load 23 (.t 22) none)⟩, ⟨none, (.bin 24 .eql (.t 23) (.c (.imm true (.int .i8 1))))⟩] none (some ([0, 1, 2, 24], []))
def w38_4 := @awpR_no Tryd.prog Q σ r38_4 _ _ ⟨rfl, rfl⟩
def r38_5 : MC := .reg [⟨none, (.load 25 (.t 1) none)⟩, ⟨none, (.mv 26 (.t 0))⟩, ⟨none, (.nilc 27 (.t 26))⟩, ⟨none, (.fad 28 (.t 27) 3)⟩, ⟨none, (.load 29 (.t 28) (some 2))⟩, ⟨none, (.call (some 30) (.c (.fn 16 [])) [(.t 29)])⟩, ⟨none, (.bin 31 .add (.t 25) (.t 30))⟩, ⟨none, (.store (.t 1) (.t 31) 1)⟩] (some []) (some ([0, 1, 2], []))
def w38_5 := @awpD_no Tryd.prog Q σ r38_5 _ _ _ ⟨rfl, rfl⟩
def r38_6 : MC := .reg [⟨none, (.mv 32 (.t 0))⟩, ⟨none, (.nilc 33 (.t 32))⟩, ⟨none, (.fad 34 (.t 33) 7)⟩, ⟨none, (.load 35 (.t 34) none)⟩, ⟨none, (.len 36 (.t 35))⟩, ⟨none, (.mv 37 (.c (.imm true (.int .i64 0))))⟩] none (some ([0, 1, 2, 36, 37], []))
def w38_6 := @awpR_no Tryd.prog Q σ r38_6 _ _ ⟨rfl, rfl⟩
def r38_7 : MC := .reg [⟨none, (.bin 38 .lss (.t 37) (.t 36))⟩] none (some ([0, 1, 2, 36, 37, 38], []))
def w38_7 := @awpR_no Tryd.prog Q σ r38_7 _ _ ⟨rfl, rfl⟩
def r38_8 : MC := .reg [⟨none, (.mv 39 (.t 37))⟩, ⟨none, (.mv 5 (.t 39))⟩] none (some ([0, 1, 2, 5, 36, 37], []))
def w38_8 := @awpR_no Tryd.prog Q σ r38_8 _ _ ⟨rfl, rfl⟩
def r38_9 : MC := .reg [⟨none, (.load 40 (.t 1) none)⟩, ⟨none, (.bin 41 .gtr (.t 40) (.c (.imm true (.int .i64 8192))))⟩, ⟨none, (.mv 42 (.t 41))⟩, ⟨(some (42, false)), (.load 43 (.t 2) none)⟩, ⟨(some (42, false)), (.mv 44 (.t 0))⟩, ⟨(some (42, false)), (.nilc 45 (.t 44))⟩, ⟨(some (42, false)), (.fad 46 (.t 45) 7)⟩, ⟨(some (42, false)), (.load 47 (.t 46) none)⟩, ⟨(some (42, false)), (.mv 48 (.t 5))⟩, ⟨(some (42, false)), (.iad 49 (.t 47) (.t 48) 8)⟩, ⟨(some (42, false)), (.callB (some 50) (.t 43) [(.t 49)] [(.arg 0), (.arg 1)])⟩, ⟨(some (42, false)), (.un 51 .not (.t 50))⟩, ⟨none, (.pick 52 (.t 42) (.c (.imm true (.bool true))) (.t 51))⟩] (some []) (some ([0, 1, 2, 36, 37, 52], []))
def w38_9 := @awpD_no Tryd.prog Q σ r38_9 _ _ _ ⟨rfl, rfl⟩
def r38_10 : MC := .reg [⟨none, (.mv 4 (.c (.imm true (.bool false))))⟩] none (some ([4], []))
def w38_10 := @awpR_no Tryd.prog Q σ r38_10 _ _ ⟨rfl, rfl⟩
def r38_11 : MC := .reg [⟨none, (.bin 53 .add (.t 37) (.c (.imm true (.int .i64 1))))⟩, ⟨none, (.mv 37 (.t 53))⟩] none (some ([0, 1, 2, 36, 37], []))
def w38_11 := @awpR_no Tryd.prog Q σ r38_11 _ _ ⟨rfl, rfl⟩
def l38_0 : MC := (.seq r38_7 (.seq (.cond (.t 38) .skip (.exit 0)) (.seq (.block 1 (.seq r38_8 (.seq r38_9 (.cond (.t 52) (.seq r38_10 .ret) .skip)))) r38_11)))
def r38_12 : MC := .reg [⟨none, (.load 54 (.t 1) none)⟩, ⟨none, (.bin 55 .leq (.t 54) (.c (.imm true (.int .i64 8192))))⟩, ⟨none, (.mv 4 (.t 55))⟩] none (some ([4], []))
def w38_12 := @awpR_no Tryd.prog Q σ r38_12 _ _ ⟨rfl, rfl⟩
def my38 : MC := (.seq r38_0 (.seq r38_1 (.seq (.seq r38_2 (.cond (.t 12) r38_3 .skip)) (.seq (.seq r38_4 (.cond (.t 24) r38_5 .skip)) (.seq (.seq r38_6 (.block 0 (.loop l38_0))) (.seq r38_12 .ret))))))
theorem my38_is : trC Tryd.prog ⟨[], [(50, [.arg 0, .arg 1])]⟩ ⟨[(3, [[], [], [1], [1, 2], [1, 2, 3], [1, 2, 3, 4], [0, 1, 2, 3, 4, 5], [0, 1, 2, 3, 4, 5, 6]], []), (5, [[], [], [1], [1, 2], [1, 2, 3], [1, 2, 3, 4], [0, 1, 2, 3, 4, 5], [0, 1, 2, 3, 4, 5, 6]], []), (9, [[], [0], [0, 1], [0, 1, 2], [0, 1, 2], [0, 1, 2, 4], [0, 1, 2, 4, 5], [0, 1, 2, 4, 5, 6], [0, 1, 2], [0, 1, 2, 4, 5, 6, 7, 8], [0, 1, 2, 3, 4, 5, 6, 7, 8, 9], [0, 1, 2, 3, 4, 5, 6, 7, 8, 9, 10], [0, 1, 2, 3, 4, 5, 6, 7, 8, 9, 10, 11]], [])],
  [(0, [0, 1, 2], []), (1, [0, 1, 2], []), (2, [0, 1, 2, 12], []), (3, [0, 1, 2], []), (4, [0, 1, 2, 24], []), (5, [0, 1, 2], []), (6, [0, 1, 2, 36, 37], []), (7, [0, 1, 2, 36, 37, 38], []), (8, [0, 1, 2, 5, 36, 37], []), (9, [0, 1, 2, 36, 37, 52], []), (10, [4], []), (11, [0, 1, 2, 36, 37], []), (12, [4], [])]⟩ 56 (Tryd.f38.body.getD .skip) = some my38 := by kernel_rfl
theorem does38 {args : List LV} (hl : args.length.ble 56 = true) {S S' : List (List LV)} (hS : S'.length = S.length) {o : Out} (h : Lt ⟨numE 0 args, argS 0 S, []⟩ (awp Tryd.prog my38 (Fin [(.t 4)] o S'))) : Does Tryd.prog 38 args S o S' :=
  does_of_awp mixed Tryd.func38 (by kernel_rfl) (by kernel_rfl) my38_is (by kernel_rfl) (Nat.le_of_ble_eq_true hl) hS h
attribute [go_sem ↓] w38_0 w38_1 w38_2 w38_3 w38_4 w38_5 w38_6 w38_7 w38_8 w38_9 w38_10 w38_11 w38_12
attribute [go_sem] my38
/-! ### 23: lychgate/coerce.counted -/
def r23_0 : MC := .reg [⟨none, (.mv 2 (.c (.imm true (.bool false))))⟩] none (some ([0], []))
def w23_0 := @awpR_no Tryd.prog Q σ r23_0 _ _ ⟨rfl, rfl⟩
def r23_1 : MC := .reg [⟨none, (.alloc 3 [(.imm true (.int .i64 0))])⟩, ⟨none, (.store (.t 3) (.c (.imm true (.int .i64 0))) 1)⟩] none (some ([0, 3], [3]))
def w23_1 := @awpR_get Tryd.prog Q σ r23_1 _ _ [3] ⟨rfl, rfl⟩
def r23_2 : MC := .reg [⟨none, (.alloc 4 [.undef])⟩] none (some ([0, 3, 4], [3, 4]))
def w23_2 := @awpR_get Tryd.prog Q σ r23_2 _ _ [4] ⟨rfl, rfl⟩
def r23_3 : MC := .reg [⟨none, (.mkfn 5 38 [(.t 3), (.t 4)])⟩, ⟨none, (.store (.t 4) (.t 5) 1)⟩] none (some ([0, 4], [3, 4]))
def w23_3 := @awpR_no Tryd.prog Q σ r23_3 _ _ ⟨rfl, rfl⟩
def r23_4 : MC := .reg [⟨none, (.load 6 (.t 4) none)⟩, ⟨none, (.mv 7 (.t 0))⟩, ⟨none, (.callB (some 8) (.t 6) [(.t 7)] [(.own 3), (.own 4)])⟩, ⟨none, (.mv 2 (.t 8))⟩] none (some ([2], []))
def w23_4 := @awpR_no Tryd.prog Q σ r23_4 _ _ ⟨rfl, rfl⟩
def my23 : MC := (.seq r23_0 (.seq r23_1 (.seq r23_2 (.seq r23_3 (.seq r23_4 .ret)))))
theorem my23_is : trC Tryd.prog ⟨[], [(8, [.own 3, .own 4])]⟩ ⟨[],
  [(0, [0], []), (1, [0, 3], [3]), (2, [0, 3, 4], [3, 4]), (3, [0, 4], [3, 4]), (4, [2], [])]⟩ 9 (Tryd.f23.body.getD .skip) = some my23 := by kernel_rfl
theorem does23 {args : List LV} (hl : args.length.ble 9 = true) {S S' : List (List LV)} (hS : S'.length = S.length) {o : Out} (h : Lt ⟨numE 0 args, argS 0 S, []⟩ (awp Tryd.prog my23 (Fin [(.t 2)] o S'))) : Does Tryd.prog 23 args S o S' :=
  does_of_awp mixed Tryd.func23 (by kernel_rfl) (by kernel_rfl) my23_is (by kernel_rfl) (Nat.le_of_ble_eq_true hl) hS h
attribute [go_sem ↓] w23_0 w23_1 w23_2 w23_3 w23_4
attribute [go_sem] my23
/-! ### 24: lychgate/coerce.deep -/
def r24_0 : MC := .reg [⟨none, (.mv 4 (.c (.imm true (.int .i64 0))))⟩] none (some ([0, 1], []))
def w24_0 := @awpR_no Tryd.prog Q σ r24_0 _ _ ⟨rfl, rfl⟩
def r24_1 : MC := .reg [⟨none, (.mv 7 (.t 1))⟩, ⟨none, (.bin 8 .eql (.t 7) (.c (.imm true (.int .i64 1))))⟩] none (some ([0, 1, 8], []))
def w24_1 := @awpR_no Tryd.prog Q σ r24_1 _ _ ⟨rfl, rfl⟩
def r24_2 : MC := .reg [⟨none, (.mv 4 (.c (.imm true (.int .i64 1))))⟩] none (some ([4], []))
def w24_2 := @awpR_no Tryd.prog Q σ r24_2 _ _ ⟨rfl, rfl⟩
def r24_3 : MC := .reg [⟨none, (.mv 5 (.c (.imm true (.int .i64 0))))⟩] none (some ([0, 1, 5], []))
def w24_3 := @awpR_no Tryd.prog Q σ r24_3 _ _ ⟨rfl, rfl⟩
def r24_4 : MC := .reg [⟨none, (.mv 9 (.t 0))⟩, ⟨none, (.nilc 10 (.t 9))⟩, ⟨none, (.fad 11 (.t 10) 0)⟩, ⟨none, (.load 12 (.t 11) none)⟩, ⟨none, (.call (some 13) (.c (.fn 39 [])) [(.t 12)])⟩] none (some ([0, 1, 5, 13], []))
def w24_4 := @awpR_no Tryd.prog Q σ r24_4 _ _ ⟨rfl, rfl⟩
def r24_5 : MC := .reg [⟨none, (.mv 14 (.t 0))⟩, ⟨none, (.nilc 15 (.t 14))⟩, ⟨none, (.fad 16 (.t 15) 1)⟩, ⟨none, (.load 17 (.t 16) (some 2))⟩, ⟨none, (.call (some 18) (.c (.fn 17 [])) [(.t 17)])⟩, ⟨none, (.mv 5 (.t 18))⟩] none (some ([0, 1, 5], []))
def w24_5 := @awpR_no Tryd.prog Q σ r24_5 _ _ ⟨rfl, rfl⟩
def r24_6 : MC := .reg [⟨none, (.mv 19 (.t 0))⟩, ⟨none, (.nilc 20 (.t 19))⟩, ⟨none, (.fad 21 (.t 20) 0)⟩, ⟨none, (.load 22 (.t 21) none)⟩, ⟨none, (.bin 23 .eql (.t 22) (.c (.imm true (.int .i8 1))))⟩] none (some ([0, 1, 5, 23], []))
def w24_6 := @awpR_no Tryd.prog Q σ r24_6 _ _ ⟨rfl, rfl⟩
def r24_7 : MC := .reg [⟨none, (.mv 24 (.t 5))⟩, ⟨none, (.mv 25 (.t 0))⟩, ⟨none, (.nilc 26 (.t 25))⟩, ⟨none, (.fad 27 (.t 26) 3)⟩, ⟨none, (.load 28 (.t 27) (some 2))⟩, ⟨none, (.call (some 29) (.c (.fn 17 [])) [(.t 28)])⟩, ⟨none, (.mx 30 [(.t 24), (.t 29)])⟩, ⟨none, (.mv 5 (.t 30))⟩] none (some ([0, 1, 5], []))
def w24_7 := @awpR_no Tryd.prog Q σ r24_7 _ _ ⟨rfl, rfl⟩
def r24_8 : MC := .reg [⟨none, (.mv 31 (.t 0))⟩, ⟨none, (.nilc 32 (.t 31))⟩, ⟨none, (.fad 33 (.t 32) 7)⟩, ⟨none, (.load 34 (.t 33) none)⟩, ⟨none, (.len 35 (.t 34))⟩, ⟨none, (.mv 36 (.c (.imm true (.int .i64 0))))⟩] none (some ([0, 1, 5, 35, 36], []))
def w24_8 := @awpR_no Tryd.prog Q σ r24_8 _ _ ⟨rfl, rfl⟩
def r24_9 : MC := .reg [⟨none, (.bin 37 .lss (.t 36) (.t 35))⟩] none (some ([0, 1, 5, 35, 36, 37], []))
def w24_9 := @awpR_no Tryd.prog Q σ r24_9 _ _ ⟨rfl, rfl⟩
def r24_10 : MC := .reg [⟨none, (.mv 38 (.t 36))⟩, ⟨none, (.mv 6 (.t 38))⟩] none (some ([0, 1, 5, 6, 35, 36], []))
def w24_10 := @awpR_no Tryd.prog Q σ r24_10 _ _ ⟨rfl, rfl⟩
def r24_11 : MC := .reg [⟨none, (.mv 39 (.t 5))⟩, ⟨none, (.mv 40 (.t 0))⟩, ⟨none, (.nilc 41 (.t 40))⟩, ⟨none, (.fad 42 (.t 41) 7)⟩, ⟨none, (.load 43 (.t 42) none)⟩, ⟨none, (.mv 44 (.t 6))⟩, ⟨none, (.iad 45 (.t 43) (.t 44) 8)⟩, ⟨none, (.mv 46 (.t 1))⟩, ⟨none, (.bin 47 .sub (.t 46) (.c (.imm true (.int .i64 1))))⟩, ⟨none, (.call (some 48) (.c (.fn 24 [])) [(.t 45), (.t 47)])⟩, ⟨none, (.mx 49 [(.t 39), (.t 48)])⟩, ⟨none, (.mv 5 (.t 49))⟩] none (some ([0, 1, 5, 35, 36], []))
def w24_11 := @awpR_no Tryd.prog Q σ r24_11 _ _ ⟨rfl, rfl⟩
def r24_12 : MC := .reg [⟨none, (.bin 50 .add (.t 36) (.c (.imm true (.int .i64 1))))⟩, ⟨none, (.mv 36 (.t 50))⟩] none (some ([0, 1, 5, 35, 36], []))
def w24_12 := @awpR_no Tryd.prog Q σ r24_12 _ _ ⟨rfl, rfl⟩
def l24_0 : MC := (.seq r24_9 (.seq (.cond (.t 37) .skip (.exit 0)) (.seq (.block 1 (.seq r24_10 r24_11)) r24_12)))
def r24_13 : MC := .reg [⟨none, (.mv 51 (.t 5))⟩, ⟨none, (.bin 52 .add (.t 51) (.c (.imm true (.int .i64 1))))⟩, ⟨none, (.mv 53 (.t 1))⟩, ⟨none, (.mn 54 [(.t 52), (.t 53)])⟩, ⟨none, (.mv 4 (.t 54))⟩] none (some ([4], []))
def w24_13 := @awpR_no Tryd.prog Q σ r24_13 _ _ ⟨rfl, rfl⟩
def my24 : MC := (.seq r24_0 (.seq (.seq r24_1 (.cond (.t 8) (.seq r24_2 .ret) .skip)) (.seq r24_3 (.seq (.seq r24_4 (.cond (.t 13) r24_5 .skip)) (.seq (.seq r24_6 (.cond (.t 23) r24_7 .skip)) (.seq (.seq r24_8 (.block 0 (.loop l24_0))) (.seq r24_13 .ret)))))))
theorem my24_is : trC Tryd.prog ⟨[], []⟩ ⟨[],
  [(0, [0, 1], []), (1, [0, 1, 8], []), (2, [4], []), (3, [0, 1, 5], []), (4, [0, 1, 5, 13], []), (5, [0, 1, 5], []), (6, [0, 1, 5, 23], []), (7, [0, 1, 5], []), (8, [0, 1, 5, 35, 36], []), (9, [0, 1, 5, 35, 36, 37], []), (10, [0, 1, 5, 6, 35, 36], []), (11, [0, 1, 5, 35, 36], []), (12, [0, 1, 5, 35, 36], []), (13, [4], [])]⟩ 55 (Tryd.f24.body.getD .skip) = some my24 := by kernel_rfl
theorem does24 {args : List LV} (hl : args.length.ble 55 = true) {S S' : List (List LV)} (hS : S'.length = S.length) {o : Out} (h : Lt ⟨numE 0 args, argS 0 S, []⟩ (awp Tryd.prog my24 (Fin [(.t 4)] o S'))) : Does Tryd.prog 24 args S o S' :=
  does_of_awp mixed Tryd.func24 (by kernel_rfl) (by kernel_rfl) my24_is (by kernel_rfl) (Nat.le_of_ble_eq_true hl) hS h
attribute [go_sem ↓] w24_0 w24_1 w24_2 w24_3 w24_4 w24_5 w24_6 w24_7 w24_8 w24_9 w24_10 w24_11 w24_12 w24_13
attribute [go_sem] my24
/-! ### 41: lychgate/coerce.ground -/
def r41_0 : MC := .reg [⟨none, (.boxc 1 (.t 0))⟩, ⟨none, (.mv 2 (.c (.imm true (.bool false))))⟩] none (some ([1], []))
def w41_0 := @awpR_no Tryd.prog Q σ r41_0 _ _ ⟨rfl, rfl⟩
def r41_1 : MC := .reg [⟨none, (.load 6 (.t 1) (some 2))⟩, ⟨none, (.call (some 7) (.c (.fn 20 [])) [(.t 6)])⟩, ⟨none, (.mv 5 (.t 7))⟩, ⟨none, (.ext 8 (.t 5) 0)⟩, ⟨none, (.ext 9 (.t 5) 1)⟩, ⟨none, (.alloc 3 z2)⟩, ⟨none, (.store (.t 3) (.t 8) 2)⟩, ⟨none, (.mv 4 (.t 9))⟩] none (some ([1, 3, 4], [3]))
def w41_1 := @awpR_get Tryd.prog Q σ r41_1 _ _ [3] ⟨rfl, rfl⟩
def r41_2 : MC := .reg [⟨none, (.mv 10 (.t 4))⟩, ⟨none, (.mv 11 (.t 10))⟩, ⟨(some (11, true)), (.load 12 (.t 1) (some 2))⟩, ⟨(some (11, true)), (.load 13 (.t 3) (some 2))⟩, ⟨(some (11, true)), (.call (some 14) (.c (.fn 47 [])) [(.t 12), (.t 13)])⟩, ⟨none, (.pick 15 (.t 11) (.t 14) (.c (.imm true (.bool false))))⟩, ⟨none, (.mv 2 (.t 15))⟩] none (some ([2], []))
def w41_2 := @awpR_no Tryd.prog Q σ r41_2 _ _ ⟨rfl, rfl⟩
def my41 : MC := (.seq r41_0 (.seq r41_1 (.seq r41_2 .ret)))
theorem my41_is : trC Tryd.prog ⟨[1], []⟩ ⟨[],
  [(0, [1], []), (1, [1, 3, 4], [3]), (2, [2], [])]⟩ 16 (Tryd.f41.body.getD .skip) = some my41 := by kernel_rfl
theorem does41 {args : List LV} (hl : args.length.ble 16 = true) {S S' : List (List LV)} (hS : S'.length = S.length) {o : Out} (h : Lt ⟨numE 0 args, argS 0 S, []⟩ (awp Tryd.prog my41 (Fin [(.t 2)] o S'))) : Does Tryd.prog 41 args S o S' :=
  does_of_awp mixed Tryd.func41 (by kernel_rfl) (by kernel_rfl) my41_is (by kernel_rfl) (Nat.le_of_ble_eq_true hl) hS h
attribute [go_sem ↓] w41_0 w41_1 w41_2
attribute [go_sem] my41
/-! ### 25: lychgate/coerce.ends -/
def r25_0 : MC := .reg [⟨none, (.alloc 2 z2)⟩, ⟨none, (.alloc 3 z2)⟩, ⟨none, (.mv 4 (.c (.imm true (.bool false))))⟩] none (some ([0, 2, 3], [2, 3]))
def w25_0 := @awpR_get Tryd.prog Q σ r25_0 _ _ [2, 3] ⟨rfl, rfl⟩
def r25_1 : MC := .reg [⟨none, (.mv 6 (.t 0))⟩, ⟨none, (.nilc 7 (.t 6))⟩, ⟨none, (.fad 8 (.t 7) 0)⟩, ⟨none, (.load 9 (.t 8) none)⟩, ⟨none, (.call (some 10) (.c (.fn 39 [])) [(.t 9)])⟩, ⟨none, (.un 11 .not (.t 10))⟩] none (some ([0, 2, 3, 11], [2, 3]))
def w25_1 := @awpR_no Tryd.prog Q σ r25_1 _ _ ⟨rfl, rfl⟩
def r25_2 : MC := .reg [⟨none, (.mv 12 (.t 0))⟩, ⟨none, (.call (some 13) (.c (.fn 40 [])) [(.t 12)])⟩, ⟨none, (.ext 14 (.t 13) 0)⟩, ⟨none, (.ext 15 (.t 13) 1)⟩, ⟨none, (.ext 16 (.t 13) 2)⟩, ⟨none, (.store (.t 2) (.t 14) 2)⟩, ⟨none, (.store (.t 3) (.t 15) 2)⟩, ⟨none, (.mv 4 (.t 16))⟩] none (some ([2, 3, 4], [2, 3]))
def w25_2 := @awpR_no Tryd.prog Q σ r25_2 _ _ ⟨rfl, rfl⟩
def r25_3 : MC := .reg [⟨none, (.mv 17 (.t 0))⟩, ⟨none, (.nilc 18 (.t 17))⟩, ⟨none, (.fad 19 (.t 18) 7)⟩, ⟨none, (.load 20 (.t 19) none)⟩, ⟨none, (.len 21 (.t 20))⟩, ⟨none, (.bin 22 .neq (.t 21) (.c (.imm true (.int .i64 0))))⟩, ⟨none, (.mv 23 (.t 22))⟩, ⟨(some (23, false)), (.mv 24 (.t 0))⟩, ⟨(some (23, false)), (.nilc 25 (.t 24))⟩, ⟨(some (23, false)), (.fad 26 (.t 25) 1)⟩, ⟨(some (23, false)), (.load 27 (.t 26) (some 2))⟩, ⟨(some (23, false)), (.call (some 28) (.c (.fn 9 [])) [(.t 27)])⟩, ⟨(some (23, false)), (.bin 29 .neq (.t 28) (.c (.imm true (.int .i64 0))))⟩, ⟨none, (.pick 30 (.t 23) (.c (.imm true (.bool true))) (.t 29))⟩] none (some ([0, 2, 3, 30], [2, 3]))
def w25_3 := @awpR_no Tryd.prog Q σ r25_3 _ _ ⟨rfl, rfl⟩
def r25_4 : MC := .reg [⟨none, (.load 31 (.t 2) (some 2))⟩, ⟨none, (.load 32 (.t 3) (some 2))⟩, ⟨none, (.store (.t 2) (.t 31) 2)⟩, ⟨none, (.store (.t 3) (.t 32) 2)⟩, ⟨none, (.mv 4 (.c (.imm true (.bool false))))⟩] (some [(1, 2)]) (some ([2, 3, 4], [2, 3]))
def w25_4 := @awpD_no Tryd.prog Q σ r25_4 _ _ _ ⟨rfl, rfl⟩
def r25_5 : MC := .reg [⟨none, (.mv 33 (.t 0))⟩, ⟨none, (.nilc 34 (.t 33))⟩, ⟨none, (.fad 35 (.t 34) 5)⟩, ⟨none, (.load 36 (.t 35) none)⟩, ⟨none, (.bin 37 .geq (.t 36) (.c (.imm true (.int .i64 1))))⟩, ⟨none, (.mv 38 (.t 37))⟩, ⟨(some (38, true)), (.mv 39 (.t 0))⟩, ⟨(some (38, true)), (.nilc 40 (.t 39))⟩, ⟨(some (38, true)), (.fad 41 (.t 40) 5)⟩, ⟨(some (38, true)), (.load 42 (.t 41) none)⟩, ⟨(some (38, true)), (.bin 43 .leq (.t 42) (.c (.imm true (.int .i64 2147483648))))⟩, ⟨none, (.pick 44 (.t 38) (.t 43) (.c (.imm true (.bool false))))⟩, ⟨none, (.mv 5 (.t 44))⟩] none (some ([0, 2, 3, 5], [2, 3]))
def w25_5 := @awpR_no Tryd.prog Q σ r25_5 _ _ ⟨rfl, rfl⟩
def r25_6 : MC := .reg [⟨none, (.mv 45 (.t 0))⟩, ⟨none, (.nilc 46 (.t 45))⟩, ⟨none, (.fad 47 (.t 46) 0)⟩, ⟨none, (.load 48 (.t 47) none)⟩] none (some ([0, 2, 3, 5, 48], [2, 3]))
def w25_6 := @awpR_no Tryd.prog Q σ r25_6 _ _ ⟨rfl, rfl⟩
def r25_7 : MC := .reg [⟨none, (.bin 50 .eql (.t 48) (.c (.imm true (.int .i8 0))))⟩, ⟨none, (.mv 49 (.t 50))⟩] none (some ([0, 2, 3, 5, 48, 49], [2, 3]))
def w25_7 := @awpR_no Tryd.prog Q σ r25_7 _ _ ⟨rfl, rfl⟩
def r25_8 : MC := .reg [⟨none, (.mv 51 (.t 0))⟩, ⟨none, (.nilc 52 (.t 51))⟩, ⟨none, (.fad 53 (.t 52) 1)⟩, ⟨none, (.load 54 (.t 53) (some 2))⟩, ⟨none, (.mv 55 (.t 0))⟩, ⟨none, (.nilc 56 (.t 55))⟩, ⟨none, (.fad 57 (.t 56) 1)⟩, ⟨none, (.load 58 (.t 57) (some 2))⟩, ⟨none, (.store (.t 2) (.t 54) 2)⟩, ⟨none, (.store (.t 3) (.t 58) 2)⟩, ⟨none, (.mv 4 (.c (.imm true (.bool true))))⟩] (some [(4, 8), (5, 8), (6, 8), (7, 8)]) (some ([2, 3, 4], [2, 3]))
def w25_8 := @awpD_no Tryd.prog Q σ r25_8 _ _ _ ⟨rfl, rfl⟩
def r25_9 : MC := .reg [⟨none, (.bin 60 .eql (.t 48) (.c (.imm true (.int .i8 2))))⟩, ⟨none, (.mv 59 (.t 60))⟩] none (some ([0, 2, 3, 5, 48, 59], [2, 3]))
def w25_9 := @awpR_no Tryd.prog Q σ r25_9 _ _ ⟨rfl, rfl⟩
def r25_10 : MC := .reg [⟨none, (.mv 61 (.t 0))⟩, ⟨none, (.nilc 62 (.t 61))⟩, ⟨none, (.fad 63 (.t 62) 1)⟩, ⟨none, (.load 64 (.t 63) (some 2))⟩, ⟨none, (.build 65 z2 [])⟩, ⟨none, (.mv 66 (.t 0))⟩, ⟨none, (.nilc 67 (.t 66))⟩, ⟨none, (.fad 68 (.t 67) 1)⟩, ⟨none, (.load 69 (.t 68) (some 2))⟩, ⟨none, (.call (some 70) (.c (.fn 41 [])) [(.t 69)])⟩, ⟨none, (.store (.t 2) (.t 64) 2)⟩, ⟨none, (.store (.t 3) (.t 65) 2)⟩, ⟨none, (.mv 4 (.t 70))⟩] (some [(4, 10)]) (some ([2, 3, 4], [2, 3]))
def w25_10 := @awpD_no Tryd.prog Q σ r25_10 _ _ _ ⟨rfl, rfl⟩
def r25_11 : MC := .reg [⟨none, (.bin 72 .eql (.t 48) (.c (.imm true (.int .i8 3))))⟩, ⟨none, (.mv 71 (.t 72))⟩] none (some ([0, 2, 3, 5, 71], [2, 3]))
def w25_11 := @awpR_no Tryd.prog Q σ r25_11 _ _ ⟨rfl, rfl⟩
def r25_12 : MC := .reg [⟨none, (.build 73 z2 [])⟩, ⟨none, (.mv 74 (.t 0))⟩, ⟨none, (.nilc 75 (.t 74))⟩, ⟨none, (.fad 76 (.t 75) 1)⟩, ⟨none, (.load 77 (.t 76) (some 2))⟩, ⟨none, (.mv 78 (.t 0))⟩, ⟨none, (.nilc 79 (.t 78))⟩, ⟨none, (.fad 80 (.t 79) 1)⟩, ⟨none, (.load 81 (.t 80) (some 2))⟩, ⟨none, (.call (some 82) (.c (.fn 41 [])) [(.t 81)])⟩, ⟨none, (.mv 83 (.t 82))⟩, ⟨(some (83, true)), (.mv 84 (.t 5))⟩, ⟨none, (.pick 85 (.t 83) (.t 84) (.c (.imm true (.bool false))))⟩, ⟨none, (.store (.t 2) (.t 73) 2)⟩, ⟨none, (.store (.t 3) (.t 77) 2)⟩, ⟨none, (.mv 4 (.t 85))⟩] (some [(1, 13), (2, 13), (3, 13), (4, 13), (11, 13), (12, 13), (11, 14), (12, 14)]) (some ([2, 3, 4], [2, 3]))
def w25_12 := @awpD_no Tryd.prog Q σ r25_12 _ _ _ ⟨rfl, rfl⟩
def r25_13 : MC := .reg [⟨none, (.mv 86 (.t 0))⟩, ⟨none, (.nilc 87 (.t 86))⟩, ⟨none, (.fad 88 (.t 87) 1)⟩, ⟨none, (.load 89 (.t 88) (some 2))⟩, ⟨none, (.mv 90 (.t 0))⟩, ⟨none, (.nilc 91 (.t 90))⟩, ⟨none, (.fad 92 (.t 91) 3)⟩, ⟨none, (.load 93 (.t 92) (some 2))⟩, ⟨none, (.mv 94 (.t 5))⟩, ⟨none, (.mv 95 (.t 94))⟩, ⟨(some (95, true)), (.mv 96 (.t 0))⟩, ⟨(some (95, true)), (.nilc 97 (.t 96))⟩, ⟨(some (95, true)), (.fad 98 (.t 97) 1)⟩, ⟨(some (95, true)), (.fad 99 (.t 98) 0)⟩, ⟨(some (95, true)), (.load 100 (.t 99) none)⟩, ⟨(some (95, true)), (.bin 101 .neq (.t 100) (.c (.imm true (.int .i8 0))))⟩, ⟨none, (.pick 102 (.t 95) (.t 101) (.c (.imm true (.bool false))))⟩, ⟨none, (.mv 103 (.t 102))⟩, ⟨(some (103, true)), (.mv 104 (.t 0))⟩, ⟨(some (103, true)), (.nilc 105 (.t 104))⟩, ⟨(some (103, true)), (.fad 106 (.t 105) 3)⟩, ⟨(some (103, true)), (.load 107 (.t 106) (some 2))⟩, ⟨(some (103, true)), (.call (some 108) (.c (.fn 9 [])) [(.t 107)])⟩, ⟨(some (103, true)), (.bin 109 .eql (.t 108) (.c (.imm true (.int .i64 0))))⟩, ⟨none, (.pick 110 (.t 103) (.t 109) (.c (.imm true (.bool false))))⟩, ⟨none, (.store (.t 2) (.t 89) 2)⟩, ⟨none, (.store (.t 3) (.t 93) 2)⟩, ⟨none, (.mv 4 (.t 110))⟩] (some [(4, 25), (5, 25), (6, 25), (7, 25), (23, 25), (24, 25), (23, 26), (24, 26)]) (some ([2, 3, 4], [2, 3]))
def w25_13 := @awpD_no Tryd.prog Q σ r25_13 _ _ _ ⟨rfl, rfl⟩
def my25 : MC := (.seq r25_0 (.seq (.seq r25_1 (.cond (.t 11) (.seq r25_2 .ret) .skip)) (.seq (.seq r25_3 (.cond (.t 30) (.seq r25_4 .ret) .skip)) (.seq r25_5 (.seq (.seq r25_6 (.block 0 (.seq r25_7 (.cond (.t 49) (.seq r25_8 .ret) (.seq r25_9 (.cond (.t 59) (.seq r25_10 .ret) (.seq r25_11 (.cond (.t 71) (.seq r25_12 .ret) .skip)))))))) (.seq r25_13 .ret))))))
theorem my25_is : trC Tryd.prog ⟨[], []⟩ ⟨[(4, [[], [], [0], [0, 1, 2], [0, 1, 2, 3]], [(1, 2)]), (8, [[], [0], [0, 1], [0, 1, 2], [], [4], [4, 5], [4, 5, 6], [0, 1, 2, 3], [0, 1, 2, 3, 4, 5, 6, 7, 8], [0, 1, 2, 3, 4, 5, 6, 7, 8, 9]], [(4, 8), (5, 8), (6, 8), (7, 8)]), (10, [[], [0], [0, 1], [0, 1, 2], [], [], [5], [5, 6], [5, 6, 7], [5, 6, 7, 8], [0, 1, 2, 3, 5, 6, 7, 8, 9], [0, 1, 2, 3, 4, 5, 6, 7, 8, 9, 10], [0, 1, 2, 3, 4, 5, 6, 7, 8, 9, 10, 11]], [(4, 10)]), (12, [[], [], [1], [1, 2], [1, 2, 3], [], [5], [5, 6], [5, 6, 7], [5, 6, 7, 8], [5, 6, 7, 8, 9], [5, 6, 7, 8, 9, 10], [5, 6, 7, 8, 9, 10, 11], [0, 5, 6, 7, 8, 9, 10], [0, 1, 2, 3, 4, 5, 6, 7, 8, 9, 10, 13], [0, 1, 2, 3, 4, 5, 6, 7, 8, 9, 10, 11, 12, 13, 14]], [(1, 13), (2, 13), (3, 13), (4, 13), (11, 13), (12, 13), (11, 14), (12, 14)]), (13, [[], [0], [0, 1], [0, 1, 2], [], [4], [4, 5], [4, 5, 6], [], [8], [8, 9], [8, 9, 10], [8, 9, 10, 11], [8, 9, 10, 11, 12], [8, 9, 10, 11, 12, 13], [8, 9, 10, 11, 12, 13, 14], [8, 9, 10, 11, 12, 13, 14, 15], [8, 9, 10, 11, 12, 13, 14, 15, 16], [8, 9, 10, 11, 12, 13, 14, 15, 16, 17], [8, 9, 10, 11, 12, 13, 14, 15, 16, 17, 18], [8, 9, 10, 11, 12, 13, 14, 15, 16, 17, 18, 19], [8, 9, 10, 11, 12, 13, 14, 15, 16, 17, 18, 19, 20], [8, 9, 10, 11, 12, 13, 14, 15, 16, 17, 18, 19, 20, 21], [8, 9, 10, 11, 12, 13, 14, 15, 16, 17, 18, 19, 20, 21, 22], [8, 9, 10, 11, 12, 13, 14, 15, 16, 17, 18, 19, 20, 21, 22, 23], [0, 1, 2, 3, 8, 9, 10, 11, 12, 13, 14, 15, 16, 17, 18, 19, 20, 21, 22], [0, 1, 2, 3, 4, 5, 6, 7, 8, 9, 10, 11, 12, 13, 14, 15, 16, 17, 18, 19, 20, 21, 22, 25], [0, 1, 2, 3, 4, 5, 6, 7, 8, 9, 10, 11, 12, 13, 14, 15, 16, 17, 18, 19, 20, 21, 22, 23, 24, 25, 26]], [(4, 25), (5, 25), (6, 25), (7, 25), (23, 25), (24, 25), (23, 26), (24, 26)])],
  [(0, [0, 2, 3], [2, 3]), (1, [0, 2, 3, 11], [2, 3]), (2, [2, 3, 4], [2, 3]), (3, [0, 2, 3, 30], [2, 3]), (4, [2, 3, 4], [2, 3]), (5, [0, 2, 3, 5], [2, 3]), (6, [0, 2, 3, 5, 48], [2, 3]), (7, [0, 2, 3, 5, 48, 49], [2, 3]), (8, [2, 3, 4], [2, 3]), (9, [0, 2, 3, 5, 48, 59], [2, 3]), (10, [2, 3, 4], [2, 3]), (11, [0, 2, 3, 5, 71], [2, 3]), (12, [2, 3, 4], [2, 3]), (13, [2, 3, 4], [2, 3])]⟩ 111 (Tryd.f25.body.getD .skip) = some my25 := by kernel_rfl
theorem does25 {args : List LV} (hl : args.length.ble 111 = true) {S S' : List (List LV)} (hS : S'.length = S.length) {o : Out} (h : Lt ⟨numE 0 args, argS 0 S, []⟩ (awp Tryd.prog my25 (Fin [(.c 2 (some 2)), (.c 3 (some 2)), (.t 4)] o S'))) : Does Tryd.prog 25 args S o S' :=
  does_of_awp mixed Tryd.func25 (by kernel_rfl) (by kernel_rfl) my25_is (by kernel_rfl) (Nat.le_of_ble_eq_true hl) hS h
attribute [go_sem ↓] w25_0 w25_1 w25_2 w25_3 w25_4 w25_5 w25_6 w25_7 w25_8 w25_9 w25_10 w25_11 w25_12 w25_13
attribute [go_sem] my25
/-! ### 40: lychgate/coerce.parts -/
def r40_0 : MC := .reg [⟨none, (.alloc 2 z2)⟩, ⟨none, (.alloc 3 z2)⟩, ⟨none, (.mv 4 (.c (.imm true (.bool false))))⟩] none (some ([0, 2, 3], [2, 3]))
def w40_0 := @awpR_get Tryd.prog Q σ r40_0 _ _ [2, 3] ⟨rfl, rfl⟩
def r40_1 : MC := .reg [⟨none, (.mv 11 (.t 0))⟩, ⟨none, (.nilc 12 (.t 11))⟩, ⟨none, (.fad 13 (.t 12) 7)⟩, ⟨none, (.load 14 (.t 13) none)⟩, ⟨none, (.len 15 (.t 14))⟩, ⟨none, (.bin 16 .neq (.t 15) (.c (.imm true (.int .i64 2))))⟩] none (some ([0, 2, 3, 16], [2, 3]))
def w40_1 := @awpR_no Tryd.prog Q σ r40_1 _ _ ⟨rfl, rfl⟩
def r40_2 : MC := .reg [⟨none, (.load 17 (.t 2) (some 2))⟩, ⟨none, (.load 18 (.t 3) (some 2))⟩, ⟨none, (.store (.t 2) (.t 17) 2)⟩, ⟨none, (.store (.t 3) (.t 18) 2)⟩, ⟨none, (.mv 4 (.c (.imm true (.bool false))))⟩] (some [(1, 2)]) (some ([2, 3, 4], [2, 3]))
def w40_2 := @awpD_no Tryd.prog Q σ r40_2 _ _ _ ⟨rfl, rfl⟩
def r40_3 : MC := .reg [⟨none, (.mv 20 (.t 0))⟩, ⟨none, (.nilc 21 (.t 20))⟩, ⟨none, (.fad 22 (.t 21) 7)⟩, ⟨none, (.load 23 (.t 22) none)⟩, ⟨none, (.iad 24 (.t 23) (.c (.imm true (.int .i64 0))) 8)⟩, ⟨none, (.call (some 25) (.c (.fn 25 [])) [(.t 24)])⟩, ⟨none, (.mv 19 (.t 25))⟩, ⟨none, (.ext 26 (.t 19) 0)⟩, ⟨none, (.ext 27 (.t 19) 1)⟩, ⟨none, (.ext 28 (.t 19) 2)⟩, ⟨none, (.alloc 5 z2)⟩, ⟨none, (.alloc 6 z2)⟩, ⟨none, (.store (.t 5) (.t 26) 2)⟩, ⟨none, (.store (.t 6) (.t 27) 2)⟩, ⟨none, (.mv 4 (.t 28))⟩] none (some ([0, 2, 3, 4, 5, 6], [2, 3, 5, 6]))
def w40_3 := @awpR_get Tryd.prog Q σ r40_3 _ _ [5, 6] ⟨rfl, rfl⟩
def r40_4 : MC := .reg [⟨none, (.mv 30 (.t 0))⟩, ⟨none, (.nilc 31 (.t 30))⟩, ⟨none, (.fad 32 (.t 31) 7)⟩, ⟨none, (.load 33 (.t 32) none)⟩, ⟨none, (.iad 34 (.t 33) (.c (.imm true (.int .i64 1))) 8)⟩, ⟨none, (.call (some 35) (.c (.fn 25 [])) [(.t 34)])⟩, ⟨none, (.mv 29 (.t 35))⟩, ⟨none, (.ext 36 (.t 29) 0)⟩, ⟨none, (.ext 37 (.t 29) 1)⟩, ⟨none, (.ext 38 (.t 29) 2)⟩, ⟨none, (.alloc 7 z2)⟩, ⟨none, (.alloc 8 z2)⟩, ⟨none, (.store (.t 7) (.t 36) 2)⟩, ⟨none, (.store (.t 8) (.t 37) 2)⟩, ⟨none, (.mv 9 (.t 38))⟩] none (some ([0, 2, 3, 4, 5, 6, 7, 8, 9], [2, 3, 5, 6, 7, 8]))
def w40_4 := @awpR_get Tryd.prog Q σ r40_4 _ _ [7, 8] ⟨rfl, rfl⟩
def r40_5 : MC := .reg [⟨none, (.mv 39 (.t 4))⟩, ⟨none, (.un 40 .not (.t 39))⟩, ⟨none, (.mv 41 (.t 40))⟩, ⟨(some (41, false)), (.mv 42 (.t 9))⟩, ⟨(some (41, false)), (.un 43 .not (.t 42))⟩, ⟨none, (.pick 44 (.t 41) (.c (.imm true (.bool true))) (.t 43))⟩] none (some ([0, 2, 3, 5, 6, 7, 8, 44], [2, 3, 5, 6, 7, 8]))
def w40_5 := @awpR_no Tryd.prog Q σ r40_5 _ _ ⟨rfl, rfl⟩
def r40_6 : MC := .reg [⟨none, (.load 45 (.t 2) (some 2))⟩, ⟨none, (.load 46 (.t 3) (some 2))⟩, ⟨none, (.store (.t 2) (.t 45) 2)⟩, ⟨none, (.store (.t 3) (.t 46) 2)⟩, ⟨none, (.mv 4 (.c (.imm true (.bool false))))⟩] (some [(1, 2)]) (some ([2, 3, 4], [2, 3]))
def w40_6 := @awpD_no Tryd.prog Q σ r40_6 _ _ _ ⟨rfl, rfl⟩
def r40_7 : MC := .reg [⟨none, (.mv 10 (.c (.fn 46 [])))⟩] none (some ([0, 2, 3, 5, 6, 7, 8, 10], [2, 3, 5, 6, 7, 8]))
def w40_7 := @awpR_no Tryd.prog Q σ r40_7 _ _ ⟨rfl, rfl⟩
def r40_8 : MC := .reg [⟨none, (.mv 47 (.t 0))⟩, ⟨none, (.nilc 48 (.t 47))⟩, ⟨none, (.fad 49 (.t 48) 0)⟩, ⟨none, (.load 50 (.t 49) none)⟩] none (some ([2, 3, 5, 6, 7, 8, 10, 50], [2, 3, 5, 6, 7, 8]))
def w40_8 := @awpR_no Tryd.prog Q σ r40_8 _ _ ⟨rfl, rfl⟩
def r40_9 : MC := .reg [⟨none, (.bin 52 .eql (.t 50) (.c (.imm true (.int .i8 4))))⟩, ⟨none, (.mv 51 (.t 52))⟩] none (some ([2, 3, 5, 6, 7, 8, 10, 50, 51], [2, 3, 5, 6, 7, 8]))
def w40_9 := @awpR_no Tryd.prog Q σ r40_9 _ _ ⟨rfl, rfl⟩
def r40_10 : MC := .reg [⟨none, (.mv 53 (.t 10))⟩, ⟨none, (.load 54 (.t 6) (some 2))⟩, ⟨none, (.load 55 (.t 7) (some 2))⟩, ⟨none, (.call (some 56) (.t 53) [(.c (.imm true (.int .i8 3))), (.t 54), (.t 55)])⟩, ⟨none, (.mv 57 (.t 10))⟩, ⟨none, (.load 58 (.t 5) (some 2))⟩, ⟨none, (.load 59 (.t 8) (some 2))⟩, ⟨none, (.call (some 60) (.t 57) [(.c (.imm true (.int .i8 3))), (.t 58), (.t 59)])⟩, ⟨none, (.store (.t 2) (.t 56) 2)⟩, ⟨none, (.store (.t 3) (.t 60) 2)⟩, ⟨none, (.mv 4 (.c (.imm true (.bool true))))⟩] (some []) (some ([2, 3, 4], [2, 3]))
def w40_10 := @awpD_no Tryd.prog Q σ r40_10 _ _ _ ⟨rfl, rfl⟩
def r40_11 : MC := .reg [⟨none, (.bin 62 .eql (.t 50) (.c (.imm true (.int .i8 5))))⟩, ⟨none, (.mv 61 (.t 62))⟩] none (some ([2, 3, 5, 6, 7, 8, 10, 50, 61], [2, 3, 5, 6, 7, 8]))
def w40_11 := @awpR_no Tryd.prog Q σ r40_11 _ _ ⟨rfl, rfl⟩
def r40_12 : MC := .reg [⟨none, (.mv 63 (.t 10))⟩, ⟨none, (.load 64 (.t 5) (some 2))⟩, ⟨none, (.load 65 (.t 7) (some 2))⟩, ⟨none, (.call (some 66) (.t 63) [(.c (.imm true (.int .i8 4))), (.t 64), (.t 65)])⟩, ⟨none, (.mv 67 (.t 10))⟩, ⟨none, (.load 68 (.t 6) (some 2))⟩, ⟨none, (.load 69 (.t 8) (some 2))⟩, ⟨none, (.call (some 70) (.t 67) [(.c (.imm true (.int .i8 4))), (.t 68), (.t 69)])⟩, ⟨none, (.store (.t 2) (.t 66) 2)⟩, ⟨none, (.store (.t 3) (.t 70) 2)⟩, ⟨none, (.mv 4 (.c (.imm true (.bool true))))⟩] (some []) (some ([2, 3, 4], [2, 3]))
def w40_12 := @awpD_no Tryd.prog Q σ r40_12 _ _ _ ⟨rfl, rfl⟩
def r40_13 : MC := .reg [⟨none, (.bin 72 .eql (.t 50) (.c (.imm true (.int .i8 6))))⟩, ⟨none, (.mv 71 (.t 72))⟩] none (some ([2, 3, 5, 6, 7, 8, 10, 50, 71], [2, 3, 5, 6, 7, 8]))
def w40_13 := @awpR_no Tryd.prog Q σ r40_13 _ _ ⟨rfl, rfl⟩
def r40_14 : MC := .reg [⟨none, (.mv 73 (.t 10))⟩, ⟨none, (.load 74 (.t 5) (some 2))⟩, ⟨none, (.load 75 (.t 7) (some 2))⟩, ⟨none, (.call (some 76) (.t 73) [(.c (.imm true (.int .i8 5))), (.t 74), (.t 75)])⟩, ⟨none, (.mv 77 (.t 10))⟩, ⟨none, (.load 78 (.t 6) (some 2))⟩, ⟨none, (.load 79 (.t 8) (some 2))⟩, ⟨none, (.call (some 80) (.t 77) [(.c (.imm true (.int .i8 5))), (.t 78), (.t 79)])⟩, ⟨none, (.store (.t 2) (.t 76) 2)⟩, ⟨none, (.store (.t 3) (.t 80) 2)⟩, ⟨none, (.mv 4 (.c (.imm true (.bool true))))⟩] (some []) (some ([2, 3, 4], [2, 3]))
def w40_14 := @awpD_no Tryd.prog Q σ r40_14 _ _ _ ⟨rfl, rfl⟩
def r40_15 : MC := .reg [⟨none, (.bin 82 .eql (.t 50) (.c (.imm true (.int .i8 7))))⟩, ⟨none, (.mv 81 (.t 82))⟩] none (some ([2, 3, 5, 6, 7, 8, 81], [2, 3, 5, 6, 7, 8]))
def w40_15 := @awpR_no Tryd.prog Q σ r40_15 _ _ ⟨rfl, rfl⟩
def r40_16 : MC := .reg [⟨none, (.load 83 (.t 5) (some 2))⟩, ⟨none, (.load 84 (.t 8) (some 2))⟩, ⟨none, (.load 85 (.t 6) (some 2))⟩, ⟨none, (.load 86 (.t 7) (some 2))⟩, ⟨none, (.call (some 87) (.c (.fn 47 [])) [(.t 85), (.t 86)])⟩, ⟨none, (.store (.t 2) (.t 83) 2)⟩, ⟨none, (.store (.t 3) (.t 84) 2)⟩, ⟨none, (.mv 4 (.t 87))⟩] (some [(1, 5)]) (some ([2, 3, 4], [2, 3]))
def w40_16 := @awpD_no Tryd.prog Q σ r40_16 _ _ _ ⟨rfl, rfl⟩
def r40_17 : MC := .reg [⟨none, (.load 88 (.t 2) (some 2))⟩, ⟨none, (.load 89 (.t 3) (some 2))⟩, ⟨none, (.store (.t 2) (.t 88) 2)⟩, ⟨none, (.store (.t 3) (.t 89) 2)⟩, ⟨none, (.mv 4 (.c (.imm true (.bool false))))⟩] (some [(1, 2)]) (some ([2, 3, 4], [2, 3]))
def w40_17 := @awpD_no Tryd.prog Q σ r40_17 _ _ _ ⟨rfl, rfl⟩
def my40 : MC := (.seq r40_0 (.seq (.seq r40_1 (.cond (.t 16) (.seq r40_2 .ret) .skip)) (.seq r40_3 (.seq r40_4 (.seq (.seq r40_5 (.cond (.t 44) (.seq r40_6 .ret) .skip)) (.seq r40_7 (.seq (.seq r40_8 (.block 0 (.seq r40_9 (.cond (.t 51) (.seq r40_10 .ret) (.seq r40_11 (.cond (.t 61) (.seq r40_12 .ret) (.seq r40_13 (.cond (.t 71) (.seq r40_14 .ret) (.seq r40_15 (.cond (.t 81) (.seq r40_16 .ret) .skip)))))))))) (.seq r40_17 .ret))))))))
theorem my40_is : trC Tryd.prog ⟨[], []⟩ ⟨[(2, [[], [], [0], [0, 1, 2], [0, 1, 2, 3]], [(1, 2)]), (6, [[], [], [0], [0, 1, 2], [0, 1, 2, 3]], [(1, 2)]), (10, [[], [], [], [0, 1, 2], [], [], [], [0, 1, 2, 3, 4, 5, 6], [0, 1, 2, 3, 4, 5, 6, 7], [0, 1, 2, 3, 4, 5, 6, 7, 8], [0, 1, 2, 3, 4, 5, 6, 7, 8, 9]], []), (12, [[], [], [], [0, 1, 2], [], [], [], [0, 1, 2, 3, 4, 5, 6], [0, 1, 2, 3, 4, 5, 6, 7], [0, 1, 2, 3, 4, 5, 6, 7, 8], [0, 1, 2, 3, 4, 5, 6, 7, 8, 9]], []), (14, [[], [], [], [0, 1, 2], [], [], [], [0, 1, 2, 3, 4, 5, 6], [0, 1, 2, 3, 4, 5, 6, 7], [0, 1, 2, 3, 4, 5, 6, 7, 8], [0, 1, 2, 3, 4, 5, 6, 7, 8, 9]], []), (16, [[], [], [], [], [2, 3], [0, 2, 3, 4], [0, 1, 2, 3, 4, 5], [0, 1, 2, 3, 4, 5, 6]], [(1, 5)]), (17, [[], [], [0], [0, 1, 2], [0, 1, 2, 3]], [(1, 2)])],
  [(0, [0, 2, 3], [2, 3]), (1, [0, 2, 3, 16], [2, 3]), (2, [2, 3, 4], [2, 3]), (3, [0, 2, 3, 4, 5, 6], [2, 3, 5, 6]), (4, [0, 2, 3, 4, 5, 6, 7, 8, 9], [2, 3, 5, 6, 7, 8]), (5, [0, 2, 3, 5, 6, 7, 8, 44], [2, 3, 5, 6, 7, 8]), (6, [2, 3, 4], [2, 3]), (7, [0, 2, 3, 5, 6, 7, 8, 10], [2, 3, 5, 6, 7, 8]), (8, [2, 3, 5, 6, 7, 8, 10, 50], [2, 3, 5, 6, 7, 8]), (9, [2, 3, 5, 6, 7, 8, 10, 50, 51], [2, 3, 5, 6, 7, 8]), (10, [2, 3, 4], [2, 3]), (11, [2, 3, 5, 6, 7, 8, 10, 50, 61], [2, 3, 5, 6, 7, 8]), (12, [2, 3, 4], [2, 3]), (13, [2, 3, 5, 6, 7, 8, 10, 50, 71], [2, 3, 5, 6, 7, 8]), (14, [2, 3, 4], [2, 3]), (15, [2, 3, 5, 6, 7, 8, 81], [2, 3, 5, 6, 7, 8]), (16, [2, 3, 4], [2, 3]), (17, [2, 3, 4], [2, 3])]⟩ 90 (Tryd.f40.body.getD .skip) = some my40 := by kernel_rfl
theorem does40 {args : List LV} (hl : args.length.ble 90 = true) {S S' : List (List LV)} (hS : S'.length = S.length) {o : Out} (h : Lt ⟨numE 0 args, argS 0 S, []⟩ (awp Tryd.prog my40 (Fin [(.c 2 (some 2)), (.c 3 (some 2)), (.t 4)] o S'))) : Does Tryd.prog 40 args S o S' :=
  does_of_awp mixed Tryd.func40 (by kernel_rfl) (by kernel_rfl) my40_is (by kernel_rfl) (Nat.le_of_ble_eq_true hl) hS h
attribute [go_sem ↓] w40_0 w40_1 w40_2 w40_3 w40_4 w40_5 w40_6 w40_7 w40_8 w40_9 w40_10 w40_11 w40_12 w40_13 w40_14 w40_15 w40_16 w40_17
attribute [go_sem] my40
/-! ### 46: lychgate/coerce.parts$1 -/
def r46_0 : MC := .reg [⟨none, (.boxc 4 (.t 1))⟩, ⟨none, (.boxc 5 (.t 2))⟩, ⟨none, (.alloc 6 z2)⟩] none (some ([0, 4, 5, 6], [6]))
def w46_0 := @awpR_get Tryd.prog Q σ r46_0 _ _ [6] ⟨rfl, rfl⟩
def r46_1 : MC := .reg [⟨none, (.mv 7 (.t 0))⟩, ⟨none, (.load 8 (.t 4) (some 2))⟩, ⟨none, (.load 9 (.t 5) (some 2))⟩, ⟨none, (.lit 10 2 [(.t 8), (.t 9)])⟩, ⟨none, (.build 11 z2 [(0, (1, (.t 7))), (1, (1, (.t 10)))])⟩, ⟨none, (.store (.t 6) (.t 11) 2)⟩] none (some ([6], [6]))
def w46_1 := @awpR_no Tryd.prog Q σ r46_1 _ _ ⟨rfl, rfl⟩
def my46 : MC := (.seq r46_0 (.seq r46_1 .ret))
theorem my46_is : trC Tryd.prog ⟨[4, 5], []⟩ ⟨[],
  [(0, [0, 4, 5, 6], [6]), (1, [6], [6])]⟩ 12 (Tryd.f46.body.getD .skip) = some my46 := by kernel_rfl
theorem does46 {args : List LV} (hl : args.length.ble 12 = true) {S S' : List (List LV)} (hS : S'.length = S.length) {o : Out} (h : Lt ⟨numE 0 args, argS 0 S, []⟩ (awp Tryd.prog my46 (Fin [(.c 6 (some 2))] o S'))) : Does Tryd.prog 46 args S o S' :=
  does_of_awp mixed Tryd.func46 (by kernel_rfl) (by kernel_rfl) my46_is (by kernel_rfl) (Nat.le_of_ble_eq_true hl) hS h
attribute [go_sem ↓] w46_0 w46_1
attribute [go_sem] my46
/-! ### 26: lychgate/coerce.whole -/
def r26_0 : MC := .reg [⟨none, (.alloc 2 z2)⟩] none (some ([0, 2], [2, 28]))
def w26_0 := @awpR_get Tryd.prog Q σ r26_0 _ _ [2] ⟨rfl, rfl⟩
def r26_1 : MC := .reg [⟨none, (.mv 5 (.t 0))⟩, ⟨none, (.nilc 6 (.t 5))⟩, ⟨none, (.fad 7 (.t 6) 0)⟩, ⟨none, (.load 8 (.t 7) none)⟩, ⟨none, (.build 9 z2 [(0, (1, (.t 8)))])⟩, ⟨none, (.alloc 3 z2)⟩, ⟨none, (.store (.t 3) (.t 9) 2)⟩] none (some ([0, 2, 3], [2, 3, 28]))
def w26_1 := @awpR_get Tryd.prog Q σ r26_1 _ _ [3] ⟨rfl, rfl⟩
def r26_2 : MC := .reg [⟨none, (.mv 10 (.t 0))⟩, ⟨none, (.nilc 11 (.t 10))⟩, ⟨none, (.fad 12 (.t 11) 1)⟩, ⟨none, (.load 13 (.t 12) none)⟩, ⟨none, (.len 14 (.t 13))⟩, ⟨none, (.mv 15 (.c (.imm true (.int .i64 0))))⟩] none (some ([0, 2, 3, 14, 15], [2, 3, 28]))
def w26_2 := @awpR_no Tryd.prog Q σ r26_2 _ _ ⟨rfl, rfl⟩
def r26_3 : MC := .reg [⟨none, (.bin 16 .lss (.t 15) (.t 14))⟩] none (some ([0, 2, 3, 14, 15, 16], [2, 3, 28]))
def w26_3 := @awpR_no Tryd.prog Q σ r26_3 _ _ ⟨rfl, rfl⟩
def r26_4 : MC := .reg [⟨none, (.mv 17 (.t 15))⟩, ⟨none, (.mv 4 (.t 17))⟩] none (some ([0, 2, 3, 4, 14, 15], [2, 3, 28]))
def w26_4 := @awpR_no Tryd.prog Q σ r26_4 _ _ ⟨rfl, rfl⟩
def r26_5 : MC := .reg [⟨none, (.fad 18 (.t 3) 1)⟩, ⟨none, (.load 19 (.t 18) none)⟩, ⟨none, (.mv 20 (.t 0))⟩, ⟨none, (.nilc 21 (.t 20))⟩, ⟨none, (.fad 22 (.t 21) 1)⟩, ⟨none, (.load 23 (.t 22) none)⟩, ⟨none, (.mv 24 (.t 4))⟩, ⟨none, (.iad 25 (.t 23) (.t 24) 2)⟩, ⟨none, (.call (some 26) (.c (.fn 26 [])) [(.t 25)])⟩, ⟨none, (.lit 27 2 [(.t 26)])⟩, ⟨none, (.append 28 (.t 19) (.t 27) 25 2 32)⟩, ⟨none, (.fad 29 (.t 3) 1)⟩, ⟨none, (.store (.t 29) (.t 28) 1)⟩] (some []) (some ([0, 2, 3, 14, 15], [2, 3, 28]))
def w26_5 := @awpD_get Tryd.prog Q σ r26_5 _ _ _ [28] ⟨rfl, rfl⟩
def r26_6 : MC := .reg [⟨none, (.bin 30 .add (.t 15) (.c (.imm true (.int .i64 1))))⟩, ⟨none, (.mv 15 (.t 30))⟩] none (some ([0, 2, 3, 14, 15], [2, 3, 28]))
def w26_6 := @awpR_no Tryd.prog Q σ r26_6 _ _ ⟨rfl, rfl⟩
def l26_0 : MC := (.seq r26_3 (.seq (.cond (.t 16) .skip (.exit 0)) (.seq (.block 1 (.seq r26_4 r26_5)) r26_6)))
def r26_7 : MC := .reg [⟨none, (.load 31 (.t 3) (some 2))⟩, ⟨none, (.store (.t 2) (.t 31) 2)⟩] none (some ([2], [2, 28]))
def w26_7 := @awpR_no Tryd.prog Q σ r26_7 _ _ ⟨rfl, rfl⟩
def my26 : MC := (.seq r26_0 (.seq r26_1 (.seq (.seq r26_2 (.block 0 (.loop l26_0))) (.seq r26_7 .ret))))
theorem my26_is : trC Tryd.prog ⟨[], []⟩ ⟨[(5, [[], [0], [], [2], [2, 3], [2, 3, 4], [], [2, 3, 4, 5, 6], [2, 3, 4, 5, 6, 7], [2, 3, 4, 5, 6, 7, 8], [0, 1, 2, 3, 4, 5, 6, 7, 8, 9], [0, 1, 2, 3, 4, 5, 6, 7, 8, 9, 10], [0, 1, 2, 3, 4, 5, 6, 7, 8, 9, 10, 11]], [])],
  [(0, [0, 2], [2, 28]), (1, [0, 2, 3], [2, 3, 28]), (2, [0, 2, 3, 14, 15], [2, 3, 28]), (3, [0, 2, 3, 14, 15, 16], [2, 3, 28]), (4, [0, 2, 3, 4, 14, 15], [2, 3, 28]), (5, [0, 2, 3, 14, 15], [2, 3, 28]), (6, [0, 2, 3, 14, 15], [2, 3, 28]), (7, [2], [2, 28])]⟩ 32 (Tryd.f26.body.getD .skip) = some my26 := by kernel_rfl
theorem does26 {args : List LV} (hl : args.length.ble 32 = true) {S S' : List (List LV)} (hS : S'.length = S.length) {o : Out} (h : Lt ⟨numE 0 args, argS 0 S, []⟩ (awp Tryd.prog my26 (Fin [(.c 2 (some 2))] o S'))) : Does Tryd.prog 26 args S o S' :=
  does_of_awp mixed Tryd.func26 (by kernel_rfl) (by kernel_rfl) my26_is (by kernel_rfl) (Nat.le_of_ble_eq_true hl) hS h
attribute [go_sem ↓] w26_0 w26_1 w26_2 w26_3 w26_4 w26_5 w26_6 w26_7
attribute [go_sem] my26
/-! ### 12: lychgate/coerce.Check -/
def r12_0 : MC := .reg [⟨none, (.boxc 1 (.t 0))⟩, ⟨none, (.alloc 2 z2)⟩, ⟨none, (.alloc 3 z2)⟩, ⟨none, (.mv 4 (.c (.imm true (.int .i64 0))))⟩] none (some ([1, 2, 3], [2, 3]))
def w12_0 := @awpR_get Tryd.prog Q σ r12_0 _ _ [2, 3] ⟨rfl, rfl⟩
def r12_1 : MC := .reg [⟨none, (.call (some 11) (.c (.fn 23 [])) [(.t 1)])⟩, ⟨none, (.un 12 .not (.t 11))⟩] none (some ([1, 2, 3, 12], [2, 3]))
def w12_1 := @awpR_no Tryd.prog Q σ r12_1 _ _ ⟨rfl, rfl⟩
def r12_2 : MC := .reg [⟨none, (.load 13 (.t 2) (some 2))⟩, ⟨none, (.load 14 (.t 3) (some 2))⟩, ⟨none, (.store (.t 2) (.t 13) 2)⟩, ⟨none, (.store (.t 3) (.t 14) 2)⟩, ⟨none, (.mv 4 (.c (.imm true (.int .i64 32))))⟩] (some [(1, 2)]) (some ([2, 3, 4], [2, 3]))
def w12_2 := @awpD_no Tryd.prog Q σ r12_2 _ _ _ ⟨rfl, rfl⟩
def r12_3 : MC := .reg [⟨none, (.call (some 15) (.c (.fn 24 [])) [(.t 1), (.c (.imm true (.int .i64 201)))])⟩, ⟨none, (.bin 16 .gtr (.t 15) (.c (.imm true (.int .i64 200))))⟩] none (some ([1, 2, 3, 16], [2, 3]))
def w12_3 := @awpR_no Tryd.prog Q σ r12_3 _ _ ⟨rfl, rfl⟩
def r12_4 : MC := .reg [⟨none, (.load 17 (.t 2) (some 2))⟩, ⟨none, (.load 18 (.t 3) (some 2))⟩, ⟨none, (.store (.t 2) (.t 17) 2)⟩, ⟨none, (.store (.t 3) (.t 18) 2)⟩, ⟨none, (.mv 4 (.c (.imm true (.int .i64 31))))⟩] (some [(1, 2)]) (some ([2, 3, 4], [2, 3]))
def w12_4 := @awpD_no Tryd.prog Q σ r12_4 _ _ _ ⟨rfl, rfl⟩
def r12_5 : MC := .reg [⟨none, (.call (some 20) (.c (.fn 25 [])) [(.t 1)])⟩, ⟨none, (.mv 19 (.t 20))⟩, ⟨none, (.ext 21 (.t 19) 0)⟩, ⟨none, (.ext 22 (.t 19) 1)⟩, ⟨none, (.ext 23 (.t 19) 2)⟩, ⟨none, (.alloc 5 z2)⟩, ⟨none, (.alloc 6 z2)⟩, ⟨none, (.store (.t 5) (.t 21) 2)⟩, ⟨none, (.store (.t 6) (.t 22) 2)⟩, ⟨none, (.mv 7 (.t 23))⟩] none (some ([2, 3, 5, 6, 7], [2, 3, 5, 6]))
def w12_5 := @awpR_get Tryd.prog Q σ r12_5 _ _ [5, 6] ⟨rfl, rfl⟩
def r12_6 : MC := .reg [⟨none, (.mv 24 (.t 7))⟩, ⟨none, (.un 25 .not (.t 24))⟩] none (some ([2, 3, 5, 6, 25], [2, 3, 5, 6]))
def w12_6 := @awpR_no Tryd.prog Q σ r12_6 _ _ ⟨rfl, rfl⟩
def r12_7 : MC := .reg [⟨none, (.load 26 (.t 2) (some 2))⟩, ⟨none, (.load 27 (.t 3) (some 2))⟩, ⟨none, (.store (.t 2) (.t 26) 2)⟩, ⟨none, (.store (.t 3) (.t 27) 2)⟩, ⟨none, (.mv 4 (.c (.imm true (.int .i64 150))))⟩] (some [(1, 2)]) (some ([2, 3, 4], [2, 3]))
def w12_7 := @awpD_no Tryd.prog Q σ r12_7 _ _ _ ⟨rfl, rfl⟩
def r12_8 : MC := .reg [⟨none, (.load 28 (.t 5) (some 2))⟩, ⟨none, (.load 29 (.t 6) (some 2))⟩, ⟨none, (.lit 30 2 [(.t 28), (.t 29)])⟩, ⟨none, (.len 31 (.t 30))⟩, ⟨none, (.mv 32 (.c (.imm true (.int .i64 0))))⟩] none (some ([2, 3, 5, 6, 30, 31, 32], [2, 3, 5, 6]))
def w12_8 := @awpR_no Tryd.prog Q σ r12_8 _ _ ⟨rfl, rfl⟩
def r12_9 : MC := .reg [⟨none, (.bin 33 .lss (.t 32) (.t 31))⟩] none (some ([2, 3, 5, 6, 30, 31, 32, 33], [2, 3, 5, 6]))
def w12_9 := @awpR_no Tryd.prog Q σ r12_9 _ _ ⟨rfl, rfl⟩
def r12_10 : MC := .reg [⟨none, (.iad 34 (.t 30) (.t 32) 2)⟩, ⟨none, (.load 35 (.t 34) (some 2))⟩, ⟨none, (.alloc 9 z2)⟩, ⟨none, (.store (.t 9) (.t 35) 2)⟩] none (some ([2, 3, 5, 6, 9, 30, 31, 32], [2, 3, 5, 6, 9]))
def w12_10 := @awpR_get Tryd.prog Q σ r12_10 _ _ [9] ⟨rfl, rfl⟩
def r12_11 : MC := .reg [⟨none, (.load 36 (.t 9) (some 2))⟩, ⟨none, (.call (some 37) (.c (.fn 9 [])) [(.t 36)])⟩, ⟨none, (.mv 10 (.t 37))⟩] none (some ([2, 3, 5, 6, 10, 30, 31, 32], [2, 3, 5, 6]))
def w12_11 := @awpR_no Tryd.prog Q σ r12_11 _ _ ⟨rfl, rfl⟩
def r12_12 : MC := .reg [⟨none, (.mv 38 (.t 10))⟩, ⟨none, (.bin 39 .neq (.t 38) (.c (.imm true (.int .i64 0))))⟩] none (some ([2, 3, 5, 6, 10, 30, 31, 32, 39], [2, 3, 5, 6]))
def w12_12 := @awpR_no Tryd.prog Q σ r12_12 _ _ ⟨rfl, rfl⟩
def r12_13 : MC := .reg [⟨none, (.load 40 (.t 2) (some 2))⟩, ⟨none, (.load 41 (.t 3) (some 2))⟩, ⟨none, (.mv 42 (.t 10))⟩, ⟨none, (.store (.t 2) (.t 40) 2)⟩, ⟨none, (.store (.t 3) (.t 41) 2)⟩, ⟨none, (.mv 4 (.t 42))⟩] (some [(1, 3), (2, 3), (2, 4)]) (some ([2, 3, 4], [2, 3]))
def w12_13 := @awpD_no Tryd.prog Q σ r12_13 _ _ _ ⟨rfl, rfl⟩
def r12_14 : MC := .reg [⟨none, (.bin 43 .add (.t 32) (.c (.imm true (.int .i64 1))))⟩, ⟨none, (.mv 32 (.t 43))⟩] none (some ([2, 3, 5, 6, 30, 31, 32], [2, 3, 5, 6]))
def w12_14 := @awpR_no Tryd.prog Q σ r12_14 _ _ ⟨rfl, rfl⟩
def l12_0 : MC := (.seq r12_9 (.seq (.cond (.t 33) .skip (.exit 0)) (.seq (.block 1 (.seq r12_10 (.seq r12_11 (.seq r12_12 (.cond (.t 39) (.seq r12_13 .ret) .skip))))) r12_14)))
def r12_15 : MC := .reg [⟨none, (.call (some 44) (.c (.fn 26 [])) [(.t 5)])⟩, ⟨none, (.call (some 45) (.c (.fn 26 [])) [(.t 6)])⟩, ⟨none, (.store (.t 2) (.t 44) 2)⟩, ⟨none, (.store (.t 3) (.t 45) 2)⟩, ⟨none, (.mv 4 (.c (.imm true (.int .i64 0))))⟩] none (some ([2, 3, 4], [2, 3]))
def w12_15 := @awpR_no Tryd.prog Q σ r12_15 _ _ ⟨rfl, rfl⟩
def my12 : MC := (.seq r12_0 (.seq (.seq r12_1 (.cond (.t 12) (.seq r12_2 .ret) .skip)) (.seq (.seq r12_3 (.cond (.t 16) (.seq r12_4 .ret) .skip)) (.seq r12_5 (.seq (.seq r12_6 (.cond (.t 25) (.seq r12_7 .ret) .skip)) (.seq (.seq r12_8 (.block 0 (.loop l12_0))) (.seq r12_15 .ret)))))))
theorem my12_is : trC Tryd.prog ⟨[1], []⟩ ⟨[(2, [[], [], [0], [0, 1, 2], [0, 1, 2, 3]], [(1, 2)]), (4, [[], [], [0], [0, 1, 2], [0, 1, 2, 3]], [(1, 2)]), (7, [[], [], [0], [0, 1, 2], [0, 1, 2, 3]], [(1, 2)]), (13, [[], [], [], [0], [0, 1, 3], [0, 1, 2, 3, 4]], [(1, 3), (2, 3), (2, 4)])],
  [(0, [1, 2, 3], [2, 3]), (1, [1, 2, 3, 12], [2, 3]), (2, [2, 3, 4], [2, 3]), (3, [1, 2, 3, 16], [2, 3]), (4, [2, 3, 4], [2, 3]), (5, [2, 3, 5, 6, 7], [2, 3, 5, 6]), (6, [2, 3, 5, 6, 25], [2, 3, 5, 6]), (7, [2, 3, 4], [2, 3]), (8, [2, 3, 5, 6, 30, 31, 32], [2, 3, 5, 6]), (9, [2, 3, 5, 6, 30, 31, 32, 33], [2, 3, 5, 6]), (10, [2, 3, 5, 6, 9, 30, 31, 32], [2, 3, 5, 6, 9]), (11, [2, 3, 5, 6, 10, 30, 31, 32], [2, 3, 5, 6]), (12, [2, 3, 5, 6, 10, 30, 31, 32, 39], [2, 3, 5, 6]), (13, [2, 3, 4], [2, 3]), (14, [2, 3, 5, 6, 30, 31, 32], [2, 3, 5, 6]), (15, [2, 3, 4], [2, 3])]⟩ 46 (Tryd.f12.body.getD .skip) = some my12 := by kernel_rfl
theorem does12 {args : List LV} (hl : args.length.ble 46 = true) {S S' : List (List LV)} (hS : S'.length = S.length) {o : Out} (h : Lt ⟨numE 0 args, argS 0 S, []⟩ (awp Tryd.prog my12 (Fin [(.c 2 (some 2)), (.c 3 (some 2)), (.t 4)] o S'))) : Does Tryd.prog 12 args S o S' :=
  does_of_awp mixed Tryd.func12 (by kernel_rfl) (by kernel_rfl) my12_is (by kernel_rfl) (Nat.le_of_ble_eq_true hl) hS h
attribute [go_sem ↓] w12_0 w12_1 w12_2 w12_3 w12_4 w12_5 w12_6 w12_7 w12_8 w12_9 w12_10 w12_11 w12_12 w12_13 w12_14 w12_15
attribute [go_sem] my12
/-! ### 33: lychgate/coerce.high -/
def r33_0 : MC := .reg [⟨none, (.mv 2 (.c (.imm true (.int .i64 0))))⟩] none (some ([0], []))
def w33_0 := @awpR_no Tryd.prog Q σ r33_0 _ _ ⟨rfl, rfl⟩
def r33_1 : MC := .reg [⟨none, (.mv 3 (.c (.imm true (.int .i64 0))))⟩] none (some ([0, 3], []))
def w33_1 := @awpR_no Tryd.prog Q σ r33_1 _ _ ⟨rfl, rfl⟩
def r33_2 : MC := .reg [⟨none, (.mv 5 (.t 0))⟩, ⟨none, (.nilc 6 (.t 5))⟩, ⟨none, (.fad 7 (.t 6) 1)⟩, ⟨none, (.load 8 (.t 7) none)⟩, ⟨none, (.len 9 (.t 8))⟩, ⟨none, (.mv 10 (.c (.imm true (.int .i64 0))))⟩] none (some ([0, 3, 9, 10], []))
def w33_2 := @awpR_no Tryd.prog Q σ r33_2 _ _ ⟨rfl, rfl⟩
def r33_3 : MC := .reg [⟨none, (.bin 11 .lss (.t 10) (.t 9))⟩] none (some ([0, 3, 9, 10, 11], []))
def w33_3 := @awpR_no Tryd.prog Q σ r33_3 _ _ ⟨rfl, rfl⟩
def r33_4 : MC := .reg [⟨none, (.mv 12 (.t 10))⟩, ⟨none, (.mv 4 (.t 12))⟩] none (some ([0, 3, 4, 9, 10], []))
def w33_4 := @awpR_no Tryd.prog Q σ r33_4 _ _ ⟨rfl, rfl⟩
def r33_5 : MC := .reg [⟨none, (.mv 13 (.t 3))⟩, ⟨none, (.mv 14 (.t 0))⟩, ⟨none, (.nilc 15 (.t 14))⟩, ⟨none, (.fad 16 (.t 15) 1)⟩, ⟨none, (.load 17 (.t 16) none)⟩, ⟨none, (.mv 18 (.t 4))⟩, ⟨none, (.iad 19 (.t 17) (.t 18) 2)⟩, ⟨none, (.call (some 20) (.c (.fn 33 [])) [(.t 19)])⟩, ⟨none, (.mx 21 [(.t 13), (.t 20)])⟩, ⟨none, (.mv 3 (.t 21))⟩] none (some ([0, 3, 9, 10], []))
def w33_5 := @awpR_no Tryd.prog Q σ r33_5 _ _ ⟨rfl, rfl⟩
def r33_6 : MC := .reg [⟨none, (.bin 22 .add (.t 10) (.c (.imm true (.int .i64 1))))⟩, ⟨none, (.mv 10 (.t 22))⟩] none (some ([0, 3, 9, 10], []))
def w33_6 := @awpR_no Tryd.prog Q σ r33_6 _ _ ⟨rfl, rfl⟩
def l33_0 : MC := (.seq r33_3 (.seq (.cond (.t 11) .skip (.exit 0)) (.seq (.block 1 (.seq r33_4 r33_5)) r33_6)))
def r33_7 : MC := .reg [⟨none, (.mv 23 (.t 3))⟩, ⟨none, (.bin 24 .add (.t 23) (.c (.imm true (.int .i64 1))))⟩, ⟨none, (.mv 2 (.t 24))⟩] none (some ([2], []))
def w33_7 := @awpR_no Tryd.prog Q σ r33_7 _ _ ⟨rfl, rfl⟩
def my33 : MC := (.seq r33_0 (.seq r33_1 (.seq (.seq r33_2 (.block 0 (.loop l33_0))) (.seq r33_7 .ret))))
theorem my33_is : trC Tryd.prog ⟨[], []⟩ ⟨[],
  [(0, [0], []), (1, [0, 3], []), (2, [0, 3, 9, 10], []), (3, [0, 3, 9, 10, 11], []), (4, [0, 3, 4, 9, 10], []), (5, [0, 3, 9, 10], []), (6, [0, 3, 9, 10], []), (7, [2], [])]⟩ 25 (Tryd.f33.body.getD .skip) = some my33 := by kernel_rfl
theorem does33 {args : List LV} (hl : args.length.ble 25 = true) {S S' : List (List LV)} (hS : S'.length = S.length) {o : Out} (h : Lt ⟨numE 0 args, argS 0 S, []⟩ (awp Tryd.prog my33 (Fin [(.t 2)] o S'))) : Does Tryd.prog 33 args S o S' :=
  does_of_awp mixed Tryd.func33 (by kernel_rfl) (by kernel_rfl) my33_is (by kernel_rfl) (Nat.le_of_ble_eq_true hl) hS h
attribute [go_sem ↓] w33_0 w33_1 w33_2 w33_3 w33_4 w33_5 w33_6 w33_7
attribute [go_sem] my33
/-! ### 15: lychgate/coerce.measure -/
def r15_0 : MC := .reg [⟨none, (.mv 2 (.c (.imm true (.int .i64 0))))⟩, ⟨none, (.mv 3 (.c (.imm true (.int .i64 0))))⟩] none (some ([0], []))
def w15_0 := @awpR_no Tryd.prog Q σ r15_0 _ _ ⟨rfl, rfl⟩
def r15_1 : MC := .reg [⟨none, (.mv 8 (.t 0))⟩, ⟨none, (.nilc 9 (.t 8))⟩, ⟨none, (.fad 10 (.t 9) 0)⟩, ⟨none, (.load 11 (.t 10) none)⟩] none (some ([0, 11], []))
def w15_1 := @awpR_no Tryd.prog Q σ r15_1 _ _ ⟨rfl, rfl⟩
def r15_2 : MC := .reg [⟨none, (.bin 13 .eql (.t 11) (.c (.imm true (.int .i8 0))))⟩, ⟨none, (.mv 12 (.t 13))⟩] none (some ([0, 11, 12], []))
def w15_2 := @awpR_no Tryd.prog Q σ r15_2 _ _ ⟨rfl, rfl⟩
def r15_3 : MC := .reg [⟨none, (.bin 14 .eql (.t 11) (.c (.imm true (.int .i8 1))))⟩, ⟨none, (.mv 12 (.t 14))⟩] none (some ([0, 11, 12], []))
def w15_3 := @awpR_no Tryd.prog Q σ r15_3 _ _ ⟨rfl, rfl⟩
def r15_4 : MC := .reg [⟨none, (.mv 2 (.c (.imm true (.int .i64 1))))⟩, ⟨none, (.mv 3 (.c (.imm true (.int .i64 1))))⟩] none (some ([2, 3], []))
def w15_4 := @awpR_no Tryd.prog Q σ r15_4 _ _ ⟨rfl, rfl⟩
def r15_5 : MC := .reg [⟨none, (.bin 16 .eql (.t 11) (.c (.imm true (.int .i8 2))))⟩, ⟨none, (.mv 15 (.t 16))⟩] none (some ([0, 11, 15], []))
def w15_5 := @awpR_no Tryd.prog Q σ r15_5 _ _ ⟨rfl, rfl⟩
def r15_6 : MC := .reg [⟨none, (.bin 17 .eql (.t 11) (.c (.imm true (.int .i8 3))))⟩, ⟨none, (.mv 15 (.t 17))⟩] none (some ([0, 15], []))
def w15_6 := @awpR_no Tryd.prog Q σ r15_6 _ _ ⟨rfl, rfl⟩
def r15_7 : MC := .reg [⟨none, (.mv 18 (.t 0))⟩, ⟨none, (.nilc 19 (.t 18))⟩, ⟨none, (.fad 20 (.t 19) 1)⟩, ⟨none, (.call (some 21) (.c (.fn 33 [])) [(.t 20)])⟩, ⟨none, (.mv 2 (.c (.imm true (.int .i64 1))))⟩, ⟨none, (.mv 3 (.t 21))⟩] none (some ([2, 3], []))
def w15_7 := @awpR_no Tryd.prog Q σ r15_7 _ _ ⟨rfl, rfl⟩
def r15_8 : MC := .reg [⟨none, (.mv 23 (.t 0))⟩, ⟨none, (.nilc 24 (.t 23))⟩, ⟨none, (.fad 25 (.t 24) 7)⟩, ⟨none, (.load 26 (.t 25) none)⟩, ⟨none, (.iad 27 (.t 26) (.c (.imm true (.int .i64 0))) 8)⟩, ⟨none, (.call (some 28) (.c (.fn 15 [])) [(.t 27)])⟩, ⟨none, (.mv 22 (.t 28))⟩, ⟨none, (.ext 29 (.t 22) 0)⟩, ⟨none, (.ext 30 (.t 22) 1)⟩, ⟨none, (.mv 4 (.t 29))⟩, ⟨none, (.mv 5 (.t 30))⟩] none (some ([0, 4, 5], []))
def w15_8 := @awpR_no Tryd.prog Q σ r15_8 _ _ ⟨rfl, rfl⟩
def r15_9 : MC := .reg [⟨none, (.mv 32 (.t 0))⟩, ⟨none, (.nilc 33 (.t 32))⟩, ⟨none, (.fad 34 (.t 33) 7)⟩, ⟨none, (.load 35 (.t 34) none)⟩, ⟨none, (.iad 36 (.t 35) (.c (.imm true (.int .i64 1))) 8)⟩, ⟨none, (.call (some 37) (.c (.fn 15 [])) [(.t 36)])⟩, ⟨none, (.mv 31 (.t 37))⟩, ⟨none, (.ext 38 (.t 31) 0)⟩, ⟨none, (.ext 39 (.t 31) 1)⟩, ⟨none, (.mv 6 (.t 38))⟩, ⟨none, (.mv 7 (.t 39))⟩] none (some ([0, 4, 5, 6, 7], []))
def w15_9 := @awpR_no Tryd.prog Q σ r15_9 _ _ ⟨rfl, rfl⟩
def r15_10 : MC := .reg [⟨none, (.mv 40 (.t 4))⟩, ⟨none, (.mv 41 (.t 6))⟩, ⟨none, (.bin 42 .add (.t 40) (.t 41))⟩, ⟨none, (.mv 43 (.t 5))⟩, ⟨none, (.mv 44 (.t 7))⟩, ⟨none, (.mx 45 [(.t 43), (.t 44)])⟩, ⟨none, (.mv 2 (.t 42))⟩, ⟨none, (.mv 3 (.t 45))⟩] none (some ([0, 2, 3], []))
def w15_10 := @awpR_no Tryd.prog Q σ r15_10 _ _ ⟨rfl, rfl⟩
def r15_11 : MC := .reg [⟨none, (.mv 46 (.t 0))⟩, ⟨none, (.nilc 47 (.t 46))⟩, ⟨none, (.fad 48 (.t 47) 0)⟩, ⟨none, (.load 49 (.t 48) none)⟩, ⟨none, (.bin 50 .neq (.t 49) (.c (.imm true (.int .i8 7))))⟩] none (some ([2, 3, 50], []))
def w15_11 := @awpR_no Tryd.prog Q σ r15_11 _ _ ⟨rfl, rfl⟩
def r15_12 : MC := .reg [⟨none, (.mv 51 (.t 2))⟩, ⟨none, (.bin 52 .add (.t 51) (.c (.imm true (.int .i64 1))))⟩, ⟨none, (.mv 2 (.t 52))⟩] none (some ([2, 3], []))
def w15_12 := @awpR_no Tryd.prog Q σ r15_12 _ _ ⟨rfl, rfl⟩
def r15_13 : MC := .reg [⟨none, (.mv 53 (.t 3))⟩, ⟨none, (.bin 54 .add (.t 53) (.c (.imm true (.int .i64 1))))⟩, ⟨none, (.mv 3 (.t 54))⟩] none (some ([2, 3], []))
def w15_13 := @awpR_no Tryd.prog Q σ r15_13 _ _ ⟨rfl, rfl⟩
def r15_14 : MC := .reg [⟨none, (.mv 55 (.t 2))⟩, ⟨none, (.mv 56 (.t 3))⟩, ⟨none, (.mv 2 (.t 55))⟩, ⟨none, (.mv 3 (.t 56))⟩] none (some ([2, 3], []))
def w15_14 := @awpR_no Tryd.prog Q σ r15_14 _ _ ⟨rfl, rfl⟩
def my15 : MC := (.seq r15_0 (.seq (.seq r15_1 (.block 0 (.seq (.seq r15_2 (.cond (.t 12) .skip r15_3)) (.cond (.t 12) (.seq r15_4 .ret) (.seq (.seq r15_5 (.cond (.t 15) .skip r15_6)) (.cond (.t 15) (.seq r15_7 .ret) .skip)))))) (.seq r15_8 (.seq r15_9 (.seq r15_10 (.seq (.seq r15_11 (.cond (.t 50) (.seq r15_12 r15_13) .skip)) (.seq r15_14 .ret)))))))
theorem my15_is : trC Tryd.prog ⟨[], []⟩ ⟨[],
  [(0, [0], []), (1, [0, 11], []), (2, [0, 11, 12], []), (3, [0, 11, 12], []), (4, [2, 3], []), (5, [0, 11, 15], []), (6, [0, 15], []), (7, [2, 3], []), (8, [0, 4, 5], []), (9, [0, 4, 5, 6, 7], []), (10, [0, 2, 3], []), (11, [2, 3, 50], []), (12, [2, 3], []), (13, [2, 3], []), (14, [2, 3], [])]⟩ 57 (Tryd.f15.body.getD .skip) = some my15 := by kernel_rfl
theorem does15 {args : List LV} (hl : args.length.ble 57 = true) {S S' : List (List LV)} (hS : S'.length = S.length) {o : Out} (h : Lt ⟨numE 0 args, argS 0 S, []⟩ (awp Tryd.prog my15 (Fin [(.t 2), (.t 3)] o S'))) : Does Tryd.prog 15 args S o S' :=
  does_of_awp mixed Tryd.func15 (by kernel_rfl) (by kernel_rfl) my15_is (by kernel_rfl) (Nat.le_of_ble_eq_true hl) hS h
attribute [go_sem ↓] w15_0 w15_1 w15_2 w15_3 w15_4 w15_5 w15_6 w15_7 w15_8 w15_9 w15_10 w15_11 w15_12 w15_13 w15_14
attribute [go_sem] my15
/-! ### 8: lychgate/coerce.Height -/
def r8_0 : MC := .reg [⟨none, (.boxc 1 (.t 0))⟩, ⟨none, (.mv 2 (.c (.imm true (.int .i64 0))))⟩] none (some ([1], []))
def w8_0 := @awpR_no Tryd.prog Q σ r8_0 _ _ ⟨rfl, rfl⟩
def r8_1 : MC := .reg [⟨none, (.load 9 (.t 1) (some 8))⟩, ⟨none, (.call (some 10) (.c (.fn 12 [])) [(.t 9)])⟩, ⟨none, (.mv 8 (.t 10))⟩, ⟨none, (.ext 11 (.t 8) 0)⟩, ⟨none, (.ext 12 (.t 8) 1)⟩, ⟨none, (.ext 13 (.t 8) 2)⟩, ⟨none, (.alloc 3 z2)⟩, ⟨none, (.alloc 4 z2)⟩, ⟨none, (.store (.t 3) (.t 11) 2)⟩, ⟨none, (.store (.t 4) (.t 12) 2)⟩, ⟨none, (.mv 5 (.t 13))⟩] none (some ([1, 5], []))
def w8_1 := @awpR_get Tryd.prog Q σ r8_1 _ _ [3, 4] ⟨rfl, rfl⟩
def r8_2 : MC := .reg [⟨none, (.mv 14 (.t 5))⟩, ⟨none, (.bin 15 .neq (.t 14) (.c (.imm true (.int .i64 0))))⟩] none (some ([1, 15], []))
def w8_2 := @awpR_no Tryd.prog Q σ r8_2 _ _ ⟨rfl, rfl⟩
def r8_3 : MC := .reg [⟨none, (.mv 2 (.c (.imm true (.int .i64 0))))⟩] none (some ([2], []))
def w8_3 := @awpR_no Tryd.prog Q σ r8_3 _ _ ⟨rfl, rfl⟩
def r8_4 : MC := .reg [⟨none, (.call (some 17) (.c (.fn 15 [])) [(.t 1)])⟩, ⟨none, (.mv 16 (.t 17))⟩, ⟨none, (.ext 18 (.t 16) 0)⟩, ⟨none, (.ext 19 (.t 16) 1)⟩, ⟨none, (.mv 6 (.t 18))⟩, ⟨none, (.mv 7 (.t 19))⟩] none (some ([7], []))
def w8_4 := @awpR_no Tryd.prog Q σ r8_4 _ _ ⟨rfl, rfl⟩
def r8_5 : MC := .reg [⟨none, (.mv 20 (.t 7))⟩, ⟨none, (.mv 2 (.t 20))⟩] none (some ([2], []))
def w8_5 := @awpR_no Tryd.prog Q σ r8_5 _ _ ⟨rfl, rfl⟩
def my8 : MC := (.seq r8_0 (.seq (.seq r8_1 (.seq r8_2 (.cond (.t 15) (.seq r8_3 .ret) .skip))) (.seq r8_4 (.seq r8_5 .ret))))
theorem my8_is : trC Tryd.prog ⟨[1], []⟩ ⟨[],
  [(0, [1], []), (1, [1, 5], []), (2, [1, 15], []), (3, [2], []), (4, [7], []), (5, [2], [])]⟩ 21 (Tryd.f8.body.getD .skip) = some my8 := by kernel_rfl
theorem does8 {args : List LV} (hl : args.length.ble 21 = true) {S S' : List (List LV)} (hS : S'.length = S.length) {o : Out} (h : Lt ⟨numE 0 args, argS 0 S, []⟩ (awp Tryd.prog my8 (Fin [(.t 2)] o S'))) : Does Tryd.prog 8 args S o S' :=
  does_of_awp mixed Tryd.func8 (by kernel_rfl) (by kernel_rfl) my8_is (by kernel_rfl) (Nat.le_of_ble_eq_true hl) hS h
attribute [go_sem ↓] w8_0 w8_1 w8_2 w8_3 w8_4 w8_5
attribute [go_sem] my8
/-! ### 5: lychgate/coerce.Of -/
def r5_0 : MC := .reg [⟨none, (.boxc 3 (.t 0))⟩, ⟨none, (.boxc 4 (.t 1))⟩, ⟨none, (.alloc 6 z8)⟩, ⟨none, (.mv 7 (.c (.imm true (.int .i64 0))))⟩] none (some ([2, 3, 4, 6], [6]))
def w5_0 := @awpR_get Tryd.prog Q σ r5_0 _ _ [6] ⟨rfl, rfl⟩
def r5_1 : MC := .reg [⟨none, (.load 15 (.t 3) (some 2))⟩, ⟨none, (.call (some 16) (.c (.fn 9 [])) [(.t 15)])⟩, ⟨none, (.mv 8 (.t 16))⟩] none (some ([2, 3, 4, 6, 8], [6]))
def w5_1 := @awpR_no Tryd.prog Q σ r5_1 _ _ ⟨rfl, rfl⟩
def r5_2 : MC := .reg [⟨none, (.mv 17 (.t 8))⟩, ⟨none, (.bin 18 .neq (.t 17) (.c (.imm true (.int .i64 0))))⟩] none (some ([2, 3, 4, 6, 8, 18], [6]))
def w5_2 := @awpR_no Tryd.prog Q σ r5_2 _ _ ⟨rfl, rfl⟩
def r5_3 : MC := .reg [⟨none, (.build 19 z8 [])⟩, ⟨none, (.mv 20 (.t 8))⟩, ⟨none, (.store (.t 6) (.t 19) 8)⟩, ⟨none, (.mv 7 (.t 20))⟩] none (some ([6, 7], [6]))
def w5_3 := @awpR_no Tryd.prog Q σ r5_3 _ _ ⟨rfl, rfl⟩
def r5_4 : MC := .reg [⟨none, (.load 21 (.t 4) (some 2))⟩, ⟨none, (.call (some 22) (.c (.fn 9 [])) [(.t 21)])⟩, ⟨none, (.mv 9 (.t 22))⟩] none (some ([2, 3, 4, 6, 9], [6]))
def w5_4 := @awpR_no Tryd.prog Q σ r5_4 _ _ ⟨rfl, rfl⟩
def r5_5 : MC := .reg [⟨none, (.mv 23 (.t 9))⟩, ⟨none, (.bin 24 .neq (.t 23) (.c (.imm true (.int .i64 0))))⟩] none (some ([2, 3, 4, 6, 9, 24], [6]))
def w5_5 := @awpR_no Tryd.prog Q σ r5_5 _ _ ⟨rfl, rfl⟩
def r5_6 : MC := .reg [⟨none, (.build 25 z8 [])⟩, ⟨none, (.mv 26 (.t 9))⟩, ⟨none, (.store (.t 6) (.t 25) 8)⟩, ⟨none, (.mv 7 (.t 26))⟩] none (some ([6, 7], [6]))
def w5_6 := @awpR_no Tryd.prog Q σ r5_6 _ _ ⟨rfl, rfl⟩
def r5_7 : MC := .reg [⟨none, (.load 27 (.t 3) (some 2))⟩, ⟨none, (.load 28 (.t 4) (some 2))⟩, ⟨none, (.call (some 29) (.c (.fn 10 [])) [(.t 27), (.t 28)])⟩, ⟨none, (.un 30 .not (.t 29))⟩, ⟨none, (.mv 31 (.t 30))⟩, ⟨(some (31, false)), (.mv 32 (.t 2))⟩, ⟨(some (31, false)), (.bin 33 .eql (.t 32) (.c (.imm true (.int .i64 0))))⟩, ⟨none, (.pick 34 (.t 31) (.c (.imm true (.bool true))) (.t 33))⟩, ⟨none, (.mv 35 (.t 34))⟩, ⟨(some (35, false)), (.mv 36 (.t 2))⟩, ⟨(some (35, false)), (.bin 37 .lss (.t 36) (.c (.imm true (.int .i64 (-2147483648)))))⟩, ⟨none, (.pick 38 (.t 35) (.c (.imm true (.bool true))) (.t 37))⟩, ⟨none, (.mv 39 (.t 38))⟩, ⟨(some (39, false)), (.mv 40 (.t 2))⟩, ⟨(some (39, false)), (.bin 41 .gtr (.t 40) (.c (.imm true (.int .i64 2147483648))))⟩, ⟨none, (.pick 42 (.t 39) (.c (.imm true (.bool true))) (.t 41))⟩] none (some ([2, 3, 4, 6, 42], [6]))
def w5_7 := @awpR_no Tryd.prog Q σ r5_7 _ _ ⟨rfl, rfl⟩
def r5_8 : MC := .reg [⟨none, (.build 43 z8 [])⟩, ⟨none, (.store (.t 6) (.t 43) 8)⟩, ⟨none, (.mv 7 (.c (.imm true (.int .i64 150))))⟩] none (some ([6, 7], [6]))
def w5_8 := @awpR_no Tryd.prog Q σ r5_8 _ _ ⟨rfl, rfl⟩
def r5_9 : MC := .reg [⟨none, (.mv 44 (.t 2))⟩, ⟨none, (.build 45 [(.imm true (.int .i64 0)), (.imm true (.bool false))] [(0, (1, (.t 44)))])⟩, ⟨none, (.box 46 (.t 45))⟩, ⟨none, (.mv 10 (.t 46))⟩] none (some ([2, 3, 4, 6, 10], [6, 46]))
def w5_9 := @awpR_get Tryd.prog Q σ r5_9 _ _ [46] ⟨rfl, rfl⟩
def r5_10 : MC := .reg [⟨none, (.mv 47 (.t 2))⟩, ⟨none, (.bin 48 .lss (.t 47) (.c (.imm true (.int .i64 0))))⟩] none (some ([2, 3, 4, 6, 10, 48], [6, 46]))
def w5_10 := @awpR_no Tryd.prog Q σ r5_10 _ _ ⟨rfl, rfl⟩
def r5_11 : MC := .reg [⟨none, (.mv 49 (.t 10))⟩, ⟨none, (.mv 50 (.t 10))⟩, ⟨none, (.mv 51 (.t 2))⟩, ⟨none, (.un 52 .neg (.t 51))⟩, ⟨none, (.nilc 53 (.t 49))⟩, ⟨none, (.fad 54 (.t 53) 0)⟩, ⟨none, (.store (.t 54) (.t 52) 1)⟩, ⟨none, (.nilc 55 (.t 50))⟩, ⟨none, (.fad 56 (.t 55) 1)⟩, ⟨none, (.store (.t 56) (.c (.imm true (.bool true))) 1)⟩] none (some ([3, 4, 6, 10], [6, 46]))
def w5_11 := @awpR_no Tryd.prog Q σ r5_11 _ _ ⟨rfl, rfl⟩
def r5_12 : MC := .reg [⟨none, (.mv 57 (.t 10))⟩, ⟨none, (.callB (some 58) (.c (.fn 11 [])) [(.t 57), (.t 3), (.t 4)] [(.own 46)])⟩, ⟨none, (.alloc 11 z8)⟩, ⟨none, (.store (.t 11) (.t 58) 8)⟩] none (some ([6, 11], [6, 11]))
def w5_12 := @awpR_get Tryd.prog Q σ r5_12 _ _ [11] ⟨rfl, rfl⟩
def r5_13 : MC := .reg [⟨none, (.load 60 (.t 11) (some 8))⟩, ⟨none, (.call (some 61) (.c (.fn 12 [])) [(.t 60)])⟩, ⟨none, (.mv 59 (.t 61))⟩, ⟨none, (.ext 62 (.t 59) 0)⟩, ⟨none, (.ext 63 (.t 59) 1)⟩, ⟨none, (.ext 64 (.t 59) 2)⟩, ⟨none, (.alloc 12 z2)⟩, ⟨none, (.alloc 13 z2)⟩, ⟨none, (.store (.t 12) (.t 62) 2)⟩, ⟨none, (.store (.t 13) (.t 63) 2)⟩, ⟨none, (.mv 14 (.t 64))⟩] none (some ([6, 11, 14], [6, 11]))
def w5_13 := @awpR_get Tryd.prog Q σ r5_13 _ _ [12, 13] ⟨rfl, rfl⟩
def r5_14 : MC := .reg [⟨none, (.mv 65 (.t 14))⟩, ⟨none, (.bin 66 .neq (.t 65) (.c (.imm true (.int .i64 0))))⟩] none (some ([6, 11, 14, 66], [6, 11]))
def w5_14 := @awpR_no Tryd.prog Q σ r5_14 _ _ ⟨rfl, rfl⟩
def r5_15 : MC := .reg [⟨none, (.build 67 z8 [])⟩, ⟨none, (.mv 68 (.t 14))⟩, ⟨none, (.store (.t 6) (.t 67) 8)⟩, ⟨none, (.mv 7 (.t 68))⟩] none (some ([6, 7], [6]))
def w5_15 := @awpR_no Tryd.prog Q σ r5_15 _ _ ⟨rfl, rfl⟩
def r5_16 : MC := .reg [⟨none, (.load 69 (.t 11) (some 8))⟩, ⟨none, (.store (.t 6) (.t 69) 8)⟩, ⟨none, (.mv 7 (.c (.imm true (.int .i64 0))))⟩] none (some ([6, 7], [6]))
def w5_16 := @awpR_no Tryd.prog Q σ r5_16 _ _ ⟨rfl, rfl⟩
def my5 : MC := (.seq r5_0 (.seq (.seq r5_1 (.seq r5_2 (.cond (.t 18) (.seq r5_3 .ret) .skip))) (.seq (.seq r5_4 (.seq r5_5 (.cond (.t 24) (.seq r5_6 .ret) .skip))) (.seq (.seq r5_7 (.cond (.t 42) (.seq r5_8 .ret) .skip)) (.seq r5_9 (.seq (.seq r5_10 (.cond (.t 48) r5_11 .skip)) (.seq r5_12 (.seq (.seq r5_13 (.seq r5_14 (.cond (.t 66) (.seq r5_15 .ret) .skip))) (.seq r5_16 .ret)))))))))
theorem my5_is : trC Tryd.prog ⟨[3, 4], [(58, [.own 46])]⟩ ⟨[],
  [(0, [2, 3, 4, 6], [6]), (1, [2, 3, 4, 6, 8], [6]), (2, [2, 3, 4, 6, 8, 18], [6]), (3, [6, 7], [6]), (4, [2, 3, 4, 6, 9], [6]), (5, [2, 3, 4, 6, 9, 24], [6]), (6, [6, 7], [6]), (7, [2, 3, 4, 6, 42], [6]), (8, [6, 7], [6]), (9, [2, 3, 4, 6, 10], [6, 46]), (10, [2, 3, 4, 6, 10, 48], [6, 46]), (11, [3, 4, 6, 10], [6, 46]), (12, [6, 11], [6, 11]), (13, [6, 11, 14], [6, 11]), (14, [6, 11, 14, 66], [6, 11]), (15, [6, 7], [6]), (16, [6, 7], [6])]⟩ 70 (Tryd.f5.body.getD .skip) = some my5 := by kernel_rfl
theorem does5 {args : List LV} (hl : args.length.ble 70 = true) {S S' : List (List LV)} (hS : S'.length = S.length) {o : Out} (h : Lt ⟨numE 0 args, argS 0 S, []⟩ (awp Tryd.prog my5 (Fin [(.c 6 (some 8)), (.t 7)] o S'))) : Does Tryd.prog 5 args S o S' :=
  does_of_awp mixed Tryd.func5 (by kernel_rfl) (by kernel_rfl) my5_is (by kernel_rfl) (Nat.le_of_ble_eq_true hl) hS h
attribute [go_sem ↓] w5_0 w5_1 w5_2 w5_3 w5_4 w5_5 w5_6 w5_7 w5_8 w5_9 w5_10 w5_11 w5_12 w5_13 w5_14 w5_15 w5_16
attribute [go_sem] my5
/-! ### 7: lychgate/coerce.Size -/
def r7_0 : MC := .reg [⟨none, (.boxc 1 (.t 0))⟩, ⟨none, (.mv 2 (.c (.imm true (.int .i64 0))))⟩] none (some ([1], []))
def w7_0 := @awpR_no Tryd.prog Q σ r7_0 _ _ ⟨rfl, rfl⟩
def r7_1 : MC := .reg [⟨none, (.load 9 (.t 1) (some 8))⟩, ⟨none, (.call (some 10) (.c (.fn 12 [])) [(.t 9)])⟩, ⟨none, (.mv 8 (.t 10))⟩, ⟨none, (.ext 11 (.t 8) 0)⟩, ⟨none, (.ext 12 (.t 8) 1)⟩, ⟨none, (.ext 13 (.t 8) 2)⟩, ⟨none, (.alloc 3 z2)⟩, ⟨none, (.alloc 4 z2)⟩, ⟨none, (.store (.t 3) (.t 11) 2)⟩, ⟨none, (.store (.t 4) (.t 12) 2)⟩, ⟨none, (.mv 5 (.t 13))⟩] none (some ([1, 5], []))
def w7_1 := @awpR_get Tryd.prog Q σ r7_1 _ _ [3, 4] ⟨rfl, rfl⟩
def r7_2 : MC := .reg [⟨none, (.mv 14 (.t 5))⟩, ⟨none, (.bin 15 .neq (.t 14) (.c (.imm true (.int .i64 0))))⟩] none (some ([1, 15], []))
def w7_2 := @awpR_no Tryd.prog Q σ r7_2 _ _ ⟨rfl, rfl⟩
def r7_3 : MC := .reg [⟨none, (.mv 2 (.c (.imm true (.int .i64 0))))⟩] none (some ([2], []))
def w7_3 := @awpR_no Tryd.prog Q σ r7_3 _ _ ⟨rfl, rfl⟩
def r7_4 : MC := .reg [⟨none, (.call (some 17) (.c (.fn 15 [])) [(.t 1)])⟩, ⟨none, (.mv 16 (.t 17))⟩, ⟨none, (.ext 18 (.t 16) 0)⟩, ⟨none, (.ext 19 (.t 16) 1)⟩, ⟨none, (.mv 6 (.t 18))⟩, ⟨none, (.mv 7 (.t 19))⟩] none (some ([6], []))
def w7_4 := @awpR_no Tryd.prog Q σ r7_4 _ _ ⟨rfl, rfl⟩
def r7_5 : MC := .reg [⟨none, (.mv 20 (.t 6))⟩, ⟨none, (.mv 2 (.t 20))⟩] none (some ([2], []))
def w7_5 := @awpR_no Tryd.prog Q σ r7_5 _ _ ⟨rfl, rfl⟩
def my7 : MC := (.seq r7_0 (.seq (.seq r7_1 (.seq r7_2 (.cond (.t 15) (.seq r7_3 .ret) .skip))) (.seq r7_4 (.seq r7_5 .ret))))
theorem my7_is : trC Tryd.prog ⟨[1], []⟩ ⟨[],
  [(0, [1], []), (1, [1, 5], []), (2, [1, 15], []), (3, [2], []), (4, [6], []), (5, [2], [])]⟩ 21 (Tryd.f7.body.getD .skip) = some my7 := by kernel_rfl
theorem does7 {args : List LV} (hl : args.length.ble 21 = true) {S S' : List (List LV)} (hS : S'.length = S.length) {o : Out} (h : Lt ⟨numE 0 args, argS 0 S, []⟩ (awp Tryd.prog my7 (Fin [(.t 2)] o S'))) : Does Tryd.prog 7 args S o S' :=
  does_of_awp mixed Tryd.func7 (by kernel_rfl) (by kernel_rfl) my7_is (by kernel_rfl) (Nat.le_of_ble_eq_true hl) hS h
attribute [go_sem ↓] w7_0 w7_1 w7_2 w7_3 w7_4 w7_5
attribute [go_sem] my7
end Go.Proofs.YtopgmopdjiahmaaDoor.Lg
