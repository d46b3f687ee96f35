/- Texts of one proof, joined by program (gen/merge.py): Mf Tg Th Ti. Conditions: none; plain definitions and lemmas. -/
import Derived.Test.YtopgmopdjiahmaaG4
import Derived.Test.YtopgmopdjiahmaaProg
import Derived.Test.YtopgmopdjiahmaaG13
/- MADE BY PROGRAM (gen/mk.py): the code of functions, as the logic sees it. Conditions: none; plain definitions and lemmas. -/
set_option linter.unusedVariables false
set_option linter.defProp false
set_option maxRecDepth 100000
namespace Go.Proofs.Ytopgmopdjiahmaa.Lg
open Go Go.RowKit Go.Proofs
variable {Q : AEx → St → Prop} {σ : St}

/-! ### 6: lychgate/lychgatelaw16.NormFails -/
def r6_0 : MC := .reg [⟨none, (.boxc 5 (.t 0))⟩, ⟨none, (.boxc 6 (.t 1))⟩, ⟨none, (.boxc 7 (.t 2))⟩, ⟨none, (.mv 10 (.c (.imm true (.bool false))))⟩] none (some ([3, 4, 5, 6, 7], []))
def w6_0 := @awpR_no Try.prog Q σ r6_0 _ _ ⟨rfl, rfl⟩
def r6_1 : MC := .reg [⟨none, (.load 27 (.t 5) (some 2))⟩, ⟨none, (.call (some 28) (.c (.fn 31 [])) [(.t 27)])⟩, ⟨none, (.mv 26 (.t 28))⟩, ⟨none, (.ext 29 (.t 26) 0)⟩, ⟨none, (.ext 30 (.t 26) 1)⟩, ⟨none, (.alloc 11 z2)⟩, ⟨none, (.store (.t 11) (.t 29) 2)⟩, ⟨none, (.mv 12 (.t 30))⟩] none (some ([3, 4, 5, 6, 7, 11, 12], [11]))
def w6_1 := @awpR_get Try.prog Q σ r6_1 _ _ [11] ⟨rfl, rfl⟩
def r6_2 : MC := .reg [⟨none, (.load 32 (.t 6) (some 2))⟩, ⟨none, (.call (some 33) (.c (.fn 31 [])) [(.t 32)])⟩, ⟨none, (.mv 31 (.t 33))⟩, ⟨none, (.ext 34 (.t 31) 0)⟩, ⟨none, (.ext 35 (.t 31) 1)⟩, ⟨none, (.alloc 13 z2)⟩, ⟨none, (.store (.t 13) (.t 34) 2)⟩, ⟨none, (.mv 14 (.t 35))⟩] none (some ([3, 4, 5, 6, 7, 11, 12, 13, 14], [11, 13]))
def w6_2 := @awpR_get Try.prog Q σ r6_2 _ _ [13] ⟨rfl, rfl⟩
def r6_3 : MC := .reg [⟨none, (.mv 36 (.t 12))⟩, ⟨none, (.un 37 .not (.t 36))⟩, ⟨none, (.mv 38 (.t 37))⟩, ⟨(some (38, false)), (.mv 39 (.t 14))⟩, ⟨(some (38, false)), (.un 40 .not (.t 39))⟩, ⟨none, (.pick 41 (.t 38) (.c (.imm true (.bool true))) (.t 40))⟩] none (some ([3, 4, 5, 6, 7, 11, 13, 41], [11, 13]))
def w6_3 := @awpR_no Try.prog Q σ r6_3 _ _ ⟨rfl, rfl⟩
def r6_4 : MC := .reg [⟨none, (.call (some 42) (.c (.fn 28 [])) [])⟩, ⟨none, (.mv 10 (.t 42))⟩] none (some ([10], []))
def w6_4 := @awpR_no Try.prog Q σ r6_4 _ _ ⟨rfl, rfl⟩
def r6_5 : MC := .reg [⟨none, (.load 44 (.t 5) (some 2))⟩, ⟨none, (.build 45 z2 [])⟩, ⟨none, (.mv 46 (.t 3))⟩, ⟨none, (.call (some 47) (.c (.fn 29 [])) [(.t 44), (.t 45), (.t 46)])⟩, ⟨none, (.mv 43 (.t 47))⟩, ⟨none, (.ext 48 (.t 43) 0)⟩, ⟨none, (.ext 49 (.t 43) 1)⟩, ⟨none, (.alloc 15 z8)⟩, ⟨none, (.store (.t 15) (.t 48) 8)⟩, ⟨none, (.mv 16 (.t 49))⟩] none (some ([3, 4, 6, 7, 11, 13, 15, 16], [11, 13, 15]))
def w6_5 := @awpR_get Try.prog Q σ r6_5 _ _ [15] ⟨rfl, rfl⟩
def r6_6 : MC := .reg [⟨none, (.build 51 z2 [])⟩, ⟨none, (.load 52 (.t 6) (some 2))⟩, ⟨none, (.mv 53 (.t 4))⟩, ⟨none, (.call (some 54) (.c (.fn 29 [])) [(.t 51), (.t 52), (.t 53)])⟩, ⟨none, (.mv 50 (.t 54))⟩, ⟨none, (.ext 55 (.t 50) 0)⟩, ⟨none, (.ext 56 (.t 50) 1)⟩, ⟨none, (.alloc 17 z8)⟩, ⟨none, (.store (.t 17) (.t 55) 8)⟩, ⟨none, (.mv 18 (.t 56))⟩] none (some ([3, 4, 6, 7, 11, 13, 15, 16, 17, 18], [11, 13, 15, 17]))
def w6_6 := @awpR_get Try.prog Q σ r6_6 _ _ [17] ⟨rfl, rfl⟩
def r6_7 : MC := .reg [⟨none, (.mv 57 (.t 16))⟩, ⟨none, (.bin 58 .neq (.t 57) (.c (.imm true (.int .i64 0))))⟩, ⟨none, (.mv 59 (.t 58))⟩, ⟨(some (59, false)), (.mv 60 (.t 18))⟩, ⟨(some (59, false)), (.bin 61 .neq (.t 60) (.c (.imm true (.int .i64 0))))⟩, ⟨none, (.pick 62 (.t 59) (.c (.imm true (.bool true))) (.t 61))⟩] none (some ([3, 4, 6, 7, 11, 13, 15, 17, 62], [11, 13, 15, 17]))
def w6_7 := @awpR_no Try.prog Q σ r6_7 _ _ ⟨rfl, rfl⟩
def r6_8 : MC := .reg [⟨none, (.call (some 63) (.c (.fn 28 [])) [])⟩, ⟨none, (.mv 10 (.t 63))⟩] none (some ([10], []))
def w6_8 := @awpR_no Try.prog Q σ r6_8 _ _ ⟨rfl, rfl⟩
def r6_9 : MC := .reg [⟨none, (.load 65 (.t 15) (some 8))⟩, ⟨none, (.load 66 (.t 17) (some 8))⟩, ⟨none, (.call (some 67) (.c (.fn 32 [])) [(.t 65), (.t 66)])⟩, ⟨none, (.mv 64 (.t 67))⟩, ⟨none, (.ext 68 (.t 64) 0)⟩, ⟨none, (.ext 69 (.t 64) 1)⟩, ⟨none, (.alloc 19 z8)⟩, ⟨none, (.store (.t 19) (.t 68) 8)⟩, ⟨none, (.mv 20 (.t 69))⟩] none (some ([3, 4, 6, 7, 11, 13, 19, 20], [11, 13, 19]))
def w6_9 := @awpR_get Try.prog Q σ r6_9 _ _ [19] ⟨rfl, rfl⟩
def r6_10 : MC := .reg [⟨none, (.mv 70 (.t 20))⟩, ⟨none, (.bin 71 .neq (.t 70) (.c (.imm true (.int .i64 0))))⟩] none (some ([3, 4, 6, 7, 11, 13, 19, 20, 71], [11, 13, 19]))
def w6_10 := @awpR_no Try.prog Q σ r6_10 _ _ ⟨rfl, rfl⟩
def r6_11 : MC := .reg [⟨none, (.mv 72 (.t 20))⟩, ⟨none, (.call (some 73) (.c (.fn 33 [])) [(.t 72)])⟩, ⟨none, (.mv 74 (.t 73))⟩, ⟨(some (74, true)), (.call (some 75) (.c (.fn 28 [])) [])⟩, ⟨none, (.pick 76 (.t 74) (.t 75) (.c (.imm true (.bool false))))⟩, ⟨none, (.mv 10 (.t 76))⟩] none (some ([10], []))
def w6_11 := @awpR_no Try.prog Q σ r6_11 _ _ ⟨rfl, rfl⟩
def r6_12 : MC := .reg [⟨none, (.load 77 (.t 11) (some 2))⟩, ⟨none, (.load 78 (.t 13) (some 2))⟩, ⟨none, (.call (some 79) (.c (.fn 14 [])) [(.t 77), (.t 78)])⟩] none (some ([3, 4, 6, 7, 19, 79], [19]))
def w6_12 := @awpR_no Try.prog Q σ r6_12 _ _ ⟨rfl, rfl⟩
def r6_13 : MC := .reg [⟨none, (.fad 80 (.t 19) 0)⟩, ⟨none, (.load 81 (.t 80) none)⟩, ⟨none, (.bin 82 .neq (.t 81) (.c (.imm true (.int .i8 1))))⟩, ⟨none, (.mv 83 (.t 82))⟩, ⟨(some (83, true)), (.call (some 84) (.c (.fn 28 [])) [])⟩, ⟨none, (.pick 85 (.t 83) (.t 84) (.c (.imm true (.bool false))))⟩, ⟨none, (.mv 10 (.t 85))⟩] none (some ([10], []))
def w6_13 := @awpR_no Try.prog Q σ r6_13 _ _ ⟨rfl, rfl⟩
def r6_14 : MC := .reg [⟨none, (.mv 86 (.t 4))⟩, ⟨none, (.mv 21 (.t 86))⟩] none (some ([3, 4, 6, 7, 19, 21], [19]))
def w6_14 := @awpR_no Try.prog Q σ r6_14 _ _ ⟨rfl, rfl⟩
def r6_15 : MC := .reg [⟨none, (.mv 87 (.t 21))⟩, ⟨none, (.bin 88 .lss (.t 87) (.c (.imm true (.int .i64 0))))⟩] none (some ([3, 4, 6, 7, 19, 21, 88], [19]))
def w6_15 := @awpR_no Try.prog Q σ r6_15 _ _ ⟨rfl, rfl⟩
def r6_16 : MC := .reg [⟨none, (.mv 89 (.t 21))⟩, ⟨none, (.un 90 .neg (.t 89))⟩, ⟨none, (.mv 21 (.t 90))⟩] none (some ([3, 4, 6, 7, 19, 21], [19]))
def w6_16 := @awpR_no Try.prog Q σ r6_16 _ _ ⟨rfl, rfl⟩
def r6_17 : MC := .reg [⟨none, (.fad 91 (.t 19) 0)⟩, ⟨none, (.load 92 (.t 91) none)⟩, ⟨none, (.bin 93 .neq (.t 92) (.c (.imm true (.int .i8 1))))⟩, ⟨none, (.mv 94 (.t 93))⟩, ⟨(some (94, false)), (.fad 95 (.t 19) 5)⟩, ⟨(some (94, false)), (.load 96 (.t 95) none)⟩, ⟨(some (94, false)), (.mv 97 (.t 21))⟩, ⟨(some (94, false)), (.bin 98 .neq (.t 96) (.t 97))⟩, ⟨none, (.pick 99 (.t 94) (.c (.imm true (.bool true))) (.t 98))⟩, ⟨none, (.mv 100 (.t 99))⟩, ⟨(some (100, false)), (.fad 101 (.t 19) 6)⟩, ⟨(some (100, false)), (.load 102 (.t 101) none)⟩, ⟨(some (100, false)), (.mv 103 (.t 4))⟩, ⟨(some (100, false)), (.bin 104 .lss (.t 103) (.c (.imm true (.int .i64 0))))⟩, ⟨(some (100, false)), (.binb 105 true (.t 102) (.t 104))⟩, ⟨none, (.pick 106 (.t 100) (.c (.imm true (.bool true))) (.t 105))⟩] none (some ([3, 6, 7, 19, 21, 106], [19]))
def w6_17 := @awpR_no Try.prog Q σ r6_17 _ _ ⟨rfl, rfl⟩
def r6_18 : MC := .reg [⟨none, (.mv 10 (.c (.imm true (.bool false))))⟩] none (some ([10], []))
def w6_18 := @awpR_no Try.prog Q σ r6_18 _ _ ⟨rfl, rfl⟩
def r6_19 : MC := .reg [⟨none, (.load 108 (.t 6) (some 2))⟩, ⟨none, (.load 109 (.t 7) (some 2))⟩, ⟨none, (.mv 110 (.t 3))⟩, ⟨none, (.call (some 111) (.c (.fn 29 [])) [(.t 108), (.t 109), (.t 110)])⟩, ⟨none, (.mv 107 (.t 111))⟩, ⟨none, (.ext 112 (.t 107) 0)⟩, ⟨none, (.ext 113 (.t 107) 1)⟩, ⟨none, (.alloc 22 z8)⟩, ⟨none, (.store (.t 22) (.t 112) 8)⟩, ⟨none, (.mv 23 (.t 113))⟩] none (some ([19, 21, 22, 23], [19, 22]))
def w6_19 := @awpR_get Try.prog Q σ r6_19 _ _ [22] ⟨rfl, rfl⟩
def r6_20 : MC := .reg [⟨none, (.mv 114 (.t 23))⟩, ⟨none, (.bin 115 .neq (.t 114) (.c (.imm true (.int .i64 0))))⟩] none (some ([19, 21, 22, 115], [19, 22]))
def w6_20 := @awpR_no Try.prog Q σ r6_20 _ _ ⟨rfl, rfl⟩
def r6_21 : MC := .reg [⟨none, (.call (some 116) (.c (.fn 28 [])) [])⟩, ⟨none, (.mv 10 (.t 116))⟩] none (some ([10], []))
def w6_21 := @awpR_no Try.prog Q σ r6_21 _ _ ⟨rfl, rfl⟩
def r6_22 : MC := .reg [⟨none, (.load 118 (.t 19) (some 8))⟩, ⟨none, (.load 119 (.t 22) (some 8))⟩, ⟨none, (.call (some 120) (.c (.fn 32 [])) [(.t 118), (.t 119)])⟩, ⟨none, (.mv 117 (.t 120))⟩, ⟨none, (.ext 121 (.t 117) 0)⟩, ⟨none, (.ext 122 (.t 117) 1)⟩, ⟨none, (.alloc 24 z8)⟩, ⟨none, (.store (.t 24) (.t 121) 8)⟩, ⟨none, (.mv 25 (.t 122))⟩] none (some ([19, 21, 24, 25], [19, 24]))
def w6_22 := @awpR_get Try.prog Q σ r6_22 _ _ [24] ⟨rfl, rfl⟩
def r6_23 : MC := .reg [⟨none, (.mv 123 (.t 25))⟩, ⟨none, (.bin 124 .neq (.t 123) (.c (.imm true (.int .i64 0))))⟩] none (some ([19, 21, 24, 25, 124], [19, 24]))
def w6_23 := @awpR_no Try.prog Q σ r6_23 _ _ ⟨rfl, rfl⟩
def r6_24 : MC := .reg [⟨none, (.mv 125 (.t 25))⟩, ⟨none, (.call (some 126) (.c (.fn 33 [])) [(.t 125)])⟩, ⟨none, (.mv 127 (.t 126))⟩, ⟨(some (127, true)), (.call (some 128) (.c (.fn 28 [])) [])⟩, ⟨none, (.pick 129 (.t 127) (.t 128) (.c (.imm true (.bool false))))⟩, ⟨none, (.mv 10 (.t 129))⟩] none (some ([10], []))
def w6_24 := @awpR_no Try.prog Q σ r6_24 _ _ ⟨rfl, rfl⟩
def r6_25 : MC := .reg [⟨none, (.fad 130 (.t 24) 0)⟩, ⟨none, (.load 131 (.t 130) none)⟩, ⟨none, (.bin 132 .eql (.t 131) (.c (.imm true (.int .i8 1))))⟩, ⟨none, (.mv 133 (.t 132))⟩, ⟨(some (133, true)), (.fad 134 (.t 24) 5)⟩, ⟨(some (133, true)), (.load 135 (.t 134) none)⟩, ⟨(some (133, true)), (.mv 136 (.t 21))⟩, ⟨(some (133, true)), (.bin 137 .eql (.t 135) (.t 136))⟩, ⟨none, (.pick 138 (.t 133) (.t 137) (.c (.imm true (.bool false))))⟩, ⟨none, (.mv 139 (.t 138))⟩, ⟨(some (139, true)), (.fad 140 (.t 24) 6)⟩, ⟨(some (139, true)), (.load 141 (.t 140) none)⟩, ⟨(some (139, true)), (.fad 142 (.t 19) 6)⟩, ⟨(some (139, true)), (.load 143 (.t 142) none)⟩, ⟨(some (139, true)), (.binb 144 false (.t 141) (.t 143))⟩, ⟨none, (.pick 145 (.t 139) (.t 144) (.c (.imm true (.bool false))))⟩, ⟨none, (.mv 146 (.t 145))⟩, ⟨(some (146, true)), (.call (some 147) (.c (.fn 28 [])) [])⟩, ⟨none, (.pick 148 (.t 146) (.t 147) (.c (.imm true (.bool false))))⟩, ⟨none, (.mv 10 (.t 148))⟩] none (some ([10], []))
def w6_25 := @awpR_no Try.prog Q σ r6_25 _ _ ⟨rfl, rfl⟩
def my6 : MC := (.seq r6_0 (.seq r6_1 (.seq r6_2 (.seq (.seq r6_3 (.cond (.t 41) (.seq r6_4 .ret) .skip)) (.seq r6_5 (.seq r6_6 (.seq (.seq r6_7 (.cond (.t 62) (.seq r6_8 .ret) .skip)) (.seq r6_9 (.seq (.seq r6_10 (.cond (.t 71) (.seq r6_11 .ret) .skip)) (.seq (.seq r6_12 (.cond (.t 79) (.seq r6_13 .ret) .skip)) (.seq r6_14 (.seq (.seq r6_15 (.cond (.t 88) r6_16 .skip)) (.seq (.seq r6_17 (.cond (.t 106) (.seq r6_18 .ret) .skip)) (.seq r6_19 (.seq (.seq r6_20 (.cond (.t 115) (.seq r6_21 .ret) .skip)) (.seq r6_22 (.seq (.seq r6_23 (.cond (.t 124) (.seq r6_24 .ret) .skip)) (.seq r6_25 .ret))))))))))))))))))
theorem my6_is : trC Try.prog ⟨[5, 6, 7], []⟩ ⟨[],
  [(0, [3, 4, 5, 6, 7], []), (1, [3, 4, 5, 6, 7, 11, 12], [11]), (2, [3, 4, 5, 6, 7, 11, 12, 13, 14], [11, 13]), (3, [3, 4, 5, 6, 7, 11, 13, 41], [11, 13]), (4, [10], []), (5, [3, 4, 6, 7, 11, 13, 15, 16], [11, 13, 15]), (6, [3, 4, 6, 7, 11, 13, 15, 16, 17, 18], [11, 13, 15, 17]), (7, [3, 4, 6, 7, 11, 13, 15, 17, 62], [11, 13, 15, 17]), (8, [10], []), (9, [3, 4, 6, 7, 11, 13, 19, 20], [11, 13, 19]), (10, [3, 4, 6, 7, 11, 13, 19, 20, 71], [11, 13, 19]), (11, [10], []), (12, [3, 4, 6, 7, 19, 79], [19]), (13, [10], []), (14, [3, 4, 6, 7, 19, 21], [19]), (15, [3, 4, 6, 7, 19, 21, 88], [19]), (16, [3, 4, 6, 7, 19, 21], [19]), (17, [3, 6, 7, 19, 21, 106], [19]), (18, [10], []), (19, [19, 21, 22, 23], [19, 22]), (20, [19, 21, 22, 115], [19, 22]), (21, [10], []), (22, [19, 21, 24, 25], [19, 24]), (23, [19, 21, 24, 25, 124], [19, 24]), (24, [10], []), (25, [10], [])]⟩ 149 (Try.f6.body.getD .skip) = some my6 := by kernel_rfl
theorem does6 {args : List LV} (hl : args.length.ble 149 = true) {S S' : List (List LV)} (hS : S'.length = S.length) {o : Out} (h : Lt ⟨numE 0 args, argS 0 S, []⟩ (awp Try.prog my6 (Fin [(.t 10)] o S'))) : Does Try.prog 6 args S o S' :=
  does_of_awp mixed Try.func6 (by kernel_rfl) (by kernel_rfl) my6_is (by kernel_rfl) (Nat.le_of_ble_eq_true hl) hS h
attribute [go_sem ↓] w6_0 w6_1 w6_2 w6_3 w6_4 w6_5 w6_6 w6_7 w6_8 w6_9 w6_10 w6_11 w6_12 w6_13 w6_14 w6_15 w6_16 w6_17 w6_18 w6_19 w6_20 w6_21 w6_22 w6_23 w6_24 w6_25
attribute [go_sem] my6
/-! ### 7: lychgate/lychgatelaw16.NormOrder -/
def r7_0 : MC := .reg [⟨none, (.boxc 3 (.t 0))⟩, ⟨none, (.boxc 4 (.t 1))⟩, ⟨none, (.boxc 5 (.t 2))⟩, ⟨none, (.mv 6 (.c (.imm true (.bool false))))⟩] none (some ([3, 4, 5], []))
def w7_0 := @awpR_no Try.prog Q σ r7_0 _ _ ⟨rfl, rfl⟩
def r7_1 : MC := .reg [⟨none, (.load 24 (.t 3) (some 8))⟩, ⟨none, (.call (some 25) (.c (.fn 25 [])) [(.t 24)])⟩, ⟨none, (.un 26 .not (.t 25))⟩, ⟨none, (.mv 27 (.t 26))⟩, ⟨(some (27, false)), (.load 28 (.t 4) (some 8))⟩, ⟨(some (27, false)), (.call (some 29) (.c (.fn 25 [])) [(.t 28)])⟩, ⟨(some (27, false)), (.un 30 .not (.t 29))⟩, ⟨none, (.pick 31 (.t 27) (.c (.imm true (.bool true))) (.t 30))⟩, ⟨none, (.mv 32 (.t 31))⟩, ⟨(some (32, false)), (.load 33 (.t 5) (some 8))⟩, ⟨(some (32, false)), (.call (some 34) (.c (.fn 25 [])) [(.t 33)])⟩, ⟨(some (32, false)), (.un 35 .not (.t 34))⟩, ⟨none, (.pick 36 (.t 32) (.c (.imm true (.bool true))) (.t 35))⟩] none (some ([3, 4, 5, 36], []))
def w7_1 := @awpR_no Try.prog Q σ r7_1 _ _ ⟨rfl, rfl⟩
def r7_2 : MC := .reg [⟨none, (.call (some 37) (.c (.fn 28 [])) [])⟩, ⟨none, (.mv 6 (.t 37))⟩] none (some ([6], []))
def w7_2 := @awpR_no Try.prog Q σ r7_2 _ _ ⟨rfl, rfl⟩
def r7_3 : MC := .reg [⟨none, (.load 39 (.t 3) (some 8))⟩, ⟨none, (.load 40 (.t 4) (some 8))⟩, ⟨none, (.call (some 41) (.c (.fn 32 [])) [(.t 39), (.t 40)])⟩, ⟨none, (.mv 38 (.t 41))⟩, ⟨none, (.ext 42 (.t 38) 0)⟩, ⟨none, (.ext 43 (.t 38) 1)⟩, ⟨none, (.alloc 7 z8)⟩, ⟨none, (.store (.t 7) (.t 42) 8)⟩, ⟨none, (.mv 8 (.t 43))⟩] none (some ([3, 4, 5, 7, 8], [7]))
def w7_3 := @awpR_get Try.prog Q σ r7_3 _ _ [7] ⟨rfl, rfl⟩
def r7_4 : MC := .reg [⟨none, (.load 45 (.t 4) (some 8))⟩, ⟨none, (.load 46 (.t 5) (some 8))⟩, ⟨none, (.call (some 47) (.c (.fn 32 [])) [(.t 45), (.t 46)])⟩, ⟨none, (.mv 44 (.t 47))⟩, ⟨none, (.ext 48 (.t 44) 0)⟩, ⟨none, (.ext 49 (.t 44) 1)⟩, ⟨none, (.alloc 9 z8)⟩, ⟨none, (.store (.t 9) (.t 48) 8)⟩, ⟨none, (.mv 10 (.t 49))⟩] none (some ([3, 4, 5, 7, 8, 9, 10], [7, 9]))
def w7_4 := @awpR_get Try.prog Q σ r7_4 _ _ [9] ⟨rfl, rfl⟩
def r7_5 : MC := .reg [⟨none, (.mv 50 (.t 8))⟩, ⟨none, (.bin 51 .neq (.t 50) (.c (.imm true (.int .i64 0))))⟩, ⟨none, (.mv 52 (.t 51))⟩, ⟨(some (52, false)), (.mv 53 (.t 10))⟩, ⟨(some (52, false)), (.bin 54 .neq (.t 53) (.c (.imm true (.int .i64 0))))⟩, ⟨none, (.pick 55 (.t 52) (.c (.imm true (.bool true))) (.t 54))⟩] none (some ([3, 4, 5, 7, 9, 55], [7, 9]))
def w7_5 := @awpR_no Try.prog Q σ r7_5 _ _ ⟨rfl, rfl⟩
def r7_6 : MC := .reg [⟨none, (.call (some 56) (.c (.fn 28 [])) [])⟩, ⟨none, (.mv 6 (.t 56))⟩] none (some ([6], []))
def w7_6 := @awpR_no Try.prog Q σ r7_6 _ _ ⟨rfl, rfl⟩
def r7_7 : MC := .reg [⟨none, (.load 58 (.t 7) (some 8))⟩, ⟨none, (.load 59 (.t 5) (some 8))⟩, ⟨none, (.call (some 60) (.c (.fn 32 [])) [(.t 58), (.t 59)])⟩, ⟨none, (.mv 57 (.t 60))⟩, ⟨none, (.ext 61 (.t 57) 0)⟩, ⟨none, (.ext 62 (.t 57) 1)⟩, ⟨none, (.alloc 11 z8)⟩, ⟨none, (.store (.t 11) (.t 61) 8)⟩, ⟨none, (.mv 12 (.t 62))⟩] none (some ([3, 4, 5, 7, 9, 11, 12], [7, 9, 11]))
def w7_7 := @awpR_get Try.prog Q σ r7_7 _ _ [11] ⟨rfl, rfl⟩
def r7_8 : MC := .reg [⟨none, (.load 64 (.t 3) (some 8))⟩, ⟨none, (.load 65 (.t 9) (some 8))⟩, ⟨none, (.call (some 66) (.c (.fn 32 [])) [(.t 64), (.t 65)])⟩, ⟨none, (.mv 63 (.t 66))⟩, ⟨none, (.ext 67 (.t 63) 0)⟩, ⟨none, (.ext 68 (.t 63) 1)⟩, ⟨none, (.alloc 13 z8)⟩, ⟨none, (.store (.t 13) (.t 67) 8)⟩, ⟨none, (.mv 14 (.t 68))⟩] none (some ([3, 4, 5, 7, 11, 12, 13, 14], [7, 11, 13]))
def w7_8 := @awpR_get Try.prog Q σ r7_8 _ _ [13] ⟨rfl, rfl⟩
def r7_9 : MC := .reg [⟨none, (.mv 69 (.t 12))⟩, ⟨none, (.bin 70 .neq (.t 69) (.c (.imm true (.int .i64 0))))⟩, ⟨none, (.mv 71 (.t 70))⟩, ⟨(some (71, false)), (.mv 72 (.t 14))⟩, ⟨(some (71, false)), (.bin 73 .neq (.t 72) (.c (.imm true (.int .i64 0))))⟩, ⟨none, (.pick 74 (.t 71) (.c (.imm true (.bool true))) (.t 73))⟩] none (some ([3, 4, 5, 7, 11, 12, 13, 14, 74], [7, 11, 13]))
def w7_9 := @awpR_no Try.prog Q σ r7_9 _ _ ⟨rfl, rfl⟩
def r7_10 : MC := .reg [⟨none, (.mv 75 (.t 12))⟩, ⟨none, (.call (some 76) (.c (.fn 33 [])) [(.t 75)])⟩, ⟨none, (.mv 77 (.t 76))⟩, ⟨(some (77, true)), (.mv 78 (.t 14))⟩, ⟨(some (77, true)), (.bin 79 .eql (.t 78) (.c (.imm true (.int .i64 0))))⟩, ⟨(some (77, true)), (.mv 80 (.t 79))⟩, ⟨(some (80, false)), (.mv 81 (.t 14))⟩, ⟨(some (80, false)), (.call (some 82) (.c (.fn 33 [])) [(.t 81)])⟩, ⟨(some (77, true)), (.pick 83 (.t 80) (.c (.imm true (.bool true))) (.t 82))⟩, ⟨none, (.pick 84 (.t 77) (.t 83) (.c (.imm true (.bool false))))⟩, ⟨none, (.mv 85 (.t 84))⟩, ⟨(some (85, false)), (.mv 86 (.t 14))⟩, ⟨(some (85, false)), (.call (some 87) (.c (.fn 33 [])) [(.t 86)])⟩, ⟨(some (85, false)), (.mv 88 (.t 87))⟩, ⟨(some (88, true)), (.mv 89 (.t 12))⟩, ⟨(some (88, true)), (.bin 90 .eql (.t 89) (.c (.imm true (.int .i64 0))))⟩, ⟨(some (85, false)), (.pick 91 (.t 88) (.t 90) (.c (.imm true (.bool false))))⟩, ⟨none, (.pick 92 (.t 85) (.c (.imm true (.bool true))) (.t 91))⟩, ⟨none, (.mv 6 (.t 92))⟩] none (some ([6], []))
def w7_10 := @awpR_no Try.prog Q σ r7_10 _ _ ⟨rfl, rfl⟩
def r7_11 : MC := .reg [⟨none, (.load 94 (.t 3) (some 8))⟩, ⟨none, (.call (some 95) (.c (.fn 13 [])) [(.t 94)])⟩, ⟨none, (.mv 93 (.t 95))⟩, ⟨none, (.ext 96 (.t 93) 0)⟩, ⟨none, (.ext 97 (.t 93) 1)⟩, ⟨none, (.ext 98 (.t 93) 2)⟩, ⟨none, (.alloc 15 z2)⟩, ⟨none, (.alloc 16 z2)⟩, ⟨none, (.store (.t 15) (.t 96) 2)⟩, ⟨none, (.store (.t 16) (.t 97) 2)⟩, ⟨none, (.mv 17 (.t 98))⟩] none (some ([3, 4, 5, 7, 11, 13, 15, 17], [7, 11, 13, 15]))
def w7_11 := @awpR_get Try.prog Q σ r7_11 _ _ [15, 16] ⟨rfl, rfl⟩
def r7_12 : MC := .reg [⟨none, (.load 100 (.t 5) (some 8))⟩, ⟨none, (.call (some 101) (.c (.fn 13 [])) [(.t 100)])⟩, ⟨none, (.mv 99 (.t 101))⟩, ⟨none, (.ext 102 (.t 99) 0)⟩, ⟨none, (.ext 103 (.t 99) 1)⟩, ⟨none, (.ext 104 (.t 99) 2)⟩, ⟨none, (.alloc 18 z2)⟩, ⟨none, (.alloc 19 z2)⟩, ⟨none, (.store (.t 18) (.t 102) 2)⟩, ⟨none, (.store (.t 19) (.t 103) 2)⟩, ⟨none, (.mv 20 (.t 104))⟩] none (some ([3, 4, 5, 7, 11, 13, 15, 17, 19, 20], [7, 11, 13, 15, 19]))
def w7_12 := @awpR_get Try.prog Q σ r7_12 _ _ [18, 19] ⟨rfl, rfl⟩
def r7_13 : MC := .reg [⟨none, (.load 106 (.t 11) (some 8))⟩, ⟨none, (.call (some 107) (.c (.fn 13 [])) [(.t 106)])⟩, ⟨none, (.mv 105 (.t 107))⟩, ⟨none, (.ext 108 (.t 105) 0)⟩, ⟨none, (.ext 109 (.t 105) 1)⟩, ⟨none, (.ext 110 (.t 105) 2)⟩, ⟨none, (.alloc 21 z2)⟩, ⟨none, (.alloc 22 z2)⟩, ⟨none, (.store (.t 21) (.t 108) 2)⟩, ⟨none, (.store (.t 22) (.t 109) 2)⟩, ⟨none, (.mv 23 (.t 110))⟩] none (some ([3, 4, 5, 7, 11, 13, 15, 17, 19, 20, 21, 22, 23], [7, 11, 13, 15, 19, 21, 22]))
def w7_13 := @awpR_get Try.prog Q σ r7_13 _ _ [21, 22] ⟨rfl, rfl⟩
def r7_14 : MC := .reg [⟨none, (.load 111 (.t 11) (some 8))⟩, ⟨none, (.load 112 (.t 13) (some 8))⟩, ⟨none, (.call (some 113) (.c (.fn 24 [])) [(.t 111), (.t 112)])⟩, ⟨none, (.un 114 .not (.t 113))⟩, ⟨none, (.mv 115 (.t 114))⟩, ⟨(some (115, false)), (.load 116 (.t 11) (some 8))⟩, ⟨(some (115, false)), (.call (some 117) (.c (.fn 22 [])) [(.t 116)])⟩, ⟨(some (115, false)), (.un 118 .not (.t 117))⟩, ⟨none, (.pick 119 (.t 115) (.c (.imm true (.bool true))) (.t 118))⟩, ⟨none, (.mv 120 (.t 119))⟩, ⟨(some (120, false)), (.mv 121 (.t 17))⟩, ⟨(some (120, false)), (.bin 122 .neq (.t 121) (.c (.imm true (.int .i64 0))))⟩, ⟨none, (.pick 123 (.t 120) (.c (.imm true (.bool true))) (.t 122))⟩, ⟨none, (.mv 124 (.t 123))⟩, ⟨(some (124, false)), (.mv 125 (.t 20))⟩, ⟨(some (124, false)), (.bin 126 .neq (.t 125) (.c (.imm true (.int .i64 0))))⟩, ⟨none, (.pick 127 (.t 124) (.c (.imm true (.bool true))) (.t 126))⟩, ⟨none, (.mv 128 (.t 127))⟩, ⟨(some (128, false)), (.mv 129 (.t 23))⟩, ⟨(some (128, false)), (.bin 130 .neq (.t 129) (.c (.imm true (.int .i64 0))))⟩, ⟨none, (.pick 131 (.t 128) (.c (.imm true (.bool true))) (.t 130))⟩, ⟨none, (.mv 132 (.t 131))⟩, ⟨(some (132, false)), (.load 133 (.t 15) (some 2))⟩, ⟨(some (132, false)), (.load 134 (.t 21) (some 2))⟩, ⟨(some (132, false)), (.call (some 135) (.c (.fn 14 [])) [(.t 133), (.t 134)])⟩, ⟨(some (132, false)), (.un 136 .not (.t 135))⟩, ⟨none, (.pick 137 (.t 132) (.c (.imm true (.bool true))) (.t 136))⟩, ⟨none, (.mv 138 (.t 137))⟩, ⟨(some (138, false)), (.load 139 (.t 19) (some 2))⟩, ⟨(some (138, false)), (.load 140 (.t 22) (some 2))⟩, ⟨(some (138, false)), (.call (some 141) (.c (.fn 14 [])) [(.t 139), (.t 140)])⟩, ⟨(some (138, false)), (.un 142 .not (.t 141))⟩, ⟨none, (.pick 143 (.t 138) (.c (.imm true (.bool true))) (.t 142))⟩] none (some ([3, 4, 5, 7, 11, 143], [7, 11]))
def w7_14 := @awpR_no Try.prog Q σ r7_14 _ _ ⟨rfl, rfl⟩
def r7_15 : MC := .reg [⟨none, (.mv 6 (.c (.imm true (.bool false))))⟩] none (some ([6], []))
def w7_15 := @awpR_no Try.prog Q σ r7_15 _ _ ⟨rfl, rfl⟩
def r7_16 : MC := .reg [⟨none, (.load 144 (.t 7) (some 8))⟩, ⟨none, (.call (some 145) (.c (.fn 15 [])) [(.t 144)])⟩, ⟨none, (.load 146 (.t 3) (some 8))⟩, ⟨none, (.call (some 147) (.c (.fn 15 [])) [(.t 146)])⟩, ⟨none, (.load 148 (.t 4) (some 8))⟩, ⟨none, (.call (some 149) (.c (.fn 15 [])) [(.t 148)])⟩, ⟨none, (.mx 150 [(.t 147), (.t 149)])⟩, ⟨none, (.bin 151 .leq (.t 145) (.t 150))⟩, ⟨none, (.mv 152 (.t 151))⟩, ⟨(some (152, true)), (.load 153 (.t 11) (some 8))⟩, ⟨(some (152, true)), (.call (some 154) (.c (.fn 15 [])) [(.t 153)])⟩, ⟨(some (152, true)), (.load 155 (.t 7) (some 8))⟩, ⟨(some (152, true)), (.call (some 156) (.c (.fn 15 [])) [(.t 155)])⟩, ⟨(some (152, true)), (.load 157 (.t 5) (some 8))⟩, ⟨(some (152, true)), (.call (some 158) (.c (.fn 15 [])) [(.t 157)])⟩, ⟨(some (152, true)), (.mx 159 [(.t 156), (.t 158)])⟩, ⟨(some (152, true)), (.bin 160 .leq (.t 154) (.t 159))⟩, ⟨none, (.pick 161 (.t 152) (.t 160) (.c (.imm true (.bool false))))⟩, ⟨none, (.mv 162 (.t 161))⟩, ⟨(some (162, true)), (.load 163 (.t 7) (some 8))⟩, ⟨(some (162, true)), (.call (some 164) (.c (.fn 34 [])) [(.t 163)])⟩, ⟨none, (.pick 165 (.t 162) (.t 164) (.c (.imm true (.bool false))))⟩, ⟨none, (.mv 166 (.t 165))⟩, ⟨(some (166, true)), (.load 167 (.t 11) (some 8))⟩, ⟨(some (166, true)), (.call (some 168) (.c (.fn 34 [])) [(.t 167)])⟩, ⟨none, (.pick 169 (.t 166) (.t 168) (.c (.imm true (.bool false))))⟩, ⟨none, (.mv 170 (.t 169))⟩, ⟨(some (170, true)), (.call (some 171) (.c (.fn 28 [])) [])⟩, ⟨none, (.pick 172 (.t 170) (.t 171) (.c (.imm true (.bool false))))⟩, ⟨none, (.mv 6 (.t 172))⟩] (some []) (some ([6], []))
def w7_16 := @awpD_no Try.prog Q σ r7_16 _ _ _ ⟨rfl, rfl⟩
def my7 : MC := (.seq r7_0 (.seq (.seq r7_1 (.cond (.t 36) (.seq r7_2 .ret) .skip)) (.seq r7_3 (.seq r7_4 (.seq (.seq r7_5 (.cond (.t 55) (.seq r7_6 .ret) .skip)) (.seq r7_7 (.seq r7_8 (.seq (.seq r7_9 (.cond (.t 74) (.seq r7_10 .ret) .skip)) (.seq r7_11 (.seq r7_12 (.seq r7_13 (.seq (.seq r7_14 (.cond (.t 143) (.seq r7_15 .ret) .skip)) (.seq r7_16 .ret)))))))))))))
theorem my7_is : trC Try.prog ⟨[3, 4, 5], []⟩ ⟨[(16, [[], [0], [], [0, 1, 2], [], [0, 1, 2, 3, 4], [0, 1, 2, 3, 4, 5], [0, 1, 2, 3, 4, 5, 6], [0, 1, 2, 3, 4, 5, 6, 7], [0, 1, 2, 3, 4, 5, 6, 7, 8], [0, 1, 2, 3, 4, 5, 6, 7, 8, 9], [0, 1, 2, 3, 4, 5, 6, 7, 8], [0, 1, 2, 3, 4, 5, 6, 7, 8, 9, 10, 11], [0, 1, 2, 3, 4, 5, 6, 7, 8], [0, 1, 2, 3, 4, 5, 6, 7, 8, 9, 10, 11, 12, 13], [0, 1, 2, 3, 4, 5, 6, 7, 8, 9, 10, 11, 12, 13, 14], [0, 1, 2, 3, 4, 5, 6, 7, 8, 9, 10, 11, 12, 13, 14, 15], [0, 1, 2, 3, 4, 5, 6, 7, 8, 9, 10, 11, 12, 13, 14, 15, 16], [0, 1, 2, 3, 4, 5, 6, 7, 8, 9, 10, 11, 12, 13, 14, 15, 16, 17], [0, 1, 2, 3, 4, 5, 6, 7, 8, 9, 10, 11, 12, 13, 14, 15, 16, 17, 18], [0, 1, 2, 3, 4, 5, 6, 7, 8, 9, 10, 11, 12, 13, 14, 15, 16, 17, 18, 19], [0, 1, 2, 3, 4, 5, 6, 7, 8, 9, 10, 11, 12, 13, 14, 15, 16, 17, 18, 19, 20], [0, 1, 2, 3, 4, 5, 6, 7, 8, 9, 10, 11, 12, 13, 14, 15, 16, 17, 18, 19, 20, 21], [0, 1, 2, 3, 4, 5, 6, 7, 8, 9, 10, 11, 12, 13, 14, 15, 16, 17, 18, 19, 20, 21, 22], [0, 1, 2, 3, 4, 5, 6, 7, 8, 9, 10, 11, 12, 13, 14, 15, 16, 17, 18, 19, 20, 21, 22, 23], [0, 1, 2, 3, 4, 5, 6, 7, 8, 9, 10, 11, 12, 13, 14, 15, 16, 17, 18, 19, 20, 21, 22, 23, 24], [0, 1, 2, 3, 4, 5, 6, 7, 8, 9, 10, 11, 12, 13, 14, 15, 16, 17, 18, 19, 20, 21, 22, 23, 24, 25], [0, 1, 2, 3, 4, 5, 6, 7, 8, 9, 10, 11, 12, 13, 14, 15, 16, 17, 18, 19, 20, 21, 22, 23, 24, 25, 26], [0, 1, 2, 3, 4, 5, 6, 7, 8, 9, 10, 11, 12, 13, 14, 15, 16, 17, 18, 19, 20, 21, 22, 23, 24, 25, 26, 27], [0, 1, 2, 3, 4, 5, 6, 7, 8, 9, 10, 11, 12, 13, 14, 15, 16, 17, 18, 19, 20, 21, 22, 23, 24, 25, 26, 27, 28]], [])],
  [(0, [3, 4, 5], []), (1, [3, 4, 5, 36], []), (2, [6], []), (3, [3, 4, 5, 7, 8], [7]), (4, [3, 4, 5, 7, 8, 9, 10], [7, 9]), (5, [3, 4, 5, 7, 9, 55], [7, 9]), (6, [6], []), (7, [3, 4, 5, 7, 9, 11, 12], [7, 9, 11]), (8, [3, 4, 5, 7, 11, 12, 13, 14], [7, 11, 13]), (9, [3, 4, 5, 7, 11, 12, 13, 14, 74], [7, 11, 13]), (10, [6], []), (11, [3, 4, 5, 7, 11, 13, 15, 17], [7, 11, 13, 15]), (12, [3, 4, 5, 7, 11, 13, 15, 17, 19, 20], [7, 11, 13, 15, 19]), (13, [3, 4, 5, 7, 11, 13, 15, 17, 19, 20, 21, 22, 23], [7, 11, 13, 15, 19, 21, 22]), (14, [3, 4, 5, 7, 11, 143], [7, 11]), (15, [6], []), (16, [6], [])]⟩ 173 (Try.f7.body.getD .skip) = some my7 := by kernel_rfl
theorem does7 {args : List LV} (hl : args.length.ble 173 = true) {S S' : List (List LV)} (hS : S'.length = S.length) {o : Out} (h : Lt ⟨numE 0 args, argS 0 S, []⟩ (awp Try.prog my7 (Fin [(.t 6)] o S'))) : Does Try.prog 7 args S o S' :=
  does_of_awp mixed Try.func7 (by kernel_rfl) (by kernel_rfl) my7_is (by kernel_rfl) (Nat.le_of_ble_eq_true hl) hS h
attribute [go_sem ↓] w7_0 w7_1 w7_2 w7_3 w7_4 w7_5 w7_6 w7_7 w7_8 w7_9 w7_10 w7_11 w7_12 w7_13 w7_14 w7_15 w7_16
attribute [go_sem] my7
/-! ### 8: lychgate/lychgatelaw16.NormOwn -/
def r8_0 : MC := .reg [⟨none, (.boxc 1 (.t 0))⟩, ⟨none, (.mv 2 (.c (.imm true (.bool false))))⟩] none (some ([1], []))
def w8_0 := @awpR_no Try.prog Q σ r8_0 _ _ ⟨rfl, rfl⟩
def r8_1 : MC := .reg [⟨none, (.load 14 (.t 1) (some 8))⟩, ⟨none, (.call (some 15) (.c (.fn 20 [])) [(.t 14)])⟩, ⟨none, (.mv 13 (.t 15))⟩, ⟨none, (.ext 16 (.t 13) 0)⟩, ⟨none, (.ext 17 (.t 13) 1)⟩, ⟨none, (.alloc 3 z8)⟩, ⟨none, (.store (.t 3) (.t 16) 8)⟩, ⟨none, (.mv 4 (.t 17))⟩] none (some ([1, 3, 4], [3]))
def w8_1 := @awpR_get Try.prog Q σ r8_1 _ _ [3] ⟨rfl, rfl⟩
def r8_2 : MC := .reg [⟨none, (.load 19 (.t 1) (some 8))⟩, ⟨none, (.call (some 20) (.c (.fn 13 [])) [(.t 19)])⟩, ⟨none, (.mv 18 (.t 20))⟩, ⟨none, (.ext 21 (.t 18) 0)⟩, ⟨none, (.ext 22 (.t 18) 1)⟩, ⟨none, (.ext 23 (.t 18) 2)⟩, ⟨none, (.alloc 5 z2)⟩, ⟨none, (.alloc 6 z2)⟩, ⟨none, (.store (.t 5) (.t 21) 2)⟩, ⟨none, (.store (.t 6) (.t 22) 2)⟩, ⟨none, (.mv 7 (.t 23))⟩] none (some ([1, 3, 4, 5, 6, 7], [3, 5, 6]))
def w8_2 := @awpR_get Try.prog Q σ r8_2 _ _ [5, 6] ⟨rfl, rfl⟩
def r8_3 : MC := .reg [⟨none, (.mv 24 (.t 7))⟩, ⟨none, (.bin 25 .neq (.t 24) (.c (.imm true (.int .i64 0))))⟩] none (some ([1, 3, 4, 5, 6, 7, 25], [3, 5, 6]))
def w8_3 := @awpR_no Try.prog Q σ r8_3 _ _ ⟨rfl, rfl⟩
def r8_4 : MC := .reg [⟨none, (.mv 26 (.t 4))⟩, ⟨none, (.mv 27 (.t 7))⟩, ⟨none, (.bin 28 .eql (.t 26) (.t 27))⟩, ⟨none, (.mv 29 (.t 28))⟩, ⟨(some (29, true)), (.load 30 (.t 1) (some 8))⟩, ⟨(some (29, true)), (.call (some 31) (.c (.fn 22 [])) [(.t 30)])⟩, ⟨(some (29, true)), (.un 32 .not (.t 31))⟩, ⟨none, (.pick 33 (.t 29) (.t 32) (.c (.imm true (.bool false))))⟩, ⟨none, (.mv 34 (.t 33))⟩, ⟨(some (34, true)), (.call (some 35) (.c (.fn 28 [])) [])⟩, ⟨none, (.pick 36 (.t 34) (.t 35) (.c (.imm true (.bool false))))⟩, ⟨none, (.mv 2 (.t 36))⟩] none (some ([2], []))
def w8_4 := @awpR_no Try.prog Q σ r8_4 _ _ ⟨rfl, rfl⟩
def r8_5 : MC := .reg [⟨none, (.mv 37 (.t 4))⟩, ⟨none, (.bin 38 .neq (.t 37) (.c (.imm true (.int .i64 0))))⟩] none (some ([3, 4, 5, 6, 38], [3, 5, 6]))
def w8_5 := @awpR_no Try.prog Q σ r8_5 _ _ ⟨rfl, rfl⟩
def r8_6 : MC := .reg [⟨none, (.mv 39 (.t 4))⟩, ⟨none, (.call (some 40) (.c (.fn 33 [])) [(.t 39)])⟩, ⟨none, (.mv 41 (.t 40))⟩, ⟨(some (41, true)), (.call (some 42) (.c (.fn 28 [])) [])⟩, ⟨none, (.pick 43 (.t 41) (.t 42) (.c (.imm true (.bool false))))⟩, ⟨none, (.mv 2 (.t 43))⟩] none (some ([2], []))
def w8_6 := @awpR_no Try.prog Q σ r8_6 _ _ ⟨rfl, rfl⟩
def r8_7 : MC := .reg [⟨none, (.load 45 (.t 3) (some 8))⟩, ⟨none, (.call (some 46) (.c (.fn 13 [])) [(.t 45)])⟩, ⟨none, (.mv 44 (.t 46))⟩, ⟨none, (.ext 47 (.t 44) 0)⟩, ⟨none, (.ext 48 (.t 44) 1)⟩, ⟨none, (.ext 49 (.t 44) 2)⟩, ⟨none, (.alloc 8 z2)⟩, ⟨none, (.alloc 9 z2)⟩, ⟨none, (.store (.t 8) (.t 47) 2)⟩, ⟨none, (.store (.t 9) (.t 48) 2)⟩, ⟨none, (.mv 10 (.t 49))⟩] none (some ([3, 5, 6, 8, 9, 10], [3, 5, 6, 8, 9]))
def w8_7 := @awpR_get Try.prog Q σ r8_7 _ _ [8, 9] ⟨rfl, rfl⟩
def r8_8 : MC := .reg [⟨none, (.load 51 (.t 3) (some 8))⟩, ⟨none, (.call (some 52) (.c (.fn 20 [])) [(.t 51)])⟩, ⟨none, (.mv 50 (.t 52))⟩, ⟨none, (.ext 53 (.t 50) 0)⟩, ⟨none, (.ext 54 (.t 50) 1)⟩, ⟨none, (.alloc 11 z8)⟩, ⟨none, (.store (.t 11) (.t 53) 8)⟩, ⟨none, (.mv 12 (.t 54))⟩] none (some ([3, 5, 6, 8, 9, 10, 11, 12], [3, 5, 6, 8, 9, 11]))
def w8_8 := @awpR_get Try.prog Q σ r8_8 _ _ [11] ⟨rfl, rfl⟩
def r8_9 : MC := .reg [⟨none, (.load 55 (.t 3) (some 8))⟩, ⟨none, (.call (some 56) (.c (.fn 22 [])) [(.t 55)])⟩, ⟨none, (.mv 57 (.t 56))⟩, ⟨(some (57, true)), (.mv 58 (.t 10))⟩, ⟨(some (57, true)), (.bin 59 .eql (.t 58) (.c (.imm true (.int .i64 0))))⟩, ⟨none, (.pick 60 (.t 57) (.t 59) (.c (.imm true (.bool false))))⟩, ⟨none, (.mv 61 (.t 60))⟩, ⟨(some (61, true)), (.load 62 (.t 5) (some 2))⟩, ⟨(some (61, true)), (.load 63 (.t 8) (some 2))⟩, ⟨(some (61, true)), (.call (some 64) (.c (.fn 14 [])) [(.t 62), (.t 63)])⟩, ⟨none, (.pick 65 (.t 61) (.t 64) (.c (.imm true (.bool false))))⟩, ⟨none, (.mv 66 (.t 65))⟩, ⟨(some (66, true)), (.load 67 (.t 6) (some 2))⟩, ⟨(some (66, true)), (.load 68 (.t 9) (some 2))⟩, ⟨(some (66, true)), (.call (some 69) (.c (.fn 14 [])) [(.t 67), (.t 68)])⟩, ⟨none, (.pick 70 (.t 66) (.t 69) (.c (.imm true (.bool false))))⟩, ⟨none, (.mv 71 (.t 70))⟩, ⟨(some (71, true)), (.mv 72 (.t 12))⟩, ⟨(some (71, true)), (.bin 73 .eql (.t 72) (.c (.imm true (.int .i64 0))))⟩, ⟨none, (.pick 74 (.t 71) (.t 73) (.c (.imm true (.bool false))))⟩, ⟨none, (.mv 75 (.t 74))⟩, ⟨(some (75, true)), (.load 76 (.t 11) (some 8))⟩, ⟨(some (75, true)), (.load 77 (.t 3) (some 8))⟩, ⟨(some (75, true)), (.call (some 78) (.c (.fn 24 [])) [(.t 76), (.t 77)])⟩, ⟨none, (.pick 79 (.t 75) (.t 78) (.c (.imm true (.bool false))))⟩, ⟨none, (.mv 80 (.t 79))⟩, ⟨(some (80, true)), (.load 81 (.t 3) (some 8))⟩, ⟨(some (80, true)), (.call (some 82) (.c (.fn 34 [])) [(.t 81)])⟩, ⟨none, (.pick 83 (.t 80) (.t 82) (.c (.imm true (.bool false))))⟩, ⟨none, (.mv 84 (.t 83))⟩, ⟨(some (84, true)), (.call (some 85) (.c (.fn 28 [])) [])⟩, ⟨none, (.pick 86 (.t 84) (.t 85) (.c (.imm true (.bool false))))⟩, ⟨none, (.mv 2 (.t 86))⟩] none (some ([2], []))
def w8_9 := @awpR_no Try.prog Q σ r8_9 _ _ ⟨rfl, rfl⟩
def my8 : MC := (.seq r8_0 (.seq r8_1 (.seq r8_2 (.seq (.seq r8_3 (.cond (.t 25) (.seq r8_4 .ret) .skip)) (.seq (.seq r8_5 (.cond (.t 38) (.seq r8_6 .ret) .skip)) (.seq r8_7 (.seq r8_8 (.seq r8_9 .ret))))))))
theorem my8_is : trC Try.prog ⟨[1], []⟩ ⟨[],
  [(0, [1], []), (1, [1, 3, 4], [3]), (2, [1, 3, 4, 5, 6, 7], [3, 5, 6]), (3, [1, 3, 4, 5, 6, 7, 25], [3, 5, 6]), (4, [2], []), (5, [3, 4, 5, 6, 38], [3, 5, 6]), (6, [2], []), (7, [3, 5, 6, 8, 9, 10], [3, 5, 6, 8, 9]), (8, [3, 5, 6, 8, 9, 10, 11, 12], [3, 5, 6, 8, 9, 11]), (9, [2], [])]⟩ 87 (Try.f8.body.getD .skip) = some my8 := by kernel_rfl
theorem does8 {args : List LV} (hl : args.length.ble 87 = true) {S S' : List (List LV)} (hS : S'.length = S.length) {o : Out} (h : Lt ⟨numE 0 args, argS 0 S, []⟩ (awp Try.prog my8 (Fin [(.t 2)] o S'))) : Does Try.prog 8 args S o S' :=
  does_of_awp mixed Try.func8 (by kernel_rfl) (by kernel_rfl) my8_is (by kernel_rfl) (Nat.le_of_ble_eq_true hl) hS h
attribute [go_sem ↓] w8_0 w8_1 w8_2 w8_3 w8_4 w8_5 w8_6 w8_7 w8_8 w8_9
attribute [go_sem] my8
end Go.Proofs.Ytopgmopdjiahmaa.Lg

/- NormOwn, NormFails, NormOrder: the walks. Conditions: none; plain lemmas. -/
set_option linter.unusedVariables false
set_option linter.unusedSimpArgs false
set_option maxRecDepth 100000
set_option maxHeartbeats 2000000
namespace Go.Proofs.Ytopgmopdjiahmaa.Lg
open Go Go.RowKit Go.Proofs

theorem normA_nf {a : Nf} (ha : a.wf 2) (hc : a.cn.chk.2.2 = 0) : normA a.cn = (a.cn, 0) := by
  rw [normA, if_pos hc, nf_cn ha, tolN, if_pos hc]
theorem own_does (c : Cn) (hf : c.fits) : Does Try.prog 8 [.imm false (.agg c.cells)] [] (.ret true (.bool true)) [] := by
  have hn := normA_does c hf
  have hk := cchk_does c hf
  have hi := is_does c hf
  have w := wakes_does
  by_cases h0 : c.chk.2.2 = 0
  · have ho := ok_iff h0
    obtain ⟨hw, he⟩ := nf_wf c ho.2.2.1
    rw [normA, if_pos h0] at hn
    rw [ho.2.2.2.2.2] at hk
    rcases tolN_cases hw with ⟨ht, hc⟩ | ⟨ht, hc⟩
    · rw [ht] at hn
      have hc0 : c.nf.cn.chk.2.2 = 0 := by rw [hc]
      have hk2 := cchk_does c.nf.cn (cn_fits hw)
      rw [hc, he] at hk2
      have hn2 := normA_does c.nf.cn (cn_fits hw)
      rw [normA_nf hw hc0] at hn2
      have hi2 := is_does c.nf.cn (cn_fits hw)
      rw [nf_isB hw hc0] at hi2
      have hl := like_does c.nf.cn (cn_fits hw)
      have hfi := fits_does c.nf hw hc0
      have s1 := same_does c.ends.1 c.ends.1 (Cn.ends_fits c hf).1 (Cn.ends_fits c hf).1
      rw [Ty.same_refl ho.2.2.2.1] at s1
      have s2 := same_does c.ends.2.1 c.ends.2.1 (Cn.ends_fits c hf).2 (Cn.ends_fits c hf).2
      rw [Ty.same_refl ho.2.2.2.2.1] at s2
      clear ht hc hc0 ho hw he hi
      generalize c.nf.cn = n at hn hk2 hn2 hi2 hl hfi
      generalize c.ends = e at hk hk2 s1 s2
      obtain ⟨e1, e2, e3⟩ := e
      obtain ⟨k, ty, to, lab, neg, ks⟩ := c
      obtain ⟨k2, ty2, to2, lab2, neg2, ks2⟩ := n
      simp only [coV, chV, Cn.cells, Ty.cells_eq] at hn hk hk2 hn2 hi2 hl hfi s1 s2
      refine does8 (by rfl) (by rfl) ?_
      (try simp (implicitDefEqProofs := false) only [go_sem, ↓reduceIte, Nat.reduceEqDiff, reduceCtorEq, Nat.reduceAdd, Nat.reduceSub, Nat.reduceLeDiff, Nat.reduceLT, Nat.reduceMul, Int.reduceToNat, Int.reduceLT, Int.reduceLE, Cn.cells])
      refine CallK_do hn ?_
      (try simp (implicitDefEqProofs := false) only [go_sem, ↓reduceIte, Nat.reduceEqDiff, reduceCtorEq, Nat.reduceAdd, Nat.reduceSub, Nat.reduceLeDiff, Nat.reduceLT, Nat.reduceMul, Int.reduceToNat, Int.reduceLT, Int.reduceLE])
      refine CallK_do hk ?_
      (try simp (implicitDefEqProofs := false) only [go_sem, ↓reduceIte, Nat.reduceEqDiff, reduceCtorEq, Nat.reduceAdd, Nat.reduceSub, Nat.reduceLeDiff, Nat.reduceLT, Nat.reduceMul, Int.reduceToNat, Int.reduceLT, Int.reduceLE, show ((0 : Int) != 0) = false from rfl])
      refine CallK_do hk2 ?_
      (try simp (implicitDefEqProofs := false) only [go_sem, ↓reduceIte, Nat.reduceEqDiff, reduceCtorEq, Nat.reduceAdd, Nat.reduceSub, Nat.reduceLeDiff, Nat.reduceLT, Nat.reduceMul, Int.reduceToNat, Int.reduceLT, Int.reduceLE])
      refine CallK_do hn2 ?_
      (try simp (implicitDefEqProofs := false) only [go_sem, ↓reduceIte, Nat.reduceEqDiff, reduceCtorEq, Nat.reduceAdd, Nat.reduceSub, Nat.reduceLeDiff, Nat.reduceLT, Nat.reduceMul, Int.reduceToNat, Int.reduceLT, Int.reduceLE])
      refine CallK_do hi2 ?_
      (try simp (implicitDefEqProofs := false) only [go_sem, ↓reduceIte, Nat.reduceEqDiff, reduceCtorEq, Nat.reduceAdd, Nat.reduceSub, Nat.reduceLeDiff, Nat.reduceLT, Nat.reduceMul, Int.reduceToNat, Int.reduceLT, Int.reduceLE, show ((0 : Int) == 0) = true from rfl])
      refine CallK_do s1 ?_
      (try simp (implicitDefEqProofs := false) only [go_sem, ↓reduceIte, Nat.reduceEqDiff, reduceCtorEq, Nat.reduceAdd, Nat.reduceSub, Nat.reduceLeDiff, Nat.reduceLT, Nat.reduceMul, Int.reduceToNat, Int.reduceLT, Int.reduceLE])
      refine CallK_do s2 ?_
      (try simp (implicitDefEqProofs := false) only [go_sem, ↓reduceIte, Nat.reduceEqDiff, reduceCtorEq, Nat.reduceAdd, Nat.reduceSub, Nat.reduceLeDiff, Nat.reduceLT, Nat.reduceMul, Int.reduceToNat, Int.reduceLT, Int.reduceLE])
      refine CallK_do hl ?_
      (try simp (implicitDefEqProofs := false) only [go_sem, ↓reduceIte, Nat.reduceEqDiff, reduceCtorEq, Nat.reduceAdd, Nat.reduceSub, Nat.reduceLeDiff, Nat.reduceLT, Nat.reduceMul, Int.reduceToNat, Int.reduceLT, Int.reduceLE])
      refine CallK_do hfi ?_
      (try simp (implicitDefEqProofs := false) only [go_sem, ↓reduceIte, Nat.reduceEqDiff, reduceCtorEq, Nat.reduceAdd, Nat.reduceSub, Nat.reduceLeDiff, Nat.reduceLT, Nat.reduceMul, Int.reduceToNat, Int.reduceLT, Int.reduceLE])
      refine CallK_do w ?_
      (try simp (implicitDefEqProofs := false) only [go_sem, ↓reduceIte, Nat.reduceEqDiff, reduceCtorEq, Nat.reduceAdd, Nat.reduceSub, Nat.reduceLeDiff, Nat.reduceLT, Nat.reduceMul, Int.reduceToNat, Int.reduceLT, Int.reduceLE])
    · have : ∃ x : Int, tolN c.nf = (.zero, x) ∧ x ≠ 0 ∧ (x == 32 || x == 31) = true := by
        rcases ht with ht | ht
        · exact ⟨32, ht, by omega, rfl⟩
        · exact ⟨31, ht, by omega, rfl⟩
      obtain ⟨x, hx, hx0, hx1⟩ := this
      rw [hx] at hn
      have hg := great_does x
      rw [hx1] at hg
      clear ht hc ho hw he hi hx
      generalize c.ends = e at hk
      obtain ⟨e1, e2, e3⟩ := e
      obtain ⟨k, ty, to, lab, neg, ks⟩ := c
      simp only [coV, chV, zero_cells, Cn.cells, Ty.cells_eq] at hn hk
      refine does8 (by rfl) (by rfl) ?_
      (try simp (implicitDefEqProofs := false) only [go_sem, ↓reduceIte, Nat.reduceEqDiff, reduceCtorEq, Nat.reduceAdd, Nat.reduceSub, Nat.reduceLeDiff, Nat.reduceLT, Nat.reduceMul, Int.reduceToNat, Int.reduceLT, Int.reduceLE, Cn.cells])
      refine CallK_do hn ?_
      (try simp (implicitDefEqProofs := false) only [go_sem, ↓reduceIte, Nat.reduceEqDiff, reduceCtorEq, Nat.reduceAdd, Nat.reduceSub, Nat.reduceLeDiff, Nat.reduceLT, Nat.reduceMul, Int.reduceToNat, Int.reduceLT, Int.reduceLE])
      refine CallK_do hk ?_
      (try simp (implicitDefEqProofs := false) only [go_sem, ↓reduceIte, Nat.reduceEqDiff, reduceCtorEq, Nat.reduceAdd, Nat.reduceSub, Nat.reduceLeDiff, Nat.reduceLT, Nat.reduceMul, Int.reduceToNat, Int.reduceLT, Int.reduceLE, show ((0 : Int) != 0) = false from rfl, show (x != 0) = true from by simpa using hx0])
      refine CallK_do hg ?_
      (try simp (implicitDefEqProofs := false) only [go_sem, ↓reduceIte, Nat.reduceEqDiff, reduceCtorEq, Nat.reduceAdd, Nat.reduceSub, Nat.reduceLeDiff, Nat.reduceLT, Nat.reduceMul, Int.reduceToNat, Int.reduceLT, Int.reduceLE])
      refine CallK_do w ?_
      (try simp (implicitDefEqProofs := false) only [go_sem, ↓reduceIte, Nat.reduceEqDiff, reduceCtorEq, Nat.reduceAdd, Nat.reduceSub, Nat.reduceLeDiff, Nat.reduceLT, Nat.reduceMul, Int.reduceToNat, Int.reduceLT, Int.reduceLE])
  · rw [normA, if_neg h0] at hn
    rw [show c.isB = false from by simp [Cn.isB, h0]] at hi
    generalize c.chk = e at hn hk h0
    obtain ⟨e1, e2, e3⟩ := e
    obtain ⟨k, ty, to, lab, neg, ks⟩ := c
    simp only [coV, chV, zero_cells, Cn.cells, Ty.cells_eq] at hn hk hi h0
    refine does8 (by rfl) (by rfl) ?_
    (try simp (implicitDefEqProofs := false) only [go_sem, ↓reduceIte, Nat.reduceEqDiff, reduceCtorEq, Nat.reduceAdd, Nat.reduceSub, Nat.reduceLeDiff, Nat.reduceLT, Nat.reduceMul, Int.reduceToNat, Int.reduceLT, Int.reduceLE, Cn.cells])
    refine CallK_do hn ?_
    (try simp (implicitDefEqProofs := false) only [go_sem, ↓reduceIte, Nat.reduceEqDiff, reduceCtorEq, Nat.reduceAdd, Nat.reduceSub, Nat.reduceLeDiff, Nat.reduceLT, Nat.reduceMul, Int.reduceToNat, Int.reduceLT, Int.reduceLE])
    refine CallK_do hk ?_
    (try simp (implicitDefEqProofs := false) only [go_sem, ↓reduceIte, Nat.reduceEqDiff, reduceCtorEq, Nat.reduceAdd, Nat.reduceSub, Nat.reduceLeDiff, Nat.reduceLT, Nat.reduceMul, Int.reduceToNat, Int.reduceLT, Int.reduceLE, show (e3 != 0) = true from by simpa using h0, beq_self_eq_true])
    refine CallK_do hi ?_
    (try simp (implicitDefEqProofs := false) only [go_sem, ↓reduceIte, Nat.reduceEqDiff, reduceCtorEq, Nat.reduceAdd, Nat.reduceSub, Nat.reduceLeDiff, Nat.reduceLT, Nat.reduceMul, Int.reduceToNat, Int.reduceLT, Int.reduceLE])
    refine CallK_do w ?_
    (try simp (implicitDefEqProofs := false) only [go_sem, ↓reduceIte, Nat.reduceEqDiff, reduceCtorEq, Nat.reduceAdd, Nat.reduceSub, Nat.reduceLeDiff, Nat.reduceLT, Nat.reduceMul, Int.reduceToNat, Int.reduceLT, Int.reduceLE])
end Go.Proofs.Ytopgmopdjiahmaa.Lg

/- NormOrder: the walk. Conditions: none; plain lemmas. -/
set_option linter.unusedVariables false
set_option linter.unusedSimpArgs false
set_option maxRecDepth 100000
set_option maxHeartbeats 2000000
namespace Go.Proofs.Ytopgmopdjiahmaa.Lg
open Go Go.RowKit Go.Proofs

mutual
theorem clean_height : ∀ c : Cn, c.clean.height = c.height
  | .mk k ty to lab neg ks => by
    have h := cleanL_height ks
    simp only [Cn.clean]
    split
    · rename_i h1; subst h1; simp [Cn.height]
    · split
      · rename_i h1; subst h1; simp [Cn.height]
      · split
        · rename_i h1; rcases h1 with rfl | rfl <;> simp [Cn.height]
        · rename_i h1 h2 h3
          have e1 : ¬ (k = 0 ∨ k = 1) := by omega
          have e2 : ¬ (k = 2 ∨ k = 3) := by omega
          simp only [Cn.height, if_neg e1, if_neg e2, h]
theorem cleanL_height : ∀ ks : List Cn, Cn.heightL (Cn.cleanL ks) = Cn.heightL ks
  | [] => rfl
  | [c] => by simp only [Cn.cleanL, Cn.heightL, clean_height c]
  | c :: d :: r => by
    have h := cleanL_height (d :: r)
    simp only [Cn.cleanL] at h ⊢
    simp only [Cn.heightL, clean_height c, h]
end
theorem isB_height {c : Cn} (h : c.isB = true) : c.heightF = c.nf.hi := by
  obtain ⟨h1, h2, h3, h4⟩ := isB_nf h
  rw [Cn.heightF, if_pos (by rw [h1]), ← clean_height c, h2, cn_height h3]
theorem thenA_ok {a b : Cn} (h : (thenA a b).2 = 0) : a.isB = true ∧ b.isB = true ∧ a.nf.en.2 = b.nf.en.1 ∧ thenA a b = ((join a.nf b.nf).cn, 0) ∧ (join a.nf b.nf).wf 2 ∧ (join a.nf b.nf).en = (a.nf.en.1, b.nf.en.2) ∧ (join a.nf b.nf).cn.chk = (a.nf.en.1, b.nf.en.2, 0) := by
  unfold thenA at h ⊢
  split at h
  · simp at h
  · rename_i h1
    simp only [Bool.not_eq_false, Bool.and_eq_true] at h1
    split at h
    · simp at h
    · rename_i h2
      simp only [Bool.not_eq_false] at h2
      rw [if_neg (by simp [h1]), if_neg (by simp [h2])]
      obtain ⟨a1, a2, a3, a4⟩ := isB_nf h1.1
      obtain ⟨b1, b2, b3, b4⟩ := isB_nf h1.2
      have hm : a.nf.en.2 = b.nf.en.1 := by rw [a4, b4]; exact (same_iff.1 h2).2
      obtain ⟨j1, j2⟩ := join_ok a3 b3 hm
      refine ⟨h1.1, h1.2, hm, ?_, j1, j2, ?_⟩
      · rcases tolN_cases j1 with ⟨ht, _⟩ | ⟨ht | ht, _⟩
        · exact ht
        · rw [ht] at h; simp at h
        · rw [ht] at h; simp at h
      · rcases tolN_cases j1 with ⟨_, hc⟩ | ⟨ht | ht, _⟩
        · rw [hc, j2]
        · rw [ht] at h; simp at h
        · rw [ht] at h; simp at h
theorem thenA_meet {a b : Cn} (ha : a.isB = true) (hb : b.isB = true) (h : a.nf.en.2 = b.nf.en.1) : thenA a b = tolN (join a.nf b.nf) := by
  obtain ⟨a1, a2, a3, a4⟩ := isB_nf ha
  obtain ⟨b1, b2, b3, b4⟩ := isB_nf hb
  have hc := (ok_iff (c := a) (by rw [a1])).2.2.2.2.1
  unfold thenA
  rw [ha, hb, if_neg (by simp)]
  rw [a4, b4] at h
  simp only at h
  rw [if_neg (by rw [← h, Ty.same_refl hc]; simp)]
/-- merging goes in any order -/
theorem thenA_order {a b c : Cn} (h1 : (thenA a b).2 = 0) (h2 : (thenA b c).2 = 0) : thenA (thenA a b).1 c = tolN (join (join a.nf b.nf) c.nf) ∧ thenA a (thenA b c).1 = tolN (join (join a.nf b.nf) c.nf) := by
  obtain ⟨a1, b1, m1, e1, w1, n1, k1⟩ := thenA_ok h1
  obtain ⟨_, c1, m2, e2, w2, n2, k2⟩ := thenA_ok h2
  rw [e1, e2]
  constructor
  · rw [thenA_meet (nf_isB w1 (by rw [k1])) c1 (by rw [nf_cn w1, n1]; exact m2), nf_cn w1]
  · rw [thenA_meet a1 (nf_isB w2 (by rw [k2])) (by rw [nf_cn w2, n2]; exact m1), nf_cn w2,
      join_assoc _ a.nf b.nf c.nf (Nat.le_refl _) (isB_nf a1).2.2.1 (isB_nf b1).2.2.1 (isB_nf c1).2.2.1 m1 m2]

theorem order_does (a b c : Cn) (ha : a.fits) (hb : b.fits) (hc : c.fits) : Does Try.prog 7 [.imm false (.agg a.cells), .imm false (.agg b.cells), .imm false (.agg c.cells)] [] (.ret true (.bool true)) [] := by
  have w := wakes_does
  have s1 := small_does a ha
  have s2 := small_does b hb
  have s3 := small_does c hc
  have t1 := thenA_does a b ha hb
  have t2 := thenA_does b c hb hc
  have go : (thenA a b).2 = 0 → (thenA b c).2 = 0 → ∃ L : Nf, L.wf 2 ∧ Does Try.prog 32 [.imm false (.agg (thenA a b).1.cells), .imm false (.agg c.cells)] [] (.ret true (coV (tolN L))) [] ∧ Does Try.prog 32 [.imm false (.agg a.cells), .imm false (.agg (thenA b c).1.cells)] [] (.ret true (coV (tolN L))) [] ∧
      (L.cn.chk.2.2 = 0 → ∃ p q : Ty, ∃ u v x y z : Int, Does Try.prog 13 [.imm false (.agg a.cells)] [] (.ret false (chV (p, (a.ends.2.1, 0)))) [] ∧ Does Try.prog 13 [.imm false (.agg c.cells)] [] (.ret false (chV (c.ends.1, (q, 0)))) [] ∧
        Does Try.prog 13 [.imm false (.agg L.cn.cells)] [] (.ret false (chV (p, (q, 0)))) [] ∧ Does Try.prog 14 [.imm false (.agg p.cells), .imm false (.agg p.cells)] [] (.ret true (.bool true)) [] ∧ Does Try.prog 14 [.imm false (.agg q.cells), .imm false (.agg q.cells)] [] (.ret true (.bool true)) [] ∧
        Does Try.prog 15 [.imm false (.agg (thenA a b).1.cells)] [] (.ret true (.int .i64 u)) [] ∧ Does Try.prog 15 [.imm false (.agg a.cells)] [] (.ret true (.int .i64 x)) [] ∧ Does Try.prog 15 [.imm false (.agg b.cells)] [] (.ret true (.int .i64 y)) [] ∧ u ≤ maxI x y ∧
        Does Try.prog 15 [.imm false (.agg L.cn.cells)] [] (.ret true (.int .i64 v)) [] ∧ Does Try.prog 15 [.imm false (.agg c.cells)] [] (.ret true (.int .i64 z)) [] ∧ v ≤ maxI u z ∧
        Does Try.prog 34 [.imm false (.agg (thenA a b).1.cells)] [] (.ret true (.bool true)) [] ∧ Does Try.prog 34 [.imm false (.agg L.cn.cells)] [] (.ret true (.bool true)) [] ∧
        Does Try.prog 24 [.imm false (.agg L.cn.cells), .imm false (.agg L.cn.cells)] [] (.ret true (.bool true)) [] ∧ Does Try.prog 22 [.imm false (.agg L.cn.cells)] [] (.ret true (.bool true)) []) := by
    intro h1 h2
    obtain ⟨a1, b1, m1, e1, w1, n1, k1⟩ := thenA_ok h1
    obtain ⟨_, c1, m2, e2, w2, n2, k2⟩ := thenA_ok h2
    obtain ⟨o1, o2⟩ := thenA_order h1 h2
    obtain ⟨pa1, pa2, pa3, pa4⟩ := isB_nf a1
    obtain ⟨pb1, pb2, pb3, pb4⟩ := isB_nf b1
    obtain ⟨pc1, pc2, pc3, pc4⟩ := isB_nf c1
    have fab : (thenA a b).1.fits := by rw [e1]; exact cn_fits w1
    have fbc : (thenA b c).1.fits := by rw [e2]; exact cn_fits w2
    obtain ⟨wL, nL⟩ := join_ok w1 pc3 (by rw [n1]; exact m2)
    refine ⟨_, wL, by rw [← o1]; exact thenA_does _ _ fab hc, by rw [← o2]; exact thenA_does _ _ ha fbc, fun hL => ?_⟩
    obtain ⟨f1, f2, f3, f4, f5⟩ := nf_ends' wL hL
    rw [nL, n1] at f3 f4 f5
    have ea : a.nf.en.1 = a.ends.1 := by rw [pa4]
    have ec : c.nf.en.2 = c.ends.2.1 := by rw [pc4]
    rw [ea] at f3 f5
    rw [ec] at f4 f5
    have hab0 : (join a.nf b.nf).cn.chk.2.2 = 0 := by rw [k1]
    refine ⟨a.ends.1, c.ends.2.1, _, _, _, _, _, by rw [← pa1]; exact cchk_does a ha, by rw [← pc1]; exact cchk_does c hc, by rw [← f5]; exact cchk_does _ (cn_fits wL), ?_, ?_, by rw [e1]; exact cheight_does _ (cn_fits w1), cheight_does a ha, cheight_does b hb, ?_,
      cheight_does _ (cn_fits wL), cheight_does c hc, ?_, by rw [e1]; exact fits_does _ w1 hab0, fits_does _ wL hL, like_does _ (cn_fits wL), by have := is_does _ (cn_fits wL); rw [nf_isB wL hL] at this; exact this⟩
    · have := same_does a.ends.1 a.ends.1 (Cn.ends_fits a ha).1 (Cn.ends_fits a ha).1
      rw [Ty.same_refl f3] at this; exact this
    · have := same_does c.ends.2.1 c.ends.2.1 (Cn.ends_fits c hc).2 (Cn.ends_fits c hc).2
      rw [Ty.same_refl f4] at this; exact this
    · rw [isB_height a1, isB_height b1, Cn.heightF, if_pos hab0, cn_height w1]
      exact join_hi _ _ _ (Nat.le_refl _) pa3 pb3 m1
    · have q1 : (join a.nf b.nf).cn.heightF = (join a.nf b.nf).hi := by rw [Cn.heightF, if_pos hab0, cn_height w1]
      have q2 : (join (join a.nf b.nf) c.nf).cn.heightF = (join (join a.nf b.nf) c.nf).hi := by rw [Cn.heightF, if_pos hL, cn_height wL]
      show Cn.heightF _ ≤ maxI (Cn.heightF (join a.nf b.nf).cn) _
      rw [isB_height c1, q1, q2]
      exact join_hi _ _ _ (Nat.le_refl _) w1 pc3 (by rw [n1]; exact m2)
  generalize a.smallB = sa at s1
  generalize b.smallB = sb at s2
  generalize c.smallB = sc at s3
  generalize a.ends = ea at go
  generalize c.ends = ec at go
  generalize thenA a b = ab at t1 go
  generalize thenA b c = bc at t2 go
  obtain ⟨ab, e⟩ := ab
  obtain ⟨bc, f⟩ := bc
  obtain ⟨k, ty, to, lab, neg, ks⟩ := a
  obtain ⟨k2, ty2, to2, lab2, neg2, ks2⟩ := b
  obtain ⟨k3, ty3, to3, lab3, neg3, ks3⟩ := c
  obtain ⟨k4, ty4, to4, lab4, neg4, ks4⟩ := ab
  obtain ⟨k5, ty5, to5, lab5, neg5, ks5⟩ := bc
  simp only [coV, Cn.cells] at s1 s2 s3 t1 t2
  refine does7 (by rfl) (by rfl) ?_
  (try simp (implicitDefEqProofs := false) only [go_sem, ↓reduceIte, Nat.reduceEqDiff, reduceCtorEq, Nat.reduceAdd, Nat.reduceSub, Nat.reduceLeDiff, Nat.reduceLT, Nat.reduceMul, Int.reduceToNat, Int.reduceLT, Int.reduceLE, Cn.cells])
  refine CallK_do s1 ?_
  cases sa with
  | false =>
    (try simp (implicitDefEqProofs := false) only [go_sem, ↓reduceIte, Nat.reduceEqDiff, reduceCtorEq, Nat.reduceAdd, Nat.reduceSub, Nat.reduceLeDiff, Nat.reduceLT, Nat.reduceMul, Int.reduceToNat, Int.reduceLT, Int.reduceLE, Bool.not_false])
    refine CallK_do w ?_
    (try simp (implicitDefEqProofs := false) only [go_sem, ↓reduceIte, Nat.reduceEqDiff, reduceCtorEq, Nat.reduceAdd, Nat.reduceSub, Nat.reduceLeDiff, Nat.reduceLT, Nat.reduceMul, Int.reduceToNat, Int.reduceLT, Int.reduceLE])
  | true =>
  (try simp (implicitDefEqProofs := false) only [go_sem, ↓reduceIte, Nat.reduceEqDiff, reduceCtorEq, Nat.reduceAdd, Nat.reduceSub, Nat.reduceLeDiff, Nat.reduceLT, Nat.reduceMul, Int.reduceToNat, Int.reduceLT, Int.reduceLE, Bool.not_true])
  refine CallK_do s2 ?_
  cases sb with
  | false =>
    (try simp (implicitDefEqProofs := false) only [go_sem, ↓reduceIte, Nat.reduceEqDiff, reduceCtorEq, Nat.reduceAdd, Nat.reduceSub, Nat.reduceLeDiff, Nat.reduceLT, Nat.reduceMul, Int.reduceToNat, Int.reduceLT, Int.reduceLE, Bool.not_false])
    refine CallK_do w ?_
    (try simp (implicitDefEqProofs := false) only [go_sem, ↓reduceIte, Nat.reduceEqDiff, reduceCtorEq, Nat.reduceAdd, Nat.reduceSub, Nat.reduceLeDiff, Nat.reduceLT, Nat.reduceMul, Int.reduceToNat, Int.reduceLT, Int.reduceLE])
  | true =>
  (try simp (implicitDefEqProofs := false) only [go_sem, ↓reduceIte, Nat.reduceEqDiff, reduceCtorEq, Nat.reduceAdd, Nat.reduceSub, Nat.reduceLeDiff, Nat.reduceLT, Nat.reduceMul, Int.reduceToNat, Int.reduceLT, Int.reduceLE, Bool.not_true])
  refine CallK_do s3 ?_
  cases sc with
  | false =>
    (try simp (implicitDefEqProofs := false) only [go_sem, ↓reduceIte, Nat.reduceEqDiff, reduceCtorEq, Nat.reduceAdd, Nat.reduceSub, Nat.reduceLeDiff, Nat.reduceLT, Nat.reduceMul, Int.reduceToNat, Int.reduceLT, Int.reduceLE, Bool.not_false])
    refine CallK_do w ?_
    (try simp (implicitDefEqProofs := false) only [go_sem, ↓reduceIte, Nat.reduceEqDiff, reduceCtorEq, Nat.reduceAdd, Nat.reduceSub, Nat.reduceLeDiff, Nat.reduceLT, Nat.reduceMul, Int.reduceToNat, Int.reduceLT, Int.reduceLE])
  | true =>
  (try simp (implicitDefEqProofs := false) only [go_sem, ↓reduceIte, Nat.reduceEqDiff, reduceCtorEq, Nat.reduceAdd, Nat.reduceSub, Nat.reduceLeDiff, Nat.reduceLT, Nat.reduceMul, Int.reduceToNat, Int.reduceLT, Int.reduceLE, Bool.not_true])
  refine CallK_do t1 ?_
  (try simp (implicitDefEqProofs := false) only [go_sem, ↓reduceIte, Nat.reduceEqDiff, reduceCtorEq, Nat.reduceAdd, Nat.reduceSub, Nat.reduceLeDiff, Nat.reduceLT, Nat.reduceMul, Int.reduceToNat, Int.reduceLT, Int.reduceLE])
  refine CallK_do t2 ?_
  by_cases he : e = 0
  · by_cases hf : f = 0
    · obtain ⟨L, wL, g1, g2, g3⟩ := go he hf
      rcases tolN_cases wL with ⟨ht, hk⟩ | ⟨ht, hk⟩
      · obtain ⟨p, q, u, v, x, y, z, r1, r2, r3, r4, r5, r6, r7, r8, r9, r10, r11, r12, r13, r14, r15, r16⟩ := g3 (by rw [hk])
        rw [ht] at g1 g2
        clear g3 ht hk wL go
        generalize L.cn = l at *
        obtain ⟨k6, ty6, to6, lab6, neg6, ks6⟩ := l
        simp only [coV, chV, Cn.cells, Ty.cells_eq] at g1 g2 r1 r2 r3 r4 r5 r6 r7 r8 r10 r11 r13 r14 r15 r16
        (try simp (implicitDefEqProofs := false) only [go_sem, ↓reduceIte, Nat.reduceEqDiff, reduceCtorEq, Nat.reduceAdd, Nat.reduceSub, Nat.reduceLeDiff, Nat.reduceLT, Nat.reduceMul, Int.reduceToNat, Int.reduceLT, Int.reduceLE, show (e != 0) = false from by simpa using he, show (f != 0) = false from by simpa using hf])
        refine CallK_do g1 ?_
        (try simp (implicitDefEqProofs := false) only [go_sem, ↓reduceIte, Nat.reduceEqDiff, reduceCtorEq, Nat.reduceAdd, Nat.reduceSub, Nat.reduceLeDiff, Nat.reduceLT, Nat.reduceMul, Int.reduceToNat, Int.reduceLT, Int.reduceLE])
        refine CallK_do g2 ?_
        (try simp (implicitDefEqProofs := false) only [go_sem, ↓reduceIte, Nat.reduceEqDiff, reduceCtorEq, Nat.reduceAdd, Nat.reduceSub, Nat.reduceLeDiff, Nat.reduceLT, Nat.reduceMul, Int.reduceToNat, Int.reduceLT, Int.reduceLE, show ((0 : Int) != 0) = false from rfl])
        refine CallK_do r1 ?_
        (try simp (implicitDefEqProofs := false) only [go_sem, ↓reduceIte, Nat.reduceEqDiff, reduceCtorEq, Nat.reduceAdd, Nat.reduceSub, Nat.reduceLeDiff, Nat.reduceLT, Nat.reduceMul, Int.reduceToNat, Int.reduceLT, Int.reduceLE])
        refine CallK_do r2 ?_
        (try simp (implicitDefEqProofs := false) only [go_sem, ↓reduceIte, Nat.reduceEqDiff, reduceCtorEq, Nat.reduceAdd, Nat.reduceSub, Nat.reduceLeDiff, Nat.reduceLT, Nat.reduceMul, Int.reduceToNat, Int.reduceLT, Int.reduceLE])
        refine CallK_do r3 ?_
        (try simp (implicitDefEqProofs := false) only [go_sem, ↓reduceIte, Nat.reduceEqDiff, reduceCtorEq, Nat.reduceAdd, Nat.reduceSub, Nat.reduceLeDiff, Nat.reduceLT, Nat.reduceMul, Int.reduceToNat, Int.reduceLT, Int.reduceLE])
        refine CallK_do r15 ?_
        (try simp (implicitDefEqProofs := false) only [go_sem, ↓reduceIte, Nat.reduceEqDiff, reduceCtorEq, Nat.reduceAdd, Nat.reduceSub, Nat.reduceLeDiff, Nat.reduceLT, Nat.reduceMul, Int.reduceToNat, Int.reduceLT, Int.reduceLE, Bool.not_true])
        refine CallK_do r16 ?_
        (try simp (implicitDefEqProofs := false) only [go_sem, ↓reduceIte, Nat.reduceEqDiff, reduceCtorEq, Nat.reduceAdd, Nat.reduceSub, Nat.reduceLeDiff, Nat.reduceLT, Nat.reduceMul, Int.reduceToNat, Int.reduceLT, Int.reduceLE, Bool.not_true, show ((0 : Int) != 0) = false from rfl])
        refine CallK_do r4 ?_
        (try simp (implicitDefEqProofs := false) only [go_sem, ↓reduceIte, Nat.reduceEqDiff, reduceCtorEq, Nat.reduceAdd, Nat.reduceSub, Nat.reduceLeDiff, Nat.reduceLT, Nat.reduceMul, Int.reduceToNat, Int.reduceLT, Int.reduceLE, Bool.not_true])
        refine CallK_do r5 ?_
        (try simp (implicitDefEqProofs := false) only [go_sem, ↓reduceIte, Nat.reduceEqDiff, reduceCtorEq, Nat.reduceAdd, Nat.reduceSub, Nat.reduceLeDiff, Nat.reduceLT, Nat.reduceMul, Int.reduceToNat, Int.reduceLT, Int.reduceLE, Bool.not_true])
        refine CallK_do r6 ?_
        (try simp (implicitDefEqProofs := false) only [go_sem, ↓reduceIte, Nat.reduceEqDiff, reduceCtorEq, Nat.reduceAdd, Nat.reduceSub, Nat.reduceLeDiff, Nat.reduceLT, Nat.reduceMul, Int.reduceToNat, Int.reduceLT, Int.reduceLE])
        refine CallK_do r7 ?_
        (try simp (implicitDefEqProofs := false) only [go_sem, ↓reduceIte, Nat.reduceEqDiff, reduceCtorEq, Nat.reduceAdd, Nat.reduceSub, Nat.reduceLeDiff, Nat.reduceLT, Nat.reduceMul, Int.reduceToNat, Int.reduceLT, Int.reduceLE])
        refine CallK_do r8 ?_
        unfold maxI at r9 r12
        (try simp (implicitDefEqProofs := false) only [go_sem, ↓reduceIte, Nat.reduceEqDiff, reduceCtorEq, Nat.reduceAdd, Nat.reduceSub, Nat.reduceLeDiff, Nat.reduceLT, Nat.reduceMul, Int.reduceToNat, Int.reduceLT, Int.reduceLE, decide_eq_true r9])
        refine CallK_do r10 ?_
        (try simp (implicitDefEqProofs := false) only [go_sem, ↓reduceIte, Nat.reduceEqDiff, reduceCtorEq, Nat.reduceAdd, Nat.reduceSub, Nat.reduceLeDiff, Nat.reduceLT, Nat.reduceMul, Int.reduceToNat, Int.reduceLT, Int.reduceLE])
        refine CallK_do r6 ?_
        (try simp (implicitDefEqProofs := false) only [go_sem, ↓reduceIte, Nat.reduceEqDiff, reduceCtorEq, Nat.reduceAdd, Nat.reduceSub, Nat.reduceLeDiff, Nat.reduceLT, Nat.reduceMul, Int.reduceToNat, Int.reduceLT, Int.reduceLE])
        refine CallK_do r11 ?_
        (try simp (implicitDefEqProofs := false) only [go_sem, ↓reduceIte, Nat.reduceEqDiff, reduceCtorEq, Nat.reduceAdd, Nat.reduceSub, Nat.reduceLeDiff, Nat.reduceLT, Nat.reduceMul, Int.reduceToNat, Int.reduceLT, Int.reduceLE, decide_eq_true r12])
        refine CallK_do r13 ?_
        (try simp (implicitDefEqProofs := false) only [go_sem, ↓reduceIte, Nat.reduceEqDiff, reduceCtorEq, Nat.reduceAdd, Nat.reduceSub, Nat.reduceLeDiff, Nat.reduceLT, Nat.reduceMul, Int.reduceToNat, Int.reduceLT, Int.reduceLE])
        refine CallK_do r14 ?_
        (try simp (implicitDefEqProofs := false) only [go_sem, ↓reduceIte, Nat.reduceEqDiff, reduceCtorEq, Nat.reduceAdd, Nat.reduceSub, Nat.reduceLeDiff, Nat.reduceLT, Nat.reduceMul, Int.reduceToNat, Int.reduceLT, Int.reduceLE])
        refine CallK_do w ?_
        (try simp (implicitDefEqProofs := false) only [go_sem, ↓reduceIte, Nat.reduceEqDiff, reduceCtorEq, Nat.reduceAdd, Nat.reduceSub, Nat.reduceLeDiff, Nat.reduceLT, Nat.reduceMul, Int.reduceToNat, Int.reduceLT, Int.reduceLE])
      · have : ∃ x : Int, tolN L = (.zero, x) ∧ x ≠ 0 ∧ (x == 32 || x == 31) = true := by
          rcases ht with ht | ht
          · exact ⟨32, ht, by omega, rfl⟩
          · exact ⟨31, ht, by omega, rfl⟩
        obtain ⟨x, hx, hx0, hx1⟩ := this
        rw [hx] at g1 g2
        have hg := great_does x
        rw [hx1] at hg
        simp only [coV, zero_cells, Cn.cells] at g1 g2
        (try simp (implicitDefEqProofs := false) only [go_sem, ↓reduceIte, Nat.reduceEqDiff, reduceCtorEq, Nat.reduceAdd, Nat.reduceSub, Nat.reduceLeDiff, Nat.reduceLT, Nat.reduceMul, Int.reduceToNat, Int.reduceLT, Int.reduceLE, show (e != 0) = false from by simpa using he, show (f != 0) = false from by simpa using hf])
        refine CallK_do g1 ?_
        (try simp (implicitDefEqProofs := false) only [go_sem, ↓reduceIte, Nat.reduceEqDiff, reduceCtorEq, Nat.reduceAdd, Nat.reduceSub, Nat.reduceLeDiff, Nat.reduceLT, Nat.reduceMul, Int.reduceToNat, Int.reduceLT, Int.reduceLE])
        refine CallK_do g2 ?_
        (try simp (implicitDefEqProofs := false) only [go_sem, ↓reduceIte, Nat.reduceEqDiff, reduceCtorEq, Nat.reduceAdd, Nat.reduceSub, Nat.reduceLeDiff, Nat.reduceLT, Nat.reduceMul, Int.reduceToNat, Int.reduceLT, Int.reduceLE, show (x != 0) = true from by simpa using hx0])
        refine CallK_do hg ?_
        (try simp (implicitDefEqProofs := false) only [go_sem, ↓reduceIte, Nat.reduceEqDiff, reduceCtorEq, Nat.reduceAdd, Nat.reduceSub, Nat.reduceLeDiff, Nat.reduceLT, Nat.reduceMul, Int.reduceToNat, Int.reduceLT, Int.reduceLE, show (x == 0) = false from by simpa using hx0])
        refine CallK_do hg ?_
        (try simp (implicitDefEqProofs := false) only [go_sem, ↓reduceIte, Nat.reduceEqDiff, reduceCtorEq, Nat.reduceAdd, Nat.reduceSub, Nat.reduceLeDiff, Nat.reduceLT, Nat.reduceMul, Int.reduceToNat, Int.reduceLT, Int.reduceLE])
    · (try simp (implicitDefEqProofs := false) only [go_sem, ↓reduceIte, Nat.reduceEqDiff, reduceCtorEq, Nat.reduceAdd, Nat.reduceSub, Nat.reduceLeDiff, Nat.reduceLT, Nat.reduceMul, Int.reduceToNat, Int.reduceLT, Int.reduceLE, show (e != 0) = false from by simpa using he, show (f != 0) = true from by simpa using hf])
      refine CallK_do w ?_
      (try simp (implicitDefEqProofs := false) only [go_sem, ↓reduceIte, Nat.reduceEqDiff, reduceCtorEq, Nat.reduceAdd, Nat.reduceSub, Nat.reduceLeDiff, Nat.reduceLT, Nat.reduceMul, Int.reduceToNat, Int.reduceLT, Int.reduceLE])
  · (try simp (implicitDefEqProofs := false) only [go_sem, ↓reduceIte, Nat.reduceEqDiff, reduceCtorEq, Nat.reduceAdd, Nat.reduceSub, Nat.reduceLeDiff, Nat.reduceLT, Nat.reduceMul, Int.reduceToNat, Int.reduceLT, Int.reduceLE, show (e != 0) = true from by simpa using he])
    refine CallK_do w ?_
    (try simp (implicitDefEqProofs := false) only [go_sem, ↓reduceIte, Nat.reduceEqDiff, reduceCtorEq, Nat.reduceAdd, Nat.reduceSub, Nat.reduceLeDiff, Nat.reduceLT, Nat.reduceMul, Int.reduceToNat, Int.reduceLT, Int.reduceLE])
end Go.Proofs.Ytopgmopdjiahmaa.Lg

/- NormFails: the walk. Conditions: none; plain lemmas. -/
set_option linter.unusedVariables false
set_option linter.unusedSimpArgs false
set_option maxRecDepth 100000
set_option maxHeartbeats 2000000
namespace Go.Proofs.Ytopgmopdjiahmaa.Lg
open Go Go.RowKit Go.Proofs

theorem ground_gty {t : Ty} (h : t.check = 0) (hk : t.k ≠ 0) : t.ground = (gty t.k, true) ∧ okG t.k := by
  obtain ⟨k, ts⟩ := t
  simp only [Ty.k] at hk ⊢
  have h2 : (Ty.mk k ts).ground.2 = true := by simp [Ty.ground, h, Ty.k, hk]
  rcases right_shape (check_iff.1 h).2.2 with ⟨rfl, hk2⟩ | ⟨a, b, rfl, hk2, _, _⟩
  · have e := ground_base h hk
    refine ⟨?_, ⟨by omega, by omega⟩⟩
    rw [show (Ty.mk k []).ground = ((Ty.mk k []).ground.1, (Ty.mk k []).ground.2) from rfl, e, h2]
    unfold gty
    rw [if_pos (by omega)]
  · have e := ground_pair h hk
    refine ⟨?_, ⟨by omega, by omega⟩⟩
    rw [show (Ty.mk k [a, b]).ground = ((Ty.mk k [a, b]).ground.1, (Ty.mk k [a, b]).ground.2) from rfl, e, h2]
    unfold gty
    rw [if_neg (by omega)]
theorem ground_no {t : Ty} (h : t.check ≠ 0 ∨ t.k = 0) : t.ground = (.un, false) := by simp [Ty.ground, h, Ty.un]

theorem OfR.mid {lab : Int} {neg : Bool} {a b : Ty} {c : Cn} (h : OfR lab neg a b c) (ha : a.k ≠ 0) (hb : b.k ≠ 0) : c.nf.mid = true := by
  cases h with
  | id neg k us =>
    simp only [Ty.k] at ha
    have : (Cn.mk 0 (.mk k []) .un 0 false []).nf = .base k := by simp [Cn.nf, nfK, idn_base ha]
    rw [this]; rfl
  | inn neg k ts us c hk hc h => exact absurd rfl hb
  | out neg k ts us c hk hc h => exact absurd rfl ha
  | fn neg f0 f1 t0 t1 c d h h' => rw [part, nf_two (by omega)]; rfl
  | two neg k f0 f1 t0 t1 c d hk h h' => rw [part, nf_two (by omega)]; rfl
theorem OfR.inn_nf {lab : Int} (hl : labOk lab = true) {neg : Bool} {a b : Ty} {c : Cn} (h : OfR lab neg a b c) (ha : a.check = 0) (hk : a.k ≠ 0) (hb : b = .un) : ∃ M, c.nf = .inn M a.k ∧ M.mid = true := by
  subst hb
  cases h with
  | id neg k us => exact absurd rfl hk
  | inn neg k ts us c hk0 hc h =>
    obtain ⟨g1, g2⟩ := ground_gty ha hk
    have hg : (Ty.mk k ts).ground.1 = gty k := by rw [g1]; rfl
    rw [hg] at h ⊢
    have gc := gty_check (g := k) g2
    have e := h.ends hl ha gc
    have hm := h.mid hk (by rw [gty_k]; exact hk0)
    obtain ⟨w, en⟩ := nf_wf c (by rw [e])
    refine ⟨c.nf, ?_, hm⟩
    rw [part, nf_seq]
    have e2 : (Cn.mk 2 (gty k) .un 0 false []).nf = .inn (gty k).idn k := by simp [Cn.nf, nfK, gty_k]
    rw [e2, join_mid_inn hm, join_idr w (by rw [en, e])]
    rfl
  | out neg k ts us c hk0 hc h => exact absurd rfl hk
theorem OfR.out_nf {lab : Int} (hl : labOk lab = true) {neg : Bool} {a b : Ty} {c : Cn} (h : OfR lab neg a b c) (hb : b.check = 0) (hk : b.k ≠ 0) (ha : a = .un) : ∃ M, c.nf = .out b.k lab neg M ∧ M.mid = true := by
  subst ha
  cases h with
  | id neg k us => exact absurd rfl hk
  | inn neg k ts us c hk0 hc h => exact absurd rfl hk
  | out neg k ts us c hk0 hc h =>
    obtain ⟨g1, g2⟩ := ground_gty hb hk
    have hg : (Ty.mk k ts).ground.1 = gty k := by rw [g1]; rfl
    rw [hg] at h ⊢
    have gc := gty_check (g := k) g2
    have e := h.ends hl gc hb
    have hm := h.mid (by rw [gty_k]; exact hk0) hk
    obtain ⟨w, en⟩ := nf_wf c (by rw [e])
    refine ⟨c.nf, ?_, hm⟩
    rw [part, nf_seq]
    have e2 : (Cn.mk 3 (gty k) .un lab neg []).nf = .out k lab neg (gty k).idn := by simp [Cn.nf, nfK, gty_k]
    rw [e2, join_out, join_idl w (by rw [en, e])]
    rfl
theorem castA_ok {a b : Ty} {lab : Int} {r : Cn × Int} (h : CastA a b lab r) (h0 : r.2 = 0) : ∃ c, OfR (labN lab) (labS lab) a b c ∧ labIn lab = true ∧ a.check = 0 ∧ b.check = 0 ∧ c.nf.wf 2 ∧ c.nf.en = (a, b) ∧ r = (c.nf.cn, 0) ∧ c.nf.cn.chk.2.2 = 0 := by
  cases h with
  | mk c e hA =>
    by_cases he : e = 0
    · rw [if_pos he] at h0 ⊢
      obtain ⟨h1, h2, h3, h4, h5, h6⟩ := hA.good he
      have ee := h5.ends (labOk_N h4) h1 h2
      obtain ⟨w, en⟩ := nf_wf c (by rw [ee])
      rw [normA, if_pos h6] at h0 ⊢
      rw [ee] at en
      rcases tolN_cases w with ⟨ht, hk⟩ | ⟨ht | ht, _⟩
      · exact ⟨c, h5, h4, h1, h2, w, en, ht, by rw [hk]⟩
      · rw [ht] at h0; simp at h0
      · rw [ht] at h0; simp at h0
    · rw [if_neg he] at h0; exact absurd h0 he
theorem wf_mid0 {M : Nf} {l : Nat} (h : M.wf l) (hm : M.mid = true) : M.wf 0 := Nf.wf_mid h hm
theorem mid_not1 {M : Nf} (h : M.wf 0) : M.cn.kd ≠ 1 := (isM_spec (mid_isM h (Nf.wf0 h))).2.2.1
theorem tol_great {a : Nf} (h : a.wf 2) : tolN a = (a.cn, 0) ∧ a.cn.chk.2.2 = 0 ∨ ∃ x : Int, tolN a = (.zero, x) ∧ x ≠ 0 ∧ (x == 32 || x == 31) = true := by
  rcases tolN_cases h with ⟨ht, hc⟩ | ⟨ht | ht, _⟩
  · exact .inl ⟨ht, by rw [hc]⟩
  · exact .inr ⟨32, ht, by omega, rfl⟩
  · exact .inr ⟨31, ht, by omega, rfl⟩

/-- what the law needs of a cast into the unknown and out of it again -/
theorem fails_core {a b : Ty} {p q : Int} {x y : Cn × Int} (hx : CastA a .un p x) (hy : CastA .un b q y) (ha : a.k ≠ 0) (hb : b.k ≠ 0) (x0 : x.2 = 0) (y0 : y.2 = 0) :
    ∃ Z : Nf, Z.wf 2 ∧ thenA x.1 y.1 = tolN Z ∧ Z.en = (a, b) ∧ (a.k = b.k → Z.cn.kd ≠ 1) ∧ (a.k ≠ b.k → Z = .fail a b (labN q) (labS q)) ∧ labIn q = true := by
  obtain ⟨c, o1, l1, ca, _, w1, n1, rx, k1⟩ := castA_ok hx x0
  obtain ⟨d, o2, l2, _, cb, w2, n2, ry, k2⟩ := castA_ok hy y0
  obtain ⟨M, e1, m1⟩ := o1.inn_nf (labOk_N l1) ca ha rfl
  obtain ⟨M', e2, m2⟩ := o2.out_nf (labOk_N l2) cb hb rfl
  have hm : c.nf.en.2 = d.nf.en.1 := by rw [n1, n2]
  have hj := join_ok w1 w2 hm
  rw [n1, n2] at hj
  refine ⟨join c.nf d.nf, hj.1, ?_, hj.2, ?_, ?_, l2⟩
  · rw [rx, ry]; exact thenA_nf w1 w2 k1 k2 hm
  · intro hk
    rw [e1] at w1
    rw [e2] at w2
    rw [e1, e2, hk, join_inn_eq]
    simp only [Nf.wf] at w1 w2
    have := join_mid (wf_mid0 w1.2.2.1 m1) (wf_mid0 w2.2.2.2.1 m2) (by rw [w1.2.2.2, w2.2.2.2.2, hk])
    exact mid_not1 this.1
  · intro hk
    rw [e1] at n1
    rw [e2] at n2
    rw [e1, e2, join_inn_ne _ _ _ _ _ _ hk]
    simp only [Nf.en, Prod.mk.injEq] at n1 n2
    rw [n1.1, n2.2]

theorem fails_does (a b c : Ty) (p q : Int) (ha : a.fits) (hb : b.fits) (hc : c.fits) (hp : -9223372036854775808 ≤ p ∧ p ≤ 9223372036854775807) (hq : -9223372036854775808 ≤ q ∧ q ≤ 9223372036854775807) :
    Does Try.prog 6 [.imm false (.agg a.cells), .imm false (.agg b.cells), .imm false (.agg c.cells), .imm false (.int .i64 p), .imm false (.int .i64 q)] [] (.ret true (.bool true)) [] := by
  have w := wakes_does
  have g1 := ground_does a ha
  have g2 := ground_does b hb
  obtain ⟨x, hx, dx⟩ := castA_does a .un ha un_fits p hp
  obtain ⟨y, hy, dy⟩ := castA_does .un b un_fits hb q hq
  simp only [un_cells] at dx dy
  simp only [Ty.cells_eq] at g1 g2 dx dy ⊢
  by_cases h1 : a.check ≠ 0 ∨ a.k = 0
  · rw [ground_no h1] at g1
    generalize b.ground = gb at g2
    obtain ⟨gb1, gb2⟩ := gb
    simp only [Ty.un, Ty.k_mk, Ty.ts_mk, Ty.cellsL] at g1
    refine does6 (by rfl) (by rfl) ?_
    (try simp (implicitDefEqProofs := false) only [go_sem, ↓reduceIte, Nat.reduceEqDiff, reduceCtorEq, Nat.reduceAdd, Nat.reduceSub, Nat.reduceLeDiff, Nat.reduceLT, Nat.reduceMul, Int.reduceToNat, Int.reduceLT, Int.reduceLE])
    refine CallK_do g1 ?_
    (try simp (implicitDefEqProofs := false) only [go_sem, ↓reduceIte, Nat.reduceEqDiff, reduceCtorEq, Nat.reduceAdd, Nat.reduceSub, Nat.reduceLeDiff, Nat.reduceLT, Nat.reduceMul, Int.reduceToNat, Int.reduceLT, Int.reduceLE])
    refine CallK_do g2 ?_
    (try simp (implicitDefEqProofs := false) only [go_sem, ↓reduceIte, Nat.reduceEqDiff, reduceCtorEq, Nat.reduceAdd, Nat.reduceSub, Nat.reduceLeDiff, Nat.reduceLT, Nat.reduceMul, Int.reduceToNat, Int.reduceLT, Int.reduceLE, Bool.not_false])
    refine CallK_do w ?_
    (try simp (implicitDefEqProofs := false) only [go_sem, ↓reduceIte, Nat.reduceEqDiff, reduceCtorEq, Nat.reduceAdd, Nat.reduceSub, Nat.reduceLeDiff, Nat.reduceLT, Nat.reduceMul, Int.reduceToNat, Int.reduceLT, Int.reduceLE])
  by_cases h2 : b.check ≠ 0 ∨ b.k = 0
  · rw [ground_no h2] at g2
    generalize a.ground = gb at g1
    obtain ⟨gb1, gb2⟩ := gb
    simp only [Ty.un, Ty.k_mk, Ty.ts_mk, Ty.cellsL] at g2
    refine does6 (by rfl) (by rfl) ?_
    (try simp (implicitDefEqProofs := false) only [go_sem, ↓reduceIte, Nat.reduceEqDiff, reduceCtorEq, Nat.reduceAdd, Nat.reduceSub, Nat.reduceLeDiff, Nat.reduceLT, Nat.reduceMul, Int.reduceToNat, Int.reduceLT, Int.reduceLE])
    refine CallK_do g1 ?_
    (try simp (implicitDefEqProofs := false) only [go_sem, ↓reduceIte, Nat.reduceEqDiff, reduceCtorEq, Nat.reduceAdd, Nat.reduceSub, Nat.reduceLeDiff, Nat.reduceLT, Nat.reduceMul, Int.reduceToNat, Int.reduceLT, Int.reduceLE])
    refine CallK_do g2 ?_
    cases gb2 with
    | false =>
      (try simp (implicitDefEqProofs := false) only [go_sem, ↓reduceIte, Nat.reduceEqDiff, reduceCtorEq, Nat.reduceAdd, Nat.reduceSub, Nat.reduceLeDiff, Nat.reduceLT, Nat.reduceMul, Int.reduceToNat, Int.reduceLT, Int.reduceLE, Bool.not_false])
      refine CallK_do w ?_
      (try simp (implicitDefEqProofs := false) only [go_sem, ↓reduceIte, Nat.reduceEqDiff, reduceCtorEq, Nat.reduceAdd, Nat.reduceSub, Nat.reduceLeDiff, Nat.reduceLT, Nat.reduceMul, Int.reduceToNat, Int.reduceLT, Int.reduceLE])
    | true =>
      (try simp (implicitDefEqProofs := false) only [go_sem, ↓reduceIte, Nat.reduceEqDiff, reduceCtorEq, Nat.reduceAdd, Nat.reduceSub, Nat.reduceLeDiff, Nat.reduceLT, Nat.reduceMul, Int.reduceToNat, Int.reduceLT, Int.reduceLE, Bool.not_false, Bool.not_true])
      refine CallK_do w ?_
      (try simp (implicitDefEqProofs := false) only [go_sem, ↓reduceIte, Nat.reduceEqDiff, reduceCtorEq, Nat.reduceAdd, Nat.reduceSub, Nat.reduceLeDiff, Nat.reduceLT, Nat.reduceMul, Int.reduceToNat, Int.reduceLT, Int.reduceLE])
  simp only [not_or, Decidable.not_not] at h1 h2
  obtain ⟨e1, k1⟩ := ground_gty h1.1 h1.2
  obtain ⟨e2, k2⟩ := ground_gty h2.1 h2.2
  rw [e1] at g1
  rw [e2] at g2
  simp only [] at g1 g2
  have sg := same_does (gty a.k) (gty b.k) (Ty.right_fits _ (gty_right k1)) (Ty.right_fits _ (gty_right k2))
  have core := fails_core hx hy h1.2 h2.2
  have fx : x.2 = 0 → x.1.fits := fun h => by obtain ⟨c, _, _, _, _, w1, _, rx, _⟩ := castA_ok hx h; rw [rx]; exact cn_fits w1
  have fy : y.2 = 0 → y.1.fits := fun h => by obtain ⟨c, _, _, _, _, w1, _, rx, _⟩ := castA_ok hy h; rw [rx]; exact cn_fits w1
  have tz : x.2 = 0 → y.2 = 0 → Does Try.prog 32 [.imm false (.agg x.1.cells), .imm false (.agg y.1.cells)] [] (.ret true (coV (thenA x.1 y.1))) [] := fun h h' => thenA_does _ _ (fx h) (fy h')
  clear hx hy fx fy
  obtain ⟨x1, x2⟩ := x
  obtain ⟨y1, y2⟩ := y
  simp only at core tz
  by_cases zx : x2 = 0
  · by_cases zy : y2 = 0
    · subst zx; subst zy
      obtain ⟨Z, wZ, eZ, nZ, s1, s2, lq⟩ := core rfl rfl
      have tz := tz rfl rfl
      rw [eZ] at tz
      have hin := of_decide_eq_true lq
      rcases tol_great wZ with ⟨ht, hk⟩ | ⟨u, hu, hu0, hu1⟩
      · rw [ht] at tz
        by_cases hab : a.k = b.k
        · have hs : (gty a.k).same (gty b.k) = true := by rw [hab]; exact Ty.same_refl (gty_check k2)
          rw [hs] at sg
          have hn := s1 hab
          clear core eZ ht hk s1 s2 wZ nZ
          generalize Z.cn = z at tz hn
          obtain ⟨k6, ty6, to6, lab6, neg6, ks6⟩ := x1
          obtain ⟨k7, ty7, to7, lab7, neg7, ks7⟩ := y1
          obtain ⟨k8, ty8, to8, lab8, neg8, ks8⟩ := z
          simp only [coV, Cn.cells, Ty.cells_eq] at dx dy tz sg
          simp only [Cn.kd] at hn
          refine does6 (by rfl) (by rfl) ?_
          (try simp (implicitDefEqProofs := false) only [go_sem, ↓reduceIte, Nat.reduceEqDiff, reduceCtorEq, Nat.reduceAdd, Nat.reduceSub, Nat.reduceLeDiff, Nat.reduceLT, Nat.reduceMul, Int.reduceToNat, Int.reduceLT, Int.reduceLE])
          refine CallK_do g1 ?_
          (try simp (implicitDefEqProofs := false) only [go_sem, ↓reduceIte, Nat.reduceEqDiff, reduceCtorEq, Nat.reduceAdd, Nat.reduceSub, Nat.reduceLeDiff, Nat.reduceLT, Nat.reduceMul, Int.reduceToNat, Int.reduceLT, Int.reduceLE])
          refine CallK_do g2 ?_
          (try simp (implicitDefEqProofs := false) only [go_sem, ↓reduceIte, Nat.reduceEqDiff, reduceCtorEq, Nat.reduceAdd, Nat.reduceSub, Nat.reduceLeDiff, Nat.reduceLT, Nat.reduceMul, Int.reduceToNat, Int.reduceLT, Int.reduceLE, Bool.not_true])
          refine CallK_do dx ?_
          (try simp (implicitDefEqProofs := false) only [go_sem, ↓reduceIte, Nat.reduceEqDiff, reduceCtorEq, Nat.reduceAdd, Nat.reduceSub, Nat.reduceLeDiff, Nat.reduceLT, Nat.reduceMul, Int.reduceToNat, Int.reduceLT, Int.reduceLE])
          refine CallK_do dy ?_
          (try simp (implicitDefEqProofs := false) only [go_sem, ↓reduceIte, Nat.reduceEqDiff, reduceCtorEq, Nat.reduceAdd, Nat.reduceSub, Nat.reduceLeDiff, Nat.reduceLT, Nat.reduceMul, Int.reduceToNat, Int.reduceLT, Int.reduceLE, show ((0 : Int) != 0) = false from rfl])
          refine CallK_do tz ?_
          (try simp (implicitDefEqProofs := false) only [go_sem, ↓reduceIte, Nat.reduceEqDiff, reduceCtorEq, Nat.reduceAdd, Nat.reduceSub, Nat.reduceLeDiff, Nat.reduceLT, Nat.reduceMul, Int.reduceToNat, Int.reduceLT, Int.reduceLE, show ((0 : Int) != 0) = false from rfl])
          refine CallK_do sg ?_
          (try simp (implicitDefEqProofs := false) only [go_sem, ↓reduceIte, Nat.reduceEqDiff, reduceCtorEq, Nat.reduceAdd, Nat.reduceSub, Nat.reduceLeDiff, Nat.reduceLT, Nat.reduceMul, Int.reduceToNat, Int.reduceLT, Int.reduceLE, show (k8 != 1) = true from by simpa using hn])
          refine CallK_do w ?_
          (try simp (implicitDefEqProofs := false) only [go_sem, ↓reduceIte, Nat.reduceEqDiff, reduceCtorEq, Nat.reduceAdd, Nat.reduceSub, Nat.reduceLeDiff, Nat.reduceLT, Nat.reduceMul, Int.reduceToNat, Int.reduceLT, Int.reduceLE])
        · have hs : (gty a.k).same (gty b.k) = false := by
            cases hs : (gty a.k).same (gty b.k) with
            | false => rfl
            | true =>
              have := (same_iff.1 hs).2
              have h3 : (gty a.k).k = (gty b.k).k := by rw [this]
              rw [gty_k, gty_k] at h3
              exact absurd h3 hab
          rw [hs] at sg
          have hZ := s2 hab
          subst hZ
          obtain ⟨W, hW, dW⟩ := castA_does b c hb hc p hp
          have tu : W.2 = 0 → ∃ v : Cn × Int, Does Try.prog 32 [.imm false (.agg (Nf.fail a b (labN q) (labS q)).cn.cells), .imm false (.agg W.1.cells)] [] (.ret true (coV v)) [] ∧ (v = ((Nf.fail a c (labN q) (labS q)).cn, 0) ∨ ∃ u : Int, v = (.zero, u) ∧ u ≠ 0 ∧ (u == 32 || u == 31) = true) := fun h => by
            obtain ⟨d, _, _, _, _, w3, n3, r3, k3⟩ := castA_ok hW h
            have hm : (Nf.fail a b (labN q) (labS q)).en.2 = d.nf.en.1 := by rw [n3]; rfl
            have hj := join_ok wZ w3 hm
            refine ⟨thenA (Nf.fail a b (labN q) (labS q)).cn W.1, thenA_does _ _ (cn_fits wZ) (by rw [r3]; exact cn_fits w3), ?_⟩
            rw [r3, thenA_nf wZ w3 hk k3 hm]
            rw [join_fail, n3] at hj ⊢
            rcases tol_great hj.1 with ⟨ht, _⟩ | h
            · exact .inl ht
            · exact .inr h
          clear core eZ ht hk s1 s2 wZ nZ hW
          obtain ⟨W1, W2⟩ := W
          obtain ⟨k6, ty6, to6, lab6, neg6, ks6⟩ := x1
          obtain ⟨k7, ty7, to7, lab7, neg7, ks7⟩ := y1
          obtain ⟨k8, ty8, to8, lab8, neg8, ks8⟩ := W1
          simp only [coV, Nf.cn, Cn.cells, Cn.cellsL, Ty.cells_eq] at dx dy tz sg dW tu
          have hneg : (labS q == decide (q < 0)) = true := by simp [labS]
          -- the label's side
          have rest : ∀ n : Int, n = labN q → ∀ f : Bool, W2 = 0 → True := fun _ _ _ _ => trivial
          by_cases hq0 : q < 0
          · have hn : labN q = 0 - q := by unfold labN; rw [if_pos hq0]; omega
            have hs2 : labS q = true := by simp [labS, hq0]
            rw [hn, hs2] at tz tu
            refine does6 (by rfl) (by rfl) ?_
            (try simp (implicitDefEqProofs := false) only [go_sem, ↓reduceIte, Nat.reduceEqDiff, reduceCtorEq, Nat.reduceAdd, Nat.reduceSub, Nat.reduceLeDiff, Nat.reduceLT, Nat.reduceMul, Int.reduceToNat, Int.reduceLT, Int.reduceLE])
            refine CallK_do g1 ?_
            (try simp (implicitDefEqProofs := false) only [go_sem, ↓reduceIte, Nat.reduceEqDiff, reduceCtorEq, Nat.reduceAdd, Nat.reduceSub, Nat.reduceLeDiff, Nat.reduceLT, Nat.reduceMul, Int.reduceToNat, Int.reduceLT, Int.reduceLE])
            refine CallK_do g2 ?_
            (try simp (implicitDefEqProofs := false) only [go_sem, ↓reduceIte, Nat.reduceEqDiff, reduceCtorEq, Nat.reduceAdd, Nat.reduceSub, Nat.reduceLeDiff, Nat.reduceLT, Nat.reduceMul, Int.reduceToNat, Int.reduceLT, Int.reduceLE, Bool.not_true])
            refine CallK_do dx ?_
            (try simp (implicitDefEqProofs := false) only [go_sem, ↓reduceIte, Nat.reduceEqDiff, reduceCtorEq, Nat.reduceAdd, Nat.reduceSub, Nat.reduceLeDiff, Nat.reduceLT, Nat.reduceMul, Int.reduceToNat, Int.reduceLT, Int.reduceLE])
            refine CallK_do dy ?_
            (try simp (implicitDefEqProofs := false) only [go_sem, ↓reduceIte, Nat.reduceEqDiff, reduceCtorEq, Nat.reduceAdd, Nat.reduceSub, Nat.reduceLeDiff, Nat.reduceLT, Nat.reduceMul, Int.reduceToNat, Int.reduceLT, Int.reduceLE, show ((0 : Int) != 0) = false from rfl])
            refine CallK_do tz ?_
            (try simp (implicitDefEqProofs := false) only [go_sem, ↓reduceIte, Nat.reduceEqDiff, reduceCtorEq, Nat.reduceAdd, Nat.reduceSub, Nat.reduceLeDiff, Nat.reduceLT, Nat.reduceMul, Int.reduceToNat, Int.reduceLT, Int.reduceLE, show ((0 : Int) != 0) = false from rfl])
            refine CallK_do sg ?_
            (try simp (implicitDefEqProofs := false) only [go_sem, ↓reduceIte, Nat.reduceEqDiff, reduceCtorEq, Nat.reduceAdd, Nat.reduceSub, Nat.reduceLeDiff, Nat.reduceLT, Nat.reduceMul, Int.reduceToNat, Int.reduceLT, Int.reduceLE, decide_eq_true hq0, wrap64 (n := 0 - q) (by omega) (by omega), show ((1 : Int) != 1) = false from rfl, bne_self_eq_false, show (true == true) = true from rfl])
            refine CallK_do dW ?_
            by_cases zW : W2 = 0
            · obtain ⟨v, dv, hv⟩ := tu zW
              rcases hv with rfl | ⟨u, rfl, hu0, hu1⟩
              · simp only [Nf.cn, Cn.cells, Cn.cellsL, hn, hs2] at dv
                (try simp (implicitDefEqProofs := false) only [go_sem, ↓reduceIte, Nat.reduceEqDiff, reduceCtorEq, Nat.reduceAdd, Nat.reduceSub, Nat.reduceLeDiff, Nat.reduceLT, Nat.reduceMul, Int.reduceToNat, Int.reduceLT, Int.reduceLE, show (W2 != 0) = false from by simpa using zW])
                refine CallK_do dv ?_
                (try simp (implicitDefEqProofs := false) only [go_sem, ↓reduceIte, Nat.reduceEqDiff, reduceCtorEq, Nat.reduceAdd, Nat.reduceSub, Nat.reduceLeDiff, Nat.reduceLT, Nat.reduceMul, Int.reduceToNat, Int.reduceLT, Int.reduceLE, show ((0 : Int) != 0) = false from rfl, show ((1 : Int) == 1) = true from rfl, beq_self_eq_true, show (true == true) = true from rfl])
                refine CallK_do w ?_
                (try simp (implicitDefEqProofs := false) only [go_sem, ↓reduceIte, Nat.reduceEqDiff, reduceCtorEq, Nat.reduceAdd, Nat.reduceSub, Nat.reduceLeDiff, Nat.reduceLT, Nat.reduceMul, Int.reduceToNat, Int.reduceLT, Int.reduceLE])
              · have hg := great_does u
                rw [hu1] at hg
                simp only [zero_cells] at dv
                (try simp (implicitDefEqProofs := false) only [go_sem, ↓reduceIte, Nat.reduceEqDiff, reduceCtorEq, Nat.reduceAdd, Nat.reduceSub, Nat.reduceLeDiff, Nat.reduceLT, Nat.reduceMul, Int.reduceToNat, Int.reduceLT, Int.reduceLE, show (W2 != 0) = false from by simpa using zW])
                refine CallK_do dv ?_
                (try simp (implicitDefEqProofs := false) only [go_sem, ↓reduceIte, Nat.reduceEqDiff, reduceCtorEq, Nat.reduceAdd, Nat.reduceSub, Nat.reduceLeDiff, Nat.reduceLT, Nat.reduceMul, Int.reduceToNat, Int.reduceLT, Int.reduceLE, show (u != 0) = true from by simpa using hu0])
                refine CallK_do hg ?_
                (try simp (implicitDefEqProofs := false) only [go_sem, ↓reduceIte, Nat.reduceEqDiff, reduceCtorEq, Nat.reduceAdd, Nat.reduceSub, Nat.reduceLeDiff, Nat.reduceLT, Nat.reduceMul, Int.reduceToNat, Int.reduceLT, Int.reduceLE])
                refine CallK_do w ?_
                (try simp (implicitDefEqProofs := false) only [go_sem, ↓reduceIte, Nat.reduceEqDiff, reduceCtorEq, Nat.reduceAdd, Nat.reduceSub, Nat.reduceLeDiff, Nat.reduceLT, Nat.reduceMul, Int.reduceToNat, Int.reduceLT, Int.reduceLE])
            · (try simp (implicitDefEqProofs := false) only [go_sem, ↓reduceIte, Nat.reduceEqDiff, reduceCtorEq, Nat.reduceAdd, Nat.reduceSub, Nat.reduceLeDiff, Nat.reduceLT, Nat.reduceMul, Int.reduceToNat, Int.reduceLT, Int.reduceLE, show (W2 != 0) = true from by simpa using zW])
              refine CallK_do w ?_
              (try simp (implicitDefEqProofs := false) only [go_sem, ↓reduceIte, Nat.reduceEqDiff, reduceCtorEq, Nat.reduceAdd, Nat.reduceSub, Nat.reduceLeDiff, Nat.reduceLT, Nat.reduceMul, Int.reduceToNat, Int.reduceLT, Int.reduceLE])
          · have hn : labN q = q := by unfold labN; rw [if_neg hq0]
            have hs2 : labS q = false := by simp [labS]; omega
            rw [hn, hs2] at tz tu
            refine does6 (by rfl) (by rfl) ?_
            (try simp (implicitDefEqProofs := false) only [go_sem, ↓reduceIte, Nat.reduceEqDiff, reduceCtorEq, Nat.reduceAdd, Nat.reduceSub, Nat.reduceLeDiff, Nat.reduceLT, Nat.reduceMul, Int.reduceToNat, Int.reduceLT, Int.reduceLE])
            refine CallK_do g1 ?_
            (try simp (implicitDefEqProofs := false) only [go_sem, ↓reduceIte, Nat.reduceEqDiff, reduceCtorEq, Nat.reduceAdd, Nat.reduceSub, Nat.reduceLeDiff, Nat.reduceLT, Nat.reduceMul, Int.reduceToNat, Int.reduceLT, Int.reduceLE])
            refine CallK_do g2 ?_
            (try simp (implicitDefEqProofs := false) only [go_sem, ↓reduceIte, Nat.reduceEqDiff, reduceCtorEq, Nat.reduceAdd, Nat.reduceSub, Nat.reduceLeDiff, Nat.reduceLT, Nat.reduceMul, Int.reduceToNat, Int.reduceLT, Int.reduceLE, Bool.not_true])
            refine CallK_do dx ?_
            (try simp (implicitDefEqProofs := false) only [go_sem, ↓reduceIte, Nat.reduceEqDiff, reduceCtorEq, Nat.reduceAdd, Nat.reduceSub, Nat.reduceLeDiff, Nat.reduceLT, Nat.reduceMul, Int.reduceToNat, Int.reduceLT, Int.reduceLE])
            refine CallK_do dy ?_
            (try simp (implicitDefEqProofs := false) only [go_sem, ↓reduceIte, Nat.reduceEqDiff, reduceCtorEq, Nat.reduceAdd, Nat.reduceSub, Nat.reduceLeDiff, Nat.reduceLT, Nat.reduceMul, Int.reduceToNat, Int.reduceLT, Int.reduceLE, show ((0 : Int) != 0) = false from rfl])
            refine CallK_do tz ?_
            (try simp (implicitDefEqProofs := false) only [go_sem, ↓reduceIte, Nat.reduceEqDiff, reduceCtorEq, Nat.reduceAdd, Nat.reduceSub, Nat.reduceLeDiff, Nat.reduceLT, Nat.reduceMul, Int.reduceToNat, Int.reduceLT, Int.reduceLE, show ((0 : Int) != 0) = false from rfl])
            refine CallK_do sg ?_
            (try simp (implicitDefEqProofs := false) only [go_sem, ↓reduceIte, Nat.reduceEqDiff, reduceCtorEq, Nat.reduceAdd, Nat.reduceSub, Nat.reduceLeDiff, Nat.reduceLT, Nat.reduceMul, Int.reduceToNat, Int.reduceLT, Int.reduceLE, decide_eq_false hq0, show ((1 : Int) != 1) = false from rfl, bne_self_eq_false, show (false == false) = true from rfl])
            refine CallK_do dW ?_
            by_cases zW : W2 = 0
            · obtain ⟨v, dv, hv⟩ := tu zW
              rcases hv with rfl | ⟨u, rfl, hu0, hu1⟩
              · simp only [Nf.cn, Cn.cells, Cn.cellsL, hn, hs2] at dv
                (try simp (implicitDefEqProofs := false) only [go_sem, ↓reduceIte, Nat.reduceEqDiff, reduceCtorEq, Nat.reduceAdd, Nat.reduceSub, Nat.reduceLeDiff, Nat.reduceLT, Nat.reduceMul, Int.reduceToNat, Int.reduceLT, Int.reduceLE, show (W2 != 0) = false from by simpa using zW])
                refine CallK_do dv ?_
                (try simp (implicitDefEqProofs := false) only [go_sem, ↓reduceIte, Nat.reduceEqDiff, reduceCtorEq, Nat.reduceAdd, Nat.reduceSub, Nat.reduceLeDiff, Nat.reduceLT, Nat.reduceMul, Int.reduceToNat, Int.reduceLT, Int.reduceLE, show ((0 : Int) != 0) = false from rfl, show ((1 : Int) == 1) = true from rfl, beq_self_eq_true, show (false == false) = true from rfl])
                refine CallK_do w ?_
                (try simp (implicitDefEqProofs := false) only [go_sem, ↓reduceIte, Nat.reduceEqDiff, reduceCtorEq, Nat.reduceAdd, Nat.reduceSub, Nat.reduceLeDiff, Nat.reduceLT, Nat.reduceMul, Int.reduceToNat, Int.reduceLT, Int.reduceLE])
              · have hg := great_does u
                rw [hu1] at hg
                simp only [zero_cells] at dv
                (try simp (implicitDefEqProofs := false) only [go_sem, ↓reduceIte, Nat.reduceEqDiff, reduceCtorEq, Nat.reduceAdd, Nat.reduceSub, Nat.reduceLeDiff, Nat.reduceLT, Nat.reduceMul, Int.reduceToNat, Int.reduceLT, Int.reduceLE, show (W2 != 0) = false from by simpa using zW])
                refine CallK_do dv ?_
                (try simp (implicitDefEqProofs := false) only [go_sem, ↓reduceIte, Nat.reduceEqDiff, reduceCtorEq, Nat.reduceAdd, Nat.reduceSub, Nat.reduceLeDiff, Nat.reduceLT, Nat.reduceMul, Int.reduceToNat, Int.reduceLT, Int.reduceLE, show (u != 0) = true from by simpa using hu0])
                refine CallK_do hg ?_
                (try simp (implicitDefEqProofs := false) only [go_sem, ↓reduceIte, Nat.reduceEqDiff, reduceCtorEq, Nat.reduceAdd, Nat.reduceSub, Nat.reduceLeDiff, Nat.reduceLT, Nat.reduceMul, Int.reduceToNat, Int.reduceLT, Int.reduceLE])
                refine CallK_do w ?_
                (try simp (implicitDefEqProofs := false) only [go_sem, ↓reduceIte, Nat.reduceEqDiff, reduceCtorEq, Nat.reduceAdd, Nat.reduceSub, Nat.reduceLeDiff, Nat.reduceLT, Nat.reduceMul, Int.reduceToNat, Int.reduceLT, Int.reduceLE])
            · (try simp (implicitDefEqProofs := false) only [go_sem, ↓reduceIte, Nat.reduceEqDiff, reduceCtorEq, Nat.reduceAdd, Nat.reduceSub, Nat.reduceLeDiff, Nat.reduceLT, Nat.reduceMul, Int.reduceToNat, Int.reduceLT, Int.reduceLE, show (W2 != 0) = true from by simpa using zW])
              refine CallK_do w ?_
              (try simp (implicitDefEqProofs := false) only [go_sem, ↓reduceIte, Nat.reduceEqDiff, reduceCtorEq, Nat.reduceAdd, Nat.reduceSub, Nat.reduceLeDiff, Nat.reduceLT, Nat.reduceMul, Int.reduceToNat, Int.reduceLT, Int.reduceLE])
      · rw [hu] at tz
        have hg := great_does u
        rw [hu1] at hg
        obtain ⟨k6, ty6, to6, lab6, neg6, ks6⟩ := x1
        obtain ⟨k7, ty7, to7, lab7, neg7, ks7⟩ := y1
        simp only [coV, zero_cells, Cn.cells] at dx dy tz
        refine does6 (by rfl) (by rfl) ?_
        (try simp (implicitDefEqProofs := false) only [go_sem, ↓reduceIte, Nat.reduceEqDiff, reduceCtorEq, Nat.reduceAdd, Nat.reduceSub, Nat.reduceLeDiff, Nat.reduceLT, Nat.reduceMul, Int.reduceToNat, Int.reduceLT, Int.reduceLE])
        refine CallK_do g1 ?_
        (try simp (implicitDefEqProofs := false) only [go_sem, ↓reduceIte, Nat.reduceEqDiff, reduceCtorEq, Nat.reduceAdd, Nat.reduceSub, Nat.reduceLeDiff, Nat.reduceLT, Nat.reduceMul, Int.reduceToNat, Int.reduceLT, Int.reduceLE])
        refine CallK_do g2 ?_
        (try simp (implicitDefEqProofs := false) only [go_sem, ↓reduceIte, Nat.reduceEqDiff, reduceCtorEq, Nat.reduceAdd, Nat.reduceSub, Nat.reduceLeDiff, Nat.reduceLT, Nat.reduceMul, Int.reduceToNat, Int.reduceLT, Int.reduceLE, Bool.not_true])
        refine CallK_do dx ?_
        (try simp (implicitDefEqProofs := false) only [go_sem, ↓reduceIte, Nat.reduceEqDiff, reduceCtorEq, Nat.reduceAdd, Nat.reduceSub, Nat.reduceLeDiff, Nat.reduceLT, Nat.reduceMul, Int.reduceToNat, Int.reduceLT, Int.reduceLE])
        refine CallK_do dy ?_
        (try simp (implicitDefEqProofs := false) only [go_sem, ↓reduceIte, Nat.reduceEqDiff, reduceCtorEq, Nat.reduceAdd, Nat.reduceSub, Nat.reduceLeDiff, Nat.reduceLT, Nat.reduceMul, Int.reduceToNat, Int.reduceLT, Int.reduceLE, show ((0 : Int) != 0) = false from rfl])
        refine CallK_do tz ?_
        (try simp (implicitDefEqProofs := false) only [go_sem, ↓reduceIte, Nat.reduceEqDiff, reduceCtorEq, Nat.reduceAdd, Nat.reduceSub, Nat.reduceLeDiff, Nat.reduceLT, Nat.reduceMul, Int.reduceToNat, Int.reduceLT, Int.reduceLE, show (u != 0) = true from by simpa using hu0])
        refine CallK_do hg ?_
        (try simp (implicitDefEqProofs := false) only [go_sem, ↓reduceIte, Nat.reduceEqDiff, reduceCtorEq, Nat.reduceAdd, Nat.reduceSub, Nat.reduceLeDiff, Nat.reduceLT, Nat.reduceMul, Int.reduceToNat, Int.reduceLT, Int.reduceLE])
        refine CallK_do w ?_
        (try simp (implicitDefEqProofs := false) only [go_sem, ↓reduceIte, Nat.reduceEqDiff, reduceCtorEq, Nat.reduceAdd, Nat.reduceSub, Nat.reduceLeDiff, Nat.reduceLT, Nat.reduceMul, Int.reduceToNat, Int.reduceLT, Int.reduceLE])
    · obtain ⟨k6, ty6, to6, lab6, neg6, ks6⟩ := x1
      obtain ⟨k7, ty7, to7, lab7, neg7, ks7⟩ := y1
      simp only [coV, Cn.cells] at dx dy
      refine does6 (by rfl) (by rfl) ?_
      (try simp (implicitDefEqProofs := false) only [go_sem, ↓reduceIte, Nat.reduceEqDiff, reduceCtorEq, Nat.reduceAdd, Nat.reduceSub, Nat.reduceLeDiff, Nat.reduceLT, Nat.reduceMul, Int.reduceToNat, Int.reduceLT, Int.reduceLE])
      refine CallK_do g1 ?_
      (try simp (implicitDefEqProofs := false) only [go_sem, ↓reduceIte, Nat.reduceEqDiff, reduceCtorEq, Nat.reduceAdd, Nat.reduceSub, Nat.reduceLeDiff, Nat.reduceLT, Nat.reduceMul, Int.reduceToNat, Int.reduceLT, Int.reduceLE])
      refine CallK_do g2 ?_
      (try simp (implicitDefEqProofs := false) only [go_sem, ↓reduceIte, Nat.reduceEqDiff, reduceCtorEq, Nat.reduceAdd, Nat.reduceSub, Nat.reduceLeDiff, Nat.reduceLT, Nat.reduceMul, Int.reduceToNat, Int.reduceLT, Int.reduceLE, Bool.not_true])
      refine CallK_do dx ?_
      (try simp (implicitDefEqProofs := false) only [go_sem, ↓reduceIte, Nat.reduceEqDiff, reduceCtorEq, Nat.reduceAdd, Nat.reduceSub, Nat.reduceLeDiff, Nat.reduceLT, Nat.reduceMul, Int.reduceToNat, Int.reduceLT, Int.reduceLE])
      refine CallK_do dy ?_
      (try simp (implicitDefEqProofs := false) only [go_sem, ↓reduceIte, Nat.reduceEqDiff, reduceCtorEq, Nat.reduceAdd, Nat.reduceSub, Nat.reduceLeDiff, Nat.reduceLT, Nat.reduceMul, Int.reduceToNat, Int.reduceLT, Int.reduceLE, show (x2 != 0) = false from by simpa using zx, show (y2 != 0) = true from by simpa using zy])
      refine CallK_do w ?_
      (try simp (implicitDefEqProofs := false) only [go_sem, ↓reduceIte, Nat.reduceEqDiff, reduceCtorEq, Nat.reduceAdd, Nat.reduceSub, Nat.reduceLeDiff, Nat.reduceLT, Nat.reduceMul, Int.reduceToNat, Int.reduceLT, Int.reduceLE])
  · obtain ⟨k6, ty6, to6, lab6, neg6, ks6⟩ := x1
    obtain ⟨k7, ty7, to7, lab7, neg7, ks7⟩ := y1
    simp only [coV, Cn.cells] at dx dy
    refine does6 (by rfl) (by rfl) ?_
    (try simp (implicitDefEqProofs := false) only [go_sem, ↓reduceIte, Nat.reduceEqDiff, reduceCtorEq, Nat.reduceAdd, Nat.reduceSub, Nat.reduceLeDiff, Nat.reduceLT, Nat.reduceMul, Int.reduceToNat, Int.reduceLT, Int.reduceLE])
    refine CallK_do g1 ?_
    (try simp (implicitDefEqProofs := false) only [go_sem, ↓reduceIte, Nat.reduceEqDiff, reduceCtorEq, Nat.reduceAdd, Nat.reduceSub, Nat.reduceLeDiff, Nat.reduceLT, Nat.reduceMul, Int.reduceToNat, Int.reduceLT, Int.reduceLE])
    refine CallK_do g2 ?_
    (try simp (implicitDefEqProofs := false) only [go_sem, ↓reduceIte, Nat.reduceEqDiff, reduceCtorEq, Nat.reduceAdd, Nat.reduceSub, Nat.reduceLeDiff, Nat.reduceLT, Nat.reduceMul, Int.reduceToNat, Int.reduceLT, Int.reduceLE, Bool.not_true])
    refine CallK_do dx ?_
    (try simp (implicitDefEqProofs := false) only [go_sem, ↓reduceIte, Nat.reduceEqDiff, reduceCtorEq, Nat.reduceAdd, Nat.reduceSub, Nat.reduceLeDiff, Nat.reduceLT, Nat.reduceMul, Int.reduceToNat, Int.reduceLT, Int.reduceLE])
    refine CallK_do dy ?_
    (try simp (implicitDefEqProofs := false) only [go_sem, ↓reduceIte, Nat.reduceEqDiff, reduceCtorEq, Nat.reduceAdd, Nat.reduceSub, Nat.reduceLeDiff, Nat.reduceLT, Nat.reduceMul, Int.reduceToNat, Int.reduceLT, Int.reduceLE, show (x2 != 0) = true from by simpa using zx])
    refine CallK_do w ?_
    (try simp (implicitDefEqProofs := false) only [go_sem, ↓reduceIte, Nat.reduceEqDiff, reduceCtorEq, Nat.reduceAdd, Nat.reduceSub, Nat.reduceLeDiff, Nat.reduceLT, Nat.reduceMul, Int.reduceToNat, Int.reduceLT, Int.reduceLE])
end Go.Proofs.Ytopgmopdjiahmaa.Lg
