/- MADE BY PROGRAM (gen/mk.py): the code of functions, as the logic sees it. Conditions: none; plain definitions and lemmas. -/
import Derived.Test.YtopgmopdjiahmaaDoorMa
import Derived.Test.YtopgmopdjiahmaaDoorProg
set_option linter.unusedVariables false
set_option linter.defProp false
set_option maxRecDepth 100000
namespace Go.Proofs.YtopgmopdjiahmaaDoor.Lg
open Go Go.RowKit Go.Proofs
variable {Q : AEx → St → Prop} {σ : St}

/-! ### 3: lychgate/lychgatelaw15.CoerceKnown -/
def r3_0 : MC := .reg [⟨none, (.mv 0 (.c (.imm true (.bool false))))⟩] none (some ([], []))
def w3_0 := @awpR_no Tryd.prog Q σ r3_0 _ _ ⟨rfl, rfl⟩
def r3_1 : MC := .reg [⟨none, (.build 14 z2 [])⟩, ⟨none, (.build 15 z2 [(0, (1, (.c (.imm true (.int .i8 1)))))])⟩, ⟨none, (.alloc 1 z2)⟩, ⟨none, (.alloc 2 z2)⟩, ⟨none, (.store (.t 1) (.t 14) 2)⟩, ⟨none, (.store (.t 2) (.t 15) 2)⟩] none (some ([1, 2], [1, 2]))
def w3_1 := @awpR_get Tryd.prog Q σ r3_1 _ _ [1, 2] ⟨rfl, rfl⟩
def r3_2 : MC := .reg [⟨none, (.mv 3 (.c (.fn 4 [])))⟩] none (some ([1, 2, 3], [1, 2]))
def w3_2 := @awpR_no Tryd.prog Q σ r3_2 _ _ ⟨rfl, rfl⟩
def r3_3 : MC := .reg [⟨none, (.load 17 (.t 2) (some 2))⟩, ⟨none, (.load 18 (.t 1) (some 2))⟩, ⟨none, (.call (some 19) (.c (.fn 5 [])) [(.t 17), (.t 18), (.c (.imm true (.int .i64 3)))])⟩, ⟨none, (.mv 16 (.t 19))⟩, ⟨none, (.ext 20 (.t 16) 0)⟩, ⟨none, (.ext 21 (.t 16) 1)⟩, ⟨none, (.alloc 4 z8)⟩, ⟨none, (.store (.t 4) (.t 20) 8)⟩, ⟨none, (.mv 5 (.t 21))⟩] none (some ([1, 2, 3, 4, 5], [1, 2, 4]))
def w3_3 := @awpR_get Tryd.prog Q σ r3_3 _ _ [4] ⟨rfl, rfl⟩
def r3_4 : MC := .reg [⟨none, (.mv 23 (.t 3))⟩, ⟨none, (.load 24 (.t 2) (some 2))⟩, ⟨none, (.load 25 (.t 1) (some 2))⟩, ⟨none, (.call (some 26) (.t 23) [(.t 24), (.t 25)])⟩, ⟨none, (.mv 27 (.t 3))⟩, ⟨none, (.load 28 (.t 1) (some 2))⟩, ⟨none, (.build 29 z2 [(0, (1, (.c (.imm true (.int .i8 2)))))])⟩, ⟨none, (.call (some 30) (.t 27) [(.t 28), (.t 29)])⟩, ⟨none, (.call (some 31) (.c (.fn 5 [])) [(.t 26), (.t 30), (.c (.imm true (.int .i64 2)))])⟩, ⟨none, (.mv 22 (.t 31))⟩, ⟨none, (.ext 32 (.t 22) 0)⟩, ⟨none, (.ext 33 (.t 22) 1)⟩, ⟨none, (.alloc 6 z8)⟩, ⟨none, (.store (.t 6) (.t 32) 8)⟩, ⟨none, (.mv 7 (.t 33))⟩] (some [(0, 12), (1, 12), (2, 12), (3, 12), (4, 12), (5, 12), (6, 12), (7, 12), (8, 12), (9, 12), (10, 12), (11, 12), (11, 13)]) (some ([1, 2, 3, 4, 5, 6, 7], [1, 2, 4, 6]))
def w3_4 := @awpD_get Tryd.prog Q σ r3_4 _ _ _ [6] ⟨rfl, rfl⟩
def r3_5 : MC := .reg [⟨none, (.mv 35 (.t 3))⟩, ⟨none, (.load 36 (.t 1) (some 2))⟩, ⟨none, (.load 37 (.t 2) (some 2))⟩, ⟨none, (.call (some 38) (.t 35) [(.t 36), (.t 37)])⟩, ⟨none, (.load 39 (.t 1) (some 2))⟩, ⟨none, (.call (some 40) (.c (.fn 5 [])) [(.t 38), (.t 39), (.c (.imm true (.int .i64 1)))])⟩, ⟨none, (.mv 34 (.t 40))⟩, ⟨none, (.ext 41 (.t 34) 0)⟩, ⟨none, (.ext 42 (.t 34) 1)⟩, ⟨none, (.alloc 8 z8)⟩, ⟨none, (.store (.t 8) (.t 41) 8)⟩, ⟨none, (.mv 9 (.t 42))⟩] (some [(0, 9), (1, 9), (2, 9), (3, 9), (4, 9), (5, 9), (6, 9), (7, 9), (8, 9), (8, 10)]) (some ([1, 2, 4, 5, 6, 7, 8, 9], [1, 2, 4, 6, 8]))
def w3_5 := @awpD_get Tryd.prog Q σ r3_5 _ _ _ [8] ⟨rfl, rfl⟩
def r3_6 : MC := .reg [⟨none, (.load 44 (.t 2) (some 2))⟩, ⟨none, (.build 45 z2 [(0, (1, (.c (.imm true (.int .i8 2)))))])⟩, ⟨none, (.call (some 46) (.c (.fn 5 [])) [(.t 44), (.t 45), (.c (.imm true (.int .i64 1)))])⟩, ⟨none, (.mv 43 (.t 46))⟩, ⟨none, (.ext 47 (.t 43) 0)⟩, ⟨none, (.ext 48 (.t 43) 1)⟩, ⟨none, (.alloc 10 z8)⟩, ⟨none, (.store (.t 10) (.t 47) 8)⟩, ⟨none, (.mv 11 (.t 48))⟩] none (some ([1, 2, 4, 5, 6, 7, 8, 9, 11], [1, 2, 4, 6, 8]))
def w3_6 := @awpR_get Tryd.prog Q σ r3_6 _ _ [10] ⟨rfl, rfl⟩
def r3_7 : MC := .reg [⟨none, (.load 50 (.t 2) (some 2))⟩, ⟨none, (.load 51 (.t 1) (some 2))⟩, ⟨none, (.call (some 52) (.c (.fn 5 [])) [(.t 50), (.t 51), (.c (.imm true (.int .i64 0)))])⟩, ⟨none, (.mv 49 (.t 52))⟩, ⟨none, (.ext 53 (.t 49) 0)⟩, ⟨none, (.ext 54 (.t 49) 1)⟩, ⟨none, (.alloc 12 z8)⟩, ⟨none, (.store (.t 12) (.t 53) 8)⟩, ⟨none, (.mv 13 (.t 54))⟩] none (some ([4, 5, 6, 7, 8, 9, 11, 13], [4, 6, 8]))
def w3_7 := @awpR_get Tryd.prog Q σ r3_7 _ _ [12] ⟨rfl, rfl⟩
def r3_8 : MC := .reg [⟨none, (.mv 55 (.t 5))⟩, ⟨none, (.bin 56 .eql (.t 55) (.c (.imm true (.int .i64 0))))⟩, ⟨none, (.mv 57 (.t 56))⟩, ⟨(some (57, true)), (.mv 58 (.t 7))⟩, ⟨(some (57, true)), (.bin 59 .eql (.t 58) (.c (.imm true (.int .i64 0))))⟩, ⟨none, (.pick 60 (.t 57) (.t 59) (.c (.imm true (.bool false))))⟩, ⟨none, (.mv 61 (.t 60))⟩, ⟨(some (61, true)), (.mv 62 (.t 9))⟩, ⟨(some (61, true)), (.bin 63 .eql (.t 62) (.c (.imm true (.int .i64 0))))⟩, ⟨none, (.pick 64 (.t 61) (.t 63) (.c (.imm true (.bool false))))⟩, ⟨none, (.mv 65 (.t 64))⟩, ⟨(some (65, true)), (.mv 66 (.t 11))⟩, ⟨(some (65, true)), (.bin 67 .eql (.t 66) (.c (.imm true (.int .i64 150))))⟩, ⟨none, (.pick 68 (.t 65) (.t 67) (.c (.imm true (.bool false))))⟩, ⟨none, (.mv 69 (.t 68))⟩, ⟨(some (69, true)), (.mv 70 (.t 13))⟩, ⟨(some (69, true)), (.bin 71 .eql (.t 70) (.c (.imm true (.int .i64 150))))⟩, ⟨none, (.pick 72 (.t 69) (.t 71) (.c (.imm true (.bool false))))⟩, ⟨none, (.mv 73 (.t 72))⟩, ⟨(some (73, true)), (.load 74 (.t 4) (some 8))⟩, ⟨(some (73, true)), (.call (some 75) (.c (.fn 6 [])) [(.t 74)])⟩, ⟨(some (73, true)), (.bin 76 .eql (.t 75) (.c (.imm true (.str ⟨#[105, 100, 32, 123, 32, 105, 110, 116, 32, 125, 32, 59, 32, 123, 32, 105, 110, 116, 32, 125, 32, 33]⟩))))⟩, ⟨none, (.pick 77 (.t 73) (.t 76) (.c (.imm true (.bool false))))⟩, ⟨none, (.mv 78 (.t 77))⟩, ⟨(some (78, true)), (.load 79 (.t 6) (some 8))⟩, ⟨(some (78, true)), (.call (some 80) (.c (.fn 6 [])) [(.t 79)])⟩, ⟨(some (78, true)), (.bin 81 .eql (.t 80) (.c (.imm true (.str ⟨#[40, 32, 123, 32, 105, 110, 116, 32, 125, 32, 63, 32, 45, 50, 32, 59, 32, 105, 100, 32, 123, 32, 105, 110, 116, 32, 125, 32, 45, 62, 32, 123, 32, 98, 111, 111, 108, 32, 125, 32, 63, 32, 50, 32, 59, 32, 105, 100, 32, 123, 32, 98, 111, 111, 108, 32, 125, 32, 41]⟩))))⟩, ⟨none, (.pick 82 (.t 78) (.t 81) (.c (.imm true (.bool false))))⟩, ⟨none, (.mv 83 (.t 82))⟩, ⟨(some (83, true)), (.load 84 (.t 8) (some 8))⟩, ⟨(some (83, true)), (.call (some 85) (.c (.fn 7 [])) [(.t 84)])⟩, ⟨(some (83, true)), (.bin 86 .eql (.t 85) (.c (.imm true (.int .i64 5))))⟩, ⟨none, (.pick 87 (.t 83) (.t 86) (.c (.imm true (.bool false))))⟩, ⟨none, (.mv 88 (.t 87))⟩, ⟨(some (88, true)), (.load 89 (.t 8) (some 8))⟩, ⟨(some (88, true)), (.call (some 90) (.c (.fn 8 [])) [(.t 89)])⟩, ⟨(some (88, true)), (.bin 91 .eql (.t 90) (.c (.imm true (.int .i64 2))))⟩, ⟨none, (.pick 92 (.t 88) (.t 91) (.c (.imm true (.bool false))))⟩, ⟨none, (.mv 0 (.t 92))⟩] none (some ([0], []))
def w3_8 := @awpR_no Tryd.prog Q σ r3_8 _ _ ⟨rfl, rfl⟩
def my3 : MC := (.seq r3_0 (.seq r3_1 (.seq r3_2 (.seq r3_3 (.seq r3_4 (.seq r3_5 (.seq r3_6 (.seq r3_7 (.seq r3_8 .ret)))))))))
theorem my3_is : trC Tryd.prog ⟨[], []⟩ ⟨[(4, [[], [], [], [0, 1, 2], [], [], [], [0, 1, 2, 3, 4, 5, 6], [0, 1, 2, 3, 4, 5, 6, 7], [0, 1, 2, 3, 4, 5, 6, 7, 8], [0, 1, 2, 3, 4, 5, 6, 7, 8, 9], [0, 1, 2, 3, 4, 5, 6, 7, 8, 9], [], [0, 1, 2, 3, 4, 5, 6, 7, 8, 9, 10, 12], [0, 1, 2, 3, 4, 5, 6, 7, 8, 9, 10, 11, 12, 13]], [(0, 12), (1, 12), (2, 12), (3, 12), (4, 12), (5, 12), (6, 12), (7, 12), (8, 12), (9, 12), (10, 12), (11, 12), (11, 13)]), (5, [[], [], [], [0, 1, 2], [], [0, 1, 2, 3, 4], [0, 1, 2, 3, 4, 5], [0, 1, 2, 3, 4, 5, 6], [0, 1, 2, 3, 4, 5, 6], [], [0, 1, 2, 3, 4, 5, 6, 7, 9], [0, 1, 2, 3, 4, 5, 6, 7, 8, 9, 10]], [(0, 9), (1, 9), (2, 9), (3, 9), (4, 9), (5, 9), (6, 9), (7, 9), (8, 9), (8, 10)])],
  [(0, [], []), (1, [1, 2], [1, 2]), (2, [1, 2, 3], [1, 2]), (3, [1, 2, 3, 4, 5], [1, 2, 4]), (4, [1, 2, 3, 4, 5, 6, 7], [1, 2, 4, 6]), (5, [1, 2, 4, 5, 6, 7, 8, 9], [1, 2, 4, 6, 8]), (6, [1, 2, 4, 5, 6, 7, 8, 9, 11], [1, 2, 4, 6, 8]), (7, [4, 5, 6, 7, 8, 9, 11, 13], [4, 6, 8]), (8, [0], [])]⟩ 93 (Tryd.f3.body.getD .skip) = some my3 := by kernel_rfl
theorem does3 {args : List LV} (hl : args.length.ble 93 = true) {S S' : List (List LV)} (hS : S'.length = S.length) {o : Out} (h : Lt ⟨numE 0 args, argS 0 S, []⟩ (awp Tryd.prog my3 (Fin [(.t 0)] o S'))) : Does Tryd.prog 3 args S o S' :=
  does_of_awp mixed Tryd.func3 (by kernel_rfl) (by kernel_rfl) my3_is (by kernel_rfl) (Nat.le_of_ble_eq_true hl) hS h
attribute [go_sem ↓] w3_0 w3_1 w3_2 w3_3 w3_4 w3_5 w3_6 w3_7 w3_8
attribute [go_sem] my3
/-! ### 4: lychgate/lychgatelaw15.CoerceKnown$1 -/
def r4_0 : MC := .reg [⟨none, (.boxc 2 (.t 0))⟩, ⟨none, (.boxc 3 (.t 1))⟩, ⟨none, (.alloc 4 z2)⟩] none (some ([2, 3, 4], [4]))
def w4_0 := @awpR_get Tryd.prog Q σ r4_0 _ _ [4] ⟨rfl, rfl⟩
def r4_1 : MC := .reg [⟨none, (.load 5 (.t 2) (some 2))⟩, ⟨none, (.load 6 (.t 3) (some 2))⟩, ⟨none, (.lit 7 2 [(.t 5), (.t 6)])⟩, ⟨none, (.build 8 z2 [(0, (1, (.c (.imm true (.int .i8 3))))), (1, (1, (.t 7)))])⟩, ⟨none, (.store (.t 4) (.t 8) 2)⟩] none (some ([4], [4]))
def w4_1 := @awpR_no Tryd.prog Q σ r4_1 _ _ ⟨rfl, rfl⟩
def my4 : MC := (.seq r4_0 (.seq r4_1 .ret))
theorem my4_is : trC Tryd.prog ⟨[2, 3], []⟩ ⟨[],
  [(0, [2, 3, 4], [4]), (1, [4], [4])]⟩ 9 (Tryd.f4.body.getD .skip) = some my4 := by kernel_rfl
theorem does4 {args : List LV} (hl : args.length.ble 9 = true) {S S' : List (List LV)} (hS : S'.length = S.length) {o : Out} (h : Lt ⟨numE 0 args, argS 0 S, []⟩ (awp Tryd.prog my4 (Fin [(.c 4 (some 2))] o S'))) : Does Tryd.prog 4 args S o S' :=
  does_of_awp mixed Tryd.func4 (by kernel_rfl) (by kernel_rfl) my4_is (by kernel_rfl) (Nat.le_of_ble_eq_true hl) hS h
attribute [go_sem ↓] w4_0 w4_1
attribute [go_sem] my4
/-! ### 6: lychgate/coerce.Text -/
def r6_0 : MC := .reg [⟨none, (.boxc 1 (.t 0))⟩, ⟨none, (.mv 2 (.c (.imm true (.str ⟨#[]⟩))))⟩] none (some ([1], []))
def w6_0 := @awpR_no Tryd.prog Q σ r6_0 _ _ ⟨rfl, rfl⟩
def r6_1 : MC := .reg [⟨none, (.load 8 (.t 1) (some 8))⟩, ⟨none, (.call (some 9) (.c (.fn 12 [])) [(.t 8)])⟩, ⟨none, (.mv 7 (.t 9))⟩, ⟨none, (.ext 10 (.t 7) 0)⟩, ⟨none, (.ext 11 (.t 7) 1)⟩, ⟨none, (.ext 12 (.t 7) 2)⟩, ⟨none, (.alloc 3 z2)⟩, ⟨none, (.alloc 4 z2)⟩, ⟨none, (.store (.t 3) (.t 10) 2)⟩, ⟨none, (.store (.t 4) (.t 11) 2)⟩, ⟨none, (.mv 5 (.t 12))⟩] none (some ([1, 5], []))
def w6_1 := @awpR_get Tryd.prog Q σ r6_1 _ _ [3, 4] ⟨rfl, rfl⟩
def r6_2 : MC := .reg [⟨none, (.mv 13 (.t 5))⟩, ⟨none, (.bin 14 .neq (.t 13) (.c (.imm true (.int .i64 0))))⟩] none (some ([1, 14], []))
def w6_2 := @awpR_no Tryd.prog Q σ r6_2 _ _ ⟨rfl, rfl⟩
def r6_3 : MC := .reg [⟨none, (.mv 2 (.c (.imm true (.str ⟨#[]⟩))))⟩] none (some ([2], []))
def w6_3 := @awpR_no Tryd.prog Q σ r6_3 _ _ ⟨rfl, rfl⟩
def r6_4 : MC := .reg [⟨none, (.acall 15 (.c (.fn 14 [])) (.c .nils) [(.t 1)])⟩, ⟨none, (.call (some 16) (.c (.fn 13 [])) [(.t 15), (.c (.imm true (.str ⟨#[32]⟩)))])⟩, ⟨none, (.mv 6 (.t 16))⟩] none (some ([6], []))
def w6_4 := @awpR_get Tryd.prog Q σ r6_4 _ _ [15] ⟨rfl, rfl⟩
def r6_5 : MC := .reg [⟨none, (.mv 17 (.t 6))⟩, ⟨none, (.slen 18 (.t 17))⟩, ⟨none, (.bin 19 .gtr (.t 18) (.c (.imm true (.int .i64 65536))))⟩] none (some ([6, 19], []))
def w6_5 := @awpR_no Tryd.prog Q σ r6_5 _ _ ⟨rfl, rfl⟩
def r6_6 : MC := .reg [⟨none, (.mv 2 (.c (.imm true (.str ⟨#[]⟩))))⟩] none (some ([2], []))
def w6_6 := @awpR_no Tryd.prog Q σ r6_6 _ _ ⟨rfl, rfl⟩
def r6_7 : MC := .reg [⟨none, (.mv 20 (.t 6))⟩, ⟨none, (.mv 2 (.t 20))⟩] none (some ([2], []))
def w6_7 := @awpR_no Tryd.prog Q σ r6_7 _ _ ⟨rfl, rfl⟩
def my6 : MC := (.seq r6_0 (.seq (.seq r6_1 (.seq r6_2 (.cond (.t 14) (.seq r6_3 .ret) .skip))) (.seq r6_4 (.seq (.seq r6_5 (.cond (.t 19) (.seq r6_6 .ret) .skip)) (.seq r6_7 .ret)))))
theorem my6_is : trC Tryd.prog ⟨[1], [(15, [])]⟩ ⟨[],
  [(0, [1], []), (1, [1, 5], []), (2, [1, 14], []), (3, [2], []), (4, [6], []), (5, [6, 19], []), (6, [2], []), (7, [2], [])]⟩ 21 (Tryd.f6.body.getD .skip) = some my6 := by kernel_rfl
theorem does6 {args : List LV} (hl : args.length.ble 21 = true) {S S' : List (List LV)} (hS : S'.length = S.length) {o : Out} (h : Lt ⟨numE 0 args, argS 0 S, []⟩ (awp Tryd.prog my6 (Fin [(.t 2)] o S'))) : Does Tryd.prog 6 args S o S' :=
  does_of_awp mixed Tryd.func6 (by kernel_rfl) (by kernel_rfl) my6_is (by kernel_rfl) (Nat.le_of_ble_eq_true hl) hS h
attribute [go_sem ↓] w6_0 w6_1 w6_2 w6_3 w6_4 w6_5 w6_6 w6_7
attribute [go_sem] my6
end Go.Proofs.YtopgmopdjiahmaaDoor.Lg
