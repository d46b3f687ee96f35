/- Texts of one proof, joined by program (gen/tells.py): Md Ta. Conditions: none; plain definitions and lemmas. -/
import Derived.Test.YtopgmopdjiahmaaH4
import Derived.Test.YtopgmopdjiahmaaProg
import Derived.Test.YtopgmopdjiahmaaH9
/- MADE BY PROGRAM (gen/mk.py): the code of functions, as the logic sees it. Conditions: none; plain definitions and lemmas. -/
set_option linter.unusedVariables false
set_option linter.defProp false
set_option maxRecDepth 100000
namespace Go.Proofs.Ytopgmopdjiahmaa.Lg
open Go Go.RowKit Go.Proofs
variable {Q : AEx → St → Prop} {σ : St}

/-! ### 126: lychgate/merge.Ends -/
def r126_0 : MC := .reg [⟨none, (.alloc 2 z2)⟩, ⟨none, (.alloc 3 z2)⟩] none (some ([0, 2, 3], [2, 3]))
def w126_0 := @awpR_get Try.prog Q σ r126_0 _ _ [2, 3] ⟨rfl, rfl⟩
def r126_1 : MC := .reg [⟨none, (.mv 4 (.c (.fn 140 [])))⟩] none (some ([0, 2, 3, 4], [2, 3]))
def w126_1 := @awpR_no Try.prog Q σ r126_1 _ _ ⟨rfl, rfl⟩
def r126_2 : MC := .reg [⟨none, (.mv 9 (.t 0))⟩, ⟨none, (.nilc 10 (.t 9))⟩, ⟨none, (.fad 11 (.t 10) 0)⟩, ⟨none, (.load 12 (.t 11) none)⟩] none (some ([0, 2, 3, 4, 12], [2, 3]))
def w126_2 := @awpR_no Try.prog Q σ r126_2 _ _ ⟨rfl, rfl⟩
def r126_3 : MC := .reg [⟨none, (.bin 14 .eql (.t 12) (.c (.imm true (.int .i8 0))))⟩, ⟨none, (.mv 13 (.t 14))⟩] none (some ([0, 2, 3, 4, 12, 13], [2, 3]))
def w126_3 := @awpR_no Try.prog Q σ r126_3 _ _ ⟨rfl, rfl⟩
def r126_4 : MC := .reg [⟨none, (.mv 15 (.t 0))⟩, ⟨none, (.nilc 16 (.t 15))⟩, ⟨none, (.fad 17 (.t 16) 1)⟩, ⟨none, (.load 18 (.t 17) (some 2))⟩, ⟨none, (.mv 19 (.t 0))⟩, ⟨none, (.nilc 20 (.t 19))⟩, ⟨none, (.fad 21 (.t 20) 1)⟩, ⟨none, (.load 22 (.t 21) (some 2))⟩, ⟨none, (.store (.t 2) (.t 18) 2)⟩, ⟨none, (.store (.t 3) (.t 22) 2)⟩] (some [(4, 8), (5, 8), (6, 8), (7, 8)]) (some ([2, 3], [2, 3]))
def w126_4 := @awpD_no Try.prog Q σ r126_4 _ _ _ ⟨rfl, rfl⟩
def r126_5 : MC := .reg [⟨none, (.bin 24 .eql (.t 12) (.c (.imm true (.int .i8 1))))⟩, ⟨none, (.mv 23 (.t 24))⟩] none (some ([0, 2, 3, 4, 12, 23], [2, 3]))
def w126_5 := @awpR_no Try.prog Q σ r126_5 _ _ ⟨rfl, rfl⟩
def r126_6 : MC := .reg [⟨none, (.mv 25 (.t 0))⟩, ⟨none, (.nilc 26 (.t 25))⟩, ⟨none, (.fad 27 (.t 26) 1)⟩, ⟨none, (.load 28 (.t 27) (some 2))⟩, ⟨none, (.mv 29 (.t 0))⟩, ⟨none, (.nilc 30 (.t 29))⟩, ⟨none, (.fad 31 (.t 30) 3)⟩, ⟨none, (.load 32 (.t 31) (some 2))⟩, ⟨none, (.store (.t 2) (.t 28) 2)⟩, ⟨none, (.store (.t 3) (.t 32) 2)⟩] (some [(4, 8), (5, 8), (6, 8), (7, 8)]) (some ([2, 3], [2, 3]))
def w126_6 := @awpD_no Try.prog Q σ r126_6 _ _ _ ⟨rfl, rfl⟩
def r126_7 : MC := .reg [⟨none, (.bin 34 .eql (.t 12) (.c (.imm true (.int .i8 2))))⟩, ⟨none, (.mv 33 (.t 34))⟩] none (some ([0, 2, 3, 4, 12, 33], [2, 3]))
def w126_7 := @awpR_no Try.prog Q σ r126_7 _ _ ⟨rfl, rfl⟩
def r126_8 : MC := .reg [⟨none, (.mv 35 (.t 0))⟩, ⟨none, (.nilc 36 (.t 35))⟩, ⟨none, (.fad 37 (.t 36) 1)⟩, ⟨none, (.load 38 (.t 37) (some 2))⟩, ⟨none, (.build 39 z2 [])⟩, ⟨none, (.store (.t 2) (.t 38) 2)⟩, ⟨none, (.store (.t 3) (.t 39) 2)⟩] none (some ([2, 3], [2, 3]))
def w126_8 := @awpR_no Try.prog Q σ r126_8 _ _ ⟨rfl, rfl⟩
def r126_9 : MC := .reg [⟨none, (.bin 41 .eql (.t 12) (.c (.imm true (.int .i8 3))))⟩, ⟨none, (.mv 40 (.t 41))⟩] none (some ([0, 2, 3, 4, 40], [2, 3]))
def w126_9 := @awpR_no Try.prog Q σ r126_9 _ _ ⟨rfl, rfl⟩
def r126_10 : MC := .reg [⟨none, (.build 42 z2 [])⟩, ⟨none, (.mv 43 (.t 0))⟩, ⟨none, (.nilc 44 (.t 43))⟩, ⟨none, (.fad 45 (.t 44) 1)⟩, ⟨none, (.load 46 (.t 45) (some 2))⟩, ⟨none, (.store (.t 2) (.t 42) 2)⟩, ⟨none, (.store (.t 3) (.t 46) 2)⟩] (some [(1, 5), (2, 5), (3, 5), (4, 5)]) (some ([2, 3], [2, 3]))
def w126_10 := @awpD_no Try.prog Q σ r126_10 _ _ _ ⟨rfl, rfl⟩
def r126_11 : MC := .reg [⟨none, (.mv 48 (.t 0))⟩, ⟨none, (.nilc 49 (.t 48))⟩, ⟨none, (.fad 50 (.t 49) 7)⟩, ⟨none, (.load 51 (.t 50) none)⟩, ⟨none, (.iad 52 (.t 51) (.c (.imm true (.int .i64 0))) 8)⟩, ⟨none, (.call (some 53) (.c (.fn 126 [])) [(.t 52)])⟩, ⟨none, (.mv 47 (.t 53))⟩, ⟨none, (.ext 54 (.t 47) 0)⟩, ⟨none, (.ext 55 (.t 47) 1)⟩, ⟨none, (.alloc 5 z2)⟩, ⟨none, (.alloc 6 z2)⟩, ⟨none, (.store (.t 5) (.t 54) 2)⟩, ⟨none, (.store (.t 6) (.t 55) 2)⟩] none (some ([0, 2, 3, 4, 5, 6], [2, 3, 5, 6]))
def w126_11 := @awpR_get Try.prog Q σ r126_11 _ _ [5, 6] ⟨rfl, rfl⟩
def r126_12 : MC := .reg [⟨none, (.mv 57 (.t 0))⟩, ⟨none, (.nilc 58 (.t 57))⟩, ⟨none, (.fad 59 (.t 58) 7)⟩, ⟨none, (.load 60 (.t 59) none)⟩, ⟨none, (.iad 61 (.t 60) (.c (.imm true (.int .i64 1))) 8)⟩, ⟨none, (.call (some 62) (.c (.fn 126 [])) [(.t 61)])⟩, ⟨none, (.mv 56 (.t 62))⟩, ⟨none, (.ext 63 (.t 56) 0)⟩, ⟨none, (.ext 64 (.t 56) 1)⟩, ⟨none, (.alloc 7 z2)⟩, ⟨none, (.alloc 8 z2)⟩, ⟨none, (.store (.t 7) (.t 63) 2)⟩, ⟨none, (.store (.t 8) (.t 64) 2)⟩] none (some ([0, 2, 3, 4, 5, 6, 7, 8], [2, 3, 5, 6, 7, 8]))
def w126_12 := @awpR_get Try.prog Q σ r126_12 _ _ [7, 8] ⟨rfl, rfl⟩
def r126_13 : MC := .reg [⟨none, (.mv 65 (.t 0))⟩, ⟨none, (.nilc 66 (.t 65))⟩, ⟨none, (.fad 67 (.t 66) 0)⟩, ⟨none, (.load 68 (.t 67) none)⟩] none (some ([2, 3, 4, 5, 6, 7, 8, 68], [2, 3, 5, 6, 7, 8]))
def w126_13 := @awpR_no Try.prog Q σ r126_13 _ _ ⟨rfl, rfl⟩
def r126_14 : MC := .reg [⟨none, (.bin 70 .eql (.t 68) (.c (.imm true (.int .i8 4))))⟩, ⟨none, (.mv 69 (.t 70))⟩] none (some ([2, 3, 4, 5, 6, 7, 8, 68, 69], [2, 3, 5, 6, 7, 8]))
def w126_14 := @awpR_no Try.prog Q σ r126_14 _ _ ⟨rfl, rfl⟩
def r126_15 : MC := .reg [⟨none, (.mv 71 (.t 4))⟩, ⟨none, (.load 72 (.t 6) (some 2))⟩, ⟨none, (.load 73 (.t 7) (some 2))⟩, ⟨none, (.call (some 74) (.t 71) [(.c (.imm true (.int .i8 3))), (.t 72), (.t 73)])⟩, ⟨none, (.mv 75 (.t 4))⟩, ⟨none, (.load 76 (.t 5) (some 2))⟩, ⟨none, (.load 77 (.t 8) (some 2))⟩, ⟨none, (.call (some 78) (.t 75) [(.c (.imm true (.int .i8 3))), (.t 76), (.t 77)])⟩, ⟨none, (.store (.t 2) (.t 74) 2)⟩, ⟨none, (.store (.t 3) (.t 78) 2)⟩] (some []) (some ([2, 3], [2, 3]))
def w126_15 := @awpD_no Try.prog Q σ r126_15 _ _ _ ⟨rfl, rfl⟩
def r126_16 : MC := .reg [⟨none, (.bin 80 .eql (.t 68) (.c (.imm true (.int .i8 5))))⟩, ⟨none, (.mv 79 (.t 80))⟩] none (some ([2, 3, 4, 5, 6, 7, 8, 68, 79], [2, 3, 5, 6, 7, 8]))
def w126_16 := @awpR_no Try.prog Q σ r126_16 _ _ ⟨rfl, rfl⟩
def r126_17 : MC := .reg [⟨none, (.mv 81 (.t 4))⟩, ⟨none, (.load 82 (.t 5) (some 2))⟩, ⟨none, (.load 83 (.t 7) (some 2))⟩, ⟨none, (.call (some 84) (.t 81) [(.c (.imm true (.int .i8 4))), (.t 82), (.t 83)])⟩, ⟨none, (.mv 85 (.t 4))⟩, ⟨none, (.load 86 (.t 6) (some 2))⟩, ⟨none, (.load 87 (.t 8) (some 2))⟩, ⟨none, (.call (some 88) (.t 85) [(.c (.imm true (.int .i8 4))), (.t 86), (.t 87)])⟩, ⟨none, (.store (.t 2) (.t 84) 2)⟩, ⟨none, (.store (.t 3) (.t 88) 2)⟩] (some []) (some ([2, 3], [2, 3]))
def w126_17 := @awpD_no Try.prog Q σ r126_17 _ _ _ ⟨rfl, rfl⟩
def r126_18 : MC := .reg [⟨none, (.bin 90 .eql (.t 68) (.c (.imm true (.int .i8 6))))⟩, ⟨none, (.mv 89 (.t 90))⟩] none (some ([2, 3, 4, 5, 6, 7, 8, 89], [2, 3, 5, 6, 7, 8]))
def w126_18 := @awpR_no Try.prog Q σ r126_18 _ _ ⟨rfl, rfl⟩
def r126_19 : MC := .reg [⟨none, (.mv 91 (.t 4))⟩, ⟨none, (.load 92 (.t 5) (some 2))⟩, ⟨none, (.load 93 (.t 7) (some 2))⟩, ⟨none, (.call (some 94) (.t 91) [(.c (.imm true (.int .i8 5))), (.t 92), (.t 93)])⟩, ⟨none, (.mv 95 (.t 4))⟩, ⟨none, (.load 96 (.t 6) (some 2))⟩, ⟨none, (.load 97 (.t 8) (some 2))⟩, ⟨none, (.call (some 98) (.t 95) [(.c (.imm true (.int .i8 5))), (.t 96), (.t 97)])⟩, ⟨none, (.store (.t 2) (.t 94) 2)⟩, ⟨none, (.store (.t 3) (.t 98) 2)⟩] (some []) (some ([2, 3], [2, 3]))
def w126_19 := @awpD_no Try.prog Q σ r126_19 _ _ _ ⟨rfl, rfl⟩
def r126_20 : MC := .reg [⟨none, (.load 99 (.t 5) (some 2))⟩, ⟨none, (.load 100 (.t 8) (some 2))⟩, ⟨none, (.store (.t 2) (.t 99) 2)⟩, ⟨none, (.store (.t 3) (.t 100) 2)⟩] (some [(1, 2)]) (some ([2, 3], [2, 3]))
def w126_20 := @awpD_no Try.prog Q σ r126_20 _ _ _ ⟨rfl, rfl⟩
def my126 : MC := (.seq r126_0 (.seq r126_1 (.seq (.seq r126_2 (.block 0 (.seq r126_3 (.cond (.t 13) (.seq r126_4 .ret) (.seq r126_5 (.cond (.t 23) (.seq r126_6 .ret) (.seq r126_7 (.cond (.t 33) (.seq r126_8 .ret) (.seq r126_9 (.cond (.t 40) (.seq r126_10 .ret) .skip)))))))))) (.seq r126_11 (.seq r126_12 (.seq (.seq r126_13 (.block 1 (.seq r126_14 (.cond (.t 69) (.seq r126_15 .ret) (.seq r126_16 (.cond (.t 79) (.seq r126_17 .ret) (.seq r126_18 (.cond (.t 89) (.seq r126_19 .ret) .skip)))))))) (.seq r126_20 .ret)))))))
theorem my126_is : trC Try.prog ⟨[], []⟩ ⟨[(4, [[], [0], [0, 1], [0, 1, 2], [], [4], [4, 5], [4, 5, 6], [0, 1, 2, 3], [0, 1, 2, 3, 4, 5, 6, 7, 8]], [(4, 8), (5, 8), (6, 8), (7, 8)]), (6, [[], [0], [0, 1], [0, 1, 2], [], [4], [4, 5], [4, 5, 6], [0, 1, 2, 3], [0, 1, 2, 3, 4, 5, 6, 7, 8]], [(4, 8), (5, 8), (6, 8), (7, 8)]), (10, [[], [], [1], [1, 2], [1, 2, 3], [0], [0, 1, 2, 3, 4, 5]], [(1, 5), (2, 5), (3, 5), (4, 5)]), (15, [[], [], [], [0, 1, 2], [], [], [], [0, 1, 2, 3, 4, 5, 6], [0, 1, 2, 3, 4, 5, 6, 7], [0, 1, 2, 3, 4, 5, 6, 7, 8]], []), (17, [[], [], [], [0, 1, 2], [], [], [], [0, 1, 2, 3, 4, 5, 6], [0, 1, 2, 3, 4, 5, 6, 7], [0, 1, 2, 3, 4, 5, 6, 7, 8]], []), (19, [[], [], [], [0, 1, 2], [], [], [], [0, 1, 2, 3, 4, 5, 6], [0, 1, 2, 3, 4, 5, 6, 7], [0, 1, 2, 3, 4, 5, 6, 7, 8]], []), (20, [[], [], [0], [0, 1, 2]], [(1, 2)])],
  [(0, [0, 2, 3], [2, 3]), (1, [0, 2, 3, 4], [2, 3]), (2, [0, 2, 3, 4, 12], [2, 3]), (3, [0, 2, 3, 4, 12, 13], [2, 3]), (4, [2, 3], [2, 3]), (5, [0, 2, 3, 4, 12, 23], [2, 3]), (6, [2, 3], [2, 3]), (7, [0, 2, 3, 4, 12, 33], [2, 3]), (8, [2, 3], [2, 3]), (9, [0, 2, 3, 4, 40], [2, 3]), (10, [2, 3], [2, 3]), (11, [0, 2, 3, 4, 5, 6], [2, 3, 5, 6]), (12, [0, 2, 3, 4, 5, 6, 7, 8], [2, 3, 5, 6, 7, 8]), (13, [2, 3, 4, 5, 6, 7, 8, 68], [2, 3, 5, 6, 7, 8]), (14, [2, 3, 4, 5, 6, 7, 8, 68, 69], [2, 3, 5, 6, 7, 8]), (15, [2, 3], [2, 3]), (16, [2, 3, 4, 5, 6, 7, 8, 68, 79], [2, 3, 5, 6, 7, 8]), (17, [2, 3], [2, 3]), (18, [2, 3, 4, 5, 6, 7, 8, 89], [2, 3, 5, 6, 7, 8]), (19, [2, 3], [2, 3]), (20, [2, 3], [2, 3])]⟩ 101 (Try.f126.body.getD .skip) = some my126 := by kernel_rfl
theorem does126 {args : List LV} (hl : args.length.ble 101 = true) {S S' : List (List LV)} (hS : S'.length = S.length) {o : Out} (h : Lt ⟨numE 0 args, argS 0 S, []⟩ (awp Try.prog my126 (Fin [(.c 2 (some 2)), (.c 3 (some 2))] o S'))) : Does Try.prog 126 args S o S' :=
  does_of_awp mixed Try.func126 (by kernel_rfl) (by kernel_rfl) my126_is (by kernel_rfl) (Nat.le_of_ble_eq_true hl) hS h
attribute [go_sem ↓] w126_0 w126_1 w126_2 w126_3 w126_4 w126_5 w126_6 w126_7 w126_8 w126_9 w126_10 w126_11 w126_12 w126_13 w126_14 w126_15 w126_16 w126_17 w126_18 w126_19 w126_20
attribute [go_sem] my126
/-! ### 140: lychgate/merge.Ends$1 -/
def r140_0 : MC := .reg [⟨none, (.boxc 4 (.t 1))⟩, ⟨none, (.boxc 5 (.t 2))⟩, ⟨none, (.alloc 6 z2)⟩] none (some ([0, 4, 5, 6], [6]))
def w140_0 := @awpR_get Try.prog Q σ r140_0 _ _ [6] ⟨rfl, rfl⟩
def r140_1 : MC := .reg [⟨none, (.mv 7 (.t 0))⟩, ⟨none, (.load 8 (.t 4) (some 2))⟩, ⟨none, (.load 9 (.t 5) (some 2))⟩, ⟨none, (.lit 10 2 [(.t 8), (.t 9)])⟩, ⟨none, (.build 11 z2 [(0, (1, (.t 7))), (1, (1, (.t 10)))])⟩, ⟨none, (.store (.t 6) (.t 11) 2)⟩] none (some ([6], [6]))
def w140_1 := @awpR_no Try.prog Q σ r140_1 _ _ ⟨rfl, rfl⟩
def my140 : MC := (.seq r140_0 (.seq r140_1 .ret))
theorem my140_is : trC Try.prog ⟨[4, 5], []⟩ ⟨[],
  [(0, [0, 4, 5, 6], [6]), (1, [6], [6])]⟩ 12 (Try.f140.body.getD .skip) = some my140 := by kernel_rfl
theorem does140 {args : List LV} (hl : args.length.ble 12 = true) {S S' : List (List LV)} (hS : S'.length = S.length) {o : Out} (h : Lt ⟨numE 0 args, argS 0 S, []⟩ (awp Try.prog my140 (Fin [(.c 6 (some 2))] o S'))) : Does Try.prog 140 args S o S' :=
  does_of_awp mixed Try.func140 (by kernel_rfl) (by kernel_rfl) my140_is (by kernel_rfl) (Nat.le_of_ble_eq_true hl) hS h
attribute [go_sem ↓] w140_0 w140_1
attribute [go_sem] my140
/-! ### 99: lychgate/merge.unknown -/
def r99_0 : MC := .reg [⟨none, (.mv 2 (.c (.imm true (.bool false))))⟩] none (some ([0], []))
def w99_0 := @awpR_no Try.prog Q σ r99_0 _ _ ⟨rfl, rfl⟩
def r99_1 : MC := .reg [⟨none, (.mv 3 (.t 0))⟩, ⟨none, (.nilc 4 (.t 3))⟩, ⟨none, (.fad 5 (.t 4) 0)⟩, ⟨none, (.load 6 (.t 5) none)⟩, ⟨none, (.bin 7 .eql (.t 6) (.c (.imm true (.int .i8 0))))⟩, ⟨none, (.mv 8 (.t 7))⟩, ⟨(some (8, true)), (.mv 9 (.t 0))⟩, ⟨(some (8, true)), (.nilc 10 (.t 9))⟩, ⟨(some (8, true)), (.fad 11 (.t 10) 1)⟩, ⟨(some (8, true)), (.fad 12 (.t 11) 0)⟩, ⟨(some (8, true)), (.load 13 (.t 12) none)⟩, ⟨(some (8, true)), (.bin 14 .eql (.t 13) (.c (.imm true (.int .i8 0))))⟩, ⟨none, (.pick 15 (.t 8) (.t 14) (.c (.imm true (.bool false))))⟩, ⟨none, (.mv 2 (.t 15))⟩] none (some ([2], []))
def w99_1 := @awpR_no Try.prog Q σ r99_1 _ _ ⟨rfl, rfl⟩
def my99 : MC := (.seq r99_0 (.seq r99_1 .ret))
theorem my99_is : trC Try.prog ⟨[], []⟩ ⟨[],
  [(0, [0], []), (1, [2], [])]⟩ 16 (Try.f99.body.getD .skip) = some my99 := by kernel_rfl
theorem does99 {args : List LV} (hl : args.length.ble 16 = true) {S S' : List (List LV)} (hS : S'.length = S.length) {o : Out} (h : Lt ⟨numE 0 args, argS 0 S, []⟩ (awp Try.prog my99 (Fin [(.t 2)] o S'))) : Does Try.prog 99 args S o S' :=
  does_of_awp mixed Try.func99 (by kernel_rfl) (by kernel_rfl) my99_is (by kernel_rfl) (Nat.le_of_ble_eq_true hl) hS h
attribute [go_sem ↓] w99_0 w99_1
attribute [go_sem] my99
/-! ### 100: lychgate/merge.out -/
def r100_0 : MC := .reg [⟨none, (.mv 2 (.c (.imm true (.bool false))))⟩] none (some ([0], []))
def w100_0 := @awpR_no Try.prog Q σ r100_0 _ _ ⟨rfl, rfl⟩
def r100_1 : MC := .reg [⟨none, (.mv 3 (.t 0))⟩, ⟨none, (.nilc 4 (.t 3))⟩, ⟨none, (.fad 5 (.t 4) 0)⟩, ⟨none, (.load 6 (.t 5) none)⟩, ⟨none, (.bin 7 .eql (.t 6) (.c (.imm true (.int .i8 7))))⟩, ⟨none, (.mv 8 (.t 7))⟩, ⟨(some (8, true)), (.mv 9 (.t 0))⟩, ⟨(some (8, true)), (.nilc 10 (.t 9))⟩, ⟨(some (8, true)), (.fad 11 (.t 10) 7)⟩, ⟨(some (8, true)), (.load 12 (.t 11) none)⟩, ⟨(some (8, true)), (.iad 13 (.t 12) (.c (.imm true (.int .i64 0))) 8)⟩, ⟨(some (8, true)), (.fad 14 (.t 13) 0)⟩, ⟨(some (8, true)), (.load 15 (.t 14) none)⟩, ⟨(some (8, true)), (.bin 16 .eql (.t 15) (.c (.imm true (.int .i8 3))))⟩, ⟨none, (.pick 17 (.t 8) (.t 16) (.c (.imm true (.bool false))))⟩, ⟨none, (.mv 2 (.t 17))⟩] none (some ([2], []))
def w100_1 := @awpR_no Try.prog Q σ r100_1 _ _ ⟨rfl, rfl⟩
def my100 : MC := (.seq r100_0 (.seq r100_1 .ret))
theorem my100_is : trC Try.prog ⟨[], []⟩ ⟨[],
  [(0, [0], []), (1, [2], [])]⟩ 18 (Try.f100.body.getD .skip) = some my100 := by kernel_rfl
theorem does100 {args : List LV} (hl : args.length.ble 18 = true) {S S' : List (List LV)} (hS : S'.length = S.length) {o : Out} (h : Lt ⟨numE 0 args, argS 0 S, []⟩ (awp Try.prog my100 (Fin [(.t 2)] o S'))) : Does Try.prog 100 args S o S' :=
  does_of_awp mixed Try.func100 (by kernel_rfl) (by kernel_rfl) my100_is (by kernel_rfl) (Nat.le_of_ble_eq_true hl) hS h
attribute [go_sem ↓] w100_0 w100_1
attribute [go_sem] my100
/-! ### 101: lychgate/merge.seq -/
def r101_0 : MC := .reg [⟨none, (.boxc 2 (.t 0))⟩, ⟨none, (.boxc 3 (.t 1))⟩, ⟨none, (.mv 4 (.c (.imm true .nilp)))⟩] none (some ([2, 3], []))
def w101_0 := @awpR_no Try.prog Q σ r101_0 _ _ ⟨rfl, rfl⟩
def r101_1 : MC := .reg [⟨none, (.load 5 (.t 2) (some 8))⟩, ⟨none, (.load 6 (.t 3) (some 8))⟩, ⟨none, (.lit 7 8 [(.t 5), (.t 6)])⟩, ⟨none, (.build 8 z8 [(0, (1, (.c (.imm true (.int .i8 7))))), (7, (1, (.t 7)))])⟩, ⟨none, (.boxc 9 (.t 8))⟩, ⟨none, (.mv 4 (.t 9))⟩] none (some ([4], []))
def w101_1 := @awpR_no Try.prog Q σ r101_1 _ _ ⟨rfl, rfl⟩
def my101 : MC := (.seq r101_0 (.seq r101_1 .ret))
theorem my101_is : trC Try.prog ⟨[2, 3, 9], []⟩ ⟨[],
  [(0, [2, 3], []), (1, [4], [])]⟩ 10 (Try.f101.body.getD .skip) = some my101 := by kernel_rfl
theorem does101 {args : List LV} (hl : args.length.ble 10 = true) {S S' : List (List LV)} (hS : S'.length = S.length) {o : Out} (h : Lt ⟨numE 0 args, argS 0 S, []⟩ (awp Try.prog my101 (Fin [(.t 4)] o S'))) : Does Try.prog 101 args S o S' :=
  does_of_awp mixed Try.func101 (by kernel_rfl) (by kernel_rfl) my101_is (by kernel_rfl) (Nat.le_of_ble_eq_true hl) hS h
attribute [go_sem ↓] w101_0 w101_1
attribute [go_sem] my101
/-! ### 102: lychgate/merge.fail -/
def r102_0 : MC := .reg [⟨none, (.mv 6 (.c (.imm true .nilp)))⟩] none (some ([0, 1, 2], []))
def w102_0 := @awpR_no Try.prog Q σ r102_0 _ _ ⟨rfl, rfl⟩
def r102_1 : MC := .reg [⟨none, (.mv 12 (.t 0))⟩, ⟨none, (.call (some 13) (.c (.fn 126 [])) [(.t 12)])⟩, ⟨none, (.mv 11 (.t 13))⟩, ⟨none, (.ext 14 (.t 11) 0)⟩, ⟨none, (.ext 15 (.t 11) 1)⟩, ⟨none, (.alloc 7 z2)⟩, ⟨none, (.alloc 8 z2)⟩, ⟨none, (.store (.t 7) (.t 14) 2)⟩, ⟨none, (.store (.t 8) (.t 15) 2)⟩] none (some ([1, 2, 7], [7]))
def w102_1 := @awpR_get Try.prog Q σ r102_1 _ _ [7, 8] ⟨rfl, rfl⟩
def r102_2 : MC := .reg [⟨none, (.mv 17 (.t 1))⟩, ⟨none, (.call (some 18) (.c (.fn 126 [])) [(.t 17)])⟩, ⟨none, (.mv 16 (.t 18))⟩, ⟨none, (.ext 19 (.t 16) 0)⟩, ⟨none, (.ext 20 (.t 16) 1)⟩, ⟨none, (.alloc 9 z2)⟩, ⟨none, (.alloc 10 z2)⟩, ⟨none, (.store (.t 9) (.t 19) 2)⟩, ⟨none, (.store (.t 10) (.t 20) 2)⟩] none (some ([2, 7, 10], [7, 10]))
def w102_2 := @awpR_get Try.prog Q σ r102_2 _ _ [9, 10] ⟨rfl, rfl⟩
def r102_3 : MC := .reg [⟨none, (.load 21 (.t 7) (some 2))⟩, ⟨none, (.load 22 (.t 10) (some 2))⟩, ⟨none, (.mv 23 (.t 2))⟩, ⟨none, (.nilc 24 (.t 23))⟩, ⟨none, (.fad 25 (.t 24) 5)⟩, ⟨none, (.load 26 (.t 25) none)⟩, ⟨none, (.mv 27 (.t 2))⟩, ⟨none, (.nilc 28 (.t 27))⟩, ⟨none, (.fad 29 (.t 28) 6)⟩, ⟨none, (.load 30 (.t 29) none)⟩, ⟨none, (.build 31 z8 [(0, (1, (.c (.imm true (.int .i8 1))))), (1, (2, (.t 21))), (3, (2, (.t 22))), (5, (1, (.t 26))), (6, (1, (.t 30)))])⟩, ⟨none, (.boxc 32 (.t 31))⟩, ⟨none, (.mv 6 (.t 32))⟩] (some []) (some ([6], []))
def w102_3 := @awpD_no Try.prog Q σ r102_3 _ _ _ ⟨rfl, rfl⟩
def my102 : MC := (.seq r102_0 (.seq r102_1 (.seq r102_2 (.seq r102_3 .ret))))
theorem my102_is : trC Try.prog ⟨[32], []⟩ ⟨[(3, [[], [], [], [2], [2, 3], [2, 3, 4], [], [6], [6, 7], [6, 7, 8], [0, 1, 2, 3, 4, 5, 6, 7, 8, 9], [0, 1, 2, 3, 4, 5, 6, 7, 8, 9, 10], [0, 1, 2, 3, 4, 5, 6, 7, 8, 9, 10, 11]], [])],
  [(0, [0, 1, 2], []), (1, [1, 2, 7], [7]), (2, [2, 7, 10], [7, 10]), (3, [6], [])]⟩ 33 (Try.f102.body.getD .skip) = some my102 := by kernel_rfl
theorem does102 {args : List LV} (hl : args.length.ble 33 = true) {S S' : List (List LV)} (hS : S'.length = S.length) {o : Out} (h : Lt ⟨numE 0 args, argS 0 S, []⟩ (awp Try.prog my102 (Fin [(.t 6)] o S'))) : Does Try.prog 102 args S o S' :=
  does_of_awp mixed Try.func102 (by kernel_rfl) (by kernel_rfl) my102_is (by kernel_rfl) (Nat.le_of_ble_eq_true hl) hS h
attribute [go_sem ↓] w102_0 w102_1 w102_2 w102_3
attribute [go_sem] my102
/-! ### 103: lychgate/merge.in -/
def r103_0 : MC := .reg [⟨none, (.mv 2 (.c (.imm true (.bool false))))⟩] none (some ([0], []))
def w103_0 := @awpR_no Try.prog Q σ r103_0 _ _ ⟨rfl, rfl⟩
def r103_1 : MC := .reg [⟨none, (.mv 3 (.t 0))⟩, ⟨none, (.nilc 4 (.t 3))⟩, ⟨none, (.fad 5 (.t 4) 0)⟩, ⟨none, (.load 6 (.t 5) none)⟩, ⟨none, (.bin 7 .eql (.t 6) (.c (.imm true (.int .i8 7))))⟩, ⟨none, (.mv 8 (.t 7))⟩, ⟨(some (8, true)), (.mv 9 (.t 0))⟩, ⟨(some (8, true)), (.nilc 10 (.t 9))⟩, ⟨(some (8, true)), (.fad 11 (.t 10) 7)⟩, ⟨(some (8, true)), (.load 12 (.t 11) none)⟩, ⟨(some (8, true)), (.iad 13 (.t 12) (.c (.imm true (.int .i64 1))) 8)⟩, ⟨(some (8, true)), (.fad 14 (.t 13) 0)⟩, ⟨(some (8, true)), (.load 15 (.t 14) none)⟩, ⟨(some (8, true)), (.bin 16 .eql (.t 15) (.c (.imm true (.int .i8 2))))⟩, ⟨none, (.pick 17 (.t 8) (.t 16) (.c (.imm true (.bool false))))⟩, ⟨none, (.mv 2 (.t 17))⟩] none (some ([2], []))
def w103_1 := @awpR_no Try.prog Q σ r103_1 _ _ ⟨rfl, rfl⟩
def my103 : MC := (.seq r103_0 (.seq r103_1 .ret))
theorem my103_is : trC Try.prog ⟨[], []⟩ ⟨[],
  [(0, [0], []), (1, [2], [])]⟩ 18 (Try.f103.body.getD .skip) = some my103 := by kernel_rfl
theorem does103 {args : List LV} (hl : args.length.ble 18 = true) {S S' : List (List LV)} (hS : S'.length = S.length) {o : Out} (h : Lt ⟨numE 0 args, argS 0 S, []⟩ (awp Try.prog my103 (Fin [(.t 2)] o S'))) : Does Try.prog 103 args S o S' :=
  does_of_awp mixed Try.func103 (by kernel_rfl) (by kernel_rfl) my103_is (by kernel_rfl) (Nat.le_of_ble_eq_true hl) hS h
attribute [go_sem ↓] w103_0 w103_1
attribute [go_sem] my103
/-! ### 104: lychgate/merge.same -/
def r104_0 : MC := .reg [⟨none, (.mv 4 (.c (.imm true (.bool false))))⟩] none (some ([0, 1], []))
def w104_0 := @awpR_no Try.prog Q σ r104_0 _ _ ⟨rfl, rfl⟩
def r104_1 : MC := .reg [⟨none, (.mv 5 (.t 0))⟩, ⟨none, (.nilc 6 (.t 5))⟩, ⟨none, (.fad 7 (.t 6) 0)⟩, ⟨none, (.load 8 (.t 7) none)⟩, ⟨none, (.mv 9 (.t 1))⟩, ⟨none, (.nilc 10 (.t 9))⟩, ⟨none, (.fad 11 (.t 10) 0)⟩, ⟨none, (.load 12 (.t 11) none)⟩, ⟨none, (.bin 13 .eql (.t 8) (.t 12))⟩, ⟨none, (.mv 4 (.t 13))⟩] (some []) (some ([4], []))
def w104_1 := @awpD_no Try.prog Q σ r104_1 _ _ _ ⟨rfl, rfl⟩
def my104 : MC := (.seq r104_0 (.seq r104_1 .ret))
theorem my104_is : trC Try.prog ⟨[], []⟩ ⟨[(1, [[], [0], [0, 1], [0, 1, 2], [], [4], [4, 5], [4, 5, 6], [0, 1, 2, 3, 4, 5, 6, 7], [0, 1, 2, 3, 4, 5, 6, 7, 8]], [])],
  [(0, [0, 1], []), (1, [4], [])]⟩ 14 (Try.f104.body.getD .skip) = some my104 := by kernel_rfl
theorem does104 {args : List LV} (hl : args.length.ble 14 = true) {S S' : List (List LV)} (hS : S'.length = S.length) {o : Out} (h : Lt ⟨numE 0 args, argS 0 S, []⟩ (awp Try.prog my104 (Fin [(.t 4)] o S'))) : Does Try.prog 104 args S o S' :=
  does_of_awp mixed Try.func104 (by kernel_rfl) (by kernel_rfl) my104_is (by kernel_rfl) (Nat.le_of_ble_eq_true hl) hS h
attribute [go_sem ↓] w104_0 w104_1
attribute [go_sem] my104
/-! ### 67: lychgate/merge.Then -/
def r67_0 : MC := .reg [⟨none, (.mv 4 (.c (.imm true .nilp)))⟩] none (some ([0, 1], []))
def w67_0 := @awpR_no Try.prog Q σ r67_0 _ _ ⟨rfl, rfl⟩
def r67_1 : MC := .reg [⟨none, (.mv 6 (.t 0))⟩, ⟨none, (.call (some 7) (.c (.fn 99 [])) [(.t 6)])⟩, ⟨none, (.mv 5 (.t 7))⟩] none (some ([0, 1, 5], []))
def w67_1 := @awpR_no Try.prog Q σ r67_1 _ _ ⟨rfl, rfl⟩
def r67_2 : MC := .reg [⟨none, (.mv 8 (.t 1))⟩, ⟨none, (.mv 4 (.t 8))⟩] none (some ([4], []))
def w67_2 := @awpR_no Try.prog Q σ r67_2 _ _ ⟨rfl, rfl⟩
def r67_3 : MC := .reg [⟨none, (.mv 10 (.t 0))⟩, ⟨none, (.call (some 11) (.c (.fn 100 [])) [(.t 10)])⟩, ⟨none, (.mv 9 (.t 11))⟩] none (some ([0, 1, 9], []))
def w67_3 := @awpR_no Try.prog Q σ r67_3 _ _ ⟨rfl, rfl⟩
def r67_4 : MC := .reg [⟨none, (.mv 12 (.t 0))⟩, ⟨none, (.nilc 13 (.t 12))⟩, ⟨none, (.fad 14 (.t 13) 7)⟩, ⟨none, (.load 15 (.t 14) none)⟩, ⟨none, (.iad 16 (.t 15) (.c (.imm true (.int .i64 0))) 8)⟩, ⟨none, (.load 17 (.t 16) (some 8))⟩, ⟨none, (.mv 18 (.t 0))⟩, ⟨none, (.nilc 19 (.t 18))⟩, ⟨none, (.fad 20 (.t 19) 7)⟩, ⟨none, (.load 21 (.t 20) none)⟩, ⟨none, (.iad 22 (.t 21) (.c (.imm true (.int .i64 1))) 8)⟩, ⟨none, (.mv 23 (.t 1))⟩, ⟨none, (.call (some 24) (.c (.fn 67 [])) [(.t 22), (.t 23)])⟩, ⟨none, (.nilc 25 (.t 24))⟩, ⟨none, (.load 26 (.t 25) (some 8))⟩, ⟨none, (.call (some 27) (.c (.fn 101 [])) [(.t 17), (.t 26)])⟩, ⟨none, (.mv 4 (.t 27))⟩] (some []) (some ([4], []))
def w67_4 := @awpD_no Try.prog Q σ r67_4 _ _ _ ⟨rfl, rfl⟩
def r67_5 : MC := .reg [⟨none, (.mv 29 (.t 0))⟩, ⟨none, (.nilc 30 (.t 29))⟩, ⟨none, (.fad 31 (.t 30) 0)⟩, ⟨none, (.load 32 (.t 31) none)⟩, ⟨none, (.bin 33 .eql (.t 32) (.c (.imm true (.int .i8 1))))⟩, ⟨none, (.mv 28 (.t 33))⟩] none (some ([0, 1, 28], []))
def w67_5 := @awpR_no Try.prog Q σ r67_5 _ _ ⟨rfl, rfl⟩
def r67_6 : MC := .reg [⟨none, (.mv 34 (.t 0))⟩, ⟨none, (.mv 35 (.t 1))⟩, ⟨none, (.mv 36 (.t 0))⟩, ⟨none, (.call (some 37) (.c (.fn 102 [])) [(.t 34), (.t 35), (.t 36)])⟩, ⟨none, (.mv 4 (.t 37))⟩] none (some ([4], []))
def w67_6 := @awpR_no Try.prog Q σ r67_6 _ _ ⟨rfl, rfl⟩
def r67_7 : MC := .reg [⟨none, (.mv 39 (.t 0))⟩, ⟨none, (.call (some 40) (.c (.fn 103 [])) [(.t 39)])⟩, ⟨none, (.mv 41 (.t 40))⟩, ⟨(some (41, true)), (.mv 42 (.t 1))⟩, ⟨(some (41, true)), (.call (some 43) (.c (.fn 99 [])) [(.t 42)])⟩, ⟨none, (.pick 44 (.t 41) (.t 43) (.c (.imm true (.bool false))))⟩, ⟨none, (.mv 38 (.t 44))⟩] none (some ([0, 1, 38], []))
def w67_7 := @awpR_no Try.prog Q σ r67_7 _ _ ⟨rfl, rfl⟩
def r67_8 : MC := .reg [⟨none, (.mv 45 (.t 0))⟩, ⟨none, (.mv 4 (.t 45))⟩] none (some ([4], []))
def w67_8 := @awpR_no Try.prog Q σ r67_8 _ _ ⟨rfl, rfl⟩
def r67_9 : MC := .reg [⟨none, (.mv 47 (.t 0))⟩, ⟨none, (.call (some 48) (.c (.fn 103 [])) [(.t 47)])⟩, ⟨none, (.mv 49 (.t 48))⟩, ⟨(some (49, true)), (.mv 50 (.t 1))⟩, ⟨(some (49, true)), (.call (some 51) (.c (.fn 100 [])) [(.t 50)])⟩, ⟨none, (.pick 52 (.t 49) (.t 51) (.c (.imm true (.bool false))))⟩, ⟨none, (.mv 46 (.t 52))⟩] none (some ([0, 1, 46], []))
def w67_9 := @awpR_no Try.prog Q σ r67_9 _ _ ⟨rfl, rfl⟩
def r67_10 : MC := .reg [⟨none, (.mv 53 (.t 0))⟩, ⟨none, (.nilc 54 (.t 53))⟩, ⟨none, (.fad 55 (.t 54) 7)⟩, ⟨none, (.load 56 (.t 55) none)⟩, ⟨none, (.iad 57 (.t 56) (.c (.imm true (.int .i64 1))) 8)⟩, ⟨none, (.fad 58 (.t 57) 1)⟩, ⟨none, (.mv 59 (.t 1))⟩, ⟨none, (.nilc 60 (.t 59))⟩, ⟨none, (.fad 61 (.t 60) 7)⟩, ⟨none, (.load 62 (.t 61) none)⟩, ⟨none, (.iad 63 (.t 62) (.c (.imm true (.int .i64 0))) 8)⟩, ⟨none, (.fad 64 (.t 63) 1)⟩, ⟨none, (.call (some 65) (.c (.fn 104 [])) [(.t 58), (.t 64)])⟩] (some []) (some ([0, 1, 65], []))
def w67_10 := @awpD_no Try.prog Q σ r67_10 _ _ _ ⟨rfl, rfl⟩
def r67_11 : MC := .reg [⟨none, (.mv 66 (.t 0))⟩, ⟨none, (.nilc 67 (.t 66))⟩, ⟨none, (.fad 68 (.t 67) 7)⟩, ⟨none, (.load 69 (.t 68) none)⟩, ⟨none, (.iad 70 (.t 69) (.c (.imm true (.int .i64 0))) 8)⟩, ⟨none, (.mv 71 (.t 1))⟩, ⟨none, (.nilc 72 (.t 71))⟩, ⟨none, (.fad 73 (.t 72) 7)⟩, ⟨none, (.load 74 (.t 73) none)⟩, ⟨none, (.iad 75 (.t 74) (.c (.imm true (.int .i64 1))) 8)⟩, ⟨none, (.call (some 76) (.c (.fn 67 [])) [(.t 70), (.t 75)])⟩, ⟨none, (.mv 4 (.t 76))⟩] (some []) (some ([4], []))
def w67_11 := @awpD_no Try.prog Q σ r67_11 _ _ _ ⟨rfl, rfl⟩
def r67_12 : MC := .reg [⟨none, (.mv 77 (.t 0))⟩, ⟨none, (.mv 78 (.t 1))⟩, ⟨none, (.mv 79 (.t 1))⟩, ⟨none, (.nilc 80 (.t 79))⟩, ⟨none, (.fad 81 (.t 80) 7)⟩, ⟨none, (.load 82 (.t 81) none)⟩, ⟨none, (.iad 83 (.t 82) (.c (.imm true (.int .i64 0))) 8)⟩, ⟨none, (.call (some 84) (.c (.fn 102 [])) [(.t 77), (.t 78), (.t 83)])⟩, ⟨none, (.mv 4 (.t 84))⟩] none (some ([4], []))
def w67_12 := @awpR_no Try.prog Q σ r67_12 _ _ ⟨rfl, rfl⟩
def r67_13 : MC := .reg [⟨none, (.mv 86 (.t 1))⟩, ⟨none, (.nilc 87 (.t 86))⟩, ⟨none, (.fad 88 (.t 87) 0)⟩, ⟨none, (.load 89 (.t 88) none)⟩, ⟨none, (.bin 90 .eql (.t 89) (.c (.imm true (.int .i8 1))))⟩, ⟨none, (.mv 85 (.t 90))⟩] none (some ([0, 1, 85], []))
def w67_13 := @awpR_no Try.prog Q σ r67_13 _ _ ⟨rfl, rfl⟩
def r67_14 : MC := .reg [⟨none, (.mv 91 (.t 0))⟩, ⟨none, (.mv 92 (.t 1))⟩, ⟨none, (.mv 93 (.t 1))⟩, ⟨none, (.call (some 94) (.c (.fn 102 [])) [(.t 91), (.t 92), (.t 93)])⟩, ⟨none, (.mv 4 (.t 94))⟩] none (some ([4], []))
def w67_14 := @awpR_no Try.prog Q σ r67_14 _ _ ⟨rfl, rfl⟩
def r67_15 : MC := .reg [⟨none, (.mv 96 (.t 1))⟩, ⟨none, (.call (some 97) (.c (.fn 103 [])) [(.t 96)])⟩, ⟨none, (.mv 95 (.t 97))⟩] none (some ([0, 1, 95], []))
def w67_15 := @awpR_no Try.prog Q σ r67_15 _ _ ⟨rfl, rfl⟩
def r67_16 : MC := .reg [⟨none, (.mv 98 (.t 0))⟩, ⟨none, (.mv 99 (.t 1))⟩, ⟨none, (.nilc 100 (.t 99))⟩, ⟨none, (.fad 101 (.t 100) 7)⟩, ⟨none, (.load 102 (.t 101) none)⟩, ⟨none, (.iad 103 (.t 102) (.c (.imm true (.int .i64 0))) 8)⟩, ⟨none, (.call (some 104) (.c (.fn 67 [])) [(.t 98), (.t 103)])⟩, ⟨none, (.nilc 105 (.t 104))⟩, ⟨none, (.load 106 (.t 105) (some 8))⟩, ⟨none, (.mv 107 (.t 1))⟩, ⟨none, (.nilc 108 (.t 107))⟩, ⟨none, (.fad 109 (.t 108) 7)⟩, ⟨none, (.load 110 (.t 109) none)⟩, ⟨none, (.iad 111 (.t 110) (.c (.imm true (.int .i64 1))) 8)⟩, ⟨none, (.load 112 (.t 111) (some 8))⟩, ⟨none, (.call (some 113) (.c (.fn 101 [])) [(.t 106), (.t 112)])⟩, ⟨none, (.mv 4 (.t 113))⟩] (some []) (some ([4], []))
def w67_16 := @awpD_no Try.prog Q σ r67_16 _ _ _ ⟨rfl, rfl⟩
def r67_17 : MC := .reg [⟨none, (.mv 115 (.t 0))⟩, ⟨none, (.nilc 116 (.t 115))⟩, ⟨none, (.fad 117 (.t 116) 0)⟩, ⟨none, (.load 118 (.t 117) none)⟩, ⟨none, (.bin 119 .eql (.t 118) (.c (.imm true (.int .i8 0))))⟩, ⟨none, (.mv 114 (.t 119))⟩] none (some ([0, 1, 114], []))
def w67_17 := @awpR_no Try.prog Q σ r67_17 _ _ ⟨rfl, rfl⟩
def r67_18 : MC := .reg [⟨none, (.mv 120 (.t 0))⟩, ⟨none, (.mv 4 (.t 120))⟩] none (some ([4], []))
def w67_18 := @awpR_no Try.prog Q σ r67_18 _ _ ⟨rfl, rfl⟩
def r67_19 : MC := .reg [⟨none, (.mv 122 (.t 0))⟩, ⟨none, (.nilc 123 (.t 122))⟩, ⟨none, (.fad 124 (.t 123) 0)⟩, ⟨none, (.load 125 (.t 124) none)⟩, ⟨none, (.bin 126 .eql (.t 125) (.c (.imm true (.int .i8 4))))⟩, ⟨none, (.mv 121 (.t 126))⟩] none (some ([0, 1, 121], []))
def w67_19 := @awpR_no Try.prog Q σ r67_19 _ _ ⟨rfl, rfl⟩
def r67_20 : MC := .reg [⟨none, (.mv 127 (.t 1))⟩, ⟨none, (.nilc 128 (.t 127))⟩, ⟨none, (.fad 129 (.t 128) 7)⟩, ⟨none, (.load 130 (.t 129) none)⟩, ⟨none, (.iad 131 (.t 130) (.c (.imm true (.int .i64 0))) 8)⟩, ⟨none, (.mv 132 (.t 0))⟩, ⟨none, (.nilc 133 (.t 132))⟩, ⟨none, (.fad 134 (.t 133) 7)⟩, ⟨none, (.load 135 (.t 134) none)⟩, ⟨none, (.iad 136 (.t 135) (.c (.imm true (.int .i64 0))) 8)⟩, ⟨none, (.call (some 137) (.c (.fn 67 [])) [(.t 131), (.t 136)])⟩, ⟨none, (.nilc 138 (.t 137))⟩, ⟨none, (.load 139 (.t 138) (some 8))⟩, ⟨none, (.mv 140 (.t 0))⟩, ⟨none, (.nilc 141 (.t 140))⟩, ⟨none, (.fad 142 (.t 141) 7)⟩, ⟨none, (.load 143 (.t 142) none)⟩, ⟨none, (.iad 144 (.t 143) (.c (.imm true (.int .i64 1))) 8)⟩, ⟨none, (.mv 145 (.t 1))⟩, ⟨none, (.nilc 146 (.t 145))⟩, ⟨none, (.fad 147 (.t 146) 7)⟩, ⟨none, (.load 148 (.t 147) none)⟩, ⟨none, (.iad 149 (.t 148) (.c (.imm true (.int .i64 1))) 8)⟩, ⟨none, (.call (some 150) (.c (.fn 67 [])) [(.t 144), (.t 149)])⟩, ⟨none, (.nilc 151 (.t 150))⟩, ⟨none, (.load 152 (.t 151) (some 8))⟩, ⟨none, (.lit 153 8 [(.t 139), (.t 152)])⟩, ⟨none, (.build 154 z8 [(0, (1, (.c (.imm true (.int .i8 4))))), (7, (1, (.t 153)))])⟩, ⟨none, (.boxc 155 (.t 154))⟩, ⟨none, (.mv 4 (.t 155))⟩] (some []) (some ([4], []))
def w67_20 := @awpD_no Try.prog Q σ r67_20 _ _ _ ⟨rfl, rfl⟩
def r67_21 : MC := .reg [⟨none, (.mv 156 (.t 0))⟩, ⟨none, (.nilc 157 (.t 156))⟩, ⟨none, (.fad 158 (.t 157) 0)⟩, ⟨none, (.load 159 (.t 158) none)⟩, ⟨none, (.mv 160 (.t 0))⟩, ⟨none, (.nilc 161 (.t 160))⟩, ⟨none, (.fad 162 (.t 161) 7)⟩, ⟨none, (.load 163 (.t 162) none)⟩, ⟨none, (.iad 164 (.t 163) (.c (.imm true (.int .i64 0))) 8)⟩, ⟨none, (.mv 165 (.t 1))⟩, ⟨none, (.nilc 166 (.t 165))⟩, ⟨none, (.fad 167 (.t 166) 7)⟩, ⟨none, (.load 168 (.t 167) none)⟩, ⟨none, (.iad 169 (.t 168) (.c (.imm true (.int .i64 0))) 8)⟩, ⟨none, (.call (some 170) (.c (.fn 67 [])) [(.t 164), (.t 169)])⟩, ⟨none, (.nilc 171 (.t 170))⟩, ⟨none, (.load 172 (.t 171) (some 8))⟩, ⟨none, (.mv 173 (.t 0))⟩, ⟨none, (.nilc 174 (.t 173))⟩, ⟨none, (.fad 175 (.t 174) 7)⟩, ⟨none, (.load 176 (.t 175) none)⟩, ⟨none, (.iad 177 (.t 176) (.c (.imm true (.int .i64 1))) 8)⟩, ⟨none, (.mv 178 (.t 1))⟩, ⟨none, (.nilc 179 (.t 178))⟩, ⟨none, (.fad 180 (.t 179) 7)⟩, ⟨none, (.load 181 (.t 180) none)⟩, ⟨none, (.iad 182 (.t 181) (.c (.imm true (.int .i64 1))) 8)⟩, ⟨none, (.call (some 183) (.c (.fn 67 [])) [(.t 177), (.t 182)])⟩, ⟨none, (.nilc 184 (.t 183))⟩, ⟨none, (.load 185 (.t 184) (some 8))⟩, ⟨none, (.lit 186 8 [(.t 172), (.t 185)])⟩, ⟨none, (.build 187 z8 [(0, (1, (.t 159))), (7, (1, (.t 186)))])⟩, ⟨none, (.boxc 188 (.t 187))⟩, ⟨none, (.mv 4 (.t 188))⟩] (some []) (some ([4], []))
def w67_21 := @awpD_no Try.prog Q σ r67_21 _ _ _ ⟨rfl, rfl⟩
def my67 : MC := (.seq r67_0 (.seq (.block 0 (.seq r67_1 (.cond (.t 5) (.seq r67_2 .ret) (.seq r67_3 (.cond (.t 9) (.seq r67_4 .ret) (.seq r67_5 (.cond (.t 28) (.seq r67_6 .ret) (.seq r67_7 (.cond (.t 38) (.seq r67_8 .ret) (.seq r67_9 (.cond (.t 46) (.seq (.seq r67_10 (.cond (.t 65) (.seq r67_11 .ret) .skip)) (.seq r67_12 .ret)) (.seq r67_13 (.cond (.t 85) (.seq r67_14 .ret) (.seq r67_15 (.cond (.t 95) (.seq r67_16 .ret) (.seq r67_17 (.cond (.t 114) (.seq r67_18 .ret) (.seq r67_19 (.cond (.t 121) (.seq r67_20 .ret) .skip))))))))))))))))))) (.seq r67_21 .ret)))
theorem my67_is : trC Try.prog ⟨[155, 188], []⟩ ⟨[(4, [[], [0], [0, 1], [0, 1, 2], [0, 1, 2, 3], [0, 1, 2, 3, 4], [], [6], [6, 7], [6, 7, 8], [6, 7, 8, 9], [], [6, 7, 8, 9, 10, 11], [6, 7, 8, 9, 10, 11, 12], [6, 7, 8, 9, 10, 11, 12, 13], [0, 1, 2, 3, 4, 5, 6, 7, 8, 9, 10, 11, 12, 13, 14], [0, 1, 2, 3, 4, 5, 6, 7, 8, 9, 10, 11, 12, 13, 14, 15]], []), (10, [[], [0], [0, 1], [0, 1, 2], [0, 1, 2, 3], [0, 1, 2, 3, 4], [], [6], [6, 7], [6, 7, 8], [6, 7, 8, 9], [6, 7, 8, 9, 10], [0, 1, 2, 3, 4, 5, 6, 7, 8, 9, 10, 11]], []), (11, [[], [0], [0, 1], [0, 1, 2], [0, 1, 2, 3], [], [5], [5, 6], [5, 6, 7], [5, 6, 7, 8], [0, 1, 2, 3, 4, 5, 6, 7, 8, 9], [0, 1, 2, 3, 4, 5, 6, 7, 8, 9, 10]], []), (16, [[], [], [1], [1, 2], [1, 2, 3], [1, 2, 3, 4], [0, 1, 2, 3, 4, 5], [0, 1, 2, 3, 4, 5, 6], [0, 1, 2, 3, 4, 5, 6, 7], [], [9], [9, 10], [9, 10, 11], [9, 10, 11, 12], [9, 10, 11, 12, 13], [0, 1, 2, 3, 4, 5, 6, 7, 8, 9, 10, 11, 12, 13, 14], [0, 1, 2, 3, 4, 5, 6, 7, 8, 9, 10, 11, 12, 13, 14, 15]], []), (20, [[], [0], [0, 1], [0, 1, 2], [0, 1, 2, 3], [], [5], [5, 6], [5, 6, 7], [5, 6, 7, 8], [0, 1, 2, 3, 4, 5, 6, 7, 8, 9], [0, 1, 2, 3, 4, 5, 6, 7, 8, 9, 10], [0, 1, 2, 3, 4, 5, 6, 7, 8, 9, 10, 11], [], [13], [13, 14], [13, 14, 15], [13, 14, 15, 16], [], [18], [18, 19], [18, 19, 20], [18, 19, 20, 21], [0, 1, 2, 3, 4, 5, 6, 7, 8, 9, 10, 13, 14, 15, 16, 17, 18, 19, 20, 21, 22], [0, 1, 2, 3, 4, 5, 6, 7, 8, 9, 10, 13, 14, 15, 16, 17, 18, 19, 20, 21, 22, 23], [0, 1, 2, 3, 4, 5, 6, 7, 8, 9, 10, 13, 14, 15, 16, 17, 18, 19, 20, 21, 22, 23, 24], [0, 1, 2, 3, 4, 5, 6, 7, 8, 9, 10, 11, 12, 13, 14, 15, 16, 17, 18, 19, 20, 21, 22, 23, 24, 25], [0, 1, 2, 3, 4, 5, 6, 7, 8, 9, 10, 11, 12, 13, 14, 15, 16, 17, 18, 19, 20, 21, 22, 23, 24, 25, 26], [0, 1, 2, 3, 4, 5, 6, 7, 8, 9, 10, 11, 12, 13, 14, 15, 16, 17, 18, 19, 20, 21, 22, 23, 24, 25, 26, 27], [0, 1, 2, 3, 4, 5, 6, 7, 8, 9, 10, 11, 12, 13, 14, 15, 16, 17, 18, 19, 20, 21, 22, 23, 24, 25, 26, 27, 28]], []), (21, [[], [0], [0, 1], [0, 1, 2], [], [4], [4, 5], [4, 5, 6], [4, 5, 6, 7], [], [9], [9, 10], [9, 10, 11], [9, 10, 11, 12], [4, 5, 6, 7, 8, 9, 10, 11, 12, 13], [4, 5, 6, 7, 8, 9, 10, 11, 12, 13, 14], [4, 5, 6, 7, 8, 9, 10, 11, 12, 13, 14, 15], [], [17], [17, 18], [17, 18, 19], [17, 18, 19, 20], [], [22], [22, 23], [22, 23, 24], [22, 23, 24, 25], [4, 5, 6, 7, 8, 9, 10, 11, 12, 13, 14, 17, 18, 19, 20, 21, 22, 23, 24, 25, 26], [4, 5, 6, 7, 8, 9, 10, 11, 12, 13, 14, 17, 18, 19, 20, 21, 22, 23, 24, 25, 26, 27], [4, 5, 6, 7, 8, 9, 10, 11, 12, 13, 14, 17, 18, 19, 20, 21, 22, 23, 24, 25, 26, 27, 28], [4, 5, 6, 7, 8, 9, 10, 11, 12, 13, 14, 15, 16, 17, 18, 19, 20, 21, 22, 23, 24, 25, 26, 27, 28, 29], [0, 1, 2, 3, 4, 5, 6, 7, 8, 9, 10, 11, 12, 13, 14, 15, 16, 17, 18, 19, 20, 21, 22, 23, 24, 25, 26, 27, 28, 29, 30], [0, 1, 2, 3, 4, 5, 6, 7, 8, 9, 10, 11, 12, 13, 14, 15, 16, 17, 18, 19, 20, 21, 22, 23, 24, 25, 26, 27, 28, 29, 30, 31], [0, 1, 2, 3, 4, 5, 6, 7, 8, 9, 10, 11, 12, 13, 14, 15, 16, 17, 18, 19, 20, 21, 22, 23, 24, 25, 26, 27, 28, 29, 30, 31, 32]], [])],
  [(0, [0, 1], []), (1, [0, 1, 5], []), (2, [4], []), (3, [0, 1, 9], []), (4, [4], []), (5, [0, 1, 28], []), (6, [4], []), (7, [0, 1, 38], []), (8, [4], []), (9, [0, 1, 46], []), (10, [0, 1, 65], []), (11, [4], []), (12, [4], []), (13, [0, 1, 85], []), (14, [4], []), (15, [0, 1, 95], []), (16, [4], []), (17, [0, 1, 114], []), (18, [4], []), (19, [0, 1, 121], []), (20, [4], []), (21, [4], [])]⟩ 189 (Try.f67.body.getD .skip) = some my67 := by kernel_rfl
theorem does67 {args : List LV} (hl : args.length.ble 189 = true) {S S' : List (List LV)} (hS : S'.length = S.length) {o : Out} (h : Lt ⟨numE 0 args, argS 0 S, []⟩ (awp Try.prog my67 (Fin [(.t 4)] o S'))) : Does Try.prog 67 args S o S' :=
  does_of_awp mixed Try.func67 (by kernel_rfl) (by kernel_rfl) my67_is (by kernel_rfl) (Nat.le_of_ble_eq_true hl) hS h
attribute [go_sem ↓] w67_0 w67_1 w67_2 w67_3 w67_4 w67_5 w67_6 w67_7 w67_8 w67_9 w67_10 w67_11 w67_12 w67_13 w67_14 w67_15 w67_16 w67_17 w67_18 w67_19 w67_20 w67_21
attribute [go_sem] my67
/-! ### 83: lychgate/norm.id -/
def r83_0 : MC := .reg [⟨none, (.boxc 1 (.t 0))⟩, ⟨none, (.alloc 2 z8)⟩] none (some ([1, 2], [2]))
def w83_0 := @awpR_get Try.prog Q σ r83_0 _ _ [2] ⟨rfl, rfl⟩
def r83_1 : MC := .reg [⟨none, (.build 4 [(.imm true (.int .i8 0)), (.imm true (.int .i8 0)), (.imm true (.int .i8 0)), (.imm true (.int .i8 0)), (.imm true (.int .i8 0)), (.imm true (.int .i8 0))] [(3, (1, (.c (.imm true (.int .i8 4))))), (4, (1, (.c (.imm true (.int .i8 5))))), (5, (1, (.c (.imm true (.int .i8 6)))))])⟩, ⟨none, (.alloc 3 [(.imm true (.int .i8 0)), (.imm true (.int .i8 0)), (.imm true (.int .i8 0)), (.imm true (.int .i8 0)), (.imm true (.int .i8 0)), (.imm true (.int .i8 0))])⟩, ⟨none, (.store (.t 3) (.t 4) 6)⟩] none (some ([1, 2, 3], [2, 3]))
def w83_1 := @awpR_get Try.prog Q σ r83_1 _ _ [3] ⟨rfl, rfl⟩
def r83_2 : MC := .reg [⟨none, (.fad 5 (.t 1) 1)⟩, ⟨none, (.load 6 (.t 5) none)⟩, ⟨none, (.len 7 (.t 6))⟩, ⟨none, (.bin 8 .eql (.t 7) (.c (.imm true (.int .i64 0))))⟩] none (some ([1, 2, 3, 8], [2, 3]))
def w83_2 := @awpR_no Try.prog Q σ r83_2 _ _ ⟨rfl, rfl⟩
def r83_3 : MC := .reg [⟨none, (.fad 9 (.t 1) 0)⟩, ⟨none, (.load 10 (.t 9) none)⟩, ⟨none, (.build 11 z2 [(0, (1, (.t 10)))])⟩, ⟨none, (.build 12 z8 [(0, (1, (.c (.imm true (.int .i8 0))))), (1, (2, (.t 11)))])⟩, ⟨none, (.store (.t 2) (.t 12) 8)⟩] none (some ([2], [2]))
def w83_3 := @awpR_no Try.prog Q σ r83_3 _ _ ⟨rfl, rfl⟩
def r83_4 : MC := .reg [⟨none, (.fad 13 (.t 1) 0)⟩, ⟨none, (.load 14 (.t 13) none)⟩, ⟨none, (.aad 15 (.t 3) (.t 14) 6 1)⟩, ⟨none, (.load 16 (.t 15) none)⟩, ⟨none, (.fad 17 (.t 1) 1)⟩, ⟨none, (.load 18 (.t 17) none)⟩, ⟨none, (.iad 19 (.t 18) (.c (.imm true (.int .i64 0))) 2)⟩, ⟨none, (.load 20 (.t 19) (some 2))⟩, ⟨none, (.call (some 21) (.c (.fn 83 [])) [(.t 20)])⟩, ⟨none, (.fad 22 (.t 1) 1)⟩, ⟨none, (.load 23 (.t 22) none)⟩, ⟨none, (.iad 24 (.t 23) (.c (.imm true (.int .i64 1))) 2)⟩, ⟨none, (.load 25 (.t 24) (some 2))⟩, ⟨none, (.call (some 26) (.c (.fn 83 [])) [(.t 25)])⟩, ⟨none, (.lit 27 8 [(.t 21), (.t 26)])⟩, ⟨none, (.build 28 z8 [(0, (1, (.t 16))), (7, (1, (.t 27)))])⟩, ⟨none, (.store (.t 2) (.t 28) 8)⟩] (some []) (some ([2], [2]))
def w83_4 := @awpD_no Try.prog Q σ r83_4 _ _ _ ⟨rfl, rfl⟩
def my83 : MC := (.seq r83_0 (.seq r83_1 (.seq (.seq r83_2 (.cond (.t 8) (.seq r83_3 .ret) .skip)) (.seq r83_4 .ret))))
theorem my83_is : trC Try.prog ⟨[1], []⟩ ⟨[(4, [[], [0], [0, 1], [0, 1, 2], [], [4], [4, 5], [4, 5, 6], [4, 5, 6, 7], [], [9], [9, 10], [9, 10, 11], [4, 5, 6, 7, 8, 9, 10, 11, 12], [4, 5, 6, 7, 8, 9, 10, 11, 12, 13], [0, 1, 2, 3, 4, 5, 6, 7, 8, 9, 10, 11, 12, 13, 14], [0, 1, 2, 3, 4, 5, 6, 7, 8, 9, 10, 11, 12, 13, 14, 15]], [])],
  [(0, [1, 2], [2]), (1, [1, 2, 3], [2, 3]), (2, [1, 2, 3, 8], [2, 3]), (3, [2], [2]), (4, [2], [2])]⟩ 29 (Try.f83.body.getD .skip) = some my83 := by kernel_rfl
theorem does83 {args : List LV} (hl : args.length.ble 29 = true) {S S' : List (List LV)} (hS : S'.length = S.length) {o : Out} (h : Lt ⟨numE 0 args, argS 0 S, []⟩ (awp Try.prog my83 (Fin [(.c 2 (some 8))] o S'))) : Does Try.prog 83 args S o S' :=
  does_of_awp mixed Try.func83 (by kernel_rfl) (by kernel_rfl) my83_is (by kernel_rfl) (Nat.le_of_ble_eq_true hl) hS h
attribute [go_sem ↓] w83_0 w83_1 w83_2 w83_3 w83_4
attribute [go_sem] my83
/-! ### 53: lychgate/norm.clean -/
def r53_0 : MC := .reg [⟨none, (.alloc 2 z8)⟩] none (some ([0, 2], [2, 79]))
def w53_0 := @awpR_get Try.prog Q σ r53_0 _ _ [2] ⟨rfl, rfl⟩
def r53_1 : MC := .reg [⟨none, (.mv 5 (.t 0))⟩, ⟨none, (.nilc 6 (.t 5))⟩, ⟨none, (.fad 7 (.t 6) 0)⟩, ⟨none, (.load 8 (.t 7) none)⟩, ⟨none, (.build 9 z8 [(0, (1, (.t 8)))])⟩, ⟨none, (.alloc 3 z8)⟩, ⟨none, (.store (.t 3) (.t 9) 8)⟩] none (some ([0, 2, 3], [2, 3, 79]))
def w53_1 := @awpR_get Try.prog Q σ r53_1 _ _ [3] ⟨rfl, rfl⟩
def r53_2 : MC := .reg [⟨none, (.mv 10 (.t 0))⟩, ⟨none, (.nilc 11 (.t 10))⟩, ⟨none, (.fad 12 (.t 11) 0)⟩, ⟨none, (.load 13 (.t 12) none)⟩] none (some ([0, 2, 3, 13], [2, 3, 79]))
def w53_2 := @awpR_no Try.prog Q σ r53_2 _ _ ⟨rfl, rfl⟩
def r53_3 : MC := .reg [⟨none, (.bin 15 .eql (.t 13) (.c (.imm true (.int .i8 1))))⟩, ⟨none, (.mv 14 (.t 15))⟩] none (some ([0, 2, 3, 13, 14], [2, 3, 79]))
def w53_3 := @awpR_no Try.prog Q σ r53_3 _ _ ⟨rfl, rfl⟩
def r53_4 : MC := .reg [⟨none, (.mv 16 (.t 0))⟩, ⟨none, (.nilc 17 (.t 16))⟩, ⟨none, (.fad 18 (.t 17) 1)⟩, ⟨none, (.load 19 (.t 18) (some 2))⟩, ⟨none, (.mv 20 (.t 0))⟩, ⟨none, (.nilc 21 (.t 20))⟩, ⟨none, (.fad 22 (.t 21) 3)⟩, ⟨none, (.load 23 (.t 22) (some 2))⟩, ⟨none, (.mv 24 (.t 0))⟩, ⟨none, (.nilc 25 (.t 24))⟩, ⟨none, (.fad 26 (.t 25) 5)⟩, ⟨none, (.load 27 (.t 26) none)⟩, ⟨none, (.mv 28 (.t 0))⟩, ⟨none, (.nilc 29 (.t 28))⟩, ⟨none, (.fad 30 (.t 29) 6)⟩, ⟨none, (.load 31 (.t 30) none)⟩, ⟨none, (.fad 32 (.t 3) 1)⟩, ⟨none, (.store (.t 32) (.t 19) 2)⟩, ⟨none, (.fad 33 (.t 3) 3)⟩, ⟨none, (.store (.t 33) (.t 23) 2)⟩, ⟨none, (.fad 34 (.t 3) 5)⟩, ⟨none, (.store (.t 34) (.t 27) 1)⟩, ⟨none, (.fad 35 (.t 3) 6)⟩, ⟨none, (.store (.t 35) (.t 31) 1)⟩] (some [(4, 17), (5, 17), (6, 17), (7, 17), (8, 17), (9, 17), (10, 17), (11, 17), (12, 17), (13, 17), (14, 17), (15, 17), (8, 19), (9, 19), (10, 19), (11, 19), (12, 19), (13, 19), (14, 19), (15, 19), (12, 21), (13, 21), (14, 21), (15, 21)]) (some ([0, 2, 3], [2, 3, 79]))
def w53_4 := @awpD_no Try.prog Q σ r53_4 _ _ _ ⟨rfl, rfl⟩
def r53_5 : MC := .reg [⟨none, (.bin 37 .eql (.t 13) (.c (.imm true (.int .i8 3))))⟩, ⟨none, (.mv 36 (.t 37))⟩] none (some ([0, 2, 3, 13, 36], [2, 3, 79]))
def w53_5 := @awpR_no Try.prog Q σ r53_5 _ _ ⟨rfl, rfl⟩
def r53_6 : MC := .reg [⟨none, (.mv 38 (.t 0))⟩, ⟨none, (.nilc 39 (.t 38))⟩, ⟨none, (.fad 40 (.t 39) 1)⟩, ⟨none, (.load 41 (.t 40) (some 2))⟩, ⟨none, (.mv 42 (.t 0))⟩, ⟨none, (.nilc 43 (.t 42))⟩, ⟨none, (.fad 44 (.t 43) 5)⟩, ⟨none, (.load 45 (.t 44) none)⟩, ⟨none, (.mv 46 (.t 0))⟩, ⟨none, (.nilc 47 (.t 46))⟩, ⟨none, (.fad 48 (.t 47) 6)⟩, ⟨none, (.load 49 (.t 48) none)⟩, ⟨none, (.fad 50 (.t 3) 1)⟩, ⟨none, (.store (.t 50) (.t 41) 2)⟩, ⟨none, (.fad 51 (.t 3) 5)⟩, ⟨none, (.store (.t 51) (.t 45) 1)⟩, ⟨none, (.fad 52 (.t 3) 6)⟩, ⟨none, (.store (.t 52) (.t 49) 1)⟩] (some [(4, 13), (5, 13), (6, 13), (7, 13), (8, 13), (9, 13), (10, 13), (11, 13), (8, 15), (9, 15), (10, 15), (11, 15)]) (some ([0, 2, 3], [2, 3, 79]))
def w53_6 := @awpD_no Try.prog Q σ r53_6 _ _ _ ⟨rfl, rfl⟩
def r53_7 : MC := .reg [⟨none, (.bin 54 .eql (.t 13) (.c (.imm true (.int .i8 0))))⟩, ⟨none, (.mv 53 (.t 54))⟩] none (some ([0, 2, 3, 13, 53], [2, 3, 79]))
def w53_7 := @awpR_no Try.prog Q σ r53_7 _ _ ⟨rfl, rfl⟩
def r53_8 : MC := .reg [⟨none, (.bin 55 .eql (.t 13) (.c (.imm true (.int .i8 2))))⟩, ⟨none, (.mv 53 (.t 55))⟩] none (some ([0, 2, 3, 53], [2, 3, 79]))
def w53_8 := @awpR_no Try.prog Q σ r53_8 _ _ ⟨rfl, rfl⟩
def r53_9 : MC := .reg [⟨none, (.mv 56 (.t 0))⟩, ⟨none, (.nilc 57 (.t 56))⟩, ⟨none, (.fad 58 (.t 57) 1)⟩, ⟨none, (.load 59 (.t 58) (some 2))⟩, ⟨none, (.fad 60 (.t 3) 1)⟩, ⟨none, (.store (.t 60) (.t 59) 2)⟩] none (some ([0, 2, 3], [2, 3, 79]))
def w53_9 := @awpR_no Try.prog Q σ r53_9 _ _ ⟨rfl, rfl⟩
def r53_10 : MC := .reg [⟨none, (.mv 61 (.t 0))⟩, ⟨none, (.nilc 62 (.t 61))⟩, ⟨none, (.fad 63 (.t 62) 7)⟩, ⟨none, (.load 64 (.t 63) none)⟩, ⟨none, (.len 65 (.t 64))⟩, ⟨none, (.mv 66 (.c (.imm true (.int .i64 0))))⟩] none (some ([0, 2, 3, 65, 66], [2, 3, 79]))
def w53_10 := @awpR_no Try.prog Q σ r53_10 _ _ ⟨rfl, rfl⟩
def r53_11 : MC := .reg [⟨none, (.bin 67 .lss (.t 66) (.t 65))⟩] none (some ([0, 2, 3, 65, 66, 67], [2, 3, 79]))
def w53_11 := @awpR_no Try.prog Q σ r53_11 _ _ ⟨rfl, rfl⟩
def r53_12 : MC := .reg [⟨none, (.mv 68 (.t 66))⟩, ⟨none, (.mv 4 (.t 68))⟩] none (some ([0, 2, 3, 4, 65, 66], [2, 3, 79]))
def w53_12 := @awpR_no Try.prog Q σ r53_12 _ _ ⟨rfl, rfl⟩
def r53_13 : MC := .reg [⟨none, (.fad 69 (.t 3) 7)⟩, ⟨none, (.load 70 (.t 69) none)⟩, ⟨none, (.mv 71 (.t 0))⟩, ⟨none, (.nilc 72 (.t 71))⟩, ⟨none, (.fad 73 (.t 72) 7)⟩, ⟨none, (.load 74 (.t 73) none)⟩, ⟨none, (.mv 75 (.t 4))⟩, ⟨none, (.iad 76 (.t 74) (.t 75) 8)⟩, ⟨none, (.call (some 77) (.c (.fn 53 [])) [(.t 76)])⟩, ⟨none, (.lit 78 8 [(.t 77)])⟩, ⟨none, (.append 79 (.t 70) (.t 78) 28 8 112)⟩, ⟨none, (.fad 80 (.t 3) 7)⟩, ⟨none, (.store (.t 80) (.t 79) 1)⟩] (some []) (some ([0, 2, 3, 65, 66], [2, 3, 79]))
def w53_13 := @awpD_get Try.prog Q σ r53_13 _ _ _ [79] ⟨rfl, rfl⟩
def r53_14 : MC := .reg [⟨none, (.bin 81 .add (.t 66) (.c (.imm true (.int .i64 1))))⟩, ⟨none, (.mv 66 (.t 81))⟩] none (some ([0, 2, 3, 65, 66], [2, 3, 79]))
def w53_14 := @awpR_no Try.prog Q σ r53_14 _ _ ⟨rfl, rfl⟩
def l53_0 : MC := (.seq r53_11 (.seq (.cond (.t 67) .skip (.exit 1)) (.seq (.block 2 (.seq r53_12 r53_13)) r53_14)))
def r53_15 : MC := .reg [⟨none, (.load 82 (.t 3) (some 8))⟩, ⟨none, (.store (.t 2) (.t 82) 8)⟩] none (some ([2], [2, 79]))
def w53_15 := @awpR_no Try.prog Q σ r53_15 _ _ ⟨rfl, rfl⟩
def my53 : MC := (.seq r53_0 (.seq r53_1 (.seq (.seq r53_2 (.block 0 (.seq r53_3 (.cond (.t 14) r53_4 (.seq r53_5 (.cond (.t 36) r53_6 (.seq (.seq r53_7 (.cond (.t 53) .skip r53_8)) (.cond (.t 53) r53_9 .skip)))))))) (.seq (.seq r53_10 (.block 1 (.loop l53_0))) (.seq r53_15 .ret)))))
theorem my53_is : trC Try.prog ⟨[], []⟩ ⟨[(4, [[], [0], [0, 1], [0, 1, 2], [], [4], [4, 5], [4, 5, 6], [], [8], [8, 9], [8, 9, 10], [], [12], [12, 13], [12, 13, 14], [0, 1, 2, 3], [0, 1, 2, 3, 16], [0, 1, 2, 3, 4, 5, 6, 7, 16, 17], [0, 1, 2, 3, 4, 5, 6, 7, 16, 17, 18], [0, 1, 2, 3, 4, 5, 6, 7, 8, 9, 10, 11, 16, 17, 18, 19], [0, 1, 2, 3, 4, 5, 6, 7, 8, 9, 10, 11, 16, 17, 18, 19, 20], [0, 1, 2, 3, 4, 5, 6, 7, 8, 9, 10, 11, 12, 13, 14, 15, 16, 17, 18, 19, 20, 21], [0, 1, 2, 3, 4, 5, 6, 7, 8, 9, 10, 11, 12, 13, 14, 15, 16, 17, 18, 19, 20, 21, 22]], [(4, 17), (5, 17), (6, 17), (7, 17), (8, 17), (9, 17), (10, 17), (11, 17), (12, 17), (13, 17), (14, 17), (15, 17), (8, 19), (9, 19), (10, 19), (11, 19), (12, 19), (13, 19), (14, 19), (15, 19), (12, 21), (13, 21), (14, 21), (15, 21)]), (6, [[], [0], [0, 1], [0, 1, 2], [], [4], [4, 5], [4, 5, 6], [], [8], [8, 9], [8, 9, 10], [0, 1, 2, 3], [0, 1, 2, 3, 12], [0, 1, 2, 3, 4, 5, 6, 7, 12, 13], [0, 1, 2, 3, 4, 5, 6, 7, 12, 13, 14], [0, 1, 2, 3, 4, 5, 6, 7, 8, 9, 10, 11, 12, 13, 14, 15], [0, 1, 2, 3, 4, 5, 6, 7, 8, 9, 10, 11, 12, 13, 14, 15, 16]], [(4, 13), (5, 13), (6, 13), (7, 13), (8, 13), (9, 13), (10, 13), (11, 13), (8, 15), (9, 15), (10, 15), (11, 15)]), (13, [[], [0], [], [2], [2, 3], [2, 3, 4], [], [2, 3, 4, 5, 6], [2, 3, 4, 5, 6, 7], [2, 3, 4, 5, 6, 7, 8], [0, 1, 2, 3, 4, 5, 6, 7, 8, 9], [0, 1, 2, 3, 4, 5, 6, 7, 8, 9, 10], [0, 1, 2, 3, 4, 5, 6, 7, 8, 9, 10, 11]], [])],
  [(0, [0, 2], [2, 79]), (1, [0, 2, 3], [2, 3, 79]), (2, [0, 2, 3, 13], [2, 3, 79]), (3, [0, 2, 3, 13, 14], [2, 3, 79]), (4, [0, 2, 3], [2, 3, 79]), (5, [0, 2, 3, 13, 36], [2, 3, 79]), (6, [0, 2, 3], [2, 3, 79]), (7, [0, 2, 3, 13, 53], [2, 3, 79]), (8, [0, 2, 3, 53], [2, 3, 79]), (9, [0, 2, 3], [2, 3, 79]), (10, [0, 2, 3, 65, 66], [2, 3, 79]), (11, [0, 2, 3, 65, 66, 67], [2, 3, 79]), (12, [0, 2, 3, 4, 65, 66], [2, 3, 79]), (13, [0, 2, 3, 65, 66], [2, 3, 79]), (14, [0, 2, 3, 65, 66], [2, 3, 79]), (15, [2], [2, 79])]⟩ 83 (Try.f53.body.getD .skip) = some my53 := by kernel_rfl
theorem does53 {args : List LV} (hl : args.length.ble 83 = true) {S S' : List (List LV)} (hS : S'.length = S.length) {o : Out} (h : Lt ⟨numE 0 args, argS 0 S, []⟩ (awp Try.prog my53 (Fin [(.c 2 (some 8))] o S'))) : Does Try.prog 53 args S o S' :=
  does_of_awp mixed Try.func53 (by kernel_rfl) (by kernel_rfl) my53_is (by kernel_rfl) (Nat.le_of_ble_eq_true hl) hS h
attribute [go_sem ↓] w53_0 w53_1 w53_2 w53_3 w53_4 w53_5 w53_6 w53_7 w53_8 w53_9 w53_10 w53_11 w53_12 w53_13 w53_14 w53_15
attribute [go_sem] my53
/-! ### 55: lychgate/norm.norm -/
def r55_0 : MC := .reg [⟨none, (.mv 2 (.c (.imm true .nilp)))⟩] none (some ([0], []))
def w55_0 := @awpR_no Try.prog Q σ r55_0 _ _ ⟨rfl, rfl⟩
def r55_1 : MC := .reg [⟨none, (.mv 4 (.t 0))⟩, ⟨none, (.nilc 5 (.t 4))⟩, ⟨none, (.fad 6 (.t 5) 0)⟩, ⟨none, (.load 7 (.t 6) none)⟩] none (some ([0, 7], []))
def w55_1 := @awpR_no Try.prog Q σ r55_1 _ _ ⟨rfl, rfl⟩
def r55_2 : MC := .reg [⟨none, (.bin 9 .eql (.t 7) (.c (.imm true (.int .i8 0))))⟩, ⟨none, (.mv 8 (.t 9))⟩] none (some ([0, 7, 8], []))
def w55_2 := @awpR_no Try.prog Q σ r55_2 _ _ ⟨rfl, rfl⟩
def r55_3 : MC := .reg [⟨none, (.mv 10 (.t 0))⟩, ⟨none, (.nilc 11 (.t 10))⟩, ⟨none, (.fad 12 (.t 11) 1)⟩, ⟨none, (.load 13 (.t 12) (some 2))⟩, ⟨none, (.call (some 14) (.c (.fn 83 [])) [(.t 13)])⟩, ⟨none, (.alloc 3 z8)⟩, ⟨none, (.store (.t 3) (.t 14) 8)⟩] none (some ([3], [3]))
def w55_3 := @awpR_get Try.prog Q σ r55_3 _ _ [3] ⟨rfl, rfl⟩
def r55_4 : MC := .reg [⟨none, (.mv 2 (.t 3))⟩] none (some ([2], [3]))
def w55_4 := @awpR_no Try.prog Q σ r55_4 _ _ ⟨rfl, rfl⟩
def r55_5 : MC := .reg [⟨none, (.bin 16 .eql (.t 7) (.c (.imm true (.int .i8 1))))⟩, ⟨none, (.mv 15 (.t 16))⟩] none (some ([0, 7, 15], []))
def w55_5 := @awpR_no Try.prog Q σ r55_5 _ _ ⟨rfl, rfl⟩
def r55_6 : MC := .reg [⟨none, (.mv 17 (.t 0))⟩, ⟨none, (.mv 2 (.t 17))⟩] none (some ([2], [3]))
def w55_6 := @awpR_no Try.prog Q σ r55_6 _ _ ⟨rfl, rfl⟩
def r55_7 : MC := .reg [⟨none, (.bin 19 .eql (.t 7) (.c (.imm true (.int .i8 2))))⟩, ⟨none, (.mv 18 (.t 19))⟩] none (some ([0, 7, 18], []))
def w55_7 := @awpR_no Try.prog Q σ r55_7 _ _ ⟨rfl, rfl⟩
def r55_8 : MC := .reg [⟨none, (.mv 20 (.t 0))⟩, ⟨none, (.nilc 21 (.t 20))⟩, ⟨none, (.fad 22 (.t 21) 1)⟩, ⟨none, (.load 23 (.t 22) (some 2))⟩, ⟨none, (.call (some 24) (.c (.fn 83 [])) [(.t 23)])⟩, ⟨none, (.mv 25 (.t 0))⟩, ⟨none, (.nilc 26 (.t 25))⟩, ⟨none, (.load 27 (.t 26) (some 8))⟩, ⟨none, (.lit 28 8 [(.t 24), (.t 27)])⟩, ⟨none, (.build 29 z8 [(0, (1, (.c (.imm true (.int .i8 7))))), (7, (1, (.t 28)))])⟩, ⟨none, (.boxc 30 (.t 29))⟩, ⟨none, (.mv 2 (.t 30))⟩] (some []) (some ([2], [3]))
def w55_8 := @awpD_no Try.prog Q σ r55_8 _ _ _ ⟨rfl, rfl⟩
def r55_9 : MC := .reg [⟨none, (.bin 32 .eql (.t 7) (.c (.imm true (.int .i8 3))))⟩, ⟨none, (.mv 31 (.t 32))⟩] none (some ([0, 7, 31], []))
def w55_9 := @awpR_no Try.prog Q σ r55_9 _ _ ⟨rfl, rfl⟩
def r55_10 : MC := .reg [⟨none, (.mv 33 (.t 0))⟩, ⟨none, (.nilc 34 (.t 33))⟩, ⟨none, (.load 35 (.t 34) (some 8))⟩, ⟨none, (.mv 36 (.t 0))⟩, ⟨none, (.nilc 37 (.t 36))⟩, ⟨none, (.fad 38 (.t 37) 1)⟩, ⟨none, (.load 39 (.t 38) (some 2))⟩, ⟨none, (.call (some 40) (.c (.fn 83 [])) [(.t 39)])⟩, ⟨none, (.lit 41 8 [(.t 35), (.t 40)])⟩, ⟨none, (.build 42 z8 [(0, (1, (.c (.imm true (.int .i8 7))))), (7, (1, (.t 41)))])⟩, ⟨none, (.boxc 43 (.t 42))⟩, ⟨none, (.mv 2 (.t 43))⟩] (some []) (some ([2], [3]))
def w55_10 := @awpD_no Try.prog Q σ r55_10 _ _ _ ⟨rfl, rfl⟩
def r55_11 : MC := .reg [⟨none, (.bin 45 .eql (.t 7) (.c (.imm true (.int .i8 7))))⟩, ⟨none, (.mv 44 (.t 45))⟩] none (some ([0, 44], []))
def w55_11 := @awpR_no Try.prog Q σ r55_11 _ _ ⟨rfl, rfl⟩
def r55_12 : MC := .reg [⟨none, (.mv 46 (.t 0))⟩, ⟨none, (.nilc 47 (.t 46))⟩, ⟨none, (.fad 48 (.t 47) 7)⟩, ⟨none, (.load 49 (.t 48) none)⟩, ⟨none, (.iad 50 (.t 49) (.c (.imm true (.int .i64 0))) 8)⟩, ⟨none, (.call (some 51) (.c (.fn 55 [])) [(.t 50)])⟩, ⟨none, (.mv 52 (.t 0))⟩, ⟨none, (.nilc 53 (.t 52))⟩, ⟨none, (.fad 54 (.t 53) 7)⟩, ⟨none, (.load 55 (.t 54) none)⟩, ⟨none, (.iad 56 (.t 55) (.c (.imm true (.int .i64 1))) 8)⟩, ⟨none, (.call (some 57) (.c (.fn 55 [])) [(.t 56)])⟩, ⟨none, (.call (some 58) (.c (.fn 67 [])) [(.t 51), (.t 57)])⟩, ⟨none, (.mv 2 (.t 58))⟩] (some []) (some ([2], [3]))
def w55_12 := @awpD_no Try.prog Q σ r55_12 _ _ _ ⟨rfl, rfl⟩
def r55_13 : MC := .reg [⟨none, (.mv 59 (.t 0))⟩, ⟨none, (.nilc 60 (.t 59))⟩, ⟨none, (.fad 61 (.t 60) 0)⟩, ⟨none, (.load 62 (.t 61) none)⟩, ⟨none, (.mv 63 (.t 0))⟩, ⟨none, (.nilc 64 (.t 63))⟩, ⟨none, (.fad 65 (.t 64) 7)⟩, ⟨none, (.load 66 (.t 65) none)⟩, ⟨none, (.iad 67 (.t 66) (.c (.imm true (.int .i64 0))) 8)⟩, ⟨none, (.call (some 68) (.c (.fn 55 [])) [(.t 67)])⟩, ⟨none, (.nilc 69 (.t 68))⟩, ⟨none, (.load 70 (.t 69) (some 8))⟩, ⟨none, (.mv 71 (.t 0))⟩, ⟨none, (.nilc 72 (.t 71))⟩, ⟨none, (.fad 73 (.t 72) 7)⟩, ⟨none, (.load 74 (.t 73) none)⟩, ⟨none, (.iad 75 (.t 74) (.c (.imm true (.int .i64 1))) 8)⟩, ⟨none, (.call (some 76) (.c (.fn 55 [])) [(.t 75)])⟩, ⟨none, (.nilc 77 (.t 76))⟩, ⟨none, (.load 78 (.t 77) (some 8))⟩, ⟨none, (.lit 79 8 [(.t 70), (.t 78)])⟩, ⟨none, (.build 80 z8 [(0, (1, (.t 62))), (7, (1, (.t 79)))])⟩, ⟨none, (.boxc 81 (.t 80))⟩, ⟨none, (.mv 2 (.t 81))⟩] (some []) (some ([2], [3]))
def w55_13 := @awpD_no Try.prog Q σ r55_13 _ _ _ ⟨rfl, rfl⟩
def my55 : MC := (.seq r55_0 (.seq (.seq r55_1 (.block 0 (.seq r55_2 (.cond (.t 8) (.seq r55_3 (.seq r55_4 .ret)) (.seq r55_5 (.cond (.t 15) (.seq r55_6 .ret) (.seq r55_7 (.cond (.t 18) (.seq r55_8 .ret) (.seq r55_9 (.cond (.t 31) (.seq r55_10 .ret) (.seq r55_11 (.cond (.t 44) (.seq r55_12 .ret) .skip)))))))))))) (.seq r55_13 .ret)))
theorem my55_is : trC Try.prog ⟨[30, 43, 81], []⟩ ⟨[(8, [[], [0], [0, 1], [0, 1, 2], [0, 1, 2, 3], [], [5], [5, 6], [0, 1, 2, 3, 4, 5, 6, 7], [0, 1, 2, 3, 4, 5, 6, 7, 8], [0, 1, 2, 3, 4, 5, 6, 7, 8, 9], [0, 1, 2, 3, 4, 5, 6, 7, 8, 9, 10]], []), (10, [[], [0], [0, 1], [], [3], [3, 4], [3, 4, 5], [3, 4, 5, 6], [0, 1, 2, 3, 4, 5, 6, 7], [0, 1, 2, 3, 4, 5, 6, 7, 8], [0, 1, 2, 3, 4, 5, 6, 7, 8, 9], [0, 1, 2, 3, 4, 5, 6, 7, 8, 9, 10]], []), (12, [[], [0], [0, 1], [0, 1, 2], [0, 1, 2, 3], [0, 1, 2, 3, 4], [], [6], [6, 7], [6, 7, 8], [6, 7, 8, 9], [0, 1, 2, 3, 4, 5, 6, 7, 8, 9, 10], [0, 1, 2, 3, 4, 5, 6, 7, 8, 9, 10, 11], [0, 1, 2, 3, 4, 5, 6, 7, 8, 9, 10, 11, 12]], []), (13, [[], [0], [0, 1], [0, 1, 2], [], [4], [4, 5], [4, 5, 6], [4, 5, 6, 7], [4, 5, 6, 7, 8], [4, 5, 6, 7, 8, 9], [4, 5, 6, 7, 8, 9, 10], [], [12], [12, 13], [12, 13, 14], [12, 13, 14, 15], [4, 5, 6, 7, 8, 9, 12, 13, 14, 15, 16], [4, 5, 6, 7, 8, 9, 12, 13, 14, 15, 16, 17], [4, 5, 6, 7, 8, 9, 12, 13, 14, 15, 16, 17, 18], [4, 5, 6, 7, 8, 9, 10, 11, 12, 13, 14, 15, 16, 17, 18, 19], [0, 1, 2, 3, 4, 5, 6, 7, 8, 9, 10, 11, 12, 13, 14, 15, 16, 17, 18, 19, 20], [0, 1, 2, 3, 4, 5, 6, 7, 8, 9, 10, 11, 12, 13, 14, 15, 16, 17, 18, 19, 20, 21], [0, 1, 2, 3, 4, 5, 6, 7, 8, 9, 10, 11, 12, 13, 14, 15, 16, 17, 18, 19, 20, 21, 22]], [])],
  [(0, [0], []), (1, [0, 7], []), (2, [0, 7, 8], []), (3, [3], [3]), (4, [2], [3]), (5, [0, 7, 15], []), (6, [2], [3]), (7, [0, 7, 18], []), (8, [2], [3]), (9, [0, 7, 31], []), (10, [2], [3]), (11, [0, 44], []), (12, [2], [3]), (13, [2], [3])]⟩ 82 (Try.f55.body.getD .skip) = some my55 := by kernel_rfl
theorem does55 {args : List LV} (hl : args.length.ble 82 = true) {S S' : List (List LV)} (hS : S'.length = S.length) {o : Out} (h : Lt ⟨numE 0 args, argS 0 S, []⟩ (awp Try.prog my55 (Fin [(.t 2)] o S'))) : Does Try.prog 55 args S o S' :=
  does_of_awp mixed Try.func55 (by kernel_rfl) (by kernel_rfl) my55_is (by kernel_rfl) (Nat.le_of_ble_eq_true hl) hS h
attribute [go_sem ↓] w55_0 w55_1 w55_2 w55_3 w55_4 w55_5 w55_6 w55_7 w55_8 w55_9 w55_10 w55_11 w55_12 w55_13
attribute [go_sem] my55
/-! ### 82: lychgate/merge.Copy -/
def r82_0 : MC := .reg [⟨none, (.alloc 2 z8)⟩] none (some ([0, 2], [2, 37]))
def w82_0 := @awpR_get Try.prog Q σ r82_0 _ _ [2] ⟨rfl, rfl⟩
def r82_1 : MC := .reg [⟨none, (.mv 5 (.t 0))⟩, ⟨none, (.nilc 6 (.t 5))⟩, ⟨none, (.load 7 (.t 6) (some 8))⟩, ⟨none, (.alloc 3 z8)⟩, ⟨none, (.store (.t 3) (.t 7) 8)⟩] none (some ([0, 2, 3], [2, 3, 37]))
def w82_1 := @awpR_get Try.prog Q σ r82_1 _ _ [3] ⟨rfl, rfl⟩
def r82_2 : MC := .reg [⟨none, (.mv 8 (.t 0))⟩, ⟨none, (.nilc 9 (.t 8))⟩, ⟨none, (.fad 10 (.t 9) 1)⟩, ⟨none, (.call (some 11) (.c (.fn 111 [])) [(.t 10)])⟩, ⟨none, (.mv 12 (.t 0))⟩, ⟨none, (.nilc 13 (.t 12))⟩, ⟨none, (.fad 14 (.t 13) 3)⟩, ⟨none, (.call (some 15) (.c (.fn 111 [])) [(.t 14)])⟩, ⟨none, (.fad 16 (.t 3) 1)⟩, ⟨none, (.store (.t 16) (.t 11) 2)⟩, ⟨none, (.fad 17 (.t 3) 3)⟩, ⟨none, (.store (.t 17) (.t 15) 2)⟩] (some []) (some ([0, 2, 3], [2, 3, 37]))
def w82_2 := @awpD_no Try.prog Q σ r82_2 _ _ _ ⟨rfl, rfl⟩
def r82_3 : MC := .reg [⟨none, (.fad 18 (.t 3) 7)⟩, ⟨none, (.store (.t 18) (.c .nils) 1)⟩] none (some ([0, 2, 3], [2, 3, 37]))
def w82_3 := @awpR_no Try.prog Q σ r82_3 _ _ ⟨rfl, rfl⟩
def r82_4 : MC := .reg [⟨none, (.mv 19 (.t 0))⟩, ⟨none, (.nilc 20 (.t 19))⟩, ⟨none, (.fad 21 (.t 20) 7)⟩, ⟨none, (.load 22 (.t 21) none)⟩, ⟨none, (.len 23 (.t 22))⟩, ⟨none, (.mv 24 (.c (.imm true (.int .i64 0))))⟩] none (some ([0, 2, 3, 23, 24], [2, 3, 37]))
def w82_4 := @awpR_no Try.prog Q σ r82_4 _ _ ⟨rfl, rfl⟩
def r82_5 : MC := .reg [⟨none, (.bin 25 .lss (.t 24) (.t 23))⟩] none (some ([0, 2, 3, 23, 24, 25], [2, 3, 37]))
def w82_5 := @awpR_no Try.prog Q σ r82_5 _ _ ⟨rfl, rfl⟩
def r82_6 : MC := .reg [⟨none, (.mv 26 (.t 24))⟩, ⟨none, (.mv 4 (.t 26))⟩] none (some ([0, 2, 3, 4, 23, 24], [2, 3, 37]))
def w82_6 := @awpR_no Try.prog Q σ r82_6 _ _ ⟨rfl, rfl⟩
def r82_7 : MC := .reg [⟨none, (.fad 27 (.t 3) 7)⟩, ⟨none, (.load 28 (.t 27) none)⟩, ⟨none, (.mv 29 (.t 0))⟩, ⟨none, (.nilc 30 (.t 29))⟩, ⟨none, (.fad 31 (.t 30) 7)⟩, ⟨none, (.load 32 (.t 31) none)⟩, ⟨none, (.mv 33 (.t 4))⟩, ⟨none, (.iad 34 (.t 32) (.t 33) 8)⟩, ⟨none, (.call (some 35) (.c (.fn 82 [])) [(.t 34)])⟩, ⟨none, (.lit 36 8 [(.t 35)])⟩, ⟨none, (.append 37 (.t 28) (.t 36) 28 8 112)⟩, ⟨none, (.fad 38 (.t 3) 7)⟩, ⟨none, (.store (.t 38) (.t 37) 1)⟩] (some []) (some ([0, 2, 3, 23, 24], [2, 3, 37]))
def w82_7 := @awpD_get Try.prog Q σ r82_7 _ _ _ [37] ⟨rfl, rfl⟩
def r82_8 : MC := .reg [⟨none, (.bin 39 .add (.t 24) (.c (.imm true (.int .i64 1))))⟩, ⟨none, (.mv 24 (.t 39))⟩] none (some ([0, 2, 3, 23, 24], [2, 3, 37]))
def w82_8 := @awpR_no Try.prog Q σ r82_8 _ _ ⟨rfl, rfl⟩
def l82_0 : MC := (.seq r82_5 (.seq (.cond (.t 25) .skip (.exit 0)) (.seq (.block 1 (.seq r82_6 r82_7)) r82_8)))
def r82_9 : MC := .reg [⟨none, (.load 40 (.t 3) (some 8))⟩, ⟨none, (.store (.t 2) (.t 40) 8)⟩] none (some ([2], [2, 37]))
def w82_9 := @awpR_no Try.prog Q σ r82_9 _ _ ⟨rfl, rfl⟩
def my82 : MC := (.seq r82_0 (.seq r82_1 (.seq r82_2 (.seq r82_3 (.seq (.seq r82_4 (.block 0 (.loop l82_0))) (.seq r82_9 .ret))))))
theorem my82_is : trC Try.prog ⟨[], []⟩ ⟨[(2, [[], [0], [0, 1], [0, 1, 2], [], [4], [4, 5], [0, 1, 2, 3, 4, 5, 6], [0, 1, 2, 3], [0, 1, 2, 3, 4, 5, 6, 7, 8], [0, 1, 2, 3, 4, 5, 6, 7, 8, 9], [0, 1, 2, 3, 4, 5, 6, 7, 8, 9, 10]], []), (7, [[], [0], [], [2], [2, 3], [2, 3, 4], [], [2, 3, 4, 5, 6], [2, 3, 4, 5, 6, 7], [2, 3, 4, 5, 6, 7, 8], [0, 1, 2, 3, 4, 5, 6, 7, 8, 9], [0, 1, 2, 3, 4, 5, 6, 7, 8, 9, 10], [0, 1, 2, 3, 4, 5, 6, 7, 8, 9, 10, 11]], [])],
  [(0, [0, 2], [2, 37]), (1, [0, 2, 3], [2, 3, 37]), (2, [0, 2, 3], [2, 3, 37]), (3, [0, 2, 3], [2, 3, 37]), (4, [0, 2, 3, 23, 24], [2, 3, 37]), (5, [0, 2, 3, 23, 24, 25], [2, 3, 37]), (6, [0, 2, 3, 4, 23, 24], [2, 3, 37]), (7, [0, 2, 3, 23, 24], [2, 3, 37]), (8, [0, 2, 3, 23, 24], [2, 3, 37]), (9, [2], [2, 37])]⟩ 41 (Try.f82.body.getD .skip) = some my82 := by kernel_rfl
theorem does82 {args : List LV} (hl : args.length.ble 41 = true) {S S' : List (List LV)} (hS : S'.length = S.length) {o : Out} (h : Lt ⟨numE 0 args, argS 0 S, []⟩ (awp Try.prog my82 (Fin [(.c 2 (some 8))] o S'))) : Does Try.prog 82 args S o S' :=
  does_of_awp mixed Try.func82 (by kernel_rfl) (by kernel_rfl) my82_is (by kernel_rfl) (Nat.le_of_ble_eq_true hl) hS h
attribute [go_sem ↓] w82_0 w82_1 w82_2 w82_3 w82_4 w82_5 w82_6 w82_7 w82_8 w82_9
attribute [go_sem] my82
/-! ### 111: lychgate/merge.kind -/
def r111_0 : MC := .reg [⟨none, (.alloc 2 z2)⟩] none (some ([0, 2], [2, 28]))
def w111_0 := @awpR_get Try.prog Q σ r111_0 _ _ [2] ⟨rfl, rfl⟩
def r111_1 : MC := .reg [⟨none, (.mv 5 (.t 0))⟩, ⟨none, (.nilc 6 (.t 5))⟩, ⟨none, (.fad 7 (.t 6) 0)⟩, ⟨none, (.load 8 (.t 7) none)⟩, ⟨none, (.build 9 z2 [(0, (1, (.t 8)))])⟩, ⟨none, (.alloc 3 z2)⟩, ⟨none, (.store (.t 3) (.t 9) 2)⟩] none (some ([0, 2, 3], [2, 3, 28]))
def w111_1 := @awpR_get Try.prog Q σ r111_1 _ _ [3] ⟨rfl, rfl⟩
def r111_2 : MC := .reg [⟨none, (.mv 10 (.t 0))⟩, ⟨none, (.nilc 11 (.t 10))⟩, ⟨none, (.fad 12 (.t 11) 1)⟩, ⟨none, (.load 13 (.t 12) none)⟩, ⟨none, (.len 14 (.t 13))⟩, ⟨none, (.mv 15 (.c (.imm true (.int .i64 0))))⟩] none (some ([0, 2, 3, 14, 15], [2, 3, 28]))
def w111_2 := @awpR_no Try.prog Q σ r111_2 _ _ ⟨rfl, rfl⟩
def r111_3 : MC := .reg [⟨none, (.bin 16 .lss (.t 15) (.t 14))⟩] none (some ([0, 2, 3, 14, 15, 16], [2, 3, 28]))
def w111_3 := @awpR_no Try.prog Q σ r111_3 _ _ ⟨rfl, rfl⟩
def r111_4 : MC := .reg [⟨none, (.mv 17 (.t 15))⟩, ⟨none, (.mv 4 (.t 17))⟩] none (some ([0, 2, 3, 4, 14, 15], [2, 3, 28]))
def w111_4 := @awpR_no Try.prog Q σ r111_4 _ _ ⟨rfl, rfl⟩
def r111_5 : MC := .reg [⟨none, (.fad 18 (.t 3) 1)⟩, ⟨none, (.load 19 (.t 18) none)⟩, ⟨none, (.mv 20 (.t 0))⟩, ⟨none, (.nilc 21 (.t 20))⟩, ⟨none, (.fad 22 (.t 21) 1)⟩, ⟨none, (.load 23 (.t 22) none)⟩, ⟨none, (.mv 24 (.t 4))⟩, ⟨none, (.iad 25 (.t 23) (.t 24) 2)⟩, ⟨none, (.call (some 26) (.c (.fn 111 [])) [(.t 25)])⟩, ⟨none, (.lit 27 2 [(.t 26)])⟩, ⟨none, (.append 28 (.t 19) (.t 27) 25 2 32)⟩, ⟨none, (.fad 29 (.t 3) 1)⟩, ⟨none, (.store (.t 29) (.t 28) 1)⟩] (some []) (some ([0, 2, 3, 14, 15], [2, 3, 28]))
def w111_5 := @awpD_get Try.prog Q σ r111_5 _ _ _ [28] ⟨rfl, rfl⟩
def r111_6 : MC := .reg [⟨none, (.bin 30 .add (.t 15) (.c (.imm true (.int .i64 1))))⟩, ⟨none, (.mv 15 (.t 30))⟩] none (some ([0, 2, 3, 14, 15], [2, 3, 28]))
def w111_6 := @awpR_no Try.prog Q σ r111_6 _ _ ⟨rfl, rfl⟩
def l111_0 : MC := (.seq r111_3 (.seq (.cond (.t 16) .skip (.exit 0)) (.seq (.block 1 (.seq r111_4 r111_5)) r111_6)))
def r111_7 : MC := .reg [⟨none, (.load 31 (.t 3) (some 2))⟩, ⟨none, (.store (.t 2) (.t 31) 2)⟩] none (some ([2], [2, 28]))
def w111_7 := @awpR_no Try.prog Q σ r111_7 _ _ ⟨rfl, rfl⟩
def my111 : MC := (.seq r111_0 (.seq r111_1 (.seq (.seq r111_2 (.block 0 (.loop l111_0))) (.seq r111_7 .ret))))
theorem my111_is : trC Try.prog ⟨[], []⟩ ⟨[(5, [[], [0], [], [2], [2, 3], [2, 3, 4], [], [2, 3, 4, 5, 6], [2, 3, 4, 5, 6, 7], [2, 3, 4, 5, 6, 7, 8], [0, 1, 2, 3, 4, 5, 6, 7, 8, 9], [0, 1, 2, 3, 4, 5, 6, 7, 8, 9, 10], [0, 1, 2, 3, 4, 5, 6, 7, 8, 9, 10, 11]], [])],
  [(0, [0, 2], [2, 28]), (1, [0, 2, 3], [2, 3, 28]), (2, [0, 2, 3, 14, 15], [2, 3, 28]), (3, [0, 2, 3, 14, 15, 16], [2, 3, 28]), (4, [0, 2, 3, 4, 14, 15], [2, 3, 28]), (5, [0, 2, 3, 14, 15], [2, 3, 28]), (6, [0, 2, 3, 14, 15], [2, 3, 28]), (7, [2], [2, 28])]⟩ 32 (Try.f111.body.getD .skip) = some my111 := by kernel_rfl
theorem does111 {args : List LV} (hl : args.length.ble 32 = true) {S S' : List (List LV)} (hS : S'.length = S.length) {o : Out} (h : Lt ⟨numE 0 args, argS 0 S, []⟩ (awp Try.prog my111 (Fin [(.c 2 (some 2))] o S'))) : Does Try.prog 111 args S o S' :=
  does_of_awp mixed Try.func111 (by kernel_rfl) (by kernel_rfl) my111_is (by kernel_rfl) (Nat.le_of_ble_eq_true hl) hS h
attribute [go_sem ↓] w111_0 w111_1 w111_2 w111_3 w111_4 w111_5 w111_6 w111_7
attribute [go_sem] my111
/-! ### 54: lychgate/norm.told -/
def r54_0 : MC := .reg [⟨none, (.alloc 2 z8)⟩, ⟨none, (.mv 3 (.c (.imm true (.int .i64 0))))⟩] none (some ([0, 2], [2]))
def w54_0 := @awpR_get Try.prog Q σ r54_0 _ _ [2] ⟨rfl, rfl⟩
def r54_1 : MC := .reg [⟨none, (.mv 8 (.t 0))⟩, ⟨none, (.nilc 9 (.t 8))⟩, ⟨none, (.load 10 (.t 9) (some 8))⟩, ⟨none, (.call (some 11) (.c (.fn 13 [])) [(.t 10)])⟩, ⟨none, (.mv 7 (.t 11))⟩, ⟨none, (.ext 12 (.t 7) 0)⟩, ⟨none, (.ext 13 (.t 7) 1)⟩, ⟨none, (.ext 14 (.t 7) 2)⟩, ⟨none, (.alloc 4 z2)⟩, ⟨none, (.alloc 5 z2)⟩, ⟨none, (.store (.t 4) (.t 12) 2)⟩, ⟨none, (.store (.t 5) (.t 13) 2)⟩, ⟨none, (.mv 6 (.t 14))⟩] none (some ([0, 2, 6], [2]))
def w54_1 := @awpR_get Try.prog Q σ r54_1 _ _ [4, 5] ⟨rfl, rfl⟩
def r54_2 : MC := .reg [⟨none, (.mv 15 (.t 6))⟩, ⟨none, (.bin 16 .neq (.t 15) (.c (.imm true (.int .i64 0))))⟩] none (some ([0, 2, 6, 16], [2]))
def w54_2 := @awpR_no Try.prog Q σ r54_2 _ _ ⟨rfl, rfl⟩
def r54_3 : MC := .reg [⟨none, (.build 17 z8 [])⟩, ⟨none, (.mv 18 (.t 6))⟩, ⟨none, (.store (.t 2) (.t 17) 8)⟩, ⟨none, (.mv 3 (.t 18))⟩] none (some ([2, 3], [2]))
def w54_3 := @awpR_no Try.prog Q σ r54_3 _ _ ⟨rfl, rfl⟩
def r54_4 : MC := .reg [⟨none, (.mv 19 (.t 0))⟩, ⟨none, (.call (some 20) (.c (.fn 82 [])) [(.t 19)])⟩, ⟨none, (.store (.t 2) (.t 20) 8)⟩, ⟨none, (.mv 3 (.c (.imm true (.int .i64 0))))⟩] none (some ([2, 3], [2]))
def w54_4 := @awpR_no Try.prog Q σ r54_4 _ _ ⟨rfl, rfl⟩
def my54 : MC := (.seq r54_0 (.seq (.seq r54_1 (.seq r54_2 (.cond (.t 16) (.seq r54_3 .ret) .skip))) (.seq r54_4 .ret)))
theorem my54_is : trC Try.prog ⟨[], []⟩ ⟨[],
  [(0, [0, 2], [2]), (1, [0, 2, 6], [2]), (2, [0, 2, 6, 16], [2]), (3, [2, 3], [2]), (4, [2, 3], [2])]⟩ 21 (Try.f54.body.getD .skip) = some my54 := by kernel_rfl
theorem does54 {args : List LV} (hl : args.length.ble 21 = true) {S S' : List (List LV)} (hS : S'.length = S.length) {o : Out} (h : Lt ⟨numE 0 args, argS 0 S, []⟩ (awp Try.prog my54 (Fin [(.c 2 (some 8)), (.t 3)] o S'))) : Does Try.prog 54 args S o S' :=
  does_of_awp mixed Try.func54 (by kernel_rfl) (by kernel_rfl) my54_is (by kernel_rfl) (Nat.le_of_ble_eq_true hl) hS h
attribute [go_sem ↓] w54_0 w54_1 w54_2 w54_3 w54_4
attribute [go_sem] my54
/-! ### 20: lychgate/norm.Norm -/
def r20_0 : MC := .reg [⟨none, (.boxc 1 (.t 0))⟩, ⟨none, (.alloc 2 z8)⟩, ⟨none, (.mv 3 (.c (.imm true (.int .i64 0))))⟩] none (some ([1, 2], [2]))
def w20_0 := @awpR_get Try.prog Q σ r20_0 _ _ [2] ⟨rfl, rfl⟩
def r20_1 : MC := .reg [⟨none, (.load 9 (.t 1) (some 8))⟩, ⟨none, (.call (some 10) (.c (.fn 13 [])) [(.t 9)])⟩, ⟨none, (.mv 8 (.t 10))⟩, ⟨none, (.ext 11 (.t 8) 0)⟩, ⟨none, (.ext 12 (.t 8) 1)⟩, ⟨none, (.ext 13 (.t 8) 2)⟩, ⟨none, (.alloc 4 z2)⟩, ⟨none, (.alloc 5 z2)⟩, ⟨none, (.store (.t 4) (.t 11) 2)⟩, ⟨none, (.store (.t 5) (.t 12) 2)⟩, ⟨none, (.mv 6 (.t 13))⟩] none (some ([1, 2, 6], [2]))
def w20_1 := @awpR_get Try.prog Q σ r20_1 _ _ [4, 5] ⟨rfl, rfl⟩
def r20_2 : MC := .reg [⟨none, (.mv 14 (.t 6))⟩, ⟨none, (.bin 15 .neq (.t 14) (.c (.imm true (.int .i64 0))))⟩] none (some ([1, 2, 6, 15], [2]))
def w20_2 := @awpR_no Try.prog Q σ r20_2 _ _ ⟨rfl, rfl⟩
def r20_3 : MC := .reg [⟨none, (.build 16 z8 [])⟩, ⟨none, (.mv 17 (.t 6))⟩, ⟨none, (.store (.t 2) (.t 16) 8)⟩, ⟨none, (.mv 3 (.t 17))⟩] none (some ([2, 3], [2]))
def w20_3 := @awpR_no Try.prog Q σ r20_3 _ _ ⟨rfl, rfl⟩
def r20_4 : MC := .reg [⟨none, (.call (some 18) (.c (.fn 53 [])) [(.t 1)])⟩, ⟨none, (.alloc 7 z8)⟩, ⟨none, (.store (.t 7) (.t 18) 8)⟩] none (some ([2, 7], [2, 7]))
def w20_4 := @awpR_get Try.prog Q σ r20_4 _ _ [7] ⟨rfl, rfl⟩
def r20_5 : MC := .reg [⟨none, (.call (some 19) (.c (.fn 55 [])) [(.t 7)])⟩, ⟨none, (.call (some 20) (.c (.fn 54 [])) [(.t 19)])⟩, ⟨none, (.ext 21 (.t 20) 0)⟩, ⟨none, (.ext 22 (.t 20) 1)⟩, ⟨none, (.store (.t 2) (.t 21) 8)⟩, ⟨none, (.mv 3 (.t 22))⟩] none (some ([2, 3], [2]))
def w20_5 := @awpR_no Try.prog Q σ r20_5 _ _ ⟨rfl, rfl⟩
def my20 : MC := (.seq r20_0 (.seq (.seq r20_1 (.seq r20_2 (.cond (.t 15) (.seq r20_3 .ret) .skip))) (.seq r20_4 (.seq r20_5 .ret))))
theorem my20_is : trC Try.prog ⟨[1], []⟩ ⟨[],
  [(0, [1, 2], [2]), (1, [1, 2, 6], [2]), (2, [1, 2, 6, 15], [2]), (3, [2, 3], [2]), (4, [2, 7], [2, 7]), (5, [2, 3], [2])]⟩ 23 (Try.f20.body.getD .skip) = some my20 := by kernel_rfl
theorem does20 {args : List LV} (hl : args.length.ble 23 = true) {S S' : List (List LV)} (hS : S'.length = S.length) {o : Out} (h : Lt ⟨numE 0 args, argS 0 S, []⟩ (awp Try.prog my20 (Fin [(.c 2 (some 8)), (.t 3)] o S'))) : Does Try.prog 20 args S o S' :=
  does_of_awp mixed Try.func20 (by kernel_rfl) (by kernel_rfl) my20_is (by kernel_rfl) (Nat.le_of_ble_eq_true hl) hS h
attribute [go_sem ↓] w20_0 w20_1 w20_2 w20_3 w20_4 w20_5
attribute [go_sem] my20
/-! ### 22: lychgate/norm.Is -/
def r22_0 : MC := .reg [⟨none, (.boxc 1 (.t 0))⟩, ⟨none, (.mv 2 (.c (.imm true (.bool false))))⟩] none (some ([1], []))
def w22_0 := @awpR_no Try.prog Q σ r22_0 _ _ ⟨rfl, rfl⟩
def r22_1 : MC := .reg [⟨none, (.load 7 (.t 1) (some 8))⟩, ⟨none, (.call (some 8) (.c (.fn 13 [])) [(.t 7)])⟩, ⟨none, (.mv 6 (.t 8))⟩, ⟨none, (.ext 9 (.t 6) 0)⟩, ⟨none, (.ext 10 (.t 6) 1)⟩, ⟨none, (.ext 11 (.t 6) 2)⟩, ⟨none, (.alloc 3 z2)⟩, ⟨none, (.alloc 4 z2)⟩, ⟨none, (.store (.t 3) (.t 9) 2)⟩, ⟨none, (.store (.t 4) (.t 10) 2)⟩, ⟨none, (.mv 5 (.t 11))⟩] none (some ([1, 5], []))
def w22_1 := @awpR_get Try.prog Q σ r22_1 _ _ [3, 4] ⟨rfl, rfl⟩
def r22_2 : MC := .reg [⟨none, (.mv 12 (.t 5))⟩, ⟨none, (.bin 13 .eql (.t 12) (.c (.imm true (.int .i64 0))))⟩, ⟨none, (.mv 14 (.t 13))⟩, ⟨(some (14, true)), (.call (some 15) (.c (.fn 59 [])) [(.t 1)])⟩, ⟨none, (.pick 16 (.t 14) (.t 15) (.c (.imm true (.bool false))))⟩, ⟨none, (.mv 2 (.t 16))⟩] none (some ([2], []))
def w22_2 := @awpR_no Try.prog Q σ r22_2 _ _ ⟨rfl, rfl⟩
def my22 : MC := (.seq r22_0 (.seq r22_1 (.seq r22_2 .ret)))
theorem my22_is : trC Try.prog ⟨[1], []⟩ ⟨[],
  [(0, [1], []), (1, [1, 5], []), (2, [2], [])]⟩ 17 (Try.f22.body.getD .skip) = some my22 := by kernel_rfl
theorem does22 {args : List LV} (hl : args.length.ble 17 = true) {S S' : List (List LV)} (hS : S'.length = S.length) {o : Out} (h : Lt ⟨numE 0 args, argS 0 S, []⟩ (awp Try.prog my22 (Fin [(.t 2)] o S'))) : Does Try.prog 22 args S o S' :=
  does_of_awp mixed Try.func22 (by kernel_rfl) (by kernel_rfl) my22_is (by kernel_rfl) (Nat.le_of_ble_eq_true hl) hS h
attribute [go_sem ↓] w22_0 w22_1 w22_2
attribute [go_sem] my22
/-! ### 59: lychgate/norm.whole -/
def r59_0 : MC := .reg [⟨none, (.mv 2 (.c (.imm true (.bool false))))⟩] none (some ([0], []))
def w59_0 := @awpR_no Try.prog Q σ r59_0 _ _ ⟨rfl, rfl⟩
def r59_1 : MC := .reg [⟨none, (.mv 4 (.t 0))⟩, ⟨none, (.nilc 5 (.t 4))⟩, ⟨none, (.fad 6 (.t 5) 0)⟩, ⟨none, (.load 7 (.t 6) none)⟩, ⟨none, (.bin 8 .eql (.t 7) (.c (.imm true (.int .i8 0))))⟩, ⟨none, (.mv 9 (.t 8))⟩, ⟨(some (9, true)), (.mv 10 (.t 0))⟩, ⟨(some (9, true)), (.nilc 11 (.t 10))⟩, ⟨(some (9, true)), (.fad 12 (.t 11) 1)⟩, ⟨(some (9, true)), (.fad 13 (.t 12) 0)⟩, ⟨(some (9, true)), (.load 14 (.t 13) none)⟩, ⟨(some (9, true)), (.bin 15 .eql (.t 14) (.c (.imm true (.int .i8 0))))⟩, ⟨none, (.pick 16 (.t 9) (.t 15) (.c (.imm true (.bool false))))⟩, ⟨none, (.mv 3 (.t 16))⟩] none (some ([0, 3], []))
def w59_1 := @awpR_no Try.prog Q σ r59_1 _ _ ⟨rfl, rfl⟩
def r59_2 : MC := .reg [⟨none, (.mv 2 (.c (.imm true (.bool true))))⟩] none (some ([2], []))
def w59_2 := @awpR_no Try.prog Q σ r59_2 _ _ ⟨rfl, rfl⟩
def r59_3 : MC := .reg [⟨none, (.mv 18 (.t 0))⟩, ⟨none, (.nilc 19 (.t 18))⟩, ⟨none, (.fad 20 (.t 19) 0)⟩, ⟨none, (.load 21 (.t 20) none)⟩, ⟨none, (.bin 22 .eql (.t 21) (.c (.imm true (.int .i8 7))))⟩, ⟨none, (.mv 23 (.t 22))⟩, ⟨(some (23, true)), (.mv 24 (.t 0))⟩, ⟨(some (23, true)), (.nilc 25 (.t 24))⟩, ⟨(some (23, true)), (.fad 26 (.t 25) 7)⟩, ⟨(some (23, true)), (.load 27 (.t 26) none)⟩, ⟨(some (23, true)), (.iad 28 (.t 27) (.c (.imm true (.int .i64 0))) 8)⟩, ⟨(some (23, true)), (.fad 29 (.t 28) 0)⟩, ⟨(some (23, true)), (.load 30 (.t 29) none)⟩, ⟨(some (23, true)), (.bin 31 .eql (.t 30) (.c (.imm true (.int .i8 3))))⟩, ⟨none, (.pick 32 (.t 23) (.t 31) (.c (.imm true (.bool false))))⟩, ⟨none, (.mv 17 (.t 32))⟩] none (some ([0, 17], []))
def w59_3 := @awpR_no Try.prog Q σ r59_3 _ _ ⟨rfl, rfl⟩
def r59_4 : MC := .reg [⟨none, (.mv 33 (.t 0))⟩, ⟨none, (.nilc 34 (.t 33))⟩, ⟨none, (.fad 35 (.t 34) 7)⟩, ⟨none, (.load 36 (.t 35) none)⟩, ⟨none, (.iad 37 (.t 36) (.c (.imm true (.int .i64 1))) 8)⟩, ⟨none, (.call (some 38) (.c (.fn 93 [])) [(.t 37)])⟩, ⟨none, (.mv 2 (.t 38))⟩] none (some ([2], []))
def w59_4 := @awpR_no Try.prog Q σ r59_4 _ _ ⟨rfl, rfl⟩
def r59_5 : MC := .reg [⟨none, (.mv 39 (.t 0))⟩, ⟨none, (.call (some 40) (.c (.fn 93 [])) [(.t 39)])⟩, ⟨none, (.mv 2 (.t 40))⟩] none (some ([2], []))
def w59_5 := @awpR_no Try.prog Q σ r59_5 _ _ ⟨rfl, rfl⟩
def my59 : MC := (.seq r59_0 (.seq (.block 0 (.seq r59_1 (.cond (.t 3) (.seq r59_2 .ret) (.seq r59_3 (.cond (.t 17) (.seq r59_4 .ret) .skip))))) (.seq r59_5 .ret)))
theorem my59_is : trC Try.prog ⟨[], []⟩ ⟨[],
  [(0, [0], []), (1, [0, 3], []), (2, [2], []), (3, [0, 17], []), (4, [2], []), (5, [2], [])]⟩ 41 (Try.f59.body.getD .skip) = some my59 := by kernel_rfl
theorem does59 {args : List LV} (hl : args.length.ble 41 = true) {S S' : List (List LV)} (hS : S'.length = S.length) {o : Out} (h : Lt ⟨numE 0 args, argS 0 S, []⟩ (awp Try.prog my59 (Fin [(.t 2)] o S'))) : Does Try.prog 59 args S o S' :=
  does_of_awp mixed Try.func59 (by kernel_rfl) (by kernel_rfl) my59_is (by kernel_rfl) (Nat.le_of_ble_eq_true hl) hS h
attribute [go_sem ↓] w59_0 w59_1 w59_2 w59_3 w59_4 w59_5
attribute [go_sem] my59
/-! ### 93: lychgate/norm.inner -/
def r93_0 : MC := .reg [⟨none, (.mv 2 (.c (.imm true (.bool false))))⟩] none (some ([0], []))
def w93_0 := @awpR_no Try.prog Q σ r93_0 _ _ ⟨rfl, rfl⟩
def r93_1 : MC := .reg [⟨none, (.mv 3 (.t 0))⟩, ⟨none, (.nilc 4 (.t 3))⟩, ⟨none, (.fad 5 (.t 4) 0)⟩, ⟨none, (.load 6 (.t 5) none)⟩] none (some ([0, 6], []))
def w93_1 := @awpR_no Try.prog Q σ r93_1 _ _ ⟨rfl, rfl⟩
def r93_2 : MC := .reg [⟨none, (.bin 8 .eql (.t 6) (.c (.imm true (.int .i8 1))))⟩, ⟨none, (.mv 7 (.t 8))⟩] none (some ([0, 6, 7], []))
def w93_2 := @awpR_no Try.prog Q σ r93_2 _ _ ⟨rfl, rfl⟩
def r93_3 : MC := .reg [⟨none, (.mv 2 (.c (.imm true (.bool true))))⟩] none (some ([2], []))
def w93_3 := @awpR_no Try.prog Q σ r93_3 _ _ ⟨rfl, rfl⟩
def r93_4 : MC := .reg [⟨none, (.bin 10 .eql (.t 6) (.c (.imm true (.int .i8 7))))⟩, ⟨none, (.mv 9 (.t 10))⟩] none (some ([0, 9], []))
def w93_4 := @awpR_no Try.prog Q σ r93_4 _ _ ⟨rfl, rfl⟩
def r93_5 : MC := .reg [⟨none, (.mv 11 (.t 0))⟩, ⟨none, (.nilc 12 (.t 11))⟩, ⟨none, (.fad 13 (.t 12) 7)⟩, ⟨none, (.load 14 (.t 13) none)⟩, ⟨none, (.iad 15 (.t 14) (.c (.imm true (.int .i64 1))) 8)⟩, ⟨none, (.fad 16 (.t 15) 0)⟩, ⟨none, (.load 17 (.t 16) none)⟩, ⟨none, (.bin 18 .eql (.t 17) (.c (.imm true (.int .i8 2))))⟩, ⟨none, (.mv 19 (.t 18))⟩, ⟨(some (19, true)), (.mv 20 (.t 0))⟩, ⟨(some (19, true)), (.nilc 21 (.t 20))⟩, ⟨(some (19, true)), (.fad 22 (.t 21) 7)⟩, ⟨(some (19, true)), (.load 23 (.t 22) none)⟩, ⟨(some (19, true)), (.iad 24 (.t 23) (.c (.imm true (.int .i64 0))) 8)⟩, ⟨(some (19, true)), (.call (some 25) (.c (.fn 122 [])) [(.t 24)])⟩, ⟨none, (.pick 26 (.t 19) (.t 25) (.c (.imm true (.bool false))))⟩, ⟨none, (.mv 2 (.t 26))⟩] none (some ([2], []))
def w93_5 := @awpR_no Try.prog Q σ r93_5 _ _ ⟨rfl, rfl⟩
def r93_6 : MC := .reg [⟨none, (.mv 27 (.t 0))⟩, ⟨none, (.call (some 28) (.c (.fn 122 [])) [(.t 27)])⟩, ⟨none, (.mv 2 (.t 28))⟩] none (some ([2], []))
def w93_6 := @awpR_no Try.prog Q σ r93_6 _ _ ⟨rfl, rfl⟩
def my93 : MC := (.seq r93_0 (.seq (.seq r93_1 (.block 0 (.seq r93_2 (.cond (.t 7) (.seq r93_3 .ret) (.seq r93_4 (.cond (.t 9) (.seq r93_5 .ret) .skip)))))) (.seq r93_6 .ret)))
theorem my93_is : trC Try.prog ⟨[], []⟩ ⟨[],
  [(0, [0], []), (1, [0, 6], []), (2, [0, 6, 7], []), (3, [2], []), (4, [0, 9], []), (5, [2], []), (6, [2], [])]⟩ 29 (Try.f93.body.getD .skip) = some my93 := by kernel_rfl
theorem does93 {args : List LV} (hl : args.length.ble 29 = true) {S S' : List (List LV)} (hS : S'.length = S.length) {o : Out} (h : Lt ⟨numE 0 args, argS 0 S, []⟩ (awp Try.prog my93 (Fin [(.t 2)] o S'))) : Does Try.prog 93 args S o S' :=
  does_of_awp mixed Try.func93 (by kernel_rfl) (by kernel_rfl) my93_is (by kernel_rfl) (Nat.le_of_ble_eq_true hl) hS h
attribute [go_sem ↓] w93_0 w93_1 w93_2 w93_3 w93_4 w93_5 w93_6
attribute [go_sem] my93
/-! ### 122: lychgate/norm.middle -/
def r122_0 : MC := .reg [⟨none, (.mv 2 (.c (.imm true (.bool false))))⟩] none (some ([0], []))
def w122_0 := @awpR_no Try.prog Q σ r122_0 _ _ ⟨rfl, rfl⟩
def r122_1 : MC := .reg [⟨none, (.mv 3 (.t 0))⟩, ⟨none, (.nilc 4 (.t 3))⟩, ⟨none, (.fad 5 (.t 4) 0)⟩, ⟨none, (.load 6 (.t 5) none)⟩] none (some ([0, 6], []))
def w122_1 := @awpR_no Try.prog Q σ r122_1 _ _ ⟨rfl, rfl⟩
def r122_2 : MC := .reg [⟨none, (.bin 8 .eql (.t 6) (.c (.imm true (.int .i8 0))))⟩, ⟨none, (.mv 7 (.t 8))⟩] none (some ([0, 6, 7], []))
def w122_2 := @awpR_no Try.prog Q σ r122_2 _ _ ⟨rfl, rfl⟩
def r122_3 : MC := .reg [⟨none, (.mv 9 (.t 0))⟩, ⟨none, (.nilc 10 (.t 9))⟩, ⟨none, (.fad 11 (.t 10) 1)⟩, ⟨none, (.fad 12 (.t 11) 0)⟩, ⟨none, (.load 13 (.t 12) none)⟩, ⟨none, (.bin 14 .eql (.t 13) (.c (.imm true (.int .i8 1))))⟩, ⟨none, (.mv 15 (.t 14))⟩, ⟨(some (15, false)), (.mv 16 (.t 0))⟩, ⟨(some (15, false)), (.nilc 17 (.t 16))⟩, ⟨(some (15, false)), (.fad 18 (.t 17) 1)⟩, ⟨(some (15, false)), (.fad 19 (.t 18) 0)⟩, ⟨(some (15, false)), (.load 20 (.t 19) none)⟩, ⟨(some (15, false)), (.bin 21 .eql (.t 20) (.c (.imm true (.int .i8 2))))⟩, ⟨none, (.pick 22 (.t 15) (.c (.imm true (.bool true))) (.t 21))⟩, ⟨none, (.mv 2 (.t 22))⟩] none (some ([2], []))
def w122_3 := @awpR_no Try.prog Q σ r122_3 _ _ ⟨rfl, rfl⟩
def r122_4 : MC := .reg [⟨none, (.bin 24 .eql (.t 6) (.c (.imm true (.int .i8 4))))⟩, ⟨none, (.mv 23 (.t 24))⟩] none (some ([0, 6, 23], []))
def w122_4 := @awpR_no Try.prog Q σ r122_4 _ _ ⟨rfl, rfl⟩
def r122_5 : MC := .reg [⟨none, (.bin 25 .eql (.t 6) (.c (.imm true (.int .i8 5))))⟩, ⟨none, (.mv 23 (.t 25))⟩] none (some ([0, 6, 23], []))
def w122_5 := @awpR_no Try.prog Q σ r122_5 _ _ ⟨rfl, rfl⟩
def r122_6 : MC := .reg [⟨none, (.bin 26 .eql (.t 6) (.c (.imm true (.int .i8 6))))⟩, ⟨none, (.mv 23 (.t 26))⟩] none (some ([0, 23], []))
def w122_6 := @awpR_no Try.prog Q σ r122_6 _ _ ⟨rfl, rfl⟩
def r122_7 : MC := .reg [⟨none, (.mv 27 (.t 0))⟩, ⟨none, (.nilc 28 (.t 27))⟩, ⟨none, (.fad 29 (.t 28) 7)⟩, ⟨none, (.load 30 (.t 29) none)⟩, ⟨none, (.iad 31 (.t 30) (.c (.imm true (.int .i64 0))) 8)⟩, ⟨none, (.call (some 32) (.c (.fn 59 [])) [(.t 31)])⟩, ⟨none, (.mv 33 (.t 32))⟩, ⟨(some (33, true)), (.mv 34 (.t 0))⟩, ⟨(some (33, true)), (.nilc 35 (.t 34))⟩, ⟨(some (33, true)), (.fad 36 (.t 35) 7)⟩, ⟨(some (33, true)), (.load 37 (.t 36) none)⟩, ⟨(some (33, true)), (.iad 38 (.t 37) (.c (.imm true (.int .i64 1))) 8)⟩, ⟨(some (33, true)), (.call (some 39) (.c (.fn 59 [])) [(.t 38)])⟩, ⟨none, (.pick 40 (.t 33) (.t 39) (.c (.imm true (.bool false))))⟩, ⟨none, (.mv 2 (.t 40))⟩] none (some ([2], []))
def w122_7 := @awpR_no Try.prog Q σ r122_7 _ _ ⟨rfl, rfl⟩
def r122_8 : MC := .reg [⟨none, (.mv 2 (.c (.imm true (.bool false))))⟩] none (some ([2], []))
def w122_8 := @awpR_no Try.prog Q σ r122_8 _ _ ⟨rfl, rfl⟩
def my122 : MC := (.seq r122_0 (.seq (.seq r122_1 (.block 0 (.seq r122_2 (.cond (.t 7) (.seq r122_3 .ret) (.seq (.seq r122_4 (.cond (.t 23) .skip (.seq r122_5 (.cond (.t 23) .skip r122_6)))) (.cond (.t 23) (.seq r122_7 .ret) .skip)))))) (.seq r122_8 .ret)))
theorem my122_is : trC Try.prog ⟨[], []⟩ ⟨[],
  [(0, [0], []), (1, [0, 6], []), (2, [0, 6, 7], []), (3, [2], []), (4, [0, 6, 23], []), (5, [0, 6, 23], []), (6, [0, 23], []), (7, [2], []), (8, [2], [])]⟩ 41 (Try.f122.body.getD .skip) = some my122 := by kernel_rfl
theorem does122 {args : List LV} (hl : args.length.ble 41 = true) {S S' : List (List LV)} (hS : S'.length = S.length) {o : Out} (h : Lt ⟨numE 0 args, argS 0 S, []⟩ (awp Try.prog my122 (Fin [(.t 2)] o S'))) : Does Try.prog 122 args S o S' :=
  does_of_awp mixed Try.func122 (by kernel_rfl) (by kernel_rfl) my122_is (by kernel_rfl) (Nat.le_of_ble_eq_true hl) hS h
attribute [go_sem ↓] w122_0 w122_1 w122_2 w122_3 w122_4 w122_5 w122_6 w122_7 w122_8
attribute [go_sem] my122
/-! ### 32: lychgate/norm.Then -/
def r32_0 : MC := .reg [⟨none, (.boxc 2 (.t 0))⟩, ⟨none, (.boxc 3 (.t 1))⟩, ⟨none, (.alloc 4 z8)⟩, ⟨none, (.mv 5 (.c (.imm true (.int .i64 0))))⟩] none (some ([2, 3, 4], [4]))
def w32_0 := @awpR_get Try.prog Q σ r32_0 _ _ [4] ⟨rfl, rfl⟩
def r32_1 : MC := .reg [⟨none, (.load 14 (.t 2) (some 8))⟩, ⟨none, (.call (some 15) (.c (.fn 22 [])) [(.t 14)])⟩, ⟨none, (.un 16 .not (.t 15))⟩, ⟨none, (.mv 17 (.t 16))⟩, ⟨(some (17, false)), (.load 18 (.t 3) (some 8))⟩, ⟨(some (17, false)), (.call (some 19) (.c (.fn 22 [])) [(.t 18)])⟩, ⟨(some (17, false)), (.un 20 .not (.t 19))⟩, ⟨none, (.pick 21 (.t 17) (.c (.imm true (.bool true))) (.t 20))⟩] none (some ([2, 3, 4, 21], [4]))
def w32_1 := @awpR_no Try.prog Q σ r32_1 _ _ ⟨rfl, rfl⟩
def r32_2 : MC := .reg [⟨none, (.build 22 z8 [])⟩, ⟨none, (.store (.t 4) (.t 22) 8)⟩, ⟨none, (.mv 5 (.c (.imm true (.int .i64 150))))⟩] none (some ([4, 5], [4]))
def w32_2 := @awpR_no Try.prog Q σ r32_2 _ _ ⟨rfl, rfl⟩
def r32_3 : MC := .reg [⟨none, (.load 24 (.t 2) (some 8))⟩, ⟨none, (.call (some 25) (.c (.fn 13 [])) [(.t 24)])⟩, ⟨none, (.mv 23 (.t 25))⟩, ⟨none, (.ext 26 (.t 23) 0)⟩, ⟨none, (.ext 27 (.t 23) 1)⟩, ⟨none, (.ext 28 (.t 23) 2)⟩, ⟨none, (.alloc 6 z2)⟩, ⟨none, (.alloc 7 z2)⟩, ⟨none, (.store (.t 6) (.t 26) 2)⟩, ⟨none, (.store (.t 7) (.t 27) 2)⟩, ⟨none, (.mv 8 (.t 28))⟩] none (some ([2, 3, 4, 7], [4, 7]))
def w32_3 := @awpR_get Try.prog Q σ r32_3 _ _ [6, 7] ⟨rfl, rfl⟩
def r32_4 : MC := .reg [⟨none, (.load 30 (.t 3) (some 8))⟩, ⟨none, (.call (some 31) (.c (.fn 13 [])) [(.t 30)])⟩, ⟨none, (.mv 29 (.t 31))⟩, ⟨none, (.ext 32 (.t 29) 0)⟩, ⟨none, (.ext 33 (.t 29) 1)⟩, ⟨none, (.ext 34 (.t 29) 2)⟩, ⟨none, (.alloc 9 z2)⟩, ⟨none, (.alloc 10 z2)⟩, ⟨none, (.store (.t 9) (.t 32) 2)⟩, ⟨none, (.store (.t 10) (.t 33) 2)⟩, ⟨none, (.mv 11 (.t 34))⟩] none (some ([2, 3, 4, 7, 9], [4, 7, 9]))
def w32_4 := @awpR_get Try.prog Q σ r32_4 _ _ [9, 10] ⟨rfl, rfl⟩
def r32_5 : MC := .reg [⟨none, (.load 35 (.t 7) (some 2))⟩, ⟨none, (.load 36 (.t 9) (some 2))⟩, ⟨none, (.call (some 37) (.c (.fn 14 [])) [(.t 35), (.t 36)])⟩, ⟨none, (.un 38 .not (.t 37))⟩] none (some ([2, 3, 4, 38], [4]))
def w32_5 := @awpR_no Try.prog Q σ r32_5 _ _ ⟨rfl, rfl⟩
def r32_6 : MC := .reg [⟨none, (.build 39 z8 [])⟩, ⟨none, (.store (.t 4) (.t 39) 8)⟩, ⟨none, (.mv 5 (.c (.imm true (.int .i64 150))))⟩] none (some ([4, 5], [4]))
def w32_6 := @awpR_no Try.prog Q σ r32_6 _ _ ⟨rfl, rfl⟩
def r32_7 : MC := .reg [⟨none, (.call (some 40) (.c (.fn 53 [])) [(.t 2)])⟩, ⟨none, (.call (some 41) (.c (.fn 53 [])) [(.t 3)])⟩, ⟨none, (.alloc 12 z8)⟩, ⟨none, (.alloc 13 z8)⟩, ⟨none, (.store (.t 12) (.t 40) 8)⟩, ⟨none, (.store (.t 13) (.t 41) 8)⟩] none (some ([4, 12, 13], [4, 12, 13]))
def w32_7 := @awpR_get Try.prog Q σ r32_7 _ _ [12, 13] ⟨rfl, rfl⟩
def r32_8 : MC := .reg [⟨none, (.call (some 42) (.c (.fn 67 [])) [(.t 12), (.t 13)])⟩, ⟨none, (.call (some 43) (.c (.fn 54 [])) [(.t 42)])⟩, ⟨none, (.ext 44 (.t 43) 0)⟩, ⟨none, (.ext 45 (.t 43) 1)⟩, ⟨none, (.store (.t 4) (.t 44) 8)⟩, ⟨none, (.mv 5 (.t 45))⟩] none (some ([4, 5], [4]))
def w32_8 := @awpR_no Try.prog Q σ r32_8 _ _ ⟨rfl, rfl⟩
def my32 : MC := (.seq r32_0 (.seq (.seq r32_1 (.cond (.t 21) (.seq r32_2 .ret) .skip)) (.seq r32_3 (.seq r32_4 (.seq (.seq r32_5 (.cond (.t 38) (.seq r32_6 .ret) .skip)) (.seq r32_7 (.seq r32_8 .ret)))))))
theorem my32_is : trC Try.prog ⟨[2, 3], []⟩ ⟨[],
  [(0, [2, 3, 4], [4]), (1, [2, 3, 4, 21], [4]), (2, [4, 5], [4]), (3, [2, 3, 4, 7], [4, 7]), (4, [2, 3, 4, 7, 9], [4, 7, 9]), (5, [2, 3, 4, 38], [4]), (6, [4, 5], [4]), (7, [4, 12, 13], [4, 12, 13]), (8, [4, 5], [4])]⟩ 46 (Try.f32.body.getD .skip) = some my32 := by kernel_rfl
theorem does32 {args : List LV} (hl : args.length.ble 46 = true) {S S' : List (List LV)} (hS : S'.length = S.length) {o : Out} (h : Lt ⟨numE 0 args, argS 0 S, []⟩ (awp Try.prog my32 (Fin [(.c 4 (some 8)), (.t 5)] o S'))) : Does Try.prog 32 args S o S' :=
  does_of_awp mixed Try.func32 (by kernel_rfl) (by kernel_rfl) my32_is (by kernel_rfl) (Nat.le_of_ble_eq_true hl) hS h
attribute [go_sem ↓] w32_0 w32_1 w32_2 w32_3 w32_4 w32_5 w32_6 w32_7 w32_8
attribute [go_sem] my32
/-! ### 29: lychgate/norm.Cast -/
def r29_0 : MC := .reg [⟨none, (.boxc 3 (.t 0))⟩, ⟨none, (.boxc 4 (.t 1))⟩, ⟨none, (.alloc 6 z8)⟩, ⟨none, (.mv 7 (.c (.imm true (.int .i64 0))))⟩] none (some ([2, 3, 4, 6], [6]))
def w29_0 := @awpR_get Try.prog Q σ r29_0 _ _ [6] ⟨rfl, rfl⟩
def r29_1 : MC := .reg [⟨none, (.load 11 (.t 3) (some 2))⟩, ⟨none, (.load 12 (.t 4) (some 2))⟩, ⟨none, (.mv 13 (.t 2))⟩, ⟨none, (.call (some 14) (.c (.fn 11 [])) [(.t 11), (.t 12), (.t 13)])⟩, ⟨none, (.mv 10 (.t 14))⟩, ⟨none, (.ext 15 (.t 10) 0)⟩, ⟨none, (.ext 16 (.t 10) 1)⟩, ⟨none, (.alloc 8 z8)⟩, ⟨none, (.store (.t 8) (.t 15) 8)⟩, ⟨none, (.mv 9 (.t 16))⟩] none (some ([6, 8, 9], [6, 8]))
def w29_1 := @awpR_get Try.prog Q σ r29_1 _ _ [8] ⟨rfl, rfl⟩
def r29_2 : MC := .reg [⟨none, (.mv 17 (.t 9))⟩, ⟨none, (.bin 18 .neq (.t 17) (.c (.imm true (.int .i64 0))))⟩] none (some ([6, 8, 9, 18], [6, 8]))
def w29_2 := @awpR_no Try.prog Q σ r29_2 _ _ ⟨rfl, rfl⟩
def r29_3 : MC := .reg [⟨none, (.build 19 z8 [])⟩, ⟨none, (.mv 20 (.t 9))⟩, ⟨none, (.store (.t 6) (.t 19) 8)⟩, ⟨none, (.mv 7 (.t 20))⟩] none (some ([6, 7], [6]))
def w29_3 := @awpR_no Try.prog Q σ r29_3 _ _ ⟨rfl, rfl⟩
def r29_4 : MC := .reg [⟨none, (.load 21 (.t 8) (some 8))⟩, ⟨none, (.call (some 22) (.c (.fn 20 [])) [(.t 21)])⟩, ⟨none, (.ext 23 (.t 22) 0)⟩, ⟨none, (.ext 24 (.t 22) 1)⟩, ⟨none, (.store (.t 6) (.t 23) 8)⟩, ⟨none, (.mv 7 (.t 24))⟩] none (some ([6, 7], [6]))
def w29_4 := @awpR_no Try.prog Q σ r29_4 _ _ ⟨rfl, rfl⟩
def my29 : MC := (.seq r29_0 (.seq r29_1 (.seq (.seq r29_2 (.cond (.t 18) (.seq r29_3 .ret) .skip)) (.seq r29_4 .ret))))
theorem my29_is : trC Try.prog ⟨[3, 4], []⟩ ⟨[],
  [(0, [2, 3, 4, 6], [6]), (1, [6, 8, 9], [6, 8]), (2, [6, 8, 9, 18], [6, 8]), (3, [6, 7], [6]), (4, [6, 7], [6])]⟩ 25 (Try.f29.body.getD .skip) = some my29 := by kernel_rfl
theorem does29 {args : List LV} (hl : args.length.ble 25 = true) {S S' : List (List LV)} (hS : S'.length = S.length) {o : Out} (h : Lt ⟨numE 0 args, argS 0 S, []⟩ (awp Try.prog my29 (Fin [(.c 6 (some 8)), (.t 7)] o S'))) : Does Try.prog 29 args S o S' :=
  does_of_awp mixed Try.func29 (by kernel_rfl) (by kernel_rfl) my29_is (by kernel_rfl) (Nat.le_of_ble_eq_true hl) hS h
attribute [go_sem ↓] w29_0 w29_1 w29_2 w29_3 w29_4
attribute [go_sem] my29
end Go.Proofs.Ytopgmopdjiahmaa.Lg

/- Merging: the small functions, and where a normal form goes from and to. Conditions: none; plain lemmas. -/
set_option linter.unusedVariables false
set_option linter.unusedSimpArgs false
set_option maxRecDepth 100000
set_option maxHeartbeats 2000000
namespace Go.Proofs.Ytopgmopdjiahmaa.Lg
open Go Go.RowKit Go.Proofs

theorem renV_fn0 {D : List Nat} {n : Nat} {f : FuncId} : renV D (n + 1) (.fn f []) = some (.fn f []) := rfl
attribute [go_sem] renV_fn0
theorem munk_does (c : Cn) (b : Bool) (h : b = match c with | .mk k ty _ _ _ _ => (k == 0 && ty.k == 0)) : Does Try.prog 99 [.imm false (.ptr c.cells 0)] [] (.ret true (.bool b)) [] := by
  obtain ⟨k, ty, to, lab, neg, ks⟩ := c
  subst h
  refine does99 (by rfl) (by rfl) ?_
  by_cases hk : k = 0
  · subst hk
    (try simp (implicitDefEqProofs := false) only [go_sem, ↓reduceIte, Nat.reduceEqDiff, reduceCtorEq, Nat.reduceAdd, Nat.reduceSub, Nat.reduceLeDiff, Nat.reduceLT, Nat.reduceMul, Int.reduceToNat, Int.reduceLT, Int.reduceLE, Cn.cells, show ((0 : Int) == 0) = true from rfl])
  · (try simp (implicitDefEqProofs := false) only [go_sem, ↓reduceIte, Nat.reduceEqDiff, reduceCtorEq, Nat.reduceAdd, Nat.reduceSub, Nat.reduceLeDiff, Nat.reduceLT, Nat.reduceMul, Int.reduceToNat, Int.reduceLT, Int.reduceLE, Cn.cells, show (k == 0) = false from by simpa using hk])
theorem mout_no {c : Cn} (h : c.kd ≠ 7) : Does Try.prog 100 [.imm false (.ptr c.cells 0)] [] (.ret true (.bool false)) [] := by
  obtain ⟨k, ty, to, lab, neg, ks⟩ := c
  refine does100 (by rfl) (by rfl) ?_
  (try simp (implicitDefEqProofs := false) only [go_sem, ↓reduceIte, Nat.reduceEqDiff, reduceCtorEq, Nat.reduceAdd, Nat.reduceSub, Nat.reduceLeDiff, Nat.reduceLT, Nat.reduceMul, Int.reduceToNat, Int.reduceLT, Int.reduceLE, Cn.cells, show (k == 7) = false from by simpa [Cn.kd] using h])
theorem mout_yes (x y : Cn) : Does Try.prog 100 [.imm false (.ptr (part 7 x y).cells 0)] [] (.ret true (.bool (x.kd == 3))) [] := by
  obtain ⟨k, ty, to, lab, neg, ks⟩ := x
  refine does100 (by rfl) (by rfl) ?_
  (try simp (implicitDefEqProofs := false) only [go_sem, ↓reduceIte, Nat.reduceEqDiff, reduceCtorEq, Nat.reduceAdd, Nat.reduceSub, Nat.reduceLeDiff, Nat.reduceLT, Nat.reduceMul, Int.reduceToNat, Int.reduceLT, Int.reduceLE, part_cells, Cn.cells, Cn.kd, show ((7 : Int) == 7) = true from rfl])
theorem min_no {c : Cn} (h : c.kd ≠ 7) : Does Try.prog 103 [.imm false (.ptr c.cells 0)] [] (.ret true (.bool false)) [] := by
  obtain ⟨k, ty, to, lab, neg, ks⟩ := c
  refine does103 (by rfl) (by rfl) ?_
  (try simp (implicitDefEqProofs := false) only [go_sem, ↓reduceIte, Nat.reduceEqDiff, reduceCtorEq, Nat.reduceAdd, Nat.reduceSub, Nat.reduceLeDiff, Nat.reduceLT, Nat.reduceMul, Int.reduceToNat, Int.reduceLT, Int.reduceLE, Cn.cells, show (k == 7) = false from by simpa [Cn.kd] using h])
theorem min_yes (x y : Cn) : Does Try.prog 103 [.imm false (.ptr (part 7 x y).cells 0)] [] (.ret true (.bool (y.kd == 2))) [] := by
  obtain ⟨k, ty, to, lab, neg, ks⟩ := y
  refine does103 (by rfl) (by rfl) ?_
  (try simp (implicitDefEqProofs := false) only [go_sem, ↓reduceIte, Nat.reduceEqDiff, reduceCtorEq, Nat.reduceAdd, Nat.reduceSub, Nat.reduceLeDiff, Nat.reduceLT, Nat.reduceMul, Int.reduceToNat, Int.reduceLT, Int.reduceLE, part_cells, Cn.cells, Cn.kd, show ((7 : Int) == 7) = true from rfl])
theorem msame_does (c d : Cn) (b : Bool) (h : b = match c, d with | .mk _ ty _ _ _ _, .mk _ ty' _ _ _ _ => ty.k == ty'.k) :
    Does Try.prog 104 [.imm false (.ptr c.cells 1), .imm false (.ptr d.cells 1)] [] (.ret true (.bool b)) [] := by
  obtain ⟨k, ty, to, lab, neg, ks⟩ := c
  obtain ⟨k', ty', to', lab', neg', ks'⟩ := d
  subst h
  refine does104 (by rfl) (by rfl) ?_
  (try simp (implicitDefEqProofs := false) only [go_sem, ↓reduceIte, Nat.reduceEqDiff, reduceCtorEq, Nat.reduceAdd, Nat.reduceSub, Nat.reduceLeDiff, Nat.reduceLT, Nat.reduceMul, Int.reduceToNat, Int.reduceLT, Int.reduceLE, Cn.cells])
theorem mseq_does (a b : Cn) : Does Try.prog 101 [.imm false (.agg a.cells), .imm false (.agg b.cells)] [] (.ret false (.ptr (part 7 a b).cells 0)) [] := by
  obtain ⟨k, ty, to, lab, neg, ks⟩ := a
  obtain ⟨k', ty', to', lab', neg', ks'⟩ := b
  refine does101 (by rfl) (by rfl) ?_
  (try simp (implicitDefEqProofs := false) only [go_sem, ↓reduceIte, Nat.reduceEqDiff, reduceCtorEq, Nat.reduceAdd, Nat.reduceSub, Nat.reduceLeDiff, Nat.reduceLT, Nat.reduceMul, Int.reduceToNat, Int.reduceLT, Int.reduceLE, Cn.cells, part_cells])

/-- where it goes from and to -/
def EnD (c : Cn) (e : Ty × Ty) : Prop := Does Try.prog 126 [.imm false (.ptr c.cells 0)] [] (.ret false (.tup [.agg e.1.cells, .agg e.2.cells])) []
theorem mtwo_does (k : Int) (a b : Ty) : Does Try.prog 140 [.imm false (.int .i8 k), .imm false (.agg a.cells), .imm false (.agg b.cells)] [] (.ret false (.agg [.int .i8 k, .slice [a.cells, b.cells]])) [] := by
  rw [Ty.cells_eq a, Ty.cells_eq b]
  refine does140 (by rfl) (by rfl) ?_
  (try simp (implicitDefEqProofs := false) only [go_sem, ↓reduceIte, Nat.reduceEqDiff, reduceCtorEq, Nat.reduceAdd, Nat.reduceSub, Nat.reduceLeDiff, Nat.reduceLT, Nat.reduceMul, Int.reduceToNat, Int.reduceLT, Int.reduceLE])
theorem en_id (ty to : Ty) (lab : Int) (neg : Bool) (ks : List Cn) : EnD (.mk 0 ty to lab neg ks) (ty, ty) := by
  unfold EnD
  simp only [Ty.cells_eq]
  refine does126 (by rfl) (by rfl) ?_
  (try simp (implicitDefEqProofs := false) only [go_sem, ↓reduceIte, Nat.reduceEqDiff, reduceCtorEq, Nat.reduceAdd, Nat.reduceSub, Nat.reduceLeDiff, Nat.reduceLT, Nat.reduceMul, Int.reduceToNat, Int.reduceLT, Int.reduceLE, Cn.cells, show ((0 : Int) == 0) = true from rfl])
theorem en_fail (ty to : Ty) (lab : Int) (neg : Bool) (ks : List Cn) : EnD (.mk 1 ty to lab neg ks) (ty, to) := by
  unfold EnD
  simp only [Ty.cells_eq]
  refine does126 (by rfl) (by rfl) ?_
  (try simp (implicitDefEqProofs := false) only [go_sem, ↓reduceIte, Nat.reduceEqDiff, reduceCtorEq, Nat.reduceAdd, Nat.reduceSub, Nat.reduceLeDiff, Nat.reduceLT, Nat.reduceMul, Int.reduceToNat, Int.reduceLT, Int.reduceLE, Cn.cells, show ((1 : Int) == 0) = false from rfl, show ((1 : Int) == 1) = true from rfl])
theorem en_inn (ty to : Ty) (lab : Int) (neg : Bool) (ks : List Cn) : EnD (.mk 2 ty to lab neg ks) (ty, .un) := by
  unfold EnD
  simp only [Ty.cells_eq, Ty.un]
  refine does126 (by rfl) (by rfl) ?_
  (try simp (implicitDefEqProofs := false) only [go_sem, ↓reduceIte, Nat.reduceEqDiff, reduceCtorEq, Nat.reduceAdd, Nat.reduceSub, Nat.reduceLeDiff, Nat.reduceLT, Nat.reduceMul, Int.reduceToNat, Int.reduceLT, Int.reduceLE, Cn.cells, show ((2 : Int) == 0) = false from rfl, show ((2 : Int) == 1) = false from rfl, show ((2 : Int) == 2) = true from rfl, Ty.k, Ty.ts, Ty.cellsL])
theorem en_out (ty to : Ty) (lab : Int) (neg : Bool) (ks : List Cn) : EnD (.mk 3 ty to lab neg ks) (.un, ty) := by
  unfold EnD
  simp only [Ty.cells_eq, Ty.un]
  refine does126 (by rfl) (by rfl) ?_
  (try simp (implicitDefEqProofs := false) only [go_sem, ↓reduceIte, Nat.reduceEqDiff, reduceCtorEq, Nat.reduceAdd, Nat.reduceSub, Nat.reduceLeDiff, Nat.reduceLT, Nat.reduceMul, Int.reduceToNat, Int.reduceLT, Int.reduceLE, Cn.cells, show ((3 : Int) == 0) = false from rfl, show ((3 : Int) == 1) = false from rfl, show ((3 : Int) == 2) = false from rfl, show ((3 : Int) == 3) = true from rfl, Ty.k, Ty.ts, Ty.cellsL])
theorem en_part {k : Int} {a b : Cn} {e f : Ty × Ty} (ha : EnD a e) (hb : EnD b f) (hk : k = 4 ∨ k = 5 ∨ k = 6 ∨ k = 7) :
    EnD (part k a b) (if k = 4 then (.mk 3 [e.2, f.1], .mk 3 [e.1, f.2]) else if k = 5 then (.mk 4 [e.1, f.1], .mk 4 [e.2, f.2]) else if k = 6 then (.mk 5 [e.1, f.1], .mk 5 [e.2, f.2]) else (e.1, f.2)) := by
  have hla := Cn.cells_len a
  have hlb := Cn.cells_len b
  obtain ⟨e1, e2⟩ := e
  obtain ⟨f1, f2⟩ := f
  have h2 := mtwo_does 3 e2 f1
  have h3 := mtwo_does 3 e1 f2
  have h4 := mtwo_does 4 e1 f1
  have h5 := mtwo_does 4 e2 f2
  have h6 := mtwo_does 5 e1 f1
  have h7 := mtwo_does 5 e2 f2
  unfold EnD at ha hb ⊢
  simp only [Ty.cells_eq] at ha hb h2 h3 h4 h5 h6 h7
  have n0 : (k == 0) = false := by simp; omega
  have n1 : (k == 1) = false := by simp; omega
  have n2 : (k == 2) = false := by simp; omega
  have n3 : (k == 3) = false := by simp; omega
  refine does126 (by rfl) (by rfl) ?_
  (try simp (implicitDefEqProofs := false) only [go_sem, ↓reduceIte, Nat.reduceEqDiff, reduceCtorEq, Nat.reduceAdd, Nat.reduceSub, Nat.reduceLeDiff, Nat.reduceLT, Nat.reduceMul, Int.reduceToNat, Int.reduceLT, Int.reduceLE, part_cells, n0, n1, n2, n3, hla, hlb])
  refine CallK_do ha ?_
  (try simp (implicitDefEqProofs := false) only [go_sem, ↓reduceIte, Nat.reduceEqDiff, reduceCtorEq, Nat.reduceAdd, Nat.reduceSub, Nat.reduceLeDiff, Nat.reduceLT, Nat.reduceMul, Int.reduceToNat, Int.reduceLT, Int.reduceLE, part_cells, n0, n1, n2, n3, hla, hlb])
  refine CallK_do hb ?_
  rcases hk with rfl | rfl | rfl | rfl
  · (try simp (implicitDefEqProofs := false) only [go_sem, ↓reduceIte, Nat.reduceEqDiff, reduceCtorEq, Nat.reduceAdd, Nat.reduceSub, Nat.reduceLeDiff, Nat.reduceLT, Nat.reduceMul, Int.reduceToNat, Int.reduceLT, Int.reduceLE, show ((4 : Int) == 4) = true from rfl])
    refine CallK_do h2 ?_
    (try simp (implicitDefEqProofs := false) only [go_sem, ↓reduceIte, Nat.reduceEqDiff, reduceCtorEq, Nat.reduceAdd, Nat.reduceSub, Nat.reduceLeDiff, Nat.reduceLT, Nat.reduceMul, Int.reduceToNat, Int.reduceLT, Int.reduceLE])
    refine CallK_do h3 ?_
    (try simp (implicitDefEqProofs := false) only [go_sem, ↓reduceIte, Nat.reduceEqDiff, reduceCtorEq, Nat.reduceAdd, Nat.reduceSub, Nat.reduceLeDiff, Nat.reduceLT, Nat.reduceMul, Int.reduceToNat, Int.reduceLT, Int.reduceLE])
    simp [Ty.cells_eq, Ty.k, Ty.ts, Ty.cellsL]
  · (try simp (implicitDefEqProofs := false) only [go_sem, ↓reduceIte, Nat.reduceEqDiff, reduceCtorEq, Nat.reduceAdd, Nat.reduceSub, Nat.reduceLeDiff, Nat.reduceLT, Nat.reduceMul, Int.reduceToNat, Int.reduceLT, Int.reduceLE, show ((5 : Int) == 4) = false from rfl, show ((5 : Int) == 5) = true from rfl])
    refine CallK_do h4 ?_
    (try simp (implicitDefEqProofs := false) only [go_sem, ↓reduceIte, Nat.reduceEqDiff, reduceCtorEq, Nat.reduceAdd, Nat.reduceSub, Nat.reduceLeDiff, Nat.reduceLT, Nat.reduceMul, Int.reduceToNat, Int.reduceLT, Int.reduceLE])
    refine CallK_do h5 ?_
    (try simp (implicitDefEqProofs := false) only [go_sem, ↓reduceIte, Nat.reduceEqDiff, reduceCtorEq, Nat.reduceAdd, Nat.reduceSub, Nat.reduceLeDiff, Nat.reduceLT, Nat.reduceMul, Int.reduceToNat, Int.reduceLT, Int.reduceLE])
    simp [Ty.cells_eq, Ty.k, Ty.ts, Ty.cellsL]
  · (try simp (implicitDefEqProofs := false) only [go_sem, ↓reduceIte, Nat.reduceEqDiff, reduceCtorEq, Nat.reduceAdd, Nat.reduceSub, Nat.reduceLeDiff, Nat.reduceLT, Nat.reduceMul, Int.reduceToNat, Int.reduceLT, Int.reduceLE, show ((6 : Int) == 4) = false from rfl, show ((6 : Int) == 5) = false from rfl, show ((6 : Int) == 6) = true from rfl])
    refine CallK_do h6 ?_
    (try simp (implicitDefEqProofs := false) only [go_sem, ↓reduceIte, Nat.reduceEqDiff, reduceCtorEq, Nat.reduceAdd, Nat.reduceSub, Nat.reduceLeDiff, Nat.reduceLT, Nat.reduceMul, Int.reduceToNat, Int.reduceLT, Int.reduceLE])
    refine CallK_do h7 ?_
    (try simp (implicitDefEqProofs := false) only [go_sem, ↓reduceIte, Nat.reduceEqDiff, reduceCtorEq, Nat.reduceAdd, Nat.reduceSub, Nat.reduceLeDiff, Nat.reduceLT, Nat.reduceMul, Int.reduceToNat, Int.reduceLT, Int.reduceLE])
    simp [Ty.cells_eq, Ty.k, Ty.ts, Ty.cellsL]
  · (try simp (implicitDefEqProofs := false) only [go_sem, ↓reduceIte, Nat.reduceEqDiff, reduceCtorEq, Nat.reduceAdd, Nat.reduceSub, Nat.reduceLeDiff, Nat.reduceLT, Nat.reduceMul, Int.reduceToNat, Int.reduceLT, Int.reduceLE, show ((7 : Int) == 4) = false from rfl, show ((7 : Int) == 5) = false from rfl, show ((7 : Int) == 6) = false from rfl])
    simp [Ty.cells_eq, Ty.k, Ty.ts, Ty.cellsL]
theorem en_does : ∀ (a : Nf) (l : Nat), a.wf l → EnD a.cn a.en
  | .un, l, h => en_id _ _ _ _ _
  | .out g p n i, l, h => by
    simp only [Nf.wf] at h
    have := en_part (en_out (gty g) .un p n []) (en_does i 1 h.2.2.2.1) (k := 7) (by omega)
    simpa [Nf.cn, Nf.en] using this
  | .fail A B p n, l, h => en_fail _ _ _ _ _
  | .inn i g, l, h => by
    simp only [Nf.wf] at h
    have := en_part (en_does i 0 h.2.2.1) (en_inn (gty g) .un 0 false []) (k := 7) (by omega)
    simpa [Nf.cn, Nf.en] using this
  | .base k, l, h => en_id _ _ _ _ _
  | .two k a b, l, h => by
    simp only [Nf.wf] at h
    have ha := en_does a 2 h.2.1
    have hb := en_does b 2 h.2.2
    rcases h.1 with rfl | rfl | rfl
    · simpa [Nf.cn, Nf.en] using en_part ha hb (k := 4) (by omega)
    · simpa [Nf.cn, Nf.en] using en_part ha hb (k := 5) (by omega)
    · simpa [Nf.cn, Nf.en] using en_part ha hb (k := 6) (by omega)

theorem mfail_does {a b f : Cn} {e e' : Ty × Ty} (ha : EnD a e) (hb : EnD b e') (r : Cn) (hr : r = match f with | .mk _ _ _ lab neg _ => .mk 1 e.1 e'.2 lab neg []) :
    Does Try.prog 102 [.imm false (.ptr a.cells 0), .imm false (.ptr b.cells 0), .imm false (.ptr f.cells 0)] [] (.ret false (.ptr r.cells 0)) [] := by
  obtain ⟨k, ty, to, lab, neg, ks⟩ := f
  subst hr
  obtain ⟨e1, e2⟩ := e
  obtain ⟨f1, f2⟩ := e'
  unfold EnD at ha hb
  simp only [Ty.cells_eq] at ha hb
  refine does102 (by rfl) (by rfl) ?_
  (try simp (implicitDefEqProofs := false) only [go_sem, ↓reduceIte, Nat.reduceEqDiff, reduceCtorEq, Nat.reduceAdd, Nat.reduceSub, Nat.reduceLeDiff, Nat.reduceLT, Nat.reduceMul, Int.reduceToNat, Int.reduceLT, Int.reduceLE])
  refine CallK_do ha ?_
  (try simp (implicitDefEqProofs := false) only [go_sem, ↓reduceIte, Nat.reduceEqDiff, reduceCtorEq, Nat.reduceAdd, Nat.reduceSub, Nat.reduceLeDiff, Nat.reduceLT, Nat.reduceMul, Int.reduceToNat, Int.reduceLT, Int.reduceLE])
  refine CallK_do hb ?_
  (try simp (implicitDefEqProofs := false) only [go_sem, ↓reduceIte, Nat.reduceEqDiff, reduceCtorEq, Nat.reduceAdd, Nat.reduceSub, Nat.reduceLeDiff, Nat.reduceLT, Nat.reduceMul, Int.reduceToNat, Int.reduceLT, Int.reduceLE, Cn.cells, Cn.cellsL])
end Go.Proofs.Ytopgmopdjiahmaa.Lg
