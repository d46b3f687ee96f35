/- Texts of one proof, joined by program (gen/tells.py): Me Te Tf. Conditions: none; plain definitions and lemmas. -/
import Derived.Test.YtopgmopdjiahmaaH4
import Derived.Test.YtopgmopdjiahmaaProg
import Derived.Test.YtopgmopdjiahmaaH12
/- MADE BY PROGRAM (gen/mk.py): the code of functions, as the logic sees it. Conditions: none; plain definitions and lemmas. -/
set_option linter.unusedVariables false
set_option linter.defProp false
set_option maxRecDepth 100000
namespace Go.Proofs.Ytopgmopdjiahmaa.Lg
open Go Go.RowKit Go.Proofs
variable {Q : AEx → St → Prop} {σ : St}

/-! ### 24: lychgate/lychgatelaw16.Like -/
def r24_0 : MC := .reg [⟨none, (.boxc 2 (.t 0))⟩, ⟨none, (.boxc 3 (.t 1))⟩, ⟨none, (.mv 4 (.c (.imm true (.bool false))))⟩] none (some ([2, 3], []))
def w24_0 := @awpR_no Try.prog Q σ r24_0 _ _ ⟨rfl, rfl⟩
def r24_1 : MC := .reg [⟨none, (.fad 6 (.t 2) 0)⟩, ⟨none, (.load 7 (.t 6) none)⟩, ⟨none, (.fad 8 (.t 3) 0)⟩, ⟨none, (.load 9 (.t 8) none)⟩, ⟨none, (.bin 10 .neq (.t 7) (.t 9))⟩, ⟨none, (.mv 11 (.t 10))⟩, ⟨(some (11, false)), (.fad 12 (.t 2) 5)⟩, ⟨(some (11, false)), (.load 13 (.t 12) none)⟩, ⟨(some (11, false)), (.fad 14 (.t 3) 5)⟩, ⟨(some (11, false)), (.load 15 (.t 14) none)⟩, ⟨(some (11, false)), (.bin 16 .neq (.t 13) (.t 15))⟩, ⟨none, (.pick 17 (.t 11) (.c (.imm true (.bool true))) (.t 16))⟩, ⟨none, (.mv 18 (.t 17))⟩, ⟨(some (18, false)), (.fad 19 (.t 2) 6)⟩, ⟨(some (18, false)), (.load 20 (.t 19) none)⟩, ⟨(some (18, false)), (.fad 21 (.t 3) 6)⟩, ⟨(some (18, false)), (.load 22 (.t 21) none)⟩, ⟨(some (18, false)), (.binb 23 true (.t 20) (.t 22))⟩, ⟨none, (.pick 24 (.t 18) (.c (.imm true (.bool true))) (.t 23))⟩, ⟨none, (.mv 25 (.t 24))⟩, ⟨(some (25, false)), (.fad 26 (.t 2) 7)⟩, ⟨(some (25, false)), (.load 27 (.t 26) none)⟩, ⟨(some (25, false)), (.len 28 (.t 27))⟩, ⟨(some (25, false)), (.fad 29 (.t 3) 7)⟩, ⟨(some (25, false)), (.load 30 (.t 29) none)⟩, ⟨(some (25, false)), (.len 31 (.t 30))⟩, ⟨(some (25, false)), (.bin 32 .neq (.t 28) (.t 31))⟩, ⟨none, (.pick 33 (.t 25) (.c (.imm true (.bool true))) (.t 32))⟩, ⟨none, (.mv 34 (.t 33))⟩, ⟨(some (34, false)), (.fad 35 (.t 2) 1)⟩, ⟨(some (34, false)), (.load 36 (.t 35) (some 2))⟩, ⟨(some (34, false)), (.fad 37 (.t 3) 1)⟩, ⟨(some (34, false)), (.load 38 (.t 37) (some 2))⟩, ⟨(some (34, false)), (.call (some 39) (.c (.fn 61 [])) [(.t 36), (.t 38)])⟩, ⟨(some (34, false)), (.un 40 .not (.t 39))⟩, ⟨none, (.pick 41 (.t 34) (.c (.imm true (.bool true))) (.t 40))⟩, ⟨none, (.mv 42 (.t 41))⟩, ⟨(some (42, false)), (.fad 43 (.t 2) 3)⟩, ⟨(some (42, false)), (.load 44 (.t 43) (some 2))⟩, ⟨(some (42, false)), (.fad 45 (.t 3) 3)⟩, ⟨(some (42, false)), (.load 46 (.t 45) (some 2))⟩, ⟨(some (42, false)), (.call (some 47) (.c (.fn 61 [])) [(.t 44), (.t 46)])⟩, ⟨(some (42, false)), (.un 48 .not (.t 47))⟩, ⟨none, (.pick 49 (.t 42) (.c (.imm true (.bool true))) (.t 48))⟩] none (some ([2, 3, 49], []))
def w24_1 := @awpR_no Try.prog Q σ r24_1 _ _ ⟨rfl, rfl⟩
def r24_2 : MC := .reg [⟨none, (.mv 4 (.c (.imm true (.bool false))))⟩] none (some ([4], []))
def w24_2 := @awpR_no Try.prog Q σ r24_2 _ _ ⟨rfl, rfl⟩
def r24_3 : MC := .reg [⟨none, (.mv 5 (.c (.imm true (.int .i64 0))))⟩] none (some ([2, 3, 5], []))
def w24_3 := @awpR_no Try.prog Q σ r24_3 _ _ ⟨rfl, rfl⟩
def r24_4 : MC := .reg [⟨none, (.mv 50 (.t 5))⟩, ⟨none, (.fad 51 (.t 2) 7)⟩, ⟨none, (.load 52 (.t 51) none)⟩, ⟨none, (.len 53 (.t 52))⟩, ⟨none, (.bin 54 .lss (.t 50) (.t 53))⟩] none (some ([2, 3, 5, 54], []))
def w24_4 := @awpR_no Try.prog Q σ r24_4 _ _ ⟨rfl, rfl⟩
def r24_5 : MC := .reg [⟨none, (.fad 57 (.t 2) 7)⟩, ⟨none, (.load 58 (.t 57) none)⟩, ⟨none, (.mv 59 (.t 5))⟩, ⟨none, (.iad 60 (.t 58) (.t 59) 8)⟩, ⟨none, (.load 61 (.t 60) (some 8))⟩, ⟨none, (.fad 62 (.t 3) 7)⟩, ⟨none, (.load 63 (.t 62) none)⟩, ⟨none, (.mv 64 (.t 5))⟩, ⟨none, (.iad 65 (.t 63) (.t 64) 8)⟩, ⟨none, (.load 66 (.t 65) (some 8))⟩, ⟨none, (.call (some 67) (.c (.fn 24 [])) [(.t 61), (.t 66)])⟩, ⟨none, (.un 68 .not (.t 67))⟩] (some []) (some ([2, 3, 5, 68], []))
def w24_5 := @awpD_no Try.prog Q σ r24_5 _ _ _ ⟨rfl, rfl⟩
def r24_6 : MC := .reg [⟨none, (.mv 4 (.c (.imm true (.bool false))))⟩] none (some ([4], []))
def w24_6 := @awpR_no Try.prog Q σ r24_6 _ _ ⟨rfl, rfl⟩
def r24_7 : MC := .reg [⟨none, (.mv 55 (.t 5))⟩, ⟨none, (.bin 56 .add (.t 55) (.c (.imm true (.int .i64 1))))⟩, ⟨none, (.mv 5 (.t 56))⟩] none (some ([2, 3, 5], []))
def w24_7 := @awpR_no Try.prog Q σ r24_7 _ _ ⟨rfl, rfl⟩
def l24_0 : MC := (.seq (.seq r24_4 (.cond (.t 54) .skip (.exit 0))) (.seq (.block 1 (.seq r24_5 (.cond (.t 68) (.seq r24_6 .ret) .skip))) r24_7))
def r24_8 : MC := .reg [⟨none, (.mv 4 (.c (.imm true (.bool true))))⟩] none (some ([4], []))
def w24_8 := @awpR_no Try.prog Q σ r24_8 _ _ ⟨rfl, rfl⟩
def my24 : MC := (.seq r24_0 (.seq (.seq r24_1 (.cond (.t 49) (.seq r24_2 .ret) .skip)) (.seq (.seq r24_3 (.block 0 (.loop l24_0))) (.seq r24_8 .ret))))
theorem my24_is : trC Try.prog ⟨[2, 3], []⟩ ⟨[(6, [[], [0], [], [0, 1, 2], [0, 1, 2, 3], [], [5], [], [5, 6, 7], [5, 6, 7, 8], [0, 1, 2, 3, 4, 5, 6, 7, 8, 9], [0, 1, 2, 3, 4, 5, 6, 7, 8, 9, 10]], [])],
  [(0, [2, 3], []), (1, [2, 3, 49], []), (2, [4], []), (3, [2, 3, 5], []), (4, [2, 3, 5, 54], []), (6, [2, 3, 5, 68], []), (7, [4], []), (5, [2, 3, 5], []), (8, [4], [])]⟩ 69 (Try.f24.body.getD .skip) = some my24 := by kernel_rfl
theorem does24 {args : List LV} (hl : args.length.ble 69 = true) {S S' : List (List LV)} (hS : S'.length = S.length) {o : Out} (h : Lt ⟨numE 0 args, argS 0 S, []⟩ (awp Try.prog my24 (Fin [(.t 4)] o S'))) : Does Try.prog 24 args S o S' :=
  does_of_awp mixed Try.func24 (by kernel_rfl) (by kernel_rfl) my24_is (by kernel_rfl) (Nat.le_of_ble_eq_true hl) hS h
attribute [go_sem ↓] w24_0 w24_1 w24_2 w24_3 w24_4 w24_5 w24_6 w24_7 w24_8
attribute [go_sem] my24
/-! ### 61: lychgate/lychgatelaw02.LikeType -/
def r61_0 : MC := .reg [⟨none, (.boxc 2 (.t 0))⟩, ⟨none, (.boxc 3 (.t 1))⟩, ⟨none, (.mv 4 (.c (.imm true (.bool false))))⟩] none (some ([2, 3], []))
def w61_0 := @awpR_no Try.prog Q σ r61_0 _ _ ⟨rfl, rfl⟩
def r61_1 : MC := .reg [⟨none, (.fad 6 (.t 2) 0)⟩, ⟨none, (.load 7 (.t 6) none)⟩, ⟨none, (.fad 8 (.t 3) 0)⟩, ⟨none, (.load 9 (.t 8) none)⟩, ⟨none, (.bin 10 .neq (.t 7) (.t 9))⟩, ⟨none, (.mv 11 (.t 10))⟩, ⟨(some (11, false)), (.fad 12 (.t 2) 1)⟩, ⟨(some (11, false)), (.load 13 (.t 12) none)⟩, ⟨(some (11, false)), (.len 14 (.t 13))⟩, ⟨(some (11, false)), (.fad 15 (.t 3) 1)⟩, ⟨(some (11, false)), (.load 16 (.t 15) none)⟩, ⟨(some (11, false)), (.len 17 (.t 16))⟩, ⟨(some (11, false)), (.bin 18 .neq (.t 14) (.t 17))⟩, ⟨none, (.pick 19 (.t 11) (.c (.imm true (.bool true))) (.t 18))⟩] none (some ([2, 3, 19], []))
def w61_1 := @awpR_no Try.prog Q σ r61_1 _ _ ⟨rfl, rfl⟩
def r61_2 : MC := .reg [⟨none, (.mv 4 (.c (.imm true (.bool false))))⟩] none (some ([4], []))
def w61_2 := @awpR_no Try.prog Q σ r61_2 _ _ ⟨rfl, rfl⟩
def r61_3 : MC := .reg [⟨none, (.mv 5 (.c (.imm true (.int .i64 0))))⟩] none (some ([2, 3, 5], []))
def w61_3 := @awpR_no Try.prog Q σ r61_3 _ _ ⟨rfl, rfl⟩
def r61_4 : MC := .reg [⟨none, (.mv 20 (.t 5))⟩, ⟨none, (.fad 21 (.t 2) 1)⟩, ⟨none, (.load 22 (.t 21) none)⟩, ⟨none, (.len 23 (.t 22))⟩, ⟨none, (.bin 24 .lss (.t 20) (.t 23))⟩] none (some ([2, 3, 5, 24], []))
def w61_4 := @awpR_no Try.prog Q σ r61_4 _ _ ⟨rfl, rfl⟩
def r61_5 : MC := .reg [⟨none, (.fad 27 (.t 2) 1)⟩, ⟨none, (.load 28 (.t 27) none)⟩, ⟨none, (.mv 29 (.t 5))⟩, ⟨none, (.iad 30 (.t 28) (.t 29) 2)⟩, ⟨none, (.load 31 (.t 30) (some 2))⟩, ⟨none, (.fad 32 (.t 3) 1)⟩, ⟨none, (.load 33 (.t 32) none)⟩, ⟨none, (.mv 34 (.t 5))⟩, ⟨none, (.iad 35 (.t 33) (.t 34) 2)⟩, ⟨none, (.load 36 (.t 35) (some 2))⟩, ⟨none, (.call (some 37) (.c (.fn 61 [])) [(.t 31), (.t 36)])⟩, ⟨none, (.un 38 .not (.t 37))⟩] (some []) (some ([2, 3, 5, 38], []))
def w61_5 := @awpD_no Try.prog Q σ r61_5 _ _ _ ⟨rfl, rfl⟩
def r61_6 : MC := .reg [⟨none, (.mv 4 (.c (.imm true (.bool false))))⟩] none (some ([4], []))
def w61_6 := @awpR_no Try.prog Q σ r61_6 _ _ ⟨rfl, rfl⟩
def r61_7 : MC := .reg [⟨none, (.mv 25 (.t 5))⟩, ⟨none, (.bin 26 .add (.t 25) (.c (.imm true (.int .i64 1))))⟩, ⟨none, (.mv 5 (.t 26))⟩] none (some ([2, 3, 5], []))
def w61_7 := @awpR_no Try.prog Q σ r61_7 _ _ ⟨rfl, rfl⟩
def l61_0 : MC := (.seq (.seq r61_4 (.cond (.t 24) .skip (.exit 0))) (.seq (.block 1 (.seq r61_5 (.cond (.t 38) (.seq r61_6 .ret) .skip))) r61_7))
def r61_8 : MC := .reg [⟨none, (.mv 4 (.c (.imm true (.bool true))))⟩] none (some ([4], []))
def w61_8 := @awpR_no Try.prog Q σ r61_8 _ _ ⟨rfl, rfl⟩
def my61 : MC := (.seq r61_0 (.seq (.seq r61_1 (.cond (.t 19) (.seq r61_2 .ret) .skip)) (.seq (.seq r61_3 (.block 0 (.loop l61_0))) (.seq r61_8 .ret))))
theorem my61_is : trC Try.prog ⟨[2, 3], []⟩ ⟨[(6, [[], [0], [], [0, 1, 2], [0, 1, 2, 3], [], [5], [], [5, 6, 7], [5, 6, 7, 8], [0, 1, 2, 3, 4, 5, 6, 7, 8, 9], [0, 1, 2, 3, 4, 5, 6, 7, 8, 9, 10]], [])],
  [(0, [2, 3], []), (1, [2, 3, 19], []), (2, [4], []), (3, [2, 3, 5], []), (4, [2, 3, 5, 24], []), (6, [2, 3, 5, 38], []), (7, [4], []), (5, [2, 3, 5], []), (8, [4], [])]⟩ 39 (Try.f61.body.getD .skip) = some my61 := by kernel_rfl
theorem does61 {args : List LV} (hl : args.length.ble 39 = true) {S S' : List (List LV)} (hS : S'.length = S.length) {o : Out} (h : Lt ⟨numE 0 args, argS 0 S, []⟩ (awp Try.prog my61 (Fin [(.t 4)] o S'))) : Does Try.prog 61 args S o S' :=
  does_of_awp mixed Try.func61 (by kernel_rfl) (by kernel_rfl) my61_is (by kernel_rfl) (Nat.le_of_ble_eq_true hl) hS h
attribute [go_sem ↓] w61_0 w61_1 w61_2 w61_3 w61_4 w61_5 w61_6 w61_7 w61_8
attribute [go_sem] my61
/-! ### 25: lychgate/lychgatelaw16.Small -/
def r25_0 : MC := .reg [⟨none, (.boxc 1 (.t 0))⟩, ⟨none, (.mv 2 (.c (.imm true (.bool false))))⟩] none (some ([1], []))
def w25_0 := @awpR_no Try.prog Q σ r25_0 _ _ ⟨rfl, rfl⟩
def r25_1 : MC := .reg [⟨none, (.load 3 (.t 1) (some 8))⟩, ⟨none, (.call (some 4) (.c (.fn 62 [])) [(.t 3), (.c (.imm true (.int .i64 0)))])⟩, ⟨none, (.bin 5 .leq (.t 4) (.c (.imm true (.int .i64 16384))))⟩, ⟨none, (.mv 2 (.t 5))⟩] none (some ([2], []))
def w25_1 := @awpR_no Try.prog Q σ r25_1 _ _ ⟨rfl, rfl⟩
def my25 : MC := (.seq r25_0 (.seq r25_1 .ret))
theorem my25_is : trC Try.prog ⟨[1], []⟩ ⟨[],
  [(0, [1], []), (1, [2], [])]⟩ 6 (Try.f25.body.getD .skip) = some my25 := by kernel_rfl
theorem does25 {args : List LV} (hl : args.length.ble 6 = true) {S S' : List (List LV)} (hS : S'.length = S.length) {o : Out} (h : Lt ⟨numE 0 args, argS 0 S, []⟩ (awp Try.prog my25 (Fin [(.t 2)] o S'))) : Does Try.prog 25 args S o S' :=
  does_of_awp mixed Try.func25 (by kernel_rfl) (by kernel_rfl) my25_is (by kernel_rfl) (Nat.le_of_ble_eq_true hl) hS h
attribute [go_sem ↓] w25_0 w25_1
attribute [go_sem] my25
/-! ### 62: lychgate/lychgatelaw16.counted -/
def r62_0 : MC := .reg [⟨none, (.boxc 2 (.t 0))⟩, ⟨none, (.mv 4 (.c (.imm true (.int .i64 0))))⟩] none (some ([1, 2], []))
def w62_0 := @awpR_no Try.prog Q σ r62_0 _ _ ⟨rfl, rfl⟩
def r62_1 : MC := .reg [⟨none, (.fad 6 (.t 2) 3)⟩, ⟨none, (.load 7 (.t 6) (some 2))⟩, ⟨none, (.fad 8 (.t 2) 1)⟩, ⟨none, (.load 9 (.t 8) (some 2))⟩, ⟨none, (.mv 10 (.t 1))⟩, ⟨none, (.bin 11 .add (.t 10) (.c (.imm true (.int .i64 1))))⟩, ⟨none, (.call (some 12) (.c (.fn 95 [])) [(.t 9), (.t 11)])⟩, ⟨none, (.call (some 13) (.c (.fn 95 [])) [(.t 7), (.t 12)])⟩, ⟨none, (.mv 1 (.t 13))⟩] (some []) (some ([1, 2], []))
def w62_1 := @awpD_no Try.prog Q σ r62_1 _ _ _ ⟨rfl, rfl⟩
def r62_2 : MC := .reg [⟨none, (.mv 5 (.c (.imm true (.int .i64 0))))⟩] none (some ([1, 2, 5], []))
def w62_2 := @awpR_no Try.prog Q σ r62_2 _ _ ⟨rfl, rfl⟩
def r62_3 : MC := .reg [⟨none, (.mv 14 (.t 5))⟩, ⟨none, (.fad 15 (.t 2) 7)⟩, ⟨none, (.load 16 (.t 15) none)⟩, ⟨none, (.len 17 (.t 16))⟩, ⟨none, (.bin 18 .lss (.t 14) (.t 17))⟩, ⟨none, (.mv 19 (.t 18))⟩, ⟨(some (19, true)), (.mv 20 (.t 1))⟩, ⟨(some (19, true)), (.bin 21 .leq (.t 20) (.c (.imm true (.int .i64 16384))))⟩, ⟨none, (.pick 22 (.t 19) (.t 21) (.c (.imm true (.bool false))))⟩] none (some ([1, 2, 5, 22], []))
def w62_3 := @awpR_no Try.prog Q σ r62_3 _ _ ⟨rfl, rfl⟩
def r62_4 : MC := .reg [⟨none, (.fad 25 (.t 2) 7)⟩, ⟨none, (.load 26 (.t 25) none)⟩, ⟨none, (.mv 27 (.t 5))⟩, ⟨none, (.iad 28 (.t 26) (.t 27) 8)⟩, ⟨none, (.load 29 (.t 28) (some 8))⟩, ⟨none, (.mv 30 (.t 1))⟩, ⟨none, (.call (some 31) (.c (.fn 62 [])) [(.t 29), (.t 30)])⟩, ⟨none, (.mv 1 (.t 31))⟩] none (some ([1, 2, 5], []))
def w62_4 := @awpR_no Try.prog Q σ r62_4 _ _ ⟨rfl, rfl⟩
def r62_5 : MC := .reg [⟨none, (.mv 23 (.t 5))⟩, ⟨none, (.bin 24 .add (.t 23) (.c (.imm true (.int .i64 1))))⟩, ⟨none, (.mv 5 (.t 24))⟩] none (some ([1, 2, 5], []))
def w62_5 := @awpR_no Try.prog Q σ r62_5 _ _ ⟨rfl, rfl⟩
def l62_0 : MC := (.seq (.seq r62_3 (.cond (.t 22) .skip (.exit 0))) (.seq (.block 1 r62_4) r62_5))
def r62_6 : MC := .reg [⟨none, (.mv 32 (.t 1))⟩, ⟨none, (.mv 4 (.t 32))⟩] none (some ([4], []))
def w62_6 := @awpR_no Try.prog Q σ r62_6 _ _ ⟨rfl, rfl⟩
def my62 : MC := (.seq r62_0 (.seq r62_1 (.seq (.seq r62_2 (.block 0 (.loop l62_0))) (.seq r62_6 .ret))))
theorem my62_is : trC Try.prog ⟨[2], []⟩ ⟨[(1, [[], [0], [], [2], [], [4], [2, 3, 4, 5], [0, 1, 2, 3, 4, 5, 6], [0, 1, 2, 3, 4, 5, 6, 7]], [])],
  [(0, [1, 2], []), (1, [1, 2], []), (2, [1, 2, 5], []), (3, [1, 2, 5, 22], []), (5, [1, 2, 5], []), (4, [1, 2, 5], []), (6, [4], [])]⟩ 33 (Try.f62.body.getD .skip) = some my62 := by kernel_rfl
theorem does62 {args : List LV} (hl : args.length.ble 33 = true) {S S' : List (List LV)} (hS : S'.length = S.length) {o : Out} (h : Lt ⟨numE 0 args, argS 0 S, []⟩ (awp Try.prog my62 (Fin [(.t 4)] o S'))) : Does Try.prog 62 args S o S' :=
  does_of_awp mixed Try.func62 (by kernel_rfl) (by kernel_rfl) my62_is (by kernel_rfl) (Nat.le_of_ble_eq_true hl) hS h
attribute [go_sem ↓] w62_0 w62_1 w62_2 w62_3 w62_4 w62_5 w62_6
attribute [go_sem] my62
/-! ### 95: lychgate/lychgatelaw16.typed -/
def r95_0 : MC := .reg [⟨none, (.boxc 2 (.t 0))⟩, ⟨none, (.mv 4 (.c (.imm true (.int .i64 0))))⟩] none (some ([1, 2], []))
def w95_0 := @awpR_no Try.prog Q σ r95_0 _ _ ⟨rfl, rfl⟩
def r95_1 : MC := .reg [⟨none, (.mv 6 (.t 1))⟩, ⟨none, (.bin 7 .add (.t 6) (.c (.imm true (.int .i64 1))))⟩, ⟨none, (.mv 1 (.t 7))⟩] none (some ([1, 2], []))
def w95_1 := @awpR_no Try.prog Q σ r95_1 _ _ ⟨rfl, rfl⟩
def r95_2 : MC := .reg [⟨none, (.mv 5 (.c (.imm true (.int .i64 0))))⟩] none (some ([1, 2, 5], []))
def w95_2 := @awpR_no Try.prog Q σ r95_2 _ _ ⟨rfl, rfl⟩
def r95_3 : MC := .reg [⟨none, (.mv 8 (.t 5))⟩, ⟨none, (.fad 9 (.t 2) 1)⟩, ⟨none, (.load 10 (.t 9) none)⟩, ⟨none, (.len 11 (.t 10))⟩, ⟨none, (.bin 12 .lss (.t 8) (.t 11))⟩, ⟨none, (.mv 13 (.t 12))⟩, ⟨(some (13, true)), (.mv 14 (.t 1))⟩, ⟨(some (13, true)), (.bin 15 .leq (.t 14) (.c (.imm true (.int .i64 16384))))⟩, ⟨none, (.pick 16 (.t 13) (.t 15) (.c (.imm true (.bool false))))⟩] none (some ([1, 2, 5, 16], []))
def w95_3 := @awpR_no Try.prog Q σ r95_3 _ _ ⟨rfl, rfl⟩
def r95_4 : MC := .reg [⟨none, (.fad 19 (.t 2) 1)⟩, ⟨none, (.load 20 (.t 19) none)⟩, ⟨none, (.mv 21 (.t 5))⟩, ⟨none, (.iad 22 (.t 20) (.t 21) 2)⟩, ⟨none, (.load 23 (.t 22) (some 2))⟩, ⟨none, (.mv 24 (.t 1))⟩, ⟨none, (.call (some 25) (.c (.fn 95 [])) [(.t 23), (.t 24)])⟩, ⟨none, (.mv 1 (.t 25))⟩] none (some ([1, 2, 5], []))
def w95_4 := @awpR_no Try.prog Q σ r95_4 _ _ ⟨rfl, rfl⟩
def r95_5 : MC := .reg [⟨none, (.mv 17 (.t 5))⟩, ⟨none, (.bin 18 .add (.t 17) (.c (.imm true (.int .i64 1))))⟩, ⟨none, (.mv 5 (.t 18))⟩] none (some ([1, 2, 5], []))
def w95_5 := @awpR_no Try.prog Q σ r95_5 _ _ ⟨rfl, rfl⟩
def l95_0 : MC := (.seq (.seq r95_3 (.cond (.t 16) .skip (.exit 0))) (.seq (.block 1 r95_4) r95_5))
def r95_6 : MC := .reg [⟨none, (.mv 26 (.t 1))⟩, ⟨none, (.mv 4 (.t 26))⟩] none (some ([4], []))
def w95_6 := @awpR_no Try.prog Q σ r95_6 _ _ ⟨rfl, rfl⟩
def my95 : MC := (.seq r95_0 (.seq r95_1 (.seq (.seq r95_2 (.block 0 (.loop l95_0))) (.seq r95_6 .ret))))
theorem my95_is : trC Try.prog ⟨[2], []⟩ ⟨[],
  [(0, [1, 2], []), (1, [1, 2], []), (2, [1, 2, 5], []), (3, [1, 2, 5, 16], []), (5, [1, 2, 5], []), (4, [1, 2, 5], []), (6, [4], [])]⟩ 27 (Try.f95.body.getD .skip) = some my95 := by kernel_rfl
theorem does95 {args : List LV} (hl : args.length.ble 27 = true) {S S' : List (List LV)} (hS : S'.length = S.length) {o : Out} (h : Lt ⟨numE 0 args, argS 0 S, []⟩ (awp Try.prog my95 (Fin [(.t 4)] o S'))) : Does Try.prog 95 args S o S' :=
  does_of_awp mixed Try.func95 (by kernel_rfl) (by kernel_rfl) my95_is (by kernel_rfl) (Nat.le_of_ble_eq_true hl) hS h
attribute [go_sem ↓] w95_0 w95_1 w95_2 w95_3 w95_4 w95_5 w95_6
attribute [go_sem] my95
/-! ### 28: lychgate/lychgatelaw16.wakes -/
def r28_0 : MC := .reg [⟨none, (.mv 0 (.c (.imm true (.bool false))))⟩] none (some ([], []))
def w28_0 := @awpR_no Try.prog Q σ r28_0 _ _ ⟨rfl, rfl⟩
def r28_1 : MC := .reg [⟨none, (.build 16 z2 [(0, (1, (.c (.imm true (.int .i8 1)))))])⟩, ⟨none, (.alloc 1 z2)⟩, ⟨none, (.store (.t 1) (.t 16) 2)⟩] none (some ([1], [1]))
def w28_1 := @awpR_get Try.prog Q σ r28_1 _ _ [1] ⟨rfl, rfl⟩
def r28_2 : MC := .reg [⟨none, (.build 17 z2 [(0, (1, (.c (.imm true (.int .i8 2)))))])⟩, ⟨none, (.alloc 2 z2)⟩, ⟨none, (.store (.t 2) (.t 17) 2)⟩] none (some ([1, 2], [1, 2]))
def w28_2 := @awpR_get Try.prog Q σ r28_2 _ _ [2] ⟨rfl, rfl⟩
def r28_3 : MC := .reg [⟨none, (.build 18 z2 [])⟩, ⟨none, (.alloc 3 z2)⟩, ⟨none, (.store (.t 3) (.t 18) 2)⟩] none (some ([1, 2, 3], [1, 2, 3]))
def w28_3 := @awpR_get Try.prog Q σ r28_3 _ _ [3] ⟨rfl, rfl⟩
def r28_4 : MC := .reg [⟨none, (.load 20 (.t 1) (some 2))⟩, ⟨none, (.load 21 (.t 3) (some 2))⟩, ⟨none, (.call (some 22) (.c (.fn 29 [])) [(.t 20), (.t 21), (.c (.imm true (.int .i64 1)))])⟩, ⟨none, (.mv 19 (.t 22))⟩, ⟨none, (.ext 23 (.t 19) 0)⟩, ⟨none, (.ext 24 (.t 19) 1)⟩, ⟨none, (.alloc 4 z8)⟩, ⟨none, (.store (.t 4) (.t 23) 8)⟩, ⟨none, (.mv 5 (.t 24))⟩] none (some ([1, 2, 3, 4, 5], [1, 2, 3, 4]))
def w28_4 := @awpR_get Try.prog Q σ r28_4 _ _ [4] ⟨rfl, rfl⟩
def r28_5 : MC := .reg [⟨none, (.load 26 (.t 3) (some 2))⟩, ⟨none, (.load 27 (.t 1) (some 2))⟩, ⟨none, (.call (some 28) (.c (.fn 29 [])) [(.t 26), (.t 27), (.c (.imm true (.int .i64 3)))])⟩, ⟨none, (.mv 25 (.t 28))⟩, ⟨none, (.ext 29 (.t 25) 0)⟩, ⟨none, (.ext 30 (.t 25) 1)⟩, ⟨none, (.alloc 6 z8)⟩, ⟨none, (.store (.t 6) (.t 29) 8)⟩, ⟨none, (.mv 7 (.t 30))⟩] none (some ([1, 2, 3, 4, 5, 6, 7], [1, 2, 3, 4, 6]))
def w28_5 := @awpR_get Try.prog Q σ r28_5 _ _ [6] ⟨rfl, rfl⟩
def r28_6 : MC := .reg [⟨none, (.load 32 (.t 3) (some 2))⟩, ⟨none, (.load 33 (.t 2) (some 2))⟩, ⟨none, (.call (some 34) (.c (.fn 29 [])) [(.t 32), (.t 33), (.c (.imm true (.int .i64 3)))])⟩, ⟨none, (.mv 31 (.t 34))⟩, ⟨none, (.ext 35 (.t 31) 0)⟩, ⟨none, (.ext 36 (.t 31) 1)⟩, ⟨none, (.alloc 8 z8)⟩, ⟨none, (.store (.t 8) (.t 35) 8)⟩, ⟨none, (.mv 9 (.t 36))⟩] none (some ([1, 4, 5, 6, 7, 8, 9], [1, 4, 6, 8]))
def w28_6 := @awpR_get Try.prog Q σ r28_6 _ _ [8] ⟨rfl, rfl⟩
def r28_7 : MC := .reg [⟨none, (.load 38 (.t 4) (some 8))⟩, ⟨none, (.load 39 (.t 6) (some 8))⟩, ⟨none, (.call (some 40) (.c (.fn 32 [])) [(.t 38), (.t 39)])⟩, ⟨none, (.mv 37 (.t 40))⟩, ⟨none, (.ext 41 (.t 37) 0)⟩, ⟨none, (.ext 42 (.t 37) 1)⟩, ⟨none, (.alloc 10 z8)⟩, ⟨none, (.store (.t 10) (.t 41) 8)⟩, ⟨none, (.mv 11 (.t 42))⟩] none (some ([1, 4, 5, 6, 7, 8, 9, 10, 11], [1, 4, 6, 8, 10]))
def w28_7 := @awpR_get Try.prog Q σ r28_7 _ _ [10] ⟨rfl, rfl⟩
def r28_8 : MC := .reg [⟨none, (.load 44 (.t 4) (some 8))⟩, ⟨none, (.load 45 (.t 8) (some 8))⟩, ⟨none, (.call (some 46) (.c (.fn 32 [])) [(.t 44), (.t 45)])⟩, ⟨none, (.mv 43 (.t 46))⟩, ⟨none, (.ext 47 (.t 43) 0)⟩, ⟨none, (.ext 48 (.t 43) 1)⟩, ⟨none, (.alloc 12 z8)⟩, ⟨none, (.store (.t 12) (.t 47) 8)⟩, ⟨none, (.mv 13 (.t 48))⟩] none (some ([1, 4, 5, 6, 7, 9, 10, 11, 12, 13], [1, 4, 6, 10, 12]))
def w28_8 := @awpR_get Try.prog Q σ r28_8 _ _ [12] ⟨rfl, rfl⟩
def r28_9 : MC := .reg [⟨none, (.load 50 (.t 6) (some 8))⟩, ⟨none, (.load 51 (.t 6) (some 8))⟩, ⟨none, (.call (some 52) (.c (.fn 32 [])) [(.t 50), (.t 51)])⟩, ⟨none, (.mv 49 (.t 52))⟩, ⟨none, (.ext 53 (.t 49) 0)⟩, ⟨none, (.ext 54 (.t 49) 1)⟩, ⟨none, (.alloc 14 z8)⟩, ⟨none, (.store (.t 14) (.t 53) 8)⟩, ⟨none, (.mv 15 (.t 54))⟩] none (some ([1, 4, 5, 7, 9, 10, 11, 12, 13, 15], [1, 4, 10, 12]))
def w28_9 := @awpR_get Try.prog Q σ r28_9 _ _ [14] ⟨rfl, rfl⟩
def r28_10 : MC := .reg [⟨none, (.mv 55 (.t 5))⟩, ⟨none, (.bin 56 .eql (.t 55) (.c (.imm true (.int .i64 0))))⟩, ⟨none, (.mv 57 (.t 56))⟩, ⟨(some (57, true)), (.mv 58 (.t 7))⟩, ⟨(some (57, true)), (.bin 59 .eql (.t 58) (.c (.imm true (.int .i64 0))))⟩, ⟨none, (.pick 60 (.t 57) (.t 59) (.c (.imm true (.bool false))))⟩, ⟨none, (.mv 61 (.t 60))⟩, ⟨(some (61, true)), (.mv 62 (.t 9))⟩, ⟨(some (61, true)), (.bin 63 .eql (.t 62) (.c (.imm true (.int .i64 0))))⟩, ⟨none, (.pick 64 (.t 61) (.t 63) (.c (.imm true (.bool false))))⟩, ⟨none, (.mv 65 (.t 64))⟩, ⟨(some (65, true)), (.mv 66 (.t 11))⟩, ⟨(some (65, true)), (.bin 67 .eql (.t 66) (.c (.imm true (.int .i64 0))))⟩, ⟨none, (.pick 68 (.t 65) (.t 67) (.c (.imm true (.bool false))))⟩, ⟨none, (.mv 69 (.t 68))⟩, ⟨(some (69, true)), (.mv 70 (.t 13))⟩, ⟨(some (69, true)), (.bin 71 .eql (.t 70) (.c (.imm true (.int .i64 0))))⟩, ⟨none, (.pick 72 (.t 69) (.t 71) (.c (.imm true (.bool false))))⟩, ⟨none, (.mv 73 (.t 72))⟩, ⟨(some (73, true)), (.fad 74 (.t 10) 0)⟩, ⟨(some (73, true)), (.load 75 (.t 74) none)⟩, ⟨(some (73, true)), (.bin 76 .eql (.t 75) (.c (.imm true (.int .i8 0))))⟩, ⟨none, (.pick 77 (.t 73) (.t 76) (.c (.imm true (.bool false))))⟩, ⟨none, (.mv 78 (.t 77))⟩, ⟨(some (78, true)), (.fad 79 (.t 10) 1)⟩, ⟨(some (78, true)), (.fad 80 (.t 79) 0)⟩, ⟨(some (78, true)), (.load 81 (.t 80) none)⟩, ⟨(some (78, true)), (.bin 82 .eql (.t 81) (.c (.imm true (.int .i8 1))))⟩, ⟨none, (.pick 83 (.t 78) (.t 82) (.c (.imm true (.bool false))))⟩, ⟨none, (.mv 84 (.t 83))⟩, ⟨(some (84, true)), (.fad 85 (.t 12) 0)⟩, ⟨(some (84, true)), (.load 86 (.t 85) none)⟩, ⟨(some (84, true)), (.bin 87 .eql (.t 86) (.c (.imm true (.int .i8 1))))⟩, ⟨none, (.pick 88 (.t 84) (.t 87) (.c (.imm true (.bool false))))⟩, ⟨none, (.mv 89 (.t 88))⟩, ⟨(some (89, true)), (.fad 90 (.t 12) 5)⟩, ⟨(some (89, true)), (.load 91 (.t 90) none)⟩, ⟨(some (89, true)), (.bin 92 .eql (.t 91) (.c (.imm true (.int .i64 3))))⟩, ⟨none, (.pick 93 (.t 89) (.t 92) (.c (.imm true (.bool false))))⟩, ⟨none, (.mv 94 (.t 93))⟩, ⟨(some (94, true)), (.fad 95 (.t 12) 6)⟩, ⟨(some (94, true)), (.load 96 (.t 95) none)⟩, ⟨(some (94, true)), (.un 97 .not (.t 96))⟩, ⟨none, (.pick 98 (.t 94) (.t 97) (.c (.imm true (.bool false))))⟩, ⟨none, (.mv 99 (.t 98))⟩, ⟨(some (99, true)), (.mv 100 (.t 15))⟩, ⟨(some (99, true)), (.bin 101 .eql (.t 100) (.c (.imm true (.int .i64 150))))⟩, ⟨none, (.pick 102 (.t 99) (.t 101) (.c (.imm true (.bool false))))⟩, ⟨none, (.mv 103 (.t 102))⟩, ⟨(some (103, true)), (.load 104 (.t 4) (some 8))⟩, ⟨(some (103, true)), (.call (some 105) (.c (.fn 22 [])) [(.t 104)])⟩, ⟨none, (.pick 106 (.t 103) (.t 105) (.c (.imm true (.bool false))))⟩, ⟨none, (.mv 107 (.t 106))⟩, ⟨(some (107, true)), (.load 108 (.t 1) (some 2))⟩, ⟨(some (107, true)), (.build 109 z8 [(0, (1, (.c (.imm true (.int .i8 2))))), (1, (2, (.t 108)))])⟩, ⟨(some (107, true)), (.call (some 110) (.c (.fn 22 [])) [(.t 109)])⟩, ⟨(some (107, true)), (.un 111 .not (.t 110))⟩, ⟨none, (.pick 112 (.t 107) (.t 111) (.c (.imm true (.bool false))))⟩, ⟨none, (.mv 0 (.t 112))⟩] none (some ([0], []))
def w28_10 := @awpR_no Try.prog Q σ r28_10 _ _ ⟨rfl, rfl⟩
def my28 : MC := (.seq r28_0 (.seq r28_1 (.seq r28_2 (.seq r28_3 (.seq r28_4 (.seq r28_5 (.seq r28_6 (.seq r28_7 (.seq r28_8 (.seq r28_9 (.seq r28_10 .ret)))))))))))
theorem my28_is : trC Try.prog ⟨[], []⟩ ⟨[],
  [(0, [], []), (1, [1], [1]), (2, [1, 2], [1, 2]), (3, [1, 2, 3], [1, 2, 3]), (4, [1, 2, 3, 4, 5], [1, 2, 3, 4]), (5, [1, 2, 3, 4, 5, 6, 7], [1, 2, 3, 4, 6]), (6, [1, 4, 5, 6, 7, 8, 9], [1, 4, 6, 8]), (7, [1, 4, 5, 6, 7, 8, 9, 10, 11], [1, 4, 6, 8, 10]), (8, [1, 4, 5, 6, 7, 9, 10, 11, 12, 13], [1, 4, 6, 10, 12]), (9, [1, 4, 5, 7, 9, 10, 11, 12, 13, 15], [1, 4, 10, 12]), (10, [0], [])]⟩ 113 (Try.f28.body.getD .skip) = some my28 := by kernel_rfl
theorem does28 {args : List LV} (hl : args.length.ble 113 = true) {S S' : List (List LV)} (hS : S'.length = S.length) {o : Out} (h : Lt ⟨numE 0 args, argS 0 S, []⟩ (awp Try.prog my28 (Fin [(.t 0)] o S'))) : Does Try.prog 28 args S o S' :=
  does_of_awp mixed Try.func28 (by kernel_rfl) (by kernel_rfl) my28_is (by kernel_rfl) (Nat.le_of_ble_eq_true hl) hS h
attribute [go_sem ↓] w28_0 w28_1 w28_2 w28_3 w28_4 w28_5 w28_6 w28_7 w28_8 w28_9 w28_10
attribute [go_sem] my28
end Go.Proofs.Ytopgmopdjiahmaa.Lg

/- What the laws of layer 16 call beside norm: likeness, smallness, fits, some coercions told by hand. Conditions: none; plain lemmas. -/
set_option linter.unusedVariables false
set_option linter.unusedSimpArgs false
set_option maxRecDepth 100000
set_option maxHeartbeats 2000000
namespace Go.Proofs.Ytopgmopdjiahmaa.Lg
open Go Go.RowKit Go.Proofs

theorem liket_does : ∀ t : Ty, t.fits → Does Try.prog 61 [.imm false (.agg t.cells), .imm false (.agg t.cells)] [] (.ret true (.bool true)) [] := by
  refine Ty.ind fun k ts ih hf => ?_
  have hfl : ts.length ≤ 9223372036854775807 := hf.1
  refine does61 (by rfl) (by rfl) ?_
  (try simp (implicitDefEqProofs := false) only [go_sem, ↓reduceIte, Nat.reduceEqDiff, reduceCtorEq, Nat.reduceAdd, Nat.reduceSub, Nat.reduceLeDiff, Nat.reduceLT, Nat.reduceMul, Int.reduceToNat, Int.reduceLT, Int.reduceLE, Ty.cells, bne_self_eq_false, Ty.cellsL_len])
  refine ⟨fun m σ => ∃ j f, j ≤ ts.length ∧ m = ts.length - j ∧ σ = ⟨[(2, .imm false (.ptr (Ty.mk k ts).cells 0)), (3, .imm false (.ptr (Ty.mk k ts).cells 0)), (5, .imm f (.int .i64 (j : Nat)))], [], []⟩, ⟨_, 0, true, by omega, rfl, by simp only [Ty.cells]; rfl⟩, ?_⟩
  rintro m σ ⟨j, f, hj, rfl, rfl⟩
  unfold l61_0
  by_cases hlt : j < ts.length
  · obtain ⟨k', ts', hm, hat, _, _⟩ := Ty.kid hlt
    (try simp (implicitDefEqProofs := false) only [go_sem, ↓reduceIte, Nat.reduceEqDiff, reduceCtorEq, Nat.reduceAdd, Nat.reduceSub, Nat.reduceLeDiff, Nat.reduceLT, Nat.reduceMul, Int.reduceToNat, Int.reduceLT, Int.reduceLE, Ty.cells, Ty.cellsL_len, hat, Int.toNat_natCast, Int.natCast_nonneg, show decide ((j : Int) < (ts.length : Int)) = true from by simpa using hlt])
    refine CallK_do (ih _ hm (Ty.fitsL_mem (by simpa [Ty.fits] using hf.2) _ hm)) ?_
    (try simp (implicitDefEqProofs := false) only [go_sem, ↓reduceIte, Nat.reduceEqDiff, reduceCtorEq, Nat.reduceAdd, Nat.reduceSub, Nat.reduceLeDiff, Nat.reduceLT, Nat.reduceMul, Int.reduceToNat, Int.reduceLT, Int.reduceLE, wrap64 (n := (j : Int) + 1) (by omega) (by omega)])
    exact ⟨_, by omega, j + 1, true, by omega, rfl, rfl⟩
  · (try simp (implicitDefEqProofs := false) only [go_sem, ↓reduceIte, Nat.reduceEqDiff, reduceCtorEq, Nat.reduceAdd, Nat.reduceSub, Nat.reduceLeDiff, Nat.reduceLT, Nat.reduceMul, Int.reduceToNat, Int.reduceLT, Int.reduceLE, Ty.cells, Ty.cellsL_len, show decide ((j : Int) < (ts.length : Int)) = false from by simpa using hlt])
theorem like_does : ∀ c : Cn, c.fits → Does Try.prog 24 [.imm false (.agg c.cells), .imm false (.agg c.cells)] [] (.ret true (.bool true)) [] := by
  refine Cn.ind fun k ty to lab neg ks ih hf => ?_
  have hfl : ks.length ≤ 9223372036854775807 := hf.2.2.1
  have l1 := liket_does ty hf.1
  have l2 := liket_does to hf.2.1
  simp only [Ty.cells_eq] at l1 l2
  refine does24 (by rfl) (by rfl) ?_
  (try simp (implicitDefEqProofs := false) only [go_sem, ↓reduceIte, Nat.reduceEqDiff, reduceCtorEq, Nat.reduceAdd, Nat.reduceSub, Nat.reduceLeDiff, Nat.reduceLT, Nat.reduceMul, Int.reduceToNat, Int.reduceLT, Int.reduceLE, Cn.cells, bne_self_eq_false, Cn.cellsL_len])
  refine CallK_do l1 ?_
  (try simp (implicitDefEqProofs := false) only [go_sem, ↓reduceIte, Nat.reduceEqDiff, reduceCtorEq, Nat.reduceAdd, Nat.reduceSub, Nat.reduceLeDiff, Nat.reduceLT, Nat.reduceMul, Int.reduceToNat, Int.reduceLT, Int.reduceLE])
  refine CallK_do l2 ?_
  (try simp (implicitDefEqProofs := false) only [go_sem, ↓reduceIte, Nat.reduceEqDiff, reduceCtorEq, Nat.reduceAdd, Nat.reduceSub, Nat.reduceLeDiff, Nat.reduceLT, Nat.reduceMul, Int.reduceToNat, Int.reduceLT, Int.reduceLE])
  refine ⟨fun m σ => ∃ j f, j ≤ ks.length ∧ m = ks.length - j ∧ σ = ⟨[(2, .imm false (.ptr (Cn.mk k ty to lab neg ks).cells 0)), (3, .imm false (.ptr (Cn.mk k ty to lab neg ks).cells 0)), (5, .imm f (.int .i64 (j : Nat)))], [], []⟩, ⟨_, 0, true, by omega, rfl, by simp only [Cn.cells]; rfl⟩, ?_⟩
  rintro m σ ⟨j, f, hj, rfl, rfl⟩
  unfold l24_0
  by_cases hlt : j < ks.length
  · obtain ⟨c, hm, hat, _, _⟩ := Cn.kid hlt
    have hc := ih _ hm (Cn.fitsL_mem hf.2.2.2.2 _ hm)
    have hlc := Cn.cells_len c
    obtain ⟨k2, ty2, to2, lab2, neg2, ks2⟩ := c
    simp only [Cn.cells] at hat hc
    (try simp (implicitDefEqProofs := false) only [go_sem, ↓reduceIte, Nat.reduceEqDiff, reduceCtorEq, Nat.reduceAdd, Nat.reduceSub, Nat.reduceLeDiff, Nat.reduceLT, Nat.reduceMul, Int.reduceToNat, Int.reduceLT, Int.reduceLE, Cn.cells, Cn.cellsL_len, hat, Int.toNat_natCast, Int.natCast_nonneg, show decide ((j : Int) < (ks.length : Int)) = true from by simpa using hlt])
    refine CallK_do hc ?_
    (try simp (implicitDefEqProofs := false) only [go_sem, ↓reduceIte, Nat.reduceEqDiff, reduceCtorEq, Nat.reduceAdd, Nat.reduceSub, Nat.reduceLeDiff, Nat.reduceLT, Nat.reduceMul, Int.reduceToNat, Int.reduceLT, Int.reduceLE, wrap64 (n := (j : Int) + 1) (by omega) (by omega)])
    exact ⟨_, by omega, j + 1, true, by omega, rfl, rfl⟩
  · (try simp (implicitDefEqProofs := false) only [go_sem, ↓reduceIte, Nat.reduceEqDiff, reduceCtorEq, Nat.reduceAdd, Nat.reduceSub, Nat.reduceLeDiff, Nat.reduceLT, Nat.reduceMul, Int.reduceToNat, Int.reduceLT, Int.reduceLE, Cn.cells, Cn.cellsL_len, show decide ((j : Int) < (ks.length : Int)) = false from by simpa using hlt])

/-! ### counted with an early end -/
mutual
def Ty.tyd : Ty → Int → Int
  | .mk _ ts, n => Ty.tydL ts (n + 1)
def Ty.tydL : List Ty → Int → Int
  | [], n => n
  | t :: r, n => if n > 16384 then n else Ty.tydL r (t.tyd n)
end
mutual
theorem Ty.tyd_le : ∀ (t : Ty) (n : Int), 0 ≤ n → n ≤ 16400 → 0 ≤ t.tyd n ∧ t.tyd n ≤ max (n + 1) 16385
  | .mk k ts, n, h, h' => by
    simp only [Ty.tyd]
    have := Ty.tydL_le ts (n + 1) (by omega) (by omega)
    omega
theorem Ty.tydL_le : ∀ (ts : List Ty) (n : Int), 0 ≤ n → n ≤ 16401 → 0 ≤ Ty.tydL ts n ∧ Ty.tydL ts n ≤ max n 16385
  | [], n, h, h' => by simp only [Ty.tydL]; omega
  | t :: r, n, h, h' => by
    simp only [Ty.tydL]
    split
    · omega
    · have h1 := Ty.tyd_le t n h (by omega)
      have h2 := Ty.tydL_le r (t.tyd n) h1.1 (by omega)
      omega
end
theorem Ty.tydL_gt : ∀ (ts : List Ty) (m : Int), m > 16384 → Ty.tydL ts m = m
  | [], m, h => rfl
  | c :: r, m, h => by simp only [Ty.tydL, if_pos h]
theorem typed_does : ∀ t : Ty, t.fits → ∀ n : Int, 0 ≤ n → n ≤ 16400 → Does Try.prog 95 [.imm false (.agg t.cells), .imm false (.int .i64 n)] [] (.ret true (.int .i64 (t.tyd n))) [] := by
  refine Ty.ind fun k ts ih hf n hn hn2 => ?_
  have hfl : ts.length ≤ 9223372036854775807 := hf.1
  refine does95 (by rfl) (by rfl) ?_
  (try simp (implicitDefEqProofs := false) only [go_sem, ↓reduceIte, Nat.reduceEqDiff, reduceCtorEq, Nat.reduceAdd, Nat.reduceSub, Nat.reduceLeDiff, Nat.reduceLT, Nat.reduceMul, Int.reduceToNat, Int.reduceLT, Int.reduceLE, Ty.cells, wrap64 (n := n + 1) (by omega) (by omega)])
  refine ⟨fun m σ => ∃ j f g n', j ≤ ts.length ∧ m = ts.length - j ∧ 0 ≤ n' ∧ n' ≤ 16401 ∧ (Ty.mk k ts).tyd n = Ty.tydL (ts.drop j) n' ∧ σ = ⟨[(1, .imm g (.int .i64 n')), (2, .imm false (.ptr (Ty.mk k ts).cells 0)), (5, .imm f (.int .i64 (j : Nat)))], [], []⟩, ⟨_, 0, true, true, n + 1, by omega, rfl, by omega, by omega, by simp [Ty.tyd], by simp only [Ty.cells]; rfl⟩, ?_⟩
  rintro m σ ⟨j, f, g, n', hj, rfl, h1, h2, hs, rfl⟩
  unfold l95_0
  by_cases hlt : j < ts.length
  · by_cases hle : n' ≤ 16384
    · obtain ⟨k', ts', hm, hat, hdr, _⟩ := Ty.kid hlt
      rw [hdr, Ty.tydL, if_neg (by omega)] at hs
      have hb := Ty.tyd_le (.mk k' ts') n' (by omega) (by omega)
      (try simp (implicitDefEqProofs := false) only [go_sem, ↓reduceIte, Nat.reduceEqDiff, reduceCtorEq, Nat.reduceAdd, Nat.reduceSub, Nat.reduceLeDiff, Nat.reduceLT, Nat.reduceMul, Int.reduceToNat, Int.reduceLT, Int.reduceLE, Ty.cells, Ty.cellsL_len, hat, Int.toNat_natCast, Int.natCast_nonneg, show decide ((j : Int) < (ts.length : Int)) = true from by simpa using hlt, decide_eq_true hle])
      refine CallK_do (ih _ hm (Ty.fitsL_mem (by simpa [Ty.fits] using hf.2) _ hm) n' (by omega) (by omega)) ?_
      (try simp (implicitDefEqProofs := false) only [go_sem, ↓reduceIte, Nat.reduceEqDiff, reduceCtorEq, Nat.reduceAdd, Nat.reduceSub, Nat.reduceLeDiff, Nat.reduceLT, Nat.reduceMul, Int.reduceToNat, Int.reduceLT, Int.reduceLE, wrap64 (n := (j : Int) + 1) (by omega) (by omega)])
      exact ⟨_, by omega, j + 1, true, true, _, by omega, rfl, by omega, by omega, hs, rfl⟩
    · rw [Ty.tydL_gt _ _ (by omega)] at hs
      (try simp (implicitDefEqProofs := false) only [go_sem, ↓reduceIte, Nat.reduceEqDiff, reduceCtorEq, Nat.reduceAdd, Nat.reduceSub, Nat.reduceLeDiff, Nat.reduceLT, Nat.reduceMul, Int.reduceToNat, Int.reduceLT, Int.reduceLE, Ty.cells, Ty.cellsL_len, show decide ((j : Int) < (ts.length : Int)) = true from by simpa using hlt, decide_eq_false hle])
      simp [hs]
  · have hge : j = ts.length := by omega
    subst hge
    simp only [List.drop_length, Ty.tydL] at hs
    (try simp (implicitDefEqProofs := false) only [go_sem, ↓reduceIte, Nat.reduceEqDiff, reduceCtorEq, Nat.reduceAdd, Nat.reduceSub, Nat.reduceLeDiff, Nat.reduceLT, Nat.reduceMul, Int.reduceToNat, Int.reduceLT, Int.reduceLE, Ty.cells, Ty.cellsL_len, show decide ((ts.length : Int) < (ts.length : Int)) = false from by simp])
    simp [hs]
mutual
def Cn.cyd : Cn → Int → Int
  | .mk _ ty to _ _ ks, n => Cn.cydL ks (to.tyd (ty.tyd (n + 1)))
def Cn.cydL : List Cn → Int → Int
  | [], n => n
  | t :: r, n => if n > 16384 then n else Cn.cydL r (t.cyd n)
end
mutual
theorem Cn.cyd_le : ∀ (t : Cn) (n : Int), 0 ≤ n → n ≤ 16384 → 0 ≤ t.cyd n ∧ t.cyd n ≤ 16388
  | .mk k ty to _ _ ks, n, h, h' => by
    simp only [Cn.cyd]
    have h1 := Ty.tyd_le ty (n + 1) (by omega) (by omega)
    have h2 := Ty.tyd_le to (ty.tyd (n + 1)) (by omega) (by omega)
    have := Cn.cydL_le ks (to.tyd (ty.tyd (n + 1))) (by omega) (by omega)
    omega
theorem Cn.cydL_le : ∀ (ts : List Cn) (n : Int), 0 ≤ n → n ≤ 16388 → 0 ≤ Cn.cydL ts n ∧ Cn.cydL ts n ≤ 16388
  | [], n, h, h' => by simp only [Cn.cydL]; omega
  | t :: r, n, h, h' => by
    simp only [Cn.cydL]
    split
    · omega
    · have h1 := Cn.cyd_le t n h (by omega)
      exact Cn.cydL_le r (t.cyd n) h1.1 (by omega)
end
theorem Cn.cydL_gt : ∀ (ts : List Cn) (m : Int), m > 16384 → Cn.cydL ts m = m
  | [], m, h => rfl
  | c :: r, m, h => by simp only [Cn.cydL, if_pos h]
theorem lcounted_does : ∀ c : Cn, c.fits → ∀ n : Int, 0 ≤ n → n ≤ 16384 → Does Try.prog 62 [.imm false (.agg c.cells), .imm false (.int .i64 n)] [] (.ret true (.int .i64 (c.cyd n))) [] := by
  refine Cn.ind fun k ty to lab neg ks ih hf n hn hn2 => ?_
  have hfl : ks.length ≤ 9223372036854775807 := hf.2.2.1
  have b1 := Ty.tyd_le ty (n + 1) (by omega) (by omega)
  have b2 := Ty.tyd_le to (ty.tyd (n + 1)) (by omega) (by omega)
  have t1 := typed_does ty hf.1 (n + 1) (by omega) (by omega)
  have t2 := typed_does to hf.2.1 (ty.tyd (n + 1)) (by omega) (by omega)
  simp only [Ty.cells_eq] at t1 t2
  refine does62 (by rfl) (by rfl) ?_
  (try simp (implicitDefEqProofs := false) only [go_sem, ↓reduceIte, Nat.reduceEqDiff, reduceCtorEq, Nat.reduceAdd, Nat.reduceSub, Nat.reduceLeDiff, Nat.reduceLT, Nat.reduceMul, Int.reduceToNat, Int.reduceLT, Int.reduceLE, Cn.cells, wrap64 (n := n + 1) (by omega) (by omega)])
  refine CallK_do t1 ?_
  (try simp (implicitDefEqProofs := false) only [go_sem, ↓reduceIte, Nat.reduceEqDiff, reduceCtorEq, Nat.reduceAdd, Nat.reduceSub, Nat.reduceLeDiff, Nat.reduceLT, Nat.reduceMul, Int.reduceToNat, Int.reduceLT, Int.reduceLE])
  refine CallK_do t2 ?_
  (try simp (implicitDefEqProofs := false) only [go_sem, ↓reduceIte, Nat.reduceEqDiff, reduceCtorEq, Nat.reduceAdd, Nat.reduceSub, Nat.reduceLeDiff, Nat.reduceLT, Nat.reduceMul, Int.reduceToNat, Int.reduceLT, Int.reduceLE])
  refine ⟨fun m σ => ∃ j f g n', j ≤ ks.length ∧ m = ks.length - j ∧ 0 ≤ n' ∧ n' ≤ 16388 ∧ (Cn.mk k ty to lab neg ks).cyd n = Cn.cydL (ks.drop j) n' ∧ σ = ⟨[(1, .imm g (.int .i64 n')), (2, .imm false (.ptr (Cn.mk k ty to lab neg ks).cells 0)), (5, .imm f (.int .i64 (j : Nat)))], [], []⟩, ⟨_, 0, true, true, to.tyd (ty.tyd (n + 1)), by omega, rfl, by omega, by omega, by simp [Cn.cyd], by simp only [Cn.cells]; rfl⟩, ?_⟩
  rintro m σ ⟨j, f, g, n', hj, rfl, h1, h2, hs, rfl⟩
  unfold l62_0
  by_cases hlt : j < ks.length
  · by_cases hle : n' ≤ 16384
    · obtain ⟨c, hm, hat, hdr, _⟩ := Cn.kid hlt
      rw [hdr, Cn.cydL, if_neg (by omega)] at hs
      have hb := Cn.cyd_le c n' (by omega) (by omega)
      have hc := ih _ hm (Cn.fitsL_mem hf.2.2.2.2 _ hm) n' (by omega) (by omega)
      have hlc := Cn.cells_len c
      generalize hcy : c.cyd n' = y at hs hb hc
      obtain ⟨k2, ty2, to2, lab2, neg2, ks2⟩ := c
      simp only [Cn.cells] at hat hc
      (try simp (implicitDefEqProofs := false) only [go_sem, ↓reduceIte, Nat.reduceEqDiff, reduceCtorEq, Nat.reduceAdd, Nat.reduceSub, Nat.reduceLeDiff, Nat.reduceLT, Nat.reduceMul, Int.reduceToNat, Int.reduceLT, Int.reduceLE, Cn.cells, Cn.cellsL_len, hat, Int.toNat_natCast, Int.natCast_nonneg, show decide ((j : Int) < (ks.length : Int)) = true from by simpa using hlt, decide_eq_true hle])
      refine CallK_do hc ?_
      (try simp (implicitDefEqProofs := false) only [go_sem, ↓reduceIte, Nat.reduceEqDiff, reduceCtorEq, Nat.reduceAdd, Nat.reduceSub, Nat.reduceLeDiff, Nat.reduceLT, Nat.reduceMul, Int.reduceToNat, Int.reduceLT, Int.reduceLE, wrap64 (n := (j : Int) + 1) (by omega) (by omega)])
      exact ⟨_, by omega, j + 1, true, true, _, by omega, rfl, by omega, by omega, hs, rfl⟩
    · rw [Cn.cydL_gt _ _ (by omega)] at hs
      (try simp (implicitDefEqProofs := false) only [go_sem, ↓reduceIte, Nat.reduceEqDiff, reduceCtorEq, Nat.reduceAdd, Nat.reduceSub, Nat.reduceLeDiff, Nat.reduceLT, Nat.reduceMul, Int.reduceToNat, Int.reduceLT, Int.reduceLE, Cn.cells, Cn.cellsL_len, show decide ((j : Int) < (ks.length : Int)) = true from by simpa using hlt, decide_eq_false hle])
      simp [hs]
  · have hge : j = ks.length := by omega
    subst hge
    simp only [List.drop_length, Cn.cydL] at hs
    (try simp (implicitDefEqProofs := false) only [go_sem, ↓reduceIte, Nat.reduceEqDiff, reduceCtorEq, Nat.reduceAdd, Nat.reduceSub, Nat.reduceLeDiff, Nat.reduceLT, Nat.reduceMul, Int.reduceToNat, Int.reduceLT, Int.reduceLE, Cn.cells, Cn.cellsL_len, show decide ((ks.length : Int) < (ks.length : Int)) = false from by simp])
    simp [hs]
def Cn.smallB (c : Cn) : Bool := decide (c.cyd 0 ≤ 16384)
theorem small_does (c : Cn) (hf : c.fits) : Does Try.prog 25 [.imm false (.agg c.cells)] [] (.ret true (.bool c.smallB)) [] := by
  have h := lcounted_does c hf 0 (by omega) (by omega)
  unfold Cn.smallB
  generalize c.cyd 0 = y at h
  obtain ⟨k, ty, to, lab, neg, ks⟩ := c
  simp only [Cn.cells] at h
  refine does25 (by rfl) (by rfl) ?_
  (try simp (implicitDefEqProofs := false) only [go_sem, ↓reduceIte, Nat.reduceEqDiff, reduceCtorEq, Nat.reduceAdd, Nat.reduceSub, Nat.reduceLeDiff, Nat.reduceLT, Nat.reduceMul, Int.reduceToNat, Int.reduceLT, Int.reduceLE, Cn.cells])
  refine CallK_do h ?_
  (try simp (implicitDefEqProofs := false) only [go_sem, ↓reduceIte, Nat.reduceEqDiff, reduceCtorEq, Nat.reduceAdd, Nat.reduceSub, Nat.reduceLeDiff, Nat.reduceLT, Nat.reduceMul, Int.reduceToNat, Int.reduceLT, Int.reduceLE])

/-! ### as great as it may be -/
def Cn.sizeF (c : Cn) : Int := if c.chk.2.2 = 0 then c.size else 0
/-! ### some coercions, told by hand -/
theorem cast_det {a b : Ty} {lab : Int} {r : Cn × Int} (h : CastA a b lab r) {c : Cn} (ha : a.check = 0) (hb : b.check = 0) (hl : a.lev b = true) (hi : labIn lab = true) (hc : OfR (labN lab) (labS lab) a b c) (hk : c.chk.2.2 = 0) : r = normA c := by
  cases h with
  | mk c2 e hA =>
    cases hA with
    | e1 h => exact absurd ha h
    | e2 _ h => exact absurd hb h
    | e3 _ _ h => rcases h with h | h <;> simp_all
    | e4 c3 _ _ _ _ h3 he => rw [h3.det hc] at he; exact absurd hk he
    | ok c3 _ _ _ _ h3 he => rw [if_pos rfl, h3.det hc]
theorem int_check : (Ty.mk 1 []).check = 0 := check_iff.2 ⟨by simp [Ty.nodes, Ty.nodesL], by simp [Ty.high, Ty.highL], by simp [Ty.right, Ty.rightL, partsF]⟩
theorem bool_check : (Ty.mk 2 []).check = 0 := check_iff.2 ⟨by simp [Ty.nodes, Ty.nodesL], by simp [Ty.high, Ty.highL], by simp [Ty.right, Ty.rightL, partsF]⟩
theorem small_ok {a : Nf} {l : Nat} (h : a.wf l) (hc : a.cn.cnt ≤ 8192) (hd : a.cn.dp ≤ 200) : tolN a = (a.cn, 0) := by simp [tolN, nf_ok h hc hd]
theorem cn_inn_cnt (i : Nf) (g : Int) : (Nf.inn i g).cn.cnt ≤ i.cn.cnt + 5 := by
  have hn : (gty g).nodes ≤ 3 := by unfold gty; split <;> simp [Ty.nodes, Ty.nodesL, Ty.un]
  simp only [Nf.cn, cnt_part 7 _ _ (by omega)]
  simp [Cn.cnt, Cn.cntL, leafF]
  omega
theorem cn_out_cnt (i : Nf) (g p : Int) (n : Bool) : (Nf.out g p n i).cn.cnt ≤ i.cn.cnt + 5 := by
  have hn : (gty g).nodes ≤ 3 := by unfold gty; split <;> simp [Ty.nodes, Ty.nodesL, Ty.un]
  simp only [Nf.cn, cnt_part 7 _ _ (by omega)]
  simp [Cn.cnt, Cn.cntL, leafF]
  omega
theorem base_cnt (k : Int) : (Nf.base k).cn.cnt = 2 := by simp [Nf.cn, Cn.cnt, Cn.cntL, leafF, Ty.nodes, Ty.nodesL]
theorem base_dp (k : Int) : (Nf.base k).cn.dp = 2 := by simp [Nf.cn, Cn.dp, Cn.dpL, dp0, leafF, Ty.high, Ty.highL]
theorem gty_high_le (g : Int) : (gty g).high ≤ 2 := (ghi_le g).2
theorem cn_inn_dp (i : Nf) (g : Int) : (Nf.inn i g).cn.dp ≤ maxI i.cn.dp 3 + 1 := by
  have := gty_high_le g
  simp only [Nf.cn, dp_part 7 _ _ (by omega)]
  have e : (Cn.mk 2 (gty g) .un 0 false []).dp = (gty g).high + 1 := by simp [Cn.dp, Cn.dpL, dp0, leafF]
  rw [e]
  unfold maxI; (repeat' split) <;> omega
theorem cn_out_dp (i : Nf) (g p : Int) (n : Bool) : (Nf.out g p n i).cn.dp ≤ maxI i.cn.dp 3 + 1 := by
  have := gty_high_le g
  simp only [Nf.cn, dp_part 7 _ _ (by omega)]
  have e : (Cn.mk 3 (gty g) .un p n []).dp = (gty g).high + 1 := by simp [Cn.dp, Cn.dpL, dp0, leafF]
  rw [e]
  unfold maxI; (repeat' split) <;> omega
theorem inn_base_ok (k : Int) (hk : k = 1 ∨ k = 2) : (Nf.inn (.base k) k).wf 2 ∧ tolN (.inn (.base k) k) = ((Nf.inn (.base k) k).cn, 0) ∧ (Nf.inn (.base k) k).cn.chk = (.mk k [], .un, 0) := by
  have h : (Nf.inn (.base k) k).wf 2 := ⟨by omega, ⟨by omega, by omega⟩, hk, by simp [Nf.en, gty, hk]⟩
  have c := cn_inn_cnt (.base k) k
  have d := cn_inn_dp (.base k) k
  rw [base_cnt] at c
  rw [base_dp] at d
  have d2 : maxI 2 3 = 3 := rfl
  rw [d2] at d
  exact ⟨h, small_ok h (by omega) (by omega), nf_ok h (by omega) (by omega)⟩
theorem out_base_ok (k p : Int) (n : Bool) (hk : k = 1 ∨ k = 2) (hp : labOk p = true) : (Nf.out k p n (.base k)).wf 2 ∧ tolN (.out k p n (.base k)) = ((Nf.out k p n (.base k)).cn, 0) ∧ (Nf.out k p n (.base k)).cn.chk = (.un, .mk k [], 0) := by
  have h : (Nf.out k p n (.base k)).wf 2 := ⟨rfl, ⟨by omega, by omega⟩, hp, hk, by simp [Nf.en, gty, hk]⟩
  have c := cn_out_cnt (.base k) k p n
  have d := cn_out_dp (.base k) k p n
  rw [base_cnt] at c
  rw [base_dp] at d
  have d2 : maxI 2 3 = 3 := rfl
  rw [d2] at d
  exact ⟨h, small_ok h (by omega) (by omega), nf_ok h (by omega) (by omega)⟩

/-- a base value's cast into the unknown, and out of it -/
theorem cast_in (k lab : Int) (hk : k = 1 ∨ k = 2) (hi : labIn lab = true) : Does Try.prog 29 [.imm false (.agg [.int .i8 k, .slice []]), .imm false (.agg [.int .i8 0, .slice []]), .imm false (.int .i64 lab)] [] (.ret true (.tup [.agg (Nf.inn (.base k) k).cn.cells, .int .i64 0])) [] := by
  have hc : (Ty.mk k []).check = 0 := by rcases hk with rfl | rfl; exact int_check; exact bool_check
  have hin := of_decide_eq_true hi
  obtain ⟨r, hr, hd⟩ := castA_does (.mk k []) .un (Ty.right_fits _ (check_iff.1 hc).2.2) un_fits lab (by omega)
  have ho : OfR (labN lab) (labS lab) (.mk k []) .un (part 7 (.mk 0 (.mk k []) .un 0 false []) (.mk 2 (.mk k []) .un 0 false [])) := by
    have := OfR.inn (lab := labN lab) (labS lab) k [] [] (.mk 0 (.mk k []) .un 0 false []) (by omega) hc (by rw [ground_base hc (by omega)]; exact .id _ _ _)
    rw [ground_base hc (by omega)] at this
    exact this
  have hb := inn_base_ok k hk
  have e : part 7 (.mk 0 (.mk k []) .un 0 false []) (.mk 2 (.mk k []) .un 0 false []) = (Nf.inn (.base k) k).cn := by simp [Nf.cn, gty, hk]
  rw [e] at ho
  have := cast_det hr hc un_check (by simp [Ty.lev, Ty.un]) hi ho (by rw [hb.2.2])
  rw [normA, if_pos (by rw [hb.2.2]), nf_cn hb.1, hb.2.1] at this
  subst this
  simpa [coV, Ty.cells, Ty.cellsL, Ty.un] using hd
theorem cast_out (k lab : Int) (hk : k = 1 ∨ k = 2) (hi : labIn lab = true) : Does Try.prog 29 [.imm false (.agg [.int .i8 0, .slice []]), .imm false (.agg [.int .i8 k, .slice []]), .imm false (.int .i64 lab)] [] (.ret true (.tup [.agg (Nf.out k (labN lab) (labS lab) (.base k)).cn.cells, .int .i64 0])) [] := by
  have hc : (Ty.mk k []).check = 0 := by rcases hk with rfl | rfl; exact int_check; exact bool_check
  have hin := of_decide_eq_true hi
  obtain ⟨r, hr, hd⟩ := castA_does .un (.mk k []) un_fits (Ty.right_fits _ (check_iff.1 hc).2.2) lab (by omega)
  have ho : OfR (labN lab) (labS lab) .un (.mk k []) (part 7 (.mk 3 (.mk k []) .un (labN lab) (labS lab) []) (.mk 0 (.mk k []) .un 0 false [])) := by
    have := OfR.out (lab := labN lab) (labS lab) k [] [] (.mk 0 (.mk k []) .un 0 false []) (by omega) hc (by rw [ground_base hc (by omega)]; exact .id _ _ _)
    rw [ground_base hc (by omega)] at this
    exact this
  have hb := out_base_ok k (labN lab) (labS lab) hk (labOk_N hi)
  have e : part 7 (.mk 3 (.mk k []) .un (labN lab) (labS lab) []) (.mk 0 (.mk k []) .un 0 false []) = (Nf.out k (labN lab) (labS lab) (.base k)).cn := by simp [Nf.cn, gty, hk]
  rw [e] at ho
  have := cast_det hr un_check hc (by simp [Ty.lev, Ty.un]) hi ho (by rw [hb.2.2])
  rw [normA, if_pos (by rw [hb.2.2]), nf_cn hb.1, hb.2.1] at this
  subst this
  simpa [coV, Ty.cells, Ty.cellsL, Ty.un] using hd
end Go.Proofs.Ytopgmopdjiahmaa.Lg

/- Some coercions, told by hand; merging of two in normal form, in short. Conditions: none; plain lemmas. -/
set_option linter.unusedVariables false
set_option linter.unusedSimpArgs false
set_option maxRecDepth 100000
set_option maxHeartbeats 2000000
namespace Go.Proofs.Ytopgmopdjiahmaa.Lg
open Go Go.RowKit Go.Proofs

theorem nf_ends' {a : Nf} (ha : a.wf 2) (hc : a.cn.chk.2.2 = 0) : a.cn.ends.1 = a.en.1 ∧ a.cn.ends.2.1 = a.en.2 ∧ a.en.1.check = 0 ∧ a.en.2.check = 0 ∧ a.cn.chk = (a.en.1, a.en.2, 0) := by
  have hk := ok_iff hc
  rcases nf_chk ha with e | e | e
  · rw [e] at hc; simp at hc
  · rw [e] at hc; simp at hc
  · rw [hk.2.2.2.2.2] at e
    simp only [Prod.mk.injEq, and_true] at e
    refine ⟨e.1, e.2, ?_, ?_, ?_⟩
    · rw [← e.1]; exact hk.2.2.2.1
    · rw [← e.2]; exact hk.2.2.2.2.1
    · rw [hk.2.2.2.2.2, e.1, e.2]
theorem thenA_nf {a b : Nf} (ha : a.wf 2) (hb : b.wf 2) (ca : a.cn.chk.2.2 = 0) (cb : b.cn.chk.2.2 = 0) (h : a.en.2 = b.en.1) : thenA a.cn b.cn = tolN (join a b) := by
  have ea := nf_ends' ha ca
  have eb := nf_ends' hb cb
  unfold thenA
  rw [nf_isB ha ca, nf_isB hb cb, ea.2.1, eb.1, nf_cn ha, nf_cn hb]
  rw [if_neg (by simp), if_neg (by rw [h, Ty.same_refl eb.2.2.1]; simp)]
theorem thenA_no {a b : Nf} (ha : a.wf 2) (hb : b.wf 2) (ca : a.cn.chk.2.2 = 0) (cb : b.cn.chk.2.2 = 0) (h : a.en.2 ≠ b.en.1) : thenA a.cn b.cn = (.zero, 150) := by
  have ea := nf_ends' ha ca
  have eb := nf_ends' hb cb
  unfold thenA
  rw [nf_isB ha ca, nf_isB hb cb, ea.2.1, eb.1]
  have : a.en.2.same b.en.1 = false := by
    cases hs : a.en.2.same b.en.1 with
    | false => rfl
    | true => exact absurd (same_iff.1 hs).2 h
  rw [if_neg (by simp), if_pos this]

theorem lab1 : labIn 1 = true := by decide
theorem lab3 : labIn 3 = true := by decide
theorem labOk3 : labOk 3 = true := by decide
theorem wakes_does : Does Try.prog 28 [] [] (.ret true (.bool true)) [] := by
  have c1 := cast_in 1 1 (by omega) lab1
  have c2 := cast_out 1 3 (by omega) lab3
  have c3 := cast_out 2 3 (by omega) lab3
  simp only [show labN 3 = 3 from rfl, show labS 3 = false from rfl] at c2 c3
  obtain ⟨w1, t1, k1⟩ := inn_base_ok 1 (by omega)
  obtain ⟨w2, t2, k2⟩ := out_base_ok 1 3 false (by omega) labOk3
  obtain ⟨w3, t3, k3⟩ := out_base_ok 2 3 false (by omega) labOk3
  have d1 := thenA_does _ _ (cn_fits w1) (cn_fits w2)
  have d2 := thenA_does _ _ (cn_fits w1) (cn_fits w3)
  have d3 := thenA_does _ _ (cn_fits w2) (cn_fits w2)
  rw [thenA_nf w1 w2 (by rw [k1]) (by rw [k2]) rfl, join_inn_eq, join_base, small_ok (a := .base 1) (l := 2) (.inl rfl) (by rw [base_cnt]; omega) (by rw [base_dp]; omega)] at d1
  have wf : (Nf.fail (.mk 1 []) (.mk 2 []) 3 false).wf 2 := ⟨by omega, by simp [Ty.k], (check_iff.1 int_check).2.2, (check_iff.1 bool_check).2.2, labOk3⟩
  rw [thenA_nf w1 w3 (by rw [k1]) (by rw [k3]) rfl, join_inn_ne _ _ _ _ _ _ (by omega), show (Nf.base 1).en.1 = .mk 1 [] from rfl, show (Nf.base 2).en.2 = .mk 2 [] from rfl,
    small_ok wf (by simp [Nf.cn, Cn.cnt, Cn.cntL, leafF, Ty.nodes, Ty.nodesL]) (by simp [Nf.cn, Cn.dp, Cn.dpL, dp0, Ty.high, Ty.highL, maxI])] at d2
  rw [thenA_no w2 w2 (by rw [k2]) (by rw [k2]) (by simp [Nf.en, Ty.un])] at d3
  have i1 := is_does _ (cn_fits w1)
  rw [nf_isB w1 (by rw [k1])] at i1
  have i2 := is_does (.mk 2 (.mk 1 []) .un 0 false []) (leaf_fits (Ty.right_fits _ (check_iff.1 int_check).2.2) un_fits (by omega))
  rw [show (Cn.mk 2 (.mk 1 []) .un 0 false []).isB = false from by simp [Cn.isB, Cn.lv, lvW, lvI, lvM]] at i2
  simp only [coV, zero_cells, Nf.cn, part_cells, Cn.cells, Cn.cellsL, Ty.un, Ty.k_mk, Ty.ts_mk, Ty.cellsL] at c1 c2 c3 d1 d2 d3 i1 i2
  refine does28 (by rfl) (by rfl) ?_
  (try simp (implicitDefEqProofs := false) only [go_sem, ↓reduceIte, Nat.reduceEqDiff, reduceCtorEq, Nat.reduceAdd, Nat.reduceSub, Nat.reduceLeDiff, Nat.reduceLT, Nat.reduceMul, Int.reduceToNat, Int.reduceLT, Int.reduceLE])
  refine CallK_do c1 ?_
  (try simp (implicitDefEqProofs := false) only [go_sem, ↓reduceIte, Nat.reduceEqDiff, reduceCtorEq, Nat.reduceAdd, Nat.reduceSub, Nat.reduceLeDiff, Nat.reduceLT, Nat.reduceMul, Int.reduceToNat, Int.reduceLT, Int.reduceLE])
  refine CallK_do c2 ?_
  (try simp (implicitDefEqProofs := false) only [go_sem, ↓reduceIte, Nat.reduceEqDiff, reduceCtorEq, Nat.reduceAdd, Nat.reduceSub, Nat.reduceLeDiff, Nat.reduceLT, Nat.reduceMul, Int.reduceToNat, Int.reduceLT, Int.reduceLE])
  refine CallK_do c3 ?_
  (try simp (implicitDefEqProofs := false) only [go_sem, ↓reduceIte, Nat.reduceEqDiff, reduceCtorEq, Nat.reduceAdd, Nat.reduceSub, Nat.reduceLeDiff, Nat.reduceLT, Nat.reduceMul, Int.reduceToNat, Int.reduceLT, Int.reduceLE])
  refine CallK_do d1 ?_
  (try simp (implicitDefEqProofs := false) only [go_sem, ↓reduceIte, Nat.reduceEqDiff, reduceCtorEq, Nat.reduceAdd, Nat.reduceSub, Nat.reduceLeDiff, Nat.reduceLT, Nat.reduceMul, Int.reduceToNat, Int.reduceLT, Int.reduceLE])
  refine CallK_do d2 ?_
  (try simp (implicitDefEqProofs := false) only [go_sem, ↓reduceIte, Nat.reduceEqDiff, reduceCtorEq, Nat.reduceAdd, Nat.reduceSub, Nat.reduceLeDiff, Nat.reduceLT, Nat.reduceMul, Int.reduceToNat, Int.reduceLT, Int.reduceLE])
  refine CallK_do d3 ?_
  (try simp (implicitDefEqProofs := false) only [go_sem, ↓reduceIte, Nat.reduceEqDiff, reduceCtorEq, Nat.reduceAdd, Nat.reduceSub, Nat.reduceLeDiff, Nat.reduceLT, Nat.reduceMul, Int.reduceToNat, Int.reduceLT, Int.reduceLE, show ((0 : Int) == 0) = true from rfl, show ((1 : Int) == 1) = true from rfl, show ((3 : Int) == 3) = true from rfl, show ((150 : Int) == 150) = true from rfl])
  refine CallK_do i1 ?_
  (try simp (implicitDefEqProofs := false) only [go_sem, ↓reduceIte, Nat.reduceEqDiff, reduceCtorEq, Nat.reduceAdd, Nat.reduceSub, Nat.reduceLeDiff, Nat.reduceLT, Nat.reduceMul, Int.reduceToNat, Int.reduceLT, Int.reduceLE])
  refine CallK_do i2 ?_
  (try simp (implicitDefEqProofs := false) only [go_sem, ↓reduceIte, Nat.reduceEqDiff, reduceCtorEq, Nat.reduceAdd, Nat.reduceSub, Nat.reduceLeDiff, Nat.reduceLT, Nat.reduceMul, Int.reduceToNat, Int.reduceLT, Int.reduceLE])
end Go.Proofs.Ytopgmopdjiahmaa.Lg
