/- Texts of one proof, joined by program (gen/merge.py): Mk Vb Vc. Conditions: none; plain definitions and lemmas. -/
import Derived.Test.YtopgmopdjiahmaaG4
import Derived.Test.YtopgmopdjiahmaaProg
import Derived.Test.YtopgmopdjiahmaaG21
import Derived.Test.YtopgmopdjiahmaaG19
/- MADE BY PROGRAM (gen/mk.py): the code of functions, as the logic sees it. Conditions: none; plain definitions and lemmas. -/
set_option linter.unusedVariables false
set_option linter.defProp false
set_option maxRecDepth 100000
namespace Go.Proofs.Ytopgmopdjiahmaa.Lg
open Go Go.RowKit Go.Proofs
variable {Q : AEx → St → Prop} {σ : St}

/-! ### 40: lychgate/lychgatetop.tall -/
def r40_0 : MC := .reg [⟨none, (.boxc 1 (.t 0))⟩, ⟨none, (.mv 2 (.c (.imm true (.int .i64 0))))⟩] none (some ([1], []))
def w40_0 := @awpR_no Try.prog Q σ r40_0 _ _ ⟨rfl, rfl⟩
def r40_1 : MC := .reg [⟨none, (.mv 3 (.c (.imm true (.int .i64 0))))⟩] none (some ([1, 3], []))
def w40_1 := @awpR_no Try.prog Q σ r40_1 _ _ ⟨rfl, rfl⟩
def r40_2 : MC := .reg [⟨none, (.fad 6 (.t 1) 1)⟩, ⟨none, (.load 7 (.t 6) none)⟩, ⟨none, (.len 8 (.t 7))⟩, ⟨none, (.mv 9 (.c (.imm true (.int .i64 0))))⟩] none (some ([3, 7, 8, 9], []))
def w40_2 := @awpR_no Try.prog Q σ r40_2 _ _ ⟨rfl, rfl⟩
def r40_3 : MC := .reg [⟨none, (.bin 10 .lss (.t 9) (.t 8))⟩] none (some ([3, 7, 8, 9, 10], []))
def w40_3 := @awpR_no Try.prog Q σ r40_3 _ _ ⟨rfl, rfl⟩
def r40_4 : MC := .reg [⟨none, (.iad 11 (.t 7) (.t 9) 2)⟩, ⟨none, (.load 12 (.t 11) (some 2))⟩, ⟨none, (.alloc 5 z2)⟩, ⟨none, (.store (.t 5) (.t 12) 2)⟩] none (some ([3, 5, 7, 8, 9], [5]))
def w40_4 := @awpR_get Try.prog Q σ r40_4 _ _ [5] ⟨rfl, rfl⟩
def r40_5 : MC := .reg [⟨none, (.mv 13 (.t 3))⟩, ⟨none, (.load 14 (.t 5) (some 2))⟩, ⟨none, (.call (some 15) (.c (.fn 40 [])) [(.t 14)])⟩, ⟨none, (.mx 16 [(.t 13), (.t 15)])⟩, ⟨none, (.mv 3 (.t 16))⟩] none (some ([3, 7, 8, 9], []))
def w40_5 := @awpR_no Try.prog Q σ r40_5 _ _ ⟨rfl, rfl⟩
def r40_6 : MC := .reg [⟨none, (.bin 17 .add (.t 9) (.c (.imm true (.int .i64 1))))⟩, ⟨none, (.mv 9 (.t 17))⟩] none (some ([3, 7, 8, 9], []))
def w40_6 := @awpR_no Try.prog Q σ r40_6 _ _ ⟨rfl, rfl⟩
def l40_0 : MC := (.seq r40_3 (.seq (.cond (.t 10) .skip (.exit 0)) (.seq (.block 1 (.seq r40_4 r40_5)) r40_6)))
def r40_7 : MC := .reg [⟨none, (.mv 18 (.t 3))⟩, ⟨none, (.bin 19 .add (.t 18) (.c (.imm true (.int .i64 1))))⟩, ⟨none, (.mv 2 (.t 19))⟩] none (some ([2], []))
def w40_7 := @awpR_no Try.prog Q σ r40_7 _ _ ⟨rfl, rfl⟩
def my40 : MC := (.seq r40_0 (.seq r40_1 (.seq (.seq r40_2 (.block 0 (.loop l40_0))) (.seq r40_7 .ret))))
theorem my40_is : trC Try.prog ⟨[1], []⟩ ⟨[],
  [(0, [1], []), (1, [1, 3], []), (2, [3, 7, 8, 9], []), (3, [3, 7, 8, 9, 10], []), (4, [3, 5, 7, 8, 9], [5]), (5, [3, 7, 8, 9], []), (6, [3, 7, 8, 9], []), (7, [2], [])]⟩ 20 (Try.f40.body.getD .skip) = some my40 := by kernel_rfl
theorem does40 {args : List LV} (hl : args.length.ble 20 = true) {S S' : List (List LV)} (hS : S'.length = S.length) {o : Out} (h : Lt ⟨numE 0 args, argS 0 S, []⟩ (awp Try.prog my40 (Fin [(.t 2)] o S'))) : Does Try.prog 40 args S o S' :=
  does_of_awp mixed Try.func40 (by kernel_rfl) (by kernel_rfl) my40_is (by kernel_rfl) (Nat.le_of_ble_eq_true hl) hS h
attribute [go_sem ↓] w40_0 w40_1 w40_2 w40_3 w40_4 w40_5 w40_6 w40_7
attribute [go_sem] my40
/-! ### 41: lychgate/lychgatetop.merges -/
def r41_0 : MC := .reg [⟨none, (.mv 0 (.c (.imm true (.bool false))))⟩] none (some ([], []))
def w41_0 := @awpR_no Try.prog Q σ r41_0 _ _ ⟨rfl, rfl⟩
def r41_1 : MC := .reg [⟨none, (.build 13 z2 [])⟩, ⟨none, (.build 14 z2 [(0, (1, (.c (.imm true (.int .i8 1)))))])⟩, ⟨none, (.alloc 1 z2)⟩, ⟨none, (.alloc 2 z2)⟩, ⟨none, (.store (.t 1) (.t 13) 2)⟩, ⟨none, (.store (.t 2) (.t 14) 2)⟩] none (some ([1, 2], [1, 2]))
def w41_1 := @awpR_get Try.prog Q σ r41_1 _ _ [1, 2] ⟨rfl, rfl⟩
def r41_2 : MC := .reg [⟨none, (.load 16 (.t 2) (some 2))⟩, ⟨none, (.load 17 (.t 1) (some 2))⟩, ⟨none, (.call (some 18) (.c (.fn 29 [])) [(.t 16), (.t 17), (.c (.imm true (.int .i64 1)))])⟩, ⟨none, (.mv 15 (.t 18))⟩, ⟨none, (.ext 19 (.t 15) 0)⟩, ⟨none, (.ext 20 (.t 15) 1)⟩, ⟨none, (.alloc 3 z8)⟩, ⟨none, (.store (.t 3) (.t 19) 8)⟩, ⟨none, (.mv 4 (.t 20))⟩] none (some ([1, 2, 3, 4], [1, 2, 3]))
def w41_2 := @awpR_get Try.prog Q σ r41_2 _ _ [3] ⟨rfl, rfl⟩
def r41_3 : MC := .reg [⟨none, (.load 22 (.t 1) (some 2))⟩, ⟨none, (.load 23 (.t 2) (some 2))⟩, ⟨none, (.call (some 24) (.c (.fn 29 [])) [(.t 22), (.t 23), (.c (.imm true (.int .i64 2)))])⟩, ⟨none, (.mv 21 (.t 24))⟩, ⟨none, (.ext 25 (.t 21) 0)⟩, ⟨none, (.ext 26 (.t 21) 1)⟩, ⟨none, (.alloc 5 z8)⟩, ⟨none, (.store (.t 5) (.t 25) 8)⟩, ⟨none, (.mv 6 (.t 26))⟩] none (some ([1, 3, 4, 5, 6], [1, 3, 5]))
def w41_3 := @awpR_get Try.prog Q σ r41_3 _ _ [5] ⟨rfl, rfl⟩
def r41_4 : MC := .reg [⟨none, (.load 28 (.t 1) (some 2))⟩, ⟨none, (.build 29 z2 [(0, (1, (.c (.imm true (.int .i8 2)))))])⟩, ⟨none, (.call (some 30) (.c (.fn 29 [])) [(.t 28), (.t 29), (.c (.imm true (.int .i64 3)))])⟩, ⟨none, (.mv 27 (.t 30))⟩, ⟨none, (.ext 31 (.t 27) 0)⟩, ⟨none, (.ext 32 (.t 27) 1)⟩, ⟨none, (.alloc 7 z8)⟩, ⟨none, (.store (.t 7) (.t 31) 8)⟩, ⟨none, (.mv 8 (.t 32))⟩] none (some ([3, 4, 5, 6, 7, 8], [3, 5, 7]))
def w41_4 := @awpR_get Try.prog Q σ r41_4 _ _ [7] ⟨rfl, rfl⟩
def r41_5 : MC := .reg [⟨none, (.load 34 (.t 3) (some 8))⟩, ⟨none, (.load 35 (.t 5) (some 8))⟩, ⟨none, (.call (some 36) (.c (.fn 32 [])) [(.t 34), (.t 35)])⟩, ⟨none, (.mv 33 (.t 36))⟩, ⟨none, (.ext 37 (.t 33) 0)⟩, ⟨none, (.ext 38 (.t 33) 1)⟩, ⟨none, (.alloc 9 z8)⟩, ⟨none, (.store (.t 9) (.t 37) 8)⟩, ⟨none, (.mv 10 (.t 38))⟩] none (some ([3, 4, 6, 7, 8, 9, 10], [3, 7, 9]))
def w41_5 := @awpR_get Try.prog Q σ r41_5 _ _ [9] ⟨rfl, rfl⟩
def r41_6 : MC := .reg [⟨none, (.load 40 (.t 3) (some 8))⟩, ⟨none, (.load 41 (.t 7) (some 8))⟩, ⟨none, (.call (some 42) (.c (.fn 32 [])) [(.t 40), (.t 41)])⟩, ⟨none, (.mv 39 (.t 42))⟩, ⟨none, (.ext 43 (.t 39) 0)⟩, ⟨none, (.ext 44 (.t 39) 1)⟩, ⟨none, (.alloc 11 z8)⟩, ⟨none, (.store (.t 11) (.t 43) 8)⟩, ⟨none, (.mv 12 (.t 44))⟩] none (some ([4, 6, 8, 9, 10, 11, 12], [9, 11]))
def w41_6 := @awpR_get Try.prog Q σ r41_6 _ _ [11] ⟨rfl, rfl⟩
def r41_7 : MC := .reg [⟨none, (.mv 45 (.t 4))⟩, ⟨none, (.bin 46 .eql (.t 45) (.c (.imm true (.int .i64 0))))⟩, ⟨none, (.mv 47 (.t 46))⟩, ⟨(some (47, true)), (.mv 48 (.t 6))⟩, ⟨(some (47, true)), (.bin 49 .eql (.t 48) (.c (.imm true (.int .i64 0))))⟩, ⟨none, (.pick 50 (.t 47) (.t 49) (.c (.imm true (.bool false))))⟩, ⟨none, (.mv 51 (.t 50))⟩, ⟨(some (51, true)), (.mv 52 (.t 8))⟩, ⟨(some (51, true)), (.bin 53 .eql (.t 52) (.c (.imm true (.int .i64 0))))⟩, ⟨none, (.pick 54 (.t 51) (.t 53) (.c (.imm true (.bool false))))⟩, ⟨none, (.mv 55 (.t 54))⟩, ⟨(some (55, true)), (.mv 56 (.t 10))⟩, ⟨(some (55, true)), (.bin 57 .eql (.t 56) (.c (.imm true (.int .i64 0))))⟩, ⟨none, (.pick 58 (.t 55) (.t 57) (.c (.imm true (.bool false))))⟩, ⟨none, (.mv 59 (.t 58))⟩, ⟨(some (59, true)), (.mv 60 (.t 12))⟩, ⟨(some (59, true)), (.bin 61 .eql (.t 60) (.c (.imm true (.int .i64 0))))⟩, ⟨none, (.pick 62 (.t 59) (.t 61) (.c (.imm true (.bool false))))⟩, ⟨none, (.mv 63 (.t 62))⟩, ⟨(some (63, true)), (.fad 64 (.t 9) 0)⟩, ⟨(some (63, true)), (.load 65 (.t 64) none)⟩, ⟨(some (63, true)), (.bin 66 .eql (.t 65) (.c (.imm true (.int .i8 0))))⟩, ⟨none, (.pick 67 (.t 63) (.t 66) (.c (.imm true (.bool false))))⟩, ⟨none, (.mv 68 (.t 67))⟩, ⟨(some (68, true)), (.fad 69 (.t 11) 0)⟩, ⟨(some (68, true)), (.load 70 (.t 69) none)⟩, ⟨(some (68, true)), (.bin 71 .eql (.t 70) (.c (.imm true (.int .i8 1))))⟩, ⟨none, (.pick 72 (.t 68) (.t 71) (.c (.imm true (.bool false))))⟩, ⟨none, (.mv 73 (.t 72))⟩, ⟨(some (73, true)), (.fad 74 (.t 11) 5)⟩, ⟨(some (73, true)), (.load 75 (.t 74) none)⟩, ⟨(some (73, true)), (.bin 76 .eql (.t 75) (.c (.imm true (.int .i64 3))))⟩, ⟨none, (.pick 77 (.t 73) (.t 76) (.c (.imm true (.bool false))))⟩, ⟨none, (.mv 0 (.t 77))⟩] none (some ([0], []))
def w41_7 := @awpR_no Try.prog Q σ r41_7 _ _ ⟨rfl, rfl⟩
def my41 : MC := (.seq r41_0 (.seq r41_1 (.seq r41_2 (.seq r41_3 (.seq r41_4 (.seq r41_5 (.seq r41_6 (.seq r41_7 .ret))))))))
theorem my41_is : trC Try.prog ⟨[], []⟩ ⟨[],
  [(0, [], []), (1, [1, 2], [1, 2]), (2, [1, 2, 3, 4], [1, 2, 3]), (3, [1, 3, 4, 5, 6], [1, 3, 5]), (4, [3, 4, 5, 6, 7, 8], [3, 5, 7]), (5, [3, 4, 6, 7, 8, 9, 10], [3, 7, 9]), (6, [4, 6, 8, 9, 10, 11, 12], [9, 11]), (7, [0], [])]⟩ 78 (Try.f41.body.getD .skip) = some my41 := by kernel_rfl
theorem does41 {args : List LV} (hl : args.length.ble 78 = true) {S S' : List (List LV)} (hS : S'.length = S.length) {o : Out} (h : Lt ⟨numE 0 args, argS 0 S, []⟩ (awp Try.prog my41 (Fin [(.t 0)] o S'))) : Does Try.prog 41 args S o S' :=
  does_of_awp mixed Try.func41 (by kernel_rfl) (by kernel_rfl) my41_is (by kernel_rfl) (Nat.le_of_ble_eq_true hl) hS h
attribute [go_sem ↓] w41_0 w41_1 w41_2 w41_3 w41_4 w41_5 w41_6 w41_7
attribute [go_sem] my41
/-! ### 42: lychgate/lychgatetop.parted -/
def r42_0 : MC := .reg [⟨none, (.alloc 4 z8)⟩, ⟨none, (.mv 5 (.c (.imm true (.int .i64 0))))⟩] none (some ([0, 1, 4], [4]))
def w42_0 := @awpR_get Try.prog Q σ r42_0 _ _ [4] ⟨rfl, rfl⟩
def r42_1 : MC := .reg [⟨none, (.mv 16 (.t 0))⟩, ⟨none, (.iad 17 (.t 16) (.c (.imm true (.int .i64 0))) 8)⟩, ⟨none, (.load 18 (.t 17) (some 8))⟩, ⟨none, (.mv 19 (.t 0))⟩, ⟨none, (.mv 20 (.t 1))⟩, ⟨none, (.iad 21 (.t 19) (.t 20) 8)⟩, ⟨none, (.load 22 (.t 21) (some 8))⟩, ⟨none, (.alloc 6 z8)⟩, ⟨none, (.alloc 7 z8)⟩, ⟨none, (.store (.t 6) (.t 18) 8)⟩, ⟨none, (.store (.t 7) (.t 22) 8)⟩] (some [(0, 7), (1, 7), (2, 7), (3, 7), (4, 7), (5, 7), (6, 7), (0, 8), (1, 8), (2, 8), (3, 8), (4, 8), (5, 8), (6, 8), (7, 8), (3, 9), (4, 9), (5, 9), (6, 9)]) (some ([0, 1, 4, 6, 7], [4, 6, 7]))
def w42_1 := @awpD_get Try.prog Q σ r42_1 _ _ _ [6, 7] ⟨rfl, rfl⟩
def r42_2 : MC := .reg [⟨none, (.mv 23 (.t 0))⟩, ⟨none, (.mv 24 (.t 1))⟩, ⟨none, (.cut 25 (.t 23) (some (.c (.imm true (.int .i64 1)))) (some (.t 24)) 8)⟩, ⟨none, (.len 26 (.t 25))⟩, ⟨none, (.mv 27 (.c (.imm true (.int .i64 0))))⟩] none (some ([0, 1, 4, 6, 7, 25, 26, 27], [4, 6, 7]))
def w42_2 := @awpR_no Try.prog Q σ r42_2 _ _ ⟨rfl, rfl⟩
def r42_3 : MC := .reg [⟨none, (.bin 28 .lss (.t 27) (.t 26))⟩] none (some ([0, 1, 4, 6, 7, 25, 26, 27, 28], [4, 6, 7]))
def w42_3 := @awpR_no Try.prog Q σ r42_3 _ _ ⟨rfl, rfl⟩
def r42_4 : MC := .reg [⟨none, (.iad 29 (.t 25) (.t 27) 8)⟩, ⟨none, (.load 30 (.t 29) (some 8))⟩, ⟨none, (.alloc 9 z8)⟩, ⟨none, (.store (.t 9) (.t 30) 8)⟩] none (some ([0, 1, 4, 6, 7, 9, 25, 26, 27], [4, 6, 7, 9]))
def w42_4 := @awpR_get Try.prog Q σ r42_4 _ _ [9] ⟨rfl, rfl⟩
def r42_5 : MC := .reg [⟨none, (.load 32 (.t 6) (some 8))⟩, ⟨none, (.load 33 (.t 9) (some 8))⟩, ⟨none, (.call (some 34) (.c (.fn 32 [])) [(.t 32), (.t 33)])⟩, ⟨none, (.mv 31 (.t 34))⟩, ⟨none, (.ext 35 (.t 31) 0)⟩, ⟨none, (.ext 36 (.t 31) 1)⟩, ⟨none, (.alloc 10 z8)⟩, ⟨none, (.store (.t 10) (.t 35) 8)⟩, ⟨none, (.mv 11 (.t 36))⟩] none (some ([0, 1, 4, 6, 7, 10, 11, 25, 26, 27], [4, 6, 7, 10]))
def w42_5 := @awpR_get Try.prog Q σ r42_5 _ _ [10] ⟨rfl, rfl⟩
def r42_6 : MC := .reg [⟨none, (.mv 37 (.t 11))⟩, ⟨none, (.bin 38 .neq (.t 37) (.c (.imm true (.int .i64 0))))⟩] none (some ([0, 1, 4, 6, 7, 10, 11, 25, 26, 27, 38], [4, 6, 7, 10]))
def w42_6 := @awpR_no Try.prog Q σ r42_6 _ _ ⟨rfl, rfl⟩
def r42_7 : MC := .reg [⟨none, (.load 39 (.t 10) (some 8))⟩, ⟨none, (.mv 40 (.t 11))⟩, ⟨none, (.store (.t 4) (.t 39) 8)⟩, ⟨none, (.mv 5 (.t 40))⟩] none (some ([4, 5], [4]))
def w42_7 := @awpR_no Try.prog Q σ r42_7 _ _ ⟨rfl, rfl⟩
def r42_8 : MC := .reg [⟨none, (.load 41 (.t 10) (some 8))⟩, ⟨none, (.store (.t 6) (.t 41) 8)⟩] none (some ([0, 1, 4, 6, 7, 25, 26, 27], [4, 6, 7]))
def w42_8 := @awpR_no Try.prog Q σ r42_8 _ _ ⟨rfl, rfl⟩
def r42_9 : MC := .reg [⟨none, (.bin 42 .add (.t 27) (.c (.imm true (.int .i64 1))))⟩, ⟨none, (.mv 27 (.t 42))⟩] none (some ([0, 1, 4, 6, 7, 25, 26, 27], [4, 6, 7]))
def w42_9 := @awpR_no Try.prog Q σ r42_9 _ _ ⟨rfl, rfl⟩
def l42_0 : MC := (.seq r42_3 (.seq (.cond (.t 28) .skip (.exit 0)) (.seq (.block 1 (.seq r42_4 (.seq r42_5 (.seq (.seq r42_6 (.cond (.t 38) (.seq r42_7 .ret) .skip)) r42_8)))) r42_9)))
def r42_10 : MC := .reg [⟨none, (.mv 43 (.t 0))⟩, ⟨none, (.mv 44 (.t 1))⟩, ⟨none, (.bin 45 .add (.t 44) (.c (.imm true (.int .i64 1))))⟩, ⟨none, (.cut 46 (.t 43) (some (.t 45)) none 8)⟩, ⟨none, (.len 47 (.t 46))⟩, ⟨none, (.mv 48 (.c (.imm true (.int .i64 0))))⟩] none (some ([4, 6, 7, 46, 47, 48], [4, 6, 7]))
def w42_10 := @awpR_no Try.prog Q σ r42_10 _ _ ⟨rfl, rfl⟩
def r42_11 : MC := .reg [⟨none, (.bin 49 .lss (.t 48) (.t 47))⟩] none (some ([4, 6, 7, 46, 47, 48, 49], [4, 6, 7]))
def w42_11 := @awpR_no Try.prog Q σ r42_11 _ _ ⟨rfl, rfl⟩
def r42_12 : MC := .reg [⟨none, (.iad 50 (.t 46) (.t 48) 8)⟩, ⟨none, (.load 51 (.t 50) (some 8))⟩, ⟨none, (.alloc 13 z8)⟩, ⟨none, (.store (.t 13) (.t 51) 8)⟩] none (some ([4, 6, 7, 13, 46, 47, 48], [4, 6, 7, 13]))
def w42_12 := @awpR_get Try.prog Q σ r42_12 _ _ [13] ⟨rfl, rfl⟩
def r42_13 : MC := .reg [⟨none, (.load 53 (.t 7) (some 8))⟩, ⟨none, (.load 54 (.t 13) (some 8))⟩, ⟨none, (.call (some 55) (.c (.fn 32 [])) [(.t 53), (.t 54)])⟩, ⟨none, (.mv 52 (.t 55))⟩, ⟨none, (.ext 56 (.t 52) 0)⟩, ⟨none, (.ext 57 (.t 52) 1)⟩, ⟨none, (.alloc 14 z8)⟩, ⟨none, (.store (.t 14) (.t 56) 8)⟩, ⟨none, (.mv 15 (.t 57))⟩] none (some ([4, 6, 7, 14, 15, 46, 47, 48], [4, 6, 7, 14]))
def w42_13 := @awpR_get Try.prog Q σ r42_13 _ _ [14] ⟨rfl, rfl⟩
def r42_14 : MC := .reg [⟨none, (.mv 58 (.t 15))⟩, ⟨none, (.bin 59 .neq (.t 58) (.c (.imm true (.int .i64 0))))⟩] none (some ([4, 6, 7, 14, 15, 46, 47, 48, 59], [4, 6, 7, 14]))
def w42_14 := @awpR_no Try.prog Q σ r42_14 _ _ ⟨rfl, rfl⟩
def r42_15 : MC := .reg [⟨none, (.load 60 (.t 14) (some 8))⟩, ⟨none, (.mv 61 (.t 15))⟩, ⟨none, (.store (.t 4) (.t 60) 8)⟩, ⟨none, (.mv 5 (.t 61))⟩] none (some ([4, 5], [4]))
def w42_15 := @awpR_no Try.prog Q σ r42_15 _ _ ⟨rfl, rfl⟩
def r42_16 : MC := .reg [⟨none, (.load 62 (.t 14) (some 8))⟩, ⟨none, (.store (.t 7) (.t 62) 8)⟩] none (some ([4, 6, 7, 46, 47, 48], [4, 6, 7]))
def w42_16 := @awpR_no Try.prog Q σ r42_16 _ _ ⟨rfl, rfl⟩
def r42_17 : MC := .reg [⟨none, (.bin 63 .add (.t 48) (.c (.imm true (.int .i64 1))))⟩, ⟨none, (.mv 48 (.t 63))⟩] none (some ([4, 6, 7, 46, 47, 48], [4, 6, 7]))
def w42_17 := @awpR_no Try.prog Q σ r42_17 _ _ ⟨rfl, rfl⟩
def l42_1 : MC := (.seq r42_11 (.seq (.cond (.t 49) .skip (.exit 2)) (.seq (.block 3 (.seq r42_12 (.seq r42_13 (.seq (.seq r42_14 (.cond (.t 59) (.seq r42_15 .ret) .skip)) r42_16)))) r42_17)))
def r42_18 : MC := .reg [⟨none, (.load 64 (.t 6) (some 8))⟩, ⟨none, (.load 65 (.t 7) (some 8))⟩, ⟨none, (.call (some 66) (.c (.fn 32 [])) [(.t 64), (.t 65)])⟩, ⟨none, (.ext 67 (.t 66) 0)⟩, ⟨none, (.ext 68 (.t 66) 1)⟩, ⟨none, (.store (.t 4) (.t 67) 8)⟩, ⟨none, (.mv 5 (.t 68))⟩] none (some ([4, 5], [4]))
def w42_18 := @awpR_no Try.prog Q σ r42_18 _ _ ⟨rfl, rfl⟩
def my42 : MC := (.seq r42_0 (.seq r42_1 (.seq (.seq r42_2 (.block 0 (.loop l42_0))) (.seq (.seq r42_10 (.block 2 (.loop l42_1))) (.seq r42_18 .ret)))))
theorem my42_is : trC Try.prog ⟨[], []⟩ ⟨[(1, [[], [0], [0, 1], [], [], [3, 4], [3, 4, 5], [], [], [0, 1, 2, 7, 8], [0, 1, 2, 3, 4, 5, 6, 7, 8, 9]], [(0, 7), (1, 7), (2, 7), (3, 7), (4, 7), (5, 7), (6, 7), (0, 8), (1, 8), (2, 8), (3, 8), (4, 8), (5, 8), (6, 8), (7, 8), (3, 9), (4, 9), (5, 9), (6, 9)])],
  [(0, [0, 1, 4], [4]), (1, [0, 1, 4, 6, 7], [4, 6, 7]), (2, [0, 1, 4, 6, 7, 25, 26, 27], [4, 6, 7]), (3, [0, 1, 4, 6, 7, 25, 26, 27, 28], [4, 6, 7]), (4, [0, 1, 4, 6, 7, 9, 25, 26, 27], [4, 6, 7, 9]), (5, [0, 1, 4, 6, 7, 10, 11, 25, 26, 27], [4, 6, 7, 10]), (6, [0, 1, 4, 6, 7, 10, 11, 25, 26, 27, 38], [4, 6, 7, 10]), (7, [4, 5], [4]), (8, [0, 1, 4, 6, 7, 25, 26, 27], [4, 6, 7]), (9, [0, 1, 4, 6, 7, 25, 26, 27], [4, 6, 7]), (10, [4, 6, 7, 46, 47, 48], [4, 6, 7]), (11, [4, 6, 7, 46, 47, 48, 49], [4, 6, 7]), (12, [4, 6, 7, 13, 46, 47, 48], [4, 6, 7, 13]), (13, [4, 6, 7, 14, 15, 46, 47, 48], [4, 6, 7, 14]), (14, [4, 6, 7, 14, 15, 46, 47, 48, 59], [4, 6, 7, 14]), (15, [4, 5], [4]), (16, [4, 6, 7, 46, 47, 48], [4, 6, 7]), (17, [4, 6, 7, 46, 47, 48], [4, 6, 7]), (18, [4, 5], [4])]⟩ 69 (Try.f42.body.getD .skip) = some my42 := by kernel_rfl
theorem does42 {args : List LV} (hl : args.length.ble 69 = true) {S S' : List (List LV)} (hS : S'.length = S.length) {o : Out} (h : Lt ⟨numE 0 args, argS 0 S, []⟩ (awp Try.prog my42 (Fin [(.c 4 (some 8)), (.t 5)] o S'))) : Does Try.prog 42 args S o S' :=
  does_of_awp mixed Try.func42 (by kernel_rfl) (by kernel_rfl) my42_is (by kernel_rfl) (Nat.le_of_ble_eq_true hl) hS h
attribute [go_sem ↓] w42_0 w42_1 w42_2 w42_3 w42_4 w42_5 w42_6 w42_7 w42_8 w42_9 w42_10 w42_11 w42_12 w42_13 w42_14 w42_15 w42_16 w42_17 w42_18
attribute [go_sem] my42
/-! ### 10: lychgate/lychgatetop.TopMerges -/
def r10_0 : MC := .reg [⟨none, (.mv 6 (.c (.imm true (.bool false))))⟩] none (some ([0, 1, 2], []))
def w10_0 := @awpR_no Try.prog Q σ r10_0 _ _ ⟨rfl, rfl⟩
def r10_1 : MC := .reg [⟨none, (.mv 7 (.c .nils))⟩] none (some ([0, 1, 2, 7], [100]))
def w10_1 := @awpR_no Try.prog Q σ r10_1 _ _ ⟨rfl, rfl⟩
def r10_2 : MC := .reg [⟨none, (.build 29 z2 [])⟩, ⟨none, (.alloc 9 z2)⟩, ⟨none, (.mv 8 (.c (.imm true (.int .i64 0))))⟩, ⟨none, (.store (.t 9) (.t 29) 2)⟩] none (some ([0, 1, 2, 7, 8, 9], [9, 100]))
def w10_2 := @awpR_get Try.prog Q σ r10_2 _ _ [9] ⟨rfl, rfl⟩
def r10_3 : MC := .reg [⟨none, (.mv 30 (.t 0))⟩, ⟨none, (.len 31 (.t 30))⟩, ⟨none, (.mv 32 (.c (.imm true (.int .i64 0))))⟩] none (some ([1, 2, 7, 8, 9, 30, 31, 32], [9, 100]))
def w10_3 := @awpR_no Try.prog Q σ r10_3 _ _ ⟨rfl, rfl⟩
def r10_4 : MC := .reg [⟨none, (.bin 33 .lss (.t 32) (.t 31))⟩] none (some ([1, 2, 7, 8, 9, 30, 31, 32, 33], [9, 100]))
def w10_4 := @awpR_no Try.prog Q σ r10_4 _ _ ⟨rfl, rfl⟩
def r10_5 : MC := .reg [⟨none, (.iad 34 (.t 30) (.t 32) 2)⟩, ⟨none, (.load 35 (.t 34) (some 2))⟩, ⟨none, (.alloc 11 z2)⟩, ⟨none, (.store (.t 11) (.t 35) 2)⟩] none (some ([1, 2, 7, 8, 9, 11, 30, 31, 32], [9, 11, 100]))
def w10_5 := @awpR_get Try.prog Q σ r10_5 _ _ [11] ⟨rfl, rfl⟩
def r10_6 : MC := .reg [⟨none, (.mv 36 (.t 7))⟩, ⟨none, (.len 37 (.t 36))⟩, ⟨none, (.bin 38 .geq (.t 37) (.c (.imm true (.int .i64 8))))⟩, ⟨none, (.mv 39 (.t 38))⟩, ⟨(some (39, false)), (.load 40 (.t 11) (some 2))⟩, ⟨(some (39, false)), (.call (some 41) (.c (.fn 37 [])) [(.t 40)])⟩, ⟨(some (39, false)), (.bin 42 .neq (.t 41) (.c (.imm true (.int .i64 0))))⟩, ⟨none, (.pick 43 (.t 39) (.c (.imm true (.bool true))) (.t 42))⟩, ⟨none, (.mv 44 (.t 43))⟩, ⟨(some (44, false)), (.load 45 (.t 11) (some 2))⟩, ⟨(some (44, false)), (.call (some 46) (.c (.fn 38 [])) [(.t 45)])⟩, ⟨(some (44, false)), (.bin 47 .gtr (.t 46) (.c (.imm true (.int .i64 60))))⟩, ⟨none, (.pick 48 (.t 44) (.c (.imm true (.bool true))) (.t 47))⟩] none (some ([1, 2, 7, 8, 9, 11, 30, 31, 32, 48], [9, 11, 100]))
def w10_6 := @awpR_no Try.prog Q σ r10_6 _ _ ⟨rfl, rfl⟩
def r10_7 : MC := .reg [⟨none, (.mv 49 (.t 8))⟩, ⟨none, (.bin 50 .gtr (.t 49) (.c (.imm true (.int .i64 0))))⟩, ⟨none, (.mv 51 (.t 50))⟩, ⟨(some (51, true)), (.load 52 (.t 9) (some 2))⟩, ⟨(some (51, true)), (.load 53 (.t 11) (some 2))⟩, ⟨(some (51, true)), (.call (some 54) (.c (.fn 39 [])) [(.t 52), (.t 53)])⟩, ⟨(some (51, true)), (.un 55 .not (.t 54))⟩, ⟨none, (.pick 56 (.t 51) (.t 55) (.c (.imm true (.bool false))))⟩] none (some ([1, 2, 7, 8, 9, 11, 30, 31, 32, 56], [9, 11, 100]))
def w10_7 := @awpR_no Try.prog Q σ r10_7 _ _ ⟨rfl, rfl⟩
def r10_8 : MC := .reg [⟨none, (.build 57 z2 [])⟩, ⟨none, (.store (.t 11) (.t 57) 2)⟩] none (some ([1, 2, 7, 8, 9, 11, 30, 31, 32], [9, 11, 100]))
def w10_8 := @awpR_no Try.prog Q σ r10_8 _ _ ⟨rfl, rfl⟩
def r10_9 : MC := .reg [⟨none, (.mv 58 (.t 8))⟩, ⟨none, (.bin 59 .gtr (.t 58) (.c (.imm true (.int .i64 0))))⟩] none (some ([1, 2, 7, 8, 9, 11, 30, 31, 32, 59], [9, 11, 100]))
def w10_9 := @awpR_no Try.prog Q σ r10_9 _ _ ⟨rfl, rfl⟩
def r10_10 : MC := .reg [⟨none, (.mv 60 (.t 7))⟩, ⟨none, (.len 61 (.t 60))⟩, ⟨none, (.bin 62 .add (.t 61) (.c (.imm true (.int .i64 1))))⟩, ⟨none, (.mv 12 (.t 62))⟩] none (some ([1, 2, 7, 8, 9, 11, 12, 30, 31, 32], [9, 11, 100]))
def w10_10 := @awpR_no Try.prog Q σ r10_10 _ _ ⟨rfl, rfl⟩
def r10_11 : MC := .reg [⟨none, (.mv 63 (.t 7))⟩, ⟨none, (.len 64 (.t 63))⟩, ⟨none, (.mv 65 (.t 1))⟩, ⟨none, (.len 66 (.t 65))⟩, ⟨none, (.bin 67 .lss (.t 64) (.t 66))⟩, ⟨none, (.mv 68 (.t 67))⟩, ⟨(some (68, true)), (.mv 69 (.t 1))⟩, ⟨(some (68, true)), (.mv 70 (.t 7))⟩, ⟨(some (68, true)), (.len 71 (.t 70))⟩, ⟨(some (68, true)), (.iad 72 (.t 69) (.t 71) 1)⟩, ⟨(some (68, true)), (.load 73 (.t 72) none)⟩, ⟨(some (68, true)), (.bin 74 .rem (.t 73) (.c (.imm true (.int .i64 1000))))⟩, ⟨(some (68, true)), (.bin 75 .neq (.t 74) (.c (.imm true (.int .i64 0))))⟩, ⟨none, (.pick 76 (.t 68) (.t 75) (.c (.imm true (.bool false))))⟩] none (some ([1, 2, 7, 8, 9, 11, 12, 30, 31, 32, 76], [9, 11, 100]))
def w10_11 := @awpR_no Try.prog Q σ r10_11 _ _ ⟨rfl, rfl⟩
def r10_12 : MC := .reg [⟨none, (.mv 77 (.t 1))⟩, ⟨none, (.mv 78 (.t 7))⟩, ⟨none, (.len 79 (.t 78))⟩, ⟨none, (.iad 80 (.t 77) (.t 79) 1)⟩, ⟨none, (.load 81 (.t 80) none)⟩, ⟨none, (.bin 82 .rem (.t 81) (.c (.imm true (.int .i64 1000))))⟩, ⟨none, (.mv 12 (.t 82))⟩] none (some ([1, 2, 7, 8, 9, 11, 12, 30, 31, 32], [9, 11, 100]))
def w10_12 := @awpR_no Try.prog Q σ r10_12 _ _ ⟨rfl, rfl⟩
def r10_13 : MC := .reg [⟨none, (.load 84 (.t 9) (some 2))⟩, ⟨none, (.load 85 (.t 11) (some 2))⟩, ⟨none, (.mv 86 (.t 12))⟩, ⟨none, (.call (some 87) (.c (.fn 29 [])) [(.t 84), (.t 85), (.t 86)])⟩, ⟨none, (.mv 83 (.t 87))⟩, ⟨none, (.ext 88 (.t 83) 0)⟩, ⟨none, (.ext 89 (.t 83) 1)⟩, ⟨none, (.alloc 13 z8)⟩, ⟨none, (.store (.t 13) (.t 88) 8)⟩, ⟨none, (.mv 14 (.t 89))⟩] none (some ([1, 2, 7, 8, 9, 11, 13, 14, 30, 31, 32], [9, 11, 13, 100]))
def w10_13 := @awpR_get Try.prog Q σ r10_13 _ _ [13] ⟨rfl, rfl⟩
def r10_14 : MC := .reg [⟨none, (.mv 90 (.t 14))⟩, ⟨none, (.bin 91 .neq (.t 90) (.c (.imm true (.int .i64 0))))⟩, ⟨none, (.mv 92 (.t 91))⟩, ⟨(some (92, false)), (.load 93 (.t 13) (some 8))⟩, ⟨(some (92, false)), (.call (some 94) (.c (.fn 22 [])) [(.t 93)])⟩, ⟨(some (92, false)), (.un 95 .not (.t 94))⟩, ⟨none, (.pick 96 (.t 92) (.c (.imm true (.bool true))) (.t 95))⟩] none (some ([1, 2, 7, 8, 9, 11, 13, 30, 31, 32, 96], [9, 11, 13, 100]))
def w10_14 := @awpR_no Try.prog Q σ r10_14 _ _ ⟨rfl, rfl⟩
def r10_15 : MC := .reg [⟨none, (.mv 6 (.c (.imm true (.bool false))))⟩] none (some ([6], []))
def w10_15 := @awpR_no Try.prog Q σ r10_15 _ _ ⟨rfl, rfl⟩
def r10_16 : MC := .reg [⟨none, (.mv 97 (.t 7))⟩, ⟨none, (.load 98 (.t 13) (some 8))⟩, ⟨none, (.lit 99 8 [(.t 98)])⟩, ⟨none, (.append 100 (.t 97) (.t 99) 28 8 112)⟩, ⟨none, (.mv 7 (.t 100))⟩] none (some ([1, 2, 7, 8, 9, 11, 30, 31, 32], [9, 11, 100]))
def w10_16 := @awpR_get Try.prog Q σ r10_16 _ _ [100] ⟨rfl, rfl⟩
def r10_17 : MC := .reg [⟨none, (.mv 101 (.t 8))⟩, ⟨none, (.load 102 (.t 11) (some 2))⟩, ⟨none, (.call (some 103) (.c (.fn 40 [])) [(.t 102)])⟩, ⟨none, (.mx 104 [(.t 101), (.t 103)])⟩, ⟨none, (.load 105 (.t 11) (some 2))⟩, ⟨none, (.mv 8 (.t 104))⟩, ⟨none, (.store (.t 9) (.t 105) 2)⟩] (some []) (some ([1, 2, 7, 8, 9, 30, 31, 32], [9, 100]))
def w10_17 := @awpD_no Try.prog Q σ r10_17 _ _ _ ⟨rfl, rfl⟩
def r10_18 : MC := .reg [⟨none, (.bin 106 .add (.t 32) (.c (.imm true (.int .i64 1))))⟩, ⟨none, (.mv 32 (.t 106))⟩] none (some ([1, 2, 7, 8, 9, 30, 31, 32], [9, 100]))
def w10_18 := @awpR_no Try.prog Q σ r10_18 _ _ ⟨rfl, rfl⟩
def l10_0 : MC := (.seq r10_4 (.seq (.cond (.t 33) .skip (.exit 0)) (.seq (.block 1 (.seq r10_5 (.seq (.seq r10_6 (.cond (.t 48) (.exit 0) .skip)) (.seq (.seq r10_7 (.cond (.t 56) r10_8 .skip)) (.seq (.seq r10_9 (.cond (.t 59) (.seq r10_10 (.seq (.seq r10_11 (.cond (.t 76) r10_12 .skip)) (.seq r10_13 (.seq (.seq r10_14 (.cond (.t 96) (.seq r10_15 .ret) .skip)) r10_16)))) .skip)) r10_17))))) r10_18)))
def r10_19 : MC := .reg [⟨none, (.mv 107 (.t 7))⟩, ⟨none, (.len 108 (.t 107))⟩, ⟨none, (.bin 109 .lss (.t 108) (.c (.imm true (.int .i64 2))))⟩] none (some ([2, 7, 8, 9, 109], [9, 100]))
def w10_19 := @awpR_no Try.prog Q σ r10_19 _ _ ⟨rfl, rfl⟩
def r10_20 : MC := .reg [⟨none, (.call (some 110) (.c (.fn 41 [])) [])⟩, ⟨none, (.mv 6 (.t 110))⟩] none (some ([6], []))
def w10_20 := @awpR_no Try.prog Q σ r10_20 _ _ ⟨rfl, rfl⟩
def r10_21 : MC := .reg [⟨none, (.mv 111 (.t 7))⟩, ⟨none, (.iad 112 (.t 111) (.c (.imm true (.int .i64 0))) 8)⟩, ⟨none, (.load 113 (.t 112) (some 8))⟩, ⟨none, (.mv 114 (.t 7))⟩, ⟨none, (.mv 115 (.t 7))⟩, ⟨none, (.len 116 (.t 115))⟩, ⟨none, (.bin 117 .sub (.t 116) (.c (.imm true (.int .i64 1))))⟩, ⟨none, (.iad 118 (.t 114) (.t 117) 8)⟩, ⟨none, (.load 119 (.t 118) (some 8))⟩, ⟨none, (.alloc 15 z8)⟩, ⟨none, (.alloc 16 z8)⟩, ⟨none, (.store (.t 15) (.t 113) 8)⟩, ⟨none, (.store (.t 16) (.t 119) 8)⟩] (some [(0, 9), (1, 9), (2, 9), (3, 9), (4, 9), (5, 9), (6, 9), (7, 9), (8, 9), (0, 10), (1, 10), (2, 10), (3, 10), (4, 10), (5, 10), (6, 10), (7, 10), (8, 10), (9, 10), (3, 11), (4, 11), (5, 11), (6, 11), (7, 11), (8, 11)]) (some ([2, 7, 8, 9, 15, 16], [9, 15, 16, 100]))
def w10_21 := @awpD_get Try.prog Q σ r10_21 _ _ _ [15, 16] ⟨rfl, rfl⟩
def r10_22 : MC := .reg [⟨none, (.mv 17 (.c (.imm true (.int .i64 1))))⟩] none (some ([2, 7, 8, 9, 15, 16, 17], [9, 15, 16, 100]))
def w10_22 := @awpR_no Try.prog Q σ r10_22 _ _ ⟨rfl, rfl⟩
def r10_23 : MC := .reg [⟨none, (.mv 120 (.t 17))⟩, ⟨none, (.mv 121 (.t 7))⟩, ⟨none, (.len 122 (.t 121))⟩, ⟨none, (.bin 123 .lss (.t 120) (.t 122))⟩] none (some ([2, 7, 8, 9, 15, 16, 17, 123], [9, 15, 16, 100]))
def w10_23 := @awpR_no Try.prog Q σ r10_23 _ _ ⟨rfl, rfl⟩
def r10_24 : MC := .reg [⟨none, (.mv 18 (.c (.imm true (.int .i64 0))))⟩, ⟨none, (.mv 19 (.c (.imm true (.int .i64 0))))⟩] none (some ([2, 7, 8, 9, 15, 16, 17], [9, 15, 16, 100]))
def w10_24 := @awpR_no Try.prog Q σ r10_24 _ _ ⟨rfl, rfl⟩
def r10_25 : MC := .reg [⟨none, (.load 127 (.t 15) (some 8))⟩, ⟨none, (.mv 128 (.t 7))⟩, ⟨none, (.mv 129 (.t 17))⟩, ⟨none, (.iad 130 (.t 128) (.t 129) 8)⟩, ⟨none, (.load 131 (.t 130) (some 8))⟩, ⟨none, (.call (some 132) (.c (.fn 32 [])) [(.t 127), (.t 131)])⟩, ⟨none, (.mv 126 (.t 132))⟩, ⟨none, (.ext 133 (.t 126) 0)⟩, ⟨none, (.ext 134 (.t 126) 1)⟩, ⟨none, (.store (.t 15) (.t 133) 8)⟩, ⟨none, (.mv 18 (.t 134))⟩] (some [(8, 9)]) (some ([2, 7, 8, 9, 15, 16, 17, 18], [9, 15, 16, 100]))
def w10_25 := @awpD_no Try.prog Q σ r10_25 _ _ _ ⟨rfl, rfl⟩
def r10_26 : MC := .reg [⟨none, (.mv 136 (.t 7))⟩, ⟨none, (.mv 137 (.t 7))⟩, ⟨none, (.len 138 (.t 137))⟩, ⟨none, (.bin 139 .sub (.t 138) (.c (.imm true (.int .i64 1))))⟩, ⟨none, (.mv 140 (.t 17))⟩, ⟨none, (.bin 141 .sub (.t 139) (.t 140))⟩, ⟨none, (.iad 142 (.t 136) (.t 141) 8)⟩, ⟨none, (.load 143 (.t 142) (some 8))⟩, ⟨none, (.load 144 (.t 16) (some 8))⟩, ⟨none, (.call (some 145) (.c (.fn 32 [])) [(.t 143), (.t 144)])⟩, ⟨none, (.mv 135 (.t 145))⟩, ⟨none, (.ext 146 (.t 135) 0)⟩, ⟨none, (.ext 147 (.t 135) 1)⟩, ⟨none, (.store (.t 16) (.t 146) 8)⟩, ⟨none, (.mv 19 (.t 147))⟩] (some [(12, 13)]) (some ([2, 7, 8, 9, 15, 16, 17, 18, 19], [9, 15, 16, 100]))
def w10_26 := @awpD_no Try.prog Q σ r10_26 _ _ _ ⟨rfl, rfl⟩
def r10_27 : MC := .reg [⟨none, (.mv 148 (.t 18))⟩, ⟨none, (.bin 149 .neq (.t 148) (.c (.imm true (.int .i64 0))))⟩, ⟨none, (.mv 150 (.t 149))⟩, ⟨(some (150, false)), (.mv 151 (.t 19))⟩, ⟨(some (150, false)), (.bin 152 .neq (.t 151) (.c (.imm true (.int .i64 0))))⟩, ⟨none, (.pick 153 (.t 150) (.c (.imm true (.bool true))) (.t 152))⟩] none (some ([2, 7, 8, 9, 15, 16, 17, 153], [9, 15, 16, 100]))
def w10_27 := @awpR_no Try.prog Q σ r10_27 _ _ ⟨rfl, rfl⟩
def r10_28 : MC := .reg [⟨none, (.mv 6 (.c (.imm true (.bool false))))⟩] none (some ([6], []))
def w10_28 := @awpR_no Try.prog Q σ r10_28 _ _ ⟨rfl, rfl⟩
def r10_29 : MC := .reg [⟨none, (.mv 124 (.t 17))⟩, ⟨none, (.bin 125 .add (.t 124) (.c (.imm true (.int .i64 1))))⟩, ⟨none, (.mv 17 (.t 125))⟩] none (some ([2, 7, 8, 9, 15, 16, 17], [9, 15, 16, 100]))
def w10_29 := @awpR_no Try.prog Q σ r10_29 _ _ ⟨rfl, rfl⟩
def l10_1 : MC := (.seq (.seq r10_23 (.cond (.t 123) .skip (.exit 2))) (.seq (.block 3 (.seq r10_24 (.seq r10_25 (.seq r10_26 (.seq r10_27 (.cond (.t 153) (.seq r10_28 .ret) .skip)))))) r10_29))
def r10_30 : MC := .reg [⟨none, (.mv 154 (.t 2))⟩, ⟨none, (.mv 155 (.t 7))⟩, ⟨none, (.len 156 (.t 155))⟩, ⟨none, (.bin 157 .sub (.t 156) (.c (.imm true (.int .i64 1))))⟩, ⟨none, (.bin 158 .rem (.t 154) (.t 157))⟩, ⟨none, (.mv 159 (.t 7))⟩, ⟨none, (.len 160 (.t 159))⟩, ⟨none, (.bin 161 .add (.t 158) (.t 160))⟩, ⟨none, (.bin 162 .sub (.t 161) (.c (.imm true (.int .i64 1))))⟩, ⟨none, (.mv 163 (.t 7))⟩, ⟨none, (.len 164 (.t 163))⟩, ⟨none, (.bin 165 .sub (.t 164) (.c (.imm true (.int .i64 1))))⟩, ⟨none, (.bin 166 .rem (.t 162) (.t 165))⟩, ⟨none, (.bin 167 .add (.t 166) (.c (.imm true (.int .i64 1))))⟩, ⟨none, (.mv 20 (.t 167))⟩] none (some ([7, 8, 9, 15, 16, 20], [9, 15, 16, 100]))
def w10_30 := @awpR_no Try.prog Q σ r10_30 _ _ ⟨rfl, rfl⟩
def r10_31 : MC := .reg [⟨none, (.mv 169 (.t 7))⟩, ⟨none, (.mv 170 (.t 20))⟩, ⟨none, (.call (some 171) (.c (.fn 42 [])) [(.t 169), (.t 170)])⟩, ⟨none, (.mv 168 (.t 171))⟩, ⟨none, (.ext 172 (.t 168) 0)⟩, ⟨none, (.ext 173 (.t 168) 1)⟩, ⟨none, (.alloc 21 z8)⟩, ⟨none, (.store (.t 21) (.t 172) 8)⟩, ⟨none, (.mv 22 (.t 173))⟩] none (some ([7, 8, 9, 15, 16, 21, 22], [9, 15, 16, 21, 100]))
def w10_31 := @awpR_get Try.prog Q σ r10_31 _ _ [21] ⟨rfl, rfl⟩
def r10_32 : MC := .reg [⟨none, (.load 175 (.t 15) (some 8))⟩, ⟨none, (.call (some 176) (.c (.fn 13 [])) [(.t 175)])⟩, ⟨none, (.mv 174 (.t 176))⟩, ⟨none, (.ext 177 (.t 174) 0)⟩, ⟨none, (.ext 178 (.t 174) 1)⟩, ⟨none, (.ext 179 (.t 174) 2)⟩, ⟨none, (.alloc 23 z2)⟩, ⟨none, (.alloc 24 z2)⟩, ⟨none, (.store (.t 23) (.t 177) 2)⟩, ⟨none, (.store (.t 24) (.t 178) 2)⟩, ⟨none, (.mv 25 (.t 179))⟩] none (some ([7, 8, 9, 15, 16, 21, 22, 23, 24, 25], [9, 15, 16, 21, 23, 24, 100]))
def w10_32 := @awpR_get Try.prog Q σ r10_32 _ _ [23, 24] ⟨rfl, rfl⟩
def r10_33 : MC := .reg [⟨none, (.mv 181 (.t 7))⟩, ⟨none, (.iad 182 (.t 181) (.c (.imm true (.int .i64 0))) 8)⟩, ⟨none, (.load 183 (.t 182) (some 8))⟩, ⟨none, (.call (some 184) (.c (.fn 13 [])) [(.t 183)])⟩, ⟨none, (.mv 180 (.t 184))⟩, ⟨none, (.ext 185 (.t 180) 0)⟩, ⟨none, (.ext 186 (.t 180) 1)⟩, ⟨none, (.ext 187 (.t 180) 2)⟩, ⟨none, (.alloc 26 z2)⟩, ⟨none, (.alloc 27 z2)⟩, ⟨none, (.store (.t 26) (.t 185) 2)⟩, ⟨none, (.store (.t 27) (.t 186) 2)⟩, ⟨none, (.mv 28 (.t 187))⟩] none (some ([8, 9, 15, 16, 21, 22, 23, 24, 25, 26, 28], [9, 15, 16, 21, 23, 24, 26]))
def w10_33 := @awpR_get Try.prog Q σ r10_33 _ _ [26, 27] ⟨rfl, rfl⟩
def r10_34 : MC := .reg [⟨none, (.mv 188 (.t 22))⟩, ⟨none, (.bin 189 .neq (.t 188) (.c (.imm true (.int .i64 0))))⟩, ⟨none, (.mv 190 (.t 189))⟩, ⟨(some (190, false)), (.mv 191 (.t 25))⟩, ⟨(some (190, false)), (.bin 192 .neq (.t 191) (.c (.imm true (.int .i64 0))))⟩, ⟨none, (.pick 193 (.t 190) (.c (.imm true (.bool true))) (.t 192))⟩, ⟨none, (.mv 194 (.t 193))⟩, ⟨(some (194, false)), (.mv 195 (.t 28))⟩, ⟨(some (194, false)), (.bin 196 .neq (.t 195) (.c (.imm true (.int .i64 0))))⟩, ⟨none, (.pick 197 (.t 194) (.c (.imm true (.bool true))) (.t 196))⟩, ⟨none, (.mv 198 (.t 197))⟩, ⟨(some (198, false)), (.load 199 (.t 23) (some 2))⟩, ⟨(some (198, false)), (.load 200 (.t 26) (some 2))⟩, ⟨(some (198, false)), (.call (some 201) (.c (.fn 14 [])) [(.t 199), (.t 200)])⟩, ⟨(some (198, false)), (.un 202 .not (.t 201))⟩, ⟨none, (.pick 203 (.t 198) (.c (.imm true (.bool true))) (.t 202))⟩, ⟨none, (.mv 204 (.t 203))⟩, ⟨(some (204, false)), (.load 205 (.t 24) (some 2))⟩, ⟨(some (204, false)), (.load 206 (.t 9) (some 2))⟩, ⟨(some (204, false)), (.call (some 207) (.c (.fn 14 [])) [(.t 205), (.t 206)])⟩, ⟨(some (204, false)), (.un 208 .not (.t 207))⟩, ⟨none, (.pick 209 (.t 204) (.c (.imm true (.bool true))) (.t 208))⟩] none (some ([8, 15, 16, 21, 209], [15, 16, 21]))
def w10_34 := @awpR_no Try.prog Q σ r10_34 _ _ ⟨rfl, rfl⟩
def r10_35 : MC := .reg [⟨none, (.mv 6 (.c (.imm true (.bool false))))⟩] none (some ([6], []))
def w10_35 := @awpR_no Try.prog Q σ r10_35 _ _ ⟨rfl, rfl⟩
def r10_36 : MC := .reg [⟨none, (.load 210 (.t 15) (some 8))⟩, ⟨none, (.load 211 (.t 16) (some 8))⟩, ⟨none, (.call (some 212) (.c (.fn 17 [])) [(.t 210), (.t 211)])⟩, ⟨none, (.mv 213 (.t 212))⟩, ⟨(some (213, true)), (.load 214 (.t 15) (some 8))⟩, ⟨(some (213, true)), (.load 215 (.t 21) (some 8))⟩, ⟨(some (213, true)), (.call (some 216) (.c (.fn 17 [])) [(.t 214), (.t 215)])⟩, ⟨none, (.pick 217 (.t 213) (.t 216) (.c (.imm true (.bool false))))⟩, ⟨none, (.mv 218 (.t 217))⟩, ⟨(some (218, true)), (.load 219 (.t 15) (some 8))⟩, ⟨(some (218, true)), (.call (some 220) (.c (.fn 22 [])) [(.t 219)])⟩, ⟨none, (.pick 221 (.t 218) (.t 220) (.c (.imm true (.bool false))))⟩, ⟨none, (.mv 222 (.t 221))⟩, ⟨(some (222, true)), (.load 223 (.t 15) (some 8))⟩, ⟨(some (222, true)), (.call (some 224) (.c (.fn 15 [])) [(.t 223)])⟩, ⟨(some (222, true)), (.mv 225 (.t 8))⟩, ⟨(some (222, true)), (.bin 226 .leq (.t 224) (.t 225))⟩, ⟨none, (.pick 227 (.t 222) (.t 226) (.c (.imm true (.bool false))))⟩, ⟨none, (.mv 228 (.t 227))⟩, ⟨(some (228, true)), (.load 229 (.t 15) (some 8))⟩, ⟨(some (228, true)), (.call (some 230) (.c (.fn 43 [])) [(.t 229)])⟩, ⟨(some (228, true)), (.mv 231 (.t 8))⟩, ⟨(some (228, true)), (.mn 232 [(.t 231), (.c (.imm true (.int .i64 40)))])⟩, ⟨(some (228, true)), (.bin 233 .shl (.c (.imm true (.int .i64 4))) (.t 232))⟩, ⟨(some (228, true)), (.bin 234 .leq (.t 230) (.t 233))⟩, ⟨none, (.pick 235 (.t 228) (.t 234) (.c (.imm true (.bool false))))⟩, ⟨none, (.mv 236 (.t 235))⟩, ⟨(some (236, true)), (.call (some 237) (.c (.fn 41 [])) [])⟩, ⟨none, (.pick 238 (.t 236) (.t 237) (.c (.imm true (.bool false))))⟩, ⟨none, (.mv 6 (.t 238))⟩] (some []) (some ([6], []))
def w10_36 := @awpD_no Try.prog Q σ r10_36 _ _ _ ⟨rfl, rfl⟩
def my10 : MC := (.seq r10_0 (.seq r10_1 (.seq r10_2 (.seq (.seq r10_3 (.block 0 (.loop l10_0))) (.seq (.seq r10_19 (.cond (.t 109) (.seq r10_20 .ret) .skip)) (.seq r10_21 (.seq (.seq r10_22 (.block 2 (.loop l10_1))) (.seq r10_30 (.seq r10_31 (.seq r10_32 (.seq r10_33 (.seq (.seq r10_34 (.cond (.t 209) (.seq r10_35 .ret) .skip)) (.seq r10_36 .ret)))))))))))))
theorem my10_is : trC Try.prog ⟨[], []⟩ ⟨[(17, [[], [], [1], [0, 1, 2], [], [0, 1, 2, 3], [0, 1, 2, 3, 4, 5]], []), (21, [[], [0], [0, 1], [], [], [4], [4, 5], [3, 4, 5, 6], [3, 4, 5, 6, 7], [], [], [0, 1, 2, 9, 10], [0, 1, 2, 3, 4, 5, 6, 7, 8, 9, 10, 11]], [(0, 9), (1, 9), (2, 9), (3, 9), (4, 9), (5, 9), (6, 9), (7, 9), (8, 9), (0, 10), (1, 10), (2, 10), (3, 10), (4, 10), (5, 10), (6, 10), (7, 10), (8, 10), (9, 10), (3, 11), (4, 11), (5, 11), (6, 11), (7, 11), (8, 11)]), (26, [[], [], [], [1, 2], [1, 2, 3], [0, 1, 2, 3, 4], [0, 1, 2, 3, 4, 5], [0, 1, 2, 3, 4, 5, 6], [0, 1, 2, 3, 4, 5, 6], [0, 1, 2, 3, 4, 5, 6, 7], [0, 1, 2, 3, 4, 5, 6, 7, 8, 9]], [(8, 9)]), (27, [[], [], [1], [1, 2], [], [1, 2, 3, 4], [0, 1, 2, 3, 4, 5], [0, 1, 2, 3, 4, 5, 6], [], [0, 1, 2, 3, 4, 5, 6, 7, 8], [0, 1, 2, 3, 4, 5, 6, 7, 8, 9], [0, 1, 2, 3, 4, 5, 6, 7, 8, 9, 10], [0, 1, 2, 3, 4, 5, 6, 7, 8, 9, 10], [0, 1, 2, 3, 4, 5, 6, 7, 8, 9, 10, 11], [0, 1, 2, 3, 4, 5, 6, 7, 8, 9, 10, 11, 12, 13]], [(12, 13)]), (36, [[], [], [0, 1], [0, 1, 2], [0, 1, 2, 3], [0, 1, 2, 3], [0, 1, 2, 3, 4, 5], [0, 1, 2, 3, 4, 5, 6], [0, 1, 2, 3, 4, 5, 6, 7], [0, 1, 2, 3, 4, 5, 6, 7, 8], [0, 1, 2, 3, 4, 5, 6, 7, 8, 9], [0, 1, 2, 3, 4, 5, 6, 7, 8, 9, 10], [0, 1, 2, 3, 4, 5, 6, 7, 8, 9, 10, 11], [0, 1, 2, 3, 4, 5, 6, 7, 8, 9, 10, 11, 12], [0, 1, 2, 3, 4, 5, 6, 7, 8, 9, 10, 11, 12, 13], [0, 1, 2, 3, 4, 5, 6, 7, 8, 9, 10, 11, 12], [0, 1, 2, 3, 4, 5, 6, 7, 8, 9, 10, 11, 12, 13, 14, 15], [0, 1, 2, 3, 4, 5, 6, 7, 8, 9, 10, 11, 12, 13, 14, 15, 16], [0, 1, 2, 3, 4, 5, 6, 7, 8, 9, 10, 11, 12, 13, 14, 15, 16, 17], [0, 1, 2, 3, 4, 5, 6, 7, 8, 9, 10, 11, 12, 13, 14, 15, 16, 17, 18], [0, 1, 2, 3, 4, 5, 6, 7, 8, 9, 10, 11, 12, 13, 14, 15, 16, 17, 18, 19], [0, 1, 2, 3, 4, 5, 6, 7, 8, 9, 10, 11, 12, 13, 14, 15, 16, 17, 18], [0, 1, 2, 3, 4, 5, 6, 7, 8, 9, 10, 11, 12, 13, 14, 15, 16, 17, 18, 21], [0, 1, 2, 3, 4, 5, 6, 7, 8, 9, 10, 11, 12, 13, 14, 15, 16, 17, 18, 21, 22], [0, 1, 2, 3, 4, 5, 6, 7, 8, 9, 10, 11, 12, 13, 14, 15, 16, 17, 18, 19, 20, 21, 22, 23], [0, 1, 2, 3, 4, 5, 6, 7, 8, 9, 10, 11, 12, 13, 14, 15, 16, 17, 18, 19, 20, 21, 22, 23, 24], [0, 1, 2, 3, 4, 5, 6, 7, 8, 9, 10, 11, 12, 13, 14, 15, 16, 17, 18, 19, 20, 21, 22, 23, 24, 25], [0, 1, 2, 3, 4, 5, 6, 7, 8, 9, 10, 11, 12, 13, 14, 15, 16, 17, 18, 19, 20, 21, 22, 23, 24, 25, 26], [0, 1, 2, 3, 4, 5, 6, 7, 8, 9, 10, 11, 12, 13, 14, 15, 16, 17, 18, 19, 20, 21, 22, 23, 24, 25, 26, 27], [0, 1, 2, 3, 4, 5, 6, 7, 8, 9, 10, 11, 12, 13, 14, 15, 16, 17, 18, 19, 20, 21, 22, 23, 24, 25, 26, 27, 28]], [])],
  [(0, [0, 1, 2], []), (1, [0, 1, 2, 7], [100]), (2, [0, 1, 2, 7, 8, 9], [9, 100]), (3, [1, 2, 7, 8, 9, 30, 31, 32], [9, 100]), (4, [1, 2, 7, 8, 9, 30, 31, 32, 33], [9, 100]), (5, [1, 2, 7, 8, 9, 11, 30, 31, 32], [9, 11, 100]), (6, [1, 2, 7, 8, 9, 11, 30, 31, 32, 48], [9, 11, 100]), (7, [1, 2, 7, 8, 9, 11, 30, 31, 32, 56], [9, 11, 100]), (8, [1, 2, 7, 8, 9, 11, 30, 31, 32], [9, 11, 100]), (9, [1, 2, 7, 8, 9, 11, 30, 31, 32, 59], [9, 11, 100]), (10, [1, 2, 7, 8, 9, 11, 12, 30, 31, 32], [9, 11, 100]), (11, [1, 2, 7, 8, 9, 11, 12, 30, 31, 32, 76], [9, 11, 100]), (12, [1, 2, 7, 8, 9, 11, 12, 30, 31, 32], [9, 11, 100]), (13, [1, 2, 7, 8, 9, 11, 13, 14, 30, 31, 32], [9, 11, 13, 100]), (14, [1, 2, 7, 8, 9, 11, 13, 30, 31, 32, 96], [9, 11, 13, 100]), (15, [6], []), (16, [1, 2, 7, 8, 9, 11, 30, 31, 32], [9, 11, 100]), (17, [1, 2, 7, 8, 9, 30, 31, 32], [9, 100]), (18, [1, 2, 7, 8, 9, 30, 31, 32], [9, 100]), (19, [2, 7, 8, 9, 109], [9, 100]), (20, [6], []), (21, [2, 7, 8, 9, 15, 16], [9, 15, 16, 100]), (22, [2, 7, 8, 9, 15, 16, 17], [9, 15, 16, 100]), (23, [2, 7, 8, 9, 15, 16, 17, 123], [9, 15, 16, 100]), (25, [2, 7, 8, 9, 15, 16, 17], [9, 15, 16, 100]), (26, [2, 7, 8, 9, 15, 16, 17, 18], [9, 15, 16, 100]), (27, [2, 7, 8, 9, 15, 16, 17, 18, 19], [9, 15, 16, 100]), (28, [2, 7, 8, 9, 15, 16, 17, 153], [9, 15, 16, 100]), (29, [6], []), (24, [2, 7, 8, 9, 15, 16, 17], [9, 15, 16, 100]), (30, [7, 8, 9, 15, 16, 20], [9, 15, 16, 100]), (31, [7, 8, 9, 15, 16, 21, 22], [9, 15, 16, 21, 100]), (32, [7, 8, 9, 15, 16, 21, 22, 23, 24, 25], [9, 15, 16, 21, 23, 24, 100]), (33, [8, 9, 15, 16, 21, 22, 23, 24, 25, 26, 28], [9, 15, 16, 21, 23, 24, 26]), (34, [8, 15, 16, 21, 209], [15, 16, 21]), (35, [6], []), (36, [6], [])]⟩ 239 (Try.f10.body.getD .skip) = some my10 := by kernel_rfl
theorem does10 {args : List LV} (hl : args.length.ble 239 = true) {S S' : List (List LV)} (hS : S'.length = S.length) {o : Out} (h : Lt ⟨numE 0 args, argS 0 S, []⟩ (awp Try.prog my10 (Fin [(.t 6)] o S'))) : Does Try.prog 10 args S o S' :=
  does_of_awp mixed Try.func10 (by kernel_rfl) (by kernel_rfl) my10_is (by kernel_rfl) (Nat.le_of_ble_eq_true hl) hS h
attribute [go_sem ↓] w10_0 w10_1 w10_2 w10_3 w10_4 w10_5 w10_6 w10_7 w10_8 w10_9 w10_10 w10_11 w10_12 w10_13 w10_14 w10_15 w10_16 w10_17 w10_18 w10_19 w10_20 w10_21 w10_22 w10_23 w10_24 w10_25 w10_26 w10_27 w10_28 w10_29 w10_30 w10_31 w10_32 w10_33 w10_34 w10_35 w10_36
attribute [go_sem] my10
end Go.Proofs.Ytopgmopdjiahmaa.Lg

/- Casts, one behind the other: rows of normal forms; the walk of the small functions. Conditions: none; plain definitions and lemmas. -/
set_option linter.unusedVariables false
set_option linter.unusedSimpArgs false
set_option maxRecDepth 100000
set_option maxHeartbeats 2000000
namespace Go.Proofs.Ytopgmopdjiahmaa.Lg
open Go Go.RowKit Go.Proofs

/-- normal forms, each from where the one before goes to -/
def Caz (H : Int) : Ty → List Nf → Ty → Prop
  | A, [], B => A = B
  | A, a :: l, B => a.wf 2 ∧ a.en.1 = A ∧ a.de ≤ H ∧ a.cn.cnt ≤ 720 ∧ Caz H a.en.2 l B
theorem Caz.snoc {H : Int} {a : Nf} {B B' : Ty} (h1 : a.wf 2) (h2 : a.en = (B, B')) (h3 : a.de ≤ H) (h4 : a.cn.cnt ≤ 720) : ∀ {l : List Nf} {A : Ty}, Caz H A l B → Caz H A (l ++ [a]) B'
  | [], A, h => by
    simp only [Caz] at h; subst h
    exact ⟨h1, by rw [h2], h3, h4, by rw [h2]; rfl⟩
  | b :: l, A, h => ⟨h.1, h.2.1, h.2.2.1, h.2.2.2.1, Caz.snoc h1 h2 h3 h4 h.2.2.2.2⟩
theorem Caz.mono {H H' : Int} (hh : H ≤ H') : ∀ {l : List Nf} {A B : Ty}, Caz H A l B → Caz H' A l B
  | [], A, B, h => h
  | b :: l, A, B, h => ⟨h.1, h.2.1, by have := h.2.2.1; omega, h.2.2.2.1, Caz.mono hh h.2.2.2.2⟩
theorem Caz.app {H : Int} : ∀ {l l' : List Nf} {A B : Ty}, Caz H A (l ++ l') B → ∃ M, Caz H A l M ∧ Caz H M l' B
  | [], l', A, B, h => ⟨A, rfl, h⟩
  | b :: l, l', A, B, h => by
    obtain ⟨M, h1, h2⟩ := Caz.app h.2.2.2.2
    exact ⟨M, ⟨h.1, h.2.1, h.2.2.1, h.2.2.2.1, h1⟩, h2⟩
/-- all of them merged -/
def J : List Nf → Nf
  | [] => .un
  | [a] => a
  | a :: l => join a (J l)
theorem J_cons (a : Nf) {l : List Nf} (h : l ≠ []) : J (a :: l) = join a (J l) := by
  cases l with
  | nil => exact absurd rfl h
  | cons b l => rfl
theorem J_ok {H : Int} : ∀ {l : List Nf} {A B : Ty}, l ≠ [] → Caz H A l B → (J l).wf 2 ∧ (J l).en = (A, B) ∧ (J l).de ≤ H ∧ (J l).cn.cnt ≤ 720 * l.length
  | [], _, _, h, _ => absurd rfl h
  | [a], A, B, _, h => ⟨h.1, Prod.ext h.2.1 h.2.2.2.2, h.2.2.1, by have := h.2.2.2.1; simp only [J, List.length_singleton]; omega⟩
  | a :: b :: l, A, B, _, h => by
    obtain ⟨i1, i2, i3, i4⟩ := J_ok (by simp) h.2.2.2.2
    have he : a.en.2 = (J (b :: l)).en.1 := by rw [i2]
    obtain ⟨j1, j2⟩ := join_ok h.1 i1 he
    obtain ⟨k1, k2⟩ := join_small _ _ _ (Nat.le_refl _) h.1 i1 he
    rw [J_cons a (by simp)]
    have h3 := h.2.2.1
    have h4 := h.2.2.2.1
    refine ⟨j1, by rw [j2, i2, h.2.1], ?_, ?_⟩
    · have := maxI_le (a := a.de) (b := (J (b :: l)).de) (c := H) (by omega) (by omega)
      omega
    · simp only [List.length_cons] at i4 ⊢; omega
theorem J_app {H : Int} : ∀ {l l' : List Nf} {A M B : Ty}, l ≠ [] → l' ≠ [] → Caz H A l M → Caz H M l' B → join (J l) (J l') = J (l ++ l')
  | [], _, _, _, _, h, _, _, _ => absurd rfl h
  | [a], l', A, M, B, _, h', _, _ => by rw [List.singleton_append, J_cons a h']; rfl
  | a :: b :: l, l', A, M, B, _, h', h1, h2 => by
    have e := J_app (l := b :: l) (by simp) h' h1.2.2.2.2 h2
    obtain ⟨i1, i2, _⟩ := J_ok (by simp) h1.2.2.2.2
    obtain ⟨k1, k2, _⟩ := J_ok h' h2
    rw [J_cons a (by simp), List.cons_append, J_cons a (by simp), ← e]
    exact join_assoc _ _ _ _ (Nat.le_refl _) h1.1 i1 k1 (by rw [i2]) (by rw [i2, k2])

/-- a row, and what all its parts are, merged -/
structure Segs (C : List Cn) (s : Nat → Nat → Cn) : Prop where
  fits : ∀ i j, i < j → j ≤ C.length → (s i j).fits
  one : ∀ i (h : i < C.length), s i (i + 1) = C[i]
  two : ∀ i j m, i < j → j < m → m ≤ C.length → Does Try.prog 32 [.imm false (.agg (s i j).cells), .imm false (.agg (s j m).cells)] [] (.ret true (coV (s i m, 0))) []
def seg (L : List Nf) (i j : Nat) : Nf := J ((L.drop i).take (j - i))
theorem seg_chain {H : Int} {L : List Nf} {A B : Ty} (h : Caz H A L B) {i j : Nat} (hij : i < j) (hj : j ≤ L.length) : ∃ M M', Caz H M ((L.drop i).take (j - i)) M' ∧ (i = 0 → M = A) ∧ (j = L.length → M' = B) := by
  have e : L = L.take i ++ ((L.drop i).take (j - i) ++ (L.drop i).drop (j - i)) := by rw [List.take_append_drop, List.take_append_drop]
  rw [e] at h
  obtain ⟨M, h1, h2⟩ := h.app
  obtain ⟨M', h3, h4⟩ := h2.app
  refine ⟨M, M', h3, fun h0 => ?_, fun hn => ?_⟩
  · subst h0
    simp only [List.take_zero, Caz] at h1
    exact h1.symm
  · rw [List.drop_drop, List.drop_eq_nil_of_le (by omega)] at h4
    exact h4
theorem seg_ok {H : Int} {L : List Nf} {A B : Ty} (h : Caz H A L B) (hH : H ≤ 60) (h8 : L.length ≤ 8) {i j : Nat} (hij : i < j) (hj : j ≤ L.length) :
    (seg L i j).wf 2 ∧ (seg L i j).de ≤ H ∧ (seg L i j).cn.cnt ≤ 8192 ∧ (seg L i j).cn.chk = ((seg L i j).en.1, (seg L i j).en.2, 0) ∧ (i = 0 → (seg L i j).en.1 = A) ∧ (j = L.length → (seg L i j).en.2 = B) := by
  obtain ⟨M, M', hc, e1, e2⟩ := seg_chain h hij hj
  obtain ⟨j1, j2, j3, j4⟩ := J_ok (by intro h0; have := congrArg List.length h0; simp at this; omega) hc
  have hl : ((L.drop i).take (j - i)).length ≤ 8 := by simp; omega
  refine ⟨j1, j3, by unfold seg; omega, nf_small j1 (by unfold seg; omega) (by unfold seg; omega), fun h0 => ?_, fun hn => ?_⟩
  · unfold seg; rw [j2]; exact e1 h0
  · unfold seg; rw [j2]; exact e2 hn
theorem segs {H : Int} {L : List Nf} {A B : Ty} (h : Caz H A L B) (hH : H ≤ 60) (h8 : L.length ≤ 8) : Segs (L.map Nf.cn) (fun i j => (seg L i j).cn) where
  fits i j hij hj := cn_fits (seg_ok h hH h8 hij (by simpa using hj)).1
  one i hi := by
    have hi : i < L.length := by simpa using hi
    have : (L.drop i).take (i + 1 - i) = [L[i]] := by rw [show i + 1 - i = 1 by omega, List.drop_eq_getElem_cons hi]; rfl
    simp only [seg, this, J, List.getElem_map]
  two i j m hij hjm hm := by
    have hm : m ≤ L.length := by simpa using hm
    obtain ⟨a1, _, a3, a4, _⟩ := seg_ok h hH h8 hij (by omega)
    obtain ⟨b1, _, b3, b4, _⟩ := seg_ok h hH h8 hjm hm
    obtain ⟨c1, _, c3, c4, _⟩ := seg_ok h hH h8 (show i < m by omega) hm
    obtain ⟨M, M', hc, _⟩ := seg_chain h (show i < m by omega) hm
    have e : (L.drop i).take (m - i) = (L.drop i).take (j - i) ++ (L.drop j).take (m - j) := by
      rw [show m - i = (j - i) + (m - j) by omega, List.take_add, List.drop_drop, show i + (j - i) = j by omega]
    rw [e] at hc
    obtain ⟨X, x1, x2⟩ := hc.app
    have n1 : (L.drop i).take (j - i) ≠ [] := by intro h0; have := congrArg List.length h0; simp at this; omega
    have n2 : (L.drop j).take (m - j) ≠ [] := by intro h0; have := congrArg List.length h0; simp at this; omega
    have hj : join (seg L i j) (seg L j m) = seg L i m := by unfold seg; rw [e]; exact J_app n1 n2 x1 x2
    have hm : (seg L i j).en.2 = (seg L j m).en.1 := by
      unfold seg; rw [(J_ok n1 x1).2.1, (J_ok n2 x2).2.1]
    have d := thenA_does _ _ (cn_fits a1) (cn_fits b1)
    rw [thenA_nf a1 b1 (by rw [a4]) (by rw [b4]) hm, hj, tolN, if_pos (by rw [c4])] at d
    exact d

theorem tall_does : ∀ t : Ty, t.fits → t.high ≤ 1000000 → Does Try.prog 40 [.imm false (.agg t.cells)] [] (.ret true (.int .i64 t.high)) [] := by
  refine Ty.ind fun k ts ih hf hh => ?_
  have hfl : ts.length ≤ 9223372036854775807 := hf.1
  have hhl : Ty.highL ts 0 ≤ 999999 := by simp only [Ty.high] at hh; omega
  refine does40 (by rfl) (by rfl) ?_
  (try simp (implicitDefEqProofs := false) only [go_sem, ↓reduceIte, Nat.reduceEqDiff, reduceCtorEq, Nat.reduceAdd, Nat.reduceSub, Nat.reduceLeDiff, Nat.reduceLT, Nat.reduceMul, Int.reduceToNat, Int.reduceLT, Int.reduceLE, Ty.cells, Ty.cellsL_len])
  refine ⟨fun q σ => ∃ j d, j ≤ ts.length ∧ q = ts.length - j ∧ 0 ≤ d ∧ Ty.highL ts 0 = Ty.highL (ts.drop j) d ∧ σ = ⟨[(3, .imm true (.int .i64 d)), (7, .imm false (.slice (Ty.cellsL ts))), (8, .imm true (.int .i64 ts.length)), (9, .imm true (.int .i64 j))], [], []⟩, ⟨_, 0, 0, by omega, rfl, by omega, rfl, rfl⟩, ?_⟩
  rintro q σ ⟨j, d, hj, rfl, hd0, hs, rfl⟩
  unfold l40_0
  (try simp (implicitDefEqProofs := false) only [go_sem, ↓reduceIte, Nat.reduceEqDiff, reduceCtorEq, Nat.reduceAdd, Nat.reduceSub, Nat.reduceLeDiff, Nat.reduceLT, Nat.reduceMul, Int.reduceToNat, Int.reduceLT, Int.reduceLE, CondOn_imm])
  have hdl : d ≤ 999999 := by have := Ty.highL_ge (ts.drop j) d; omega
  refine ⟨fun hlt => ?_, fun hlt => ?_⟩
  · have hlt : j < ts.length := by simpa using hlt
    obtain ⟨k', ts', hm, hat, hdr, _⟩ := Ty.kid hlt
    rw [hdr, Ty.highL] at hs
    have hkid := Ty.highL_mem (ts := ts) 0 _ hm
    (try simp (implicitDefEqProofs := false) only [go_sem, ↓reduceIte, Nat.reduceEqDiff, reduceCtorEq, Nat.reduceAdd, Nat.reduceSub, Nat.reduceLeDiff, Nat.reduceLT, Nat.reduceMul, Int.reduceToNat, Int.reduceLT, Int.reduceLE, hat, Int.toNat_natCast, Int.natCast_nonneg])
    refine CallK_do (ih _ hm (Ty.fitsL_mem (by simpa [Ty.fits] using hf.2) _ hm) (by omega)) ?_
    (try simp (implicitDefEqProofs := false) only [go_sem, ↓reduceIte, Nat.reduceEqDiff, reduceCtorEq, Nat.reduceAdd, Nat.reduceSub, Nat.reduceLeDiff, Nat.reduceLT, Nat.reduceMul, Int.reduceToNat, Int.reduceLT, Int.reduceLE, wrap64 (n := (j : Int) + 1) (by omega) (by omega)])
    exact ⟨_, by omega, j + 1, maxI d (Ty.mk k' ts').high, by omega, rfl, by have := le_maxI (a := d) (b := (Ty.mk k' ts').high); omega, hs, rfl⟩
  · have hge : j = ts.length := by have : ¬ j < ts.length := by simpa using hlt
                                   omega
    subst hge
    simp only [List.drop_length, Ty.highL] at hs
    (try simp (implicitDefEqProofs := false) only [go_sem, ↓reduceIte, Nat.reduceEqDiff, reduceCtorEq, Nat.reduceAdd, Nat.reduceSub, Nat.reduceLeDiff, Nat.reduceLT, Nat.reduceMul, Int.reduceToNat, Int.reduceLT, Int.reduceLE, wrap64 (n := d + 1) (by omega) (by omega), Ty.high, hs])

theorem lab2 : labIn 2 = true := by decide
theorem labOk2 : labOk 2 = true := by decide
theorem merges_does : Does Try.prog 41 [] [] (.ret true (.bool true)) [] := by
  have c1 := cast_in 1 1 (by omega) lab1
  have c2 := cast_out 1 2 (by omega) lab2
  have c3 := cast_out 2 3 (by omega) lab3
  simp only [show labN 3 = 3 from rfl, show labS 3 = false from rfl, show labN 2 = 2 from rfl, show labS 2 = false from rfl] at c2 c3
  obtain ⟨w1, t1, k1⟩ := inn_base_ok 1 (by omega)
  obtain ⟨w2, t2, k2⟩ := out_base_ok 1 2 false (by omega) labOk2
  obtain ⟨w3, t3, k3⟩ := out_base_ok 2 3 false (by omega) labOk3
  have d1 := thenA_does _ _ (cn_fits w1) (cn_fits w2)
  have d2 := thenA_does _ _ (cn_fits w1) (cn_fits w3)
  rw [thenA_nf w1 w2 (by rw [k1]) (by rw [k2]) rfl, join_inn_eq, join_base, small_ok (a := .base 1) (l := 2) (.inl rfl) (by rw [base_cnt]; omega) (by rw [base_dp]; omega)] at d1
  have wf : (Nf.fail (.mk 1 []) (.mk 2 []) 3 false).wf 2 := ⟨by omega, by simp [Ty.k], (check_iff.1 int_check).2.2, (check_iff.1 bool_check).2.2, labOk3⟩
  rw [thenA_nf w1 w3 (by rw [k1]) (by rw [k3]) rfl, join_inn_ne _ _ _ _ _ _ (by omega), show (Nf.base 1).en.1 = .mk 1 [] from rfl, show (Nf.base 2).en.2 = .mk 2 [] from rfl,
    small_ok wf (by simp [Nf.cn, Cn.cnt, Cn.cntL, leafF, Ty.nodes, Ty.nodesL]) (by simp [Nf.cn, Cn.dp, Cn.dpL, dp0, Ty.high, Ty.highL, maxI])] at d2
  simp only [coV, zero_cells, Nf.cn, part_cells, Cn.cells, Cn.cellsL, Ty.un, Ty.k_mk, Ty.ts_mk, Ty.cellsL] at c1 c2 c3 d1 d2
  refine does41 (by rfl) (by rfl) ?_
  (try simp (implicitDefEqProofs := false) only [go_sem, ↓reduceIte, Nat.reduceEqDiff, reduceCtorEq, Nat.reduceAdd, Nat.reduceSub, Nat.reduceLeDiff, Nat.reduceLT, Nat.reduceMul, Int.reduceToNat, Int.reduceLT, Int.reduceLE])
  refine CallK_do c1 ?_
  (try simp (implicitDefEqProofs := false) only [go_sem, ↓reduceIte, Nat.reduceEqDiff, reduceCtorEq, Nat.reduceAdd, Nat.reduceSub, Nat.reduceLeDiff, Nat.reduceLT, Nat.reduceMul, Int.reduceToNat, Int.reduceLT, Int.reduceLE])
  refine CallK_do c2 ?_
  (try simp (implicitDefEqProofs := false) only [go_sem, ↓reduceIte, Nat.reduceEqDiff, reduceCtorEq, Nat.reduceAdd, Nat.reduceSub, Nat.reduceLeDiff, Nat.reduceLT, Nat.reduceMul, Int.reduceToNat, Int.reduceLT, Int.reduceLE])
  refine CallK_do c3 ?_
  (try simp (implicitDefEqProofs := false) only [go_sem, ↓reduceIte, Nat.reduceEqDiff, reduceCtorEq, Nat.reduceAdd, Nat.reduceSub, Nat.reduceLeDiff, Nat.reduceLT, Nat.reduceMul, Int.reduceToNat, Int.reduceLT, Int.reduceLE])
  refine CallK_do d1 ?_
  (try simp (implicitDefEqProofs := false) only [go_sem, ↓reduceIte, Nat.reduceEqDiff, reduceCtorEq, Nat.reduceAdd, Nat.reduceSub, Nat.reduceLeDiff, Nat.reduceLT, Nat.reduceMul, Int.reduceToNat, Int.reduceLT, Int.reduceLE])
  refine CallK_do d2 ?_
  (try simp (implicitDefEqProofs := false) only [go_sem, ↓reduceIte, Nat.reduceEqDiff, reduceCtorEq, Nat.reduceAdd, Nat.reduceSub, Nat.reduceLeDiff, Nat.reduceLT, Nat.reduceMul, Int.reduceToNat, Int.reduceLT, Int.reduceLE, show ((0 : Int) == 0) = true from rfl, show ((1 : Int) == 1) = true from rfl, show ((3 : Int) == 3) = true from rfl])
end Go.Proofs.Ytopgmopdjiahmaa.Lg

/- Casts, one behind the other: parted. Conditions: none; plain definitions and lemmas. -/
set_option linter.unusedVariables false
set_option linter.unusedSimpArgs false
set_option maxRecDepth 100000
set_option maxHeartbeats 2000000
namespace Go.Proofs.Ytopgmopdjiahmaa.Lg
open Go Go.RowKit Go.Proofs

attribute [go_sem ↓] s_cut
def Cn.pt : Cn → Ty
  | .mk _ ty _ _ _ _ => ty
def Cn.po : Cn → Ty
  | .mk _ _ to _ _ _ => to
def Cn.pl : Cn → Int
  | .mk _ _ _ lab _ _ => lab
def Cn.pn : Cn → Bool
  | .mk _ _ _ _ neg _ => neg
def Cn.pk : Cn → List Cn
  | .mk _ _ _ _ _ ks => ks
theorem Cn.cells_ex (c : Cn) : c.cells = [.int .i8 c.kd, .int .i8 c.pt.k, .slice (Ty.cellsL c.pt.ts), .int .i8 c.po.k, .slice (Ty.cellsL c.po.ts), .int .i64 c.pl, .bool c.pn, .slice (Cn.cellsL c.pk)] := by
  cases c; simp only [Cn.cells, Cn.kd, Cn.pt, Cn.po, Cn.pl, Cn.pn, Cn.pk]
def vx (f : Bool) (c : Cn) : List LV := [.imm f (.int .i8 c.kd), .imm f (.int .i8 c.pt.k), .imm f (.slice (Ty.cellsL c.pt.ts)), .imm f (.int .i8 c.po.k), .imm f (.slice (Ty.cellsL c.po.ts)), .imm f (.int .i64 c.pl), .imm f (.bool c.pn), .imm f (.slice (Cn.cellsL c.pk))]
theorem drop_at {α : Type} {l : List α} {i j : Nat} : (l.drop i)[j]? = l[i + j]? := by simp
theorem row_at {C : List Cn} {s : Nat → Nat → Cn} (h : Segs C s) {i : Nat} (hi : i < C.length) : (C.map Cn.cells)[i]? = some (s i (i + 1)).cells := by
  rw [h.one i hi]; simp [hi]
theorem row_all (C : List Cn) : (C.map Cn.cells).all (fun v => v.length == 8) = true := by
  simp [Cn.cells_len]
theorem parted_does {C : List Cn} {s : Nat → Nat → Cn} (h : Segs C s) {k : Nat} (hk : 0 < k) (hk2 : k < C.length) (h8 : C.length ≤ 8) :
    Does Try.prog 42 [.imm false (.slice (C.map Cn.cells)), .imm false (.int .i64 k)] [] (.ret true (coV (s 0 C.length, 0))) [] := by
  have h0 := row_at h (show 0 < C.length by omega)
  have h1 := row_at h hk2
  have hall := row_all C
  have two : ∀ i j m, i < j → j < m → m ≤ C.length → _ := h.two
  simp only [coV, Cn.cells_ex] at h0 h1 two ⊢
  obtain ⟨E1, hE1⟩ : ∃ E, List.take (k - 1) (List.drop 1 (C.map Cn.cells)) = E := ⟨_, rfl⟩
  obtain ⟨E2, hE2⟩ : ∃ E, List.take (C.length - (k + 1)) (List.drop (k + 1) (C.map Cn.cells)) = E := ⟨_, rfl⟩
  have l1 : E1.length = k - 1 := by rw [← hE1]; simp; omega
  have l2 : E2.length = C.length - (k + 1) := by rw [← hE2]; simp
  have a1 : ∀ j, j < k - 1 → E1[j]? = some (s (j + 1) (j + 2)).cells := by
    intro j hj
    rw [← hE1, List.getElem?_take_of_lt hj, drop_at, row_at h (by omega)]
    rw [show 1 + j = j + 1 by omega]
  have a2 : ∀ j, j < C.length - (k + 1) → E2[j]? = some (s (k + 1 + j) (k + 1 + j + 1)).cells := by
    intro j hj
    rw [← hE2, List.getElem?_take_of_lt hj, drop_at, row_at h (by omega)]
  simp only [Cn.cells_ex] at a1 a2
  have c1 : (1 ≤ (k : Int) ∧ (k : Int) ≤ C.length) ↔ True := by simp; omega
  have c2 : ((k : Int) - 1).toNat = k - 1 := by omega
  refine does42 (by rfl) (by rfl) ?_
  (try simp (implicitDefEqProofs := false) only [go_sem, ↓reduceIte, Nat.reduceEqDiff, reduceCtorEq, Nat.reduceAdd, Nat.reduceSub, Nat.reduceLeDiff, Nat.reduceLT, Nat.reduceMul, Int.reduceToNat, Int.reduceLT, Int.reduceLE, h0, h1, Int.toNat_natCast, Int.natCast_nonneg, hall, show (1 : Int).toNat = 1 from rfl, List.length_map, c1, c2, hE1, l1])
  refine ⟨fun q σ => ∃ (j : Nat) (f : Bool), j ≤ k - 1 ∧ q = k - 1 - j ∧ σ = ⟨[(0, .imm false (.slice (C.map Cn.cells))), (1, .imm false (.int .i64 k)), (4, .loc (.own 4) 0), (6, .loc (.own 6) 0), (7, .loc (.own 7) 0), (25, .imm false (.slice E1)), (26, .imm true (.int .i64 ((k - 1 : Nat) : Int))), (27, .imm true (.int .i64 j))],
    [(.own 4, zero8), (.own 6, .var (vx f (s 0 (j + 1)))), (.own 7, .var (vx false (s k (k + 1))))], []⟩, ⟨_, 0, false, by omega, rfl, rfl⟩, ?_⟩
  rintro q σ ⟨j, f, hj, rfl, rfl⟩
  unfold l42_0
  (try simp (implicitDefEqProofs := false) only [go_sem, ↓reduceIte, Nat.reduceEqDiff, reduceCtorEq, Nat.reduceAdd, Nat.reduceSub, Nat.reduceLeDiff, Nat.reduceLT, Nat.reduceMul, Int.reduceToNat, Int.reduceLT, Int.reduceLE, CondOn_imm, vx, zero8])
  refine ⟨fun hlt => ?_, fun hlt => ?_⟩
  · have hlt : j < k - 1 := by simpa using hlt
    have d := two 0 (j + 1) (j + 2) (by omega) (by omega) (by omega)
    (try simp (implicitDefEqProofs := false) only [go_sem, ↓reduceIte, Nat.reduceEqDiff, reduceCtorEq, Nat.reduceAdd, Nat.reduceSub, Nat.reduceLeDiff, Nat.reduceLT, Nat.reduceMul, Int.reduceToNat, Int.reduceLT, Int.reduceLE, a1 j hlt, Int.toNat_natCast, Int.natCast_nonneg])
    refine CallK_do d ?_
    (try simp (implicitDefEqProofs := false) only [go_sem, ↓reduceIte, Nat.reduceEqDiff, reduceCtorEq, Nat.reduceAdd, Nat.reduceSub, Nat.reduceLeDiff, Nat.reduceLT, Nat.reduceMul, Int.reduceToNat, Int.reduceLT, Int.reduceLE, show ((0 : Int) != 0) = false from rfl, wrap64 (n := (j : Int) + 1) (by omega) (by omega)])
    exact ⟨_, by omega, j + 1, true, by omega, rfl, by simp [vx, zero8]⟩
  · have hge : j = k - 1 := by have : ¬ j < k - 1 := by simpa using hlt
                               omega
    subst hge
    have c3 : (0 ≤ (k : Int) + 1 ∧ (k : Int) + 1 ≤ C.length) ↔ True := by simp; omega
    have c4 : ((k : Int) + 1).toNat = k + 1 := by omega
    have c5 : ((C.length : Int) - ((k : Int) + 1)).toNat = C.length - (k + 1) := by omega
    (try simp (implicitDefEqProofs := false) only [go_sem, ↓reduceIte, Nat.reduceEqDiff, reduceCtorEq, Nat.reduceAdd, Nat.reduceSub, Nat.reduceLeDiff, Nat.reduceLT, Nat.reduceMul, Int.reduceToNat, Int.reduceLT, Int.reduceLE, Int.toNat_natCast, Int.natCast_nonneg, hall, List.length_map, c3, c4, c5, hE2, l2, wrap64 (n := (k : Int) + 1) (by omega) (by omega), show k - 1 + 1 = k by omega])
    refine ⟨fun q σ => ∃ (j : Nat) (f' : Bool), j ≤ C.length - (k + 1) ∧ q = C.length - (k + 1) - j ∧ σ = ⟨[(4, .loc (.own 4) 0), (6, .loc (.own 6) 0), (7, .loc (.own 7) 0), (46, .imm false (.slice E2)), (47, .imm true (.int .i64 ((C.length - (k + 1) : Nat) : Int))), (48, .imm true (.int .i64 j))],
      [(.own 4, zero8), (.own 6, .var (vx f (s 0 k))), (.own 7, .var (vx f' (s k (k + 1 + j))))], []⟩, ⟨_, 0, false, by omega, rfl, rfl⟩, ?_⟩
    rintro q σ ⟨j, f', hj, rfl, rfl⟩
    unfold l42_1
    (try simp (implicitDefEqProofs := false) only [go_sem, ↓reduceIte, Nat.reduceEqDiff, reduceCtorEq, Nat.reduceAdd, Nat.reduceSub, Nat.reduceLeDiff, Nat.reduceLT, Nat.reduceMul, Int.reduceToNat, Int.reduceLT, Int.reduceLE, CondOn_imm, vx, zero8])
    refine ⟨fun hlt => ?_, fun hlt => ?_⟩
    · have hlt : j < C.length - (k + 1) := by simpa using hlt
      have d := two k (k + 1 + j) (k + 1 + j + 1) (by omega) (by omega) (by omega)
      (try simp (implicitDefEqProofs := false) only [go_sem, ↓reduceIte, Nat.reduceEqDiff, reduceCtorEq, Nat.reduceAdd, Nat.reduceSub, Nat.reduceLeDiff, Nat.reduceLT, Nat.reduceMul, Int.reduceToNat, Int.reduceLT, Int.reduceLE, a2 j hlt, Int.toNat_natCast, Int.natCast_nonneg])
      refine CallK_do d ?_
      (try simp (implicitDefEqProofs := false) only [go_sem, ↓reduceIte, Nat.reduceEqDiff, reduceCtorEq, Nat.reduceAdd, Nat.reduceSub, Nat.reduceLeDiff, Nat.reduceLT, Nat.reduceMul, Int.reduceToNat, Int.reduceLT, Int.reduceLE, show ((0 : Int) != 0) = false from rfl, wrap64 (n := (j : Int) + 1) (by omega) (by omega)])
      exact ⟨_, by omega, j + 1, true, by omega, rfl, by simp [vx, zero8, Nat.add_assoc]⟩
    · have hge : j = C.length - (k + 1) := by have : ¬ j < C.length - (k + 1) := by simpa using hlt
                                              omega
      subst hge
      have d := two 0 k C.length (by omega) (by omega) (by omega)
      (try simp (implicitDefEqProofs := false) only [go_sem, ↓reduceIte, Nat.reduceEqDiff, reduceCtorEq, Nat.reduceAdd, Nat.reduceSub, Nat.reduceLeDiff, Nat.reduceLT, Nat.reduceMul, Int.reduceToNat, Int.reduceLT, Int.reduceLE, show k + 1 + (C.length - (k + 1)) = C.length by omega])
      refine CallK_do d ?_
      (try simp (implicitDefEqProofs := false) only [go_sem, ↓reduceIte, Nat.reduceEqDiff, reduceCtorEq, Nat.reduceAdd, Nat.reduceSub, Nat.reduceLeDiff, Nat.reduceLT, Nat.reduceMul, Int.reduceToNat, Int.reduceLT, Int.reduceLE])
end Go.Proofs.Ytopgmopdjiahmaa.Lg
