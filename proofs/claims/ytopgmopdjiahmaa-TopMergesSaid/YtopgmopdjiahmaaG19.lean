/- Texts of one proof, joined by program (gen/merge.py): My Nv. Conditions: none; plain definitions and lemmas. -/
import Derived.Test.YtopgmopdjiahmaaG4
import Derived.Test.YtopgmopdjiahmaaProg
import Derived.Test.YtopgmopdjiahmaaG8
/- MADE BY PROGRAM (gen/mk.py): the code of functions, as the logic sees it. Conditions: none; plain definitions and lemmas. -/
set_option linter.unusedVariables false
set_option linter.defProp false
set_option maxRecDepth 100000
namespace Go.Proofs.Ytopgmopdjiahmaa.Lg
open Go Go.RowKit Go.Proofs
variable {Q : AEx → St → Prop} {σ : St}

/-! ### 52: lychgate/coerce.same -/
def r52_0 : MC := .reg [⟨none, (.mv 4 (.c (.imm true (.bool false))))⟩] none (some ([0, 1], []))
def w52_0 := @awpR_no Try.prog Q σ r52_0 _ _ ⟨rfl, rfl⟩
def r52_1 : MC := .reg [⟨none, (.mv 6 (.t 0))⟩, ⟨none, (.nilc 7 (.t 6))⟩, ⟨none, (.fad 8 (.t 7) 0)⟩, ⟨none, (.load 9 (.t 8) none)⟩, ⟨none, (.mv 10 (.t 1))⟩, ⟨none, (.nilc 11 (.t 10))⟩, ⟨none, (.fad 12 (.t 11) 0)⟩, ⟨none, (.load 13 (.t 12) none)⟩, ⟨none, (.bin 14 .neq (.t 9) (.t 13))⟩, ⟨none, (.mv 15 (.t 14))⟩, ⟨(some (15, false)), (.mv 16 (.t 0))⟩, ⟨(some (15, false)), (.nilc 17 (.t 16))⟩, ⟨(some (15, false)), (.fad 18 (.t 17) 0)⟩, ⟨(some (15, false)), (.load 19 (.t 18) none)⟩, ⟨(some (15, false)), (.call (some 20) (.c (.fn 78 [])) [(.t 19)])⟩, ⟨(some (15, false)), (.mv 21 (.t 20))⟩, ⟨(some (21, true)), (.mv 22 (.t 0))⟩, ⟨(some (21, true)), (.nilc 23 (.t 22))⟩, ⟨(some (21, true)), (.fad 24 (.t 23) 1)⟩, ⟨(some (21, true)), (.load 25 (.t 24) (some 2))⟩, ⟨(some (21, true)), (.mv 26 (.t 1))⟩, ⟨(some (21, true)), (.nilc 27 (.t 26))⟩, ⟨(some (21, true)), (.fad 28 (.t 27) 1)⟩, ⟨(some (21, true)), (.load 29 (.t 28) (some 2))⟩, ⟨(some (21, true)), (.call (some 30) (.c (.fn 14 [])) [(.t 25), (.t 29)])⟩, ⟨(some (21, true)), (.un 31 .not (.t 30))⟩, ⟨(some (15, false)), (.pick 32 (.t 21) (.t 31) (.c (.imm true (.bool false))))⟩, ⟨none, (.pick 33 (.t 15) (.c (.imm true (.bool true))) (.t 32))⟩] (some []) (some ([0, 1, 33], []))
def w52_1 := @awpD_no Try.prog Q σ r52_1 _ _ _ ⟨rfl, rfl⟩
def r52_2 : MC := .reg [⟨none, (.mv 4 (.c (.imm true (.bool false))))⟩] none (some ([4], []))
def w52_2 := @awpR_no Try.prog Q σ r52_2 _ _ ⟨rfl, rfl⟩
def r52_3 : MC := .reg [⟨none, (.mv 34 (.t 0))⟩, ⟨none, (.nilc 35 (.t 34))⟩, ⟨none, (.fad 36 (.t 35) 0)⟩, ⟨none, (.load 37 (.t 36) none)⟩] none (some ([0, 1, 37], []))
def w52_3 := @awpR_no Try.prog Q σ r52_3 _ _ ⟨rfl, rfl⟩
def r52_4 : MC := .reg [⟨none, (.bin 39 .eql (.t 37) (.c (.imm true (.int .i8 1))))⟩, ⟨none, (.mv 38 (.t 39))⟩] none (some ([0, 1, 37, 38], []))
def w52_4 := @awpR_no Try.prog Q σ r52_4 _ _ ⟨rfl, rfl⟩
def r52_5 : MC := .reg [⟨none, (.bin 41 .eql (.t 37) (.c (.imm true (.int .i8 3))))⟩, ⟨none, (.mv 40 (.t 41))⟩] none (some ([0, 1, 40], []))
def w52_5 := @awpR_no Try.prog Q σ r52_5 _ _ ⟨rfl, rfl⟩
def r52_6 : MC := .reg [⟨none, (.mv 42 (.t 0))⟩, ⟨none, (.nilc 43 (.t 42))⟩, ⟨none, (.fad 44 (.t 43) 3)⟩, ⟨none, (.load 45 (.t 44) (some 2))⟩, ⟨none, (.mv 46 (.t 1))⟩, ⟨none, (.nilc 47 (.t 46))⟩, ⟨none, (.fad 48 (.t 47) 3)⟩, ⟨none, (.load 49 (.t 48) (some 2))⟩, ⟨none, (.call (some 50) (.c (.fn 14 [])) [(.t 45), (.t 49)])⟩, ⟨none, (.un 51 .not (.t 50))⟩] (some []) (some ([0, 1, 51], []))
def w52_6 := @awpD_no Try.prog Q σ r52_6 _ _ _ ⟨rfl, rfl⟩
def r52_7 : MC := .reg [⟨none, (.mv 4 (.c (.imm true (.bool false))))⟩] none (some ([4], []))
def w52_7 := @awpR_no Try.prog Q σ r52_7 _ _ ⟨rfl, rfl⟩
def r52_8 : MC := .reg [⟨none, (.mv 52 (.t 0))⟩, ⟨none, (.nilc 53 (.t 52))⟩, ⟨none, (.fad 54 (.t 53) 5)⟩, ⟨none, (.load 55 (.t 54) none)⟩, ⟨none, (.mv 56 (.t 1))⟩, ⟨none, (.nilc 57 (.t 56))⟩, ⟨none, (.fad 58 (.t 57) 5)⟩, ⟨none, (.load 59 (.t 58) none)⟩, ⟨none, (.bin 60 .neq (.t 55) (.t 59))⟩, ⟨none, (.mv 61 (.t 60))⟩, ⟨(some (61, false)), (.mv 62 (.t 0))⟩, ⟨(some (61, false)), (.nilc 63 (.t 62))⟩, ⟨(some (61, false)), (.fad 64 (.t 63) 6)⟩, ⟨(some (61, false)), (.load 65 (.t 64) none)⟩, ⟨(some (61, false)), (.mv 66 (.t 1))⟩, ⟨(some (61, false)), (.nilc 67 (.t 66))⟩, ⟨(some (61, false)), (.fad 68 (.t 67) 6)⟩, ⟨(some (61, false)), (.load 69 (.t 68) none)⟩, ⟨(some (61, false)), (.binb 70 true (.t 65) (.t 69))⟩, ⟨none, (.pick 71 (.t 61) (.c (.imm true (.bool true))) (.t 70))⟩] (some []) (some ([0, 1, 71], []))
def w52_8 := @awpD_no Try.prog Q σ r52_8 _ _ _ ⟨rfl, rfl⟩
def r52_9 : MC := .reg [⟨none, (.mv 4 (.c (.imm true (.bool false))))⟩] none (some ([4], []))
def w52_9 := @awpR_no Try.prog Q σ r52_9 _ _ ⟨rfl, rfl⟩
def r52_10 : MC := .reg [⟨none, (.mv 72 (.t 0))⟩, ⟨none, (.nilc 73 (.t 72))⟩, ⟨none, (.fad 74 (.t 73) 7)⟩, ⟨none, (.load 75 (.t 74) none)⟩, ⟨none, (.len 76 (.t 75))⟩, ⟨none, (.mv 77 (.c (.imm true (.int .i64 0))))⟩] none (some ([0, 1, 76, 77], []))
def w52_10 := @awpR_no Try.prog Q σ r52_10 _ _ ⟨rfl, rfl⟩
def r52_11 : MC := .reg [⟨none, (.bin 78 .lss (.t 77) (.t 76))⟩] none (some ([0, 1, 76, 77, 78], []))
def w52_11 := @awpR_no Try.prog Q σ r52_11 _ _ ⟨rfl, rfl⟩
def r52_12 : MC := .reg [⟨none, (.mv 79 (.t 77))⟩, ⟨none, (.mv 5 (.t 79))⟩] none (some ([0, 1, 5, 76, 77], []))
def w52_12 := @awpR_no Try.prog Q σ r52_12 _ _ ⟨rfl, rfl⟩
def r52_13 : MC := .reg [⟨none, (.mv 80 (.t 0))⟩, ⟨none, (.nilc 81 (.t 80))⟩, ⟨none, (.fad 82 (.t 81) 7)⟩, ⟨none, (.load 83 (.t 82) none)⟩, ⟨none, (.mv 84 (.t 5))⟩, ⟨none, (.iad 85 (.t 83) (.t 84) 8)⟩, ⟨none, (.mv 86 (.t 1))⟩, ⟨none, (.nilc 87 (.t 86))⟩, ⟨none, (.fad 88 (.t 87) 7)⟩, ⟨none, (.load 89 (.t 88) none)⟩, ⟨none, (.mv 90 (.t 5))⟩, ⟨none, (.iad 91 (.t 89) (.t 90) 8)⟩, ⟨none, (.call (some 92) (.c (.fn 52 [])) [(.t 85), (.t 91)])⟩, ⟨none, (.un 93 .not (.t 92))⟩] (some []) (some ([0, 1, 76, 77, 93], []))
def w52_13 := @awpD_no Try.prog Q σ r52_13 _ _ _ ⟨rfl, rfl⟩
def r52_14 : MC := .reg [⟨none, (.mv 4 (.c (.imm true (.bool false))))⟩] none (some ([4], []))
def w52_14 := @awpR_no Try.prog Q σ r52_14 _ _ ⟨rfl, rfl⟩
def r52_15 : MC := .reg [⟨none, (.bin 94 .add (.t 77) (.c (.imm true (.int .i64 1))))⟩, ⟨none, (.mv 77 (.t 94))⟩] none (some ([0, 1, 76, 77], []))
def w52_15 := @awpR_no Try.prog Q σ r52_15 _ _ ⟨rfl, rfl⟩
def l52_0 : MC := (.seq r52_11 (.seq (.cond (.t 78) .skip (.exit 3)) (.seq (.block 4 (.seq r52_12 (.seq r52_13 (.cond (.t 93) (.seq r52_14 .ret) .skip)))) r52_15)))
def r52_16 : MC := .reg [⟨none, (.mv 4 (.c (.imm true (.bool true))))⟩] none (some ([4], []))
def w52_16 := @awpR_no Try.prog Q σ r52_16 _ _ ⟨rfl, rfl⟩
def my52 : MC := (.seq r52_0 (.seq (.seq r52_1 (.cond (.t 33) (.seq r52_2 .ret) .skip)) (.seq (.seq r52_3 (.block 0 (.seq (.block 2 (.seq (.block 1 (.seq (.seq (.seq r52_4 (.cond (.t 38) (.exit 1) .skip)) (.seq r52_5 (.cond (.t 40) (.exit 2) .skip))) (.exit 0))) (.seq r52_6 (.cond (.t 51) (.seq r52_7 .ret) .skip)))) (.seq (.seq r52_8 (.cond (.t 71) (.seq r52_9 .ret) .skip)) (.exit 0))))) (.seq (.seq r52_10 (.block 3 (.loop l52_0))) (.seq r52_16 .ret)))))
theorem my52_is : trC Try.prog ⟨[], []⟩ ⟨[(1, [[], [0], [0, 1], [0, 1, 2], [], [4], [4, 5], [4, 5, 6], [0, 1, 2, 3, 4, 5, 6, 7], [0, 1, 2, 3, 4, 5, 6, 7, 8], [0, 1, 2, 3, 4, 5, 6, 7, 8, 9], [0, 1, 2, 3, 4, 5, 6, 7, 8, 9, 10], [0, 1, 2, 3, 4, 5, 6, 7, 8, 9, 10, 11], [0, 1, 2, 3, 4, 5, 6, 7, 8, 9, 10, 11, 12], [0, 1, 2, 3, 4, 5, 6, 7, 8, 9, 10, 11, 12, 13], [0, 1, 2, 3, 4, 5, 6, 7, 8, 9, 10, 11, 12, 13, 14], [0, 1, 2, 3, 4, 5, 6, 7, 8, 9, 10, 11, 12, 13, 14, 15], [0, 1, 2, 3, 4, 5, 6, 7, 8, 9, 10, 11, 12, 13, 14, 15, 16], [0, 1, 2, 3, 4, 5, 6, 7, 8, 9, 10, 11, 12, 13, 14, 15, 16, 17], [0, 1, 2, 3, 4, 5, 6, 7, 8, 9, 10, 11, 12, 13, 14, 15, 16, 17, 18], [0, 1, 2, 3, 4, 5, 6, 7, 8, 9, 10, 11, 12, 13, 14, 15], [0, 1, 2, 3, 4, 5, 6, 7, 8, 9, 10, 11, 12, 13, 14, 15, 20], [0, 1, 2, 3, 4, 5, 6, 7, 8, 9, 10, 11, 12, 13, 14, 15, 20, 21], [0, 1, 2, 3, 4, 5, 6, 7, 8, 9, 10, 11, 12, 13, 14, 15, 20, 21, 22], [0, 1, 2, 3, 4, 5, 6, 7, 8, 9, 10, 11, 12, 13, 14, 15, 16, 17, 18, 19, 20, 21, 22, 23], [0, 1, 2, 3, 4, 5, 6, 7, 8, 9, 10, 11, 12, 13, 14, 15, 16, 17, 18, 19, 20, 21, 22, 23, 24], [0, 1, 2, 3, 4, 5, 6, 7, 8, 9, 10, 11, 12, 13, 14, 15, 16, 17, 18, 19, 20, 21, 22, 23, 24, 25], [0, 1, 2, 3, 4, 5, 6, 7, 8, 9, 10, 11, 12, 13, 14, 15, 16, 17, 18, 19, 20, 21, 22, 23, 24, 25, 26]], []), (6, [[], [0], [0, 1], [0, 1, 2], [], [4], [4, 5], [4, 5, 6], [0, 1, 2, 3, 4, 5, 6, 7], [0, 1, 2, 3, 4, 5, 6, 7, 8]], []), (8, [[], [0], [0, 1], [0, 1, 2], [], [4], [4, 5], [4, 5, 6], [0, 1, 2, 3, 4, 5, 6, 7], [0, 1, 2, 3, 4, 5, 6, 7, 8], [0, 1, 2, 3, 4, 5, 6, 7, 8, 9], [0, 1, 2, 3, 4, 5, 6, 7, 8, 9, 10], [0, 1, 2, 3, 4, 5, 6, 7, 8, 9, 10, 11], [0, 1, 2, 3, 4, 5, 6, 7, 8, 9, 10, 11, 12], [0, 1, 2, 3, 4, 5, 6, 7, 8, 9], [0, 1, 2, 3, 4, 5, 6, 7, 8, 9, 14], [0, 1, 2, 3, 4, 5, 6, 7, 8, 9, 14, 15], [0, 1, 2, 3, 4, 5, 6, 7, 8, 9, 14, 15, 16], [0, 1, 2, 3, 4, 5, 6, 7, 8, 9, 10, 11, 12, 13, 14, 15, 16, 17], [0, 1, 2, 3, 4, 5, 6, 7, 8, 9, 10, 11, 12, 13, 14, 15, 16, 17, 18]], []), (13, [[], [0], [0, 1], [0, 1, 2], [], [0, 1, 2, 3, 4], [], [6], [6, 7], [6, 7, 8], [], [6, 7, 8, 9, 10], [0, 1, 2, 3, 4, 5, 6, 7, 8, 9, 10, 11], [0, 1, 2, 3, 4, 5, 6, 7, 8, 9, 10, 11, 12]], [])],
  [(0, [0, 1], []), (1, [0, 1, 33], []), (2, [4], []), (3, [0, 1, 37], []), (4, [0, 1, 37, 38], []), (5, [0, 1, 40], []), (6, [0, 1, 51], []), (7, [4], []), (8, [0, 1, 71], []), (9, [4], []), (10, [0, 1, 76, 77], []), (11, [0, 1, 76, 77, 78], []), (12, [0, 1, 5, 76, 77], []), (13, [0, 1, 76, 77, 93], []), (14, [4], []), (15, [0, 1, 76, 77], []), (16, [4], [])]⟩ 95 (Try.f52.body.getD .skip) = some my52 := by kernel_rfl
theorem does52 {args : List LV} (hl : args.length.ble 95 = true) {S S' : List (List LV)} (hS : S'.length = S.length) {o : Out} (h : Lt ⟨numE 0 args, argS 0 S, []⟩ (awp Try.prog my52 (Fin [(.t 4)] o S'))) : Does Try.prog 52 args S o S' :=
  does_of_awp mixed Try.func52 (by kernel_rfl) (by kernel_rfl) my52_is (by kernel_rfl) (Nat.le_of_ble_eq_true hl) hS h
attribute [go_sem ↓] w52_0 w52_1 w52_2 w52_3 w52_4 w52_5 w52_6 w52_7 w52_8 w52_9 w52_10 w52_11 w52_12 w52_13 w52_14 w52_15 w52_16
attribute [go_sem] my52
/-! ### 17: lychgate/coerce.Same -/
def r17_0 : MC := .reg [⟨none, (.boxc 2 (.t 0))⟩, ⟨none, (.boxc 3 (.t 1))⟩, ⟨none, (.mv 4 (.c (.imm true (.bool false))))⟩] none (some ([2, 3], []))
def w17_0 := @awpR_no Try.prog Q σ r17_0 _ _ ⟨rfl, rfl⟩
def r17_1 : MC := .reg [⟨none, (.load 12 (.t 2) (some 8))⟩, ⟨none, (.call (some 13) (.c (.fn 13 [])) [(.t 12)])⟩, ⟨none, (.mv 11 (.t 13))⟩, ⟨none, (.ext 14 (.t 11) 0)⟩, ⟨none, (.ext 15 (.t 11) 1)⟩, ⟨none, (.ext 16 (.t 11) 2)⟩, ⟨none, (.alloc 5 z2)⟩, ⟨none, (.alloc 6 z2)⟩, ⟨none, (.store (.t 5) (.t 14) 2)⟩, ⟨none, (.store (.t 6) (.t 15) 2)⟩, ⟨none, (.mv 7 (.t 16))⟩] none (some ([2, 3, 7], []))
def w17_1 := @awpR_get Try.prog Q σ r17_1 _ _ [5, 6] ⟨rfl, rfl⟩
def r17_2 : MC := .reg [⟨none, (.load 18 (.t 3) (some 8))⟩, ⟨none, (.call (some 19) (.c (.fn 13 [])) [(.t 18)])⟩, ⟨none, (.mv 17 (.t 19))⟩, ⟨none, (.ext 20 (.t 17) 0)⟩, ⟨none, (.ext 21 (.t 17) 1)⟩, ⟨none, (.ext 22 (.t 17) 2)⟩, ⟨none, (.alloc 8 z2)⟩, ⟨none, (.alloc 9 z2)⟩, ⟨none, (.store (.t 8) (.t 20) 2)⟩, ⟨none, (.store (.t 9) (.t 21) 2)⟩, ⟨none, (.mv 10 (.t 22))⟩] none (some ([2, 3, 7, 10], []))
def w17_2 := @awpR_get Try.prog Q σ r17_2 _ _ [8, 9] ⟨rfl, rfl⟩
def r17_3 : MC := .reg [⟨none, (.mv 23 (.t 7))⟩, ⟨none, (.bin 24 .eql (.t 23) (.c (.imm true (.int .i64 0))))⟩, ⟨none, (.mv 25 (.t 24))⟩, ⟨(some (25, true)), (.mv 26 (.t 10))⟩, ⟨(some (25, true)), (.bin 27 .eql (.t 26) (.c (.imm true (.int .i64 0))))⟩, ⟨none, (.pick 28 (.t 25) (.t 27) (.c (.imm true (.bool false))))⟩, ⟨none, (.mv 29 (.t 28))⟩, ⟨(some (29, true)), (.call (some 30) (.c (.fn 52 [])) [(.t 2), (.t 3)])⟩, ⟨none, (.pick 31 (.t 29) (.t 30) (.c (.imm true (.bool false))))⟩, ⟨none, (.mv 4 (.t 31))⟩] none (some ([4], []))
def w17_3 := @awpR_no Try.prog Q σ r17_3 _ _ ⟨rfl, rfl⟩
def my17 : MC := (.seq r17_0 (.seq r17_1 (.seq r17_2 (.seq r17_3 .ret))))
theorem my17_is : trC Try.prog ⟨[2, 3], []⟩ ⟨[],
  [(0, [2, 3], []), (1, [2, 3, 7], []), (2, [2, 3, 7, 10], []), (3, [4], [])]⟩ 32 (Try.f17.body.getD .skip) = some my17 := by kernel_rfl
theorem does17 {args : List LV} (hl : args.length.ble 32 = true) {S S' : List (List LV)} (hS : S'.length = S.length) {o : Out} (h : Lt ⟨numE 0 args, argS 0 S, []⟩ (awp Try.prog my17 (Fin [(.t 4)] o S'))) : Does Try.prog 17 args S o S' :=
  does_of_awp mixed Try.func17 (by kernel_rfl) (by kernel_rfl) my17_is (by kernel_rfl) (Nat.le_of_ble_eq_true hl) hS h
attribute [go_sem ↓] w17_0 w17_1 w17_2 w17_3
attribute [go_sem] my17
end Go.Proofs.Ytopgmopdjiahmaa.Lg

/- Coercions: sameness. Conditions: none; plain definitions and lemmas. -/
set_option linter.unusedVariables false
set_option linter.unusedSimpArgs false
set_option maxRecDepth 100000
set_option maxHeartbeats 1000000
namespace Go.Proofs.Ytopgmopdjiahmaa.Lg
open Go Go.RowKit Go.Proofs

def headSame (k : Int) (ty to : Ty) (lab : Int) (neg : Bool) (ty' to' : Ty) (lab' : Int) (neg' : Bool) : Bool :=
  if leafF k = true ∧ ty.same ty' = false then false else if k = 1 ∧ to.same to' = false then false else if (k = 1 ∨ k = 3) ∧ (lab ≠ lab' ∨ neg ≠ neg') then false else true
mutual
def Cn.same : Cn → Cn → Bool
  | .mk k ty to lab neg ks, .mk k' ty' to' lab' neg' ks' => k == k' && (headSame k ty to lab neg ty' to' lab' neg' && Cn.sameL ks ks')
def Cn.sameL : List Cn → List Cn → Bool
  | [], _ => true
  | _ :: _, [] => false
  | c :: r, d :: s => c.same d && Cn.sameL r s
end

theorem csame_does : ∀ a : Cn, a.fits → a.ends.2.2 = true → ∀ b : Cn, b.fits → b.ends.2.2 = true → Does Try.prog 52 [.imm false (.ptr a.cells 0), .imm false (.ptr b.cells 0)] [] (.ret true (.bool (a.same b))) [] := by
  refine Cn.ind fun k ty to lab neg ks ih hf he b hfb heb => ?_
  obtain ⟨k', ty', to', lab', neg', ks'⟩ := b
  have s1 := same_does ty ty' hf.1 hfb.1
  have s2 := same_does to to' hf.2.1 hfb.2.1
  have hl := leaf_does k
  simp only [Ty.cells_eq] at s1 s2
  refine does52 (by rfl) (by rfl) ?_
  by_cases hk : k ≠ k'
  · (try simp (implicitDefEqProofs := false) only [go_sem, ↓reduceIte, Nat.reduceEqDiff, reduceCtorEq, Nat.reduceAdd, Nat.reduceSub, Nat.reduceLeDiff, Nat.reduceLT, Nat.reduceMul, Int.reduceToNat, Int.reduceLT, Int.reduceLE, Cn.cells, show (k != k') = true from by simpa using hk])
    simp [Cn.same, hk]
  have hk : k = k' := Decidable.not_not.1 hk
  subst hk
  have e0 : (Cn.mk k ty to lab neg ks).same (.mk k ty' to' lab' neg' ks') = (headSame k ty to lab neg ty' to' lab' neg' && Cn.sameL ks ks') := by simp [Cn.same]
  rw [e0]
  -- the kids
  have loop : headSame k ty to lab neg ty' to' lab' neg' = true →
      awp Try.prog (.seq (.seq r52_10 (.block 3 (.loop l52_0))) (.seq r52_16 .ret)) (Fin [MR.t 4] (.ret true (.bool (headSame k ty to lab neg ty' to' lab' neg' && Cn.sameL ks ks'))) [])
        ⟨[(0, .imm false (.ptr (Cn.mk k ty to lab neg ks).cells 0)), (1, .imm false (.ptr (Cn.mk k ty' to' lab' neg' ks').cells 0))], [], []⟩ := by
    intro hh
    rw [hh]
    rcases ends_shape he with ⟨rfl, hk, hc⟩ | ⟨a1, a2, rfl, hk, ha1, ha2⟩
    · (try simp (implicitDefEqProofs := false) only [go_sem, ↓reduceIte, Nat.reduceEqDiff, reduceCtorEq, Nat.reduceAdd, Nat.reduceSub, Nat.reduceLeDiff, Nat.reduceLT, Nat.reduceMul, Int.reduceToNat, Int.reduceLT, Int.reduceLE, Cn.cells, Cn.cellsL, ncast0])
      refine ⟨fun q σ => q = 0 ∧ σ = ⟨[(0, .imm false (.ptr (Cn.mk k ty to lab neg []).cells 0)), (1, .imm false (.ptr (Cn.mk k ty' to' lab' neg' ks').cells 0)), (76, .imm true (.int .i64 0)), (77, .imm true (.int .i64 0))], [], []⟩, ⟨_, rfl, by first | rfl | simp only [Cn.cells, Cn.cellsL] | (simp only [Cn.cells, Cn.cellsL]; rfl)⟩, ?_⟩
      rintro q σ ⟨rfl, rfl⟩
      unfold l52_0
      (try simp (implicitDefEqProofs := false) only [go_sem, ↓reduceIte, Nat.reduceEqDiff, reduceCtorEq, Nat.reduceAdd, Nat.reduceSub, Nat.reduceLeDiff, Nat.reduceLT, Nat.reduceMul, Int.reduceToNat, Int.reduceLT, Int.reduceLE, Cn.cells, show decide ((0 : Int) < 0) = false from rfl])
      simp [Cn.sameL]
    · rcases ends_shape heb with ⟨rfl, hk2, hc2⟩ | ⟨b1, b2, rfl, hk2, hb1, hb2⟩
      · omega
      have hla1 := Cn.cells_len a1
      have hla2 := Cn.cells_len a2
      have hlb1 := Cn.cells_len b1
      have hlb2 := Cn.cells_len b2
      have d1 := ih a1 (by simp) hf.2.2.2.2.1 ha1 b1 hfb.2.2.2.2.1 hb1
      have d2 := ih a2 (by simp) hf.2.2.2.2.2.1 ha2 b2 hfb.2.2.2.2.2.1 hb2
      (try simp (implicitDefEqProofs := false) only [go_sem, ↓reduceIte, Nat.reduceEqDiff, reduceCtorEq, Nat.reduceAdd, Nat.reduceSub, Nat.reduceLeDiff, Nat.reduceLT, Nat.reduceMul, Int.reduceToNat, Int.reduceLT, Int.reduceLE, Cn.cells, Cn.cellsL, ncast2])
      let S : Int → St := fun j => ⟨[(0, .imm false (.ptr (Cn.mk k ty to lab neg [a1, a2]).cells 0)), (1, .imm false (.ptr (Cn.mk k ty' to' lab' neg' [b1, b2]).cells 0)), (76, .imm true (.int .i64 2)), (77, .imm true (.int .i64 j))], [], []⟩
      refine ⟨fun n σ => (n = 2 ∧ σ = S 0) ∨ (n = 1 ∧ a1.same b1 = true ∧ σ = S 1) ∨ (n = 0 ∧ a1.same b1 = true ∧ a2.same b2 = true ∧ σ = S 2), ⟨_, .inl ⟨rfl, by first | rfl | simp only [S, Cn.cells, Cn.cellsL]⟩⟩, ?_⟩
      rintro n σ (⟨rfl, rfl⟩ | ⟨rfl, z1, rfl⟩ | ⟨rfl, z1, z2, rfl⟩)
      · unfold l52_0
        (try simp (implicitDefEqProofs := false) only [go_sem, ↓reduceIte, Nat.reduceEqDiff, reduceCtorEq, Nat.reduceAdd, Nat.reduceSub, Nat.reduceLeDiff, Nat.reduceLT, Nat.reduceMul, Int.reduceToNat, Int.reduceLT, Int.reduceLE, S, Cn.cells, Cn.cellsL, hla1, hlb1, show decide ((0 : Int) < 2) = true from rfl])
        refine CallK_do d1 ?_
        cases z1 : a1.same b1 with
        | true =>
          (try simp (implicitDefEqProofs := false) only [go_sem, ↓reduceIte, Nat.reduceEqDiff, reduceCtorEq, Nat.reduceAdd, Nat.reduceSub, Nat.reduceLeDiff, Nat.reduceLT, Nat.reduceMul, Int.reduceToNat, Int.reduceLT, Int.reduceLE, wrap01])
          exact ⟨1, by omega, by simp⟩
        | false =>
          (try simp (implicitDefEqProofs := false) only [go_sem, ↓reduceIte, Nat.reduceEqDiff, reduceCtorEq, Nat.reduceAdd, Nat.reduceSub, Nat.reduceLeDiff, Nat.reduceLT, Nat.reduceMul, Int.reduceToNat, Int.reduceLT, Int.reduceLE])
          simp [Cn.sameL, z1]
      · unfold l52_0
        (try simp (implicitDefEqProofs := false) only [go_sem, ↓reduceIte, Nat.reduceEqDiff, reduceCtorEq, Nat.reduceAdd, Nat.reduceSub, Nat.reduceLeDiff, Nat.reduceLT, Nat.reduceMul, Int.reduceToNat, Int.reduceLT, Int.reduceLE, S, Cn.cells, Cn.cellsL, hla2, hlb2, show decide ((1 : Int) < 2) = true from rfl])
        refine CallK_do d2 ?_
        cases z2 : a2.same b2 with
        | true =>
          (try simp (implicitDefEqProofs := false) only [go_sem, ↓reduceIte, Nat.reduceEqDiff, reduceCtorEq, Nat.reduceAdd, Nat.reduceSub, Nat.reduceLeDiff, Nat.reduceLT, Nat.reduceMul, Int.reduceToNat, Int.reduceLT, Int.reduceLE, wrap12])
          exact ⟨0, by omega, by simp [z1]⟩
        | false =>
          (try simp (implicitDefEqProofs := false) only [go_sem, ↓reduceIte, Nat.reduceEqDiff, reduceCtorEq, Nat.reduceAdd, Nat.reduceSub, Nat.reduceLeDiff, Nat.reduceLT, Nat.reduceMul, Int.reduceToNat, Int.reduceLT, Int.reduceLE])
          simp [Cn.sameL, z1, z2]
      · unfold l52_0
        (try simp (implicitDefEqProofs := false) only [go_sem, ↓reduceIte, Nat.reduceEqDiff, reduceCtorEq, Nat.reduceAdd, Nat.reduceSub, Nat.reduceLeDiff, Nat.reduceLT, Nat.reduceMul, Int.reduceToNat, Int.reduceLT, Int.reduceLE, S, Cn.cells, Cn.cellsL, show decide ((2 : Int) < 2) = false from rfl])
        simp [Cn.sameL, z1, z2]
  -- the labels
  (try simp (implicitDefEqProofs := false) only [go_sem, ↓reduceIte, Nat.reduceEqDiff, reduceCtorEq, Nat.reduceAdd, Nat.reduceSub, Nat.reduceLeDiff, Nat.reduceLT, Nat.reduceMul, Int.reduceToNat, Int.reduceLT, Int.reduceLE, Cn.cells, bne_self_eq_false])
  refine CallK_do hl ?_
  have hk : k = 0 ∨ k = 1 ∨ k = 2 ∨ k = 3 ∨ (leafF k = false ∧ k ≠ 1 ∧ k ≠ 3) := by
    by_cases h0 : k = 0; · exact .inl h0
    by_cases h1 : k = 1; · exact .inr (.inl h1)
    by_cases h2 : k = 2; · exact .inr (.inr (.inl h2))
    by_cases h3 : k = 3; · exact .inr (.inr (.inr (.inl h3)))
    exact .inr (.inr (.inr (.inr ⟨by simp [leafF, h0, h1, h2, h3], h1, h3⟩)))
  rcases hk with rfl | rfl | rfl | rfl | ⟨hlk, k1, k3⟩
  · (try simp (implicitDefEqProofs := false) only [go_sem, ↓reduceIte, Nat.reduceEqDiff, reduceCtorEq, Nat.reduceAdd, Nat.reduceSub, Nat.reduceLeDiff, Nat.reduceLT, Nat.reduceMul, Int.reduceToNat, Int.reduceLT, Int.reduceLE, show leafF 0 = true from rfl])
    refine CallK_do s1 ?_
    cases z1 : ty.same ty' with
    | false =>
      (try simp (implicitDefEqProofs := false) only [go_sem, ↓reduceIte, Nat.reduceEqDiff, reduceCtorEq, Nat.reduceAdd, Nat.reduceSub, Nat.reduceLeDiff, Nat.reduceLT, Nat.reduceMul, Int.reduceToNat, Int.reduceLT, Int.reduceLE])
      simp [headSame, leafF, z1]
    | true =>
      (try simp (implicitDefEqProofs := false) only [go_sem, ↓reduceIte, Nat.reduceEqDiff, reduceCtorEq, Nat.reduceAdd, Nat.reduceSub, Nat.reduceLeDiff, Nat.reduceLT, Nat.reduceMul, Int.reduceToNat, Int.reduceLT, Int.reduceLE, show ((0 : Int) == 1) = false from rfl, show ((0 : Int) == 3) = false from rfl])
      have := loop (by simp [headSame, leafF, z1])
      (try simp (implicitDefEqProofs := false) only [go_sem, ↓reduceIte, Nat.reduceEqDiff, reduceCtorEq, Nat.reduceAdd, Nat.reduceSub, Nat.reduceLeDiff, Nat.reduceLT, Nat.reduceMul, Int.reduceToNat, Int.reduceLT, Int.reduceLE, Cn.cells] at this)
      exact this
  · (try simp (implicitDefEqProofs := false) only [go_sem, ↓reduceIte, Nat.reduceEqDiff, reduceCtorEq, Nat.reduceAdd, Nat.reduceSub, Nat.reduceLeDiff, Nat.reduceLT, Nat.reduceMul, Int.reduceToNat, Int.reduceLT, Int.reduceLE, show leafF 1 = true from rfl])
    refine CallK_do s1 ?_
    cases z1 : ty.same ty' with
    | false =>
      (try simp (implicitDefEqProofs := false) only [go_sem, ↓reduceIte, Nat.reduceEqDiff, reduceCtorEq, Nat.reduceAdd, Nat.reduceSub, Nat.reduceLeDiff, Nat.reduceLT, Nat.reduceMul, Int.reduceToNat, Int.reduceLT, Int.reduceLE])
      simp [headSame, leafF, z1]
    | true =>
      (try simp (implicitDefEqProofs := false) only [go_sem, ↓reduceIte, Nat.reduceEqDiff, reduceCtorEq, Nat.reduceAdd, Nat.reduceSub, Nat.reduceLeDiff, Nat.reduceLT, Nat.reduceMul, Int.reduceToNat, Int.reduceLT, Int.reduceLE, show ((1 : Int) == 1) = true from rfl, show ((1 : Int) == 3) = false from rfl])
      refine CallK_do s2 ?_
      cases z2 : to.same to' with
      | false =>
        (try simp (implicitDefEqProofs := false) only [go_sem, ↓reduceIte, Nat.reduceEqDiff, reduceCtorEq, Nat.reduceAdd, Nat.reduceSub, Nat.reduceLeDiff, Nat.reduceLT, Nat.reduceMul, Int.reduceToNat, Int.reduceLT, Int.reduceLE])
        simp [headSame, leafF, z1, z2]
      | true =>
        (try simp (implicitDefEqProofs := false) only [go_sem, ↓reduceIte, Nat.reduceEqDiff, reduceCtorEq, Nat.reduceAdd, Nat.reduceSub, Nat.reduceLeDiff, Nat.reduceLT, Nat.reduceMul, Int.reduceToNat, Int.reduceLT, Int.reduceLE])
        by_cases hlab : lab = lab'
        · by_cases hneg : neg = neg'
          · have := loop (by simp [headSame, leafF, z1, z2, hlab, hneg])
            (try simp (implicitDefEqProofs := false) only [go_sem, ↓reduceIte, Nat.reduceEqDiff, reduceCtorEq, Nat.reduceAdd, Nat.reduceSub, Nat.reduceLeDiff, Nat.reduceLT, Nat.reduceMul, Int.reduceToNat, Int.reduceLT, Int.reduceLE, Cn.cells] at this)
            (try simp (implicitDefEqProofs := false) only [go_sem, ↓reduceIte, Nat.reduceEqDiff, reduceCtorEq, Nat.reduceAdd, Nat.reduceSub, Nat.reduceLeDiff, Nat.reduceLT, Nat.reduceMul, Int.reduceToNat, Int.reduceLT, Int.reduceLE, Cn.cells, show (lab != lab') = false from by simpa using hlab, show (neg == neg') = true from by simpa using hneg])
            exact this
          · (try simp (implicitDefEqProofs := false) only [go_sem, ↓reduceIte, Nat.reduceEqDiff, reduceCtorEq, Nat.reduceAdd, Nat.reduceSub, Nat.reduceLeDiff, Nat.reduceLT, Nat.reduceMul, Int.reduceToNat, Int.reduceLT, Int.reduceLE, Cn.cells, show (lab != lab') = false from by simpa using hlab, show (neg == neg') = false from by simpa using hneg])
            simp [headSame, leafF, z1, z2, hlab, hneg]
        · (try simp (implicitDefEqProofs := false) only [go_sem, ↓reduceIte, Nat.reduceEqDiff, reduceCtorEq, Nat.reduceAdd, Nat.reduceSub, Nat.reduceLeDiff, Nat.reduceLT, Nat.reduceMul, Int.reduceToNat, Int.reduceLT, Int.reduceLE, Cn.cells, show (lab != lab') = true from by simpa using hlab])
          simp [headSame, leafF, z1, z2, hlab]
  · (try simp (implicitDefEqProofs := false) only [go_sem, ↓reduceIte, Nat.reduceEqDiff, reduceCtorEq, Nat.reduceAdd, Nat.reduceSub, Nat.reduceLeDiff, Nat.reduceLT, Nat.reduceMul, Int.reduceToNat, Int.reduceLT, Int.reduceLE, show leafF 2 = true from rfl])
    refine CallK_do s1 ?_
    cases z1 : ty.same ty' with
    | false =>
      (try simp (implicitDefEqProofs := false) only [go_sem, ↓reduceIte, Nat.reduceEqDiff, reduceCtorEq, Nat.reduceAdd, Nat.reduceSub, Nat.reduceLeDiff, Nat.reduceLT, Nat.reduceMul, Int.reduceToNat, Int.reduceLT, Int.reduceLE])
      simp [headSame, leafF, z1]
    | true =>
      (try simp (implicitDefEqProofs := false) only [go_sem, ↓reduceIte, Nat.reduceEqDiff, reduceCtorEq, Nat.reduceAdd, Nat.reduceSub, Nat.reduceLeDiff, Nat.reduceLT, Nat.reduceMul, Int.reduceToNat, Int.reduceLT, Int.reduceLE, show ((2 : Int) == 1) = false from rfl, show ((2 : Int) == 3) = false from rfl])
      have := loop (by simp [headSame, leafF, z1])
      (try simp (implicitDefEqProofs := false) only [go_sem, ↓reduceIte, Nat.reduceEqDiff, reduceCtorEq, Nat.reduceAdd, Nat.reduceSub, Nat.reduceLeDiff, Nat.reduceLT, Nat.reduceMul, Int.reduceToNat, Int.reduceLT, Int.reduceLE, Cn.cells] at this)
      exact this
  · (try simp (implicitDefEqProofs := false) only [go_sem, ↓reduceIte, Nat.reduceEqDiff, reduceCtorEq, Nat.reduceAdd, Nat.reduceSub, Nat.reduceLeDiff, Nat.reduceLT, Nat.reduceMul, Int.reduceToNat, Int.reduceLT, Int.reduceLE, show leafF 3 = true from rfl])
    refine CallK_do s1 ?_
    cases z1 : ty.same ty' with
    | false =>
      (try simp (implicitDefEqProofs := false) only [go_sem, ↓reduceIte, Nat.reduceEqDiff, reduceCtorEq, Nat.reduceAdd, Nat.reduceSub, Nat.reduceLeDiff, Nat.reduceLT, Nat.reduceMul, Int.reduceToNat, Int.reduceLT, Int.reduceLE])
      simp [headSame, leafF, z1]
    | true =>
      (try simp (implicitDefEqProofs := false) only [go_sem, ↓reduceIte, Nat.reduceEqDiff, reduceCtorEq, Nat.reduceAdd, Nat.reduceSub, Nat.reduceLeDiff, Nat.reduceLT, Nat.reduceMul, Int.reduceToNat, Int.reduceLT, Int.reduceLE, show ((3 : Int) == 1) = false from rfl, show ((3 : Int) == 3) = true from rfl])
      by_cases hlab : lab = lab'
      · by_cases hneg : neg = neg'
        · have := loop (by simp [headSame, leafF, z1, hlab, hneg])
          (try simp (implicitDefEqProofs := false) only [go_sem, ↓reduceIte, Nat.reduceEqDiff, reduceCtorEq, Nat.reduceAdd, Nat.reduceSub, Nat.reduceLeDiff, Nat.reduceLT, Nat.reduceMul, Int.reduceToNat, Int.reduceLT, Int.reduceLE, Cn.cells] at this)
          (try simp (implicitDefEqProofs := false) only [go_sem, ↓reduceIte, Nat.reduceEqDiff, reduceCtorEq, Nat.reduceAdd, Nat.reduceSub, Nat.reduceLeDiff, Nat.reduceLT, Nat.reduceMul, Int.reduceToNat, Int.reduceLT, Int.reduceLE, Cn.cells, show (lab != lab') = false from by simpa using hlab, show (neg == neg') = true from by simpa using hneg])
          exact this
        · (try simp (implicitDefEqProofs := false) only [go_sem, ↓reduceIte, Nat.reduceEqDiff, reduceCtorEq, Nat.reduceAdd, Nat.reduceSub, Nat.reduceLeDiff, Nat.reduceLT, Nat.reduceMul, Int.reduceToNat, Int.reduceLT, Int.reduceLE, Cn.cells, show (lab != lab') = false from by simpa using hlab, show (neg == neg') = false from by simpa using hneg])
          simp [headSame, leafF, z1, hlab, hneg]
      · (try simp (implicitDefEqProofs := false) only [go_sem, ↓reduceIte, Nat.reduceEqDiff, reduceCtorEq, Nat.reduceAdd, Nat.reduceSub, Nat.reduceLeDiff, Nat.reduceLT, Nat.reduceMul, Int.reduceToNat, Int.reduceLT, Int.reduceLE, Cn.cells, show (lab != lab') = true from by simpa using hlab])
        simp [headSame, leafF, z1, hlab]
  · (try simp (implicitDefEqProofs := false) only [go_sem, ↓reduceIte, Nat.reduceEqDiff, reduceCtorEq, Nat.reduceAdd, Nat.reduceSub, Nat.reduceLeDiff, Nat.reduceLT, Nat.reduceMul, Int.reduceToNat, Int.reduceLT, Int.reduceLE, hlk, show (k == 1) = false from by simpa using k1, show (k == 3) = false from by simpa using k3])
    have := loop (by simp [headSame, hlk, k1, k3])
    (try simp (implicitDefEqProofs := false) only [go_sem, ↓reduceIte, Nat.reduceEqDiff, reduceCtorEq, Nat.reduceAdd, Nat.reduceSub, Nat.reduceLeDiff, Nat.reduceLT, Nat.reduceMul, Int.reduceToNat, Int.reduceLT, Int.reduceLE, Cn.cells] at this)
    exact this


def Cn.sameF (a b : Cn) : Bool := a.chk.2.2 == 0 && b.chk.2.2 == 0 && a.same b
theorem csameF_does (a b : Cn) (ha : a.fits) (hb : b.fits) : Does Try.prog 17 [.imm false (.agg a.cells), .imm false (.agg b.cells)] [] (.ret true (.bool (a.sameF b))) [] := by
  have h1 := cchk_does a ha
  have h2 := cchk_does b hb
  have h3 : a.chk.2.2 = 0 → b.chk.2.2 = 0 → _ := fun h h' => csame_does a ha (ok_iff h).2.2.1 b hb (ok_iff h').2.2.1
  unfold Cn.sameF chV at *
  generalize a.chk = e at h1 h3
  generalize b.chk = f at h2 h3
  generalize a.same b = s at h3
  obtain ⟨e1, e2, e3⟩ := e
  obtain ⟨f1, f2, f3⟩ := f
  obtain ⟨k, ty, to, lab, neg, ks⟩ := a
  obtain ⟨k', ty', to', lab', neg', ks'⟩ := b
  simp only [Ty.cells_eq] at h1 h2
  refine does17 (by rfl) (by rfl) ?_
  (try simp (implicitDefEqProofs := false) only [go_sem, ↓reduceIte, Nat.reduceEqDiff, reduceCtorEq, Nat.reduceAdd, Nat.reduceSub, Nat.reduceLeDiff, Nat.reduceLT, Nat.reduceMul, Int.reduceToNat, Int.reduceLT, Int.reduceLE, Cn.cells])
  refine CallK_do h1 ?_
  (try simp (implicitDefEqProofs := false) only [go_sem, ↓reduceIte, Nat.reduceEqDiff, reduceCtorEq, Nat.reduceAdd, Nat.reduceSub, Nat.reduceLeDiff, Nat.reduceLT, Nat.reduceMul, Int.reduceToNat, Int.reduceLT, Int.reduceLE, Cn.cells, Ty.cells_eq])
  refine CallK_do h2 ?_
  by_cases z1 : e3 = 0
  · by_cases z2 : f3 = 0
    · have h3 := h3 z1 z2
      (try simp (implicitDefEqProofs := false) only [go_sem, ↓reduceIte, Nat.reduceEqDiff, reduceCtorEq, Nat.reduceAdd, Nat.reduceSub, Nat.reduceLeDiff, Nat.reduceLT, Nat.reduceMul, Int.reduceToNat, Int.reduceLT, Int.reduceLE, Cn.cells, Ty.cells_eq, show (e3 == 0) = true from by simpa using z1, show (f3 == 0) = true from by simpa using z2])
      refine CallK_do h3 ?_
      (try simp (implicitDefEqProofs := false) only [go_sem, ↓reduceIte, Nat.reduceEqDiff, reduceCtorEq, Nat.reduceAdd, Nat.reduceSub, Nat.reduceLeDiff, Nat.reduceLT, Nat.reduceMul, Int.reduceToNat, Int.reduceLT, Int.reduceLE])
    · (try simp (implicitDefEqProofs := false) only [go_sem, ↓reduceIte, Nat.reduceEqDiff, reduceCtorEq, Nat.reduceAdd, Nat.reduceSub, Nat.reduceLeDiff, Nat.reduceLT, Nat.reduceMul, Int.reduceToNat, Int.reduceLT, Int.reduceLE, Cn.cells, Ty.cells_eq, show (e3 == 0) = true from by simpa using z1, show (f3 == 0) = false from by simpa using z2])
  · (try simp (implicitDefEqProofs := false) only [go_sem, ↓reduceIte, Nat.reduceEqDiff, reduceCtorEq, Nat.reduceAdd, Nat.reduceSub, Nat.reduceLeDiff, Nat.reduceLT, Nat.reduceMul, Int.reduceToNat, Int.reduceLT, Int.reduceLE, Cn.cells, Ty.cells_eq, show (e3 == 0) = false from by simpa using z1])


theorem Cn.same_refl : ∀ c : Cn, c.ends.2.2 = true → c.same c = true := by
  refine Cn.ind fun k ty to lab neg ks ih he => ?_
  rcases ends_shape he with ⟨rfl, hk, hc⟩ | ⟨a, b, rfl, hk, ha, hb⟩
  · have h1 := Ty.same_refl hc
    have h2 : k = 1 → to.same to = true := by
      rintro rfl
      refine Ty.same_refl ?_
      simp only [Cn.ends, leafF, leafE] at he
      simpa [hc] using (by simpa [hc, Bool.and_eq_true] using he : _ ∧ to.check = 0).2
    by_cases k1 : k = 1
    · simp [Cn.same, headSame, h1, h2 k1, Cn.sameL]
    · simp [Cn.same, headSame, h1, k1, Cn.sameL]
  · have h1 := ih a (by simp) ha
    have h2 := ih b (by simp) hb
    have hlk : leafF k = false := by rcases hk with rfl | rfl | rfl | rfl <;> rfl
    have k1 : k ≠ 1 := by omega
    simp [Cn.same, headSame, hlk, k1, Cn.sameL, h1, h2]
end Go.Proofs.Ytopgmopdjiahmaa.Lg
