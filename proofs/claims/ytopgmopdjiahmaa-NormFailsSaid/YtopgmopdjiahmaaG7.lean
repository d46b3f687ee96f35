/- Texts of one proof, joined by program (gen/merge.py): Mc Ni Nj Nk Nl. Conditions: none; plain definitions and lemmas. -/
import Derived.Test.YtopgmopdjiahmaaG4
import Derived.Test.YtopgmopdjiahmaaProg
import Derived.Test.YtopgmopdjiahmaaG6
/- MADE BY PROGRAM (gen/mk.py): the code of functions, as the logic sees it. Conditions: none; plain definitions and lemmas. -/
set_option linter.unusedVariables false
set_option linter.defProp false
set_option maxRecDepth 100000
namespace Go.Proofs.Ytopgmopdjiahmaa.Lg
open Go Go.RowKit Go.Proofs

/-! ### 3: lychgate/lychgatelaw15.CoerceGoes -/
def r3_0 : MC := .reg [⟨none, (.boxc 3 (.t 0))⟩, ⟨none, (.boxc 4 (.t 1))⟩, ⟨none, (.mv 6 (.c (.imm true (.bool false))))⟩] none (some ([2, 3, 4], []))
def w3_0 {Q : AEx → St → Prop} {σ : St} := awpR_no (P := Try.prog) (Q := Q) (σ := σ) (m := r3_0) ⟨rfl, rfl⟩
def r3_1 : MC := .reg [⟨none, (.load 14 (.t 3) (some 2))⟩, ⟨none, (.load 15 (.t 4) (some 2))⟩, ⟨none, (.mv 16 (.t 2))⟩, ⟨none, (.call (some 17) (.c (.fn 11 [])) [(.t 14), (.t 15), (.t 16)])⟩, ⟨none, (.mv 13 (.t 17))⟩, ⟨none, (.ext 18 (.t 13) 0)⟩, ⟨none, (.ext 19 (.t 13) 1)⟩, ⟨none, (.alloc 7 [(.imm true (.int .i8 0)), (.imm true (.int .i8 0)), .nils, (.imm true (.int .i8 0)), .nils, (.imm true (.int .i64 0)), (.imm true (.bool false)), .nils])⟩, ⟨none, (.store (.t 7) (.t 18) 8)⟩, ⟨none, (.mv 8 (.t 19))⟩] none (some ([2, 3, 4, 7, 8], [7]))
def w3_1 {Q : AEx → St → Prop} {σ : St} := awpR_get (P := Try.prog) (Q := Q) (σ := σ) (m := r3_1) (D := [7]) ⟨rfl, rfl⟩
def r3_2 : MC := .reg [⟨none, (.mv 20 (.t 8))⟩, ⟨none, (.bin 21 .neq (.t 20) (.c (.imm true (.int .i64 0))))⟩] none (some ([2, 3, 4, 7, 21], [7]))
def w3_2 {Q : AEx → St → Prop} {σ : St} := awpR_no (P := Try.prog) (Q := Q) (σ := σ) (m := r3_2) ⟨rfl, rfl⟩
def r3_3 : MC := .reg [⟨none, (.load 22 (.t 7) (some 8))⟩, ⟨none, (.build 23 [(.imm true (.int .i8 0)), (.imm true (.int .i8 0)), .nils, (.imm true (.int .i8 0)), .nils, (.imm true (.int .i64 0)), (.imm true (.bool false)), .nils] [])⟩, ⟨none, (.call (some 24) (.c (.fn 12 [])) [(.t 22), (.t 23)])⟩, ⟨none, (.mv 6 (.t 24))⟩] none (some ([6], []))
def w3_3 {Q : AEx → St → Prop} {σ : St} := awpR_no (P := Try.prog) (Q := Q) (σ := σ) (m := r3_3) ⟨rfl, rfl⟩
def r3_4 : MC := .reg [⟨none, (.load 26 (.t 7) (some 8))⟩, ⟨none, (.call (some 27) (.c (.fn 13 [])) [(.t 26)])⟩, ⟨none, (.mv 25 (.t 27))⟩, ⟨none, (.ext 28 (.t 25) 0)⟩, ⟨none, (.ext 29 (.t 25) 1)⟩, ⟨none, (.ext 30 (.t 25) 2)⟩, ⟨none, (.alloc 9 [(.imm true (.int .i8 0)), .nils])⟩, ⟨none, (.alloc 10 [(.imm true (.int .i8 0)), .nils])⟩, ⟨none, (.store (.t 9) (.t 28) 2)⟩, ⟨none, (.store (.t 10) (.t 29) 2)⟩, ⟨none, (.mv 8 (.t 30))⟩] none (some ([2, 3, 4, 7, 8, 9, 10], [7, 9, 10]))
def w3_4 {Q : AEx → St → Prop} {σ : St} := awpR_get (P := Try.prog) (Q := Q) (σ := σ) (m := r3_4) (D := [9, 10]) ⟨rfl, rfl⟩
def r3_5 : MC := .reg [⟨none, (.mv 31 (.t 8))⟩, ⟨none, (.bin 32 .neq (.t 31) (.c (.imm true (.int .i64 0))))⟩, ⟨none, (.mv 33 (.t 32))⟩, ⟨(some (33, false)), (.load 34 (.t 9) (some 2))⟩, ⟨(some (33, false)), (.load 35 (.t 3) (some 2))⟩, ⟨(some (33, false)), (.call (some 36) (.c (.fn 14 [])) [(.t 34), (.t 35)])⟩, ⟨(some (33, false)), (.un 37 .not (.t 36))⟩, ⟨none, (.pick 38 (.t 33) (.c (.imm true (.bool true))) (.t 37))⟩, ⟨none, (.mv 39 (.t 38))⟩, ⟨(some (39, false)), (.load 40 (.t 10) (some 2))⟩, ⟨(some (39, false)), (.load 41 (.t 4) (some 2))⟩, ⟨(some (39, false)), (.call (some 42) (.c (.fn 14 [])) [(.t 40), (.t 41)])⟩, ⟨(some (39, false)), (.un 43 .not (.t 42))⟩, ⟨none, (.pick 44 (.t 39) (.c (.imm true (.bool true))) (.t 43))⟩, ⟨none, (.mv 45 (.t 44))⟩, ⟨(some (45, false)), (.load 46 (.t 7) (some 8))⟩, ⟨(some (45, false)), (.call (some 47) (.c (.fn 15 [])) [(.t 46)])⟩, ⟨(some (45, false)), (.load 48 (.t 3) (some 2))⟩, ⟨(some (45, false)), (.call (some 49) (.c (.fn 16 [])) [(.t 48)])⟩, ⟨(some (45, false)), (.load 50 (.t 4) (some 2))⟩, ⟨(some (45, false)), (.call (some 51) (.c (.fn 16 [])) [(.t 50)])⟩, ⟨(some (45, false)), (.mx 52 [(.t 49), (.t 51)])⟩, ⟨(some (45, false)), (.bin 53 .gtr (.t 47) (.t 52))⟩, ⟨none, (.pick 54 (.t 45) (.c (.imm true (.bool true))) (.t 53))⟩, ⟨none, (.mv 55 (.t 54))⟩, ⟨(some (55, false)), (.load 56 (.t 7) (some 8))⟩, ⟨(some (55, false)), (.load 57 (.t 7) (some 8))⟩, ⟨(some (55, false)), (.call (some 58) (.c (.fn 17 [])) [(.t 56), (.t 57)])⟩, ⟨(some (55, false)), (.un 59 .not (.t 58))⟩, ⟨none, (.pick 60 (.t 55) (.c (.imm true (.bool true))) (.t 59))⟩] (some []) (some ([2, 3, 4, 7, 60], [7]))
def w3_5 {Q : AEx → St → Prop} {σ : St} := awpD_no (P := Try.prog) (Q := Q) (σ := σ) (m := r3_5) ⟨rfl, rfl⟩
def r3_6 : MC := .reg [⟨none, (.mv 6 (.c (.imm true (.bool false))))⟩] none (some ([6], []))
def w3_6 {Q : AEx → St → Prop} {σ : St} := awpR_no (P := Try.prog) (Q := Q) (σ := σ) (m := r3_6) ⟨rfl, rfl⟩
def r3_7 : MC := .reg [⟨none, (.load 62 (.t 3) (some 2))⟩, ⟨none, (.load 63 (.t 4) (some 2))⟩, ⟨none, (.mv 64 (.t 2))⟩, ⟨none, (.un 65 .neg (.t 64))⟩, ⟨none, (.call (some 66) (.c (.fn 11 [])) [(.t 62), (.t 63), (.t 65)])⟩, ⟨none, (.mv 61 (.t 66))⟩, ⟨none, (.ext 67 (.t 61) 0)⟩, ⟨none, (.ext 68 (.t 61) 1)⟩, ⟨none, (.alloc 11 [(.imm true (.int .i8 0)), (.imm true (.int .i8 0)), .nils, (.imm true (.int .i8 0)), .nils, (.imm true (.int .i64 0)), (.imm true (.bool false)), .nils])⟩, ⟨none, (.store (.t 11) (.t 67) 8)⟩, ⟨none, (.mv 8 (.t 68))⟩] none (some ([2, 3, 7, 8, 11], [7, 11]))
def w3_7 {Q : AEx → St → Prop} {σ : St} := awpR_get (P := Try.prog) (Q := Q) (σ := σ) (m := r3_7) (D := [11]) ⟨rfl, rfl⟩
def r3_8 : MC := .reg [⟨none, (.mv 69 (.t 8))⟩, ⟨none, (.bin 70 .neq (.t 69) (.c (.imm true (.int .i64 0))))⟩, ⟨none, (.mv 71 (.t 70))⟩, ⟨(some (71, false)), (.load 72 (.t 11) (some 8))⟩, ⟨(some (71, false)), (.load 73 (.t 7) (some 8))⟩, ⟨(some (71, false)), (.call (some 74) (.c (.fn 18 [])) [(.t 73)])⟩, ⟨(some (71, false)), (.call (some 75) (.c (.fn 17 [])) [(.t 72), (.t 74)])⟩, ⟨(some (71, false)), (.un 76 .not (.t 75))⟩, ⟨none, (.pick 77 (.t 71) (.c (.imm true (.bool true))) (.t 76))⟩] (some []) (some ([2, 3, 77], []))
def w3_8 {Q : AEx → St → Prop} {σ : St} := awpD_no (P := Try.prog) (Q := Q) (σ := σ) (m := r3_8) ⟨rfl, rfl⟩
def r3_9 : MC := .reg [⟨none, (.mv 6 (.c (.imm true (.bool false))))⟩] none (some ([6], []))
def w3_9 {Q : AEx → St → Prop} {σ : St} := awpR_no (P := Try.prog) (Q := Q) (σ := σ) (m := r3_9) ⟨rfl, rfl⟩
def r3_10 : MC := .reg [⟨none, (.load 79 (.t 3) (some 2))⟩, ⟨none, (.load 80 (.t 3) (some 2))⟩, ⟨none, (.mv 81 (.t 2))⟩, ⟨none, (.call (some 82) (.c (.fn 11 [])) [(.t 79), (.t 80), (.t 81)])⟩, ⟨none, (.mv 78 (.t 82))⟩, ⟨none, (.ext 83 (.t 78) 0)⟩, ⟨none, (.ext 84 (.t 78) 1)⟩, ⟨none, (.alloc 12 [(.imm true (.int .i8 0)), (.imm true (.int .i8 0)), .nils, (.imm true (.int .i8 0)), .nils, (.imm true (.int .i64 0)), (.imm true (.bool false)), .nils])⟩, ⟨none, (.store (.t 12) (.t 83) 8)⟩, ⟨none, (.mv 8 (.t 84))⟩] none (some ([8, 12], [12]))
def w3_10 {Q : AEx → St → Prop} {σ : St} := awpR_get (P := Try.prog) (Q := Q) (σ := σ) (m := r3_10) (D := [12]) ⟨rfl, rfl⟩
def r3_11 : MC := .reg [⟨none, (.mv 85 (.t 8))⟩, ⟨none, (.bin 86 .neq (.t 85) (.c (.imm true (.int .i64 0))))⟩, ⟨none, (.mv 87 (.t 86))⟩, ⟨(some (87, false)), (.load 88 (.t 12) (some 8))⟩, ⟨(some (87, false)), (.call (some 89) (.c (.fn 19 [])) [(.t 88)])⟩, ⟨none, (.pick 90 (.t 87) (.c (.imm true (.bool true))) (.t 89))⟩, ⟨none, (.mv 6 (.t 90))⟩] none (some ([6], []))
def w3_11 {Q : AEx → St → Prop} {σ : St} := awpR_no (P := Try.prog) (Q := Q) (σ := σ) (m := r3_11) ⟨rfl, rfl⟩
def my3 : MC := (.seq r3_0 (.seq r3_1 (.seq (.seq r3_2 (.cond (.t 21) (.seq r3_3 .ret) .skip)) (.seq r3_4 (.seq (.seq r3_5 (.cond (.t 60) (.seq r3_6 .ret) .skip)) (.seq r3_7 (.seq (.seq r3_8 (.cond (.t 77) (.seq r3_9 .ret) .skip)) (.seq r3_10 (.seq r3_11 .ret)))))))))
theorem my3_is : trC Try.prog ⟨[3, 4], []⟩ ⟨[(5, [[], [0], [0, 1], [0, 1, 2], [0, 1, 2], [0, 1, 2, 3, 4], [0, 1, 2, 3, 4, 5], [0, 1, 2, 3, 4, 5, 6], [0, 1, 2, 3, 4, 5, 6, 7], [0, 1, 2, 3, 4, 5, 6, 7, 8], [0, 1, 2, 3, 4, 5, 6, 7, 8], [0, 1, 2, 3, 4, 5, 6, 7, 8, 9, 10], [0, 1, 2, 3, 4, 5, 6, 7, 8, 9, 10, 11], [0, 1, 2, 3, 4, 5, 6, 7, 8, 9, 10, 11, 12], [0, 1, 2, 3, 4, 5, 6, 7, 8, 9, 10, 11, 12, 13], [0, 1, 2, 3, 4, 5, 6, 7, 8, 9, 10, 11, 12, 13, 14], [0, 1, 2, 3, 4, 5, 6, 7, 8, 9, 10, 11, 12, 13, 14, 15], [0, 1, 2, 3, 4, 5, 6, 7, 8, 9, 10, 11, 12, 13, 14], [0, 1, 2, 3, 4, 5, 6, 7, 8, 9, 10, 11, 12, 13, 14, 15, 16, 17], [0, 1, 2, 3, 4, 5, 6, 7, 8, 9, 10, 11, 12, 13, 14], [0, 1, 2, 3, 4, 5, 6, 7, 8, 9, 10, 11, 12, 13, 14, 15, 16, 17, 18, 19], [0, 1, 2, 3, 4, 5, 6, 7, 8, 9, 10, 11, 12, 13, 14, 15, 16, 17, 18, 19, 20], [0, 1, 2, 3, 4, 5, 6, 7, 8, 9, 10, 11, 12, 13, 14, 15, 16, 17, 18, 19, 20, 21], [0, 1, 2, 3, 4, 5, 6, 7, 8, 9, 10, 11, 12, 13, 14, 15, 16, 17, 18, 19, 20, 21, 22], [0, 1, 2, 3, 4, 5, 6, 7, 8, 9, 10, 11, 12, 13, 14, 15, 16, 17, 18, 19, 20, 21, 22, 23], [0, 1, 2, 3, 4, 5, 6, 7, 8, 9, 10, 11, 12, 13, 14, 15, 16, 17, 18, 19, 20, 21, 22, 23, 24], [0, 1, 2, 3, 4, 5, 6, 7, 8, 9, 10, 11, 12, 13, 14, 15, 16, 17, 18, 19, 20, 21, 22, 23, 24], [0, 1, 2, 3, 4, 5, 6, 7, 8, 9, 10, 11, 12, 13, 14, 15, 16, 17, 18, 19, 20, 21, 22, 23, 24, 25, 26], [0, 1, 2, 3, 4, 5, 6, 7, 8, 9, 10, 11, 12, 13, 14, 15, 16, 17, 18, 19, 20, 21, 22, 23, 24, 25, 26, 27], [0, 1, 2, 3, 4, 5, 6, 7, 8, 9, 10, 11, 12, 13, 14, 15, 16, 17, 18, 19, 20, 21, 22, 23, 24, 25, 26, 27, 28]], []), (8, [[], [0], [0, 1], [0, 1, 2], [0, 1, 2], [0, 1, 2, 4], [0, 1, 2, 3, 4, 5], [0, 1, 2, 3, 4, 5, 6], [0, 1, 2, 3, 4, 5, 6, 7]], [])],
  [(0, [2, 3, 4], []), (1, [2, 3, 4, 7, 8], [7]), (2, [2, 3, 4, 7, 21], [7]), (3, [6], []), (4, [2, 3, 4, 7, 8, 9, 10], [7, 9, 10]), (5, [2, 3, 4, 7, 60], [7]), (6, [6], []), (7, [2, 3, 7, 8, 11], [7, 11]), (8, [2, 3, 77], []), (9, [6], []), (10, [8, 12], [12]), (11, [6], [])]⟩ 91 (Try.f3.body.getD .skip) = some my3 := by kernel_rfl
theorem does3 {args : List LV} (hl : args.length.ble 91 = true) {S S' : List (List LV)} (hS : S'.length = S.length) {o : Out} (h : Lt ⟨numE 0 args, argS 0 S, []⟩ (awp Try.prog my3 (Fin [(.t 6)] o S'))) : Does Try.prog 3 args S o S' :=
  does_of_awp mixed Try.func3 (by kernel_rfl) (by kernel_rfl) my3_is (by kernel_rfl) (Nat.le_of_ble_eq_true hl) hS h
attribute [go_sem ↓] w3_0 w3_1 w3_2 w3_3 w3_4 w3_5 w3_6 w3_7 w3_8 w3_9 w3_10 w3_11
attribute [go_sem] my3
/-! ### 12: lychgate/lychgatelaw15.Whole -/
def r12_0 : MC := .reg [⟨none, (.boxc 2 (.t 0))⟩, ⟨none, (.boxc 3 (.t 1))⟩, ⟨none, (.mv 4 (.c (.imm true (.bool false))))⟩] none (some ([2, 3], []))
def w12_0 {Q : AEx → St → Prop} {σ : St} := awpR_no (P := Try.prog) (Q := Q) (σ := σ) (m := r12_0) ⟨rfl, rfl⟩
def r12_1 : MC := .reg [⟨none, (.fad 6 (.t 2) 0)⟩, ⟨none, (.load 7 (.t 6) none)⟩, ⟨none, (.fad 8 (.t 3) 0)⟩, ⟨none, (.load 9 (.t 8) none)⟩, ⟨none, (.bin 10 .neq (.t 7) (.t 9))⟩, ⟨none, (.mv 11 (.t 10))⟩, ⟨(some (11, false)), (.fad 12 (.t 2) 5)⟩, ⟨(some (11, false)), (.load 13 (.t 12) none)⟩, ⟨(some (11, false)), (.fad 14 (.t 3) 5)⟩, ⟨(some (11, false)), (.load 15 (.t 14) none)⟩, ⟨(some (11, false)), (.bin 16 .neq (.t 13) (.t 15))⟩, ⟨none, (.pick 17 (.t 11) (.c (.imm true (.bool true))) (.t 16))⟩, ⟨none, (.mv 18 (.t 17))⟩, ⟨(some (18, false)), (.fad 19 (.t 2) 6)⟩, ⟨(some (18, false)), (.load 20 (.t 19) none)⟩, ⟨(some (18, false)), (.fad 21 (.t 3) 6)⟩, ⟨(some (18, false)), (.load 22 (.t 21) none)⟩, ⟨(some (18, false)), (.binb 23 true (.t 20) (.t 22))⟩, ⟨none, (.pick 24 (.t 18) (.c (.imm true (.bool true))) (.t 23))⟩, ⟨none, (.mv 25 (.t 24))⟩, ⟨(some (25, false)), (.fad 26 (.t 2) 7)⟩, ⟨(some (25, false)), (.load 27 (.t 26) none)⟩, ⟨(some (25, false)), (.len 28 (.t 27))⟩, ⟨(some (25, false)), (.fad 29 (.t 3) 7)⟩, ⟨(some (25, false)), (.load 30 (.t 29) none)⟩, ⟨(some (25, false)), (.len 31 (.t 30))⟩, ⟨(some (25, false)), (.bin 32 .neq (.t 28) (.t 31))⟩, ⟨none, (.pick 33 (.t 25) (.c (.imm true (.bool true))) (.t 32))⟩, ⟨none, (.mv 34 (.t 33))⟩, ⟨(some (34, false)), (.fad 35 (.t 2) 1)⟩, ⟨(some (34, false)), (.load 36 (.t 35) (some 2))⟩, ⟨(some (34, false)), (.fad 37 (.t 3) 1)⟩, ⟨(some (34, false)), (.load 38 (.t 37) (some 2))⟩, ⟨(some (34, false)), (.call (some 39) (.c (.fn 45 [])) [(.t 36), (.t 38)])⟩, ⟨(some (34, false)), (.un 40 .not (.t 39))⟩, ⟨none, (.pick 41 (.t 34) (.c (.imm true (.bool true))) (.t 40))⟩, ⟨none, (.mv 42 (.t 41))⟩, ⟨(some (42, false)), (.fad 43 (.t 2) 3)⟩, ⟨(some (42, false)), (.load 44 (.t 43) (some 2))⟩, ⟨(some (42, false)), (.fad 45 (.t 3) 3)⟩, ⟨(some (42, false)), (.load 46 (.t 45) (some 2))⟩, ⟨(some (42, false)), (.call (some 47) (.c (.fn 45 [])) [(.t 44), (.t 46)])⟩, ⟨(some (42, false)), (.un 48 .not (.t 47))⟩, ⟨none, (.pick 49 (.t 42) (.c (.imm true (.bool true))) (.t 48))⟩] none (some ([2, 3, 49], []))
def w12_1 {Q : AEx → St → Prop} {σ : St} := awpR_no (P := Try.prog) (Q := Q) (σ := σ) (m := r12_1) ⟨rfl, rfl⟩
def r12_2 : MC := .reg [⟨none, (.mv 4 (.c (.imm true (.bool false))))⟩] none (some ([4], []))
def w12_2 {Q : AEx → St → Prop} {σ : St} := awpR_no (P := Try.prog) (Q := Q) (σ := σ) (m := r12_2) ⟨rfl, rfl⟩
def r12_3 : MC := .reg [⟨none, (.fad 50 (.t 2) 7)⟩, ⟨none, (.load 51 (.t 50) none)⟩, ⟨none, (.len 52 (.t 51))⟩, ⟨none, (.mv 53 (.c (.imm true (.int .i64 0))))⟩] none (some ([2, 3, 52, 53], []))
def w12_3 {Q : AEx → St → Prop} {σ : St} := awpR_no (P := Try.prog) (Q := Q) (σ := σ) (m := r12_3) ⟨rfl, rfl⟩
def r12_4 : MC := .reg [⟨none, (.bin 54 .lss (.t 53) (.t 52))⟩] none (some ([2, 3, 52, 53, 54], []))
def w12_4 {Q : AEx → St → Prop} {σ : St} := awpR_no (P := Try.prog) (Q := Q) (σ := σ) (m := r12_4) ⟨rfl, rfl⟩
def r12_5 : MC := .reg [⟨none, (.mv 55 (.t 53))⟩, ⟨none, (.mv 5 (.t 55))⟩] none (some ([2, 3, 5, 52, 53], []))
def w12_5 {Q : AEx → St → Prop} {σ : St} := awpR_no (P := Try.prog) (Q := Q) (σ := σ) (m := r12_5) ⟨rfl, rfl⟩
def r12_6 : MC := .reg [⟨none, (.fad 56 (.t 2) 7)⟩, ⟨none, (.load 57 (.t 56) none)⟩, ⟨none, (.mv 58 (.t 5))⟩, ⟨none, (.iad 59 (.t 57) (.t 58) 8)⟩, ⟨none, (.load 60 (.t 59) (some 8))⟩, ⟨none, (.fad 61 (.t 3) 7)⟩, ⟨none, (.load 62 (.t 61) none)⟩, ⟨none, (.mv 63 (.t 5))⟩, ⟨none, (.iad 64 (.t 62) (.t 63) 8)⟩, ⟨none, (.load 65 (.t 64) (some 8))⟩, ⟨none, (.call (some 66) (.c (.fn 12 [])) [(.t 60), (.t 65)])⟩, ⟨none, (.un 67 .not (.t 66))⟩] (some []) (some ([2, 3, 52, 53, 67], []))
def w12_6 {Q : AEx → St → Prop} {σ : St} := awpD_no (P := Try.prog) (Q := Q) (σ := σ) (m := r12_6) ⟨rfl, rfl⟩
def r12_7 : MC := .reg [⟨none, (.mv 4 (.c (.imm true (.bool false))))⟩] none (some ([4], []))
def w12_7 {Q : AEx → St → Prop} {σ : St} := awpR_no (P := Try.prog) (Q := Q) (σ := σ) (m := r12_7) ⟨rfl, rfl⟩
def r12_8 : MC := .reg [⟨none, (.bin 68 .add (.t 53) (.c (.imm true (.int .i64 1))))⟩, ⟨none, (.mv 53 (.t 68))⟩] none (some ([2, 3, 52, 53], []))
def w12_8 {Q : AEx → St → Prop} {σ : St} := awpR_no (P := Try.prog) (Q := Q) (σ := σ) (m := r12_8) ⟨rfl, rfl⟩
def l12_0 : MC := (.seq r12_4 (.seq (.cond (.t 54) .skip (.exit 0)) (.seq (.block 1 (.seq r12_5 (.seq r12_6 (.cond (.t 67) (.seq r12_7 .ret) .skip)))) r12_8)))
def r12_9 : MC := .reg [⟨none, (.mv 4 (.c (.imm true (.bool true))))⟩] none (some ([4], []))
def w12_9 {Q : AEx → St → Prop} {σ : St} := awpR_no (P := Try.prog) (Q := Q) (σ := σ) (m := r12_9) ⟨rfl, rfl⟩
def my12 : MC := (.seq r12_0 (.seq (.seq r12_1 (.cond (.t 49) (.seq r12_2 .ret) .skip)) (.seq (.seq r12_3 (.block 0 (.loop l12_0))) (.seq r12_9 .ret))))
theorem my12_is : trC Try.prog ⟨[2, 3], []⟩ ⟨[(6, [[], [0], [], [0, 1, 2], [0, 1, 2, 3], [], [5], [], [5, 6, 7], [5, 6, 7, 8], [0, 1, 2, 3, 4, 5, 6, 7, 8, 9], [0, 1, 2, 3, 4, 5, 6, 7, 8, 9, 10]], [])],
  [(0, [2, 3], []), (1, [2, 3, 49], []), (2, [4], []), (3, [2, 3, 52, 53], []), (4, [2, 3, 52, 53, 54], []), (5, [2, 3, 5, 52, 53], []), (6, [2, 3, 52, 53, 67], []), (7, [4], []), (8, [2, 3, 52, 53], []), (9, [4], [])]⟩ 69 (Try.f12.body.getD .skip) = some my12 := by kernel_rfl
theorem does12 {args : List LV} (hl : args.length.ble 69 = true) {S S' : List (List LV)} (hS : S'.length = S.length) {o : Out} (h : Lt ⟨numE 0 args, argS 0 S, []⟩ (awp Try.prog my12 (Fin [(.t 4)] o S'))) : Does Try.prog 12 args S o S' :=
  does_of_awp mixed Try.func12 (by kernel_rfl) (by kernel_rfl) my12_is (by kernel_rfl) (Nat.le_of_ble_eq_true hl) hS h
attribute [go_sem ↓] w12_0 w12_1 w12_2 w12_3 w12_4 w12_5 w12_6 w12_7 w12_8 w12_9
attribute [go_sem] my12
/-! ### 45: lychgate/lychgatelaw09.Kind -/
def r45_0 : MC := .reg [⟨none, (.boxc 2 (.t 0))⟩, ⟨none, (.boxc 3 (.t 1))⟩, ⟨none, (.mv 4 (.c (.imm true (.bool false))))⟩] none (some ([2, 3], []))
def w45_0 {Q : AEx → St → Prop} {σ : St} := awpR_no (P := Try.prog) (Q := Q) (σ := σ) (m := r45_0) ⟨rfl, rfl⟩
def r45_1 : MC := .reg [⟨none, (.fad 6 (.t 2) 0)⟩, ⟨none, (.load 7 (.t 6) none)⟩, ⟨none, (.fad 8 (.t 3) 0)⟩, ⟨none, (.load 9 (.t 8) none)⟩, ⟨none, (.bin 10 .neq (.t 7) (.t 9))⟩, ⟨none, (.mv 11 (.t 10))⟩, ⟨(some (11, false)), (.fad 12 (.t 2) 1)⟩, ⟨(some (11, false)), (.load 13 (.t 12) none)⟩, ⟨(some (11, false)), (.len 14 (.t 13))⟩, ⟨(some (11, false)), (.fad 15 (.t 3) 1)⟩, ⟨(some (11, false)), (.load 16 (.t 15) none)⟩, ⟨(some (11, false)), (.len 17 (.t 16))⟩, ⟨(some (11, false)), (.bin 18 .neq (.t 14) (.t 17))⟩, ⟨none, (.pick 19 (.t 11) (.c (.imm true (.bool true))) (.t 18))⟩] none (some ([2, 3, 19], []))
def w45_1 {Q : AEx → St → Prop} {σ : St} := awpR_no (P := Try.prog) (Q := Q) (σ := σ) (m := r45_1) ⟨rfl, rfl⟩
def r45_2 : MC := .reg [⟨none, (.mv 4 (.c (.imm true (.bool false))))⟩] none (some ([4], []))
def w45_2 {Q : AEx → St → Prop} {σ : St} := awpR_no (P := Try.prog) (Q := Q) (σ := σ) (m := r45_2) ⟨rfl, rfl⟩
def r45_3 : MC := .reg [⟨none, (.fad 20 (.t 2) 1)⟩, ⟨none, (.load 21 (.t 20) none)⟩, ⟨none, (.len 22 (.t 21))⟩, ⟨none, (.mv 23 (.c (.imm true (.int .i64 0))))⟩] none (some ([2, 3, 22, 23], []))
def w45_3 {Q : AEx → St → Prop} {σ : St} := awpR_no (P := Try.prog) (Q := Q) (σ := σ) (m := r45_3) ⟨rfl, rfl⟩
def r45_4 : MC := .reg [⟨none, (.bin 24 .lss (.t 23) (.t 22))⟩] none (some ([2, 3, 22, 23, 24], []))
def w45_4 {Q : AEx → St → Prop} {σ : St} := awpR_no (P := Try.prog) (Q := Q) (σ := σ) (m := r45_4) ⟨rfl, rfl⟩
def r45_5 : MC := .reg [⟨none, (.mv 25 (.t 23))⟩, ⟨none, (.mv 5 (.t 25))⟩] none (some ([2, 3, 5, 22, 23], []))
def w45_5 {Q : AEx → St → Prop} {σ : St} := awpR_no (P := Try.prog) (Q := Q) (σ := σ) (m := r45_5) ⟨rfl, rfl⟩
def r45_6 : MC := .reg [⟨none, (.fad 26 (.t 2) 1)⟩, ⟨none, (.load 27 (.t 26) none)⟩, ⟨none, (.mv 28 (.t 5))⟩, ⟨none, (.iad 29 (.t 27) (.t 28) 2)⟩, ⟨none, (.load 30 (.t 29) (some 2))⟩, ⟨none, (.fad 31 (.t 3) 1)⟩, ⟨none, (.load 32 (.t 31) none)⟩, ⟨none, (.mv 33 (.t 5))⟩, ⟨none, (.iad 34 (.t 32) (.t 33) 2)⟩, ⟨none, (.load 35 (.t 34) (some 2))⟩, ⟨none, (.call (some 36) (.c (.fn 45 [])) [(.t 30), (.t 35)])⟩, ⟨none, (.un 37 .not (.t 36))⟩] (some []) (some ([2, 3, 22, 23, 37], []))
def w45_6 {Q : AEx → St → Prop} {σ : St} := awpD_no (P := Try.prog) (Q := Q) (σ := σ) (m := r45_6) ⟨rfl, rfl⟩
def r45_7 : MC := .reg [⟨none, (.mv 4 (.c (.imm true (.bool false))))⟩] none (some ([4], []))
def w45_7 {Q : AEx → St → Prop} {σ : St} := awpR_no (P := Try.prog) (Q := Q) (σ := σ) (m := r45_7) ⟨rfl, rfl⟩
def r45_8 : MC := .reg [⟨none, (.bin 38 .add (.t 23) (.c (.imm true (.int .i64 1))))⟩, ⟨none, (.mv 23 (.t 38))⟩] none (some ([2, 3, 22, 23], []))
def w45_8 {Q : AEx → St → Prop} {σ : St} := awpR_no (P := Try.prog) (Q := Q) (σ := σ) (m := r45_8) ⟨rfl, rfl⟩
def l45_0 : MC := (.seq r45_4 (.seq (.cond (.t 24) .skip (.exit 0)) (.seq (.block 1 (.seq r45_5 (.seq r45_6 (.cond (.t 37) (.seq r45_7 .ret) .skip)))) r45_8)))
def r45_9 : MC := .reg [⟨none, (.mv 4 (.c (.imm true (.bool true))))⟩] none (some ([4], []))
def w45_9 {Q : AEx → St → Prop} {σ : St} := awpR_no (P := Try.prog) (Q := Q) (σ := σ) (m := r45_9) ⟨rfl, rfl⟩
def my45 : MC := (.seq r45_0 (.seq (.seq r45_1 (.cond (.t 19) (.seq r45_2 .ret) .skip)) (.seq (.seq r45_3 (.block 0 (.loop l45_0))) (.seq r45_9 .ret))))
theorem my45_is : trC Try.prog ⟨[2, 3], []⟩ ⟨[(6, [[], [0], [], [0, 1, 2], [0, 1, 2, 3], [], [5], [], [5, 6, 7], [5, 6, 7, 8], [0, 1, 2, 3, 4, 5, 6, 7, 8, 9], [0, 1, 2, 3, 4, 5, 6, 7, 8, 9, 10]], [])],
  [(0, [2, 3], []), (1, [2, 3, 19], []), (2, [4], []), (3, [2, 3, 22, 23], []), (4, [2, 3, 22, 23, 24], []), (5, [2, 3, 5, 22, 23], []), (6, [2, 3, 22, 23, 37], []), (7, [4], []), (8, [2, 3, 22, 23], []), (9, [4], [])]⟩ 39 (Try.f45.body.getD .skip) = some my45 := by kernel_rfl
theorem does45 {args : List LV} (hl : args.length.ble 39 = true) {S S' : List (List LV)} (hS : S'.length = S.length) {o : Out} (h : Lt ⟨numE 0 args, argS 0 S, []⟩ (awp Try.prog my45 (Fin [(.t 4)] o S'))) : Does Try.prog 45 args S o S' :=
  does_of_awp mixed Try.func45 (by kernel_rfl) (by kernel_rfl) my45_is (by kernel_rfl) (Nat.le_of_ble_eq_true hl) hS h
attribute [go_sem ↓] w45_0 w45_1 w45_2 w45_3 w45_4 w45_5 w45_6 w45_7 w45_8 w45_9
attribute [go_sem] my45
/-! ### 16: lychgate/lychgatelaw15.high -/
def r16_0 : MC := .reg [⟨none, (.boxc 1 (.t 0))⟩, ⟨none, (.mv 2 (.c (.imm true (.int .i64 0))))⟩] none (some ([1], []))
def w16_0 {Q : AEx → St → Prop} {σ : St} := awpR_no (P := Try.prog) (Q := Q) (σ := σ) (m := r16_0) ⟨rfl, rfl⟩
def r16_1 : MC := .reg [⟨none, (.mv 3 (.c (.imm true (.int .i64 0))))⟩] none (some ([1, 3], []))
def w16_1 {Q : AEx → St → Prop} {σ : St} := awpR_no (P := Try.prog) (Q := Q) (σ := σ) (m := r16_1) ⟨rfl, rfl⟩
def r16_2 : MC := .reg [⟨none, (.fad 6 (.t 1) 1)⟩, ⟨none, (.load 7 (.t 6) none)⟩, ⟨none, (.len 8 (.t 7))⟩, ⟨none, (.mv 9 (.c (.imm true (.int .i64 0))))⟩] none (some ([3, 7, 8, 9], []))
def w16_2 {Q : AEx → St → Prop} {σ : St} := awpR_no (P := Try.prog) (Q := Q) (σ := σ) (m := r16_2) ⟨rfl, rfl⟩
def r16_3 : MC := .reg [⟨none, (.bin 10 .lss (.t 9) (.t 8))⟩] none (some ([3, 7, 8, 9, 10], []))
def w16_3 {Q : AEx → St → Prop} {σ : St} := awpR_no (P := Try.prog) (Q := Q) (σ := σ) (m := r16_3) ⟨rfl, rfl⟩
def r16_4 : MC := .reg [⟨none, (.iad 11 (.t 7) (.t 9) 2)⟩, ⟨none, (.load 12 (.t 11) (some 2))⟩, ⟨none, (.alloc 5 [(.imm true (.int .i8 0)), .nils])⟩, ⟨none, (.store (.t 5) (.t 12) 2)⟩] none (some ([3, 5, 7, 8, 9], [5]))
def w16_4 {Q : AEx → St → Prop} {σ : St} := awpR_get (P := Try.prog) (Q := Q) (σ := σ) (m := r16_4) (D := [5]) ⟨rfl, rfl⟩
def r16_5 : MC := .reg [⟨none, (.mv 13 (.t 3))⟩, ⟨none, (.load 14 (.t 5) (some 2))⟩, ⟨none, (.call (some 15) (.c (.fn 16 [])) [(.t 14)])⟩, ⟨none, (.mx 16 [(.t 13), (.t 15)])⟩, ⟨none, (.mv 3 (.t 16))⟩] none (some ([3, 7, 8, 9], []))
def w16_5 {Q : AEx → St → Prop} {σ : St} := awpR_no (P := Try.prog) (Q := Q) (σ := σ) (m := r16_5) ⟨rfl, rfl⟩
def r16_6 : MC := .reg [⟨none, (.bin 17 .add (.t 9) (.c (.imm true (.int .i64 1))))⟩, ⟨none, (.mv 9 (.t 17))⟩] none (some ([3, 7, 8, 9], []))
def w16_6 {Q : AEx → St → Prop} {σ : St} := awpR_no (P := Try.prog) (Q := Q) (σ := σ) (m := r16_6) ⟨rfl, rfl⟩
def l16_0 : MC := (.seq r16_3 (.seq (.cond (.t 10) .skip (.exit 0)) (.seq (.block 1 (.seq r16_4 r16_5)) r16_6)))
def r16_7 : MC := .reg [⟨none, (.mv 18 (.t 3))⟩, ⟨none, (.bin 19 .add (.t 18) (.c (.imm true (.int .i64 1))))⟩, ⟨none, (.mv 2 (.t 19))⟩] none (some ([2], []))
def w16_7 {Q : AEx → St → Prop} {σ : St} := awpR_no (P := Try.prog) (Q := Q) (σ := σ) (m := r16_7) ⟨rfl, rfl⟩
def my16 : MC := (.seq r16_0 (.seq r16_1 (.seq (.seq r16_2 (.block 0 (.loop l16_0))) (.seq r16_7 .ret))))
theorem my16_is : trC Try.prog ⟨[1], []⟩ ⟨[],
  [(0, [1], []), (1, [1, 3], []), (2, [3, 7, 8, 9], []), (3, [3, 7, 8, 9, 10], []), (4, [3, 5, 7, 8, 9], [5]), (5, [3, 7, 8, 9], []), (6, [3, 7, 8, 9], []), (7, [2], [])]⟩ 20 (Try.f16.body.getD .skip) = some my16 := by kernel_rfl
theorem does16 {args : List LV} (hl : args.length.ble 20 = true) {S S' : List (List LV)} (hS : S'.length = S.length) {o : Out} (h : Lt ⟨numE 0 args, argS 0 S, []⟩ (awp Try.prog my16 (Fin [(.t 2)] o S'))) : Does Try.prog 16 args S o S' :=
  does_of_awp mixed Try.func16 (by kernel_rfl) (by kernel_rfl) my16_is (by kernel_rfl) (Nat.le_of_ble_eq_true hl) hS h
attribute [go_sem ↓] w16_0 w16_1 w16_2 w16_3 w16_4 w16_5 w16_6 w16_7
attribute [go_sem] my16
/-! ### 18: lychgate/lychgatelaw15.sides -/
def r18_0 : MC := .reg [⟨none, (.box 1 (.t 0))⟩, ⟨none, (.alloc 2 [(.imm true (.int .i8 0)), (.imm true (.int .i8 0)), .nils, (.imm true (.int .i8 0)), .nils, (.imm true (.int .i64 0)), (.imm true (.bool false)), .nils])⟩] none (some ([1, 2], [1, 2, 29]))
def w18_0 {Q : AEx → St → Prop} {σ : St} := awpR_get (P := Try.prog) (Q := Q) (σ := σ) (m := r18_0) (D := [1, 2]) ⟨rfl, rfl⟩
def r18_1 : MC := .reg [⟨none, (.fad 6 (.t 1) 0)⟩, ⟨none, (.load 7 (.t 6) none)⟩, ⟨none, (.bin 8 .eql (.t 7) (.c (.imm true (.int .i8 3))))⟩, ⟨none, (.mv 9 (.t 8))⟩, ⟨(some (9, false)), (.fad 10 (.t 1) 0)⟩, ⟨(some (9, false)), (.load 11 (.t 10) none)⟩, ⟨(some (9, false)), (.bin 12 .eql (.t 11) (.c (.imm true (.int .i8 1))))⟩, ⟨none, (.pick 13 (.t 9) (.c (.imm true (.bool true))) (.t 12))⟩] none (some ([1, 2, 13], [1, 2, 29]))
def w18_1 {Q : AEx → St → Prop} {σ : St} := awpR_no (P := Try.prog) (Q := Q) (σ := σ) (m := r18_1) ⟨rfl, rfl⟩
def r18_2 : MC := .reg [⟨none, (.fad 14 (.t 1) 6)⟩, ⟨none, (.load 15 (.t 14) none)⟩, ⟨none, (.un 16 .not (.t 15))⟩, ⟨none, (.fad 17 (.t 1) 6)⟩, ⟨none, (.store (.t 17) (.t 16) 1)⟩] none (some ([1, 2], [1, 2, 29]))
def w18_2 {Q : AEx → St → Prop} {σ : St} := awpR_no (P := Try.prog) (Q := Q) (σ := σ) (m := r18_2) ⟨rfl, rfl⟩
def r18_3 : MC := .reg [⟨none, (.mv 3 (.c .nils))⟩] none (some ([1, 2, 3], [1, 2, 29]))
def w18_3 {Q : AEx → St → Prop} {σ : St} := awpR_no (P := Try.prog) (Q := Q) (σ := σ) (m := r18_3) ⟨rfl, rfl⟩
def r18_4 : MC := .reg [⟨none, (.fad 18 (.t 1) 7)⟩, ⟨none, (.load 19 (.t 18) none)⟩, ⟨none, (.len 20 (.t 19))⟩, ⟨none, (.mv 21 (.c (.imm true (.int .i64 0))))⟩] none (some ([1, 2, 3, 19, 20, 21], [1, 2, 29]))
def w18_4 {Q : AEx → St → Prop} {σ : St} := awpR_no (P := Try.prog) (Q := Q) (σ := σ) (m := r18_4) ⟨rfl, rfl⟩
def r18_5 : MC := .reg [⟨none, (.bin 22 .lss (.t 21) (.t 20))⟩] none (some ([1, 2, 3, 19, 20, 21, 22], [1, 2, 29]))
def w18_5 {Q : AEx → St → Prop} {σ : St} := awpR_no (P := Try.prog) (Q := Q) (σ := σ) (m := r18_5) ⟨rfl, rfl⟩
def r18_6 : MC := .reg [⟨none, (.iad 23 (.t 19) (.t 21) 8)⟩, ⟨none, (.load 24 (.t 23) (some 8))⟩, ⟨none, (.alloc 5 [(.imm true (.int .i8 0)), (.imm true (.int .i8 0)), .nils, (.imm true (.int .i8 0)), .nils, (.imm true (.int .i64 0)), (.imm true (.bool false)), .nils])⟩, ⟨none, (.store (.t 5) (.t 24) 8)⟩] none (some ([1, 2, 3, 5, 19, 20, 21], [1, 2, 5, 29]))
def w18_6 {Q : AEx → St → Prop} {σ : St} := awpR_get (P := Try.prog) (Q := Q) (σ := σ) (m := r18_6) (D := [5]) ⟨rfl, rfl⟩
def r18_7 : MC := .reg [⟨none, (.mv 25 (.t 3))⟩, ⟨none, (.load 26 (.t 5) (some 8))⟩, ⟨none, (.call (some 27) (.c (.fn 18 [])) [(.t 26)])⟩, ⟨none, (.lit 28 8 [(.t 27)])⟩, ⟨none, (.append 29 (.t 25) (.t 28) 28 8 112)⟩, ⟨none, (.mv 3 (.t 29))⟩] none (some ([1, 2, 3, 19, 20, 21], [1, 2, 29]))
def w18_7 {Q : AEx → St → Prop} {σ : St} := awpR_get (P := Try.prog) (Q := Q) (σ := σ) (m := r18_7) (D := [29]) ⟨rfl, rfl⟩
def r18_8 : MC := .reg [⟨none, (.bin 30 .add (.t 21) (.c (.imm true (.int .i64 1))))⟩, ⟨none, (.mv 21 (.t 30))⟩] none (some ([1, 2, 3, 19, 20, 21], [1, 2, 29]))
def w18_8 {Q : AEx → St → Prop} {σ : St} := awpR_no (P := Try.prog) (Q := Q) (σ := σ) (m := r18_8) ⟨rfl, rfl⟩
def l18_0 : MC := (.seq r18_5 (.seq (.cond (.t 22) .skip (.exit 0)) (.seq (.block 1 (.seq r18_6 r18_7)) r18_8)))
def r18_9 : MC := .reg [⟨none, (.mv 31 (.t 3))⟩, ⟨none, (.fad 32 (.t 1) 7)⟩, ⟨none, (.store (.t 32) (.t 31) 1)⟩] none (some ([1, 2], [1, 2, 29]))
def w18_9 {Q : AEx → St → Prop} {σ : St} := awpR_no (P := Try.prog) (Q := Q) (σ := σ) (m := r18_9) ⟨rfl, rfl⟩
def r18_10 : MC := .reg [⟨none, (.load 33 (.t 1) (some 8))⟩, ⟨none, (.store (.t 2) (.t 33) 8)⟩] none (some ([2], [2, 29]))
def w18_10 {Q : AEx → St → Prop} {σ : St} := awpR_no (P := Try.prog) (Q := Q) (σ := σ) (m := r18_10) ⟨rfl, rfl⟩
def my18 : MC := (.seq r18_0 (.seq (.seq r18_1 (.cond (.t 13) r18_2 .skip)) (.seq r18_3 (.seq (.seq r18_4 (.block 0 (.loop l18_0))) (.seq r18_9 (.seq r18_10 .ret))))))
theorem my18_is : trC Try.prog ⟨[], []⟩ ⟨[],
  [(0, [1, 2], [1, 2, 29]), (1, [1, 2, 13], [1, 2, 29]), (2, [1, 2], [1, 2, 29]), (3, [1, 2, 3], [1, 2, 29]), (4, [1, 2, 3, 19, 20, 21], [1, 2, 29]), (5, [1, 2, 3, 19, 20, 21, 22], [1, 2, 29]), (6, [1, 2, 3, 5, 19, 20, 21], [1, 2, 5, 29]), (7, [1, 2, 3, 19, 20, 21], [1, 2, 29]), (8, [1, 2, 3, 19, 20, 21], [1, 2, 29]), (9, [1, 2], [1, 2, 29]), (10, [2], [2, 29])]⟩ 34 (Try.f18.body.getD .skip) = some my18 := by kernel_rfl
theorem does18 {args : List LV} (hl : args.length.ble 34 = true) {S S' : List (List LV)} (hS : S'.length = S.length) {o : Out} (h : Lt ⟨numE 0 args, argS 0 S, []⟩ (awp Try.prog my18 (Fin [(.c 2 (some 8))] o S'))) : Does Try.prog 18 args S o S' :=
  does_of_awp mixed Try.func18 (by kernel_rfl) (by kernel_rfl) my18_is (by kernel_rfl) (Nat.le_of_ble_eq_true hl) hS h
attribute [go_sem ↓] w18_0 w18_1 w18_2 w18_3 w18_4 w18_5 w18_6 w18_7 w18_8 w18_9 w18_10
attribute [go_sem] my18
/-! ### 19: lychgate/lychgatelaw15.straight -/
def r19_0 : MC := .reg [⟨none, (.boxc 1 (.t 0))⟩, ⟨none, (.mv 2 (.c (.imm true (.bool false))))⟩] none (some ([1], []))
def w19_0 {Q : AEx → St → Prop} {σ : St} := awpR_no (P := Try.prog) (Q := Q) (σ := σ) (m := r19_0) ⟨rfl, rfl⟩
def r19_1 : MC := .reg [⟨none, (.fad 5 (.t 1) 0)⟩, ⟨none, (.load 6 (.t 5) none)⟩, ⟨none, (.bin 7 .eql (.t 6) (.c (.imm true (.int .i8 2))))⟩, ⟨none, (.mv 8 (.t 7))⟩, ⟨(some (8, false)), (.fad 9 (.t 1) 0)⟩, ⟨(some (8, false)), (.load 10 (.t 9) none)⟩, ⟨(some (8, false)), (.bin 11 .eql (.t 10) (.c (.imm true (.int .i8 3))))⟩, ⟨none, (.pick 12 (.t 8) (.c (.imm true (.bool true))) (.t 11))⟩, ⟨none, (.mv 13 (.t 12))⟩, ⟨(some (13, false)), (.fad 14 (.t 1) 0)⟩, ⟨(some (13, false)), (.load 15 (.t 14) none)⟩, ⟨(some (13, false)), (.bin 16 .eql (.t 15) (.c (.imm true (.int .i8 1))))⟩, ⟨none, (.pick 17 (.t 13) (.c (.imm true (.bool true))) (.t 16))⟩] none (some ([1, 17], []))
def w19_1 {Q : AEx → St → Prop} {σ : St} := awpR_no (P := Try.prog) (Q := Q) (σ := σ) (m := r19_1) ⟨rfl, rfl⟩
def r19_2 : MC := .reg [⟨none, (.mv 2 (.c (.imm true (.bool false))))⟩] none (some ([2], []))
def w19_2 {Q : AEx → St → Prop} {σ : St} := awpR_no (P := Try.prog) (Q := Q) (σ := σ) (m := r19_2) ⟨rfl, rfl⟩
def r19_3 : MC := .reg [⟨none, (.fad 18 (.t 1) 7)⟩, ⟨none, (.load 19 (.t 18) none)⟩, ⟨none, (.len 20 (.t 19))⟩, ⟨none, (.mv 21 (.c (.imm true (.int .i64 0))))⟩] none (some ([19, 20, 21], []))
def w19_3 {Q : AEx → St → Prop} {σ : St} := awpR_no (P := Try.prog) (Q := Q) (σ := σ) (m := r19_3) ⟨rfl, rfl⟩
def r19_4 : MC := .reg [⟨none, (.bin 22 .lss (.t 21) (.t 20))⟩] none (some ([19, 20, 21, 22], []))
def w19_4 {Q : AEx → St → Prop} {σ : St} := awpR_no (P := Try.prog) (Q := Q) (σ := σ) (m := r19_4) ⟨rfl, rfl⟩
def r19_5 : MC := .reg [⟨none, (.iad 23 (.t 19) (.t 21) 8)⟩, ⟨none, (.load 24 (.t 23) (some 8))⟩, ⟨none, (.alloc 4 [(.imm true (.int .i8 0)), (.imm true (.int .i8 0)), .nils, (.imm true (.int .i8 0)), .nils, (.imm true (.int .i64 0)), (.imm true (.bool false)), .nils])⟩, ⟨none, (.store (.t 4) (.t 24) 8)⟩] none (some ([4, 19, 20, 21], [4]))
def w19_5 {Q : AEx → St → Prop} {σ : St} := awpR_get (P := Try.prog) (Q := Q) (σ := σ) (m := r19_5) (D := [4]) ⟨rfl, rfl⟩
def r19_6 : MC := .reg [⟨none, (.load 25 (.t 4) (some 8))⟩, ⟨none, (.call (some 26) (.c (.fn 19 [])) [(.t 25)])⟩, ⟨none, (.un 27 .not (.t 26))⟩] none (some ([19, 20, 21, 27], []))
def w19_6 {Q : AEx → St → Prop} {σ : St} := awpR_no (P := Try.prog) (Q := Q) (σ := σ) (m := r19_6) ⟨rfl, rfl⟩
def r19_7 : MC := .reg [⟨none, (.mv 2 (.c (.imm true (.bool false))))⟩] none (some ([2], []))
def w19_7 {Q : AEx → St → Prop} {σ : St} := awpR_no (P := Try.prog) (Q := Q) (σ := σ) (m := r19_7) ⟨rfl, rfl⟩
def r19_8 : MC := .reg [⟨none, (.bin 28 .add (.t 21) (.c (.imm true (.int .i64 1))))⟩, ⟨none, (.mv 21 (.t 28))⟩] none (some ([19, 20, 21], []))
def w19_8 {Q : AEx → St → Prop} {σ : St} := awpR_no (P := Try.prog) (Q := Q) (σ := σ) (m := r19_8) ⟨rfl, rfl⟩
def l19_0 : MC := (.seq r19_4 (.seq (.cond (.t 22) .skip (.exit 0)) (.seq (.block 1 (.seq r19_5 (.seq r19_6 (.cond (.t 27) (.seq r19_7 .ret) .skip)))) r19_8)))
def r19_9 : MC := .reg [⟨none, (.mv 2 (.c (.imm true (.bool true))))⟩] none (some ([2], []))
def w19_9 {Q : AEx → St → Prop} {σ : St} := awpR_no (P := Try.prog) (Q := Q) (σ := σ) (m := r19_9) ⟨rfl, rfl⟩
def my19 : MC := (.seq r19_0 (.seq (.seq r19_1 (.cond (.t 17) (.seq r19_2 .ret) .skip)) (.seq (.seq r19_3 (.block 0 (.loop l19_0))) (.seq r19_9 .ret))))
theorem my19_is : trC Try.prog ⟨[1], []⟩ ⟨[],
  [(0, [1], []), (1, [1, 17], []), (2, [2], []), (3, [19, 20, 21], []), (4, [19, 20, 21, 22], []), (5, [4, 19, 20, 21], [4]), (6, [19, 20, 21, 27], []), (7, [2], []), (8, [19, 20, 21], []), (9, [2], [])]⟩ 29 (Try.f19.body.getD .skip) = some my19 := by kernel_rfl
theorem does19 {args : List LV} (hl : args.length.ble 29 = true) {S S' : List (List LV)} (hS : S'.length = S.length) {o : Out} (h : Lt ⟨numE 0 args, argS 0 S, []⟩ (awp Try.prog my19 (Fin [(.t 2)] o S'))) : Does Try.prog 19 args S o S' :=
  does_of_awp mixed Try.func19 (by kernel_rfl) (by kernel_rfl) my19_is (by kernel_rfl) (Nat.le_of_ble_eq_true hl) hS h
attribute [go_sem ↓] w19_0 w19_1 w19_2 w19_3 w19_4 w19_5 w19_6 w19_7 w19_8 w19_9
attribute [go_sem] my19
end Go.Proofs.Ytopgmopdjiahmaa.Lg

/- Coercions: heights, sizes. Conditions: none; plain definitions and lemmas. -/
set_option linter.unusedVariables false
set_option linter.unusedSimpArgs false
set_option maxRecDepth 100000
set_option maxHeartbeats 1000000
namespace Go.Proofs.Ytopgmopdjiahmaa.Lg
open Go Go.RowKit Go.Proofs

mutual
def Ty.high : Ty → Int
  | .mk _ ts => Ty.highL ts 0 + 1
def Ty.highL : List Ty → Int → Int
  | [], d => d
  | t :: r, d => Ty.highL r (maxI d t.high)
end
mutual
theorem Ty.high_pos : ∀ t : Ty, 1 ≤ t.high
  | .mk _ ts => by
    simp only [Ty.high]
    have := Ty.highL_ge ts 0
    omega
theorem Ty.highL_ge : ∀ (ts : List Ty) (d : Int), d ≤ Ty.highL ts d
  | [], d => by simp [Ty.highL]
  | t :: r, d => by
    simp only [Ty.highL]
    have := Ty.highL_ge r (maxI d t.high)
    have := (le_maxI (a := d) (b := t.high)).1
    omega
end
theorem Ty.highL_mono : ∀ (ts : List Ty) (d e : Int), d ≤ e → Ty.highL ts d ≤ Ty.highL ts e
  | [], d, e, h => by simpa [Ty.highL] using h
  | t :: r, d, e, h => by
    simp only [Ty.highL]
    exact Ty.highL_mono r _ _ (by unfold maxI; split <;> split <;> omega)
theorem Ty.highL_mem : ∀ {ts : List Ty} (d : Int), ∀ t ∈ ts, t.high ≤ Ty.highL ts d
  | a :: r, d, t, ht => by
    simp only [Ty.highL]
    rcases List.mem_cons.1 ht with rfl | ht
    · have := Ty.highL_ge r (maxI d t.high)
      have := (le_maxI (a := d) (b := t.high)).2
      omega
    · exact Ty.highL_mem _ t ht
mutual
theorem Ty.deep_min : ∀ (t : Ty) (n : Int), 1 ≤ n → t.deep n = minI n t.high
  | .mk k ts, n, h => by
    simp only [Ty.deep, Ty.high]
    have h0 := Ty.highL_ge ts 0
    split
    · unfold minI; split <;> omega
    · have := Ty.deepL_min ts (n - 1) 0 (by omega) (by omega)
      have e : minI (n - 1) 0 = 0 := by unfold minI; split <;> omega
      rw [e] at this
      rw [this]
      unfold minI; split <;> split <;> omega
theorem Ty.deepL_min : ∀ (ts : List Ty) (n d : Int), 1 ≤ n → 0 ≤ d → Ty.deepL ts n (minI n d) = minI n (Ty.highL ts d)
  | [], n, d, h, h' => rfl
  | t :: r, n, d, h, h' => by
    simp only [Ty.deepL, Ty.highL]
    have ht := Ty.high_pos t
    rw [Ty.deep_min t n h]
    have e : (if minI n t.high > minI n d then minI n t.high else minI n d) = minI n (maxI d t.high) := by
      unfold minI maxI; (repeat' split) <;> omega
    rw [e]
    exact Ty.deepL_min r n _ h (by unfold maxI; split <;> omega)
end
theorem high_of_check {t : Ty} (h : t.check = 0) : t.high ≤ 200 := by
  obtain ⟨h1, h2, _⟩ := check_zero h
  unfold Ty.depth at h2
  rw [if_pos h1, Ty.deep_min t 201 (by omega)] at h2
  unfold minI at h2
  split at h2 <;> omega

/-- by pointer, into a greater value -/
theorem high_does : ∀ t : Ty, t.fits → t.high ≤ 1000000 → ∀ (cs : List IV) (off : Nat), cs[off + 1]? = some (.slice (Ty.cellsL t.ts)) → Does Try.prog 81 [.imm false (.ptr cs off)] [] (.ret true (.int .i64 t.high)) [] := by
  refine Ty.ind fun k ts ih hf hh cs off hcs => ?_
  have hfl : ts.length ≤ 9223372036854775807 := hf.1
  simp only [Ty.ts] at hcs
  have hhl : Ty.highL ts 0 ≤ 999999 := by simp only [Ty.high] at hh; omega
  refine does81 (by rfl) (by rfl) ?_
  (try simp (implicitDefEqProofs := false) (maxSteps := 2000000) only [go_sem, ↓reduceIte, Nat.reduceEqDiff, reduceCtorEq, Nat.reduceAdd, Nat.reduceSub, Nat.reduceLeDiff, Nat.reduceLT, Nat.reduceMul, Int.reduceToNat, Int.reduceLT, Int.reduceLE, hcs, Ty.cellsL_len])
  refine ⟨fun q σ => ∃ j d, j ≤ ts.length ∧ q = ts.length - j ∧ 0 ≤ d ∧ Ty.highL ts 0 = Ty.highL (ts.drop j) d ∧ σ = ⟨[(0, .imm false (.ptr cs off)), (3, .imm true (.int .i64 d)), (9, .imm true (.int .i64 ts.length)), (10, .imm true (.int .i64 j))], [], []⟩, ⟨_, 0, 0, by omega, rfl, by omega, rfl, rfl⟩, ?_⟩
  rintro q σ ⟨j, d, hj, rfl, hd0, hs, rfl⟩
  unfold l81_0
  (try simp (implicitDefEqProofs := false) (maxSteps := 2000000) only [go_sem, ↓reduceIte, Nat.reduceEqDiff, reduceCtorEq, Nat.reduceAdd, Nat.reduceSub, Nat.reduceLeDiff, Nat.reduceLT, Nat.reduceMul, Int.reduceToNat, Int.reduceLT, Int.reduceLE, CondOn_imm])
  have hdl : d ≤ 999999 := by have := Ty.highL_ge (ts.drop j) d; omega
  refine ⟨fun hlt => ?_, fun hlt => ?_⟩
  · have hlt : j < ts.length := by simpa using hlt
    obtain ⟨k', ts', hm, hat, hdr, _⟩ := Ty.kid hlt
    rw [hdr, Ty.highL] at hs
    have hkid := Ty.highL_mem (ts := ts) 0 _ hm
    (try simp (implicitDefEqProofs := false) (maxSteps := 2000000) only [go_sem, ↓reduceIte, Nat.reduceEqDiff, reduceCtorEq, Nat.reduceAdd, Nat.reduceSub, Nat.reduceLeDiff, Nat.reduceLT, Nat.reduceMul, Int.reduceToNat, Int.reduceLT, Int.reduceLE, hcs, hat, Int.toNat_natCast, Int.natCast_nonneg])
    refine CallK_do (ih _ hm (Ty.fitsL_mem (by simpa [Ty.fits] using hf.2) _ hm) (by omega) _ 0 (by simp [Ty.ts])) ?_
    (try simp (implicitDefEqProofs := false) (maxSteps := 2000000) only [go_sem, ↓reduceIte, Nat.reduceEqDiff, reduceCtorEq, Nat.reduceAdd, Nat.reduceSub, Nat.reduceLeDiff, Nat.reduceLT, Nat.reduceMul, Int.reduceToNat, Int.reduceLT, Int.reduceLE, wrap64 (n := (j : Int) + 1) (by omega) (by omega)])
    exact ⟨_, by omega, j + 1, maxI d (Ty.mk k' ts').high, by omega, rfl, by have := le_maxI (a := d) (b := (Ty.mk k' ts').high); omega, hs, rfl⟩
  · have hge : j = ts.length := by have : ¬ j < ts.length := by simpa using hlt
                                   omega
    subst hge
    simp only [List.drop_length, Ty.highL] at hs
    (try simp (implicitDefEqProofs := false) (maxSteps := 2000000) only [go_sem, ↓reduceIte, Nat.reduceEqDiff, reduceCtorEq, Nat.reduceAdd, Nat.reduceSub, Nat.reduceLeDiff, Nat.reduceLT, Nat.reduceMul, Int.reduceToNat, Int.reduceLT, Int.reduceLE, wrap64 (n := d + 1) (by omega) (by omega), Ty.high, hs])

theorem lhigh_does : ∀ t : Ty, t.fits → t.high ≤ 1000000 → Does Try.prog 16 [.imm false (.agg t.cells)] [] (.ret true (.int .i64 t.high)) [] := by
  refine Ty.ind fun k ts ih hf hh => ?_
  have hfl : ts.length ≤ 9223372036854775807 := hf.1
  have hhl : Ty.highL ts 0 ≤ 999999 := by simp only [Ty.high] at hh; omega
  refine does16 (by rfl) (by rfl) ?_
  (try simp (implicitDefEqProofs := false) (maxSteps := 2000000) only [go_sem, ↓reduceIte, Nat.reduceEqDiff, reduceCtorEq, Nat.reduceAdd, Nat.reduceSub, Nat.reduceLeDiff, Nat.reduceLT, Nat.reduceMul, Int.reduceToNat, Int.reduceLT, Int.reduceLE, Ty.cells, Ty.cellsL_len])
  refine ⟨fun q σ => ∃ j d, j ≤ ts.length ∧ q = ts.length - j ∧ 0 ≤ d ∧ Ty.highL ts 0 = Ty.highL (ts.drop j) d ∧ σ = ⟨[(3, .imm true (.int .i64 d)), (7, .imm false (.slice (Ty.cellsL ts))), (8, .imm true (.int .i64 ts.length)), (9, .imm true (.int .i64 j))], [], []⟩, ⟨_, 0, 0, by omega, rfl, by omega, rfl, rfl⟩, ?_⟩
  rintro q σ ⟨j, d, hj, rfl, hd0, hs, rfl⟩
  unfold l16_0
  (try simp (implicitDefEqProofs := false) (maxSteps := 2000000) only [go_sem, ↓reduceIte, Nat.reduceEqDiff, reduceCtorEq, Nat.reduceAdd, Nat.reduceSub, Nat.reduceLeDiff, Nat.reduceLT, Nat.reduceMul, Int.reduceToNat, Int.reduceLT, Int.reduceLE, CondOn_imm])
  have hdl : d ≤ 999999 := by have := Ty.highL_ge (ts.drop j) d; omega
  refine ⟨fun hlt => ?_, fun hlt => ?_⟩
  · have hlt : j < ts.length := by simpa using hlt
    obtain ⟨k', ts', hm, hat, hdr, _⟩ := Ty.kid hlt
    rw [hdr, Ty.highL] at hs
    have hkid := Ty.highL_mem (ts := ts) 0 _ hm
    (try simp (implicitDefEqProofs := false) (maxSteps := 2000000) only [go_sem, ↓reduceIte, Nat.reduceEqDiff, reduceCtorEq, Nat.reduceAdd, Nat.reduceSub, Nat.reduceLeDiff, Nat.reduceLT, Nat.reduceMul, Int.reduceToNat, Int.reduceLT, Int.reduceLE, hat, Int.toNat_natCast, Int.natCast_nonneg])
    refine CallK_do (ih _ hm (Ty.fitsL_mem (by simpa [Ty.fits] using hf.2) _ hm) (by omega)) ?_
    (try simp (implicitDefEqProofs := false) (maxSteps := 2000000) only [go_sem, ↓reduceIte, Nat.reduceEqDiff, reduceCtorEq, Nat.reduceAdd, Nat.reduceSub, Nat.reduceLeDiff, Nat.reduceLT, Nat.reduceMul, Int.reduceToNat, Int.reduceLT, Int.reduceLE, wrap64 (n := (j : Int) + 1) (by omega) (by omega)])
    exact ⟨_, by omega, j + 1, maxI d (Ty.mk k' ts').high, by omega, rfl, by have := le_maxI (a := d) (b := (Ty.mk k' ts').high); omega, hs, rfl⟩
  · have hge : j = ts.length := by have : ¬ j < ts.length := by simpa using hlt
                                   omega
    subst hge
    simp only [List.drop_length, Ty.highL] at hs
    (try simp (implicitDefEqProofs := false) (maxSteps := 2000000) only [go_sem, ↓reduceIte, Nat.reduceEqDiff, reduceCtorEq, Nat.reduceAdd, Nat.reduceSub, Nat.reduceLeDiff, Nat.reduceLT, Nat.reduceMul, Int.reduceToNat, Int.reduceLT, Int.reduceLE, wrap64 (n := d + 1) (by omega) (by omega), Ty.high, hs])

/-! ### a coercion that is one: its shape -/
theorem ends_shape {k : Int} {ty to : Ty} {lab : Int} {neg : Bool} {ks : List Cn} (h : (Cn.mk k ty to lab neg ks).ends.2.2 = true) :
    (ks = [] ∧ (k = 0 ∨ k = 1 ∨ k = 2 ∨ k = 3) ∧ ty.check = 0) ∨ ∃ a b, ks = [a, b] ∧ (k = 4 ∨ k = 5 ∨ k = 6 ∨ k = 7) ∧ a.ends.2.2 = true ∧ b.ends.2.2 = true := by
  simp only [Cn.ends] at h
  split at h
  · rename_i hl
    refine .inl ?_
    unfold leafE at h
    split at h
    · simp [noE] at h
    · rename_i hc
      simp only [not_or, Bool.not_eq_false, Decidable.not_not] at hc
      refine ⟨by simpa using hc.1, ?_, hc.2⟩
      simp only [leafF, Bool.or_eq_true, beq_iff_eq] at hl
      omega
  · refine .inr ?_
    match ks, h with
    | [], h => simp [Cn.endsL, partsL, noE] at h
    | [a], h => simp [Cn.endsL, partsL, noE] at h
    | [a, b], h =>
      simp only [Cn.endsL, partsL, partsE] at h
      refine ⟨a, b, rfl, ?_⟩
      split at h
      · simp [noE] at h
      · rename_i hab
        simp only [Bool.not_eq_false, Bool.and_eq_true] at hab
        refine ⟨?_, hab⟩
        repeat' split at h
        all_goals first | omega | (simp [noE] at h)
    | a :: b :: c :: r, h => simp [Cn.endsL, partsL, noE] at h

mutual
def Cn.size : Cn → Int
  | .mk k _ _ _ _ ks => if k = 0 ∨ k = 1 ∨ k = 2 ∨ k = 3 then 1 else if k = 7 then Cn.sizeL ks else Cn.sizeL ks + 1
def Cn.sizeL : List Cn → Int
  | [] => 0
  | c :: r => c.size + Cn.sizeL r
end
mutual
def Cn.height : Cn → Int
  | .mk k ty _ _ _ ks => if k = 0 ∨ k = 1 then 1 else if k = 2 ∨ k = 3 then ty.high else if k = 7 then Cn.heightL ks else Cn.heightL ks + 1
def Cn.heightL : List Cn → Int
  | [] => 0
  | [c] => c.height
  | c :: r => maxI c.height (Cn.heightL r)
end
mutual
def Cn.num : Cn → Int
  | .mk _ _ _ _ _ ks => 1 + Cn.numL ks
def Cn.numL : List Cn → Int
  | [] => 0
  | c :: r => c.num + Cn.numL r
end
mutual
theorem Cn.num_pos : ∀ c : Cn, 1 ≤ c.num
  | .mk _ _ _ _ _ ks => by simp only [Cn.num]; have := Cn.numL_pos ks; omega
theorem Cn.numL_pos : ∀ ks : List Cn, 0 ≤ Cn.numL ks
  | [] => by simp [Cn.numL]
  | c :: r => by simp only [Cn.numL]; have := Cn.num_pos c; have := Cn.numL_pos r; omega
end
mutual
theorem Cn.num_down : ∀ (c : Cn) (n : Int), c.down n ≤ 8192 → n + c.num ≤ c.down n
  | .mk k ty to lab neg ks, n, h => by
    simp only [Cn.down, Cn.num] at h ⊢
    have := headN_le k ty to
    have := Cn.numL_down ks _ h
    omega
theorem Cn.numL_down : ∀ (ks : List Cn) (m : Int), Cn.downL ks m ≤ 8192 → m + Cn.numL ks ≤ Cn.downL ks m
  | [], m, h => by simp [Cn.downL, Cn.numL]
  | c :: r, m, h => by
    simp only [Cn.downL, Cn.numL] at h ⊢
    split at h
    · omega
    · rename_i hm
      rw [if_neg hm]
      have h2 := Cn.numL_down r _ h
      have h3 := Cn.numL_pos r
      have h1 := Cn.num_down c m (by omega)
      omega
end
theorem few_num {c : Cn} (h : c.few = true) : c.num ≤ 8192 := by
  have h := of_decide_eq_true h
  have := Cn.num_down c 0 h
  omega

theorem measure_does : ∀ c : Cn, c.fits → c.ends.2.2 = true → c.num ≤ 8192 → (Does Try.prog 51 [.imm false (.ptr c.cells 0)] [] (.ret true (.tup [.int .i64 c.size, .int .i64 c.height])) []) ∧ 1 ≤ c.size ∧ c.size ≤ c.num ∧ 1 ≤ c.height ∧ c.height ≤ 200 + c.num := by
  refine Cn.ind fun k ty to lab neg ks ih hf he hn => ?_
  rcases ends_shape he with ⟨rfl, hk, hc⟩ | ⟨a, b, rfl, hk, ha, hb⟩
  · have hh := high_of_check hc
    have hp := Ty.high_pos ty
    refine ⟨?_, ?_⟩
    · have h1 := high_does ty hf.1 (by omega) (Cn.mk k ty to lab neg []).cells 1 (by simp [Cn.cells])
      refine does51 (by rfl) (by rfl) ?_
      simp only [Cn.cells, Cn.cellsL] at h1
      rcases hk with rfl | rfl | rfl | rfl
      · (try simp (implicitDefEqProofs := false) (maxSteps := 2000000) only [go_sem, ↓reduceIte, Nat.reduceEqDiff, reduceCtorEq, Nat.reduceAdd, Nat.reduceSub, Nat.reduceLeDiff, Nat.reduceLT, Nat.reduceMul, Int.reduceToNat, Int.reduceLT, Int.reduceLE, Cn.cells, Cn.cellsL])
        simp [Cn.size, Cn.height]
      · (try simp (implicitDefEqProofs := false) (maxSteps := 2000000) only [go_sem, ↓reduceIte, Nat.reduceEqDiff, reduceCtorEq, Nat.reduceAdd, Nat.reduceSub, Nat.reduceLeDiff, Nat.reduceLT, Nat.reduceMul, Int.reduceToNat, Int.reduceLT, Int.reduceLE, Cn.cells, Cn.cellsL, show ((1 : Int) == 0) = false from rfl])
        simp [Cn.size, Cn.height]
      · (try simp (implicitDefEqProofs := false) (maxSteps := 2000000) only [go_sem, ↓reduceIte, Nat.reduceEqDiff, reduceCtorEq, Nat.reduceAdd, Nat.reduceSub, Nat.reduceLeDiff, Nat.reduceLT, Nat.reduceMul, Int.reduceToNat, Int.reduceLT, Int.reduceLE, Cn.cells, Cn.cellsL, show ((2 : Int) == 0) = false from rfl, show ((2 : Int) == 1) = false from rfl])
        refine CallK_do h1 ?_
        (try simp (implicitDefEqProofs := false) (maxSteps := 2000000) only [go_sem, ↓reduceIte, Nat.reduceEqDiff, reduceCtorEq, Nat.reduceAdd, Nat.reduceSub, Nat.reduceLeDiff, Nat.reduceLT, Nat.reduceMul, Int.reduceToNat, Int.reduceLT, Int.reduceLE])
        simp [Cn.size, Cn.height]
      · (try simp (implicitDefEqProofs := false) (maxSteps := 2000000) only [go_sem, ↓reduceIte, Nat.reduceEqDiff, reduceCtorEq, Nat.reduceAdd, Nat.reduceSub, Nat.reduceLeDiff, Nat.reduceLT, Nat.reduceMul, Int.reduceToNat, Int.reduceLT, Int.reduceLE, Cn.cells, Cn.cellsL, show ((3 : Int) == 0) = false from rfl, show ((3 : Int) == 1) = false from rfl, show ((3 : Int) == 2) = false from rfl])
        refine CallK_do h1 ?_
        (try simp (implicitDefEqProofs := false) (maxSteps := 2000000) only [go_sem, ↓reduceIte, Nat.reduceEqDiff, reduceCtorEq, Nat.reduceAdd, Nat.reduceSub, Nat.reduceLeDiff, Nat.reduceLT, Nat.reduceMul, Int.reduceToNat, Int.reduceLT, Int.reduceLE])
        simp [Cn.size, Cn.height]
    · simp only [Cn.size, Cn.height, Cn.num, Cn.numL]
      rcases hk with rfl | rfl | rfl | rfl <;> simp <;> omega
  · have hk' := hf.2.2.2.2
    have hna := Cn.num_pos a
    have hnb := Cn.num_pos b
    have hn2 : 1 + (a.num + (b.num + 0)) ≤ 8192 := by simpa [Cn.num, Cn.numL] using hn
    obtain ⟨da, a1, a2, a3, a4⟩ := ih a (by simp) hk'.1 ha (by omega)
    obtain ⟨db, b1, b2, b3, b4⟩ := ih b (by simp) hk'.2.1 hb (by omega)
    have hla := Cn.cells_len a
    have hlb := Cn.cells_len b
    refine ⟨?_, ?_⟩
    · refine does51 (by rfl) (by rfl) ?_
      have n0 : (k == 0) = false := by simp; omega
      have n1 : (k == 1) = false := by simp; omega
      have n2 : (k == 2) = false := by simp; omega
      have n3 : (k == 3) = false := by simp; omega
      (try simp (implicitDefEqProofs := false) (maxSteps := 2000000) only [go_sem, ↓reduceIte, Nat.reduceEqDiff, reduceCtorEq, Nat.reduceAdd, Nat.reduceSub, Nat.reduceLeDiff, Nat.reduceLT, Nat.reduceMul, Int.reduceToNat, Int.reduceLT, Int.reduceLE, Cn.cells, Cn.cellsL, n0, n1, n2, n3, hla, hlb])
      refine CallK_do da ?_
      (try simp (implicitDefEqProofs := false) (maxSteps := 2000000) only [go_sem, ↓reduceIte, Nat.reduceEqDiff, reduceCtorEq, Nat.reduceAdd, Nat.reduceSub, Nat.reduceLeDiff, Nat.reduceLT, Nat.reduceMul, Int.reduceToNat, Int.reduceLT, Int.reduceLE, hla, hlb])
      refine CallK_do db ?_
      by_cases k7 : k = 7
      · subst k7
        (try simp (implicitDefEqProofs := false) (maxSteps := 2000000) only [go_sem, ↓reduceIte, Nat.reduceEqDiff, reduceCtorEq, Nat.reduceAdd, Nat.reduceSub, Nat.reduceLeDiff, Nat.reduceLT, Nat.reduceMul, Int.reduceToNat, Int.reduceLT, Int.reduceLE, show ((7 : Int) != 7) = false from rfl, wrap64 (n := a.size + b.size) (by omega) (by omega)])
        simp [Cn.size, Cn.sizeL, Cn.height, Cn.heightL, maxI]
      · have hm : 1 ≤ maxI a.height b.height ∧ maxI a.height b.height ≤ 200 + 8192 := by unfold maxI; split <;> omega
        unfold maxI at hm
        (try simp (implicitDefEqProofs := false) (maxSteps := 2000000) only [go_sem, ↓reduceIte, Nat.reduceEqDiff, reduceCtorEq, Nat.reduceAdd, Nat.reduceSub, Nat.reduceLeDiff, Nat.reduceLT, Nat.reduceMul, Int.reduceToNat, Int.reduceLT, Int.reduceLE, show (k != 7) = true from by simpa using k7, wrap64 (n := a.size + b.size) (by omega) (by omega), wrap64 (n := a.size + b.size + 1) (by omega) (by omega), wrap64 (n := (if b.height > a.height then b.height else a.height) + 1) (by omega) (by omega)])
        have e1 : ¬ (k = 0 ∨ k = 1 ∨ k = 2 ∨ k = 3) := by omega
        have e2 : ¬ (k = 0 ∨ k = 1) := by omega
        have e3 : ¬ (k = 2 ∨ k = 3) := by omega
        simp [Cn.size, Cn.sizeL, Cn.height, Cn.heightL, maxI, e1, e2, e3, k7]
    · have e1 : ¬ (k = 0 ∨ k = 1 ∨ k = 2 ∨ k = 3) := by omega
      have e2 : ¬ (k = 0 ∨ k = 1) := by omega
      have e3 : ¬ (k = 2 ∨ k = 3) := by omega
      have hm := le_maxI (a := a.height) (b := b.height)
      have hm2 : maxI a.height b.height ≤ 200 + (a.num + b.num) := maxI_le (by omega) (by omega)
      simp only [Cn.size, Cn.sizeL, Cn.height, Cn.heightL, Cn.num, Cn.numL, if_neg e1, if_neg e2, if_neg e3]
      split <;> omega

/-- the check holds -/
def Cn.ok (c : Cn) : Bool := c.chk.2.2 == 0
theorem ok_iff {c : Cn} (h : c.chk.2.2 = 0) : c.few = true ∧ ¬ c.deep 201 > 200 ∧ c.ends.2.2 = true ∧ c.ends.1.check = 0 ∧ c.ends.2.1.check = 0 ∧ c.chk = (c.ends.1, c.ends.2.1, 0) := by
  unfold Cn.chk at h ⊢
  split at h
  · simp at h
  · rename_i h1
    split at h
    · simp at h
    · rename_i h2
      split at h
      · simp at h
      · rename_i h3
        split at h
        · rename_i h4; exact absurd h h4
        · rename_i h4
          split at h
          · rename_i h5; exact absurd h h5
          · rename_i h5
            rw [if_neg h1, if_neg h2, if_neg h3, if_neg h4, if_neg h5]
            exact ⟨by simpa using h1, h2, by simpa using h3, by simpa using h4, by simpa using h5, rfl⟩

def Cn.heightF (c : Cn) : Int := if c.chk.2.2 = 0 then c.height else 0
theorem cheight_does (c : Cn) (hf : c.fits) : Does Try.prog 15 [.imm false (.agg c.cells)] [] (.ret true (.int .i64 c.heightF)) [] := by
  have h1 := cchk_does c hf
  have h2 : c.chk.2.2 = 0 → _ := fun h => measure_does c hf (ok_iff h).2.2.1 (few_num (ok_iff h).1)
  unfold Cn.heightF chV at *
  generalize c.chk = e at h1 h2
  obtain ⟨e1, e2, e3⟩ := e
  generalize c.size = sz at h2
  generalize c.height = ht at h2
  obtain ⟨k, ty, to, lab, neg, ks⟩ := c
  simp only [Ty.cells_eq] at h1
  refine does15 (by rfl) (by rfl) ?_
  (try simp (implicitDefEqProofs := false) (maxSteps := 2000000) only [go_sem, ↓reduceIte, Nat.reduceEqDiff, reduceCtorEq, Nat.reduceAdd, Nat.reduceSub, Nat.reduceLeDiff, Nat.reduceLT, Nat.reduceMul, Int.reduceToNat, Int.reduceLT, Int.reduceLE, Cn.cells])
  refine CallK_do h1 ?_
  by_cases hz : e3 = 0
  · have h2 := (h2 hz).1
    (try simp (implicitDefEqProofs := false) (maxSteps := 2000000) only [go_sem, ↓reduceIte, Nat.reduceEqDiff, reduceCtorEq, Nat.reduceAdd, Nat.reduceSub, Nat.reduceLeDiff, Nat.reduceLT, Nat.reduceMul, Int.reduceToNat, Int.reduceLT, Int.reduceLE, Ty.cells_eq, hz, show ((0 : Int) != 0) = false from rfl])
    refine CallK_do h2 ?_
    (try simp (implicitDefEqProofs := false) (maxSteps := 2000000) only [go_sem, ↓reduceIte, Nat.reduceEqDiff, reduceCtorEq, Nat.reduceAdd, Nat.reduceSub, Nat.reduceLeDiff, Nat.reduceLT, Nat.reduceMul, Int.reduceToNat, Int.reduceLT, Int.reduceLE])
  · (try simp (implicitDefEqProofs := false) (maxSteps := 2000000) only [go_sem, ↓reduceIte, Nat.reduceEqDiff, reduceCtorEq, Nat.reduceAdd, Nat.reduceSub, Nat.reduceLeDiff, Nat.reduceLT, Nat.reduceMul, Int.reduceToNat, Int.reduceLT, Int.reduceLE, Ty.cells_eq, show (e3 != 0) = true from by simpa using hz])
    simp [hz]
end Go.Proofs.Ytopgmopdjiahmaa.Lg

/- Coercions: sameness; of two types. Conditions: none; plain definitions and lemmas. -/
set_option linter.unusedVariables false
set_option linter.unusedSimpArgs false
set_option maxRecDepth 100000
set_option maxHeartbeats 1000000
namespace Go.Proofs.Ytopgmopdjiahmaa.Lg
open Go Go.RowKit Go.Proofs

def headSame (k : Int) (ty to : Ty) (lab : Int) (neg : Bool) (ty' to' : Ty) (lab' : Int) (neg' : Bool) : Bool :=
  if leafF k = true ∧ ty.same ty' = false then false else if k = 1 ∧ to.same to' = false then false else if (k = 1 ∨ k = 3) ∧ (lab ≠ lab' ∨ neg ≠ neg') then false else true
mutual
def Cn.same : Cn → Cn → Bool
  | .mk k ty to lab neg ks, .mk k' ty' to' lab' neg' ks' => k == k' && (headSame k ty to lab neg ty' to' lab' neg' && Cn.sameL ks ks')
def Cn.sameL : List Cn → List Cn → Bool
  | [], _ => true
  | _ :: _, [] => false
  | c :: r, d :: s => c.same d && Cn.sameL r s
end

theorem csame_does : ∀ a : Cn, a.fits → a.ends.2.2 = true → ∀ b : Cn, b.fits → b.ends.2.2 = true → Does Try.prog 52 [.imm false (.ptr a.cells 0), .imm false (.ptr b.cells 0)] [] (.ret true (.bool (a.same b))) [] := by
  refine Cn.ind fun k ty to lab neg ks ih hf he b hfb heb => ?_
  obtain ⟨k', ty', to', lab', neg', ks'⟩ := b
  have s1 := same_does ty ty' hf.1 hfb.1
  have s2 := same_does to to' hf.2.1 hfb.2.1
  have hl := leaf_does k
  simp only [Ty.cells_eq] at s1 s2
  refine does52 (by rfl) (by rfl) ?_
  by_cases hk : k ≠ k'
  · (try simp (implicitDefEqProofs := false) (maxSteps := 2000000) only [go_sem, ↓reduceIte, Nat.reduceEqDiff, reduceCtorEq, Nat.reduceAdd, Nat.reduceSub, Nat.reduceLeDiff, Nat.reduceLT, Nat.reduceMul, Int.reduceToNat, Int.reduceLT, Int.reduceLE, Cn.cells, show (k != k') = true from by simpa using hk])
    simp [Cn.same, hk]
  have hk : k = k' := Decidable.not_not.1 hk
  subst hk
  have e0 : (Cn.mk k ty to lab neg ks).same (.mk k ty' to' lab' neg' ks') = (headSame k ty to lab neg ty' to' lab' neg' && Cn.sameL ks ks') := by simp [Cn.same]
  rw [e0]
  -- the kids
  have loop : headSame k ty to lab neg ty' to' lab' neg' = true →
      awp Try.prog (.seq (.seq r52_10 (.block 3 (.loop l52_0))) (.seq r52_16 .ret)) (Fin [MR.t 4] (.ret true (.bool (headSame k ty to lab neg ty' to' lab' neg' && Cn.sameL ks ks'))) [])
        ⟨[(0, .imm false (.ptr (Cn.mk k ty to lab neg ks).cells 0)), (1, .imm false (.ptr (Cn.mk k ty' to' lab' neg' ks').cells 0))], [], []⟩ := by
    intro hh
    rw [hh]
    rcases ends_shape he with ⟨rfl, hk, hc⟩ | ⟨a1, a2, rfl, hk, ha1, ha2⟩
    · (try simp (implicitDefEqProofs := false) (maxSteps := 2000000) only [go_sem, ↓reduceIte, Nat.reduceEqDiff, reduceCtorEq, Nat.reduceAdd, Nat.reduceSub, Nat.reduceLeDiff, Nat.reduceLT, Nat.reduceMul, Int.reduceToNat, Int.reduceLT, Int.reduceLE, Cn.cells, Cn.cellsL, ncast0])
      refine ⟨fun q σ => q = 0 ∧ σ = ⟨[(0, .imm false (.ptr (Cn.mk k ty to lab neg []).cells 0)), (1, .imm false (.ptr (Cn.mk k ty' to' lab' neg' ks').cells 0)), (76, .imm true (.int .i64 0)), (77, .imm true (.int .i64 0))], [], []⟩, ⟨_, rfl, by first | rfl | simp only [Cn.cells, Cn.cellsL] | (simp only [Cn.cells, Cn.cellsL]; rfl)⟩, ?_⟩
      rintro q σ ⟨rfl, rfl⟩
      unfold l52_0
      (try simp (implicitDefEqProofs := false) (maxSteps := 2000000) only [go_sem, ↓reduceIte, Nat.reduceEqDiff, reduceCtorEq, Nat.reduceAdd, Nat.reduceSub, Nat.reduceLeDiff, Nat.reduceLT, Nat.reduceMul, Int.reduceToNat, Int.reduceLT, Int.reduceLE, Cn.cells, show decide ((0 : Int) < 0) = false from rfl])
      simp [Cn.sameL]
    · rcases ends_shape heb with ⟨rfl, hk2, hc2⟩ | ⟨b1, b2, rfl, hk2, hb1, hb2⟩
      · omega
      have hla1 := Cn.cells_len a1
      have hla2 := Cn.cells_len a2
      have hlb1 := Cn.cells_len b1
      have hlb2 := Cn.cells_len b2
      have d1 := ih a1 (by simp) hf.2.2.2.2.1 ha1 b1 hfb.2.2.2.2.1 hb1
      have d2 := ih a2 (by simp) hf.2.2.2.2.2.1 ha2 b2 hfb.2.2.2.2.2.1 hb2
      (try simp (implicitDefEqProofs := false) (maxSteps := 2000000) only [go_sem, ↓reduceIte, Nat.reduceEqDiff, reduceCtorEq, Nat.reduceAdd, Nat.reduceSub, Nat.reduceLeDiff, Nat.reduceLT, Nat.reduceMul, Int.reduceToNat, Int.reduceLT, Int.reduceLE, Cn.cells, Cn.cellsL, ncast2])
      let S : Int → St := fun j => ⟨[(0, .imm false (.ptr (Cn.mk k ty to lab neg [a1, a2]).cells 0)), (1, .imm false (.ptr (Cn.mk k ty' to' lab' neg' [b1, b2]).cells 0)), (76, .imm true (.int .i64 2)), (77, .imm true (.int .i64 j))], [], []⟩
      refine ⟨fun n σ => (n = 2 ∧ σ = S 0) ∨ (n = 1 ∧ a1.same b1 = true ∧ σ = S 1) ∨ (n = 0 ∧ a1.same b1 = true ∧ a2.same b2 = true ∧ σ = S 2), ⟨_, .inl ⟨rfl, by first | rfl | simp only [S, Cn.cells, Cn.cellsL]⟩⟩, ?_⟩
      rintro n σ (⟨rfl, rfl⟩ | ⟨rfl, z1, rfl⟩ | ⟨rfl, z1, z2, rfl⟩)
      · unfold l52_0
        (try simp (implicitDefEqProofs := false) (maxSteps := 2000000) only [go_sem, ↓reduceIte, Nat.reduceEqDiff, reduceCtorEq, Nat.reduceAdd, Nat.reduceSub, Nat.reduceLeDiff, Nat.reduceLT, Nat.reduceMul, Int.reduceToNat, Int.reduceLT, Int.reduceLE, S, Cn.cells, Cn.cellsL, hla1, hlb1, show decide ((0 : Int) < 2) = true from rfl])
        refine CallK_do d1 ?_
        cases z1 : a1.same b1 with
        | true =>
          (try simp (implicitDefEqProofs := false) (maxSteps := 2000000) only [go_sem, ↓reduceIte, Nat.reduceEqDiff, reduceCtorEq, Nat.reduceAdd, Nat.reduceSub, Nat.reduceLeDiff, Nat.reduceLT, Nat.reduceMul, Int.reduceToNat, Int.reduceLT, Int.reduceLE, wrap01])
          exact ⟨1, by omega, by simp⟩
        | false =>
          (try simp (implicitDefEqProofs := false) (maxSteps := 2000000) only [go_sem, ↓reduceIte, Nat.reduceEqDiff, reduceCtorEq, Nat.reduceAdd, Nat.reduceSub, Nat.reduceLeDiff, Nat.reduceLT, Nat.reduceMul, Int.reduceToNat, Int.reduceLT, Int.reduceLE])
          simp [Cn.sameL, z1]
      · unfold l52_0
        (try simp (implicitDefEqProofs := false) (maxSteps := 2000000) only [go_sem, ↓reduceIte, Nat.reduceEqDiff, reduceCtorEq, Nat.reduceAdd, Nat.reduceSub, Nat.reduceLeDiff, Nat.reduceLT, Nat.reduceMul, Int.reduceToNat, Int.reduceLT, Int.reduceLE, S, Cn.cells, Cn.cellsL, hla2, hlb2, show decide ((1 : Int) < 2) = true from rfl])
        refine CallK_do d2 ?_
        cases z2 : a2.same b2 with
        | true =>
          (try simp (implicitDefEqProofs := false) (maxSteps := 2000000) only [go_sem, ↓reduceIte, Nat.reduceEqDiff, reduceCtorEq, Nat.reduceAdd, Nat.reduceSub, Nat.reduceLeDiff, Nat.reduceLT, Nat.reduceMul, Int.reduceToNat, Int.reduceLT, Int.reduceLE, wrap12])
          exact ⟨0, by omega, by simp [z1]⟩
        | false =>
          (try simp (implicitDefEqProofs := false) (maxSteps := 2000000) only [go_sem, ↓reduceIte, Nat.reduceEqDiff, reduceCtorEq, Nat.reduceAdd, Nat.reduceSub, Nat.reduceLeDiff, Nat.reduceLT, Nat.reduceMul, Int.reduceToNat, Int.reduceLT, Int.reduceLE])
          simp [Cn.sameL, z1, z2]
      · unfold l52_0
        (try simp (implicitDefEqProofs := false) (maxSteps := 2000000) only [go_sem, ↓reduceIte, Nat.reduceEqDiff, reduceCtorEq, Nat.reduceAdd, Nat.reduceSub, Nat.reduceLeDiff, Nat.reduceLT, Nat.reduceMul, Int.reduceToNat, Int.reduceLT, Int.reduceLE, S, Cn.cells, Cn.cellsL, show decide ((2 : Int) < 2) = false from rfl])
        simp [Cn.sameL, z1, z2]
  -- the labels
  (try simp (implicitDefEqProofs := false) (maxSteps := 2000000) only [go_sem, ↓reduceIte, Nat.reduceEqDiff, reduceCtorEq, Nat.reduceAdd, Nat.reduceSub, Nat.reduceLeDiff, Nat.reduceLT, Nat.reduceMul, Int.reduceToNat, Int.reduceLT, Int.reduceLE, Cn.cells, bne_self_eq_false])
  refine CallK_do hl ?_
  have hk : k = 0 ∨ k = 1 ∨ k = 2 ∨ k = 3 ∨ (leafF k = false ∧ k ≠ 1 ∧ k ≠ 3) := by
    by_cases h0 : k = 0; · exact .inl h0
    by_cases h1 : k = 1; · exact .inr (.inl h1)
    by_cases h2 : k = 2; · exact .inr (.inr (.inl h2))
    by_cases h3 : k = 3; · exact .inr (.inr (.inr (.inl h3)))
    exact .inr (.inr (.inr (.inr ⟨by simp [leafF, h0, h1, h2, h3], h1, h3⟩)))
  rcases hk with rfl | rfl | rfl | rfl | ⟨hlk, k1, k3⟩
  · (try simp (implicitDefEqProofs := false) (maxSteps := 2000000) only [go_sem, ↓reduceIte, Nat.reduceEqDiff, reduceCtorEq, Nat.reduceAdd, Nat.reduceSub, Nat.reduceLeDiff, Nat.reduceLT, Nat.reduceMul, Int.reduceToNat, Int.reduceLT, Int.reduceLE, show leafF 0 = true from rfl])
    refine CallK_do s1 ?_
    cases z1 : ty.same ty' with
    | false =>
      (try simp (implicitDefEqProofs := false) (maxSteps := 2000000) only [go_sem, ↓reduceIte, Nat.reduceEqDiff, reduceCtorEq, Nat.reduceAdd, Nat.reduceSub, Nat.reduceLeDiff, Nat.reduceLT, Nat.reduceMul, Int.reduceToNat, Int.reduceLT, Int.reduceLE])
      simp [headSame, leafF, z1]
    | true =>
      (try simp (implicitDefEqProofs := false) (maxSteps := 2000000) only [go_sem, ↓reduceIte, Nat.reduceEqDiff, reduceCtorEq, Nat.reduceAdd, Nat.reduceSub, Nat.reduceLeDiff, Nat.reduceLT, Nat.reduceMul, Int.reduceToNat, Int.reduceLT, Int.reduceLE, show ((0 : Int) == 1) = false from rfl, show ((0 : Int) == 3) = false from rfl])
      have := loop (by simp [headSame, leafF, z1])
      (try simp (implicitDefEqProofs := false) (maxSteps := 2000000) only [go_sem, ↓reduceIte, Nat.reduceEqDiff, reduceCtorEq, Nat.reduceAdd, Nat.reduceSub, Nat.reduceLeDiff, Nat.reduceLT, Nat.reduceMul, Int.reduceToNat, Int.reduceLT, Int.reduceLE, Cn.cells] at this)
      exact this
  · (try simp (implicitDefEqProofs := false) (maxSteps := 2000000) only [go_sem, ↓reduceIte, Nat.reduceEqDiff, reduceCtorEq, Nat.reduceAdd, Nat.reduceSub, Nat.reduceLeDiff, Nat.reduceLT, Nat.reduceMul, Int.reduceToNat, Int.reduceLT, Int.reduceLE, show leafF 1 = true from rfl])
    refine CallK_do s1 ?_
    cases z1 : ty.same ty' with
    | false =>
      (try simp (implicitDefEqProofs := false) (maxSteps := 2000000) only [go_sem, ↓reduceIte, Nat.reduceEqDiff, reduceCtorEq, Nat.reduceAdd, Nat.reduceSub, Nat.reduceLeDiff, Nat.reduceLT, Nat.reduceMul, Int.reduceToNat, Int.reduceLT, Int.reduceLE])
      simp [headSame, leafF, z1]
    | true =>
      (try simp (implicitDefEqProofs := false) (maxSteps := 2000000) only [go_sem, ↓reduceIte, Nat.reduceEqDiff, reduceCtorEq, Nat.reduceAdd, Nat.reduceSub, Nat.reduceLeDiff, Nat.reduceLT, Nat.reduceMul, Int.reduceToNat, Int.reduceLT, Int.reduceLE, show ((1 : Int) == 1) = true from rfl, show ((1 : Int) == 3) = false from rfl])
      refine CallK_do s2 ?_
      cases z2 : to.same to' with
      | false =>
        (try simp (implicitDefEqProofs := false) (maxSteps := 2000000) only [go_sem, ↓reduceIte, Nat.reduceEqDiff, reduceCtorEq, Nat.reduceAdd, Nat.reduceSub, Nat.reduceLeDiff, Nat.reduceLT, Nat.reduceMul, Int.reduceToNat, Int.reduceLT, Int.reduceLE])
        simp [headSame, leafF, z1, z2]
      | true =>
        (try simp (implicitDefEqProofs := false) (maxSteps := 2000000) only [go_sem, ↓reduceIte, Nat.reduceEqDiff, reduceCtorEq, Nat.reduceAdd, Nat.reduceSub, Nat.reduceLeDiff, Nat.reduceLT, Nat.reduceMul, Int.reduceToNat, Int.reduceLT, Int.reduceLE])
        by_cases hlab : lab = lab'
        · by_cases hneg : neg = neg'
          · have := loop (by simp [headSame, leafF, z1, z2, hlab, hneg])
            (try simp (implicitDefEqProofs := false) (maxSteps := 2000000) only [go_sem, ↓reduceIte, Nat.reduceEqDiff, reduceCtorEq, Nat.reduceAdd, Nat.reduceSub, Nat.reduceLeDiff, Nat.reduceLT, Nat.reduceMul, Int.reduceToNat, Int.reduceLT, Int.reduceLE, Cn.cells] at this)
            (try simp (implicitDefEqProofs := false) (maxSteps := 2000000) only [go_sem, ↓reduceIte, Nat.reduceEqDiff, reduceCtorEq, Nat.reduceAdd, Nat.reduceSub, Nat.reduceLeDiff, Nat.reduceLT, Nat.reduceMul, Int.reduceToNat, Int.reduceLT, Int.reduceLE, Cn.cells, show (lab != lab') = false from by simpa using hlab, show (neg == neg') = true from by simpa using hneg])
            exact this
          · (try simp (implicitDefEqProofs := false) (maxSteps := 2000000) only [go_sem, ↓reduceIte, Nat.reduceEqDiff, reduceCtorEq, Nat.reduceAdd, Nat.reduceSub, Nat.reduceLeDiff, Nat.reduceLT, Nat.reduceMul, Int.reduceToNat, Int.reduceLT, Int.reduceLE, Cn.cells, show (lab != lab') = false from by simpa using hlab, show (neg == neg') = false from by simpa using hneg])
            simp [headSame, leafF, z1, z2, hlab, hneg]
        · (try simp (implicitDefEqProofs := false) (maxSteps := 2000000) only [go_sem, ↓reduceIte, Nat.reduceEqDiff, reduceCtorEq, Nat.reduceAdd, Nat.reduceSub, Nat.reduceLeDiff, Nat.reduceLT, Nat.reduceMul, Int.reduceToNat, Int.reduceLT, Int.reduceLE, Cn.cells, show (lab != lab') = true from by simpa using hlab])
          simp [headSame, leafF, z1, z2, hlab]
  · (try simp (implicitDefEqProofs := false) (maxSteps := 2000000) only [go_sem, ↓reduceIte, Nat.reduceEqDiff, reduceCtorEq, Nat.reduceAdd, Nat.reduceSub, Nat.reduceLeDiff, Nat.reduceLT, Nat.reduceMul, Int.reduceToNat, Int.reduceLT, Int.reduceLE, show leafF 2 = true from rfl])
    refine CallK_do s1 ?_
    cases z1 : ty.same ty' with
    | false =>
      (try simp (implicitDefEqProofs := false) (maxSteps := 2000000) only [go_sem, ↓reduceIte, Nat.reduceEqDiff, reduceCtorEq, Nat.reduceAdd, Nat.reduceSub, Nat.reduceLeDiff, Nat.reduceLT, Nat.reduceMul, Int.reduceToNat, Int.reduceLT, Int.reduceLE])
      simp [headSame, leafF, z1]
    | true =>
      (try simp (implicitDefEqProofs := false) (maxSteps := 2000000) only [go_sem, ↓reduceIte, Nat.reduceEqDiff, reduceCtorEq, Nat.reduceAdd, Nat.reduceSub, Nat.reduceLeDiff, Nat.reduceLT, Nat.reduceMul, Int.reduceToNat, Int.reduceLT, Int.reduceLE, show ((2 : Int) == 1) = false from rfl, show ((2 : Int) == 3) = false from rfl])
      have := loop (by simp [headSame, leafF, z1])
      (try simp (implicitDefEqProofs := false) (maxSteps := 2000000) only [go_sem, ↓reduceIte, Nat.reduceEqDiff, reduceCtorEq, Nat.reduceAdd, Nat.reduceSub, Nat.reduceLeDiff, Nat.reduceLT, Nat.reduceMul, Int.reduceToNat, Int.reduceLT, Int.reduceLE, Cn.cells] at this)
      exact this
  · (try simp (implicitDefEqProofs := false) (maxSteps := 2000000) only [go_sem, ↓reduceIte, Nat.reduceEqDiff, reduceCtorEq, Nat.reduceAdd, Nat.reduceSub, Nat.reduceLeDiff, Nat.reduceLT, Nat.reduceMul, Int.reduceToNat, Int.reduceLT, Int.reduceLE, show leafF 3 = true from rfl])
    refine CallK_do s1 ?_
    cases z1 : ty.same ty' with
    | false =>
      (try simp (implicitDefEqProofs := false) (maxSteps := 2000000) only [go_sem, ↓reduceIte, Nat.reduceEqDiff, reduceCtorEq, Nat.reduceAdd, Nat.reduceSub, Nat.reduceLeDiff, Nat.reduceLT, Nat.reduceMul, Int.reduceToNat, Int.reduceLT, Int.reduceLE])
      simp [headSame, leafF, z1]
    | true =>
      (try simp (implicitDefEqProofs := false) (maxSteps := 2000000) only [go_sem, ↓reduceIte, Nat.reduceEqDiff, reduceCtorEq, Nat.reduceAdd, Nat.reduceSub, Nat.reduceLeDiff, Nat.reduceLT, Nat.reduceMul, Int.reduceToNat, Int.reduceLT, Int.reduceLE, show ((3 : Int) == 1) = false from rfl, show ((3 : Int) == 3) = true from rfl])
      by_cases hlab : lab = lab'
      · by_cases hneg : neg = neg'
        · have := loop (by simp [headSame, leafF, z1, hlab, hneg])
          (try simp (implicitDefEqProofs := false) (maxSteps := 2000000) only [go_sem, ↓reduceIte, Nat.reduceEqDiff, reduceCtorEq, Nat.reduceAdd, Nat.reduceSub, Nat.reduceLeDiff, Nat.reduceLT, Nat.reduceMul, Int.reduceToNat, Int.reduceLT, Int.reduceLE, Cn.cells] at this)
          (try simp (implicitDefEqProofs := false) (maxSteps := 2000000) only [go_sem, ↓reduceIte, Nat.reduceEqDiff, reduceCtorEq, Nat.reduceAdd, Nat.reduceSub, Nat.reduceLeDiff, Nat.reduceLT, Nat.reduceMul, Int.reduceToNat, Int.reduceLT, Int.reduceLE, Cn.cells, show (lab != lab') = false from by simpa using hlab, show (neg == neg') = true from by simpa using hneg])
          exact this
        · (try simp (implicitDefEqProofs := false) (maxSteps := 2000000) only [go_sem, ↓reduceIte, Nat.reduceEqDiff, reduceCtorEq, Nat.reduceAdd, Nat.reduceSub, Nat.reduceLeDiff, Nat.reduceLT, Nat.reduceMul, Int.reduceToNat, Int.reduceLT, Int.reduceLE, Cn.cells, show (lab != lab') = false from by simpa using hlab, show (neg == neg') = false from by simpa using hneg])
          simp [headSame, leafF, z1, hlab, hneg]
      · (try simp (implicitDefEqProofs := false) (maxSteps := 2000000) only [go_sem, ↓reduceIte, Nat.reduceEqDiff, reduceCtorEq, Nat.reduceAdd, Nat.reduceSub, Nat.reduceLeDiff, Nat.reduceLT, Nat.reduceMul, Int.reduceToNat, Int.reduceLT, Int.reduceLE, Cn.cells, show (lab != lab') = true from by simpa using hlab])
        simp [headSame, leafF, z1, hlab]
  · (try simp (implicitDefEqProofs := false) (maxSteps := 2000000) only [go_sem, ↓reduceIte, Nat.reduceEqDiff, reduceCtorEq, Nat.reduceAdd, Nat.reduceSub, Nat.reduceLeDiff, Nat.reduceLT, Nat.reduceMul, Int.reduceToNat, Int.reduceLT, Int.reduceLE, hlk, show (k == 1) = false from by simpa using k1, show (k == 3) = false from by simpa using k3])
    have := loop (by simp [headSame, hlk, k1, k3])
    (try simp (implicitDefEqProofs := false) (maxSteps := 2000000) only [go_sem, ↓reduceIte, Nat.reduceEqDiff, reduceCtorEq, Nat.reduceAdd, Nat.reduceSub, Nat.reduceLeDiff, Nat.reduceLT, Nat.reduceMul, Int.reduceToNat, Int.reduceLT, Int.reduceLE, Cn.cells] at this)
    exact this
end Go.Proofs.Ytopgmopdjiahmaa.Lg

/- Coercions: of two types that agree there is one. Conditions: none; plain definitions and lemmas. -/
set_option linter.unusedVariables false
set_option linter.unusedSimpArgs false
set_option maxRecDepth 100000
set_option maxHeartbeats 1000000
namespace Go.Proofs.Ytopgmopdjiahmaa.Lg
open Go Go.RowKit Go.Proofs

def Cn.sameF (a b : Cn) : Bool := a.chk.2.2 == 0 && b.chk.2.2 == 0 && a.same b
theorem csameF_does (a b : Cn) (ha : a.fits) (hb : b.fits) : Does Try.prog 17 [.imm false (.agg a.cells), .imm false (.agg b.cells)] [] (.ret true (.bool (a.sameF b))) [] := by
  have h1 := cchk_does a ha
  have h2 := cchk_does b hb
  have h3 : a.chk.2.2 = 0 → b.chk.2.2 = 0 → _ := fun h h' => csame_does a ha (ok_iff h).2.2.1 b hb (ok_iff h').2.2.1
  unfold Cn.sameF chV at *
  generalize a.chk = e at h1 h3
  generalize b.chk = f at h2 h3
  generalize a.same b = s at h3
  obtain ⟨e1, e2, e3⟩ := e
  obtain ⟨f1, f2, f3⟩ := f
  obtain ⟨k, ty, to, lab, neg, ks⟩ := a
  obtain ⟨k', ty', to', lab', neg', ks'⟩ := b
  simp only [Ty.cells_eq] at h1 h2
  refine does17 (by rfl) (by rfl) ?_
  (try simp (implicitDefEqProofs := false) (maxSteps := 2000000) only [go_sem, ↓reduceIte, Nat.reduceEqDiff, reduceCtorEq, Nat.reduceAdd, Nat.reduceSub, Nat.reduceLeDiff, Nat.reduceLT, Nat.reduceMul, Int.reduceToNat, Int.reduceLT, Int.reduceLE, Cn.cells])
  refine CallK_do h1 ?_
  (try simp (implicitDefEqProofs := false) (maxSteps := 2000000) only [go_sem, ↓reduceIte, Nat.reduceEqDiff, reduceCtorEq, Nat.reduceAdd, Nat.reduceSub, Nat.reduceLeDiff, Nat.reduceLT, Nat.reduceMul, Int.reduceToNat, Int.reduceLT, Int.reduceLE, Cn.cells, Ty.cells_eq])
  refine CallK_do h2 ?_
  by_cases z1 : e3 = 0
  · by_cases z2 : f3 = 0
    · have h3 := h3 z1 z2
      (try simp (implicitDefEqProofs := false) (maxSteps := 2000000) only [go_sem, ↓reduceIte, Nat.reduceEqDiff, reduceCtorEq, Nat.reduceAdd, Nat.reduceSub, Nat.reduceLeDiff, Nat.reduceLT, Nat.reduceMul, Int.reduceToNat, Int.reduceLT, Int.reduceLE, Cn.cells, Ty.cells_eq, show (e3 == 0) = true from by simpa using z1, show (f3 == 0) = true from by simpa using z2])
      refine CallK_do h3 ?_
      (try simp (implicitDefEqProofs := false) (maxSteps := 2000000) only [go_sem, ↓reduceIte, Nat.reduceEqDiff, reduceCtorEq, Nat.reduceAdd, Nat.reduceSub, Nat.reduceLeDiff, Nat.reduceLT, Nat.reduceMul, Int.reduceToNat, Int.reduceLT, Int.reduceLE])
    · (try simp (implicitDefEqProofs := false) (maxSteps := 2000000) only [go_sem, ↓reduceIte, Nat.reduceEqDiff, reduceCtorEq, Nat.reduceAdd, Nat.reduceSub, Nat.reduceLeDiff, Nat.reduceLT, Nat.reduceMul, Int.reduceToNat, Int.reduceLT, Int.reduceLE, Cn.cells, Ty.cells_eq, show (e3 == 0) = true from by simpa using z1, show (f3 == 0) = false from by simpa using z2])
  · (try simp (implicitDefEqProofs := false) (maxSteps := 2000000) only [go_sem, ↓reduceIte, Nat.reduceEqDiff, reduceCtorEq, Nat.reduceAdd, Nat.reduceSub, Nat.reduceLeDiff, Nat.reduceLT, Nat.reduceMul, Int.reduceToNat, Int.reduceLT, Int.reduceLE, Cn.cells, Ty.cells_eq, show (e3 == 0) = false from by simpa using z1])

/-! ### checked types -/
theorem check_iff {t : Ty} : t.check = 0 ↔ t.nodes ≤ 8192 ∧ t.high ≤ 200 ∧ t.right = true := by
  constructor
  · intro h
    exact ⟨(check_zero h).1, high_of_check h, (check_zero h).2.2⟩
  · rintro ⟨h1, h2, h3⟩
    have hp := Ty.high_pos t
    have hd : t.depth = t.high := by
      rw [Ty.depth, if_pos h1, Ty.deep_min t 201 (by omega), minI, if_pos (by omega)]
    rw [Ty.check, if_pos h1, hd, if_neg (by omega), if_pos h3]
mutual
theorem Ty.right_fits : ∀ t : Ty, t.right = true → t.fits
  | .mk k ts, h => by
    obtain ⟨h1, h2⟩ := Ty.right_kids h
    have := partsF_le k
    exact ⟨by omega, Ty.rightL_fits ts h2⟩
theorem Ty.rightL_fits : ∀ ts : List Ty, Ty.rightL ts = true → Ty.fitsL ts
  | [], _ => trivial
  | t :: r, h => by
    simp only [Ty.rightL, Bool.and_eq_true] at h
    exact ⟨Ty.right_fits t h.1, Ty.rightL_fits r h.2⟩
end
theorem check_pair {k : Int} {a b : Ty} (h : (Ty.mk k [a, b]).check = 0) : a.check = 0 ∧ b.check = 0 ∧ a.high + 1 ≤ (Ty.mk k [a, b]).high ∧ b.high + 1 ≤ (Ty.mk k [a, b]).high := by
  obtain ⟨h1, h2, h3⟩ := check_iff.1 h
  simp only [Ty.nodes, Ty.nodesL] at h1
  have ha := Ty.highL_mem (ts := [a, b]) 0 a (by simp)
  have hb := Ty.highL_mem (ts := [a, b]) 0 b (by simp)
  have hr := (Ty.right_kids h3).2
  simp only [Ty.rightL, Bool.and_eq_true] at hr
  simp only [Ty.high] at h2 ⊢
  exact ⟨check_iff.2 ⟨by omega, by omega, hr.1⟩, check_iff.2 ⟨by omega, by omega, hr.2.1⟩, by omega, by omega⟩
theorem un_check : Ty.un.check = 0 := check_iff.2 ⟨by simp [Ty.un, Ty.nodes, Ty.nodesL], by simp [Ty.un, Ty.high, Ty.highL], by simp [Ty.un, Ty.right, Ty.rightL, partsF]⟩
theorem ground_base {k : Int} (h : (Ty.mk k []).check = 0) (hk : k ≠ 0) : (Ty.mk k []).ground.1 = .mk k [] := by
  have hr := (Ty.right_kids (check_iff.1 h).2.2).1
  simp only [List.length_nil] at hr
  simp [Ty.ground, h, Ty.k, hk, hr]
theorem ground_pair {k : Int} {a b : Ty} (h : (Ty.mk k [a, b]).check = 0) (hk : k ≠ 0) : (Ty.mk k [a, b]).ground.1 = .mk k [.un, .un] := by
  have hr := (Ty.right_kids (check_iff.1 h).2.2).1
  have hr : partsF k = 2 := by simpa using hr
  simp [Ty.ground, h, Ty.k, hk, hr, List.replicate, Ty.un]

inductive OfR (lab : Int) : Bool → Ty → Ty → Cn → Prop
  | id (neg k us) : OfR lab neg (.mk k []) (.mk k us) (.mk 0 (.mk k []) .un 0 false [])
  | inn (neg k ts us c) (hk : k ≠ 0) (hc : (Ty.mk k ts).check = 0) (h : OfR lab neg (.mk k ts) (Ty.mk k ts).ground.1 c) : OfR lab neg (.mk k ts) (.mk 0 us) (part 7 c (.mk 2 (Ty.mk k ts).ground.1 .un 0 false []))
  | out (neg k ts us c) (hk : k ≠ 0) (hc : (Ty.mk k ts).check = 0) (h : OfR lab neg (Ty.mk k ts).ground.1 (.mk k ts) c) : OfR lab neg (.mk 0 us) (.mk k ts) (part 7 (.mk 3 (Ty.mk k ts).ground.1 .un lab neg []) c)
  | fn (neg f0 f1 t0 t1 c d) (h : OfR lab (!neg) t0 f0 c) (h' : OfR lab neg f1 t1 d) : OfR lab neg (.mk 3 [f0, f1]) (.mk 3 [t0, t1]) (part 4 c d)
  | two (neg k f0 f1 t0 t1 c d) (hk : k = 4 ∨ k = 5) (h : OfR lab neg f0 t0 c) (h' : OfR lab neg f1 t1 d) : OfR lab neg (.mk k [f0, f1]) (.mk k [t0, t1]) (part (k + 1) c d)

theorem OfR.does {lab : Int} {neg : Bool} {a b : Ty} {c : Cn} (h : OfR lab neg a b c) : OfD lab neg a b c := by
  induction h with
  | id neg k us => exact of_id lab neg k us
  | inn neg k ts us c hk hc h ih => exact of_in hk (Ty.right_fits _ (check_iff.1 hc).2.2) ih
  | out neg k ts us c hk hc h ih => exact of_out hk (Ty.right_fits _ (check_iff.1 hc).2.2) ih
  | fn neg f0 f1 t0 t1 c d h h' ih ih' => exact of_fun ih ih'
  | two neg k f0 f1 t0 t1 c d hk h h' ih ih' => exact of_two hk ih ih'

def Ty.rank (t : Ty) : Int := if t.k = 0 then 0 else t.high
theorem rank_le (t : Ty) : 0 ≤ t.rank ∧ t.rank ≤ t.high := by
  have := Ty.high_pos t
  unfold Ty.rank; split <;> omega
theorem Ty.levL_two {a b c d : Ty} : Ty.levL [a, b] [c, d] = (a.lev c && b.lev d) := by simp [Ty.levL]
theorem un_lev (a : Ty) : a.lev .un = true ∧ Ty.un.lev a = true := by cases a; simp [Ty.lev, Ty.un]
mutual
theorem Ty.lev_symm : ∀ a b : Ty, a.right = true → b.right = true → a.lev b = true → b.lev a = true
  | .mk k ts, .mk k' us, ha, hb, h => by
    simp only [Ty.lev] at h ⊢
    by_cases h0 : k = 0 ∨ k' = 0
    · rw [if_pos (Or.symm h0)]
    · rw [if_neg h0] at h
      rw [if_neg (fun hc => h0 (Or.symm hc))]
      by_cases h1 : k = k'
      · subst h1
        simp only [ne_eq, not_true_eq_false, if_false] at h ⊢
        have ra := Ty.right_kids ha
        have rb := Ty.right_kids hb
        exact Ty.levL_symm ts us ra.2 rb.2 (by have := ra.1; have := rb.1; omega) h
      · rw [if_pos h1] at h; cases h
theorem Ty.levL_symm : ∀ ts us : List Ty, Ty.rightL ts = true → Ty.rightL us = true → ts.length = us.length → Ty.levL ts us = true → Ty.levL us ts = true
  | [], [], _, _, _, _ => rfl
  | [], _ :: _, _, _, hl, _ => by simp at hl
  | _ :: _, [], _, _, hl, _ => by simp at hl
  | t :: r, u :: s, h1, h2, hl, h => by
    simp only [Ty.levL, Ty.rightL, Bool.and_eq_true] at *
    exact ⟨Ty.lev_symm t u h1.1 h2.1 h.1, Ty.levL_symm r s h1.2 h2.2 (by simpa using hl) h.2⟩
end

theorem un_right : Ty.un.right = true := (check_iff.1 un_check).2.2
theorem unun {k : Int} {a b : Ty} (h : (Ty.mk k [a, b]).check = 0) (hk : k ≠ 0) : (Ty.mk k [.un, .un]).check = 0 ∧ (Ty.mk k [.un, .un]).rank ≤ (Ty.mk k [a, b]).high ∧ (Ty.mk k [.un, .un]).lev (.mk k [a, b]) = true ∧ (Ty.mk k [a, b]).lev (.mk k [.un, .un]) = true := by
  have hr := (Ty.right_kids (check_iff.1 h).2.2).1
  have hr : partsF k = 2 := by simpa using hr
  have hp := Ty.high_pos a
  obtain ⟨_, _, h1, h2⟩ := check_pair h
  have e : (Ty.mk k [.un, .un]).high = 2 := by simp [Ty.high, Ty.highL, Ty.un, maxI]
  refine ⟨check_iff.2 ⟨by simp [Ty.nodes, Ty.nodesL, Ty.un], by omega, by rw [Ty.right, hr]; simp [Ty.rightL, un_right]⟩, ?_, ?_, ?_⟩
  · have := (rank_le (Ty.mk k [.un, .un])).2
    omega
  · simp [Ty.lev, hk, Ty.levL_two, (un_lev a).2, (un_lev b).2]
  · simp [Ty.lev, hk, Ty.levL_two, (un_lev a).1, (un_lev b).1]
theorem of_exists (lab : Int) : ∀ (N : Nat) (neg : Bool) (a b : Ty), a.check = 0 → b.check = 0 → a.lev b = true →
    2 * maxI a.rank b.rank + (if a.k = 0 ∨ b.k = 0 then 1 else 0) ≤ (N : Int) → ∃ c, OfR lab neg a b c := by
  intro N
  induction N using Nat.strongRecOn with
  | _ N ih =>
    intro neg a b ha hb hl hN
    obtain ⟨k, ts⟩ := a
    obtain ⟨k', us⟩ := b
    have sa := right_shape (check_iff.1 ha).2.2
    have sb := right_shape (check_iff.1 hb).2.2
    have ra := rank_le (.mk k ts)
    have rb := rank_le (.mk k' us)
    by_cases hk : k = k'
    · subst hk
      rcases sa with ⟨rfl, _⟩ | ⟨a0, a1, rfl, hka, _⟩
      · exact ⟨_, .id neg k us⟩
      · rcases sb with ⟨rfl, hkb⟩ | ⟨b0, b1, rfl, hkb, _⟩
        · omega
        have h0 : k ≠ 0 := by omega
        have hl2 : Ty.levL [a0, a1] [b0, b1] = true := by simpa [Ty.lev, h0] using hl
        rw [Ty.levL_two, Bool.and_eq_true] at hl2
        obtain ⟨ca0, ca1, ha0, ha1⟩ := check_pair ha
        obtain ⟨cb0, cb1, hb0, hb1⟩ := check_pair hb
        have e1 : (Ty.mk k [a0, a1]).rank = (Ty.mk k [a0, a1]).high := by simp [Ty.rank, Ty.k, h0]
        have e2 : (Ty.mk k [b0, b1]).rank = (Ty.mk k [b0, b1]).high := by simp [Ty.rank, Ty.k, h0]
        have hm := le_maxI (a := (Ty.mk k [a0, a1]).rank) (b := (Ty.mk k [b0, b1]).rank)
        have q0 := rank_le a0
        have q1 := rank_le a1
        have p0 := rank_le b0
        have p1 := rank_le b1
        have hN' : 2 * maxI (Ty.mk k [a0, a1]).rank (Ty.mk k [b0, b1]).rank ≤ (N : Int) := by split at hN <;> omega
        have hN1 : 1 ≤ N := by omega
        have step : ∀ (neg : Bool) (x y : Ty), x.check = 0 → y.check = 0 → x.lev y = true → x.rank + 1 ≤ maxI (Ty.mk k [a0, a1]).rank (Ty.mk k [b0, b1]).rank → y.rank + 1 ≤ maxI (Ty.mk k [a0, a1]).rank (Ty.mk k [b0, b1]).rank → ∃ c, OfR lab neg x y c := by
          intro neg x y cx cy hxy h1 h2
          have h3 : maxI x.rank y.rank + 1 ≤ maxI (Ty.mk k [a0, a1]).rank (Ty.mk k [b0, b1]).rank := by unfold maxI at *; split <;> omega
          exact ih (N - 1) (by omega) neg x y cx cy hxy (by split <;> omega)
        rcases hka with rfl | hka
        · obtain ⟨c, hc⟩ := step (!neg) b0 a0 cb0 ca0 (Ty.lev_symm _ _ (check_iff.1 ca0).2.2 (check_iff.1 cb0).2.2 hl2.1) (by omega) (by omega)
          obtain ⟨d, hd⟩ := step neg a1 b1 ca1 cb1 hl2.2 (by omega) (by omega)
          exact ⟨_, .fn neg a0 a1 b0 b1 c d hc hd⟩
        · obtain ⟨c, hc⟩ := step neg a0 b0 ca0 cb0 hl2.1 (by omega) (by omega)
          obtain ⟨d, hd⟩ := step neg a1 b1 ca1 cb1 hl2.2 (by omega) (by omega)
          exact ⟨_, .two neg k a0 a1 b0 b1 c d hka hc hd⟩
    · -- one of the two is unknown
      have h0 : k = 0 ∨ k' = 0 := by
        apply Decidable.byContradiction
        intro hc
        simp [Ty.lev, hc, hk] at hl
      rcases h0 with rfl | rfl
      · have hk' : k' ≠ 0 := fun h => hk h.symm
        have e2 : (Ty.mk k' us).rank = (Ty.mk k' us).high := by simp [Ty.rank, Ty.k, hk']
        have e1 : (Ty.mk 0 ts).rank = 0 := by simp [Ty.rank, Ty.k]
        have hg : ∃ c, OfR lab neg (Ty.mk k' us).ground.1 (.mk k' us) c := by
          rcases sb with ⟨rfl, _⟩ | ⟨b0, b1, rfl, _, _⟩
          · rw [ground_base hb hk']; exact ⟨_, .id neg k' []⟩
          · rw [ground_pair hb hk']
            obtain ⟨g1, g2, g3, g4⟩ := unun hb hk'
            have hm := le_maxI (a := (Ty.mk 0 ts).rank) (b := (Ty.mk k' [b0, b1]).rank)
            have hN' : 2 * maxI (Ty.mk 0 ts).rank (Ty.mk k' [b0, b1]).rank + 1 ≤ (N : Int) := by simpa [Ty.k] using hN
            have hmm : maxI (Ty.mk k' [.un, .un]).rank (Ty.mk k' [b0, b1]).rank ≤ maxI (Ty.mk 0 ts).rank (Ty.mk k' [b0, b1]).rank := by rw [e2] at hm ⊢; exact maxI_le (by omega) (by omega)
            exact ih (N - 1) (by have := hm.2; omega) neg _ _ g1 hb g3 (by simp only [Ty.k, hk', or_self, if_false]; have := hm.2; omega)
        obtain ⟨c, hc⟩ := hg
        exact ⟨_, .out neg k' us ts c hk' hb hc⟩
      · have e1 : (Ty.mk k ts).rank = (Ty.mk k ts).high := by simp [Ty.rank, Ty.k, hk]
        have hg : ∃ c, OfR lab neg (.mk k ts) (Ty.mk k ts).ground.1 c := by
          rcases sa with ⟨rfl, _⟩ | ⟨b0, b1, rfl, _, _⟩
          · rw [ground_base ha hk]; exact ⟨_, .id neg k []⟩
          · rw [ground_pair ha hk]
            obtain ⟨g1, g2, g3, g4⟩ := unun ha hk
            have hm := le_maxI (a := (Ty.mk k [b0, b1]).rank) (b := (Ty.mk 0 us).rank)
            have hN' : 2 * maxI (Ty.mk k [b0, b1]).rank (Ty.mk 0 us).rank + 1 ≤ (N : Int) := by simpa [Ty.k] using hN
            have hmm : maxI (Ty.mk k [b0, b1]).rank (Ty.mk k [.un, .un]).rank ≤ maxI (Ty.mk k [b0, b1]).rank (Ty.mk 0 us).rank := by rw [e1] at hm ⊢; exact maxI_le (by omega) (by omega)
            exact ih (N - 1) (by have := hm.1; omega) neg _ _ ha g1 g4 (by simp only [Ty.k, hk, or_self, if_false]; have := hm.1; omega)
        obtain ⟨c, hc⟩ := hg
        exact ⟨_, .inn neg k ts us c hk ha hc⟩
end Go.Proofs.Ytopgmopdjiahmaa.Lg

/- Coercions: the coercion of a cast. Conditions: none; plain definitions and lemmas. -/
set_option linter.unusedVariables false
set_option linter.unusedSimpArgs false
set_option maxRecDepth 100000
set_option maxHeartbeats 1000000
namespace Go.Proofs.Ytopgmopdjiahmaa.Lg
open Go Go.RowKit Go.Proofs

theorem zero_cells : Cn.zero.cells = [.int .i8 0, .int .i8 0, .slice [], .int .i8 0, .slice [], .int .i64 0, .bool false, .slice []] := by
  simp [Cn.zero, Cn.cells, Cn.cellsL, Ty.un, Ty.k, Ty.ts, Ty.cellsL]
/-- a label as a number with a side -/
def labN (lab : Int) : Int := if lab < 0 then -lab else lab
def labS (lab : Int) : Bool := decide (lab < 0)
def labIn (lab : Int) : Bool := decide (lab ≠ 0 ∧ -2147483648 ≤ lab ∧ lab ≤ 2147483648)

/-- the answer of coerce.Of: the coercion, the error -/
inductive OfA (a b : Ty) (lab : Int) : Cn → Int → Prop
  | e1 (h : a.check ≠ 0) : OfA a b lab .zero a.check
  | e2 (h : a.check = 0) (h' : b.check ≠ 0) : OfA a b lab .zero b.check
  | e3 (h : a.check = 0) (h' : b.check = 0) (h2 : a.lev b = false ∨ labIn lab = false) : OfA a b lab .zero 150
  | e4 (c : Cn) (h : a.check = 0) (h' : b.check = 0) (h2 : a.lev b = true) (h3 : labIn lab = true) (hc : OfR (labN lab) (labS lab) a b c) (he : c.chk.2.2 ≠ 0) : OfA a b lab .zero c.chk.2.2
  | ok (c : Cn) (h : a.check = 0) (h' : b.check = 0) (h2 : a.lev b = true) (h3 : labIn lab = true) (hc : OfR (labN lab) (labS lab) a b c) (he : c.chk.2.2 = 0) : OfA a b lab c 0

theorem part_fits {k : Int} {a b : Cn} (ha : a.fits) (hb : b.fits) : (part k a b).fits := ⟨un_fits, un_fits, by simp, by omega, ha, hb, trivial⟩
theorem OfR.fits {lab : Int} (hlab : 0 ≤ lab ∧ lab ≤ 2147483648) {neg : Bool} {a b : Ty} {c : Cn} (h : OfR lab neg a b c) : c.fits := by
  induction h with
  | id neg k us => exact ⟨⟨by simp, trivial⟩, un_fits, by simp, by omega, trivial⟩
  | inn neg k ts us c hk hc h ih => exact part_fits ih ⟨ground_fits _, un_fits, by simp, by omega, trivial⟩
  | out neg k ts us c hk hc h ih => exact part_fits ⟨ground_fits _, un_fits, by simp, by omega, trivial⟩ ih
  | fn neg f0 f1 t0 t1 c d h h' ih ih' => exact part_fits ih ih'
  | two neg k f0 f1 t0 t1 c d hk h h' ih ih' => exact part_fits ih ih'

theorem coerceOf_does (a b : Ty) (ha : a.fits) (hb : b.fits) (lab : Int) (hl : -9223372036854775808 ≤ lab ∧ lab ≤ 9223372036854775807) :
    ∃ c e, OfA a b lab c e ∧ Does Try.prog 11 [.imm false (.agg a.cells), .imm false (.agg b.cells), .imm false (.int .i64 lab)] [] (.ret false (.tup [.agg c.cells, .int .i64 e])) [] := by
  have c1 := check_does a ha
  have c2 := check_does b hb
  have g := agree_does a b ha hb
  simp only [Ty.cells_eq] at c1 c2 g
  by_cases h1 : a.check ≠ 0
  · refine ⟨_, _, .e1 h1, ?_⟩
    rw [zero_cells]
    simp only [Ty.cells_eq]
    refine does11 (by rfl) (by rfl) ?_
    (try simp (implicitDefEqProofs := false) (maxSteps := 2000000) only [go_sem, ↓reduceIte, Nat.reduceEqDiff, reduceCtorEq, Nat.reduceAdd, Nat.reduceSub, Nat.reduceLeDiff, Nat.reduceLT, Nat.reduceMul, Int.reduceToNat, Int.reduceLT, Int.reduceLE])
    refine CallK_do c1 ?_
    (try simp (implicitDefEqProofs := false) (maxSteps := 2000000) only [go_sem, ↓reduceIte, Nat.reduceEqDiff, reduceCtorEq, Nat.reduceAdd, Nat.reduceSub, Nat.reduceLeDiff, Nat.reduceLT, Nat.reduceMul, Int.reduceToNat, Int.reduceLT, Int.reduceLE, show (a.check != 0) = true from by simpa using h1])
  have h1 : a.check = 0 := Decidable.not_not.1 h1
  by_cases h2 : b.check ≠ 0
  · refine ⟨_, _, .e2 h1 h2, ?_⟩
    rw [zero_cells]
    simp only [Ty.cells_eq]
    refine does11 (by rfl) (by rfl) ?_
    (try simp (implicitDefEqProofs := false) (maxSteps := 2000000) only [go_sem, ↓reduceIte, Nat.reduceEqDiff, reduceCtorEq, Nat.reduceAdd, Nat.reduceSub, Nat.reduceLeDiff, Nat.reduceLT, Nat.reduceMul, Int.reduceToNat, Int.reduceLT, Int.reduceLE])
    refine CallK_do c1 ?_
    (try simp (implicitDefEqProofs := false) (maxSteps := 2000000) only [go_sem, ↓reduceIte, Nat.reduceEqDiff, reduceCtorEq, Nat.reduceAdd, Nat.reduceSub, Nat.reduceLeDiff, Nat.reduceLT, Nat.reduceMul, Int.reduceToNat, Int.reduceLT, Int.reduceLE, h1, show ((0 : Int) != 0) = false from rfl])
    refine CallK_do c2 ?_
    (try simp (implicitDefEqProofs := false) (maxSteps := 2000000) only [go_sem, ↓reduceIte, Nat.reduceEqDiff, reduceCtorEq, Nat.reduceAdd, Nat.reduceSub, Nat.reduceLeDiff, Nat.reduceLT, Nat.reduceMul, Int.reduceToNat, Int.reduceLT, Int.reduceLE, show (b.check != 0) = true from by simpa using h2])
  have h2 : b.check = 0 := Decidable.not_not.1 h2
  have hag : a.agree b = a.lev b := by simp [Ty.agree, h1, h2]
  rw [hag] at g
  by_cases h3 : a.lev b = false ∨ labIn lab = false
  · refine ⟨_, _, .e3 h1 h2 h3, ?_⟩
    rw [zero_cells]
    simp only [Ty.cells_eq]
    refine does11 (by rfl) (by rfl) ?_
    (try simp (implicitDefEqProofs := false) (maxSteps := 2000000) only [go_sem, ↓reduceIte, Nat.reduceEqDiff, reduceCtorEq, Nat.reduceAdd, Nat.reduceSub, Nat.reduceLeDiff, Nat.reduceLT, Nat.reduceMul, Int.reduceToNat, Int.reduceLT, Int.reduceLE])
    refine CallK_do c1 ?_
    (try simp (implicitDefEqProofs := false) (maxSteps := 2000000) only [go_sem, ↓reduceIte, Nat.reduceEqDiff, reduceCtorEq, Nat.reduceAdd, Nat.reduceSub, Nat.reduceLeDiff, Nat.reduceLT, Nat.reduceMul, Int.reduceToNat, Int.reduceLT, Int.reduceLE, h1, show ((0 : Int) != 0) = false from rfl])
    refine CallK_do c2 ?_
    (try simp (implicitDefEqProofs := false) (maxSteps := 2000000) only [go_sem, ↓reduceIte, Nat.reduceEqDiff, reduceCtorEq, Nat.reduceAdd, Nat.reduceSub, Nat.reduceLeDiff, Nat.reduceLT, Nat.reduceMul, Int.reduceToNat, Int.reduceLT, Int.reduceLE, h2, show ((0 : Int) != 0) = false from rfl])
    refine CallK_do g ?_
    cases hlv : a.lev b with
    | false => (try simp (implicitDefEqProofs := false) (maxSteps := 2000000) only [go_sem, ↓reduceIte, Nat.reduceEqDiff, reduceCtorEq, Nat.reduceAdd, Nat.reduceSub, Nat.reduceLeDiff, Nat.reduceLT, Nat.reduceMul, Int.reduceToNat, Int.reduceLT, Int.reduceLE])
    | true =>
      have h3 : labIn lab = false := by simpa [hlv] using h3
      by_cases l0 : lab = 0
      · (try simp (implicitDefEqProofs := false) (maxSteps := 2000000) only [go_sem, ↓reduceIte, Nat.reduceEqDiff, reduceCtorEq, Nat.reduceAdd, Nat.reduceSub, Nat.reduceLeDiff, Nat.reduceLT, Nat.reduceMul, Int.reduceToNat, Int.reduceLT, Int.reduceLE, show (lab == 0) = true from by simpa using l0])
      by_cases l1 : lab < -2147483648
      · (try simp (implicitDefEqProofs := false) (maxSteps := 2000000) only [go_sem, ↓reduceIte, Nat.reduceEqDiff, reduceCtorEq, Nat.reduceAdd, Nat.reduceSub, Nat.reduceLeDiff, Nat.reduceLT, Nat.reduceMul, Int.reduceToNat, Int.reduceLT, Int.reduceLE, show (lab == 0) = false from by simpa using l0, decide_eq_true l1])
      have l2 : lab > 2147483648 := by simp [labIn] at h3; omega
      (try simp (implicitDefEqProofs := false) (maxSteps := 2000000) only [go_sem, ↓reduceIte, Nat.reduceEqDiff, reduceCtorEq, Nat.reduceAdd, Nat.reduceSub, Nat.reduceLeDiff, Nat.reduceLT, Nat.reduceMul, Int.reduceToNat, Int.reduceLT, Int.reduceLE, show (lab == 0) = false from by simpa using l0, decide_eq_false l1, decide_eq_true l2])
  have hlv : a.lev b = true := by
    cases h : a.lev b with
    | true => rfl
    | false => exact absurd (.inl h) h3
  have hin : labIn lab = true := by
    cases h : labIn lab with
    | true => rfl
    | false => exact absurd (.inr h) h3
  have hin2 := of_decide_eq_true hin
  have l0 := hin2.1
  have l1 : ¬ lab < -2147483648 := by omega
  have l2 : ¬ lab > 2147483648 := by omega
  have hn : 0 ≤ labN lab ∧ labN lab ≤ 2147483648 := by unfold labN; split <;> omega
  have hra := rank_le a
  have hrb := rank_le b
  obtain ⟨c, hc⟩ := of_exists (labN lab) (2 * maxI a.rank b.rank + 1).toNat (labS lab) a b h1 h2 hlv (by
    have := (le_maxI (a := a.rank) (b := b.rank)).1
    split <;> omega)
  have hd := hc.does
  have hcf := hc.fits hn
  have hck := cchk_does c hcf
  unfold OfD at hd
  by_cases he : c.chk.2.2 = 0
  · refine ⟨c, 0, .ok c h1 h2 hlv hin hc he, ?_⟩
    simp only [Ty.cells_eq] at hd ⊢
    refine does11 (by rfl) (by rfl) ?_
    (try simp (implicitDefEqProofs := false) (maxSteps := 2000000) only [go_sem, ↓reduceIte, Nat.reduceEqDiff, reduceCtorEq, Nat.reduceAdd, Nat.reduceSub, Nat.reduceLeDiff, Nat.reduceLT, Nat.reduceMul, Int.reduceToNat, Int.reduceLT, Int.reduceLE])
    refine CallK_do c1 ?_
    (try simp (implicitDefEqProofs := false) (maxSteps := 2000000) only [go_sem, ↓reduceIte, Nat.reduceEqDiff, reduceCtorEq, Nat.reduceAdd, Nat.reduceSub, Nat.reduceLeDiff, Nat.reduceLT, Nat.reduceMul, Int.reduceToNat, Int.reduceLT, Int.reduceLE, h1, show ((0 : Int) != 0) = false from rfl])
    refine CallK_do c2 ?_
    (try simp (implicitDefEqProofs := false) (maxSteps := 2000000) only [go_sem, ↓reduceIte, Nat.reduceEqDiff, reduceCtorEq, Nat.reduceAdd, Nat.reduceSub, Nat.reduceLeDiff, Nat.reduceLT, Nat.reduceMul, Int.reduceToNat, Int.reduceLT, Int.reduceLE, h2, show ((0 : Int) != 0) = false from rfl])
    refine CallK_do g ?_
    rw [hlv]
    (try simp (implicitDefEqProofs := false) (maxSteps := 2000000) only [go_sem, ↓reduceIte, Nat.reduceEqDiff, reduceCtorEq, Nat.reduceAdd, Nat.reduceSub, Nat.reduceLeDiff, Nat.reduceLT, Nat.reduceMul, Int.reduceToNat, Int.reduceLT, Int.reduceLE, show (lab == 0) = false from by simpa using l0, decide_eq_false l1, decide_eq_false l2])
    have rest : ∀ (f1 f2 : Bool) (t : List (Nat × LV)), (t = [(3, .imm false (.ptr [.int .i8 a.k, .slice (Ty.cellsL a.ts)] 0)), (4, .imm false (.ptr [.int .i8 b.k, .slice (Ty.cellsL b.ts)] 0)), (6, .loc (.own 6) 0), (10, .loc (.own 46) 0)] ∨ t = [(2, .imm false (.int .i64 lab)), (3, .imm false (.ptr [.int .i8 a.k, .slice (Ty.cellsL a.ts)] 0)), (4, .imm false (.ptr [.int .i8 b.k, .slice (Ty.cellsL b.ts)] 0)), (6, .loc (.own 6) 0), (10, .loc (.own 46) 0), (48, .imm true (.bool false))]) → awp Try.prog (.seq r11_12 (.seq (.seq r11_13 (.seq r11_14 (.cond (.t 66) (.seq r11_15 .ret) .skip))) (.seq r11_16 .ret))) (Fin [MR.c 6 (some 8), MR.t 7] (.ret false (.tup [.agg c.cells, .int .i64 0])) [])
        ⟨t,
          [(.own 6, .var [.imm true (.int .i8 0), .imm true (.int .i8 0), .nils, .imm true (.int .i8 0), .nils, .imm true (.int .i64 0), .imm true (.bool false), .nils]), (.own 46, .var [.imm f1 (.int .i64 (labN lab)), .imm f2 (.bool (labS lab))])], []⟩ := by
      intro f1 f2 t ht
      rcases ht with rfl | rfl
      · (try simp (implicitDefEqProofs := false) (maxSteps := 2000000) only [go_sem, ↓reduceIte, Nat.reduceEqDiff, reduceCtorEq, Nat.reduceAdd, Nat.reduceSub, Nat.reduceLeDiff, Nat.reduceLT, Nat.reduceMul, Int.reduceToNat, Int.reduceLT, Int.reduceLE])
        refine CallBK_do hd ?_
        obtain ⟨k, ty, to, lab2, neg2, ks⟩ := c
        simp only [Cn.cells] at hck ⊢
        (try simp (implicitDefEqProofs := false) (maxSteps := 2000000) only [go_sem, ↓reduceIte, Nat.reduceEqDiff, reduceCtorEq, Nat.reduceAdd, Nat.reduceSub, Nat.reduceLeDiff, Nat.reduceLT, Nat.reduceMul, Int.reduceToNat, Int.reduceLT, Int.reduceLE])
        unfold chV at hck
        generalize (Cn.mk k ty to lab2 neg2 ks).chk = e at hck he
        obtain ⟨e1, e2, e3⟩ := e
        simp only [Ty.cells_eq] at hck
        refine CallK_do hck ?_
        have he : e3 = 0 := he
        subst he
        (try simp (implicitDefEqProofs := false) (maxSteps := 2000000) only [go_sem, ↓reduceIte, Nat.reduceEqDiff, reduceCtorEq, Nat.reduceAdd, Nat.reduceSub, Nat.reduceLeDiff, Nat.reduceLT, Nat.reduceMul, Int.reduceToNat, Int.reduceLT, Int.reduceLE, show ((0 : Int) != 0) = false from rfl])
      · (try simp (implicitDefEqProofs := false) (maxSteps := 2000000) only [go_sem, ↓reduceIte, Nat.reduceEqDiff, reduceCtorEq, Nat.reduceAdd, Nat.reduceSub, Nat.reduceLeDiff, Nat.reduceLT, Nat.reduceMul, Int.reduceToNat, Int.reduceLT, Int.reduceLE])
        refine CallBK_do hd ?_
        obtain ⟨k, ty, to, lab2, neg2, ks⟩ := c
        simp only [Cn.cells] at hck ⊢
        (try simp (implicitDefEqProofs := false) (maxSteps := 2000000) only [go_sem, ↓reduceIte, Nat.reduceEqDiff, reduceCtorEq, Nat.reduceAdd, Nat.reduceSub, Nat.reduceLeDiff, Nat.reduceLT, Nat.reduceMul, Int.reduceToNat, Int.reduceLT, Int.reduceLE])
        unfold chV at hck
        generalize (Cn.mk k ty to lab2 neg2 ks).chk = e at hck he
        obtain ⟨e1, e2, e3⟩ := e
        simp only [Ty.cells_eq] at hck
        refine CallK_do hck ?_
        have he : e3 = 0 := he
        subst he
        (try simp (implicitDefEqProofs := false) (maxSteps := 2000000) only [go_sem, ↓reduceIte, Nat.reduceEqDiff, reduceCtorEq, Nat.reduceAdd, Nat.reduceSub, Nat.reduceLeDiff, Nat.reduceLT, Nat.reduceMul, Int.reduceToNat, Int.reduceLT, Int.reduceLE, show ((0 : Int) != 0) = false from rfl])
    by_cases hneg : lab < 0
    · have e1 : labN lab = 0 - lab := by unfold labN; rw [if_pos hneg]; omega
      have e2 : labS lab = true := by simp [labS, hneg]
      have := rest true true _ (.inl rfl)
      rw [e1, e2] at this
      (try simp (implicitDefEqProofs := false) (maxSteps := 2000000) only [go_sem, ↓reduceIte, Nat.reduceEqDiff, reduceCtorEq, Nat.reduceAdd, Nat.reduceSub, Nat.reduceLeDiff, Nat.reduceLT, Nat.reduceMul, Int.reduceToNat, Int.reduceLT, Int.reduceLE] at this)
      (try simp (implicitDefEqProofs := false) (maxSteps := 2000000) only [go_sem, ↓reduceIte, Nat.reduceEqDiff, reduceCtorEq, Nat.reduceAdd, Nat.reduceSub, Nat.reduceLeDiff, Nat.reduceLT, Nat.reduceMul, Int.reduceToNat, Int.reduceLT, Int.reduceLE, decide_eq_true hneg, wrap64 (n := 0 - lab) (by omega) (by omega)])
      exact this
    · have e1 : labN lab = lab := by unfold labN; rw [if_neg hneg]
      have e2 : labS lab = false := by simp [labS, hneg]
      have := rest false true _ (.inr rfl)
      rw [e1, e2] at this
      (try simp (implicitDefEqProofs := false) (maxSteps := 2000000) only [go_sem, ↓reduceIte, Nat.reduceEqDiff, reduceCtorEq, Nat.reduceAdd, Nat.reduceSub, Nat.reduceLeDiff, Nat.reduceLT, Nat.reduceMul, Int.reduceToNat, Int.reduceLT, Int.reduceLE] at this)
      (try simp (implicitDefEqProofs := false) (maxSteps := 2000000) only [go_sem, ↓reduceIte, Nat.reduceEqDiff, reduceCtorEq, Nat.reduceAdd, Nat.reduceSub, Nat.reduceLeDiff, Nat.reduceLT, Nat.reduceMul, Int.reduceToNat, Int.reduceLT, Int.reduceLE, decide_eq_false hneg])
      exact this
  · refine ⟨_, _, .e4 c h1 h2 hlv hin hc he, ?_⟩
    simp only [Ty.cells_eq] at hd ⊢
    refine does11 (by rfl) (by rfl) ?_
    (try simp (implicitDefEqProofs := false) (maxSteps := 2000000) only [go_sem, ↓reduceIte, Nat.reduceEqDiff, reduceCtorEq, Nat.reduceAdd, Nat.reduceSub, Nat.reduceLeDiff, Nat.reduceLT, Nat.reduceMul, Int.reduceToNat, Int.reduceLT, Int.reduceLE])
    refine CallK_do c1 ?_
    (try simp (implicitDefEqProofs := false) (maxSteps := 2000000) only [go_sem, ↓reduceIte, Nat.reduceEqDiff, reduceCtorEq, Nat.reduceAdd, Nat.reduceSub, Nat.reduceLeDiff, Nat.reduceLT, Nat.reduceMul, Int.reduceToNat, Int.reduceLT, Int.reduceLE, h1, show ((0 : Int) != 0) = false from rfl])
    refine CallK_do c2 ?_
    (try simp (implicitDefEqProofs := false) (maxSteps := 2000000) only [go_sem, ↓reduceIte, Nat.reduceEqDiff, reduceCtorEq, Nat.reduceAdd, Nat.reduceSub, Nat.reduceLeDiff, Nat.reduceLT, Nat.reduceMul, Int.reduceToNat, Int.reduceLT, Int.reduceLE, h2, show ((0 : Int) != 0) = false from rfl])
    refine CallK_do g ?_
    rw [hlv]
    (try simp (implicitDefEqProofs := false) (maxSteps := 2000000) only [go_sem, ↓reduceIte, Nat.reduceEqDiff, reduceCtorEq, Nat.reduceAdd, Nat.reduceSub, Nat.reduceLeDiff, Nat.reduceLT, Nat.reduceMul, Int.reduceToNat, Int.reduceLT, Int.reduceLE, show (lab == 0) = false from by simpa using l0, decide_eq_false l1, decide_eq_false l2])
    have rest : ∀ (f1 f2 : Bool) (t : List (Nat × LV)), (t = [(3, .imm false (.ptr [.int .i8 a.k, .slice (Ty.cellsL a.ts)] 0)), (4, .imm false (.ptr [.int .i8 b.k, .slice (Ty.cellsL b.ts)] 0)), (6, .loc (.own 6) 0), (10, .loc (.own 46) 0)] ∨ t = [(2, .imm false (.int .i64 lab)), (3, .imm false (.ptr [.int .i8 a.k, .slice (Ty.cellsL a.ts)] 0)), (4, .imm false (.ptr [.int .i8 b.k, .slice (Ty.cellsL b.ts)] 0)), (6, .loc (.own 6) 0), (10, .loc (.own 46) 0), (48, .imm true (.bool false))]) → awp Try.prog (.seq r11_12 (.seq (.seq r11_13 (.seq r11_14 (.cond (.t 66) (.seq r11_15 .ret) .skip))) (.seq r11_16 .ret))) (Fin [MR.c 6 (some 8), MR.t 7] (.ret false (.tup [.agg Cn.zero.cells, .int .i64 c.chk.2.2])) [])
        ⟨t,
          [(.own 6, .var [.imm true (.int .i8 0), .imm true (.int .i8 0), .nils, .imm true (.int .i8 0), .nils, .imm true (.int .i64 0), .imm true (.bool false), .nils]), (.own 46, .var [.imm f1 (.int .i64 (labN lab)), .imm f2 (.bool (labS lab))])], []⟩ := by
      intro f1 f2 t ht
      rcases ht with rfl | rfl
      · (try simp (implicitDefEqProofs := false) (maxSteps := 2000000) only [go_sem, ↓reduceIte, Nat.reduceEqDiff, reduceCtorEq, Nat.reduceAdd, Nat.reduceSub, Nat.reduceLeDiff, Nat.reduceLT, Nat.reduceMul, Int.reduceToNat, Int.reduceLT, Int.reduceLE])
        refine CallBK_do hd ?_
        unfold chV at hck
        generalize c.chk = e at hck he
        obtain ⟨k, ty, to, lab2, neg2, ks⟩ := c
        simp only [Cn.cells] at hck
        rw [zero_cells]
        simp only [Cn.cells]
        (try simp (implicitDefEqProofs := false) (maxSteps := 2000000) only [go_sem, ↓reduceIte, Nat.reduceEqDiff, reduceCtorEq, Nat.reduceAdd, Nat.reduceSub, Nat.reduceLeDiff, Nat.reduceLT, Nat.reduceMul, Int.reduceToNat, Int.reduceLT, Int.reduceLE])
        obtain ⟨e1, e2, e3⟩ := e
        simp only [Ty.cells_eq] at hck
        refine CallK_do hck ?_
        (try simp (implicitDefEqProofs := false) (maxSteps := 2000000) only [go_sem, ↓reduceIte, Nat.reduceEqDiff, reduceCtorEq, Nat.reduceAdd, Nat.reduceSub, Nat.reduceLeDiff, Nat.reduceLT, Nat.reduceMul, Int.reduceToNat, Int.reduceLT, Int.reduceLE, show (e3 != 0) = true from by simpa using he])
      · (try simp (implicitDefEqProofs := false) (maxSteps := 2000000) only [go_sem, ↓reduceIte, Nat.reduceEqDiff, reduceCtorEq, Nat.reduceAdd, Nat.reduceSub, Nat.reduceLeDiff, Nat.reduceLT, Nat.reduceMul, Int.reduceToNat, Int.reduceLT, Int.reduceLE])
        refine CallBK_do hd ?_
        unfold chV at hck
        generalize c.chk = e at hck he
        obtain ⟨k, ty, to, lab2, neg2, ks⟩ := c
        simp only [Cn.cells] at hck
        rw [zero_cells]
        simp only [Cn.cells]
        (try simp (implicitDefEqProofs := false) (maxSteps := 2000000) only [go_sem, ↓reduceIte, Nat.reduceEqDiff, reduceCtorEq, Nat.reduceAdd, Nat.reduceSub, Nat.reduceLeDiff, Nat.reduceLT, Nat.reduceMul, Int.reduceToNat, Int.reduceLT, Int.reduceLE])
        obtain ⟨e1, e2, e3⟩ := e
        simp only [Ty.cells_eq] at hck
        refine CallK_do hck ?_
        (try simp (implicitDefEqProofs := false) (maxSteps := 2000000) only [go_sem, ↓reduceIte, Nat.reduceEqDiff, reduceCtorEq, Nat.reduceAdd, Nat.reduceSub, Nat.reduceLeDiff, Nat.reduceLT, Nat.reduceMul, Int.reduceToNat, Int.reduceLT, Int.reduceLE, show (e3 != 0) = true from by simpa using he])
    by_cases hneg : lab < 0
    · have e1 : labN lab = 0 - lab := by unfold labN; rw [if_pos hneg]; omega
      have e2 : labS lab = true := by simp [labS, hneg]
      have := rest true true _ (.inl rfl)
      rw [e1, e2] at this
      (try simp (implicitDefEqProofs := false) (maxSteps := 2000000) only [go_sem, ↓reduceIte, Nat.reduceEqDiff, reduceCtorEq, Nat.reduceAdd, Nat.reduceSub, Nat.reduceLeDiff, Nat.reduceLT, Nat.reduceMul, Int.reduceToNat, Int.reduceLT, Int.reduceLE] at this)
      (try simp (implicitDefEqProofs := false) (maxSteps := 2000000) only [go_sem, ↓reduceIte, Nat.reduceEqDiff, reduceCtorEq, Nat.reduceAdd, Nat.reduceSub, Nat.reduceLeDiff, Nat.reduceLT, Nat.reduceMul, Int.reduceToNat, Int.reduceLT, Int.reduceLE, decide_eq_true hneg, wrap64 (n := 0 - lab) (by omega) (by omega)])
      exact this
    · have e1 : labN lab = lab := by unfold labN; rw [if_neg hneg]
      have e2 : labS lab = false := by simp [labS, hneg]
      have := rest false true _ (.inr rfl)
      rw [e1, e2] at this
      (try simp (implicitDefEqProofs := false) (maxSteps := 2000000) only [go_sem, ↓reduceIte, Nat.reduceEqDiff, reduceCtorEq, Nat.reduceAdd, Nat.reduceSub, Nat.reduceLeDiff, Nat.reduceLT, Nat.reduceMul, Int.reduceToNat, Int.reduceLT, Int.reduceLE] at this)
      (try simp (implicitDefEqProofs := false) (maxSteps := 2000000) only [go_sem, ↓reduceIte, Nat.reduceEqDiff, reduceCtorEq, Nat.reduceAdd, Nat.reduceSub, Nat.reduceLeDiff, Nat.reduceLT, Nat.reduceMul, Int.reduceToNat, Int.reduceLT, Int.reduceLE, decide_eq_false hneg])
      exact this
end Go.Proofs.Ytopgmopdjiahmaa.Lg
