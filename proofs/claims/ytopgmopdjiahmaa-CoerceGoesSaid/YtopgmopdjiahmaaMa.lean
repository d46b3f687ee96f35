/- MADE BY PROGRAM (gen/mk.py): the code of functions, as the logic sees it. Conditions: none; plain definitions and lemmas. -/
import Derived.Test.YtopgmopdjiahmaaLr
import Derived.Test.YtopgmopdjiahmaaProg
set_option linter.unusedVariables false
set_option maxRecDepth 100000
namespace Go.Proofs.Ytopgmopdjiahmaa.Lg
open Go Go.RowKit Go.Proofs

theorem mixed : Try.prog.follows .mixedOrders = true := by kernel_rfl

/-! ### 66: lychgate/types.parts -/
def r66_0 : MC := .reg [⟨none, (.mv 2 (.c (.imm true (.int .i64 0))))⟩] none (some ([0], []))
theorem w66_0 {Q : AEx → St → Prop} {σ : St} : awp Try.prog r66_0 Q σ = awpOps Try.prog [⟨none, (.mv 2 (.c (.imm true (.int .i64 0))))⟩] σ [] (KReg (some ([0], [])) Q) (KPan Q) := rfl
def r66_1 : MC := .reg [⟨none, (.mv 3 (.t 0))⟩] none (some ([3], []))
theorem w66_1 {Q : AEx → St → Prop} {σ : St} : awp Try.prog r66_1 Q σ = awpOps Try.prog [⟨none, (.mv 3 (.t 0))⟩] σ [] (KReg (some ([3], [])) Q) (KPan Q) := rfl
def r66_2 : MC := .reg [⟨none, (.bin 5 .eql (.t 3) (.c (.imm true (.int .i8 0))))⟩, ⟨none, (.mv 4 (.t 5))⟩] none (some ([3, 4], []))
theorem w66_2 {Q : AEx → St → Prop} {σ : St} : awp Try.prog r66_2 Q σ = awpOps Try.prog [⟨none, (.bin 5 .eql (.t 3) (.c (.imm true (.int .i8 0))))⟩, ⟨none, (.mv 4 (.t 5))⟩] σ [] (KReg (some ([3, 4], [])) Q) (KPan Q) := rfl
def r66_3 : MC := .reg [⟨none, (.bin 6 .eql (.t 3) (.c (.imm true (.int .i8 1))))⟩, ⟨none, (.mv 4 (.t 6))⟩] none (some ([3, 4], []))
theorem w66_3 {Q : AEx → St → Prop} {σ : St} : awp Try.prog r66_3 Q σ = awpOps Try.prog [⟨none, (.bin 6 .eql (.t 3) (.c (.imm true (.int .i8 1))))⟩, ⟨none, (.mv 4 (.t 6))⟩] σ [] (KReg (some ([3, 4], [])) Q) (KPan Q) := rfl
def r66_4 : MC := .reg [⟨none, (.bin 7 .eql (.t 3) (.c (.imm true (.int .i8 2))))⟩, ⟨none, (.mv 4 (.t 7))⟩] none (some ([3, 4], []))
theorem w66_4 {Q : AEx → St → Prop} {σ : St} : awp Try.prog r66_4 Q σ = awpOps Try.prog [⟨none, (.bin 7 .eql (.t 3) (.c (.imm true (.int .i8 2))))⟩, ⟨none, (.mv 4 (.t 7))⟩] σ [] (KReg (some ([3, 4], [])) Q) (KPan Q) := rfl
def r66_5 : MC := .reg [⟨none, (.mv 2 (.c (.imm true (.int .i64 0))))⟩] none (some ([2], []))
theorem w66_5 {Q : AEx → St → Prop} {σ : St} : awp Try.prog r66_5 Q σ = awpOps Try.prog [⟨none, (.mv 2 (.c (.imm true (.int .i64 0))))⟩] σ [] (KReg (some ([2], [])) Q) (KPan Q) := rfl
def r66_6 : MC := .reg [⟨none, (.bin 9 .eql (.t 3) (.c (.imm true (.int .i8 3))))⟩, ⟨none, (.mv 8 (.t 9))⟩] none (some ([3, 8], []))
theorem w66_6 {Q : AEx → St → Prop} {σ : St} : awp Try.prog r66_6 Q σ = awpOps Try.prog [⟨none, (.bin 9 .eql (.t 3) (.c (.imm true (.int .i8 3))))⟩, ⟨none, (.mv 8 (.t 9))⟩] σ [] (KReg (some ([3, 8], [])) Q) (KPan Q) := rfl
def r66_7 : MC := .reg [⟨none, (.bin 10 .eql (.t 3) (.c (.imm true (.int .i8 4))))⟩, ⟨none, (.mv 8 (.t 10))⟩] none (some ([3, 8], []))
theorem w66_7 {Q : AEx → St → Prop} {σ : St} : awp Try.prog r66_7 Q σ = awpOps Try.prog [⟨none, (.bin 10 .eql (.t 3) (.c (.imm true (.int .i8 4))))⟩, ⟨none, (.mv 8 (.t 10))⟩] σ [] (KReg (some ([3, 8], [])) Q) (KPan Q) := rfl
def r66_8 : MC := .reg [⟨none, (.bin 11 .eql (.t 3) (.c (.imm true (.int .i8 5))))⟩, ⟨none, (.mv 8 (.t 11))⟩] none (some ([8], []))
theorem w66_8 {Q : AEx → St → Prop} {σ : St} : awp Try.prog r66_8 Q σ = awpOps Try.prog [⟨none, (.bin 11 .eql (.t 3) (.c (.imm true (.int .i8 5))))⟩, ⟨none, (.mv 8 (.t 11))⟩] σ [] (KReg (some ([8], [])) Q) (KPan Q) := rfl
def r66_9 : MC := .reg [⟨none, (.mv 2 (.c (.imm true (.int .i64 2))))⟩] none (some ([2], []))
theorem w66_9 {Q : AEx → St → Prop} {σ : St} : awp Try.prog r66_9 Q σ = awpOps Try.prog [⟨none, (.mv 2 (.c (.imm true (.int .i64 2))))⟩] σ [] (KReg (some ([2], [])) Q) (KPan Q) := rfl
def r66_10 : MC := .reg [⟨none, (.mv 2 (.c (.imm true (.int .i64 (-1)))))⟩] none (some ([2], []))
theorem w66_10 {Q : AEx → St → Prop} {σ : St} : awp Try.prog r66_10 Q σ = awpOps Try.prog [⟨none, (.mv 2 (.c (.imm true (.int .i64 (-1)))))⟩] σ [] (KReg (some ([2], [])) Q) (KPan Q) := rfl
def my66 : MC := (.seq r66_0 (.seq (.seq r66_1 (.block 0 (.seq (.seq r66_2 (.cond (.t 4) .skip (.seq r66_3 (.cond (.t 4) .skip r66_4)))) (.cond (.t 4) (.seq r66_5 .ret) (.seq (.seq r66_6 (.cond (.t 8) .skip (.seq r66_7 (.cond (.t 8) .skip r66_8)))) (.cond (.t 8) (.seq r66_9 .ret) .skip)))))) (.seq r66_10 .ret)))
theorem my66_is : trC Try.prog ⟨[], []⟩ ⟨[],
  [(0, [0], []), (1, [3], []), (2, [3, 4], []), (3, [3, 4], []), (4, [3, 4], []), (5, [2], []), (6, [3, 8], []), (7, [3, 8], []), (8, [8], []), (9, [2], []), (10, [2], [])]⟩ 12 (Try.f66.body.getD .skip) = some my66 := by kernel_rfl
theorem does66 {args : List LV} (hl : args.length.ble 12 = true) {S S' : List (List LV)} (hS : S'.length = S.length) {o : Out} (h : Lt ⟨numE 0 args, argS 0 S, []⟩ (awp Try.prog my66 (Fin [(.t 2)] o S'))) : Does Try.prog 66 args S o S' :=
  does_of_awp mixed Try.func66 (by kernel_rfl) (by kernel_rfl) my66_is (by kernel_rfl) (Nat.le_of_ble_eq_true hl) hS h
attribute [go_sem ↓] w66_0 w66_1 w66_2 w66_3 w66_4 w66_5 w66_6 w66_7 w66_8 w66_9 w66_10
attribute [go_sem] my66
/-! ### 37: lychgate/types.Check -/
def r37_0 : MC := .reg [⟨none, (.boxc 1 (.t 0))⟩, ⟨none, (.mv 2 (.c (.imm true (.int .i64 0))))⟩] none (some ([1], []))
theorem w37_0 {Q : AEx → St → Prop} {σ : St} : awp Try.prog r37_0 Q σ = awpOps Try.prog [⟨none, (.boxc 1 (.t 0))⟩, ⟨none, (.mv 2 (.c (.imm true (.int .i64 0))))⟩] σ [] (KReg (some ([1], [])) Q) (KPan Q) := rfl
def r37_1 : MC := .reg [⟨none, (.load 4 (.t 1) (some 2))⟩, ⟨none, (.call (some 5) (.c (.fn 38 [])) [(.t 4)])⟩, ⟨none, (.bin 6 .gtr (.t 5) (.c (.imm true (.int .i64 8192))))⟩, ⟨none, (.mv 3 (.t 6))⟩] none (some ([1, 3], []))
theorem w37_1 {Q : AEx → St → Prop} {σ : St} : awp Try.prog r37_1 Q σ = awpOps Try.prog [⟨none, (.load 4 (.t 1) (some 2))⟩, ⟨none, (.call (some 5) (.c (.fn 38 [])) [(.t 4)])⟩, ⟨none, (.bin 6 .gtr (.t 5) (.c (.imm true (.int .i64 8192))))⟩, ⟨none, (.mv 3 (.t 6))⟩] σ [] (KReg (some ([1, 3], [])) Q) (KPan Q) := rfl
def r37_2 : MC := .reg [⟨none, (.mv 2 (.c (.imm true (.int .i64 32))))⟩] none (some ([2], []))
theorem w37_2 {Q : AEx → St → Prop} {σ : St} : awp Try.prog r37_2 Q σ = awpOps Try.prog [⟨none, (.mv 2 (.c (.imm true (.int .i64 32))))⟩] σ [] (KReg (some ([2], [])) Q) (KPan Q) := rfl
def r37_3 : MC := .reg [⟨none, (.load 8 (.t 1) (some 2))⟩, ⟨none, (.call (some 9) (.c (.fn 70 [])) [(.t 8)])⟩, ⟨none, (.bin 10 .gtr (.t 9) (.c (.imm true (.int .i64 200))))⟩, ⟨none, (.mv 7 (.t 10))⟩] none (some ([1, 7], []))
theorem w37_3 {Q : AEx → St → Prop} {σ : St} : awp Try.prog r37_3 Q σ = awpOps Try.prog [⟨none, (.load 8 (.t 1) (some 2))⟩, ⟨none, (.call (some 9) (.c (.fn 70 [])) [(.t 8)])⟩, ⟨none, (.bin 10 .gtr (.t 9) (.c (.imm true (.int .i64 200))))⟩, ⟨none, (.mv 7 (.t 10))⟩] σ [] (KReg (some ([1, 7], [])) Q) (KPan Q) := rfl
def r37_4 : MC := .reg [⟨none, (.mv 2 (.c (.imm true (.int .i64 31))))⟩] none (some ([2], []))
theorem w37_4 {Q : AEx → St → Prop} {σ : St} : awp Try.prog r37_4 Q σ = awpOps Try.prog [⟨none, (.mv 2 (.c (.imm true (.int .i64 31))))⟩] σ [] (KReg (some ([2], [])) Q) (KPan Q) := rfl
def r37_5 : MC := .reg [⟨none, (.load 12 (.t 1) (some 2))⟩, ⟨none, (.call (some 13) (.c (.fn 71 [])) [(.t 12)])⟩, ⟨none, (.un 14 .not (.t 13))⟩, ⟨none, (.mv 11 (.t 14))⟩] none (some ([11], []))
theorem w37_5 {Q : AEx → St → Prop} {σ : St} : awp Try.prog r37_5 Q σ = awpOps Try.prog [⟨none, (.load 12 (.t 1) (some 2))⟩, ⟨none, (.call (some 13) (.c (.fn 71 [])) [(.t 12)])⟩, ⟨none, (.un 14 .not (.t 13))⟩, ⟨none, (.mv 11 (.t 14))⟩] σ [] (KReg (some ([11], [])) Q) (KPan Q) := rfl
def r37_6 : MC := .reg [⟨none, (.mv 2 (.c (.imm true (.int .i64 20))))⟩] none (some ([2], []))
theorem w37_6 {Q : AEx → St → Prop} {σ : St} : awp Try.prog r37_6 Q σ = awpOps Try.prog [⟨none, (.mv 2 (.c (.imm true (.int .i64 20))))⟩] σ [] (KReg (some ([2], [])) Q) (KPan Q) := rfl
def r37_7 : MC := .reg [⟨none, (.mv 2 (.c (.imm true (.int .i64 0))))⟩] none (some ([2], []))
theorem w37_7 {Q : AEx → St → Prop} {σ : St} : awp Try.prog r37_7 Q σ = awpOps Try.prog [⟨none, (.mv 2 (.c (.imm true (.int .i64 0))))⟩] σ [] (KReg (some ([2], [])) Q) (KPan Q) := rfl
def my37 : MC := (.seq r37_0 (.seq (.block 0 (.seq r37_1 (.cond (.t 3) (.seq r37_2 .ret) (.seq r37_3 (.cond (.t 7) (.seq r37_4 .ret) (.seq r37_5 (.cond (.t 11) (.seq r37_6 .ret) .skip))))))) (.seq r37_7 .ret)))
theorem my37_is : trC Try.prog ⟨[1], []⟩ ⟨[],
  [(0, [1], []), (1, [1, 3], []), (2, [2], []), (3, [1, 7], []), (4, [2], []), (5, [11], []), (6, [2], []), (7, [2], [])]⟩ 15 (Try.f37.body.getD .skip) = some my37 := by kernel_rfl
theorem does37 {args : List LV} (hl : args.length.ble 15 = true) {S S' : List (List LV)} (hS : S'.length = S.length) {o : Out} (h : Lt ⟨numE 0 args, argS 0 S, []⟩ (awp Try.prog my37 (Fin [(.t 2)] o S'))) : Does Try.prog 37 args S o S' :=
  does_of_awp mixed Try.func37 (by kernel_rfl) (by kernel_rfl) my37_is (by kernel_rfl) (Nat.le_of_ble_eq_true hl) hS h
attribute [go_sem ↓] w37_0 w37_1 w37_2 w37_3 w37_4 w37_5 w37_6 w37_7
attribute [go_sem] my37
/-! ### 70: lychgate/types.Depth -/
def r70_0 : MC := .reg [⟨none, (.boxc 1 (.t 0))⟩, ⟨none, (.mv 2 (.c (.imm true (.int .i64 0))))⟩] none (some ([1], []))
theorem w70_0 {Q : AEx → St → Prop} {σ : St} : awp Try.prog r70_0 Q σ = awpOps Try.prog [⟨none, (.boxc 1 (.t 0))⟩, ⟨none, (.mv 2 (.c (.imm true (.int .i64 0))))⟩] σ [] (KReg (some ([1], [])) Q) (KPan Q) := rfl
def r70_1 : MC := .reg [⟨none, (.load 3 (.t 1) (some 2))⟩, ⟨none, (.call (some 4) (.c (.fn 38 [])) [(.t 3)])⟩, ⟨none, (.bin 5 .gtr (.t 4) (.c (.imm true (.int .i64 8192))))⟩] none (some ([1, 5], []))
theorem w70_1 {Q : AEx → St → Prop} {σ : St} : awp Try.prog r70_1 Q σ = awpOps Try.prog [⟨none, (.load 3 (.t 1) (some 2))⟩, ⟨none, (.call (some 4) (.c (.fn 38 [])) [(.t 3)])⟩, ⟨none, (.bin 5 .gtr (.t 4) (.c (.imm true (.int .i64 8192))))⟩] σ [] (KReg (some ([1, 5], [])) Q) (KPan Q) := rfl
def r70_2 : MC := .reg [⟨none, (.mv 2 (.c (.imm true (.int .i64 201))))⟩] none (some ([2], []))
theorem w70_2 {Q : AEx → St → Prop} {σ : St} : awp Try.prog r70_2 Q σ = awpOps Try.prog [⟨none, (.mv 2 (.c (.imm true (.int .i64 201))))⟩] σ [] (KReg (some ([2], [])) Q) (KPan Q) := rfl
def r70_3 : MC := .reg [⟨none, (.load 6 (.t 1) (some 2))⟩, ⟨none, (.call (some 7) (.c (.fn 109 [])) [(.t 6), (.c (.imm true (.int .i64 201)))])⟩, ⟨none, (.mv 2 (.t 7))⟩] none (some ([2], []))
theorem w70_3 {Q : AEx → St → Prop} {σ : St} : awp Try.prog r70_3 Q σ = awpOps Try.prog [⟨none, (.load 6 (.t 1) (some 2))⟩, ⟨none, (.call (some 7) (.c (.fn 109 [])) [(.t 6), (.c (.imm true (.int .i64 201)))])⟩, ⟨none, (.mv 2 (.t 7))⟩] σ [] (KReg (some ([2], [])) Q) (KPan Q) := rfl
def my70 : MC := (.seq r70_0 (.seq (.seq r70_1 (.cond (.t 5) (.seq r70_2 .ret) .skip)) (.seq r70_3 .ret)))
theorem my70_is : trC Try.prog ⟨[1], []⟩ ⟨[],
  [(0, [1], []), (1, [1, 5], []), (2, [2], []), (3, [2], [])]⟩ 8 (Try.f70.body.getD .skip) = some my70 := by kernel_rfl
theorem does70 {args : List LV} (hl : args.length.ble 8 = true) {S S' : List (List LV)} (hS : S'.length = S.length) {o : Out} (h : Lt ⟨numE 0 args, argS 0 S, []⟩ (awp Try.prog my70 (Fin [(.t 2)] o S'))) : Does Try.prog 70 args S o S' :=
  does_of_awp mixed Try.func70 (by kernel_rfl) (by kernel_rfl) my70_is (by kernel_rfl) (Nat.le_of_ble_eq_true hl) hS h
attribute [go_sem ↓] w70_0 w70_1 w70_2 w70_3
attribute [go_sem] my70
/-! ### 71: lychgate/types.right -/
def r71_0 : MC := .reg [⟨none, (.boxc 1 (.t 0))⟩, ⟨none, (.mv 2 (.c (.imm true (.bool false))))⟩] none (some ([1], []))
theorem w71_0 {Q : AEx → St → Prop} {σ : St} : awp Try.prog r71_0 Q σ = awpOps Try.prog [⟨none, (.boxc 1 (.t 0))⟩, ⟨none, (.mv 2 (.c (.imm true (.bool false))))⟩] σ [] (KReg (some ([1], [])) Q) (KPan Q) := rfl
def r71_1 : MC := .reg [⟨none, (.fad 5 (.t 1) 0)⟩, ⟨none, (.load 6 (.t 5) none)⟩, ⟨none, (.call (some 7) (.c (.fn 66 [])) [(.t 6)])⟩, ⟨none, (.fad 8 (.t 1) 1)⟩, ⟨none, (.load 9 (.t 8) none)⟩, ⟨none, (.len 10 (.t 9))⟩, ⟨none, (.bin 11 .neq (.t 7) (.t 10))⟩] (some []) (some ([1, 11], []))
theorem w71_1 {Q : AEx → St → Prop} {σ : St} : awp Try.prog r71_1 Q σ = awpOps Try.prog [⟨none, (.fad 5 (.t 1) 0)⟩, ⟨none, (.load 6 (.t 5) none)⟩, ⟨none, (.call (some 7) (.c (.fn 66 [])) [(.t 6)])⟩, ⟨none, (.fad 8 (.t 1) 1)⟩, ⟨none, (.load 9 (.t 8) none)⟩, ⟨none, (.len 10 (.t 9))⟩, ⟨none, (.bin 11 .neq (.t 7) (.t 10))⟩] σ [] (KDraw [] (some ([1, 11], [])) Q) KNo := rfl
def r71_2 : MC := .reg [⟨none, (.mv 2 (.c (.imm true (.bool false))))⟩] none (some ([2], []))
theorem w71_2 {Q : AEx → St → Prop} {σ : St} : awp Try.prog r71_2 Q σ = awpOps Try.prog [⟨none, (.mv 2 (.c (.imm true (.bool false))))⟩] σ [] (KReg (some ([2], [])) Q) (KPan Q) := rfl
def r71_3 : MC := .reg [⟨none, (.fad 12 (.t 1) 1)⟩, ⟨none, (.load 13 (.t 12) none)⟩, ⟨none, (.len 14 (.t 13))⟩, ⟨none, (.mv 15 (.c (.imm true (.int .i64 0))))⟩] none (some ([13, 14, 15], []))
theorem w71_3 {Q : AEx → St → Prop} {σ : St} : awp Try.prog r71_3 Q σ = awpOps Try.prog [⟨none, (.fad 12 (.t 1) 1)⟩, ⟨none, (.load 13 (.t 12) none)⟩, ⟨none, (.len 14 (.t 13))⟩, ⟨none, (.mv 15 (.c (.imm true (.int .i64 0))))⟩] σ [] (KReg (some ([13, 14, 15], [])) Q) (KPan Q) := rfl
def r71_4 : MC := .reg [⟨none, (.bin 16 .lss (.t 15) (.t 14))⟩] none (some ([13, 14, 15, 16], []))
theorem w71_4 {Q : AEx → St → Prop} {σ : St} : awp Try.prog r71_4 Q σ = awpOps Try.prog [⟨none, (.bin 16 .lss (.t 15) (.t 14))⟩] σ [] (KReg (some ([13, 14, 15, 16], [])) Q) (KPan Q) := rfl
def r71_5 : MC := .reg [⟨none, (.iad 17 (.t 13) (.t 15) 2)⟩, ⟨none, (.load 18 (.t 17) (some 2))⟩, ⟨none, (.alloc 4 [(.imm true (.int .i8 0)), .nils])⟩, ⟨none, (.store (.t 4) (.t 18) 2)⟩] none (some ([4, 13, 14, 15], [4]))
theorem w71_5 {Q : AEx → St → Prop} {σ : St} : awp Try.prog r71_5 Q σ = Get (σ.prep [4]) (fun σ => awpOps Try.prog [⟨none, (.iad 17 (.t 13) (.t 15) 2)⟩, ⟨none, (.load 18 (.t 17) (some 2))⟩, ⟨none, (.alloc 4 [(.imm true (.int .i8 0)), .nils])⟩, ⟨none, (.store (.t 4) (.t 18) 2)⟩] σ [] (KReg (some ([4, 13, 14, 15], [4])) Q) (KPan Q)) := awpR_get ⟨rfl, rfl⟩
def r71_6 : MC := .reg [⟨none, (.load 19 (.t 4) (some 2))⟩, ⟨none, (.call (some 20) (.c (.fn 71 [])) [(.t 19)])⟩, ⟨none, (.un 21 .not (.t 20))⟩] none (some ([13, 14, 15, 21], []))
theorem w71_6 {Q : AEx → St → Prop} {σ : St} : awp Try.prog r71_6 Q σ = awpOps Try.prog [⟨none, (.load 19 (.t 4) (some 2))⟩, ⟨none, (.call (some 20) (.c (.fn 71 [])) [(.t 19)])⟩, ⟨none, (.un 21 .not (.t 20))⟩] σ [] (KReg (some ([13, 14, 15, 21], [])) Q) (KPan Q) := rfl
def r71_7 : MC := .reg [⟨none, (.mv 2 (.c (.imm true (.bool false))))⟩] none (some ([2], []))
theorem w71_7 {Q : AEx → St → Prop} {σ : St} : awp Try.prog r71_7 Q σ = awpOps Try.prog [⟨none, (.mv 2 (.c (.imm true (.bool false))))⟩] σ [] (KReg (some ([2], [])) Q) (KPan Q) := rfl
def r71_8 : MC := .reg [⟨none, (.bin 22 .add (.t 15) (.c (.imm true (.int .i64 1))))⟩, ⟨none, (.mv 15 (.t 22))⟩] none (some ([13, 14, 15], []))
theorem w71_8 {Q : AEx → St → Prop} {σ : St} : awp Try.prog r71_8 Q σ = awpOps Try.prog [⟨none, (.bin 22 .add (.t 15) (.c (.imm true (.int .i64 1))))⟩, ⟨none, (.mv 15 (.t 22))⟩] σ [] (KReg (some ([13, 14, 15], [])) Q) (KPan Q) := rfl
def l71_0 : MC := (.seq r71_4 (.seq (.cond (.t 16) .skip (.exit 0)) (.seq (.block 1 (.seq r71_5 (.seq r71_6 (.cond (.t 21) (.seq r71_7 .ret) .skip)))) r71_8)))
def r71_9 : MC := .reg [⟨none, (.mv 2 (.c (.imm true (.bool true))))⟩] none (some ([2], []))
theorem w71_9 {Q : AEx → St → Prop} {σ : St} : awp Try.prog r71_9 Q σ = awpOps Try.prog [⟨none, (.mv 2 (.c (.imm true (.bool true))))⟩] σ [] (KReg (some ([2], [])) Q) (KPan Q) := rfl
def my71 : MC := (.seq r71_0 (.seq (.seq r71_1 (.cond (.t 11) (.seq r71_2 .ret) .skip)) (.seq (.seq r71_3 (.block 0 (.loop l71_0))) (.seq r71_9 .ret))))
theorem my71_is : trC Try.prog ⟨[1], []⟩ ⟨[(1, [[], [0], [0, 1], [], [3], [3, 4], [0, 1, 2, 3, 4, 5]], [])],
  [(0, [1], []), (1, [1, 11], []), (2, [2], []), (3, [13, 14, 15], []), (4, [13, 14, 15, 16], []), (5, [4, 13, 14, 15], [4]), (6, [13, 14, 15, 21], []), (7, [2], []), (8, [13, 14, 15], []), (9, [2], [])]⟩ 23 (Try.f71.body.getD .skip) = some my71 := by kernel_rfl
theorem does71 {args : List LV} (hl : args.length.ble 23 = true) {S S' : List (List LV)} (hS : S'.length = S.length) {o : Out} (h : Lt ⟨numE 0 args, argS 0 S, []⟩ (awp Try.prog my71 (Fin [(.t 2)] o S'))) : Does Try.prog 71 args S o S' :=
  does_of_awp mixed Try.func71 (by kernel_rfl) (by kernel_rfl) my71_is (by kernel_rfl) (Nat.le_of_ble_eq_true hl) hS h
attribute [go_sem ↓] w71_0 w71_1 w71_2 w71_3 w71_4 w71_5 w71_6 w71_7 w71_8 w71_9
attribute [go_sem] my71
/-! ### 50: lychgate/types.equal -/
def r50_0 : MC := .reg [⟨none, (.boxc 2 (.t 0))⟩, ⟨none, (.boxc 3 (.t 1))⟩, ⟨none, (.mv 4 (.c (.imm true (.bool false))))⟩] none (some ([2, 3], []))
theorem w50_0 {Q : AEx → St → Prop} {σ : St} : awp Try.prog r50_0 Q σ = awpOps Try.prog [⟨none, (.boxc 2 (.t 0))⟩, ⟨none, (.boxc 3 (.t 1))⟩, ⟨none, (.mv 4 (.c (.imm true (.bool false))))⟩] σ [] (KReg (some ([2, 3], [])) Q) (KPan Q) := rfl
def r50_1 : MC := .reg [⟨none, (.fad 6 (.t 2) 0)⟩, ⟨none, (.load 7 (.t 6) none)⟩, ⟨none, (.fad 8 (.t 3) 0)⟩, ⟨none, (.load 9 (.t 8) none)⟩, ⟨none, (.bin 10 .neq (.t 7) (.t 9))⟩] none (some ([2, 3, 10], []))
theorem w50_1 {Q : AEx → St → Prop} {σ : St} : awp Try.prog r50_1 Q σ = awpOps Try.prog [⟨none, (.fad 6 (.t 2) 0)⟩, ⟨none, (.load 7 (.t 6) none)⟩, ⟨none, (.fad 8 (.t 3) 0)⟩, ⟨none, (.load 9 (.t 8) none)⟩, ⟨none, (.bin 10 .neq (.t 7) (.t 9))⟩] σ [] (KReg (some ([2, 3, 10], [])) Q) (KPan Q) := rfl
def r50_2 : MC := .reg [⟨none, (.mv 4 (.c (.imm true (.bool false))))⟩] none (some ([4], []))
theorem w50_2 {Q : AEx → St → Prop} {σ : St} : awp Try.prog r50_2 Q σ = awpOps Try.prog [⟨none, (.mv 4 (.c (.imm true (.bool false))))⟩] σ [] (KReg (some ([4], [])) Q) (KPan Q) := rfl
def r50_3 : MC := .reg [⟨none, (.fad 11 (.t 2) 1)⟩, ⟨none, (.load 12 (.t 11) none)⟩, ⟨none, (.len 13 (.t 12))⟩, ⟨none, (.mv 14 (.c (.imm true (.int .i64 0))))⟩] none (some ([2, 3, 13, 14], []))
theorem w50_3 {Q : AEx → St → Prop} {σ : St} : awp Try.prog r50_3 Q σ = awpOps Try.prog [⟨none, (.fad 11 (.t 2) 1)⟩, ⟨none, (.load 12 (.t 11) none)⟩, ⟨none, (.len 13 (.t 12))⟩, ⟨none, (.mv 14 (.c (.imm true (.int .i64 0))))⟩] σ [] (KReg (some ([2, 3, 13, 14], [])) Q) (KPan Q) := rfl
def r50_4 : MC := .reg [⟨none, (.bin 15 .lss (.t 14) (.t 13))⟩] none (some ([2, 3, 13, 14, 15], []))
theorem w50_4 {Q : AEx → St → Prop} {σ : St} : awp Try.prog r50_4 Q σ = awpOps Try.prog [⟨none, (.bin 15 .lss (.t 14) (.t 13))⟩] σ [] (KReg (some ([2, 3, 13, 14, 15], [])) Q) (KPan Q) := rfl
def r50_5 : MC := .reg [⟨none, (.mv 16 (.t 14))⟩, ⟨none, (.mv 5 (.t 16))⟩] none (some ([2, 3, 5, 13, 14], []))
theorem w50_5 {Q : AEx → St → Prop} {σ : St} : awp Try.prog r50_5 Q σ = awpOps Try.prog [⟨none, (.mv 16 (.t 14))⟩, ⟨none, (.mv 5 (.t 16))⟩] σ [] (KReg (some ([2, 3, 5, 13, 14], [])) Q) (KPan Q) := rfl
def r50_6 : MC := .reg [⟨none, (.fad 17 (.t 2) 1)⟩, ⟨none, (.load 18 (.t 17) none)⟩, ⟨none, (.mv 19 (.t 5))⟩, ⟨none, (.iad 20 (.t 18) (.t 19) 2)⟩, ⟨none, (.load 21 (.t 20) (some 2))⟩, ⟨none, (.fad 22 (.t 3) 1)⟩, ⟨none, (.load 23 (.t 22) none)⟩, ⟨none, (.mv 24 (.t 5))⟩, ⟨none, (.iad 25 (.t 23) (.t 24) 2)⟩, ⟨none, (.load 26 (.t 25) (some 2))⟩, ⟨none, (.call (some 27) (.c (.fn 50 [])) [(.t 21), (.t 26)])⟩, ⟨none, (.un 28 .not (.t 27))⟩] (some []) (some ([2, 3, 13, 14, 28], []))
theorem w50_6 {Q : AEx → St → Prop} {σ : St} : awp Try.prog r50_6 Q σ = awpOps Try.prog [⟨none, (.fad 17 (.t 2) 1)⟩, ⟨none, (.load 18 (.t 17) none)⟩, ⟨none, (.mv 19 (.t 5))⟩, ⟨none, (.iad 20 (.t 18) (.t 19) 2)⟩, ⟨none, (.load 21 (.t 20) (some 2))⟩, ⟨none, (.fad 22 (.t 3) 1)⟩, ⟨none, (.load 23 (.t 22) none)⟩, ⟨none, (.mv 24 (.t 5))⟩, ⟨none, (.iad 25 (.t 23) (.t 24) 2)⟩, ⟨none, (.load 26 (.t 25) (some 2))⟩, ⟨none, (.call (some 27) (.c (.fn 50 [])) [(.t 21), (.t 26)])⟩, ⟨none, (.un 28 .not (.t 27))⟩] σ [] (KDraw [] (some ([2, 3, 13, 14, 28], [])) Q) KNo := rfl
def r50_7 : MC := .reg [⟨none, (.mv 4 (.c (.imm true (.bool false))))⟩] none (some ([4], []))
theorem w50_7 {Q : AEx → St → Prop} {σ : St} : awp Try.prog r50_7 Q σ = awpOps Try.prog [⟨none, (.mv 4 (.c (.imm true (.bool false))))⟩] σ [] (KReg (some ([4], [])) Q) (KPan Q) := rfl
def r50_8 : MC := .reg [⟨none, (.bin 29 .add (.t 14) (.c (.imm true (.int .i64 1))))⟩, ⟨none, (.mv 14 (.t 29))⟩] none (some ([2, 3, 13, 14], []))
theorem w50_8 {Q : AEx → St → Prop} {σ : St} : awp Try.prog r50_8 Q σ = awpOps Try.prog [⟨none, (.bin 29 .add (.t 14) (.c (.imm true (.int .i64 1))))⟩, ⟨none, (.mv 14 (.t 29))⟩] σ [] (KReg (some ([2, 3, 13, 14], [])) Q) (KPan Q) := rfl
def l50_0 : MC := (.seq r50_4 (.seq (.cond (.t 15) .skip (.exit 0)) (.seq (.block 1 (.seq r50_5 (.seq r50_6 (.cond (.t 28) (.seq r50_7 .ret) .skip)))) r50_8)))
def r50_9 : MC := .reg [⟨none, (.mv 4 (.c (.imm true (.bool true))))⟩] none (some ([4], []))
theorem w50_9 {Q : AEx → St → Prop} {σ : St} : awp Try.prog r50_9 Q σ = awpOps Try.prog [⟨none, (.mv 4 (.c (.imm true (.bool true))))⟩] σ [] (KReg (some ([4], [])) Q) (KPan Q) := rfl
def my50 : MC := (.seq r50_0 (.seq (.seq r50_1 (.cond (.t 10) (.seq r50_2 .ret) .skip)) (.seq (.seq r50_3 (.block 0 (.loop l50_0))) (.seq r50_9 .ret))))
theorem my50_is : trC Try.prog ⟨[2, 3], []⟩ ⟨[(6, [[], [0], [], [0, 1, 2], [0, 1, 2, 3], [], [5], [], [5, 6, 7], [5, 6, 7, 8], [0, 1, 2, 3, 4, 5, 6, 7, 8, 9], [0, 1, 2, 3, 4, 5, 6, 7, 8, 9, 10]], [])],
  [(0, [2, 3], []), (1, [2, 3, 10], []), (2, [4], []), (3, [2, 3, 13, 14], []), (4, [2, 3, 13, 14, 15], []), (5, [2, 3, 5, 13, 14], []), (6, [2, 3, 13, 14, 28], []), (7, [4], []), (8, [2, 3, 13, 14], []), (9, [4], [])]⟩ 30 (Try.f50.body.getD .skip) = some my50 := by kernel_rfl
theorem does50 {args : List LV} (hl : args.length.ble 30 = true) {S S' : List (List LV)} (hS : S'.length = S.length) {o : Out} (h : Lt ⟨numE 0 args, argS 0 S, []⟩ (awp Try.prog my50 (Fin [(.t 4)] o S'))) : Does Try.prog 50 args S o S' :=
  does_of_awp mixed Try.func50 (by kernel_rfl) (by kernel_rfl) my50_is (by kernel_rfl) (Nat.le_of_ble_eq_true hl) hS h
attribute [go_sem ↓] w50_0 w50_1 w50_2 w50_3 w50_4 w50_5 w50_6 w50_7 w50_8 w50_9
attribute [go_sem] my50
/-! ### 109: lychgate/types.deep -/
def r109_0 : MC := .reg [⟨none, (.boxc 2 (.t 0))⟩, ⟨none, (.mv 4 (.c (.imm true (.int .i64 0))))⟩] none (some ([1, 2], []))
theorem w109_0 {Q : AEx → St → Prop} {σ : St} : awp Try.prog r109_0 Q σ = awpOps Try.prog [⟨none, (.boxc 2 (.t 0))⟩, ⟨none, (.mv 4 (.c (.imm true (.int .i64 0))))⟩] σ [] (KReg (some ([1, 2], [])) Q) (KPan Q) := rfl
def r109_1 : MC := .reg [⟨none, (.mv 8 (.t 1))⟩, ⟨none, (.bin 9 .leq (.t 8) (.c (.imm true (.int .i64 1))))⟩] none (some ([1, 2, 9], []))
theorem w109_1 {Q : AEx → St → Prop} {σ : St} : awp Try.prog r109_1 Q σ = awpOps Try.prog [⟨none, (.mv 8 (.t 1))⟩, ⟨none, (.bin 9 .leq (.t 8) (.c (.imm true (.int .i64 1))))⟩] σ [] (KReg (some ([1, 2, 9], [])) Q) (KPan Q) := rfl
def r109_2 : MC := .reg [⟨none, (.mv 10 (.t 1))⟩, ⟨none, (.mv 4 (.t 10))⟩] none (some ([4], []))
theorem w109_2 {Q : AEx → St → Prop} {σ : St} : awp Try.prog r109_2 Q σ = awpOps Try.prog [⟨none, (.mv 10 (.t 1))⟩, ⟨none, (.mv 4 (.t 10))⟩] σ [] (KReg (some ([4], [])) Q) (KPan Q) := rfl
def r109_3 : MC := .reg [⟨none, (.mv 5 (.c (.imm true (.int .i64 0))))⟩] none (some ([1, 2, 5], []))
theorem w109_3 {Q : AEx → St → Prop} {σ : St} : awp Try.prog r109_3 Q σ = awpOps Try.prog [⟨none, (.mv 5 (.c (.imm true (.int .i64 0))))⟩] σ [] (KReg (some ([1, 2, 5], [])) Q) (KPan Q) := rfl
def r109_4 : MC := .reg [⟨none, (.fad 11 (.t 2) 1)⟩, ⟨none, (.load 12 (.t 11) none)⟩, ⟨none, (.len 13 (.t 12))⟩, ⟨none, (.mv 14 (.c (.imm true (.int .i64 0))))⟩] none (some ([1, 5, 12, 13, 14], []))
theorem w109_4 {Q : AEx → St → Prop} {σ : St} : awp Try.prog r109_4 Q σ = awpOps Try.prog [⟨none, (.fad 11 (.t 2) 1)⟩, ⟨none, (.load 12 (.t 11) none)⟩, ⟨none, (.len 13 (.t 12))⟩, ⟨none, (.mv 14 (.c (.imm true (.int .i64 0))))⟩] σ [] (KReg (some ([1, 5, 12, 13, 14], [])) Q) (KPan Q) := rfl
def r109_5 : MC := .reg [⟨none, (.bin 15 .lss (.t 14) (.t 13))⟩] none (some ([1, 5, 12, 13, 14, 15], []))
theorem w109_5 {Q : AEx → St → Prop} {σ : St} : awp Try.prog r109_5 Q σ = awpOps Try.prog [⟨none, (.bin 15 .lss (.t 14) (.t 13))⟩] σ [] (KReg (some ([1, 5, 12, 13, 14, 15], [])) Q) (KPan Q) := rfl
def r109_6 : MC := .reg [⟨none, (.iad 16 (.t 12) (.t 14) 2)⟩, ⟨none, (.load 17 (.t 16) (some 2))⟩, ⟨none, (.alloc 7 [(.imm true (.int .i8 0)), .nils])⟩, ⟨none, (.store (.t 7) (.t 17) 2)⟩] none (some ([1, 5, 7, 12, 13, 14], [7]))
theorem w109_6 {Q : AEx → St → Prop} {σ : St} : awp Try.prog r109_6 Q σ = Get (σ.prep [7]) (fun σ => awpOps Try.prog [⟨none, (.iad 16 (.t 12) (.t 14) 2)⟩, ⟨none, (.load 17 (.t 16) (some 2))⟩, ⟨none, (.alloc 7 [(.imm true (.int .i8 0)), .nils])⟩, ⟨none, (.store (.t 7) (.t 17) 2)⟩] σ [] (KReg (some ([1, 5, 7, 12, 13, 14], [7])) Q) (KPan Q)) := awpR_get ⟨rfl, rfl⟩
def r109_7 : MC := .reg [⟨none, (.mv 18 (.t 5))⟩, ⟨none, (.load 19 (.t 7) (some 2))⟩, ⟨none, (.mv 20 (.t 1))⟩, ⟨none, (.bin 21 .sub (.t 20) (.c (.imm true (.int .i64 1))))⟩, ⟨none, (.call (some 22) (.c (.fn 109 [])) [(.t 19), (.t 21)])⟩, ⟨none, (.mx 23 [(.t 18), (.t 22)])⟩, ⟨none, (.mv 5 (.t 23))⟩] none (some ([1, 5, 12, 13, 14], []))
theorem w109_7 {Q : AEx → St → Prop} {σ : St} : awp Try.prog r109_7 Q σ = awpOps Try.prog [⟨none, (.mv 18 (.t 5))⟩, ⟨none, (.load 19 (.t 7) (some 2))⟩, ⟨none, (.mv 20 (.t 1))⟩, ⟨none, (.bin 21 .sub (.t 20) (.c (.imm true (.int .i64 1))))⟩, ⟨none, (.call (some 22) (.c (.fn 109 [])) [(.t 19), (.t 21)])⟩, ⟨none, (.mx 23 [(.t 18), (.t 22)])⟩, ⟨none, (.mv 5 (.t 23))⟩] σ [] (KReg (some ([1, 5, 12, 13, 14], [])) Q) (KPan Q) := rfl
def r109_8 : MC := .reg [⟨none, (.bin 24 .add (.t 14) (.c (.imm true (.int .i64 1))))⟩, ⟨none, (.mv 14 (.t 24))⟩] none (some ([1, 5, 12, 13, 14], []))
theorem w109_8 {Q : AEx → St → Prop} {σ : St} : awp Try.prog r109_8 Q σ = awpOps Try.prog [⟨none, (.bin 24 .add (.t 14) (.c (.imm true (.int .i64 1))))⟩, ⟨none, (.mv 14 (.t 24))⟩] σ [] (KReg (some ([1, 5, 12, 13, 14], [])) Q) (KPan Q) := rfl
def l109_0 : MC := (.seq r109_5 (.seq (.cond (.t 15) .skip (.exit 0)) (.seq (.block 1 (.seq r109_6 r109_7)) r109_8)))
def r109_9 : MC := .reg [⟨none, (.mv 25 (.t 5))⟩, ⟨none, (.bin 26 .add (.t 25) (.c (.imm true (.int .i64 1))))⟩, ⟨none, (.mv 4 (.t 26))⟩] none (some ([4], []))
theorem w109_9 {Q : AEx → St → Prop} {σ : St} : awp Try.prog r109_9 Q σ = awpOps Try.prog [⟨none, (.mv 25 (.t 5))⟩, ⟨none, (.bin 26 .add (.t 25) (.c (.imm true (.int .i64 1))))⟩, ⟨none, (.mv 4 (.t 26))⟩] σ [] (KReg (some ([4], [])) Q) (KPan Q) := rfl
def my109 : MC := (.seq r109_0 (.seq (.seq r109_1 (.cond (.t 9) (.seq r109_2 .ret) .skip)) (.seq r109_3 (.seq (.seq r109_4 (.block 0 (.loop l109_0))) (.seq r109_9 .ret)))))
theorem my109_is : trC Try.prog ⟨[2], []⟩ ⟨[],
  [(0, [1, 2], []), (1, [1, 2, 9], []), (2, [4], []), (3, [1, 2, 5], []), (4, [1, 5, 12, 13, 14], []), (5, [1, 5, 12, 13, 14, 15], []), (6, [1, 5, 7, 12, 13, 14], [7]), (7, [1, 5, 12, 13, 14], []), (8, [1, 5, 12, 13, 14], []), (9, [4], [])]⟩ 27 (Try.f109.body.getD .skip) = some my109 := by kernel_rfl
theorem does109 {args : List LV} (hl : args.length.ble 27 = true) {S S' : List (List LV)} (hS : S'.length = S.length) {o : Out} (h : Lt ⟨numE 0 args, argS 0 S, []⟩ (awp Try.prog my109 (Fin [(.t 4)] o S'))) : Does Try.prog 109 args S o S' :=
  does_of_awp mixed Try.func109 (by kernel_rfl) (by kernel_rfl) my109_is (by kernel_rfl) (Nat.le_of_ble_eq_true hl) hS h
attribute [go_sem ↓] w109_0 w109_1 w109_2 w109_3 w109_4 w109_5 w109_6 w109_7 w109_8 w109_9
attribute [go_sem] my109
/-! ### 73: (*lychgate/types.counter).count -/
def r73_0 : MC := .reg [⟨none, (.boxc 3 (.t 1))⟩] none (some ([0, 3], []))
theorem w73_0 {Q : AEx → St → Prop} {σ : St} : awp Try.prog r73_0 Q σ = awpOps Try.prog [⟨none, (.boxc 3 (.t 1))⟩] σ [] (KReg (some ([0, 3], [])) Q) (KPan Q) := rfl
def r73_1 : MC := .reg [⟨none, (.mv 6 (.t 0))⟩, ⟨none, (.nilc 7 (.t 6))⟩, ⟨none, (.fad 8 (.t 7) 0)⟩, ⟨none, (.load 9 (.t 8) none)⟩, ⟨none, (.bin 10 .add (.t 9) (.c (.imm true (.int .i64 1))))⟩, ⟨none, (.nilc 11 (.t 6))⟩, ⟨none, (.fad 12 (.t 11) 0)⟩, ⟨none, (.store (.t 12) (.t 10) 1)⟩] none (some ([0, 3], []))
theorem w73_1 {Q : AEx → St → Prop} {σ : St} : awp Try.prog r73_1 Q σ = awpOps Try.prog [⟨none, (.mv 6 (.t 0))⟩, ⟨none, (.nilc 7 (.t 6))⟩, ⟨none, (.fad 8 (.t 7) 0)⟩, ⟨none, (.load 9 (.t 8) none)⟩, ⟨none, (.bin 10 .add (.t 9) (.c (.imm true (.int .i64 1))))⟩, ⟨none, (.nilc 11 (.t 6))⟩, ⟨none, (.fad 12 (.t 11) 0)⟩, ⟨none, (.store (.t 12) (.t 10) 1)⟩] σ [] (KReg (some ([0, 3], [])) Q) (KPan Q) := rfl
def r73_2 : MC := .reg [⟨none, (.mv 13 (.t 0))⟩, ⟨none, (.nilc 14 (.t 13))⟩, ⟨none, (.fad 15 (.t 14) 0)⟩, ⟨none, (.load 16 (.t 15) none)⟩, ⟨none, (.bin 17 .gtr (.t 16) (.c (.imm true (.int .i64 8192))))⟩] none (some ([0, 3, 17], []))
theorem w73_2 {Q : AEx → St → Prop} {σ : St} : awp Try.prog r73_2 Q σ = awpOps Try.prog [⟨none, (.mv 13 (.t 0))⟩, ⟨none, (.nilc 14 (.t 13))⟩, ⟨none, (.fad 15 (.t 14) 0)⟩, ⟨none, (.load 16 (.t 15) none)⟩, ⟨none, (.bin 17 .gtr (.t 16) (.c (.imm true (.int .i64 8192))))⟩] σ [] (KReg (some ([0, 3, 17], [])) Q) (KPan Q) := rfl
def r73_3 : MC := .reg [⟨none, (.build 18 [] [])⟩, ⟨none, (.mkif 19 89 (.t 18))⟩, ⟨none, (.pan (.t 19))⟩] none (some ([0, 3], []))
theorem w73_3 {Q : AEx → St → Prop} {σ : St} : awp Try.prog r73_3 Q σ = awpOps Try.prog [⟨none, (.build 18 [] [])⟩, ⟨none, (.mkif 19 89 (.t 18))⟩, ⟨none, (.pan (.t 19))⟩] σ [] (KReg (some ([0, 3], [])) Q) (KPan Q) := rfl
def r73_4 : MC := .reg [⟨none, (.fad 20 (.t 3) 1)⟩, ⟨none, (.load 21 (.t 20) none)⟩, ⟨none, (.len 22 (.t 21))⟩, ⟨none, (.mv 23 (.c (.imm true (.int .i64 0))))⟩] none (some ([0, 21, 22, 23], []))
theorem w73_4 {Q : AEx → St → Prop} {σ : St} : awp Try.prog r73_4 Q σ = awpOps Try.prog [⟨none, (.fad 20 (.t 3) 1)⟩, ⟨none, (.load 21 (.t 20) none)⟩, ⟨none, (.len 22 (.t 21))⟩, ⟨none, (.mv 23 (.c (.imm true (.int .i64 0))))⟩] σ [] (KReg (some ([0, 21, 22, 23], [])) Q) (KPan Q) := rfl
def r73_5 : MC := .reg [⟨none, (.bin 24 .lss (.t 23) (.t 22))⟩] none (some ([0, 21, 22, 23, 24], []))
theorem w73_5 {Q : AEx → St → Prop} {σ : St} : awp Try.prog r73_5 Q σ = awpOps Try.prog [⟨none, (.bin 24 .lss (.t 23) (.t 22))⟩] σ [] (KReg (some ([0, 21, 22, 23, 24], [])) Q) (KPan Q) := rfl
def r73_6 : MC := .reg [⟨none, (.iad 25 (.t 21) (.t 23) 2)⟩, ⟨none, (.load 26 (.t 25) (some 2))⟩, ⟨none, (.alloc 5 [(.imm true (.int .i8 0)), .nils])⟩, ⟨none, (.store (.t 5) (.t 26) 2)⟩] none (some ([0, 5, 21, 22, 23], [5]))
theorem w73_6 {Q : AEx → St → Prop} {σ : St} : awp Try.prog r73_6 Q σ = Get (σ.prep [5]) (fun σ => awpOps Try.prog [⟨none, (.iad 25 (.t 21) (.t 23) 2)⟩, ⟨none, (.load 26 (.t 25) (some 2))⟩, ⟨none, (.alloc 5 [(.imm true (.int .i8 0)), .nils])⟩, ⟨none, (.store (.t 5) (.t 26) 2)⟩] σ [] (KReg (some ([0, 5, 21, 22, 23], [5])) Q) (KPan Q)) := awpR_get ⟨rfl, rfl⟩
def r73_7 : MC := .reg [⟨none, (.mv 27 (.t 0))⟩, ⟨none, (.load 28 (.t 5) (some 2))⟩, ⟨none, (.callB (some 29) (.c (.fn 73 [])) [(.t 27), (.t 28)] [(.arg 0)])⟩] none (some ([0, 21, 22, 23], []))
theorem w73_7 {Q : AEx → St → Prop} {σ : St} : awp Try.prog r73_7 Q σ = awpOps Try.prog [⟨none, (.mv 27 (.t 0))⟩, ⟨none, (.load 28 (.t 5) (some 2))⟩, ⟨none, (.callB (some 29) (.c (.fn 73 [])) [(.t 27), (.t 28)] [(.arg 0)])⟩] σ [] (KReg (some ([0, 21, 22, 23], [])) Q) (KPan Q) := rfl
def r73_8 : MC := .reg [⟨none, (.bin 30 .add (.t 23) (.c (.imm true (.int .i64 1))))⟩, ⟨none, (.mv 23 (.t 30))⟩] none (some ([0, 21, 22, 23], []))
theorem w73_8 {Q : AEx → St → Prop} {σ : St} : awp Try.prog r73_8 Q σ = awpOps Try.prog [⟨none, (.bin 30 .add (.t 23) (.c (.imm true (.int .i64 1))))⟩, ⟨none, (.mv 23 (.t 30))⟩] σ [] (KReg (some ([0, 21, 22, 23], [])) Q) (KPan Q) := rfl
def l73_0 : MC := (.seq r73_5 (.seq (.cond (.t 24) .skip (.exit 0)) (.seq (.block 1 (.seq r73_6 r73_7)) r73_8)))
def my73 : MC := (.seq r73_0 (.seq (.seq r73_1 (.seq r73_2 (.cond (.t 17) r73_3 .skip))) (.seq r73_4 (.block 0 (.loop l73_0)))))
theorem my73_is : trC Try.prog ⟨[3], [(29, [.arg 0])]⟩ ⟨[],
  [(0, [0, 3], []), (1, [0, 3], []), (2, [0, 3, 17], []), (3, [0, 3], []), (4, [0, 21, 22, 23], []), (5, [0, 21, 22, 23, 24], []), (6, [0, 5, 21, 22, 23], [5]), (7, [0, 21, 22, 23], []), (8, [0, 21, 22, 23], [])]⟩ 31 (Try.f73.body.getD .skip) = some my73 := by kernel_rfl
theorem does73 {args : List LV} (hl : args.length.ble 31 = true) {S S' : List (List LV)} (hS : S'.length = S.length) {o : Out} (h : Lt ⟨numE 0 args, argS 0 S, []⟩ (awp Try.prog my73 (Fin [] o S'))) : Does Try.prog 73 args S o S' :=
  does_of_awp mixed Try.func73 (by kernel_rfl) (by kernel_rfl) my73_is (by kernel_rfl) (Nat.le_of_ble_eq_true hl) hS h
attribute [go_sem ↓] w73_0 w73_1 w73_2 w73_3 w73_4 w73_5 w73_6 w73_7 w73_8
attribute [go_sem] my73
/-! ### 14: lychgate/types.Same -/
def r14_0 : MC := .reg [⟨none, (.boxc 2 (.t 0))⟩, ⟨none, (.boxc 3 (.t 1))⟩, ⟨none, (.mv 4 (.c (.imm true (.bool false))))⟩] none (some ([2, 3], []))
theorem w14_0 {Q : AEx → St → Prop} {σ : St} : awp Try.prog r14_0 Q σ = awpOps Try.prog [⟨none, (.boxc 2 (.t 0))⟩, ⟨none, (.boxc 3 (.t 1))⟩, ⟨none, (.mv 4 (.c (.imm true (.bool false))))⟩] σ [] (KReg (some ([2, 3], [])) Q) (KPan Q) := rfl
def r14_1 : MC := .reg [⟨none, (.load 5 (.t 2) (some 2))⟩, ⟨none, (.call (some 6) (.c (.fn 37 [])) [(.t 5)])⟩, ⟨none, (.bin 7 .eql (.t 6) (.c (.imm true (.int .i64 0))))⟩, ⟨none, (.mv 8 (.t 7))⟩, ⟨(some (8, true)), (.load 9 (.t 3) (some 2))⟩, ⟨(some (8, true)), (.call (some 10) (.c (.fn 37 [])) [(.t 9)])⟩, ⟨(some (8, true)), (.bin 11 .eql (.t 10) (.c (.imm true (.int .i64 0))))⟩, ⟨none, (.pick 12 (.t 8) (.t 11) (.c (.imm true (.bool false))))⟩, ⟨none, (.mv 13 (.t 12))⟩, ⟨(some (13, true)), (.load 14 (.t 2) (some 2))⟩, ⟨(some (13, true)), (.load 15 (.t 3) (some 2))⟩, ⟨(some (13, true)), (.call (some 16) (.c (.fn 50 [])) [(.t 14), (.t 15)])⟩, ⟨none, (.pick 17 (.t 13) (.t 16) (.c (.imm true (.bool false))))⟩, ⟨none, (.mv 4 (.t 17))⟩] none (some ([4], []))
theorem w14_1 {Q : AEx → St → Prop} {σ : St} : awp Try.prog r14_1 Q σ = awpOps Try.prog [⟨none, (.load 5 (.t 2) (some 2))⟩, ⟨none, (.call (some 6) (.c (.fn 37 [])) [(.t 5)])⟩, ⟨none, (.bin 7 .eql (.t 6) (.c (.imm true (.int .i64 0))))⟩, ⟨none, (.mv 8 (.t 7))⟩, ⟨(some (8, true)), (.load 9 (.t 3) (some 2))⟩, ⟨(some (8, true)), (.call (some 10) (.c (.fn 37 [])) [(.t 9)])⟩, ⟨(some (8, true)), (.bin 11 .eql (.t 10) (.c (.imm true (.int .i64 0))))⟩, ⟨none, (.pick 12 (.t 8) (.t 11) (.c (.imm true (.bool false))))⟩, ⟨none, (.mv 13 (.t 12))⟩, ⟨(some (13, true)), (.load 14 (.t 2) (some 2))⟩, ⟨(some (13, true)), (.load 15 (.t 3) (some 2))⟩, ⟨(some (13, true)), (.call (some 16) (.c (.fn 50 [])) [(.t 14), (.t 15)])⟩, ⟨none, (.pick 17 (.t 13) (.t 16) (.c (.imm true (.bool false))))⟩, ⟨none, (.mv 4 (.t 17))⟩] σ [] (KReg (some ([4], [])) Q) (KPan Q) := rfl
def my14 : MC := (.seq r14_0 (.seq r14_1 .ret))
theorem my14_is : trC Try.prog ⟨[2, 3], []⟩ ⟨[],
  [(0, [2, 3], []), (1, [4], [])]⟩ 18 (Try.f14.body.getD .skip) = some my14 := by kernel_rfl
theorem does14 {args : List LV} (hl : args.length.ble 18 = true) {S S' : List (List LV)} (hS : S'.length = S.length) {o : Out} (h : Lt ⟨numE 0 args, argS 0 S, []⟩ (awp Try.prog my14 (Fin [(.t 4)] o S'))) : Does Try.prog 14 args S o S' :=
  does_of_awp mixed Try.func14 (by kernel_rfl) (by kernel_rfl) my14_is (by kernel_rfl) (Nat.le_of_ble_eq_true hl) hS h
attribute [go_sem ↓] w14_0 w14_1
attribute [go_sem] my14
/-! ### 31: lychgate/types.Ground -/
def r31_0 : MC := .reg [⟨none, (.boxc 1 (.t 0))⟩, ⟨none, (.alloc 2 [(.imm true (.int .i8 0)), .nils])⟩, ⟨none, (.mv 3 (.c (.imm true (.bool false))))⟩] none (some ([1, 2], [2, 18]))
theorem w31_0 {Q : AEx → St → Prop} {σ : St} : awp Try.prog r31_0 Q σ = Get (σ.prep [2]) (fun σ => awpOps Try.prog [⟨none, (.boxc 1 (.t 0))⟩, ⟨none, (.alloc 2 [(.imm true (.int .i8 0)), .nils])⟩, ⟨none, (.mv 3 (.c (.imm true (.bool false))))⟩] σ [] (KReg (some ([1, 2], [2, 18])) Q) (KPan Q)) := awpR_get ⟨rfl, rfl⟩
def r31_1 : MC := .reg [⟨none, (.load 4 (.t 1) (some 2))⟩, ⟨none, (.call (some 5) (.c (.fn 37 [])) [(.t 4)])⟩, ⟨none, (.bin 6 .neq (.t 5) (.c (.imm true (.int .i64 0))))⟩, ⟨none, (.mv 7 (.t 6))⟩, ⟨(some (7, false)), (.fad 8 (.t 1) 0)⟩, ⟨(some (7, false)), (.load 9 (.t 8) none)⟩, ⟨(some (7, false)), (.bin 10 .eql (.t 9) (.c (.imm true (.int .i8 0))))⟩, ⟨none, (.pick 11 (.t 7) (.c (.imm true (.bool true))) (.t 10))⟩] none (some ([1, 2, 11], [2, 18]))
theorem w31_1 {Q : AEx → St → Prop} {σ : St} : awp Try.prog r31_1 Q σ = awpOps Try.prog [⟨none, (.load 4 (.t 1) (some 2))⟩, ⟨none, (.call (some 5) (.c (.fn 37 [])) [(.t 4)])⟩, ⟨none, (.bin 6 .neq (.t 5) (.c (.imm true (.int .i64 0))))⟩, ⟨none, (.mv 7 (.t 6))⟩, ⟨(some (7, false)), (.fad 8 (.t 1) 0)⟩, ⟨(some (7, false)), (.load 9 (.t 8) none)⟩, ⟨(some (7, false)), (.bin 10 .eql (.t 9) (.c (.imm true (.int .i8 0))))⟩, ⟨none, (.pick 11 (.t 7) (.c (.imm true (.bool true))) (.t 10))⟩] σ [] (KReg (some ([1, 2, 11], [2, 18])) Q) (KPan Q) := rfl
def r31_2 : MC := .reg [⟨none, (.build 12 [(.imm true (.int .i8 0)), .nils] [])⟩, ⟨none, (.store (.t 2) (.t 12) 2)⟩, ⟨none, (.mv 3 (.c (.imm true (.bool false))))⟩] none (some ([2, 3], [2, 18]))
theorem w31_2 {Q : AEx → St → Prop} {σ : St} : awp Try.prog r31_2 Q σ = awpOps Try.prog [⟨none, (.build 12 [(.imm true (.int .i8 0)), .nils] [])⟩, ⟨none, (.store (.t 2) (.t 12) 2)⟩, ⟨none, (.mv 3 (.c (.imm true (.bool false))))⟩] σ [] (KReg (some ([2, 3], [2, 18])) Q) (KPan Q) := rfl
def r31_3 : MC := .reg [⟨none, (.fad 13 (.t 1) 0)⟩, ⟨none, (.load 14 (.t 13) none)⟩, ⟨none, (.fad 15 (.t 1) 0)⟩, ⟨none, (.load 16 (.t 15) none)⟩, ⟨none, (.call (some 17) (.c (.fn 66 [])) [(.t 16)])⟩, ⟨none, (.mksl 18 (.t 17) [(.imm true (.int .i8 0)), .nils])⟩, ⟨none, (.build 19 [(.imm true (.int .i8 0)), .nils] [(0, (1, (.t 14))), (1, (1, (.t 18)))])⟩, ⟨none, (.store (.t 2) (.t 19) 2)⟩, ⟨none, (.mv 3 (.c (.imm true (.bool true))))⟩] (some []) (some ([2, 3], [2, 18]))
theorem w31_3 {Q : AEx → St → Prop} {σ : St} : awp Try.prog r31_3 Q σ = awpOps Try.prog [⟨none, (.fad 13 (.t 1) 0)⟩, ⟨none, (.load 14 (.t 13) none)⟩, ⟨none, (.fad 15 (.t 1) 0)⟩, ⟨none, (.load 16 (.t 15) none)⟩, ⟨none, (.call (some 17) (.c (.fn 66 [])) [(.t 16)])⟩, ⟨none, (.mksl 18 (.t 17) [(.imm true (.int .i8 0)), .nils])⟩, ⟨none, (.build 19 [(.imm true (.int .i8 0)), .nils] [(0, (1, (.t 14))), (1, (1, (.t 18)))])⟩, ⟨none, (.store (.t 2) (.t 19) 2)⟩, ⟨none, (.mv 3 (.c (.imm true (.bool true))))⟩] σ [] (KDraw [] (some ([2, 3], [2, 18])) Q) KNo := rfl
def my31 : MC := (.seq r31_0 (.seq (.seq r31_1 (.cond (.t 11) (.seq r31_2 .ret) .skip)) (.seq r31_3 .ret)))
theorem my31_is : trC Try.prog ⟨[1], []⟩ ⟨[(3, [[], [0], [], [2], [2, 3], [2, 3, 4], [0, 1, 2, 3, 4, 5], [0, 1, 2, 3, 4, 5, 6], [0, 1, 2, 3, 4, 5, 6, 7]], [])],
  [(0, [1, 2], [2, 18]), (1, [1, 2, 11], [2, 18]), (2, [2, 3], [2, 18]), (3, [2, 3], [2, 18])]⟩ 20 (Try.f31.body.getD .skip) = some my31 := by kernel_rfl
theorem does31 {args : List LV} (hl : args.length.ble 20 = true) {S S' : List (List LV)} (hS : S'.length = S.length) {o : Out} (h : Lt ⟨numE 0 args, argS 0 S, []⟩ (awp Try.prog my31 (Fin [(.c 2 (some 2)), (.t 3)] o S'))) : Does Try.prog 31 args S o S' :=
  does_of_awp mixed Try.func31 (by kernel_rfl) (by kernel_rfl) my31_is (by kernel_rfl) (Nat.le_of_ble_eq_true hl) hS h
attribute [go_sem ↓] w31_0 w31_1 w31_2 w31_3
attribute [go_sem] my31
/-! ### 74: lychgate/agree.level -/
def r74_0 : MC := .reg [⟨none, (.boxc 2 (.t 0))⟩, ⟨none, (.boxc 3 (.t 1))⟩, ⟨none, (.mv 4 (.c (.imm true (.bool false))))⟩] none (some ([2, 3], []))
theorem w74_0 {Q : AEx → St → Prop} {σ : St} : awp Try.prog r74_0 Q σ = awpOps Try.prog [⟨none, (.boxc 2 (.t 0))⟩, ⟨none, (.boxc 3 (.t 1))⟩, ⟨none, (.mv 4 (.c (.imm true (.bool false))))⟩] σ [] (KReg (some ([2, 3], [])) Q) (KPan Q) := rfl
def r74_1 : MC := .reg [⟨none, (.fad 7 (.t 2) 0)⟩, ⟨none, (.load 8 (.t 7) none)⟩, ⟨none, (.fad 9 (.t 3) 0)⟩, ⟨none, (.load 10 (.t 9) none)⟩, ⟨none, (.build 11 [(.imm true (.int .i8 0)), (.imm true (.int .i8 0))] [(0, (1, (.t 8))), (1, (1, (.t 10)))])⟩, ⟨none, (.alloc 5 [(.imm true (.int .i8 0)), (.imm true (.int .i8 0))])⟩, ⟨none, (.store (.t 5) (.t 11) 2)⟩] none (some ([2, 3, 5], [5]))
theorem w74_1 {Q : AEx → St → Prop} {σ : St} : awp Try.prog r74_1 Q σ = Get (σ.prep [5]) (fun σ => awpOps Try.prog [⟨none, (.fad 7 (.t 2) 0)⟩, ⟨none, (.load 8 (.t 7) none)⟩, ⟨none, (.fad 9 (.t 3) 0)⟩, ⟨none, (.load 10 (.t 9) none)⟩, ⟨none, (.build 11 [(.imm true (.int .i8 0)), (.imm true (.int .i8 0))] [(0, (1, (.t 8))), (1, (1, (.t 10)))])⟩, ⟨none, (.alloc 5 [(.imm true (.int .i8 0)), (.imm true (.int .i8 0))])⟩, ⟨none, (.store (.t 5) (.t 11) 2)⟩] σ [] (KReg (some ([2, 3, 5], [5])) Q) (KPan Q)) := awpR_get ⟨rfl, rfl⟩
def r74_2 : MC := .reg [⟨none, (.aad 13 (.t 5) (.c (.imm true (.int .i64 0))) 2 1)⟩, ⟨none, (.load 14 (.t 13) none)⟩, ⟨none, (.bin 15 .eql (.t 14) (.c (.imm true (.int .i8 0))))⟩, ⟨none, (.mv 12 (.t 15))⟩] none (some ([2, 3, 5, 12], [5]))
theorem w74_2 {Q : AEx → St → Prop} {σ : St} : awp Try.prog r74_2 Q σ = awpOps Try.prog [⟨none, (.aad 13 (.t 5) (.c (.imm true (.int .i64 0))) 2 1)⟩, ⟨none, (.load 14 (.t 13) none)⟩, ⟨none, (.bin 15 .eql (.t 14) (.c (.imm true (.int .i8 0))))⟩, ⟨none, (.mv 12 (.t 15))⟩] σ [] (KReg (some ([2, 3, 5, 12], [5])) Q) (KPan Q) := rfl
def r74_3 : MC := .reg [⟨none, (.aad 16 (.t 5) (.c (.imm true (.int .i64 1))) 2 1)⟩, ⟨none, (.load 17 (.t 16) none)⟩, ⟨none, (.bin 18 .eql (.t 17) (.c (.imm true (.int .i8 0))))⟩, ⟨none, (.mv 12 (.t 18))⟩] none (some ([2, 3, 5, 12], [5]))
theorem w74_3 {Q : AEx → St → Prop} {σ : St} : awp Try.prog r74_3 Q σ = awpOps Try.prog [⟨none, (.aad 16 (.t 5) (.c (.imm true (.int .i64 1))) 2 1)⟩, ⟨none, (.load 17 (.t 16) none)⟩, ⟨none, (.bin 18 .eql (.t 17) (.c (.imm true (.int .i8 0))))⟩, ⟨none, (.mv 12 (.t 18))⟩] σ [] (KReg (some ([2, 3, 5, 12], [5])) Q) (KPan Q) := rfl
def r74_4 : MC := .reg [⟨none, (.mv 4 (.c (.imm true (.bool true))))⟩] none (some ([4], []))
theorem w74_4 {Q : AEx → St → Prop} {σ : St} : awp Try.prog r74_4 Q σ = awpOps Try.prog [⟨none, (.mv 4 (.c (.imm true (.bool true))))⟩] σ [] (KReg (some ([4], [])) Q) (KPan Q) := rfl
def r74_5 : MC := .reg [⟨none, (.aad 20 (.t 5) (.c (.imm true (.int .i64 0))) 2 1)⟩, ⟨none, (.load 21 (.t 20) none)⟩, ⟨none, (.aad 22 (.t 5) (.c (.imm true (.int .i64 1))) 2 1)⟩, ⟨none, (.load 23 (.t 22) none)⟩, ⟨none, (.bin 24 .neq (.t 21) (.t 23))⟩, ⟨none, (.mv 19 (.t 24))⟩] none (some ([2, 3, 19], []))
theorem w74_5 {Q : AEx → St → Prop} {σ : St} : awp Try.prog r74_5 Q σ = awpOps Try.prog [⟨none, (.aad 20 (.t 5) (.c (.imm true (.int .i64 0))) 2 1)⟩, ⟨none, (.load 21 (.t 20) none)⟩, ⟨none, (.aad 22 (.t 5) (.c (.imm true (.int .i64 1))) 2 1)⟩, ⟨none, (.load 23 (.t 22) none)⟩, ⟨none, (.bin 24 .neq (.t 21) (.t 23))⟩, ⟨none, (.mv 19 (.t 24))⟩] σ [] (KReg (some ([2, 3, 19], [])) Q) (KPan Q) := rfl
def r74_6 : MC := .reg [⟨none, (.mv 4 (.c (.imm true (.bool false))))⟩] none (some ([4], []))
theorem w74_6 {Q : AEx → St → Prop} {σ : St} : awp Try.prog r74_6 Q σ = awpOps Try.prog [⟨none, (.mv 4 (.c (.imm true (.bool false))))⟩] σ [] (KReg (some ([4], [])) Q) (KPan Q) := rfl
def r74_7 : MC := .reg [⟨none, (.fad 25 (.t 2) 1)⟩, ⟨none, (.load 26 (.t 25) none)⟩, ⟨none, (.len 27 (.t 26))⟩, ⟨none, (.mv 28 (.c (.imm true (.int .i64 0))))⟩] none (some ([2, 3, 27, 28], []))
theorem w74_7 {Q : AEx → St → Prop} {σ : St} : awp Try.prog r74_7 Q σ = awpOps Try.prog [⟨none, (.fad 25 (.t 2) 1)⟩, ⟨none, (.load 26 (.t 25) none)⟩, ⟨none, (.len 27 (.t 26))⟩, ⟨none, (.mv 28 (.c (.imm true (.int .i64 0))))⟩] σ [] (KReg (some ([2, 3, 27, 28], [])) Q) (KPan Q) := rfl
def r74_8 : MC := .reg [⟨none, (.bin 29 .lss (.t 28) (.t 27))⟩] none (some ([2, 3, 27, 28, 29], []))
theorem w74_8 {Q : AEx → St → Prop} {σ : St} : awp Try.prog r74_8 Q σ = awpOps Try.prog [⟨none, (.bin 29 .lss (.t 28) (.t 27))⟩] σ [] (KReg (some ([2, 3, 27, 28, 29], [])) Q) (KPan Q) := rfl
def r74_9 : MC := .reg [⟨none, (.mv 30 (.t 28))⟩, ⟨none, (.mv 6 (.t 30))⟩] none (some ([2, 3, 6, 27, 28], []))
theorem w74_9 {Q : AEx → St → Prop} {σ : St} : awp Try.prog r74_9 Q σ = awpOps Try.prog [⟨none, (.mv 30 (.t 28))⟩, ⟨none, (.mv 6 (.t 30))⟩] σ [] (KReg (some ([2, 3, 6, 27, 28], [])) Q) (KPan Q) := rfl
def r74_10 : MC := .reg [⟨none, (.fad 31 (.t 2) 1)⟩, ⟨none, (.load 32 (.t 31) none)⟩, ⟨none, (.mv 33 (.t 6))⟩, ⟨none, (.iad 34 (.t 32) (.t 33) 2)⟩, ⟨none, (.load 35 (.t 34) (some 2))⟩, ⟨none, (.fad 36 (.t 3) 1)⟩, ⟨none, (.load 37 (.t 36) none)⟩, ⟨none, (.mv 38 (.t 6))⟩, ⟨none, (.iad 39 (.t 37) (.t 38) 2)⟩, ⟨none, (.load 40 (.t 39) (some 2))⟩, ⟨none, (.call (some 41) (.c (.fn 74 [])) [(.t 35), (.t 40)])⟩, ⟨none, (.un 42 .not (.t 41))⟩] (some []) (some ([2, 3, 27, 28, 42], []))
theorem w74_10 {Q : AEx → St → Prop} {σ : St} : awp Try.prog r74_10 Q σ = awpOps Try.prog [⟨none, (.fad 31 (.t 2) 1)⟩, ⟨none, (.load 32 (.t 31) none)⟩, ⟨none, (.mv 33 (.t 6))⟩, ⟨none, (.iad 34 (.t 32) (.t 33) 2)⟩, ⟨none, (.load 35 (.t 34) (some 2))⟩, ⟨none, (.fad 36 (.t 3) 1)⟩, ⟨none, (.load 37 (.t 36) none)⟩, ⟨none, (.mv 38 (.t 6))⟩, ⟨none, (.iad 39 (.t 37) (.t 38) 2)⟩, ⟨none, (.load 40 (.t 39) (some 2))⟩, ⟨none, (.call (some 41) (.c (.fn 74 [])) [(.t 35), (.t 40)])⟩, ⟨none, (.un 42 .not (.t 41))⟩] σ [] (KDraw [] (some ([2, 3, 27, 28, 42], [])) Q) KNo := rfl
def r74_11 : MC := .reg [⟨none, (.mv 4 (.c (.imm true (.bool false))))⟩] none (some ([4], []))
theorem w74_11 {Q : AEx → St → Prop} {σ : St} : awp Try.prog r74_11 Q σ = awpOps Try.prog [⟨none, (.mv 4 (.c (.imm true (.bool false))))⟩] σ [] (KReg (some ([4], [])) Q) (KPan Q) := rfl
def r74_12 : MC := .reg [⟨none, (.bin 43 .add (.t 28) (.c (.imm true (.int .i64 1))))⟩, ⟨none, (.mv 28 (.t 43))⟩] none (some ([2, 3, 27, 28], []))
theorem w74_12 {Q : AEx → St → Prop} {σ : St} : awp Try.prog r74_12 Q σ = awpOps Try.prog [⟨none, (.bin 43 .add (.t 28) (.c (.imm true (.int .i64 1))))⟩, ⟨none, (.mv 28 (.t 43))⟩] σ [] (KReg (some ([2, 3, 27, 28], [])) Q) (KPan Q) := rfl
def l74_0 : MC := (.seq r74_8 (.seq (.cond (.t 29) .skip (.exit 1)) (.seq (.block 2 (.seq r74_9 (.seq r74_10 (.cond (.t 42) (.seq r74_11 .ret) .skip)))) r74_12)))
def r74_13 : MC := .reg [⟨none, (.mv 4 (.c (.imm true (.bool true))))⟩] none (some ([4], []))
theorem w74_13 {Q : AEx → St → Prop} {σ : St} : awp Try.prog r74_13 Q σ = awpOps Try.prog [⟨none, (.mv 4 (.c (.imm true (.bool true))))⟩] σ [] (KReg (some ([4], [])) Q) (KPan Q) := rfl
def my74 : MC := (.seq r74_0 (.seq (.seq r74_1 (.block 0 (.seq (.seq r74_2 (.cond (.t 12) .skip r74_3)) (.cond (.t 12) (.seq r74_4 .ret) (.seq r74_5 (.cond (.t 19) (.seq r74_6 .ret) .skip)))))) (.seq (.seq r74_7 (.block 1 (.loop l74_0))) (.seq r74_13 .ret))))
theorem my74_is : trC Try.prog ⟨[2, 3], []⟩ ⟨[(10, [[], [0], [], [0, 1, 2], [0, 1, 2, 3], [], [5], [], [5, 6, 7], [5, 6, 7, 8], [0, 1, 2, 3, 4, 5, 6, 7, 8, 9], [0, 1, 2, 3, 4, 5, 6, 7, 8, 9, 10]], [])],
  [(0, [2, 3], []), (1, [2, 3, 5], [5]), (2, [2, 3, 5, 12], [5]), (3, [2, 3, 5, 12], [5]), (4, [4], []), (5, [2, 3, 19], []), (6, [4], []), (7, [2, 3, 27, 28], []), (8, [2, 3, 27, 28, 29], []), (9, [2, 3, 6, 27, 28], []), (10, [2, 3, 27, 28, 42], []), (11, [4], []), (12, [2, 3, 27, 28], []), (13, [4], [])]⟩ 44 (Try.f74.body.getD .skip) = some my74 := by kernel_rfl
theorem does74 {args : List LV} (hl : args.length.ble 44 = true) {S S' : List (List LV)} (hS : S'.length = S.length) {o : Out} (h : Lt ⟨numE 0 args, argS 0 S, []⟩ (awp Try.prog my74 (Fin [(.t 4)] o S'))) : Does Try.prog 74 args S o S' :=
  does_of_awp mixed Try.func74 (by kernel_rfl) (by kernel_rfl) my74_is (by kernel_rfl) (Nat.le_of_ble_eq_true hl) hS h
attribute [go_sem ↓] w74_0 w74_1 w74_2 w74_3 w74_4 w74_5 w74_6 w74_7 w74_8 w74_9 w74_10 w74_11 w74_12 w74_13
attribute [go_sem] my74
/-! ### 39: lychgate/agree.Agree -/
def r39_0 : MC := .reg [⟨none, (.boxc 2 (.t 0))⟩, ⟨none, (.boxc 3 (.t 1))⟩, ⟨none, (.mv 4 (.c (.imm true (.bool false))))⟩] none (some ([2, 3], []))
theorem w39_0 {Q : AEx → St → Prop} {σ : St} : awp Try.prog r39_0 Q σ = awpOps Try.prog [⟨none, (.boxc 2 (.t 0))⟩, ⟨none, (.boxc 3 (.t 1))⟩, ⟨none, (.mv 4 (.c (.imm true (.bool false))))⟩] σ [] (KReg (some ([2, 3], [])) Q) (KPan Q) := rfl
def r39_1 : MC := .reg [⟨none, (.load 5 (.t 2) (some 2))⟩, ⟨none, (.call (some 6) (.c (.fn 37 [])) [(.t 5)])⟩, ⟨none, (.bin 7 .eql (.t 6) (.c (.imm true (.int .i64 0))))⟩, ⟨none, (.mv 8 (.t 7))⟩, ⟨(some (8, true)), (.load 9 (.t 3) (some 2))⟩, ⟨(some (8, true)), (.call (some 10) (.c (.fn 37 [])) [(.t 9)])⟩, ⟨(some (8, true)), (.bin 11 .eql (.t 10) (.c (.imm true (.int .i64 0))))⟩, ⟨none, (.pick 12 (.t 8) (.t 11) (.c (.imm true (.bool false))))⟩, ⟨none, (.mv 13 (.t 12))⟩, ⟨(some (13, true)), (.load 14 (.t 2) (some 2))⟩, ⟨(some (13, true)), (.load 15 (.t 3) (some 2))⟩, ⟨(some (13, true)), (.call (some 16) (.c (.fn 74 [])) [(.t 14), (.t 15)])⟩, ⟨none, (.pick 17 (.t 13) (.t 16) (.c (.imm true (.bool false))))⟩, ⟨none, (.mv 4 (.t 17))⟩] none (some ([4], []))
theorem w39_1 {Q : AEx → St → Prop} {σ : St} : awp Try.prog r39_1 Q σ = awpOps Try.prog [⟨none, (.load 5 (.t 2) (some 2))⟩, ⟨none, (.call (some 6) (.c (.fn 37 [])) [(.t 5)])⟩, ⟨none, (.bin 7 .eql (.t 6) (.c (.imm true (.int .i64 0))))⟩, ⟨none, (.mv 8 (.t 7))⟩, ⟨(some (8, true)), (.load 9 (.t 3) (some 2))⟩, ⟨(some (8, true)), (.call (some 10) (.c (.fn 37 [])) [(.t 9)])⟩, ⟨(some (8, true)), (.bin 11 .eql (.t 10) (.c (.imm true (.int .i64 0))))⟩, ⟨none, (.pick 12 (.t 8) (.t 11) (.c (.imm true (.bool false))))⟩, ⟨none, (.mv 13 (.t 12))⟩, ⟨(some (13, true)), (.load 14 (.t 2) (some 2))⟩, ⟨(some (13, true)), (.load 15 (.t 3) (some 2))⟩, ⟨(some (13, true)), (.call (some 16) (.c (.fn 74 [])) [(.t 14), (.t 15)])⟩, ⟨none, (.pick 17 (.t 13) (.t 16) (.c (.imm true (.bool false))))⟩, ⟨none, (.mv 4 (.t 17))⟩] σ [] (KReg (some ([4], [])) Q) (KPan Q) := rfl
def my39 : MC := (.seq r39_0 (.seq r39_1 .ret))
theorem my39_is : trC Try.prog ⟨[2, 3], []⟩ ⟨[],
  [(0, [2, 3], []), (1, [4], [])]⟩ 18 (Try.f39.body.getD .skip) = some my39 := by kernel_rfl
theorem does39 {args : List LV} (hl : args.length.ble 18 = true) {S S' : List (List LV)} (hS : S'.length = S.length) {o : Out} (h : Lt ⟨numE 0 args, argS 0 S, []⟩ (awp Try.prog my39 (Fin [(.t 4)] o S'))) : Does Try.prog 39 args S o S' :=
  does_of_awp mixed Try.func39 (by kernel_rfl) (by kernel_rfl) my39_is (by kernel_rfl) (Nat.le_of_ble_eq_true hl) hS h
attribute [go_sem ↓] w39_0 w39_1
attribute [go_sem] my39
end Go.Proofs.Ytopgmopdjiahmaa.Lg
