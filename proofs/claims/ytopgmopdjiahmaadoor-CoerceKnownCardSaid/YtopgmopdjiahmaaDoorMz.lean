/- MADE BY PROGRAM (gen/genZ.py): three groups of coerce.words, as the logic sees them. Conditions: none; plain definitions and lemmas. -/
import Derived.Test.YtopgmopdjiahmaaDoorMa
import Derived.Test.YtopgmopdjiahmaaDoorZf
set_option linter.unusedVariables false
set_option linter.defProp false
set_option maxRecDepth 100000
namespace Go.Proofs.YtopgmopdjiahmaaDoor.Lg
open Go Go.RowKit Go.Proofs
variable {Q : AEx → St → Prop} {σ : St}
def g22 : MC := .reg [⟨none, (.load 82 (.t 2) none)⟩, ⟨none, (.mv 83 (.t 1))⟩, ⟨none, (.nilc 84 (.t 83))⟩, ⟨none, (.fad 85 (.t 84) 7)⟩, ⟨none, (.load 86 (.t 85) none)⟩, ⟨none, (.iad 87 (.t 86) (.c (.imm true (.int .i64 0))) 8)⟩, ⟨none, (.acall 88 (.c (.fn 14 [])) (.t 82) [(.t 87)])⟩, ⟨none, (.lit 89 1 [(.c (.imm true (.str ⟨#[59]⟩)))])⟩, ⟨none, (.append 90 (.t 88) (.t 89) 9 1 16)⟩, ⟨none, (.mv 91 (.t 1))⟩, ⟨none, (.nilc 92 (.t 91))⟩, ⟨none, (.fad 93 (.t 92) 7)⟩, ⟨none, (.load 94 (.t 93) none)⟩, ⟨none, (.iad 95 (.t 94) (.c (.imm true (.int .i64 1))) 8)⟩, ⟨none, (.acall 96 (.c (.fn 14 [])) (.t 90) [(.t 95)])⟩, ⟨none, (.mv 4 (.t 96))⟩] (some [(6, 7), (6, 9), (8, 9), (6, 10), (8, 10), (6, 11), (8, 11), (6, 12), (8, 12), (6, 13), (8, 13)]) none
def wg22 := @awpD_get Tryd.prog Q σ g22 _ _ _ [88, 90, 96] ⟨rfl, rfl⟩
theorem g22_is : trC Tryd.prog ⟨[], [(88, []), (96, []), (116, []), (126, [])]⟩ ⟨[(22, [[], [], [1], [1, 2], [1, 2, 3], [1, 2, 3, 4], [0, 1, 2, 3, 4, 5], [], [0, 1, 2, 3, 4, 5, 6, 7], [], [9], [9, 10], [9, 10, 11], [9, 10, 11, 12], [0, 1, 2, 3, 4, 5, 6, 7, 8, 9, 10, 11, 12, 13], [0, 1, 2, 3, 4, 5, 6, 7, 8, 9, 10, 11, 12, 13, 14]], [(6, 7), (6, 9), (8, 9), (6, 10), (8, 10), (6, 11), (8, 11), (6, 12), (8, 12), (6, 13), (8, 13)])], []⟩ 129 r22 = some g22 := by kernel_rfl
def g24 : MC := .reg [⟨none, (.load 108 (.t 2) none)⟩, ⟨none, (.lit 109 1 [(.c (.imm true (.str ⟨#[40]⟩)))])⟩, ⟨none, (.append 110 (.t 108) (.t 109) 9 1 16)⟩, ⟨none, (.mv 111 (.t 1))⟩, ⟨none, (.nilc 112 (.t 111))⟩, ⟨none, (.fad 113 (.t 112) 7)⟩, ⟨none, (.load 114 (.t 113) none)⟩, ⟨none, (.iad 115 (.t 114) (.c (.imm true (.int .i64 0))) 8)⟩, ⟨none, (.acall 116 (.c (.fn 14 [])) (.t 110) [(.t 115)])⟩, ⟨none, (.store (.t 2) (.t 116) 1)⟩] (some [(2, 3), (2, 4), (2, 5), (2, 6), (2, 7)]) none
def wg24 := @awpD_get Tryd.prog Q σ g24 _ _ _ [110, 116] ⟨rfl, rfl⟩
theorem g24_is : trC Tryd.prog ⟨[], [(88, []), (96, []), (116, []), (126, [])]⟩ ⟨[(24, [[], [], [0, 1], [], [3], [3, 4], [3, 4, 5], [3, 4, 5, 6], [0, 1, 2, 3, 4, 5, 6, 7], [0, 1, 2, 3, 4, 5, 6, 7, 8]], [(2, 3), (2, 4), (2, 5), (2, 6), (2, 7)])], []⟩ 129 r24 = some g24 := by kernel_rfl
def g25 : MC := .reg [⟨none, (.load 117 (.t 2) none)⟩, ⟨none, (.mv 118 (.t 7))⟩, ⟨none, (.lit 119 1 [(.t 118)])⟩, ⟨none, (.append 120 (.t 117) (.t 119) 9 1 16)⟩, ⟨none, (.mv 121 (.t 1))⟩, ⟨none, (.nilc 122 (.t 121))⟩, ⟨none, (.fad 123 (.t 122) 7)⟩, ⟨none, (.load 124 (.t 123) none)⟩, ⟨none, (.iad 125 (.t 124) (.c (.imm true (.int .i64 1))) 8)⟩, ⟨none, (.acall 126 (.c (.fn 14 [])) (.t 120) [(.t 125)])⟩, ⟨none, (.lit 127 1 [(.c (.imm true (.str ⟨#[41]⟩)))])⟩, ⟨none, (.append 128 (.t 126) (.t 127) 9 1 16)⟩, ⟨none, (.mv 4 (.t 128))⟩] (some [(3, 4), (3, 5), (3, 6), (3, 7), (3, 8), (3, 10), (9, 10)]) none
def wg25 := @awpD_get Tryd.prog Q σ g25 _ _ _ [120, 126, 128] ⟨rfl, rfl⟩
theorem g25_is : trC Tryd.prog ⟨[], [(88, []), (96, []), (116, []), (126, [])]⟩ ⟨[(25, [[], [], [1], [0, 1, 2], [], [4], [4, 5], [4, 5, 6], [4, 5, 6, 7], [0, 1, 2, 3, 4, 5, 6, 7, 8], [], [0, 1, 2, 3, 4, 5, 6, 7, 8, 9, 10], [0, 1, 2, 3, 4, 5, 6, 7, 8, 9, 10, 11]], [(3, 4), (3, 5), (3, 6), (3, 7), (3, 8), (3, 10), (9, 10)])], []⟩ 129 r25 = some g25 := by kernel_rfl
attribute [go_sem ↓] wg22 wg24 wg25
end Go.Proofs.YtopgmopdjiahmaaDoor.Lg
