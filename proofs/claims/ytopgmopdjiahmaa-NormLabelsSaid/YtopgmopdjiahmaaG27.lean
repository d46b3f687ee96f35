/- Texts of one proof, joined by program (gen/merge.py): Wn. Conditions: none; plain definitions and lemmas. -/
import Derived.Test.YtopgmopdjiahmaaProg
import Derived.WalkKit
import Derived.Outline
import Derived.WalkSpells
import Derived.WalkLawsBesides
import Derived.LoopN
import Derived.Laws.IdiomStrings
/- scan.Name of two words of one letter, walked by the kit. Conditions: none; plain lemmas. -/
namespace Go.Proofs.Ytopgmopdjiahmaa
open Go Go.RowKit Go.Proofs
set_option maxRecDepth 100000
/-- what was there is there -/
def Kept (w w' : World) : Prop := w'.os = w.os ∧ w'.tape = w.tape ∧ w'.output = w.output ∧ w.heap.size ≤ w'.heap.size ∧ ∀ b, b < w.heap.size → w'.heap[b]? = w.heap[b]?
set_option maxHeartbeats 400000 in
theorem key_f (w : World) : Calls Try.prog 143 #[.string ⟨#[102]⟩] w fun e w' => e = .returned (.bool false) ∧ w' = w := by
  go_enter Try.func143, Try.ntmps143
  go_wp2
  go_ret
  exact ⟨rfl, rfl⟩
set_option maxHeartbeats 400000 in
theorem letter_f (w : World) : Calls Try.prog 144 #[.int .u8 102] w fun e w' => e = .returned (.bool true) ∧ w' = w := by
  go_enter Try.func144, Try.ntmps144
  go_wp2
  go_ret
  exact ⟨rfl, rfl⟩
set_option maxHeartbeats 400000 in
theorem digit_f (w : World) : Calls Try.prog 142 #[.int .u8 102] w fun e w' => e = .returned (.bool false) ∧ w' = w := by
  go_enter Try.func142, Try.ntmps142
  go_wp2
  go_ret
  exact ⟨rfl, rfl⟩
set_option maxHeartbeats 1000000 in
theorem name_f (w : World) : Calls Try.prog 131 #[.string ⟨#[102]⟩] w fun e w' => e = .returned (.bool true) ∧ Kept w w' := by
  have hcv2 := fun w s => run_bytes_of_string (P := Try.prog) w 9 126 5 s Try.underlying9 Try.underlying126 Try.underlying5
  have hb : ∀ h, (({ data := #[102] } : ByteArray)[0]'h).toNat = 102 := fun _ => rfl
  go_enter Try.func131, Try.ntmps131
  go_wp2_with fail
  refine (digit_f _).mono ?_
  rintro _ w' ⟨rfl, hw⟩
  subst hw
  go_wp2_with fail
  refine (key_f _).mono ?_
  rintro _ w' ⟨rfl, hw⟩
  subst hw
  go_wp2_with fail
  obtain ⟨W1, hW1⟩ : ∃ W1, (w'.alloc (Obj.cells (bytesRow { data := #[102] } (grownCap w' 1 0 5)) 5 ((bytesRow { data := #[102] } (grownCap w' 1 0 5)).size, (bytesRow { data := #[102] } (grownCap w' 1 0 5)).size + 1))).drew = W1 := ⟨_, rfl⟩
  rw [hW1]
  have hcell : W1.cell? ⟨w'.heap.size, 0, none⟩ = some (.int .u8 102) := by
    have h0 := bytesRow_at { data := #[102] } (grownCap w' 1 0 5) 0 (by decide)
    generalize grownCap w' 1 0 5 = cap at hW1 h0
    generalize bytesRow { data := #[102] } cap = row at hW1 h0
    rw [← hW1]
    show (w'.alloc _).cell? _ = _
    simp only [World.cell?, World.alloc, Array.getElem?_push_size]
    exact h0
  have hk : Kept w' W1 := by
    rw [← hW1]; refine ⟨rfl, rfl, rfl, by simp, fun b hb => ?_⟩
    show (w'.heap.push _)[b]? = w'.heap[b]?
    rw [Array.getElem?_push_lt hb, Array.getElem?_eq_getElem hb]
  refine wp_loop_rounds 2 ?_
  simp only [rounds_succ]
  go_wp2_with fail
  refine (letter_f _).mono ?_
  rintro _ w2 ⟨rfl, hw⟩
  subst hw
  go_wp2_with fail
  simp only [rounds_succ]
  go_wp2_with fail
  go_ret
  exact ⟨rfl, hk⟩
set_option maxHeartbeats 400000 in
theorem key_x (w : World) : Calls Try.prog 143 #[.string ⟨#[120]⟩] w fun e w' => e = .returned (.bool false) ∧ w' = w := by
  go_enter Try.func143, Try.ntmps143
  go_wp2
  go_ret
  exact ⟨rfl, rfl⟩
set_option maxHeartbeats 400000 in
theorem letter_x (w : World) : Calls Try.prog 144 #[.int .u8 120] w fun e w' => e = .returned (.bool true) ∧ w' = w := by
  go_enter Try.func144, Try.ntmps144
  go_wp2
  go_ret
  exact ⟨rfl, rfl⟩
set_option maxHeartbeats 400000 in
theorem digit_x (w : World) : Calls Try.prog 142 #[.int .u8 120] w fun e w' => e = .returned (.bool false) ∧ w' = w := by
  go_enter Try.func142, Try.ntmps142
  go_wp2
  go_ret
  exact ⟨rfl, rfl⟩
set_option maxHeartbeats 1000000 in
theorem name_x (w : World) : Calls Try.prog 131 #[.string ⟨#[120]⟩] w fun e w' => e = .returned (.bool true) ∧ Kept w w' := by
  have hcv2 := fun w s => run_bytes_of_string (P := Try.prog) w 9 126 5 s Try.underlying9 Try.underlying126 Try.underlying5
  have hb : ∀ h, (({ data := #[120] } : ByteArray)[0]'h).toNat = 120 := fun _ => rfl
  go_enter Try.func131, Try.ntmps131
  go_wp2_with fail
  refine (digit_x _).mono ?_
  rintro _ w' ⟨rfl, hw⟩
  subst hw
  go_wp2_with fail
  refine (key_x _).mono ?_
  rintro _ w' ⟨rfl, hw⟩
  subst hw
  go_wp2_with fail
  obtain ⟨W1, hW1⟩ : ∃ W1, (w'.alloc (Obj.cells (bytesRow { data := #[120] } (grownCap w' 1 0 5)) 5 ((bytesRow { data := #[120] } (grownCap w' 1 0 5)).size, (bytesRow { data := #[120] } (grownCap w' 1 0 5)).size + 1))).drew = W1 := ⟨_, rfl⟩
  rw [hW1]
  have hcell : W1.cell? ⟨w'.heap.size, 0, none⟩ = some (.int .u8 120) := by
    have h0 := bytesRow_at { data := #[120] } (grownCap w' 1 0 5) 0 (by decide)
    generalize grownCap w' 1 0 5 = cap at hW1 h0
    generalize bytesRow { data := #[120] } cap = row at hW1 h0
    rw [← hW1]
    show (w'.alloc _).cell? _ = _
    simp only [World.cell?, World.alloc, Array.getElem?_push_size]
    exact h0
  have hk : Kept w' W1 := by
    rw [← hW1]; refine ⟨rfl, rfl, rfl, by simp, fun b hb => ?_⟩
    show (w'.heap.push _)[b]? = w'.heap[b]?
    rw [Array.getElem?_push_lt hb, Array.getElem?_eq_getElem hb]
  refine wp_loop_rounds 2 ?_
  simp only [rounds_succ]
  go_wp2_with fail
  refine (letter_x _).mono ?_
  rintro _ w2 ⟨rfl, hw⟩
  subst hw
  go_wp2_with fail
  simp only [rounds_succ]
  go_wp2_with fail
  go_ret
  exact ⟨rfl, hk⟩
end Go.Proofs.Ytopgmopdjiahmaa
