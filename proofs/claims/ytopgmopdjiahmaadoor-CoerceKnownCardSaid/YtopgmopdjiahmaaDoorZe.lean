/- coerce.words of a coercion out of the open type, walked by the kit. Conditions: none; plain lemmas. -/
import Derived.Test.YtopgmopdjiahmaaDoorZd
set_option linter.unusedVariables false
set_option linter.unusedSimpArgs false
namespace Go.Proofs.YtopgmopdjiahmaaDoor
open Go Go.RowKit Go.Proofs
set_option maxRecDepth 100000
theorem two_digits : (⟨(Lib.decDigits 2).toArray⟩ : ByteArray) = ⟨#[50]⟩ := by decide +kernel
theorem minus_two : (({ data := #[45] } : ByteArray) ++ { data := #[50] }) = { data := #[45, 50] } := by decide +kernel
set_option maxHeartbeats 8000000 in
theorem words_out (w : World) (va : Option Addr) (vc : Nat) (xs : List Value) (b o : Nat) (tk : Int) (htk : tk = 1 ∨ tk = 2) (A : Option Addr) (cap : Nat)
    (h0 : w.cell? ⟨b, o, none⟩ = some (.int .i8 3)) (h1 : w.cell? ⟨b, o + 1, none⟩ = some (.int .i8 tk)) (h2 : w.cell? ⟨b, o + 2, none⟩ = some (.slice A 0 cap)) (h5 : w.cell? ⟨b, o + 5, none⟩ = some (.int .i64 (2 : Nat))) (h6 : w.cell? ⟨b, o + 6, none⟩ = some (.bool false))
    (hown : Row w (.slice va xs.length vc) xs) (hvb : Value.ownBlock (.slice va xs.length vc) ≠ some b) (hlen : xs.length ≤ 900) (hchk : ChkOk tk A cap) :
    Calls Tryd.prog 14 #[.slice va xs.length vc, .pointer (some ⟨b, o, none⟩)] w (WEnd w (.slice va xs.length vc) xs [⟨#[123]⟩, leafText tk, ⟨#[125]⟩, ⟨#[63]⟩, ⟨#[50]⟩]) := by
  have lb := cell_lt h0
  go_enter Tryd.func14, Tryd.ntmps14
  go_wp2_with fail
  refine (strconv_itoa_small 2 (by omega) _).mono ?_
  rintro e w1 ⟨rfl, rfl⟩
  rw [two_digits]
  have m := Mid.start w va vc xs hown
  generalize w.alloc (Obj.cells #[Value.slice va xs.length vc] 46) = wA at m ⊢
  have c0 := m.cell h0 hvb
  have c1 := m.cell h1 hvb
  have c2 : wA.cell? ⟨b, o + 1 + 1, none⟩ = some (.slice A 0 cap) := m.cell h2 hvb
  have c6 := m.cell h6 hvb
  clear hown
  go_wp2_with fail
  refine (m.kind (by omega) tk htk A cap hchk).mono ?_
  rintro e w5 ⟨rfl, g5, c5, m5⟩
  obtain ⟨b5, fb5⟩ := box_cell m5.box
  obtain ⟨g6, c6', w6, happ, _, _, _, hend⟩ := m5.app (by simp; omega) [⟨#[63]⟩, ⟨#[50]⟩] (by simp) (by simp)
  simp only [List.length_cons, List.length_nil, Nat.zero_add, List.map_cons, List.map_nil, List.length_append, Nat.reduceAdd] at happ b5
  go_wp2_with (first | (at_builtin; refine wpList_app rfl _ _ 46 46 rfl rfl rfl happ ?_))
  go_ret
  obtain ⟨g7, c7, he, hrow, hgr, hor⟩ := hend
  injection he with he
  injection he with he1 he2 he3
  injection he1 with he1
  injection he1 with he1
  subst he1; subst he3
  refine ⟨g6, c6', by simp, ?_, hgr, hor⟩
  simpa using hrow
set_option maxHeartbeats 8000000 in
theorem words_outn (w : World) (va : Option Addr) (vc : Nat) (xs : List Value) (b o : Nat) (tk : Int) (htk : tk = 1 ∨ tk = 2) (A : Option Addr) (cap : Nat)
    (h0 : w.cell? ⟨b, o, none⟩ = some (.int .i8 3)) (h1 : w.cell? ⟨b, o + 1, none⟩ = some (.int .i8 tk)) (h2 : w.cell? ⟨b, o + 2, none⟩ = some (.slice A 0 cap)) (h5 : w.cell? ⟨b, o + 5, none⟩ = some (.int .i64 (2 : Nat))) (h6 : w.cell? ⟨b, o + 6, none⟩ = some (.bool true))
    (hown : Row w (.slice va xs.length vc) xs) (hvb : Value.ownBlock (.slice va xs.length vc) ≠ some b) (hlen : xs.length ≤ 900) (hchk : ChkOk tk A cap) :
    Calls Tryd.prog 14 #[.slice va xs.length vc, .pointer (some ⟨b, o, none⟩)] w (WEnd w (.slice va xs.length vc) xs [⟨#[123]⟩, leafText tk, ⟨#[125]⟩, ⟨#[63]⟩, ⟨#[45, 50]⟩]) := by
  have lb := cell_lt h0
  go_enter Tryd.func14, Tryd.ntmps14
  go_wp2_with fail
  refine (strconv_itoa_small 2 (by omega) _).mono ?_
  rintro e w1 ⟨rfl, rfl⟩
  rw [two_digits]
  have m := Mid.start w va vc xs hown
  generalize w.alloc (Obj.cells #[Value.slice va xs.length vc] 46) = wA at m ⊢
  have c0 := m.cell h0 hvb
  have c1 := m.cell h1 hvb
  have c2 : wA.cell? ⟨b, o + 1 + 1, none⟩ = some (.slice A 0 cap) := m.cell h2 hvb
  have c6 := m.cell h6 hvb
  clear hown
  go_wp2_with fail
  rw [minus_two]
  refine (m.kind (by omega) tk htk A cap hchk).mono ?_
  rintro e w5 ⟨rfl, g5, c5, m5⟩
  obtain ⟨b5, fb5⟩ := box_cell m5.box
  obtain ⟨g6, c6', w6, happ, _, _, _, hend⟩ := m5.app (by simp; omega) [⟨#[63]⟩, ⟨#[45, 50]⟩] (by simp) (by simp)
  simp only [List.length_cons, List.length_nil, Nat.zero_add, List.map_cons, List.map_nil, List.length_append, Nat.reduceAdd] at happ b5
  go_wp2_with (first | (at_builtin; refine wpList_app rfl _ _ 46 46 rfl rfl rfl happ ?_))
  go_ret
  obtain ⟨g7, c7, he, hrow, hgr, hor⟩ := hend
  injection he with he
  injection he with he1 he2 he3
  injection he1 with he1
  injection he1 with he1
  subst he1; subst he3
  refine ⟨g6, c6', by simp, ?_, hgr, hor⟩
  simpa using hrow
end Go.Proofs.YtopgmopdjiahmaaDoor
