/- coerce.words of leaves, walked by the kit. Conditions: none; plain lemmas. -/
import Derived.Test.YtopgmopdjiahmaaDoorZc
set_option linter.unusedVariables false
set_option linter.unusedSimpArgs false
namespace Go.Proofs.YtopgmopdjiahmaaDoor
open Go Go.RowKit Go.Proofs
set_option maxRecDepth 100000
set_option maxHeartbeats 8000000 in
theorem words_id (w : World) (va : Option Addr) (vc : Nat) (xs : List Value) (b o : Nat) (tk : Int) (htk : tk = 1 ∨ tk = 2) (A : Option Addr) (cap : Nat) (l : Nat) (hl : l < 100)
    (h0 : w.cell? ⟨b, o, none⟩ = some (.int .i8 0)) (h1 : w.cell? ⟨b, o + 1, none⟩ = some (.int .i8 tk)) (h2 : w.cell? ⟨b, o + 2, none⟩ = some (.slice A 0 cap)) (h5 : w.cell? ⟨b, o + 5, none⟩ = some (.int .i64 l)) (h6 : w.cell? ⟨b, o + 6, none⟩ = some (.bool false))
    (hown : Row w (.slice va xs.length vc) xs) (hvb : Value.ownBlock (.slice va xs.length vc) ≠ some b) (hlen : xs.length ≤ 900) (hchk : ChkOk tk A cap) :
    Calls Tryd.prog 14 #[.slice va xs.length vc, .pointer (some ⟨b, o, none⟩)] w (WEnd w (.slice va xs.length vc) xs [⟨#[105, 100]⟩, ⟨#[123]⟩, leafText tk, ⟨#[125]⟩]) := by
  have lb := cell_lt h0
  go_enter Tryd.func14, Tryd.ntmps14
  go_wp2_with fail
  refine (strconv_itoa_small l hl _).mono ?_
  rintro e w1 ⟨rfl, rfl⟩
  generalize (⟨(Lib.decDigits l).toArray⟩ : ByteArray) = side
  have m := Mid.start w va vc xs hown
  generalize w.alloc (Obj.cells #[Value.slice va xs.length vc] 46) = wA at m ⊢
  have c0 := m.cell h0 hvb
  have c1 := m.cell h1 hvb
  have c2 := m.cell h2 hvb
  have c6 := m.cell h6 hvb
  obtain ⟨b0, fb0⟩ := box_cell m.box
  obtain ⟨g, c, w3, happ, ⟨u3, cu3⟩, f3, m3, _⟩ := m.app (by omega) [⟨#[105, 100]⟩] (by simp) (by simp)
  simp only [List.length_cons, List.length_nil, Nat.zero_add, List.map_cons, List.map_nil] at happ m3
  have d1 := m3.cell h1 hvb
  have d2 : (w3.setCell ⟨w.heap.size, 0, none⟩ (.slice (some ⟨g, 0, none⟩) (xs.length + 1) c)).cell? ⟨b, o + 1 + 1, none⟩ = some (.slice A 0 cap) := m3.cell h2 hvb
  clear hown
  go_wp2_with (first | (at_builtin; refine wpList_app rfl _ _ 46 46 rfl rfl rfl happ ?_))
  refine (m3.kind (by simp; omega) tk htk A cap hchk).mono ?_
  rintro e w5 ⟨rfl, g5, c5, m5⟩
  obtain ⟨b5, fb5⟩ := box_cell m5.box
  go_wp2_with fail
  go_ret
  exact Mid.fin (news := [⟨#[105, 100]⟩, ⟨#[123]⟩, leafText tk, ⟨#[125]⟩]) (by simpa using m5) (by simp)
set_option maxHeartbeats 8000000 in
theorem words_in (w : World) (va : Option Addr) (vc : Nat) (xs : List Value) (b o : Nat) (tk : Int) (htk : tk = 1 ∨ tk = 2) (A : Option Addr) (cap : Nat) (l : Nat) (hl : l < 100)
    (h0 : w.cell? ⟨b, o, none⟩ = some (.int .i8 2)) (h1 : w.cell? ⟨b, o + 1, none⟩ = some (.int .i8 tk)) (h2 : w.cell? ⟨b, o + 2, none⟩ = some (.slice A 0 cap)) (h5 : w.cell? ⟨b, o + 5, none⟩ = some (.int .i64 l)) (h6 : w.cell? ⟨b, o + 6, none⟩ = some (.bool false))
    (hown : Row w (.slice va xs.length vc) xs) (hvb : Value.ownBlock (.slice va xs.length vc) ≠ some b) (hlen : xs.length ≤ 900) (hchk : ChkOk tk A cap) :
    Calls Tryd.prog 14 #[.slice va xs.length vc, .pointer (some ⟨b, o, none⟩)] w (WEnd w (.slice va xs.length vc) xs [⟨#[123]⟩, leafText tk, ⟨#[125]⟩, ⟨#[33]⟩]) := by
  have lb := cell_lt h0
  go_enter Tryd.func14, Tryd.ntmps14
  go_wp2_with fail
  refine (strconv_itoa_small l hl _).mono ?_
  rintro e w1 ⟨rfl, rfl⟩
  generalize (⟨(Lib.decDigits l).toArray⟩ : ByteArray) = side
  have m := Mid.start w va vc xs hown
  generalize w.alloc (Obj.cells #[Value.slice va xs.length vc] 46) = wA at m ⊢
  have c0 := m.cell h0 hvb
  have c1 := m.cell h1 hvb
  have c2 : wA.cell? ⟨b, o + 1 + 1, none⟩ = some (.slice A 0 cap) := m.cell h2 hvb
  have c6 := m.cell h6 hvb
  clear hown
  go_wp2_with fail
  refine (m.kind (by omega) tk htk A cap hchk).mono ?_
  rintro e w5 ⟨rfl, g5, c5, m5⟩
  obtain ⟨b5, fb5⟩ := box_cell m5.box
  obtain ⟨g6, c6', w6, happ, _, _, _, hend⟩ := m5.app (by simp; omega) [⟨#[33]⟩] (by simp) (by simp)
  simp only [List.length_cons, List.length_nil, Nat.zero_add, List.map_cons, List.map_nil, List.length_append, Nat.reduceAdd] at happ b5
  go_wp2_with (first | (at_builtin; refine wpList_app rfl _ _ 46 46 rfl rfl rfl happ ?_))
  go_ret
  obtain ⟨g7, c7, he, hrow, hgr, hor⟩ := hend
  injection he with he
  injection he with he1 he2 he3
  injection he1 with he1
  injection he1 with he1
  subst he1; subst he3
  refine ⟨g6, c6', by simp, ?_, hgr, hor⟩
  simpa using hrow
end Go.Proofs.YtopgmopdjiahmaaDoor
