/- types.Text of two types of no parts, walked by the kit. Conditions: none; plain lemmas. -/
import Derived.Test.YtopgmopdjiahmaaDoorProg
import Derived.WalkKit
import Derived.Outline
import Derived.WalkSpells
import Derived.WalkLawsBesides
import Derived.Below
import Derived.Laws.IdiomStrings
import Derived.Maps.AppendAt
import Derived.OwnWalk
set_option linter.unusedVariables false
set_option linter.unusedSimpArgs false
namespace Go.Proofs.YtopgmopdjiahmaaDoor
open Go Go.RowKit Go.Proofs
set_option maxRecDepth 100000
/-- the words of the two types -/
def leafText (k : Int) : ByteArray := if k = 1 then ⟨#[105, 110, 116]⟩ else ⟨#[98, 111, 111, 108]⟩
theorem below_alloc (w : World) (o : Obj) : Below w.heap.size w (w.alloc o) := (Below.refl _ _).alloc (Nat.le_refl _) o
set_option maxHeartbeats 1000000 in
theorem tight_calls (k : Int) (hk : k = 1 ∨ k = 2) (w : World) : Calls Tryd.prog 50 #[.int .i8 k] w fun e w' => e = .returned (.int .i64 4) ∧ Below w.heap.size w w' := by
  rcases hk with rfl | rfl
  · go_enter Tryd.func50, Tryd.ntmps50
    go_wp2_with fail
    go_ret
    exact ⟨rfl, below_alloc _ _⟩
  · go_enter Tryd.func50, Tryd.ntmps50
    go_wp2_with fail
    go_ret
    exact ⟨rfl, below_alloc _ _⟩
set_option maxHeartbeats 1000000 in
theorem sign_calls (k : Int) (hk : k = 1 ∨ k = 2) (w : World) : Calls Tryd.prog 51 #[.int .i8 k] w fun e w' => e = .returned (.string (leafText k)) ∧ Below w.heap.size w w' := by
  rcases hk with rfl | rfl
  · go_enter Tryd.func51, Tryd.ntmps51
    go_wp2_with fail
    go_ret
    exact ⟨rfl, below_alloc _ _⟩
  · go_enter Tryd.func51, Tryd.ntmps51
    go_wp2_with fail
    go_ret
    exact ⟨rfl, below_alloc _ _⟩
theorem wpList_app {P : Program} {w : World} {ops : Array Oper} {rest : List Oper} {o : Oper} {a : Act} {Q : Exit → Act → World → Prop} (hgd : o.guard = none) (s x : Operand) (t t' : TypeId)
    (ho : o.op = .call { callee := .builtin .append, args := #[s, x], argTypes := #[t, t'] }) {v1 v2 v' : Value} {w' : World} (hs : a.eval s = v1) (hx : a.eval x = v2)
    (hr : (Builtin.append_ #[t, t'] o.type #[v1, v2]).run P w = .ok v' w') (h : wpList P ops Q rest (a.put o.dst v') w') : wpList P ops Q (o :: rest) a w := by
  refine wpList_plain hgd fun K hK => ?_
  unfold Oper.wp execOp
  simp only [ho, resolve, invoke, builtin, Sem.run_bind, Sem.run_pure, Result.andThen_ok, List.map_toArray, List.map_cons, List.map_nil, hs, hx, hr]
  exact hK _ _ h
theorem info5 : (Tryd.prog.info? 5).map (fun i => (i.zero, i.size, i.bytes)) = some (some (.int .u8 0), 1, 1) := by kernel_rfl
theorem app62 (w : World) (s : ByteArray) (h0 : 0 < s.size) (h : s.size ≤ 100) : ∃ g c w', (Builtin.append_ #[62, 9] 62 #[.slice none 0 0, .string s]).run Tryd.prog w = .ok (.slice (some ⟨g, 0, none⟩) s.size c) w' ∧ Below w.heap.size w w' ∧ ∀ j (hj : j < s.data.toList.length), w'.cell? ⟨g, j, none⟩ = some (.int .u8 (s.data.toList[j].toNat : Int)) := by
  obtain ⟨i, hi, h'⟩ := Option.map_eq_some_iff.1 info5
  simp only [Prod.mk.injEq] at h'
  obtain ⟨hz, hs, hb⟩ := h'
  have := run_append_nil_string (P := Tryd.prog) w 62 9 62 5 i _ Tryd.underlying62 Tryd.underlying9 hi hz s h0 (by omega) (by rw [hb]; omega)
  refine ⟨_, _, _, this, ?_, fun j hj => ?_⟩
  · exact ((Below.refl _ _).drew).alloc (Nat.le_refl _) _
  · have hj' : j < s.data.size := by simpa using hj
    show (w.alloc _).cell? _ = _
    rw [World.cell?_alloc_new, Array.getElem?_append_left (by simpa using hj')]
    have : s.data[j]? = some s.data[j] := Array.getElem?_eq_getElem hj'
    rw [Array.getElem?_map, this]; rfl
set_option maxHeartbeats 2000000 in
theorem write_calls (k : Int) (hk : k = 1 ∨ k = 2) (A : Option Addr) (cap : Nat) (w : World) : Calls Tryd.prog 44 #[.slice none 0 0, .agg #[.int .i8 k, .slice A 0 cap], .int .i64 0] w fun e w' => Below w.heap.size w w' ∧ ∃ g c, e = .returned (.slice (some ⟨g, 0, none⟩) (leafText k).size c) ∧ ∀ j (hj : j < (leafText k).data.toList.length), w'.cell? ⟨g, j, none⟩ = some (.int .u8 ((leafText k).data.toList[j].toNat : Int)) := by
  have hsz : 0 < (leafText k).size ∧ (leafText k).size ≤ 100 := by rcases hk with rfl | rfl <;> decide
  go_enter Tryd.func44, Tryd.ntmps44
  go_wp2_with fail
  refine (tight_calls k hk _).mono ?_
  rintro e w1 ⟨rfl, k1⟩
  have k0 := (below_alloc w (Obj.cells #[Value.int IntKind.i8 k, Value.slice A 0 cap] 25))
  rw [World.size_alloc] at k1
  have c0 : w1.cell? ⟨w.heap.size, 0, none⟩ = some (.int .i8 k) := by rw [k1.cell (by show _ < _; simp), World.cell?_alloc_new]; rfl
  have c1 : w1.cell? ⟨w.heap.size, 1, none⟩ = some (.slice A 0 cap) := by rw [k1.cell (by show _ < _; simp), World.cell?_alloc_new]; rfl
  have s1 := k1.size
  rw [World.size_alloc] at s1
  go_wp2_with fail
  refine (sign_calls k hk _).mono ?_
  rintro e w2 ⟨rfl, k2⟩
  obtain ⟨g, c, w3, happ, k3, hcells⟩ := app62 w2 (leafText k) hsz.1 hsz.2
  go_wp2_with (first | (at_builtin; refine wpList_app rfl _ _ 62 9 rfl rfl rfl happ ?_))
  go_ret
  refine ⟨?_, g, c, rfl, hcells⟩
  exact ((k0.trans (k1.mono (by omega))).trans (k2.mono (by omega))).trans (k3.mono (by have := k2.size; omega))
/-- types.Text: what is written -/
theorem text_calls (k : Int) (hk : k = 1 ∨ k = 2) (A : Option Addr) (cap : Nat) (w : World)
    (hchk : ∀ w1, w.heap.size ≤ w1.heap.size → Calls Tryd.prog 9 #[.agg #[.int .i8 k, .slice A 0 cap]] w1 fun e w2 => Below w1.heap.size w1 w2 ∧ e = .returned (.int .i64 0)) :
    Calls Tryd.prog 31 #[.agg #[.int .i8 k, .slice A 0 cap]] w fun e w' => Below w.heap.size w w' ∧ e = .returned (.tuple #[.string (leafText k), .int .i64 0]) := by
  have hl : leafText k = ⟨(leafText k).data.toList.toArray⟩ := rfl
  go_enter Tryd.func31, Tryd.ntmps31
  go_wp2_with fail
  refine (hchk _ (by simp)).mono ?_
  rintro e w1 ⟨k1, rfl⟩
  have k0 := (below_alloc w (Obj.cells #[Value.int IntKind.i8 k, Value.slice A 0 cap] 25))
  rw [World.size_alloc] at k1
  have c0 : w1.cell? ⟨w.heap.size, 0, none⟩ = some (.int .i8 k) := by rw [k1.cell (by show _ < _; simp), World.cell?_alloc_new]; rfl
  have c1 : w1.cell? ⟨w.heap.size, 1, none⟩ = some (.slice A 0 cap) := by rw [k1.cell (by show _ < _; simp), World.cell?_alloc_new]; rfl
  have s1 := k1.size
  rw [World.size_alloc] at s1
  go_wp2_with fail
  refine (write_calls k hk A cap _).mono ?_
  rintro e w2 ⟨k2, g, c, rfl, hcells⟩
  have hadd : ∀ j, (⟨g, 0, none⟩ : Addr).add j = ⟨g, j, none⟩ := fun j => by unfold Addr.add; split <;> simp_all
  have hconv := run_convert_bytes_back (P := Tryd.prog) w2 62 9 5 ⟨g, 0, none⟩ c (leafText k).data.toList Tryd.underlying62 Tryd.underlying5 Tryd.underlying9 (fun j hj => by rw [hadd]; exact hcells j hj)
  have hlen : (leafText k).data.toList.length = (leafText k).size := by simp
  rw [hlen] at hconv
  go_wp2_with fail
  exact bodyPost_ret (v := .tuple #[.string (leafText k), .int .i64 0]) (by simp [results, Tryd.results31]) rfl ⟨((below_alloc w _).trans (k1.mono (by omega))).trans (k2.mono (by omega)), rfl⟩
end Go.Proofs.YtopgmopdjiahmaaDoor
