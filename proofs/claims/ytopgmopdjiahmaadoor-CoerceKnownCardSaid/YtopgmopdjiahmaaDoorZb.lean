/- coerce.words: its closure, and words of leaves, walked by the kit. Conditions: none; plain lemmas. -/
import Derived.Test.YtopgmopdjiahmaaDoorZa
import Derived.Test.YtopgmopdjiahmaaDoorSh
set_option linter.unusedVariables false
set_option linter.unusedSimpArgs false
namespace Go.Proofs.YtopgmopdjiahmaaDoor
open Go Go.RowKit Go.Proofs
set_option maxRecDepth 100000
theorem info9 : (Tryd.prog.info? 9).map (fun i => (i.zero, i.size, i.bytes)) = some (some (.string ByteArray.empty), 1, 16) := by kernel_rfl
theorem cell_heap {w w' : World} {b : Nat} (h : w'.heap[b]? = w.heap[b]?) (o : Nat) : w'.cell? ⟨b, o, none⟩ = w.cell? ⟨b, o, none⟩ := by simp only [World.cell?, h]
theorem cell_lt {w : World} {b o : Nat} {v : Value} (h : w.cell? ⟨b, o, none⟩ = some v) : b < w.heap.size := by
  by_cases hb : b < w.heap.size
  · exact hb
  · simp [World.cell?, Array.getElem?_eq_none (Nat.le_of_not_lt hb)] at h
/-- a row of strings of the call's own -/
abbrev Row (w : World) (v : Value) (xs : List Value) : Prop := w.ownsRow 0 9 1 v xs.length xs
/-- only block p and the row v have turned -/
structure Grew (w w' : World) (p : Nat → Prop) (v : Value) : Prop where
  os : w'.os = w.os
  tape : w'.tape = w.tape
  output : w'.output = w.output
  size : w.heap.size ≤ w'.heap.size
  block : ∀ b, b < w.heap.size → ¬ p b → v.ownBlock ≠ some b → w'.heap[b]? = w.heap[b]?
theorem row_app (w : World) (va : Option Addr) (vc : Nat) (xs : List Value) (hown : Row w (.slice va xs.length vc) xs) (hlen : xs.length ≤ 2000) (a : Addr) (news : List Value) (nc : Nat) (hpos : 0 < news.length) (hn : news.length ≤ 100) (hnews : ∀ j u, news[j]? = some u → w.cell? (a.add j) = some u) (h1 : ∀ u ∈ news, u.oneCell' = true) :
    ∃ g c w', (Builtin.append_ #[46, 46] 46 #[.slice va xs.length vc, .slice (some a) news.length nc]).run Tryd.prog w = .ok (.slice (some ⟨g, 0, none⟩) (xs.length + news.length) c) w' ∧ Row w' (.slice (some ⟨g, 0, none⟩) (xs.length + news.length) c) (xs ++ news) ∧ w.grownBy w' (Value.ownBlock (.slice va xs.length vc)) ∧ (Value.ownBlock (.slice va xs.length vc) = some g ∨ w.heap.size ≤ g) := by
  obtain ⟨i, hi, h⟩ := Option.map_eq_some_iff.1 info9
  simp only [Prod.mk.injEq] at h
  obtain ⟨hz, hs, hb⟩ := h
  obtain ⟨v', w', hr, hown', hgrow, hnil, hat⟩ := run_append_own_at (P := Tryd.prog) w 0 46 46 9 i _ 1 16 Tryd.underlying46 hi hz hs hb rfl (by decide) (.slice va xs.length vc) xs.length xs hown a news.length nc news (by omega) hnews h1 (by simp only [maxLen]; omega) (by omega) (Nat.zero_le _)
  rcases hown'.2 with ⟨h2, h3⟩ | ⟨g, cap, cur, rfl, hbg, h3⟩
  · omega
  · refine ⟨g, cap, w', hr, by unfold Row; rw [List.length_append]; exact hown', hgrow, ?_⟩
    rcases hat with h | h
    · left; rw [← h]; rfl
    · right
      have : g = w.heap.size := by simpa [Value.ownBlock] using h
      omega
theorem row_kept {w w' : World} {v : Value} {xs : List Value} (h : Row w v xs) (hb : Below w.heap.size w w') : Row w' v xs :=
  h.kept (row := none) ⟨hb.os, hb.tape, hb.output, hb.size, fun k hk _ => hb.block k hk⟩ (by cases hv : v.ownBlock <;> simp)
theorem own_lt {w : World} {v : Value} {xs : List Value} (h : Row w v xs) {g : Nat} (hg : v.ownBlock = some g) : g < w.heap.size := (h.lt g hg).2
theorem news_cells (w : World) (l : List Value) (t : TypeId) : ∀ j u, l[j]? = some u → (w.alloc (.cells l.toArray t)).cell? ((⟨w.heap.size, 0, none⟩ : Addr).add j) = some u := fun j u hj => by
  have hadd : (⟨w.heap.size, 0, none⟩ : Addr).add j = ⟨w.heap.size, j, none⟩ := by unfold Addr.add; split <;> simp_all
  rw [hadd, World.cell?_alloc_new]; simpa using hj
theorem box_cell {w : World} {p : Nat} {v : Value} {t : TypeId} (h : w.heap[p]? = some (.cells #[v] t (0, 0))) : w.cell? ⟨p, 0, none⟩ = some v ∧ w.frozen? ⟨p, 0, none⟩ = false := ⟨by simp [World.cell?, h], by simp [World.frozen?, h]⟩
theorem box_set {w : World} {p : Nat} {u v : Value} {t : TypeId} (h : w.heap[p]? = some (.cells #[u] t (0, 0))) : (w.setCell ⟨p, 0, none⟩ v).heap[p]? = some (.cells #[v] t (0, 0)) := by
  show (w.heap.modify p _)[p]? = _
  rw [Array.getElem?_modify]
  simp [h]
theorem row_set {w : World} {v : Value} {xs : List Value} (h : Row w v xs) {p : Nat} (hp : v.ownBlock ≠ some p) (u : Value) : Row (w.setCell ⟨p, 0, none⟩ u) v xs :=
  h.kept (row := some p) ⟨rfl, rfl, rfl, by simp, fun k hk hne => Below.heap_setCell _ _ _ k (fun e => hne (by rw [e]))⟩ (.inr hp)
theorem grew_of {w w1 w3 : World} {p : Nat} {v u : Value} {o : Obj} (k : Below w.heap.size w w1) (hg : (w1.alloc o).grownBy w3 v.ownBlock) : Grew w (w3.setCell ⟨p, 0, none⟩ u) (fun b => b = p) v := by
  have s1 := k.size
  have s3 := hg.size
  rw [World.size_alloc] at s3
  refine ⟨hg.os.trans k.os, hg.tape.trans k.tape, hg.output.trans k.output, by simp; omega, fun b hb hne hv => ?_⟩
  rw [Below.heap_setCell _ _ _ b hne, hg.block b (by simp; omega) (fun e => hv e.symm), Below.heap_alloc w1 o b (by omega)]
  exact k.block b hb
set_option maxHeartbeats 2000000 in
theorem kind_calls (w : World) (k : Int) (hk : k = 1 ∨ k = 2) (A : Option Addr) (cap : Nat) (p : Nat) (va : Option Addr) (vc : Nat) (xs : List Value) (hbox : w.heap[p]? = some (.cells #[.slice va xs.length vc] 46 (0, 0))) (hown : Row w (.slice va xs.length vc) xs) (hpv : Value.ownBlock (.slice va xs.length vc) ≠ some p) (hlen : xs.length ≤ 1000)
    (hchk : ∀ w1, Calls Tryd.prog 9 #[.agg #[.int .i8 k, .slice A 0 cap]] w1 fun e w2 => Below w1.heap.size w1 w2 ∧ e = .returned (.int .i64 0)) :
    Calls Tryd.prog 30 #[.agg #[.int .i8 k, .slice A 0 cap], .pointer (some ⟨p, 0, none⟩)] w fun e w' => e = .returned (.tuple #[]) ∧ ∃ g c, w'.heap[p]? = some (.cells #[.slice (some ⟨g, 0, none⟩) (xs.length + 3) c] 46 (0, 0)) ∧ Row w' (.slice (some ⟨g, 0, none⟩) (xs.length + 3) c) (xs ++ [.string ⟨#[123]⟩, .string (leafText k), .string ⟨#[125]⟩]) ∧ g ≠ p ∧
      (Value.ownBlock (.slice va xs.length vc) = some g ∨ w.heap.size ≤ g) ∧ Grew w w' (fun b => b = p) (.slice va xs.length vc) := by
  have lp : p < w.heap.size := (Array.getElem?_eq_some_iff.1 hbox).1
  go_enter Tryd.func30, Tryd.ntmps30
  go_wp2_with fail
  refine (text_calls k hk A cap _ fun w1 _ => hchk w1).mono ?_
  rintro e w1 ⟨k1, rfl⟩
  have k0 := below_alloc w (Obj.cells #[Value.int IntKind.i8 k, Value.slice A 0 cap] 25)
  have k01 : Below w.heap.size w w1 := k0.trans (k1.mono (by simp))
  have s1 := k1.size
  rw [World.size_alloc] at s1
  have c0 : w1.cell? ⟨p, 0, none⟩ = some (.slice va xs.length vc) := by rw [k01.cell lp]; simp [World.cell?, hbox]
  have hbox1 : w1.heap[p]? = some (.cells #[.slice va xs.length vc] 46 (0, 0)) := (k01.block p lp).trans hbox
  have hown1 := row_kept hown k01
  clear k1
  obtain ⟨g, c, w3, happ, hrow3, hg3, hor⟩ := row_app (w1.alloc (Obj.cells #[.string ⟨#[123]⟩, .string (leafText k), .string ⟨#[125]⟩] 9)) va vc xs (row_kept hown1 (below_alloc _ _)) (by omega) ⟨w1.heap.size, 0, none⟩ [.string ⟨#[123]⟩, .string (leafText k), .string ⟨#[125]⟩] 3 (by simp) (by simp) (news_cells w1 _ 9)
    (fun u hu => by simp only [List.mem_cons, List.not_mem_nil, or_false] at hu; rcases hu with rfl | rfl | rfl <;> rfl)
  have hgp : g ≠ p := by
    rintro rfl
    rcases hor with h | h
    · exact hpv h
    · rw [World.size_alloc] at h; omega
  have hbox3 : w3.heap[p]? = some (.cells #[.slice va xs.length vc] 46 (0, 0)) := by
    rw [hg3.block p (by simp; omega) (fun e => hpv e.symm), Below.heap_alloc w1 _ p (by omega)]; exact hbox1
  obtain ⟨c3, f3⟩ := box_cell hbox3
  go_wp2_with (first | (at_builtin; refine wpList_app rfl _ _ 46 46 rfl rfl rfl happ ?_))
  refine ⟨rfl, .tuple #[], by simp [results, Tryd.results30], rfl, g, c, box_set hbox3, row_set hrow3 (by simp [Value.ownBlock]; exact hgp) _, hgp, ?_, grew_of k01 hg3⟩
  rcases hor with h | h
  · exact .inl h
  · rw [World.size_alloc] at h; right; omega
end Go.Proofs.YtopgmopdjiahmaaDoor
