/- coerce.words of leaves, walked by the kit. Conditions: none; plain lemmas. -/
import Derived.Test.YtopgmopdjiahmaaDoorZb
set_option linter.unusedVariables false
set_option linter.unusedSimpArgs false
namespace Go.Proofs.YtopgmopdjiahmaaDoor
open Go Go.RowKit Go.Proofs
set_option maxRecDepth 100000
/-- how a call of words ends -/
def WEnd (w : World) (v : Value) (xs : List Value) (news : List ByteArray) (e : Ending) (w' : World) : Prop :=
  ∃ g c, e = .returned (.slice (some ⟨g, 0, none⟩) (xs.length + news.length) c) ∧ Row w' (.slice (some ⟨g, 0, none⟩) (xs.length + news.length) c) (xs ++ news.map .string) ∧ w.grownBy w' v.ownBlock ∧ (v.ownBlock = some g ∨ w.heap.size ≤ g)
def ChkOk (k : Int) (A : Option Addr) (cap : Nat) : Prop := ∀ w1, Calls Tryd.prog 9 #[.agg #[.int .i8 k, .slice A 0 cap]] w1 fun e w2 => Below w1.heap.size w1 w2 ∧ e = .returned (.int .i64 0)
/-- how far a call of words has come: its variable l holds a row of xs -/
structure Mid (w0 : World) (v0 : Value) (s : Nat) (w : World) (va : Option Addr) (vc : Nat) (xs : List Value) : Prop where
  os : w.os = w0.os
  tape : w.tape = w0.tape
  output : w.output = w0.output
  lo : w0.heap.size ≤ s
  hi : s < w.heap.size
  box : w.heap[s]? = some (.cells #[.slice va xs.length vc] 46 (0, 0))
  row : Row w (.slice va xs.length vc) xs
  own : (Value.slice va xs.length vc).ownBlock = v0.ownBlock ∨ ∃ g, (Value.slice va xs.length vc).ownBlock = some g ∧ w0.heap.size ≤ g
  ne : (Value.slice va xs.length vc).ownBlock ≠ some s
  fr : ∀ b, b < w0.heap.size → v0.ownBlock ≠ some b → w.heap[b]? = w0.heap[b]?
theorem Mid.cell {w0 : World} {v0 : Value} {s : Nat} {w : World} {va : Option Addr} {vc : Nat} {xs : List Value} (h : Mid w0 v0 s w va vc xs) {b o : Nat} {u : Value} (hc : w0.cell? ⟨b, o, none⟩ = some u) (hv : v0.ownBlock ≠ some b) : w.cell? ⟨b, o, none⟩ = some u := by
  rw [cell_heap (h.fr b (cell_lt hc) hv)]; exact hc
theorem Mid.start (w : World) (va : Option Addr) (vc : Nat) (xs : List Value) (hown : Row w (.slice va xs.length vc) xs) : Mid w (.slice va xs.length vc) w.heap.size (w.alloc (Obj.cells #[Value.slice va xs.length vc] 46)) va vc xs :=
  ⟨rfl, rfl, rfl, Nat.le_refl _, by simp, heap_alloc_new w _, row_kept hown (below_alloc _ _), .inl rfl, fun h => by have := own_lt hown h; omega, fun b hb _ => Below.heap_alloc w _ b hb⟩
theorem Mid.app {w0 : World} {v0 : Value} {s : Nat} {w : World} {va : Option Addr} {vc : Nat} {xs : List Value} (h : Mid w0 v0 s w va vc xs) (hlen : xs.length ≤ 2000) (news : List ByteArray) (hpos : 0 < news.length) (hn : news.length ≤ 100) :
    ∃ g c w3, (Builtin.append_ #[46, 46] 46 #[.slice va xs.length vc, .slice (some ⟨w.heap.size, 0, none⟩) news.length news.length]).run Tryd.prog (w.alloc (Obj.cells (news.map Value.string).toArray 9)) = .ok (.slice (some ⟨g, 0, none⟩) (xs.length + news.length) c) w3 ∧
      (∃ u, w3.cell? ⟨s, 0, none⟩ = some u) ∧ w3.frozen? ⟨s, 0, none⟩ = false ∧ Mid w0 v0 s (w3.setCell ⟨s, 0, none⟩ (.slice (some ⟨g, 0, none⟩) (xs.length + news.length) c)) (some ⟨g, 0, none⟩) c (xs ++ news.map .string) ∧
      WEnd w0 v0 xs news (.returned (.slice (some ⟨g, 0, none⟩) (xs.length + news.length) c)) w3 := by
  obtain ⟨g, c, w3, happ, hrow3, hg3, hor⟩ := row_app (w.alloc (Obj.cells (news.map Value.string).toArray 9)) va vc xs (row_kept h.row (below_alloc _ _)) hlen ⟨w.heap.size, 0, none⟩ (news.map .string) news.length (by simpa using hpos) (by simpa using hn) (news_cells w _ 9)
    (fun u hu => by obtain ⟨x, _, rfl⟩ := List.mem_map.1 hu; rfl)
  simp only [List.length_map] at happ hrow3
  have hs3 := hg3.size
  rw [World.size_alloc] at hs3
  have hgs : g ≠ s := by
    rintro rfl
    rcases hor with h' | h'
    · exact h.ne h'
    · rw [World.size_alloc] at h'; have := h.hi; omega
  have hbox3 : w3.heap[s]? = some (.cells #[.slice va xs.length vc] 46 (0, 0)) := by
    rw [hg3.block s (by simp; have := h.hi; omega) (fun e => h.ne e.symm), Below.heap_alloc w _ s h.hi]; exact h.box
  have hfr : ∀ b, b < w0.heap.size → v0.ownBlock ≠ some b → w3.heap[b]? = w0.heap[b]? := fun b hb hv => by
    have h1 := h.lo
    have h2 := h.hi
    have hne : some b ≠ (Value.slice va xs.length vc).ownBlock := fun e => by
      rcases h.own with h' | ⟨g', h', h''⟩
      · exact hv (by rw [← h', ← e])
      · rw [h'] at e; simp only [Option.some.injEq] at e; omega
    rw [hg3.block b (by simp; omega) hne, Below.heap_alloc w _ b (by omega)]
    exact h.fr b hb hv
  have hor' : v0.ownBlock = some g ∨ w0.heap.size ≤ g := by
    have h1 := h.lo
    have h2 := h.hi
    rcases hor with h' | h'
    · rcases h.own with h3 | ⟨g', h3, h4⟩
      · left; rw [← h3]; exact h'
      · rw [h3] at h'; simp only [Option.some.injEq] at h'; right; omega
    · rw [World.size_alloc] at h'; right; omega
  obtain ⟨c3, f3⟩ := box_cell hbox3
  have hl : (xs ++ news.map Value.string).length = xs.length + news.length := by simp
  refine ⟨g, c, w3, happ, ⟨_, c3⟩, f3, ⟨hg3.os.trans h.os, hg3.tape.trans h.tape, hg3.output.trans h.output, h.lo, by simp; have := h.hi; omega, ?_, ?_, ?_, ?_, fun b hb hv => ?_⟩, ⟨g, c, rfl, hrow3, ⟨hg3.os.trans h.os, hg3.tape.trans h.tape, hg3.output.trans h.output, by have := h.lo; have := h.hi; omega, fun b hb hv => hfr b hb (fun e => hv e.symm)⟩, hor'⟩⟩
  · rw [hl]; exact box_set hbox3
  · rw [hl]; exact row_set hrow3 (by simp [Value.ownBlock]; exact hgs) _
  · rcases hor' with h' | h'
    · left; rw [h']; rfl
    · exact .inr ⟨g, rfl, h'⟩
  · simp [Value.ownBlock]; exact hgs
  · rw [Below.heap_setCell _ _ _ b (by have := h.lo; show b ≠ s; omega)]; exact hfr b hb hv
theorem Mid.kind {w0 : World} {v0 : Value} {s : Nat} {w : World} {va : Option Addr} {vc : Nat} {xs : List Value} (h : Mid w0 v0 s w va vc xs) (hlen : xs.length ≤ 1000) (k : Int) (hk : k = 1 ∨ k = 2) (A : Option Addr) (cap : Nat) (hchk : ChkOk k A cap) :
    Calls Tryd.prog 30 #[.agg #[.int .i8 k, .slice A 0 cap], .pointer (some ⟨s, 0, none⟩)] w fun e w' => e = .returned (.tuple #[]) ∧ ∃ g c, Mid w0 v0 s w' (some ⟨g, 0, none⟩) c (xs ++ [⟨#[123]⟩, leafText k, ⟨#[125]⟩].map .string) := by
  refine (kind_calls w k hk A cap s va vc xs h.box h.row h.ne hlen hchk).mono ?_
  rintro e w' ⟨he, g, c, hbox, hrow, hgs, hor, hgr⟩
  have hl : (xs ++ [⟨#[123]⟩, leafText k, ⟨#[125]⟩].map Value.string).length = xs.length + 3 := by simp
  have h1 := h.lo
  have h2 := h.hi
  have h3 := hgr.size
  refine ⟨he, g, c, hgr.os.trans h.os, hgr.tape.trans h.tape, hgr.output.trans h.output, h.lo, by omega, by rw [hl]; exact hbox, by rw [hl]; exact hrow, ?_, by simp [Value.ownBlock]; exact hgs, fun b hb hv => ?_⟩
  · rcases hor with h' | h'
    · rcases h.own with h4 | ⟨g', h4, h5⟩
      · left; rw [← h4, h']; rfl
      · rw [h4] at h'; simp only [Option.some.injEq] at h'; exact .inr ⟨g, rfl, by omega⟩
    · exact .inr ⟨g, rfl, by omega⟩
  · rw [hgr.block b (by omega) (by omega) (fun e => ?_)]
    · exact h.fr b hb hv
    · rcases h.own with h' | ⟨g', h', h''⟩
      · exact hv (by rw [← h', e])
      · rw [h'] at e; simp only [Option.some.injEq] at e; omega
theorem Mid.fin {w0 : World} {v0 : Value} {s : Nat} {w : World} {g c : Nat} {xs : List Value} {news : List ByteArray} (h : Mid w0 v0 s w (some ⟨g, 0, none⟩) c (xs ++ news.map .string)) {n : Nat} (hn : n = xs.length + news.length) : WEnd w0 v0 xs news (.returned (.slice (some ⟨g, 0, none⟩) n c)) w := by
  subst hn
  have hl : (xs ++ news.map Value.string).length = xs.length + news.length := by simp
  have hr := h.row
  have ho := h.own
  rw [hl] at hr ho
  refine ⟨g, c, rfl, hr, ⟨h.os, h.tape, h.output, by have := h.lo; have := h.hi; omega, fun b hb hv => h.fr b hb fun e => hv e.symm⟩, ?_⟩
  rcases ho with h' | ⟨g', h', h''⟩
  · left; rw [← h']; rfl
  · have : g = g' := by simpa [Value.ownBlock] using h'
    right; omega
end Go.Proofs.YtopgmopdjiahmaaDoor
