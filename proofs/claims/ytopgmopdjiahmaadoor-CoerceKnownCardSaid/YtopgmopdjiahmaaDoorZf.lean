/- coerce.words of coercions of two: the walk up to the groups that draw their order. Conditions: none; plain lemmas. -/
import Derived.Test.YtopgmopdjiahmaaDoorZe
import Derived.WideMake
set_option linter.unusedVariables false
set_option linter.unusedSimpArgs false
namespace Go.Proofs.YtopgmopdjiahmaaDoor
open Go Go.RowKit Go.Proofs
set_option maxRecDepth 100000
noncomputable def r22 : Code := match Tryd.f14.body with
  | some (.seq _ (.seq _ (.seq _ (.seq _ (.seq (.seq _ (.block _ (.seq _ (.cond _ _ (.seq _ (.cond _ _ (.seq _ (.cond _ _ (.seq _ (.cond _ _ (.seq _ (.cond _ (.seq r _) _)))))))))))) _))))) => r
  | _ => .skip
noncomputable def r24 : Code := match Tryd.f14.body with
  | some (.seq _ (.seq _ (.seq _ (.seq _ (.seq _ (.seq _ (.seq r _))))))) => r
  | _ => .skip
noncomputable def r25 : Code := match Tryd.f14.body with
  | some (.seq _ (.seq _ (.seq _ (.seq _ (.seq _ (.seq _ (.seq _ (.seq r _)))))))) => r
  | _ => .skip
theorem wp_ret {P : Program} {Q : Exit → Act → World → Prop} {a : Act} {w : World} (h : Q .ret a w) : Code.ret.wp P Q a w := by
  first
    | exact Go.wp_ret h
    | exact fun _ _ _ => ⟨.ret, a, w, h, .one step_ret⟩
theorem Mid.alloc {w0 : World} {v0 : Value} {s : Nat} {w : World} {va : Option Addr} {vc : Nat} {xs : List Value} (h : Mid w0 v0 s w va vc xs) (o : Obj) : Mid w0 v0 s (w.alloc o) va vc xs :=
  ⟨h.os, h.tape, h.output, h.lo, by simp; have := h.hi; omega, by rw [Below.heap_alloc w o s h.hi]; exact h.box, row_kept h.row (below_alloc w o), h.own, h.ne, fun b hb hv => by rw [Below.heap_alloc w o b (by have := h.lo; have := h.hi; omega)]; exact h.fr b hb hv⟩
theorem results14 {t : Array Value} {w : World} {v : Value} (h : t.getD 4 undef = v) : (results Tryd.f14 t).run Tryd.prog w = .ok v w := by
  have h' : t[4]?.getD undef = v := by rw [← Array.getD_eq_getD_getElem?]; exact h
  simp [results, Tryd.results14, h']
set_option maxHeartbeats 8000000 in
theorem words_seq (w : World) (va : Option Addr) (vc : Nat) (ss : List ByteArray) (b o : Nat) (l : Nat) (hl : l < 100) (news : List ByteArray)
    (h0 : w.cell? ⟨b, o, none⟩ = some (.int .i8 7)) (h5 : w.cell? ⟨b, o + 5, none⟩ = some (.int .i64 l)) (h6 : w.cell? ⟨b, o + 6, none⟩ = some (.bool false))
    (hown : Row w (.slice va (ss.map Value.string).length vc) (ss.map .string)) (hvb : Value.ownBlock (.slice va (ss.map Value.string).length vc) ≠ some b)
    (hreg : ∀ (s : Nat) (w1 : World) (a : Act) (Q : Exit → Act → World → Prop), Mid w (.slice va (ss.map Value.string).length vc) s w1 va vc (ss.map .string) → a.tmps.size = 129 → a.defers = [] → a.tmps.getD 1 undef = .pointer (some ⟨b, o, none⟩) → a.tmps.getD 2 undef = .pointer (some ⟨s, 0, none⟩) →
      (∀ a' w', a'.defers = [] → WEnd w (.slice va (ss.map Value.string).length vc) (ss.map .string) news (.returned (a'.tmps.getD 4 undef)) w' → Q .normal a' w') → r22.wp Tryd.prog Q a w1) :
    Calls Tryd.prog 14 #[.slice va (ss.map Value.string).length vc, .pointer (some ⟨b, o, none⟩)] w (WEnd w (.slice va (ss.map Value.string).length vc) (ss.map .string) news) := by
  have lb := cell_lt h0
  generalize hxs : ss.map Value.string = xs at *
  go_enter Tryd.func14, Tryd.ntmps14
  go_wp2_with fail
  refine (strconv_itoa_small l hl _).mono ?_
  rintro e w1 ⟨rfl, rfl⟩
  generalize (⟨(Lib.decDigits l).toArray⟩ : ByteArray) = side
  have m := Mid.start w va vc xs hown
  generalize w.alloc (Obj.cells #[Value.slice va xs.length vc] 46) = wA at m ⊢
  have c0 := m.cell h0 hvb
  have c6 := m.cell h6 hvb
  clear hown
  go_wp2_with fail
  refine hreg _ _ _ _ m rfl rfl rfl rfl fun a' w' hdf hend => ?_
  apply_assumption
  refine wp_ret ?_
  simp only [Exit.inBlock, Exit.then]
  exact ⟨hdf, _, results14 rfl, hend⟩
theorem map_put (w : World) (es : Array MapEntry) (c : Nat) (k : Int) (v : Value) (hf : Instr.findNow (.int .i8) (.int .i8 k) es.toList 0 = some none) :
    (Instr.mapUpdate 76 (.map (some w.heap.size)) (.int .i8 k) v).run Tryd.prog (w.alloc (.map es c)) = .ok () (w.alloc (.map (es.push { key := .int .i8 k, val := v, born := c }) (c + 1))) := by
  have hb : (w.alloc (.map es c)).heap[w.heap.size]? = some (.map es c) := heap_alloc_new w _
  have hc : (Instr.checkKey false 10000 22 (.int .i8 k)).run Tryd.prog (w.alloc (.map es c)) = .ok () (w.alloc (.map es c)) := MapKept.run_checkKey (k := .int .i8 k) Tryd.underlying22 (by simp [MapKept.IsKey]) false 9999
  have hp : (w.heap.push (Obj.map es c)).setIfInBounds w.heap.size (Obj.map (es.push { key := .int .i8 k, val := v, born := c }) (c + 1)) = w.heap.push (Obj.map (es.push { key := .int .i8 k, val := v, born := c }) (c + 1)) := by
    apply Array.ext_getElem?
    intro i
    simp only [Array.getElem?_setIfInBounds, Array.getElem?_push, Array.size_push]
    by_cases h : i = w.heap.size
    · subst h; simp
    · rw [if_neg (Ne.symm h), if_neg h, if_neg h]
  have hw : ({ w.alloc (.map es c) with heap := (w.alloc (.map es c)).heap.setIfInBounds w.heap.size (.map (es.push { key := .int .i8 k, val := v, born := c }) (c + 1)) } : World) = w.alloc (.map (es.push { key := .int .i8 k, val := v, born := c }) (c + 1)) := by
    show ({ w.alloc (.map es c) with heap := (w.heap.push (Obj.map es c)).setIfInBounds w.heap.size (.map (es.push { key := .int .i8 k, val := v, born := c }) (c + 1)) } : World) = _
    rw [hp]; rfl
  simp only [Instr.mapUpdate, run_underlying Tryd.underlying76, MapKept.run_getObj_map hb, hc, MapKept.run_findKey Tryd.underlying22 hf, MapKept.run_setObj_map _ hb, Result.andThen, Sem.run_bind, hw]
theorem map_get (w : World) (es : Array MapEntry) (c : Nat) (k : Int) (i : Nat) (v : Value) (hf : Instr.findNow (.int .i8) (.int .i8 k) es.toList 0 = some (some (i, v))) :
    (Instr.lookup 76 (.map (some w.heap.size)) (.int .i8 k) false).run Tryd.prog (w.alloc (.map es c)) = .ok v (w.alloc (.map es c)) := by
  have hb : (w.alloc (.map es c)).heap[w.heap.size]? = some (.map es c) := heap_alloc_new w _
  have hc : (Instr.checkKey es.isEmpty 10000 22 (.int .i8 k)).run Tryd.prog (w.alloc (.map es c)) = .ok () (w.alloc (.map es c)) := MapKept.run_checkKey (k := .int .i8 k) Tryd.underlying22 (by simp [MapKept.IsKey]) _ 9999
  simp [Instr.lookup, run_underlying Tryd.underlying76, MapKept.run_getObj_map hb, hc, MapKept.run_findKey Tryd.underlying22 hf, Result.andThen]
theorem map_facts (w : World) : ∃ E1 E2 E3 : Array MapEntry,
    (Instr.mapUpdate 76 (.map (some w.heap.size)) (.int .i8 4) (.agg #[.string ⟨#[45, 62]⟩])).run Tryd.prog (w.alloc (.map #[] 0)) = .ok () (w.alloc (.map E1 1)) ∧
    (Instr.mapUpdate 76 (.map (some w.heap.size)) (.int .i8 5) (.agg #[.string ⟨#[42]⟩])).run Tryd.prog (w.alloc (.map E1 1)) = .ok () (w.alloc (.map E2 2)) ∧
    (Instr.mapUpdate 76 (.map (some w.heap.size)) (.int .i8 6) (.agg #[.string ⟨#[43]⟩])).run Tryd.prog (w.alloc (.map E2 2)) = .ok () (w.alloc (.map E3 3)) ∧
    (Instr.lookup 76 (.map (some w.heap.size)) (.int .i8 4) false).run Tryd.prog (w.alloc (.map E3 3)) = .ok (.agg #[.string ⟨#[45, 62]⟩]) (w.alloc (.map E3 3)) :=
  ⟨_, _, _, map_put w #[] 0 4 _ rfl, map_put w _ 1 5 _ rfl, map_put w _ 2 6 _ rfl, map_get w _ 3 4 0 _ rfl⟩
set_option maxHeartbeats 8000000 in
theorem words_fun (w : World) (va : Option Addr) (vc : Nat) (ss : List ByteArray) (b o : Nat) (l : Nat) (hl : l < 100) (news : List ByteArray)
    (h0 : w.cell? ⟨b, o, none⟩ = some (.int .i8 4)) (h5 : w.cell? ⟨b, o + 5, none⟩ = some (.int .i64 l)) (h6 : w.cell? ⟨b, o + 6, none⟩ = some (.bool false))
    (hown : Row w (.slice va (ss.map Value.string).length vc) (ss.map .string)) (hvb : Value.ownBlock (.slice va (ss.map Value.string).length vc) ≠ some b)
    (hreg : ∀ (s : Nat) (w1 : World) (a : Act) (Q : Exit → Act → World → Prop), Mid w (.slice va (ss.map Value.string).length vc) s w1 va vc (ss.map .string) → a.tmps.size = 129 → a.defers = [] → a.tmps.getD 1 undef = .pointer (some ⟨b, o, none⟩) → a.tmps.getD 2 undef = .pointer (some ⟨s, 0, none⟩) → a.tmps.getD 7 undef = .string ⟨#[45, 62]⟩ →
      (∀ a' w', (∀ Q', (∀ a'' w'', a''.defers = [] → WEnd w (.slice va (ss.map Value.string).length vc) (ss.map .string) news (.returned (a''.tmps.getD 4 undef)) w'' → Q' .normal a'' w'') → r25.wp Tryd.prog Q' a' w') → Q .normal a' w') → r24.wp Tryd.prog Q a w1) :
    Calls Tryd.prog 14 #[.slice va (ss.map Value.string).length vc, .pointer (some ⟨b, o, none⟩)] w (WEnd w (.slice va (ss.map Value.string).length vc) (ss.map .string) news) := by
  have lb := cell_lt h0
  generalize hxs : ss.map Value.string = xs at *
  go_enter Tryd.func14, Tryd.ntmps14
  go_wp2_with fail
  refine (strconv_itoa_small l hl _).mono ?_
  rintro e w1 ⟨rfl, rfl⟩
  generalize (⟨(Lib.decDigits l).toArray⟩ : ByteArray) = side
  have m := Mid.start w va vc xs hown
  generalize w.alloc (Obj.cells #[Value.slice va xs.length vc] 46) = wA at m ⊢
  have c0 := m.cell h0 hvb
  have c6 := m.cell h6 hvb
  clear hown
  have lA : b < wA.heap.size := cell_lt c0
  have hmm := @run_makeMap Tryd.prog
  obtain ⟨E1, E2, E3, q1, q2, q3, q4⟩ := map_facts wA
  have hfld : ∀ w, (Instr.field 75 (.agg #[.string ⟨#[45, 62]⟩]) 0).run Tryd.prog w = .ok (.string ⟨#[45, 62]⟩) w := fun _ => by kernel_rfl
  go_wp2_with fail
  refine hreg _ _ _ _ (m.alloc _) rfl rfl rfl rfl rfl fun a' w' h25 => ?_
  apply_assumption
  refine wp_seq (h25 _ fun a'' w'' hdf hend => ?_)
  simp only [Exit.then]
  refine wp_ret ?_
  exact ⟨hdf, _, results14 rfl, hend⟩
end Go.Proofs.YtopgmopdjiahmaaDoor
