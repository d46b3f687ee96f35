/- What it means that a state of the logic tells of a state of the machine, and how that lives on. Conditions: none; plain definitions and lemmas. -/
import Derived.Test.YtopgmopdjiahmaaDoorLb
set_option linter.unusedVariables false
set_option linter.unusedSimpArgs false
namespace Go.Proofs.YtopgmopdjiahmaaDoor.Lg
open Go Go.RowKit

/-- A call's beginning: the world, the blocks of what was handed in, the boxes that were lent. -/
structure Cx where
  w : World
  N : Nat → Prop
  na : Nat
  m : Nat → Nat
  hN : ∀ b, N b → b < w.heap.size
  hm : ∀ i, i < na → m i < w.heap.size ∧ ¬ N (m i)
  dfs : List Deferred := []
  G : Nat → Prop := fun _ => False
  gh : Nat → Option Obj := fun _ => none
  s2 : Nat := 0

def NS (cx : Cx) (s : List (Key × Box)) (z : List Key) (M : Pl) (w : World) (b : Nat) : Prop :=
  (cx.N b ∨ cx.w.heap.size ≤ b) ∧ b < w.heap.size ∧ ∀ k c, (getB s k).isSome = true → k ∉ z → M k ≠ some (b, c)
def NF (cx : Cx) (s : List (Key × Box)) (z : List Key) (M : Pl) (w : World) (b : Nat) : Prop := NS cx s z M w b ∧ cx.w.heap.size ≤ b ∧ ∀ o, w.frozen? ⟨b, o, none⟩ = false
abbrev RR (cx : Cx) (s : List (Key × Box)) (z : List Key) (M : Pl) (w : World) : LV → Value → Prop := RepL w (NS cx s z M w) (NF cx s z M w) M

def BoxR (R : LV → Value → Prop) (w : World) (pl : Nat × Nat) : Box → Prop
  | .var cs => ∃ vs e, w.heap[pl.1]? = some (.cells vs e (0, 0)) ∧ Rows2 R cs vs.toList ∧ ∀ v ∈ vs.toList, v.oneCell' = true
  | .row e sz es => ∃ xs, w.ownsRow 0 e sz (.slice (some ⟨pl.1, 0, none⟩) es.length pl.2) es.length xs ∧ Rows2 R es.flatten xs ∧ (∀ x ∈ es, x.length = sz) ∧ ∀ v ∈ xs, v.oneCell' = true

structure Inv (cx : Cx) (σ : St) (M : Pl) (a : Act) (w : World) : Prop where
  os : w.os = cx.w.os
  tape : w.tape = cx.w.tape
  output : w.output = cx.w.output
  size : cx.w.heap.size ≤ w.heap.size
  frame : ∀ b, b < cx.w.heap.size → (∀ i, i < cx.na → cx.m i ≠ b) → w.heap[b]? = cx.w.heap[b]?
  plc : ∀ k, (getB σ.s k).isSome = true → ∃ pl, M k = some pl
  box : ∀ k b pl, getB σ.s k = some b → M k = some pl → BoxR (RR cx σ.s σ.z M w) w pl b
  own : ∀ t pl, (getB σ.s (.own t)).isSome = true → M (.own t) = some pl → cx.w.heap.size ≤ pl.1
  arg : ∀ i, (getB σ.s (.arg i)).isSome = true → i < cx.na
  argM : ∀ i, i < cx.na → ∃ c, M (.arg i) = some (cx.m i, c)
  argz : ∀ i, .arg i ∉ σ.z
  inj : ∀ k k' b c c', (getB σ.s k).isSome = true → (getB σ.s k').isSome = true → M k = some (b, c) → M k' = some (b, c') → k = k'
  env : ∀ t, RR cx σ.s σ.z M w (getE σ.e t) (a.tmps.getD t undef)
  defers : a.defers = cx.dfs
  gho : cx.s2 ≤ w.heap.size ∧ ∀ b, cx.G b → NS cx σ.s σ.z M w b ∧ w.heap[b]? = cx.gh b

theorem ownsRow_at {w w' : World} {e sz n c g : Nat} {xs : List Value} (h : w.ownsRow 0 e sz (.slice (some ⟨g, 0, none⟩) n c) n xs) (hb : w'.heap[g]? = w.heap[g]?) :
    w'.ownsRow 0 e sz (.slice (some ⟨g, 0, none⟩) n c) n xs := by
  obtain ⟨h1, h2⟩ := h
  refine ⟨h1, ?_⟩
  rcases h2 with ⟨h2, _⟩ | ⟨g', cap, cur, hv, hg, hh, r⟩
  · cases h2
  · refine .inr ⟨g', cap, cur, hv, hg, ?_, r⟩
    have : g' = g := by injection hv with h3; injection h3 with h3; injection h3 with h3; exact h3.symm
    subst this
    rw [hb]; exact hh
theorem ownsRow_lt {w : World} {e sz n c g : Nat} {xs : List Value} (h : w.ownsRow 0 e sz (.slice (some ⟨g, 0, none⟩) n c) n xs) : g < w.heap.size :=
  (h.lt g rfl).2

theorem BoxR.lt {R : LV → Value → Prop} {w : World} {pl : Nat × Nat} {b : Box} (h : BoxR R w pl b) : pl.1 < w.heap.size := by
  cases b with
  | var cs =>
    obtain ⟨vs, e, h, _⟩ := h
    exact (Array.getElem?_eq_some_iff.1 h).1
  | row e sz es =>
    obtain ⟨xs, h, _⟩ := h
    exact ownsRow_lt h
theorem free_of {w : World} {b : Nat} {vs : Array Value} {e : TypeId} (h : w.heap[b]? = some (.cells vs e (0, 0))) (o : Nat) : w.frozen? ⟨b, o, none⟩ = false := by simp [World.frozen?, h]
theorem BoxR.free {R : LV → Value → Prop} {w : World} {pl : Nat × Nat} {b : Box} (h : BoxR R w pl b) (o : Nat) : w.frozen? ⟨pl.1, o, none⟩ = false := by
  cases b with
  | var cs =>
    obtain ⟨vs, e, h, _⟩ := h
    exact free_of h o
  | row e sz es =>
    obtain ⟨xs, h, _⟩ := h
    rcases h.2 with ⟨h2, _⟩ | ⟨g', cap, cur, hv, hg, hh, r⟩
    · cases h2
    · have : g' = pl.1 := by injection hv with h3; injection h3 with h3; injection h3 with h3; exact h3.symm
      subst this
      exact free_of hh o
theorem BoxR.up {R R' : LV → Value → Prop} {w w' : World} {pl : Nat × Nat} {b : Box} (h : BoxR R w pl b) (hR : ∀ v x, R v x → R' v x) (hb : w'.heap[pl.1]? = w.heap[pl.1]?) : BoxR R' w' pl b := by
  cases b with
  | var cs =>
    obtain ⟨vs, e, h, h2, h3⟩ := h
    exact ⟨vs, e, hb.trans h, h2.mono fun l v _ => hR l v, h3⟩
  | row e sz es =>
    obtain ⟨xs, h, h2, h3, h4⟩ := h
    exact ⟨xs, ownsRow_at h hb, h2.mono fun l v _ => hR l v, h3, h4⟩

theorem RR.up {cx : Cx} {s s' : List (Key × Box)} {z z' : List Key} {M M' : Pl} {w w' : World} (hN : ∀ b, NS cx s z M w b → NS cx s' z' M' w' b)
    (hM : ∀ k p, M k = some p → M' k = some p) (hw : ∀ b, NS cx s z M w b → w'.heap[b]? = w.heap[b]?) {v : LV} {x : Value} (h : RR cx s z M w v x) : RR cx s' z' M' w' v x := by
  refine RepL.mono h hN (fun b hb => ⟨hN b hb.1, hb.2.1, fun o => (World.frozen?_of_block (a := ⟨b, o, none⟩) (hw b hb.1)).trans (hb.2.2 o)⟩) hM (fun b hb o u hu => ?_)
  have hb : NS cx s z M w b := hb.elim id (·.1)
  rw [← hu]
  exact World.cell?_of_block (hw b hb)

theorem gho_up {cx : Cx} {s s' : List (Key × Box)} {z z' : List Key} {M M' : Pl} {w w' : World} (h : cx.s2 ≤ w.heap.size ∧ ∀ b, cx.G b → NS cx s z M w b ∧ w.heap[b]? = cx.gh b) (hs : w.heap.size ≤ w'.heap.size) (hN : ∀ b, NS cx s z M w b → NS cx s' z' M' w' b) (hw : ∀ b, NS cx s z M w b → w'.heap[b]? = w.heap[b]?) :
    cx.s2 ≤ w'.heap.size ∧ ∀ b, cx.G b → NS cx s' z' M' w' b ∧ w'.heap[b]? = cx.gh b :=
  ⟨Nat.le_trans h.1 hs, fun b hb => ⟨hN b (h.2 b hb).1, (hw b (h.2 b hb).1).trans (h.2 b hb).2⟩⟩
theorem Inv.lt {cx : Cx} {σ : St} {M : Pl} {a : Act} {w : World} (h : Inv cx σ M a w) {k : Key} {pl : Nat × Nat} (hk : (getB σ.s k).isSome = true) (hM : M k = some pl) : pl.1 < w.heap.size := by
  obtain ⟨b, hb⟩ := Option.isSome_iff_exists.1 hk
  exact (h.box k b pl hb hM).lt

theorem getD_put (a : Act) (d : Nat) (v : Value) (hd : d < a.tmps.size) (t : Nat) : (a.put (some d) v).tmps.getD t undef = if d = t then v else a.tmps.getD t undef := by
  simp only [Act.put, Array.getD_eq_getD_getElem?, Array.getElem?_setIfInBounds]
  split
  · rename_i h; subst h; simp [hd]
  · rfl

/-- A value comes into a temporary; the boxes in z are handed on. -/
theorem Inv.val {cx : Cx} {σ : St} {M : Pl} {a : Act} {w : World} (h : Inv cx σ M a w) {d : Nat} (hd : d < a.tmps.size) {lv : LV} {v : Value} (hv : RR cx σ.s σ.z M w lv v) :
    Inv cx { σ with e := putE σ.e d lv } M (a.put (some d) v) w where
  os := h.os
  tape := h.tape
  output := h.output
  gho := h.gho
  size := h.size
  frame := h.frame
  plc := h.plc
  box := h.box
  own := h.own
  arg := h.arg
  argM := h.argM
  argz := h.argz
  inj := h.inj
  env := fun t => by
    rw [getE_put, getD_put a d v hd]
    split
    · exact hv
    · exact h.env t
  defers := h.defers

theorem Inv.noval {cx : Cx} {σ : St} {M : Pl} {a : Act} {w : World} (h : Inv cx σ M a w) {d : Nat} (v : Value) :
    Inv cx { σ with e := putE σ.e d .undef } M (a.put (some d) v) w where
  os := h.os
  tape := h.tape
  output := h.output
  gho := h.gho
  size := h.size
  frame := h.frame
  plc := h.plc
  box := h.box
  own := h.own
  arg := h.arg
  argM := h.argM
  argz := h.argz
  inj := h.inj
  env := fun t => by
    rw [getE_put]
    split
    · exact .undef _
    · rename_i hne
      simp only [Act.put, Array.getD_eq_getD_getElem?, Array.getElem?_setIfInBounds, if_neg hne]
      simpa [Array.getD_eq_getD_getElem?] using h.env t
  defers := h.defers

theorem NS.addZ {cx : Cx} {s : List (Key × Box)} {z : List Key} {M : Pl} {w : World} {b : Nat} (l : List Key) (h : NS cx s z M w b) : NS cx s (Lg.addZ l z) M w b :=
  ⟨h.1, h.2.1, fun k c hk hz => h.2.2 k c hk (fun hc => hz ((mem_addZ _ _ _).2 (.inr hc)))⟩

theorem Inv.addZ {cx : Cx} {σ : St} {M : Pl} {a : Act} {w : World} (h : Inv cx σ M a w) {l : List Key} (hl : ∀ k ∈ l, k.isOwn = true) :
    Inv cx { σ with z := Lg.addZ l σ.z } M a w := by
  have up : ∀ v x, RR cx σ.s σ.z M w v x → RR cx σ.s (Lg.addZ l σ.z) M w v x := fun v x hx => RR.up (fun b hb => hb.addZ l) (fun _ _ h => h) (fun _ _ => rfl) hx
  exact { os := h.os, tape := h.tape, output := h.output, size := h.size, frame := h.frame, plc := h.plc, own := h.own, arg := h.arg, argM := h.argM, inj := h.inj, defers := h.defers
          gho := gho_up h.gho (Nat.le_refl _) (fun b hb => hb.addZ l) (fun _ _ => rfl)
          box := fun k b pl hk hM => (h.box k b pl hk hM).up up rfl
          argz := fun i hi => by
            rcases (mem_addZ _ _ _).1 hi with h1 | h1
            · have := hl _ h1; simp [Key.isOwn] at this
            · exact h.argz i h1
          env := fun t => up _ _ (h.env t) }

/-- A new box. -/
theorem Inv.new {cx : Cx} {σ : St} {M : Pl} {a : Act} {w : World} (h : Inv cx σ M a w) {d : Nat} (hk : getB σ.s (.own d) = none) (hM : M (.own d) = none) {cs : List LV} {vs : Array Value} {e : TypeId}
    (hv : Rows2 (RR cx σ.s σ.z M w) cs vs.toList) (h1 : ∀ v ∈ vs.toList, v.oneCell' = true) :
    Inv cx { σ with s := setB σ.s (.own d) (.var cs) } (fun k => if k = .own d then some (w.heap.size, 0) else M k) a (w.alloc (.cells vs e)) := by
  have hMM : ∀ k p, M k = some p → (fun k => if k = Key.own d then some (w.heap.size, 0) else M k) k = some p := by
    intro k p hp
    by_cases hkd : k = .own d
    · subst hkd; rw [hM] at hp; cases hp
    · simp [hkd, hp]
  have hN : ∀ b, NS cx σ.s σ.z M w b → NS cx (setB σ.s (.own d) (.var cs)) σ.z (fun k => if k = Key.own d then some (w.heap.size, 0) else M k) (w.alloc (.cells vs e)) b := by
    rintro b ⟨h1, h2, h3⟩
    refine ⟨h1, by simp; omega, fun k c hk' hz => ?_⟩
    by_cases hkd : k = .own d
    · subst hkd; simp; omega
    · simp only [if_neg hkd]
      rw [getB_set, if_neg (Ne.symm hkd)] at hk'
      exact h3 k c hk' hz
  have hw : ∀ b, b < w.heap.size → (w.alloc (.cells vs e)).heap[b]? = w.heap[b]? := fun b hb => heap_alloc_old w _ b hb
  have up : ∀ v x, RR cx σ.s σ.z M w v x → RR cx (setB σ.s (.own d) (.var cs)) σ.z (fun k => if k = Key.own d then some (w.heap.size, 0) else M k) (w.alloc (.cells vs e)) v x :=
    fun v x hx => RR.up hN hMM (fun b hb => hw b hb.2.1) hx
  have live : ∀ k, (getB (setB σ.s (.own d) (.var cs)) k).isSome = true → k = .own d ∨ (getB σ.s k).isSome = true := by
    intro k hk'
    rw [getB_set] at hk'
    by_cases hkd : k = .own d
    · exact .inl hkd
    · rw [if_neg (Ne.symm hkd)] at hk'; exact .inr hk'
  exact { os := h.os, tape := h.tape, output := h.output, defers := h.defers, argz := h.argz
          gho := gho_up h.gho (by simp) hN (fun b hb => hw b hb.2.1)
          size := by simp; have := h.size; omega
          frame := fun b hb hi => (hw b (by have := h.size; omega)).trans (h.frame b hb hi)
          plc := fun k hk' => by
            by_cases hkd : k = .own d
            · exact ⟨(w.heap.size, 0), by simp [hkd]⟩
            · obtain ⟨pl, hp⟩ := h.plc k ((live k hk').resolve_left hkd)
              exact ⟨pl, hMM k pl hp⟩
          box := fun k b pl hb hp => by
            simp only [getB_set] at hb
            by_cases hkd : k = .own d
            · subst hkd
              simp only [if_true, Option.some.injEq] at hb hp
              subst hb; subst hp
              exact ⟨vs, e, heap_alloc_new w _, hv.mono fun l v _ => up l v, h1⟩
            · rw [if_neg (Ne.symm hkd)] at hb
              simp only [if_neg hkd] at hp
              have hb' := h.box k b pl hb hp
              exact hb'.up up (hw _ hb'.lt)
          own := fun t pl ht hp => by
            by_cases hkd : Key.own t = .own d
            · simp only [if_pos hkd, Option.some.injEq] at hp; subst hp; exact h.size
            · simp only [if_neg hkd] at hp; exact h.own t pl ((live _ ht).resolve_left hkd) hp
          arg := fun i hi => h.arg i ((live _ hi).resolve_left (by simp))
          argM := fun i hi => by obtain ⟨c, hc⟩ := h.argM i hi; exact ⟨c, hMM _ _ hc⟩
          inj := fun k k' b c c' hk1 hk2 hp hp' => by
            by_cases hkd : k = .own d
            · by_cases hkd' : k' = .own d
              · rw [hkd, hkd']
              · simp only [if_pos hkd, if_neg hkd'] at hp hp'
                have := h.lt ((live k' hk2).resolve_left hkd') hp'
                simp at hp this; omega
            · by_cases hkd' : k' = .own d
              · simp only [if_neg hkd, if_pos hkd'] at hp hp'
                have := h.lt ((live k hk1).resolve_left hkd) hp
                simp at hp' this; omega
              · simp only [if_neg hkd, if_neg hkd'] at hp hp'
                exact h.inj k k' b c c' ((live k hk1).resolve_left hkd) ((live k' hk2).resolve_left hkd') hp hp'
          env := fun t => up _ _ (h.env t) }

/-! ### Handing on -/
theorem resL_cons {f : LV → Option (Bool × IV)} {a : LV} {r : List LV} {g : Bool} {vs : List IV} (h : resL f (a :: r) = some (g, vs)) :
    ∃ b v c us, f a = some (b, v) ∧ resL f r = some (c, us) ∧ g = (b && c) ∧ vs = v :: us := by
  simp only [resL] at h
  split at h
  · split at h
    · simp only [Option.some.injEq, Prod.mk.injEq] at h
      rename_i b v h1 _ c us h2
      exact ⟨b, v, c, us, h1, h2, h.1.symm, h.2.symm⟩
    · cases h
  · cases h
theorem resL_length {f : LV → Option (Bool × IV)} : ∀ {l : List LV} {g : Bool} {vs : List IV}, resL f l = some (g, vs) → vs.length = l.length
  | [], _, _, h => by simp only [resL, Option.some.injEq, Prod.mk.injEq] at h; rw [← h.2]; rfl
  | a :: r, g, vs, h => by
    obtain ⟨b, v, c, us, _, h2, _, rfl⟩ := resL_cons h
    simp [resL_length h2]
theorem resLL_cons {f : LV → Option (Bool × IV)} {a : List LV} {r : List (List LV)} {g : Bool} {vs : List (List IV)} (h : resLL f (a :: r) = some (g, vs)) :
    ∃ b v c us, resL f a = some (b, v) ∧ resLL f r = some (c, us) ∧ g = (b && c) ∧ vs = v :: us := by
  simp only [resLL] at h
  split at h
  · split at h
    · simp only [Option.some.injEq, Prod.mk.injEq] at h
      rename_i b v h1 _ c us h2
      exact ⟨b, v, c, us, h1, h2, h.1.symm, h.2.symm⟩
    · cases h
  · cases h

/-- What the whole says of each: lists. -/
theorem resL_reps {f : LV → Option (Bool × IV)} {R : LV → Value → Prop} {RI : Bool → IV → Value → Prop} (hm : ∀ b v x, RI true v x → RI b v x) : ∀ {l : List LV} {g : Bool} {vs : List IV} {xs : List Value},
    (∀ a ∈ l, ∀ b v x, f a = some (b, v) → R a x → RI b v x) → resL f l = some (g, vs) → Rows2 R l xs → ∀ j (h : j < vs.length) (h' : j < xs.length), RI g vs[j] xs[j]
  | [], g, vs, xs, hf, h, hr => by
    have := resL_length h
    intro j hj; simp at this; simp [this] at hj
  | a :: r, g, vs, xs, hf, h, hr => by
    obtain ⟨b, v, c, us, h1, h2, rfl, rfl⟩ := resL_cons h
    cases xs with
    | nil => have := hr.1; simp at this
    | cons x xs =>
      obtain ⟨hr1, hr2⟩ := hr.of_cons
      have ih := resL_reps hm (l := r) (fun a ha => hf a (List.mem_cons_of_mem _ ha)) h2 hr2
      have h0 := hf a (List.mem_cons_self) b v x h1 hr1
      intro j hj hj'
      have weak : ∀ (b c : Bool) v x, RI b v x → RI (b && c) v x := fun b c v x hx => by
        cases b
        · exact hx
        · cases c
          · exact hm _ v x hx
          · exact hx
      cases j with
      | zero => exact weak b c _ _ h0
      | succ j =>
        have := ih j (by simpa using hj) (by simpa using hj')
        rw [Bool.and_comm]
        exact weak c b _ _ this

theorem resLL_flat {f : LV → Option (Bool × IV)} : ∀ {l : List (List LV)} {g : Bool} {vs : List (List IV)}, resLL f l = some (g, vs) →
    resL f l.flatten = some (g, vs.flatten) ∧ vs.length = l.length ∧ ∀ i (h : i < vs.length) (h' : i < l.length), vs[i].length = l[i].length
  | [], g, vs, h => by simp only [resLL, Option.some.injEq, Prod.mk.injEq] at h; obtain ⟨rfl, rfl⟩ := h; exact ⟨rfl, rfl, fun i h => by simp at h⟩
  | a :: r, g, vs, h => by
    obtain ⟨b, v, c, us, h1, h2, rfl, rfl⟩ := resLL_cons h
    obtain ⟨h3, h4, h5⟩ := resLL_flat h2
    have app : ∀ (l l' : List LV) b c v us, resL f l = some (b, v) → resL f l' = some (c, us) → resL f (l ++ l') = some (b && c, v ++ us) := by
      intro l
      induction l with
      | nil => intro l' b c v us h h'; simp only [resL, Option.some.injEq, Prod.mk.injEq] at h; obtain ⟨rfl, rfl⟩ := h; simpa using h'
      | cons x l ih =>
        intro l' b c v us h h'
        obtain ⟨b1, v1, c1, us1, e1, e2, rfl, rfl⟩ := resL_cons h
        have := ih l' c1 c us1 us e2 h'
        simp only [List.cons_append, resL, e1, this, Bool.and_assoc]
    refine ⟨by simpa using app a r.flatten b c v us.flatten h1 h3, by simp [h4], fun i hi hi' => ?_⟩
    cases i with
    | zero => simpa using resL_length h1
    | succ i => simpa using h5 i (by simpa using hi) (by simpa using hi')

theorem flatten_at {α : Type} (sz : Nat) : ∀ (l : List (List α)), (∀ x ∈ l, x.length = sz) → ∀ i (h : i < l.length) j (h' : j < l[i].length), l.flatten[i * sz + j]? = some l[i][j]
  | [], _, i, h, _, _ => by simp at h
  | a :: r, hl, 0, h, j, h' => by
    simp only [List.flatten_cons, Nat.zero_mul, Nat.zero_add]
    simp only [List.getElem_cons_zero] at h'
    rw [List.getElem?_append_left h']; simp
  | a :: r, hl, i + 1, h, j, h' => by
    have ha := hl a (List.mem_cons_self)
    simp only [List.flatten_cons, List.getElem_cons_succ] at h' ⊢
    rw [List.getElem?_append_right (by rw [ha, Nat.add_mul]; omega)]
    have : (i + 1) * sz + j - a.length = i * sz + j := by rw [ha, Nat.add_mul]; omega
    rw [this]
    exact flatten_at sz r (fun x hx => hl x (List.mem_cons_of_mem _ hx)) i (by simpa using h) j h'
theorem flatten_len {α : Type} (sz : Nat) : ∀ (l : List (List α)), (∀ x ∈ l, x.length = sz) → l.flatten.length = l.length * sz
  | [], _ => by simp
  | a :: r, hl => by
    have ha := hl a (List.mem_cons_self)
    have := flatten_len sz r (fun x hx => hl x (List.mem_cons_of_mem _ hx))
    simp [this, ha, Nat.add_mul, Nat.add_comm]

theorem keysL_mem {f : LV → List Key} {k : Key} : ∀ {l : List LV} {a : LV}, a ∈ l → k ∈ f a → k ∈ keysL f l
  | b :: r, a, h, hk => by
    simp only [keysL, List.mem_append]
    rcases List.mem_cons.1 h with rfl | h
    · exact .inl hk
    · exact .inr (keysL_mem h hk)
theorem keysLL_mem {f : LV → List Key} {k : Key} : ∀ {l : List (List LV)} {a : LV}, a ∈ l.flatten → k ∈ f a → k ∈ keysLL f l
  | b :: r, a, h, hk => by
    simp only [keysLL, List.mem_append]
    simp only [List.flatten_cons, List.mem_append] at h
    rcases h with h | h
    · exact .inl (keysL_mem h hk)
    · exact .inr (keysLL_mem h hk)

/-- A value written out is told of the same. l: all the boxes that it goes through. -/
theorem res_sound {cx : Cx} {σ : St} {M : Pl} {a : Act} {w : World} (h : Inv cx σ M a w) (l : List Key) : ∀ (n : Nat) (lv : LV) (f : Bool) (v : IV) (x : Value),
    res σ.s n lv = some (f, v) → (∀ k ∈ keys σ.s n lv, k ∈ l) → RR cx σ.s σ.z M w lv x → RepI w (if f then NF cx σ.s (Lg.addZ l σ.z) M w else NS cx σ.s (Lg.addZ l σ.z) M w) v x := by
  have hmono : ∀ b v x, RepI w (if true = true then NF cx σ.s (Lg.addZ l σ.z) M w else NS cx σ.s (Lg.addZ l σ.z) M w) v x → RepI w (if b = true then NF cx σ.s (Lg.addZ l σ.z) M w else NS cx σ.s (Lg.addZ l σ.z) M w) v x := by
    intro b v x hx
    cases b
    · exact hx.mono (fun b hb => hb.1) (fun _ _ _ _ h => h)
    · exact hx
  intro n
  induction n with
  | zero => intro lv f v x h1; simp [res] at h1
  | succ n ih =>
    intro lv f v x h1 hk hx
    -- a box that is in l is nobody's any more
    have inN : ∀ k pl, k ∈ l → k.isOwn = true → (getB σ.s k).isSome = true → M k = some pl → NF cx σ.s (Lg.addZ l σ.z) M w pl.1 := by
      intro k pl hkl hko hks hkM
      have hge : cx.w.heap.size ≤ pl.1 := by
        cases k with
        | own t => exact h.own t pl hks hkM
        | arg i => simp [Key.isOwn] at hko
      obtain ⟨bx, hbx⟩ := Option.isSome_iff_exists.1 hks
      refine ⟨⟨.inr hge, h.lt hks hkM, fun k' c hk' hz hM' => ?_⟩, hge, (h.box k bx pl hbx hkM).free⟩
      have : k = k' := h.inj k k' pl.1 pl.2 c hks hk' hkM hM'
      subst this
      exact hz ((mem_addZ _ _ _).2 (.inl hkl))
    cases lv with
    | undef => simp [res] at h1
    | fn g caps => simp [res] at h1
    | unitI t => simp [res] at h1
    | imm g u =>
      simp only [res, Option.some.injEq, Prod.mk.injEq] at h1
      obtain ⟨rfl, rfl⟩ := h1
      have := RepL.imm_iff.1 hx
      cases hp : u.plain
      · cases g
        · exact this.mono (fun b hb => hb.addZ l) (fun _ _ _ _ h => h)
        · exact this.mono (fun b hb => ⟨hb.1.addZ l, hb.2⟩) (fun _ _ _ _ h => h)
      · exact this.plain hp
    | nils =>
      simp only [res, Option.some.injEq, Prod.mk.injEq] at h1
      obtain ⟨rfl, rfl⟩ := h1
      cases hx
      exact .slice0 _ _
    | agg cells =>
      simp only [res] at h1
      split at h1
      · rename_i g vs hg
        simp only [Option.some.injEq, Prod.mk.injEq] at h1
        obtain ⟨rfl, rfl⟩ := h1
        cases hx with
        | agg cells xs hl h1c hr =>
          refine .agg _ _ (by rw [hl, resL_length hg]) h1c fun j hj hj' => ?_
          exact resL_reps (RI := fun b v x => RepI w (if b = true then NF cx σ.s (Lg.addZ l σ.z) M w else NS cx σ.s (Lg.addZ l σ.z) M w) v x) hmono
            (fun a ha b v x hf hR => ih a b v x hf (fun k hk' => hk k (by simp only [keys]; exact keysL_mem ha hk')) hR) hg ⟨hl, fun j h1 h2 => hr j h1 h2⟩ j hj hj'
      · cases h1
    | tup cells =>
      simp only [res] at h1
      split at h1
      · rename_i g vs hg
        simp only [Option.some.injEq, Prod.mk.injEq] at h1
        obtain ⟨rfl, rfl⟩ := h1
        cases hx with
        | tup cells xs hl hr =>
          refine .tup _ _ (by rw [hl, resL_length hg]) fun j hj hj' => ?_
          exact resL_reps (RI := fun b v x => RepI w (if b = true then NF cx σ.s (Lg.addZ l σ.z) M w else NS cx σ.s (Lg.addZ l σ.z) M w) v x) hmono
            (fun a ha b v x hf hR => ih a b v x hf (fun k hk' => hk k (by simp only [keys]; exact keysL_mem ha hk')) hR) hg ⟨hl, fun j h1 h2 => hr j h1 h2⟩ j hj hj'
      · cases h1
    | loc k off =>
      simp only [res] at h1
      split at h1
      · rename_i cells hb
        split at h1
        · rename_i g vs hg
          split at h1
          · rename_i hko
            simp only [Option.some.injEq, Prod.mk.injEq] at h1
            obtain ⟨rfl, rfl⟩ := h1
            cases hx with
            | loc k off b c hM =>
              have hkl : k ∈ l := hk k (by simp [keys, hb])
              obtain ⟨xs, e, hh, hr, h1c⟩ := h.box k _ _ hb hM
              have hN := inN k _ hkl hko (by simp [hb]) hM
              have hlen := resL_length hg
              have hsz : xs.size = vs.length := by have := hr.1; simp at this; omega
              refine RepI.ptr vs off b 0 (fun j => xs.getD j undef) ?_ (fun j hj => ?_) (fun j hj => ?_) (fun j hj => ?_) |> fun t => by simpa using t
              · cases g
                · exact hN.1
                · exact hN
              · have hj' : j < xs.size := by omega
                simp [World.cell?, hh, hj']
              · have hj' : j < xs.size := by omega
                simp only [Array.getD, hj', dite_true]
                exact h1c _ (by simp)
              · have hj' : j < xs.size := by omega
                have := resL_reps (RI := fun b v x => RepI w (if b = true then NF cx σ.s (Lg.addZ l σ.z) M w else NS cx σ.s (Lg.addZ l σ.z) M w) v x) hmono
                  (fun a ha b v x hf hR => ih a b v x hf (fun k' hk' => hk k' (by simp only [keys, hb]; exact List.mem_cons_of_mem _ (keysL_mem ha hk'))) hR) hg hr j hj (by simpa using hj')
                simpa [Array.getD, hj'] using this
          · cases h1
        · cases h1
      · cases h1
    | row k m =>
      simp only [res] at h1
      split at h1
      · rename_i e sz elems hb
        split at h1
        · rename_i hlen0
          split at h1
          · rename_i g vs hg
            split at h1
            · rename_i hko
              simp only [Option.some.injEq, Prod.mk.injEq] at h1
              obtain ⟨rfl, rfl⟩ := h1
              cases hx with
              | row k m b c hM =>
                have hkl : k ∈ l := hk k (by simp [keys, hb])
                obtain ⟨xs, hown, hr, hsz, h1c⟩ := h.box k _ _ hb hM
                have hN := inN k _ hkl hko (by simp [hb]) hM
                obtain ⟨hflat, hlen, heach⟩ := resLL_flat hg
                have hsz' : ∀ x ∈ vs, x.length = sz := by
                  intro x hx
                  obtain ⟨i, hi, rfl⟩ := List.getElem_of_mem hx
                  rw [heach i hi (by omega)]
                  exact hsz _ (List.getElem_mem _)
                have hfl := flatten_len sz vs hsz'
                have hxl : xs.length = vs.length * sz := by rw [hown.1, hlen]
                have hcell := hown.cells (g := b) rfl
                obtain ⟨hcap, hmax⟩ : elems.length ≤ c ∧ c ≤ maxLen := by
                  rcases hown.2 with ⟨h2, _⟩ | ⟨g', cap, cur, hv, _, _, h3, h4, _⟩
                  · cases h2
                  · injection hv with _ _ h5; subst h5; exact ⟨h3, h4⟩
                rw [← hlen0, ← hlen]
                refine RepI.slice vs b 0 sz c (fun j => xs.getD j undef) ?_ (fun i hi => hsz' _ (List.getElem_mem _)) (by simp only [maxLen] at hmax; omega) (by omega) (fun j hj => ?_) (fun j hj => ?_) (fun i hi j hj => ?_)
                · cases g
                  · exact hN.1
                  · exact hN
                · have hj' : j < xs.length := by omega
                  have := hcell j xs[j] (by simp)
                  have hadd : (⟨b, 0, none⟩ : Addr).add j = ⟨b, 0 + j, none⟩ := by unfold Addr.add; split <;> simp_all
                  rw [hadd] at this
                  rw [this]; simp [List.getD_eq_getElem?_getD, hj']
                · have hj' : j < xs.length := by omega
                  simp only [List.getD_eq_getElem?_getD, List.getElem?_eq_getElem hj', Option.getD_some]
                  exact h1c _ (List.getElem_mem _)
                · have h3 := flatten_at sz vs hsz' i hi j hj
                  obtain ⟨hlt, he⟩ := List.getElem?_eq_some_iff.1 h3
                  have hj' : i * sz + j < xs.length := by omega
                  have := resL_reps (RI := fun b v x => RepI w (if b = true then NF cx σ.s (Lg.addZ l σ.z) M w else NS cx σ.s (Lg.addZ l σ.z) M w) v x) hmono
                    (fun a ha b v x hf hR => ih a b v x hf (fun k' hk' => hk k' (by simp only [keys, hb]; exact List.mem_cons_of_mem _ (keysLL_mem ha hk'))) hR) hflat hr (i * sz + j) hlt hj'
                  simpa [he, List.getD_eq_getElem?_getD, hj'] using this
            · cases h1
          · cases h1
        · cases h1
      · cases h1

end Go.Proofs.YtopgmopdjiahmaaDoor.Lg
