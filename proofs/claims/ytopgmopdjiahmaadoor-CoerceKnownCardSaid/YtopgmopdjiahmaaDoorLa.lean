/- A logic of values: what a temporary of the machine stands for: trees that nobody changes, and local variables. Conditions: none; plain definitions and lemmas. -/
import Derived.Orders
import Derived.Below
import Derived.Laws.AppendOwn
import Derived.Laws.NewBlocks
import Derived.KernelRfl
set_option linter.unusedVariables false
set_option linter.unusedSimpArgs false
namespace Go.Proofs.YtopgmopdjiahmaaDoor.Lg
open Go Go.RowKit

/-- Values that nobody changes any more. -/
inductive IV where
  | int (k : IntKind) (n : Int)
  | bool (b : Bool)
  | str (s : ByteArray)
  | nilp
  | ptr (cells : List IV) (off : Nat)
  | slice (elems : List (List IV))
  | agg (cells : List IV)
  | tup (vs : List IV)

inductive Key where
  | arg (i : Nat)
  | own (t : Nat)
  deriving DecidableEq

/-- What a temporary holds, as a function sees it. -/
inductive LV where
  | undef
  | imm (f : Bool) (v : IV)
  | loc (k : Key) (off : Nat)
  | row (k : Key) (n : Nat)
  | nils
  | agg (cells : List LV)
  | tup (vs : List LV)
  | fn (f : FuncId) (caps : List LV)
  | unitI (t : TypeId)
  deriving Inhabited

inductive Box where
  | var (cells : List LV)
  | row (e : TypeId) (sz : Nat) (elems : List (List LV))

inductive RepI (w : World) (N : Nat → Prop) : IV → Value → Prop
  | int (k n) : RepI w N (.int k n) (.int k n)
  | bool (b) : RepI w N (.bool b) (.bool b)
  | str (s) : RepI w N (.str s) (.string s)
  | nilp : RepI w N .nilp (.pointer none)
  | ptr (cells : List IV) (off b o : Nat) (vs : Nat → Value) (hN : N b)
      (hc : ∀ j, j < cells.length → w.cell? ⟨b, o + j, none⟩ = some (vs j))
      (h1 : ∀ j, j < cells.length → (vs j).oneCell' = true)
      (hr : ∀ j (h : j < cells.length), RepI w N cells[j] (vs j)) : RepI w N (.ptr cells off) (.pointer (some ⟨b, o + off, none⟩))
  | slice0 (A : Option Addr) (c : Nat) : RepI w N (.slice []) (.slice A 0 c)
  | slice (elems : List (List IV)) (b o sz c : Nat) (vs : Nat → Value) (hN : N b) (hsz : ∀ i (h : i < elems.length), elems[i].length = sz)
      (hm : elems.length ≤ 9223372036854775807) (hcap : elems.length ≤ c)
      (hc : ∀ j, j < elems.length * sz → w.cell? ⟨b, o + j, none⟩ = some (vs j))
      (h1 : ∀ j, j < elems.length * sz → (vs j).oneCell' = true)
      (hr : ∀ i (h : i < elems.length) j (h' : j < elems[i].length), RepI w N elems[i][j] (vs (i * sz + j))) : RepI w N (.slice elems) (.slice (some ⟨b, o, none⟩) elems.length c)
  | agg (cells : List IV) (vs : List Value) (hl : vs.length = cells.length) (h1 : ∀ v ∈ vs, v.oneCell' = true)
      (hr : ∀ j (h : j < cells.length) (h' : j < vs.length), RepI w N cells[j] vs[j]) : RepI w N (.agg cells) (.agg vs.toArray)
  | tup (cells : List IV) (vs : List Value) (hl : vs.length = cells.length)
      (hr : ∀ j (h : j < cells.length) (h' : j < vs.length), RepI w N cells[j] vs[j]) : RepI w N (.tup cells) (.tuple vs.toArray)

theorem RepI.mono {w w' : World} {N N' : Nat → Prop} {v : IV} {x : Value} (h : RepI w N v x) (hN : ∀ b, N b → N' b)
    (hw : ∀ b, N b → ∀ o u, w.cell? ⟨b, o, none⟩ = some u → w'.cell? ⟨b, o, none⟩ = some u) : RepI w' N' v x := by
  induction h with
  | int k n => exact .int k n
  | bool b => exact .bool b
  | str s => exact .str s
  | nilp => exact .nilp
  | ptr cells off b o vs hNb hc h1 hr ih => exact .ptr cells off b o vs (hN _ hNb) (fun j hj => hw b hNb _ _ (hc j hj)) h1 ih
  | slice0 A c => exact .slice0 A c
  | slice elems b o sz c vs hNb hsz hm hcap hc h1 hr ih => exact .slice elems b o sz c vs (hN _ hNb) hsz hm hcap (fun j hj => hw b hNb _ _ (hc j hj)) h1 ih
  | agg cells vs hl h1 hr ih => exact .agg cells vs hl h1 ih
  | tup cells vs hl hr ih => exact .tup cells vs hl ih

/-- Where the boxes lie: block, capacity. -/
abbrev Pl := Key → Option (Nat × Nat)

inductive RepL (w : World) (N Nf : Nat → Prop) (M : Pl) : LV → Value → Prop
  | undef (x) : RepL w N Nf M .undef x
  | imm (v : IV) (x) (h : RepI w N v x) : RepL w N Nf M (.imm false v) x
  | fresh (v : IV) (x) (h : RepI w Nf v x) : RepL w N Nf M (.imm true v) x
  | loc (k : Key) (off b c : Nat) (h : M k = some (b, c)) : RepL w N Nf M (.loc k off) (.pointer (some ⟨b, off, none⟩))
  | row (k : Key) (n b c : Nat) (h : M k = some (b, c)) : RepL w N Nf M (.row k n) (.slice (some ⟨b, 0, none⟩) n c)
  | nils : RepL w N Nf M .nils (.slice none 0 0)
  | unitI (t : TypeId) : RepL w N Nf M (.unitI t) (.iface t (.agg #[]))
  | agg (cells : List LV) (vs : List Value) (hl : vs.length = cells.length) (h1 : ∀ v ∈ vs, v.oneCell' = true)
      (hr : ∀ j (h : j < cells.length) (h' : j < vs.length), RepL w N Nf M cells[j] vs[j]) : RepL w N Nf M (.agg cells) (.agg vs.toArray)
  | tup (cells : List LV) (vs : List Value) (hl : vs.length = cells.length)
      (hr : ∀ j (h : j < cells.length) (h' : j < vs.length), RepL w N Nf M cells[j] vs[j]) : RepL w N Nf M (.tup cells) (.tuple vs.toArray)
  | fn (f : FuncId) (caps : List LV) (vs : List Value) (hl : vs.length = caps.length)
      (hr : ∀ j (h : j < caps.length) (h' : j < vs.length), RepL w N Nf M caps[j] vs[j]) : RepL w N Nf M (.fn f caps) (.func (.func f) #[] vs.toArray)

theorem RepL.mono {w w' : World} {N N' Nf Nf' : Nat → Prop} {M M' : Pl} {v : LV} {x : Value} (h : RepL w N Nf M v x) (hN : ∀ b, N b → N' b) (hNf : ∀ b, Nf b → Nf' b)
    (hM : ∀ k p, M k = some p → M' k = some p)
    (hw : ∀ b, (N b ∨ Nf b) → ∀ o u, w.cell? ⟨b, o, none⟩ = some u → w'.cell? ⟨b, o, none⟩ = some u) : RepL w' N' Nf' M' v x := by
  induction h with
  | undef x => exact .undef x
  | imm v x h => exact .imm v x (h.mono hN fun b hb => hw b (.inl hb))
  | fresh v x h => exact .fresh v x (h.mono hNf fun b hb => hw b (.inr hb))
  | loc k off b c h => exact .loc k off b c (hM k _ h)
  | row k n b c h => exact .row k n b c (hM k _ h)
  | nils => exact .nils
  | unitI t => exact .unitI t
  | agg cells vs hl h1 hr ih => exact .agg cells vs hl h1 ih
  | tup cells vs hl hr ih => exact .tup cells vs hl ih
  | fn f caps vs hl hr ih => exact .fn f caps vs hl ih

/-- What needs no memory. -/
def IV.plain : IV → Bool
  | .int _ _ | .bool _ | .str _ | .nilp => true
  | _ => false
theorem RepI.plain {w w' : World} {N N' : Nat → Prop} {v : IV} {x : Value} (h : RepI w N v x) (hp : v.plain = true) : RepI w' N' v x := by
  cases h with
  | int k n => exact .int k n
  | bool b => exact .bool b
  | str s => exact .str s
  | nilp => exact .nilp
  | slice0 A c => simp [IV.plain] at hp
  | ptr => simp [IV.plain] at hp
  | agg => simp [IV.plain] at hp
  | tup => simp [IV.plain] at hp
  | slice elems b o sz c vs hN hsz hm hcap hc h1 hr => simp [IV.plain] at hp

/-- Scalars: one cell. -/
theorem RepI.one {w : World} {N : Nat → Prop} {v : IV} {x : Value} (h : RepI w N v x) : (∃ cs, v = .agg cs) ∨ (∃ cs, v = .tup cs) ∨ (x.oneCell' = true ∧ x.cells = #[x]) := by
  cases h <;> simp [Value.oneCell', Value.cells]

/-! Lists of values, side by side -/
def Rows2 (R : LV → Value → Prop) (ls : List LV) (vs : List Value) : Prop :=
  vs.length = ls.length ∧ ∀ j (h : j < ls.length) (h' : j < vs.length), R ls[j] vs[j]

theorem Rows2.nil {R : LV → Value → Prop} : Rows2 R [] [] := ⟨rfl, fun j h => by simp at h⟩
theorem Rows2.cons {R : LV → Value → Prop} {l : LV} {v : Value} {ls : List LV} {vs : List Value} (h : R l v) (hs : Rows2 R ls vs) : Rows2 R (l :: ls) (v :: vs) := by
  refine ⟨by simp [hs.1], fun j h1 h2 => ?_⟩
  cases j with
  | zero => exact h
  | succ j => exact hs.2 j (by simpa using h1) (by simpa using h2)
theorem Rows2.of_cons {R : LV → Value → Prop} {l : LV} {v : Value} {ls : List LV} {vs : List Value} (h : Rows2 R (l :: ls) (v :: vs)) : R l v ∧ Rows2 R ls vs :=
  ⟨h.2 0 (by simp) (by simp), by have := h.1; simpa using this, fun j h1 h2 => h.2 (j + 1) (by simpa using h1) (by simpa using h2)⟩
theorem Rows2.append {R : LV → Value → Prop} {ls ls' : List LV} {vs vs' : List Value} (h : Rows2 R ls vs) (h' : Rows2 R ls' vs') : Rows2 R (ls ++ ls') (vs ++ vs') := by
  refine ⟨by simp [h.1, h'.1], fun j h1 h2 => ?_⟩
  by_cases hj : j < ls.length
  · rw [List.getElem_append_left hj, List.getElem_append_left (by rw [h.1]; exact hj)]; exact h.2 j hj _
  · rw [List.getElem_append_right (by omega), List.getElem_append_right (by rw [h.1]; omega)]
    simp only [h.1]
    exact h'.2 _ (by simp at h1; omega) (by rw [h'.1]; simp at h1; omega)
theorem Rows2.drop {R : LV → Value → Prop} {ls : List LV} {vs : List Value} (h : Rows2 R ls vs) (n : Nat) : Rows2 R (ls.drop n) (vs.drop n) := by
  refine ⟨by simp [h.1], fun j h1 h2 => ?_⟩
  rw [List.getElem_drop, List.getElem_drop]; exact h.2 _ _ _
theorem Rows2.take {R : LV → Value → Prop} {ls : List LV} {vs : List Value} (h : Rows2 R ls vs) (n : Nat) : Rows2 R (ls.take n) (vs.take n) := by
  refine ⟨by simp [h.1], fun j h1 h2 => ?_⟩
  rw [List.getElem_take, List.getElem_take]; exact h.2 _ _ _
theorem Rows2.set {R : LV → Value → Prop} {ls : List LV} {vs : List Value} (h : Rows2 R ls vs) (n : Nat) {l : LV} {v : Value} (hr : R l v) : Rows2 R (ls.set n l) (vs.set n v) := by
  refine ⟨by simp [h.1], fun j h1 h2 => ?_⟩
  rw [List.getElem_set, List.getElem_set]
  split
  · exact hr
  · exact h.2 _ _ _
theorem Rows2.mono {R R' : LV → Value → Prop} {ls : List LV} {vs : List Value} (h : Rows2 R ls vs) (hR : ∀ l v, l ∈ ls → R l v → R' l v) : Rows2 R' ls vs :=
  ⟨h.1, fun j h1 h2 => hR _ _ (List.getElem_mem h1) (h.2 j h1 h2)⟩
theorem Rows2.getD {R : LV → Value → Prop} {ls : List LV} {vs : List Value} (h : Rows2 R ls vs) {n : Nat} {l : LV} (hl : ls[n]? = some l) : ∃ v, vs[n]? = some v ∧ R l v := by
  obtain ⟨hn, rfl⟩ := List.getElem?_eq_some_iff.1 hl
  exact ⟨vs[n]'(by rw [h.1]; exact hn), by simp, h.2 n hn _⟩

/-- The cells of a value. -/
def LV.cells : LV → Option (List LV)
  | .agg cs => some cs
  | .imm f (.agg cs) => some (cs.map (.imm f))
  | .imm _ (.tup _) => none
  | .tup _ => none
  | .undef => none
  | v => some [v]

theorem RepL.imm_iff {w : World} {N Nf : Nat → Prop} {M : Pl} {f : Bool} {v : IV} {x : Value} : RepL w N Nf M (.imm f v) x ↔ RepI w (if f then Nf else N) v x := by
  cases f
  · exact ⟨fun h => by cases h; assumption, fun h => .imm v x h⟩
  · exact ⟨fun h => by cases h; assumption, fun h => .fresh v x h⟩

theorem RepL.cells {w : World} {N Nf : Nat → Prop} {M : Pl} {v : LV} {x : Value} (h : RepL w N Nf M v x) {cs : List LV} (hc : v.cells = some cs) :
    Rows2 (RepL w N Nf M) cs x.cells.toList ∧ ∀ u ∈ x.cells.toList, u.oneCell' = true := by
  have one : ∀ (v : LV) (x : Value), RepL w N Nf M v x → x.oneCell' = true → x.cells = #[x] → Rows2 (RepL w N Nf M) [v] x.cells.toList ∧ ∀ u ∈ x.cells.toList, u.oneCell' = true :=
    fun v x h h1 h2 => by rw [h2]; exact ⟨Rows2.cons h Rows2.nil, by simpa using h1⟩
  have onei : ∀ (f : Bool) (v : IV), (∀ cs, v ≠ .agg cs) → (∀ cs, v ≠ .tup cs) → RepL w N Nf M (.imm f v) x → Rows2 (RepL w N Nf M) [.imm f v] x.cells.toList ∧ ∀ u ∈ x.cells.toList, u.oneCell' = true :=
    fun f v h1 h2 h => by
      rcases (RepL.imm_iff.1 h).one with ⟨cs, h'⟩ | ⟨cs, h'⟩ | ⟨h3, h4⟩
      · exact absurd h' (h1 cs)
      · exact absurd h' (h2 cs)
      · exact one _ _ h h3 h4
  cases v with
  | undef => simp [LV.cells] at hc
  | tup vs => simp [LV.cells] at hc
  | imm f v =>
    cases v with
    | agg cells =>
      simp only [LV.cells, Option.some.injEq] at hc; subst hc
      have h := RepL.imm_iff.1 h
      cases h with
      | agg cells vs hl h1 hr =>
        refine ⟨⟨by simp [Value.cells, hl], fun j h h' => ?_⟩, by simpa [Value.cells] using h1⟩
        simp only [List.getElem_map]
        refine RepL.imm_iff.2 ?_
        exact hr j (by simpa using h) h'
    | tup vs => simp [LV.cells] at hc
    | int k n => simp only [LV.cells, Option.some.injEq] at hc; subst hc; exact onei _ _ (by simp) (by simp) h
    | bool b => simp only [LV.cells, Option.some.injEq] at hc; subst hc; exact onei _ _ (by simp) (by simp) h
    | str s => simp only [LV.cells, Option.some.injEq] at hc; subst hc; exact onei _ _ (by simp) (by simp) h
    | nilp => simp only [LV.cells, Option.some.injEq] at hc; subst hc; exact onei _ _ (by simp) (by simp) h
    | ptr c o => simp only [LV.cells, Option.some.injEq] at hc; subst hc; exact onei _ _ (by simp) (by simp) h
    | slice c => simp only [LV.cells, Option.some.injEq] at hc; subst hc; exact onei _ _ (by simp) (by simp) h
  | loc k off => simp only [LV.cells, Option.some.injEq] at hc; subst hc; cases h with | loc k off b c h => exact one _ _ (.loc k off b c h) rfl rfl
  | row k n => simp only [LV.cells, Option.some.injEq] at hc; subst hc; cases h with | row k n b c h => exact one _ _ (.row k n b c h) rfl rfl
  | nils => simp only [LV.cells, Option.some.injEq] at hc; subst hc; cases h; exact one _ _ .nils rfl rfl
  | unitI t => simp only [LV.cells, Option.some.injEq] at hc; subst hc; cases h; exact one _ _ (.unitI t) rfl rfl
  | agg cells =>
    simp only [LV.cells, Option.some.injEq] at hc; subst hc
    cases h with
    | agg cells vs hl h1 hr => exact ⟨⟨by simp [Value.cells, hl], fun j h h' => hr j h h'⟩, by simpa [Value.cells] using h1⟩
  | fn f caps => simp only [LV.cells, Option.some.injEq] at hc; subst hc; cases h with | fn f caps vs hl hr => exact one _ _ (.fn f caps vs hl hr) rfl rfl

def LV.acells : LV → Option (List LV)
  | .agg cs => some cs
  | .imm f (.agg cs) => some (cs.map (.imm f))
  | _ => none
theorem RepL.acells {w : World} {N Nf : Nat → Prop} {M : Pl} {v : LV} {x : Value} (h : RepL w N Nf M v x) {cs : List LV} (hc : v.acells = some cs) :
    ∃ vs : Array Value, x = .agg vs ∧ Rows2 (RepL w N Nf M) cs vs.toList ∧ ∀ u ∈ vs.toList, u.oneCell' = true := by
  unfold LV.acells at hc
  split at hc
  · simp only [Option.some.injEq] at hc; subst hc
    have := h.cells rfl
    cases h with
    | agg cells vs hl h1 hr => exact ⟨_, rfl, this⟩
  · simp only [Option.some.injEq] at hc; subst hc
    have := h.cells rfl
    have h := RepL.imm_iff.1 h
    cases h with
    | agg cells vs hl h1 hr => exact ⟨_, rfl, this⟩
  · cases hc

end Go.Proofs.YtopgmopdjiahmaaDoor.Lg
