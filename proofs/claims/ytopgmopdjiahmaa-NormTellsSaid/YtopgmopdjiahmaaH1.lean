/- Texts of one proof, joined by program (gen/tells.py): La Lb Lc Ld Le Lf. Conditions: none; plain definitions and lemmas. -/
import Derived.Orders
import Derived.Below
import Derived.Laws.AppendOwn
import Derived.Laws.NewBlocks
import Derived.KernelRfl
import Derived.Laws.Tables
import Derived.Laws.MakeOwn
import Derived.Great.BuildSlice
/- A logic of values: what a temporary of the machine stands for: trees that nobody changes, and local variables. Conditions: none; plain definitions and lemmas. -/
set_option linter.unusedVariables false
set_option linter.unusedSimpArgs false
namespace Go.Proofs.Ytopgmopdjiahmaa.Lg
open Go Go.RowKit

/-- Values that nobody changes any more. -/
inductive IV where
  | int (k : IntKind) (n : Int)
  | bool (b : Bool)
  | str (s : ByteArray)
  | nilp
  | ptr (cells : List IV) (off : Nat)
  | slice (elems : List (List IV))
  | agg (cells : List IV)
  | tup (vs : List IV)

inductive Key where
  | arg (i : Nat)
  | own (t : Nat)
  deriving DecidableEq

/-- What a temporary holds, as a function sees it. -/
inductive LV where
  | undef
  | imm (f : Bool) (v : IV)
  | loc (k : Key) (off : Nat)
  | row (k : Key) (n : Nat)
  | nils
  | agg (cells : List LV)
  | tup (vs : List LV)
  | fn (f : FuncId) (caps : List LV)
  | unitI (t : TypeId)
  deriving Inhabited

inductive Box where
  | var (cells : List LV)
  | row (e : TypeId) (sz : Nat) (elems : List (List LV))

inductive RepI (w : World) (N : Nat → Prop) : IV → Value → Prop
  | int (k n) : RepI w N (.int k n) (.int k n)
  | bool (b) : RepI w N (.bool b) (.bool b)
  | str (s) : RepI w N (.str s) (.string s)
  | nilp : RepI w N .nilp (.pointer none)
  | ptr (cells : List IV) (off b o : Nat) (vs : Nat → Value) (hN : N b)
      (hc : ∀ j, j < cells.length → w.cell? ⟨b, o + j, none⟩ = some (vs j))
      (h1 : ∀ j, j < cells.length → (vs j).oneCell' = true)
      (hr : ∀ j (h : j < cells.length), RepI w N cells[j] (vs j)) : RepI w N (.ptr cells off) (.pointer (some ⟨b, o + off, none⟩))
  | slice0 (A : Option Addr) (c : Nat) : RepI w N (.slice []) (.slice A 0 c)
  | slice (elems : List (List IV)) (b o sz c : Nat) (vs : Nat → Value) (hN : N b) (hsz : ∀ i (h : i < elems.length), elems[i].length = sz)
      (hm : elems.length ≤ 9223372036854775807) (hcap : elems.length ≤ c)
      (hc : ∀ j, j < elems.length * sz → w.cell? ⟨b, o + j, none⟩ = some (vs j))
      (h1 : ∀ j, j < elems.length * sz → (vs j).oneCell' = true)
      (hr : ∀ i (h : i < elems.length) j (h' : j < elems[i].length), RepI w N elems[i][j] (vs (i * sz + j))) : RepI w N (.slice elems) (.slice (some ⟨b, o, none⟩) elems.length c)
  | agg (cells : List IV) (vs : List Value) (hl : vs.length = cells.length) (h1 : ∀ v ∈ vs, v.oneCell' = true)
      (hr : ∀ j (h : j < cells.length) (h' : j < vs.length), RepI w N cells[j] vs[j]) : RepI w N (.agg cells) (.agg vs.toArray)
  | tup (cells : List IV) (vs : List Value) (hl : vs.length = cells.length)
      (hr : ∀ j (h : j < cells.length) (h' : j < vs.length), RepI w N cells[j] vs[j]) : RepI w N (.tup cells) (.tuple vs.toArray)

theorem RepI.mono {w w' : World} {N N' : Nat → Prop} {v : IV} {x : Value} (h : RepI w N v x) (hN : ∀ b, N b → N' b)
    (hw : ∀ b, N b → ∀ o u, w.cell? ⟨b, o, none⟩ = some u → w'.cell? ⟨b, o, none⟩ = some u) : RepI w' N' v x := by
  induction h with
  | int k n => exact .int k n
  | bool b => exact .bool b
  | str s => exact .str s
  | nilp => exact .nilp
  | ptr cells off b o vs hNb hc h1 hr ih => exact .ptr cells off b o vs (hN _ hNb) (fun j hj => hw b hNb _ _ (hc j hj)) h1 ih
  | slice0 A c => exact .slice0 A c
  | slice elems b o sz c vs hNb hsz hm hcap hc h1 hr ih => exact .slice elems b o sz c vs (hN _ hNb) hsz hm hcap (fun j hj => hw b hNb _ _ (hc j hj)) h1 ih
  | agg cells vs hl h1 hr ih => exact .agg cells vs hl h1 ih
  | tup cells vs hl hr ih => exact .tup cells vs hl ih

/-- Where the boxes lie: block, capacity. -/
abbrev Pl := Key → Option (Nat × Nat)

inductive RepL (w : World) (N Nf : Nat → Prop) (M : Pl) : LV → Value → Prop
  | undef (x) : RepL w N Nf M .undef x
  | imm (v : IV) (x) (h : RepI w N v x) : RepL w N Nf M (.imm false v) x
  | fresh (v : IV) (x) (h : RepI w Nf v x) : RepL w N Nf M (.imm true v) x
  | loc (k : Key) (off b c : Nat) (h : M k = some (b, c)) : RepL w N Nf M (.loc k off) (.pointer (some ⟨b, off, none⟩))
  | row (k : Key) (n b c : Nat) (h : M k = some (b, c)) : RepL w N Nf M (.row k n) (.slice (some ⟨b, 0, none⟩) n c)
  | nils : RepL w N Nf M .nils (.slice none 0 0)
  | unitI (t : TypeId) : RepL w N Nf M (.unitI t) (.iface t (.agg #[]))
  | agg (cells : List LV) (vs : List Value) (hl : vs.length = cells.length) (h1 : ∀ v ∈ vs, v.oneCell' = true)
      (hr : ∀ j (h : j < cells.length) (h' : j < vs.length), RepL w N Nf M cells[j] vs[j]) : RepL w N Nf M (.agg cells) (.agg vs.toArray)
  | tup (cells : List LV) (vs : List Value) (hl : vs.length = cells.length)
      (hr : ∀ j (h : j < cells.length) (h' : j < vs.length), RepL w N Nf M cells[j] vs[j]) : RepL w N Nf M (.tup cells) (.tuple vs.toArray)
  | fn (f : FuncId) (caps : List LV) (vs : List Value) (hl : vs.length = caps.length)
      (hr : ∀ j (h : j < caps.length) (h' : j < vs.length), RepL w N Nf M caps[j] vs[j]) : RepL w N Nf M (.fn f caps) (.func (.func f) #[] vs.toArray)

theorem RepL.mono {w w' : World} {N N' Nf Nf' : Nat → Prop} {M M' : Pl} {v : LV} {x : Value} (h : RepL w N Nf M v x) (hN : ∀ b, N b → N' b) (hNf : ∀ b, Nf b → Nf' b)
    (hM : ∀ k p, M k = some p → M' k = some p)
    (hw : ∀ b, (N b ∨ Nf b) → ∀ o u, w.cell? ⟨b, o, none⟩ = some u → w'.cell? ⟨b, o, none⟩ = some u) : RepL w' N' Nf' M' v x := by
  induction h with
  | undef x => exact .undef x
  | imm v x h => exact .imm v x (h.mono hN fun b hb => hw b (.inl hb))
  | fresh v x h => exact .fresh v x (h.mono hNf fun b hb => hw b (.inr hb))
  | loc k off b c h => exact .loc k off b c (hM k _ h)
  | row k n b c h => exact .row k n b c (hM k _ h)
  | nils => exact .nils
  | unitI t => exact .unitI t
  | agg cells vs hl h1 hr ih => exact .agg cells vs hl h1 ih
  | tup cells vs hl hr ih => exact .tup cells vs hl ih
  | fn f caps vs hl hr ih => exact .fn f caps vs hl ih

/-- What needs no memory. -/
def IV.plain : IV → Bool
  | .int _ _ | .bool _ | .str _ | .nilp => true
  | _ => false
theorem RepI.plain {w w' : World} {N N' : Nat → Prop} {v : IV} {x : Value} (h : RepI w N v x) (hp : v.plain = true) : RepI w' N' v x := by
  cases h with
  | int k n => exact .int k n
  | bool b => exact .bool b
  | str s => exact .str s
  | nilp => exact .nilp
  | slice0 A c => simp [IV.plain] at hp
  | ptr => simp [IV.plain] at hp
  | agg => simp [IV.plain] at hp
  | tup => simp [IV.plain] at hp
  | slice elems b o sz c vs hN hsz hm hcap hc h1 hr => simp [IV.plain] at hp

/-- Scalars: one cell. -/
theorem RepI.one {w : World} {N : Nat → Prop} {v : IV} {x : Value} (h : RepI w N v x) : (∃ cs, v = .agg cs) ∨ (∃ cs, v = .tup cs) ∨ (x.oneCell' = true ∧ x.cells = #[x]) := by
  cases h <;> simp [Value.oneCell', Value.cells]

/-! Lists of values, side by side -/
def Rows2 (R : LV → Value → Prop) (ls : List LV) (vs : List Value) : Prop :=
  vs.length = ls.length ∧ ∀ j (h : j < ls.length) (h' : j < vs.length), R ls[j] vs[j]

theorem Rows2.nil {R : LV → Value → Prop} : Rows2 R [] [] := ⟨rfl, fun j h => by simp at h⟩
theorem Rows2.cons {R : LV → Value → Prop} {l : LV} {v : Value} {ls : List LV} {vs : List Value} (h : R l v) (hs : Rows2 R ls vs) : Rows2 R (l :: ls) (v :: vs) := by
  refine ⟨by simp [hs.1], fun j h1 h2 => ?_⟩
  cases j with
  | zero => exact h
  | succ j => exact hs.2 j (by simpa using h1) (by simpa using h2)
theorem Rows2.of_cons {R : LV → Value → Prop} {l : LV} {v : Value} {ls : List LV} {vs : List Value} (h : Rows2 R (l :: ls) (v :: vs)) : R l v ∧ Rows2 R ls vs :=
  ⟨h.2 0 (by simp) (by simp), by have := h.1; simpa using this, fun j h1 h2 => h.2 (j + 1) (by simpa using h1) (by simpa using h2)⟩
theorem Rows2.append {R : LV → Value → Prop} {ls ls' : List LV} {vs vs' : List Value} (h : Rows2 R ls vs) (h' : Rows2 R ls' vs') : Rows2 R (ls ++ ls') (vs ++ vs') := by
  refine ⟨by simp [h.1, h'.1], fun j h1 h2 => ?_⟩
  by_cases hj : j < ls.length
  · rw [List.getElem_append_left hj, List.getElem_append_left (by rw [h.1]; exact hj)]; exact h.2 j hj _
  · rw [List.getElem_append_right (by omega), List.getElem_append_right (by rw [h.1]; omega)]
    simp only [h.1]
    exact h'.2 _ (by simp at h1; omega) (by rw [h'.1]; simp at h1; omega)
theorem Rows2.drop {R : LV → Value → Prop} {ls : List LV} {vs : List Value} (h : Rows2 R ls vs) (n : Nat) : Rows2 R (ls.drop n) (vs.drop n) := by
  refine ⟨by simp [h.1], fun j h1 h2 => ?_⟩
  rw [List.getElem_drop, List.getElem_drop]; exact h.2 _ _ _
theorem Rows2.take {R : LV → Value → Prop} {ls : List LV} {vs : List Value} (h : Rows2 R ls vs) (n : Nat) : Rows2 R (ls.take n) (vs.take n) := by
  refine ⟨by simp [h.1], fun j h1 h2 => ?_⟩
  rw [List.getElem_take, List.getElem_take]; exact h.2 _ _ _
theorem Rows2.set {R : LV → Value → Prop} {ls : List LV} {vs : List Value} (h : Rows2 R ls vs) (n : Nat) {l : LV} {v : Value} (hr : R l v) : Rows2 R (ls.set n l) (vs.set n v) := by
  refine ⟨by simp [h.1], fun j h1 h2 => ?_⟩
  rw [List.getElem_set, List.getElem_set]
  split
  · exact hr
  · exact h.2 _ _ _
theorem Rows2.mono {R R' : LV → Value → Prop} {ls : List LV} {vs : List Value} (h : Rows2 R ls vs) (hR : ∀ l v, l ∈ ls → R l v → R' l v) : Rows2 R' ls vs :=
  ⟨h.1, fun j h1 h2 => hR _ _ (List.getElem_mem h1) (h.2 j h1 h2)⟩
theorem Rows2.getD {R : LV → Value → Prop} {ls : List LV} {vs : List Value} (h : Rows2 R ls vs) {n : Nat} {l : LV} (hl : ls[n]? = some l) : ∃ v, vs[n]? = some v ∧ R l v := by
  obtain ⟨hn, rfl⟩ := List.getElem?_eq_some_iff.1 hl
  exact ⟨vs[n]'(by rw [h.1]; exact hn), by simp, h.2 n hn _⟩

/-- The cells of a value. -/
def LV.cells : LV → Option (List LV)
  | .agg cs => some cs
  | .imm f (.agg cs) => some (cs.map (.imm f))
  | .imm _ (.tup _) => none
  | .tup _ => none
  | .undef => none
  | v => some [v]

theorem RepL.imm_iff {w : World} {N Nf : Nat → Prop} {M : Pl} {f : Bool} {v : IV} {x : Value} : RepL w N Nf M (.imm f v) x ↔ RepI w (if f then Nf else N) v x := by
  cases f
  · exact ⟨fun h => by cases h; assumption, fun h => .imm v x h⟩
  · exact ⟨fun h => by cases h; assumption, fun h => .fresh v x h⟩

theorem RepL.cells {w : World} {N Nf : Nat → Prop} {M : Pl} {v : LV} {x : Value} (h : RepL w N Nf M v x) {cs : List LV} (hc : v.cells = some cs) :
    Rows2 (RepL w N Nf M) cs x.cells.toList ∧ ∀ u ∈ x.cells.toList, u.oneCell' = true := by
  have one : ∀ (v : LV) (x : Value), RepL w N Nf M v x → x.oneCell' = true → x.cells = #[x] → Rows2 (RepL w N Nf M) [v] x.cells.toList ∧ ∀ u ∈ x.cells.toList, u.oneCell' = true :=
    fun v x h h1 h2 => by rw [h2]; exact ⟨Rows2.cons h Rows2.nil, by simpa using h1⟩
  have onei : ∀ (f : Bool) (v : IV), (∀ cs, v ≠ .agg cs) → (∀ cs, v ≠ .tup cs) → RepL w N Nf M (.imm f v) x → Rows2 (RepL w N Nf M) [.imm f v] x.cells.toList ∧ ∀ u ∈ x.cells.toList, u.oneCell' = true :=
    fun f v h1 h2 h => by
      rcases (RepL.imm_iff.1 h).one with ⟨cs, h'⟩ | ⟨cs, h'⟩ | ⟨h3, h4⟩
      · exact absurd h' (h1 cs)
      · exact absurd h' (h2 cs)
      · exact one _ _ h h3 h4
  cases v with
  | undef => simp [LV.cells] at hc
  | tup vs => simp [LV.cells] at hc
  | imm f v =>
    cases v with
    | agg cells =>
      simp only [LV.cells, Option.some.injEq] at hc; subst hc
      have h := RepL.imm_iff.1 h
      cases h with
      | agg cells vs hl h1 hr =>
        refine ⟨⟨by simp [Value.cells, hl], fun j h h' => ?_⟩, by simpa [Value.cells] using h1⟩
        simp only [List.getElem_map]
        refine RepL.imm_iff.2 ?_
        exact hr j (by simpa using h) h'
    | tup vs => simp [LV.cells] at hc
    | int k n => simp only [LV.cells, Option.some.injEq] at hc; subst hc; exact onei _ _ (by simp) (by simp) h
    | bool b => simp only [LV.cells, Option.some.injEq] at hc; subst hc; exact onei _ _ (by simp) (by simp) h
    | str s => simp only [LV.cells, Option.some.injEq] at hc; subst hc; exact onei _ _ (by simp) (by simp) h
    | nilp => simp only [LV.cells, Option.some.injEq] at hc; subst hc; exact onei _ _ (by simp) (by simp) h
    | ptr c o => simp only [LV.cells, Option.some.injEq] at hc; subst hc; exact onei _ _ (by simp) (by simp) h
    | slice c => simp only [LV.cells, Option.some.injEq] at hc; subst hc; exact onei _ _ (by simp) (by simp) h
  | loc k off => simp only [LV.cells, Option.some.injEq] at hc; subst hc; cases h with | loc k off b c h => exact one _ _ (.loc k off b c h) rfl rfl
  | row k n => simp only [LV.cells, Option.some.injEq] at hc; subst hc; cases h with | row k n b c h => exact one _ _ (.row k n b c h) rfl rfl
  | nils => simp only [LV.cells, Option.some.injEq] at hc; subst hc; cases h; exact one _ _ .nils rfl rfl
  | unitI t => simp only [LV.cells, Option.some.injEq] at hc; subst hc; cases h; exact one _ _ (.unitI t) rfl rfl
  | agg cells =>
    simp only [LV.cells, Option.some.injEq] at hc; subst hc
    cases h with
    | agg cells vs hl h1 hr => exact ⟨⟨by simp [Value.cells, hl], fun j h h' => hr j h h'⟩, by simpa [Value.cells] using h1⟩
  | fn f caps => simp only [LV.cells, Option.some.injEq] at hc; subst hc; cases h with | fn f caps vs hl hr => exact one _ _ (.fn f caps vs hl hr) rfl rfl

def LV.acells : LV → Option (List LV)
  | .agg cs => some cs
  | .imm f (.agg cs) => some (cs.map (.imm f))
  | _ => none
theorem RepL.acells {w : World} {N Nf : Nat → Prop} {M : Pl} {v : LV} {x : Value} (h : RepL w N Nf M v x) {cs : List LV} (hc : v.acells = some cs) :
    ∃ vs : Array Value, x = .agg vs ∧ Rows2 (RepL w N Nf M) cs vs.toList ∧ ∀ u ∈ vs.toList, u.oneCell' = true := by
  unfold LV.acells at hc
  split at hc
  · simp only [Option.some.injEq] at hc; subst hc
    have := h.cells rfl
    cases h with
    | agg cells vs hl h1 hr => exact ⟨_, rfl, this⟩
  · simp only [Option.some.injEq] at hc; subst hc
    have := h.cells rfl
    have h := RepL.imm_iff.1 h
    cases h with
    | agg cells vs hl h1 hr => exact ⟨_, rfl, this⟩
  · cases hc

end Go.Proofs.Ytopgmopdjiahmaa.Lg

/- The operations, abstractly: what an operation of the machine makes of a state whose temporaries stand for trees. Conditions: none; plain definitions. -/
set_option linter.unusedVariables false
set_option linter.unusedSimpArgs false
namespace Go.Proofs.Ytopgmopdjiahmaa.Lg
open Go Go.RowKit

/-- A state: temporaries, boxes, the boxes that have been handed on. -/
structure St where
  e : List (Nat × LV)
  s : List (Key × Box)
  z : List Key

def getE : List (Nat × LV) → Nat → LV
  | [], _ => .undef
  | (t, v) :: r, n => if t = n then v else getE r n
def getB : List (Key × Box) → Key → Option Box
  | [], _ => none
  | (t, v) :: r, n => if t = n then some v else getB r n
def delB : List (Key × Box) → Key → List (Key × Box)
  | [], _ => []
  | (t, v) :: r, n => if t = n then delB r n else (t, v) :: delB r n
def setB : List (Key × Box) → Key → Box → List (Key × Box)
  | [], n, b => [(n, b)]
  | (t, v) :: r, n, b => if t = n then (t, b) :: delB r n else (t, v) :: setB r n b
def putE : List (Nat × LV) → Nat → LV → List (Nat × LV)
  | [], n, b => [(n, b)]
  | (t, v) :: r, n, b => if t = n then (t, b) :: r else (t, v) :: putE r n b
def keepE (e : List (Nat × LV)) : List Nat → List (Nat × LV)
  | [] => []
  | n :: r => (n, getE e n) :: keepE e r

def St.get (σ : St) (n : Nat) : LV := getE σ.e n
def St.box (σ : St) (k : Key) : Option Box := getB σ.s k

theorem getE_put (e : List (Nat × LV)) (n : Nat) (v : LV) (m : Nat) : getE (putE e n v) m = if n = m then v else getE e m := by
  induction e with
  | nil => rfl
  | cons x e ih =>
    obtain ⟨t, u⟩ := x
    simp only [putE]
    by_cases h : t = n
    · subst h
      simp only [if_true, getE]
      split <;> rfl
    · simp only [if_neg h, getE, ih]
      by_cases h2 : t = m
      · subst h2; simp [Ne.symm h]
      · simp [h2]
theorem getB_del (s : List (Key × Box)) (k m : Key) : getB (delB s k) m = if k = m then none else getB s m := by
  induction s with
  | nil => simp [delB, getB]
  | cons x s ih =>
    obtain ⟨t, u⟩ := x
    simp only [delB]
    by_cases h : t = k
    · subst h
      simp only [if_true, ih, getB]
      split <;> rfl
    · simp only [if_neg h, getB, ih]
      by_cases h2 : t = m
      · subst h2; simp [Ne.symm h]
      · simp [h2]
theorem getB_set (s : List (Key × Box)) (k : Key) (b : Box) (m : Key) : getB (setB s k b) m = if k = m then some b else getB s m := by
  induction s with
  | nil => rfl
  | cons x s ih =>
    obtain ⟨t, u⟩ := x
    simp only [setB]
    by_cases h : t = k
    · subst h
      simp only [if_true, getB, getB_del]
      split <;> rfl
    · simp only [if_neg h, getB, ih]
      by_cases h2 : t = m
      · subst h2; simp [Ne.symm h]
      · simp [h2]
theorem getE_keep (e : List (Nat × LV)) (l : List Nat) (m : Nat) : getE (keepE e l) m = getE e m ∨ getE (keepE e l) m = .undef := by
  induction l with
  | nil => exact .inr rfl
  | cons n l ih =>
    simp only [keepE, getE]
    split
    · rename_i h; subst h; exact .inl rfl
    · exact ih

/-- What an operation does to a state; r: the boxes that it looked into. -/
structure Eff where
  d : Option (Nat × LV)
  u : List (Key × Option Box)
  z : List Key
  r : List Key

def appU : List (Key × Option Box) → List (Key × Box) → List (Key × Box)
  | [], s => s
  | (k, some b) :: u, s => appU u (setB s k b)
  | (k, none) :: u, s => appU u (delB s k)
def addZ : List Key → List Key → List Key
  | [], z => z
  | k :: r, z => if k ∈ z then addZ r z else k :: addZ r z
def St.app (σ : St) (E : Eff) : St :=
  { e := match E.d with | some (t, v) => putE σ.e t v | none => σ.e, s := appU E.u σ.s, z := addZ E.z σ.z }

theorem mem_addZ (l z : List Key) (k : Key) : k ∈ addZ l z ↔ k ∈ l ∨ k ∈ z := by
  induction l with
  | nil => simp [addZ]
  | cons a l ih =>
    simp only [addZ]
    split
    · rename_i h
      rw [ih]
      constructor
      · rintro (h1 | h1)
        · exact .inl (List.mem_cons_of_mem _ h1)
        · exact .inr h1
      · rintro (h1 | h1)
        · rcases List.mem_cons.1 h1 with rfl | h1
          · exact .inr h
          · exact .inl h1
        · exact .inr h1
    · rw [List.mem_cons, ih, List.mem_cons, or_assoc]

/-! Handing on: a value with all its boxes written out -/
def resL (f : LV → Option (Bool × IV)) : List LV → Option (Bool × List IV)
  | [] => some (true, [])
  | a :: r => match f a with
    | some (b, v) => match resL f r with
      | some (c, vs) => some (b && c, v :: vs)
      | none => none
    | none => none
def resLL (f : LV → Option (Bool × IV)) : List (List LV) → Option (Bool × List (List IV))
  | [] => some (true, [])
  | a :: r => match resL f a with
    | some (b, v) => match resLL f r with
      | some (c, vs) => some (b && c, v :: vs)
      | none => none
    | none => none
def Key.isOwn : Key → Bool
  | .own _ => true
  | .arg _ => false
def res (s : List (Key × Box)) : Nat → LV → Option (Bool × IV)
  | 0, _ => none
  | _ + 1, .imm f v => some (f || v.plain, v)
  | _ + 1, .nils => some (true, .slice [])
  | n + 1, .loc k off => match getB s k with
    | some (.var cells) => match resL (res s n) cells with
      | some (f, vs) => if k.isOwn then some (f, .ptr vs off) else none
      | none => none
    | _ => none
  | n + 1, .row k m => match getB s k with
    | some (.row _ _ elems) => if elems.length = m then match resLL (res s n) elems with
      | some (f, vs) => if k.isOwn then some (f, .slice vs) else none
      | none => none else none
    | _ => none
  | n + 1, .agg cells => match resL (res s n) cells with
    | some (f, vs) => some (f, .agg vs)
    | none => none
  | n + 1, .tup cells => match resL (res s n) cells with
    | some (f, vs) => some (f, .tup vs)
    | none => none
  | _ + 1, _ => none

/-- the boxes that it goes through -/
def keysL (f : LV → List Key) : List LV → List Key
  | [] => []
  | a :: r => f a ++ keysL f r
def keysLL (f : LV → List Key) : List (List LV) → List Key
  | [] => []
  | a :: r => keysL f a ++ keysLL f r
def keys (s : List (Key × Box)) : Nat → LV → List Key
  | 0, _ => []
  | n + 1, .loc k _ => match getB s k with
    | some (.var cells) => k :: keysL (keys s n) cells
    | _ => [k]
  | n + 1, .row k _ => match getB s k with
    | some (.row _ _ elems) => k :: keysLL (keys s n) elems
    | _ => [k]
  | n + 1, .agg cells => keysL (keys s n) cells
  | n + 1, .tup cells => keysL (keys s n) cells
  | _ + 1, _ => []

def depth0 : Nat := 6
def St.res (σ : St) (v : LV) : Option (Bool × IV) := Lg.res σ.s depth0 v
def St.keys (σ : St) (v : LV) : List Key := Lg.keys σ.s depth0 v

/-! Operands, operations -/
inductive Opd where
  | t (n : Nat)
  | c (v : LV)
def St.ev (σ : St) : Opd → LV
  | .t n => σ.get n
  | .c v => v

inductive MO where
  | mv (d : Nat) (x : Opd)
  | pick (d : Nat) (c a b : Opd)
  | box (d : Nat) (x : Opd)
  | boxc (d : Nat) (x : Opd)
  | alloc (d : Nat) (zs : List LV)
  | build (d : Nat) (zs : List LV) (ps : List (Nat × Nat × Opd))
  | lit (d : Nat) (sz : Nat) (ps : List Opd)
  | load (d : Nat) (x : Opd) (n : Option Nat)
  | store (x y : Opd) (n : Nat)
  | nilc (d : Nat) (x : Opd)
  | fad (d : Nat) (x : Opd) (off : Nat)
  | fld (d : Nat) (x : Opd) (off : Nat) (n : Option Nat)
  | iad (d : Nat) (x i : Opd) (sz : Nat)
  | aad (d : Nat) (x i : Opd) (len sz : Nat)
  | idx (d : Nat) (x i : Opd) (len sz : Nat) (n : Option Nat)
  | ext (d : Nat) (x : Opd) (i : Nat)
  | bin (d : Nat) (op : BinOp) (x y : Opd)
  | binb (d : Nat) (neg : Bool) (x y : Opd)
  | un (d : Nat) (op : UnOp) (x : Opd)
  | conv (d : Nat) (k : IntKind) (x : Opd)
  | len (d : Nat) (x : Opd)
  | slen (d : Nat) (x : Opd)
  | mkif (d : Nat) (t : TypeId) (x : Opd)
  | pan (x : Opd)
  | append (d : Nat) (x y : Opd) (e : TypeId) (sz by_ : Nat)
  | mx (d : Nat) (xs : List Opd)
  | mn (d : Nat) (xs : List Opd)
  | mkfn (d : Nat) (f : FuncId) (caps : List Opd)
  | mksl (d : Nat) (n : Opd) (zs : List LV)
  | mkrow (d : Nat) (n : Opd) (e : TypeId) (sz by_ : Nat)
  | cut (d : Nat) (x : Opd) (lo hi : Option Opd) (sz : Nat)
  | call (d : Option Nat) (f : Opd) (xs : List Opd)
  | callB (d : Option Nat) (f : Opd) (xs : List Opd) (ρ : List Key)

def MO.dst : MO → Option Nat
  | .mv d _ | .pick d _ _ _ | .box d _ | .boxc d _ | .alloc d _ | .build d _ _ | .lit d _ _ | .load d _ _ | .nilc d _ | .fad d _ _ | .fld d _ _ _
  | .iad d _ _ _ | .aad d _ _ _ _ | .idx d _ _ _ _ _ | .ext d _ _ | .bin d _ _ _ | .binb d _ _ _ | .un d _ _ | .conv d _ _ | .len d _ | .slen d _ | .mkif d _ _ | .append d _ _ _ _ _ | .mx d _ | .mn d _ | .mkfn d _ _ | .mksl d _ _ | .mkrow d _ _ _ _ | .cut d _ _ _ _ => some d
  | .store _ _ _ | .pan _ => none
  | .call d _ _ | .callB d _ _ _ => d

def MO.news : MO → Option Nat
  | .box d _ | .alloc d _ | .append d _ _ _ _ _ | .mkrow d _ _ _ _ => some d
  | _ => none

def val (d : Nat) (v : LV) : Option Eff := some { d := some (d, v), u := [], z := [], r := [] }

/-- A part of a row of cells: a scalar, or an aggregate of n. -/
def partOf (cs : List LV) (off : Nat) : Option Nat → Option LV
  | none => cs[off]?
  | some n => if off + n ≤ cs.length then some (.agg ((cs.drop off).take n)) else none
/-- Of a row that nobody changes. -/
def partI (f : Bool) (cs : List IV) (off : Nat) : Option Nat → Option LV
  | none => (cs[off]?).map (.imm f)
  | some n => if off + n ≤ cs.length then some (.imm f (.agg ((cs.drop off).take n))) else none

def Box.flat : Box → List LV
  | .var cs => cs
  | .row _ _ es => es.flatten

def setAt : List LV → Nat → List LV → List LV
  | cs, _, [] => cs
  | cs, o, v :: r => setAt (cs.set o v) (o + 1) r

def fillA : List LV → List (Nat × Nat × LV) → Option (List LV)
  | cs, [] => some cs
  | cs, (off, sz, v) :: r => match v.cells with
    | some vs => if vs.length = sz ∧ off + sz ≤ cs.length then fillA (setAt cs off vs) r else none
    | none => none

def abin (op : BinOp) : IV → IV → Option IV
  | .int k a, .int k' b => match op with
    | .shl => if b < 0 then none else some (.int k (k.wrap (a * 2 ^ (min b.toNat k.bits))))
    | .shr => none
    | _ => if k = k' then match op with
      | .add => some (.int k (k.wrap (a + b)))
      | .sub => some (.int k (k.wrap (a - b)))
      | .mul => some (.int k (k.wrap (a * b)))
      | .quo => if b = 0 then none else some (.int k (k.wrap (a.tdiv b)))
      | .rem => if b = 0 then none else some (.int k (a.tmod b))
      | .eql => some (.bool (a == b))
      | .neq => some (.bool (a != b))
      | .lss => some (.bool (a < b))
      | .leq => some (.bool (a ≤ b))
      | .gtr => some (.bool (a > b))
      | .geq => some (.bool (a ≥ b))
      | _ => none else none
  | .str a, .str b => match op with
    | .eql => some (.bool (a.toList == b.toList))
    | .neq => some (.bool (!(a.toList == b.toList)))
    | _ => none
  | _, _ => none

def aun (op : UnOp) : IV → Option IV
  | .bool b => match op with
    | .not => some (.bool !b)
    | _ => none
  | .int k n => match op with
    | .neg => some (.int k (k.wrap (0 - n)))
    | _ => none
  | _ => none

def maxL (k : IntKind) (m : Int) : List LV → Option LV
  | [] => some (.imm true (.int k m))
  | .imm _ (.int _ y) :: r => maxL k (if y > m then y else m) r
  | _ => none
def minL (k : IntKind) (m : Int) : List LV → Option LV
  | [] => some (.imm true (.int k m))
  | .imm _ (.int _ y) :: r => minL k (if y < m then y else m) r
  | _ => none

def resAll (σ : St) : List LV → Option (Bool × List (List IV))
  | [] => some (true, [])
  | a :: r => match a.cells with
    | some cs => match resL (Lg.res σ.s depth0) cs with
      | some (f, v) => match resAll σ r with
        | some (g, vs) => some (f && g, v :: vs)
        | none => none
      | none => none
    | none => none

def intOfLV : LV → Option Int
  | .imm _ (.int _ n) => some n
  | _ => none

/-- The operations but for calls. -/
def aop (σ : St) : MO → Option Eff
  | .mv d x => val d (σ.ev x)
  | .pick d c a b => match σ.ev c with
    | .imm _ (.bool t) => val d (if t then σ.ev a else σ.ev b)
    | _ => none
  | .box d x => match (σ.ev x).cells with
    | some cs => some { d := some (d, .loc (.own d) 0), u := [(.own d, some (.var cs))], z := [], r := [] }
    | none => none
  | .boxc d x => match (σ.ev x).cells with
    | some cs => match resL (Lg.res σ.s depth0) cs with
      | some (f, vs) => some { d := some (d, .imm f (.ptr vs 0)), u := [], z := keysL (Lg.keys σ.s depth0) cs, r := keysL (Lg.keys σ.s depth0) cs }
      | none => none
    | none => none
  | .alloc d zs => some { d := some (d, .loc (.own d) 0), u := [(.own d, some (.var zs))], z := [], r := [] }
  | .build d zs ps => match fillA zs (ps.map fun (o, n, x) => (o, n, σ.ev x)) with
    | some cs => val d (.agg cs)
    | none => none
  | .lit d sz ps => match resAll σ (ps.map σ.ev) with
    | some (f, vs) => if vs.all (fun v => v.length == sz) then
      some { d := some (d, .imm f (.slice vs)), u := [], z := keysL (fun a => keysL (Lg.keys σ.s depth0) (a.cells.getD [])) (ps.map σ.ev), r := keysL (fun a => keysL (Lg.keys σ.s depth0) (a.cells.getD [])) (ps.map σ.ev) } else none
    | none => none
  | .load d x n => match σ.ev x with
    | .imm f (.ptr cs off) => match partI f cs off n with
      | some v => val d v
      | none => none
    | .loc k off => match σ.box k with
      | some b => match partOf b.flat off n with
        | some v => some { d := some (d, v), u := [], z := [], r := [k] }
        | none => none
      | none => none
    | _ => none
  | .store x y n => match σ.ev x with
    | .loc k off => if k ∈ σ.z then none else match σ.box k with
      | some (.var cs) => match (σ.ev y).cells with
        | some vs => if vs.length = n ∧ off + n ≤ cs.length then some { d := none, u := [(k, some (.var (setAt cs off vs)))], z := [], r := [k] } else none
        | none => none
      | _ => none
    | _ => none
  | .nilc d x => match σ.ev x with
    | .imm f (.ptr cs off) => val d (.imm f (.ptr cs off))
    | .loc k off => val d (.loc k off)
    | _ => none
  | .fad d x off => match σ.ev x with
    | .imm f (.ptr cs o) => val d (.imm f (.ptr cs (o + off)))
    | .loc k o => val d (.loc k (o + off))
    | _ => none
  | .fld d x off n => match (σ.ev x).acells with
    | some cs => match partOf cs off n with
      | some v => val d v
      | none => none
    | none => none
  | .iad d x i sz => match σ.ev x, intOfLV (σ.ev i) with
    | .imm f (.slice es), some i => if 0 ≤ i then match es[i.toNat]? with
      | some cs => if cs.length = sz then val d (.imm f (.ptr cs 0)) else none
      | none => none else none
    | .row k n, some i => if 0 ≤ i ∧ i < n then val d (.loc k (i.toNat * sz)) else none
    | _, _ => none
  | .aad d x i len sz => match σ.ev x, intOfLV (σ.ev i) with
    | .imm f (.ptr cs o), some i => if 0 ≤ i ∧ i < len then val d (.imm f (.ptr cs (o + i.toNat * sz))) else none
    | .loc k o, some i => if 0 ≤ i ∧ i < len then val d (.loc k (o + i.toNat * sz)) else none
    | _, _ => none
  | .idx d x i len sz n => match (σ.ev x).acells, intOfLV (σ.ev i) with
    | some cs, some i => if 0 ≤ i ∧ i < len then match partOf cs (i.toNat * sz) n with
      | some v => val d v
      | none => none else none
    | _, _ => none
  | .ext d x i => match σ.ev x with
    | .tup vs => match vs[i]? with
      | some v => val d v
      | none => none
    | .imm f (.tup vs) => match vs[i]? with
      | some v => val d (.imm f v)
      | none => none
    | _ => none
  | .bin d op x y => match σ.ev x, σ.ev y with
    | .imm _ a, .imm _ b => match abin op a b with
      | some v => val d (.imm true v)
      | none => none
    | _, _ => none
  | .binb d neg x y => match σ.ev x, σ.ev y with
    | .imm _ (.bool a), .imm _ (.bool b) => val d (.imm true (.bool (if neg then !(a == b) else (a == b))))
    | _, _ => none
  | .un d op x => match σ.ev x with
    | .imm _ a => match aun op a with
      | some v => val d (.imm true v)
      | none => none
    | _ => none
  | .conv d k x => match σ.ev x with
    | .imm _ (.int _ n) => val d (.imm true (.int k (k.wrap n)))
    | _ => none
  | .len d x => match σ.ev x with
    | .imm _ (.slice es) => val d (.imm true (.int .i64 es.length))
    | .nils => val d (.imm true (.int .i64 0))
    | .row _ n => val d (.imm true (.int .i64 n))
    | _ => none
  | .slen d x => match σ.ev x with
    | .imm _ (.str s) => val d (.imm true (.int .i64 s.size))
    | _ => none
  | .mkif d t x => match (σ.ev x).acells with
    | some [] => val d (.unitI t)
    | _ => none
  | .append d x y e sz by_ => match σ.ev y with
    | .imm f (.slice news) => if news.all (fun v => v.length == sz) && 0 < sz && 0 < by_ && 0 < news.length then match σ.ev x with
      | .nils => if news.length * by_ ≤ 140737488355328 then some { d := some (d, .row (.own d) news.length), u := [(.own d, some (.row e sz (news.map fun v => v.map (.imm f))))], z := [], r := [] } else none
      | .row k n => if k ∈ σ.z then none else match σ.box k with
        | some (.row e' sz' es) => if e' = e ∧ sz' = sz ∧ es.length = n ∧ k.isOwn = true ∧ (n + news.length) * by_ ≤ 140737488355328 then
            some { d := some (d, .row (.own d) (n + news.length)), u := [(k, none), (.own d, some (.row e sz (es ++ news.map fun v => v.map (.imm f))))], z := [], r := [k] } else none
        | _ => none
      | _ => none else none
    | _ => none
  | .mx d xs => match xs.map σ.ev with
    | .imm _ (.int k m) :: r => match maxL k m r with
      | some v => val d v
      | none => none
    | _ => none
  | .mn d xs => match xs.map σ.ev with
    | .imm _ (.int k m) :: r => match minL k m r with
      | some v => val d v
      | none => none
    | _ => none
  | .mkfn d f caps => val d (.fn f (caps.map σ.ev))
  | .mksl d n zs => match intOfLV (σ.ev n) with
    | some n => if 0 ≤ n ∧ n ≤ 1000 then match resL (Lg.res [] 1) zs with
      | some (_, vs) => val d (.imm true (.slice (List.replicate n.toNat vs)))
      | none => none else none
    | none => none
  | .mkrow d n e sz by_ => match intOfLV (σ.ev n) with
    | some n => if 0 ≤ n ∧ n ≤ 1000000 ∧ by_ ≤ 1000 then some { d := some (d, .row (.own d) 0), u := [(.own d, some (.row e sz []))], z := [], r := [] } else none
    | none => none
  | .cut d x lo hi sz => match σ.ev x with
    | .imm f (.slice es) =>
      match (match lo with | none => some 0 | some l => intOfLV (σ.ev l)), (match hi with | none => some (es.length : Int) | some h => intOfLV (σ.ev h)) with
      | some l, some h => if (0 ≤ l ∧ l ≤ h ∧ h ≤ es.length) ∧ es.all (fun v => v.length == sz) = true then val d (.imm f (.slice ((es.drop l.toNat).take (h - l).toNat))) else none
      | _, _ => none
    | _ => none
  | .call .. | .callB .. | .pan _ => none

end Go.Proofs.Ytopgmopdjiahmaa.Lg

/- What it means that a state of the logic tells of a state of the machine, and how that lives on. Conditions: none; plain definitions and lemmas. -/
set_option linter.unusedVariables false
set_option linter.unusedSimpArgs false
namespace Go.Proofs.Ytopgmopdjiahmaa.Lg
open Go Go.RowKit

/-- A call's beginning: the world, the blocks of what was handed in, the boxes that were lent. -/
structure Cx where
  w : World
  N : Nat → Prop
  na : Nat
  m : Nat → Nat
  hN : ∀ b, N b → b < w.heap.size
  hm : ∀ i, i < na → m i < w.heap.size ∧ ¬ N (m i)
  dfs : List Deferred := []

def NS (cx : Cx) (s : List (Key × Box)) (z : List Key) (M : Pl) (w : World) (b : Nat) : Prop :=
  (cx.N b ∨ cx.w.heap.size ≤ b) ∧ b < w.heap.size ∧ ∀ k c, (getB s k).isSome = true → k ∉ z → M k ≠ some (b, c)
def NF (cx : Cx) (s : List (Key × Box)) (z : List Key) (M : Pl) (w : World) (b : Nat) : Prop := NS cx s z M w b ∧ cx.w.heap.size ≤ b ∧ ∀ o, w.frozen? ⟨b, o, none⟩ = false
abbrev RR (cx : Cx) (s : List (Key × Box)) (z : List Key) (M : Pl) (w : World) : LV → Value → Prop := RepL w (NS cx s z M w) (NF cx s z M w) M

def BoxR (R : LV → Value → Prop) (w : World) (pl : Nat × Nat) : Box → Prop
  | .var cs => ∃ vs e, w.heap[pl.1]? = some (.cells vs e (0, 0)) ∧ Rows2 R cs vs.toList ∧ ∀ v ∈ vs.toList, v.oneCell' = true
  | .row e sz es => ∃ xs, w.ownsRow 0 e sz (.slice (some ⟨pl.1, 0, none⟩) es.length pl.2) es.length xs ∧ Rows2 R es.flatten xs ∧ (∀ x ∈ es, x.length = sz) ∧ ∀ v ∈ xs, v.oneCell' = true

structure Inv (cx : Cx) (σ : St) (M : Pl) (a : Act) (w : World) : Prop where
  os : w.os = cx.w.os
  tape : w.tape = cx.w.tape
  output : w.output = cx.w.output
  size : cx.w.heap.size ≤ w.heap.size
  frame : ∀ b, b < cx.w.heap.size → (∀ i, i < cx.na → cx.m i ≠ b) → w.heap[b]? = cx.w.heap[b]?
  plc : ∀ k, (getB σ.s k).isSome = true → ∃ pl, M k = some pl
  box : ∀ k b pl, getB σ.s k = some b → M k = some pl → BoxR (RR cx σ.s σ.z M w) w pl b
  own : ∀ t pl, (getB σ.s (.own t)).isSome = true → M (.own t) = some pl → cx.w.heap.size ≤ pl.1
  arg : ∀ i, (getB σ.s (.arg i)).isSome = true → i < cx.na
  argM : ∀ i, i < cx.na → ∃ c, M (.arg i) = some (cx.m i, c)
  argz : ∀ i, .arg i ∉ σ.z
  inj : ∀ k k' b c c', (getB σ.s k).isSome = true → (getB σ.s k').isSome = true → M k = some (b, c) → M k' = some (b, c') → k = k'
  env : ∀ t, RR cx σ.s σ.z M w (getE σ.e t) (a.tmps.getD t undef)
  defers : a.defers = cx.dfs

theorem ownsRow_at {w w' : World} {e sz n c g : Nat} {xs : List Value} (h : w.ownsRow 0 e sz (.slice (some ⟨g, 0, none⟩) n c) n xs) (hb : w'.heap[g]? = w.heap[g]?) :
    w'.ownsRow 0 e sz (.slice (some ⟨g, 0, none⟩) n c) n xs := by
  obtain ⟨h1, h2⟩ := h
  refine ⟨h1, ?_⟩
  rcases h2 with ⟨h2, _⟩ | ⟨g', cap, cur, hv, hg, hh, r⟩
  · cases h2
  · refine .inr ⟨g', cap, cur, hv, hg, ?_, r⟩
    have : g' = g := by injection hv with h3; injection h3 with h3; injection h3 with h3; exact h3.symm
    subst this
    rw [hb]; exact hh
theorem ownsRow_lt {w : World} {e sz n c g : Nat} {xs : List Value} (h : w.ownsRow 0 e sz (.slice (some ⟨g, 0, none⟩) n c) n xs) : g < w.heap.size :=
  (h.lt g rfl).2

theorem BoxR.lt {R : LV → Value → Prop} {w : World} {pl : Nat × Nat} {b : Box} (h : BoxR R w pl b) : pl.1 < w.heap.size := by
  cases b with
  | var cs =>
    obtain ⟨vs, e, h, _⟩ := h
    exact (Array.getElem?_eq_some_iff.1 h).1
  | row e sz es =>
    obtain ⟨xs, h, _⟩ := h
    exact ownsRow_lt h
theorem free_of {w : World} {b : Nat} {vs : Array Value} {e : TypeId} (h : w.heap[b]? = some (.cells vs e (0, 0))) (o : Nat) : w.frozen? ⟨b, o, none⟩ = false := by simp [World.frozen?, h]
theorem BoxR.free {R : LV → Value → Prop} {w : World} {pl : Nat × Nat} {b : Box} (h : BoxR R w pl b) (o : Nat) : w.frozen? ⟨pl.1, o, none⟩ = false := by
  cases b with
  | var cs =>
    obtain ⟨vs, e, h, _⟩ := h
    exact free_of h o
  | row e sz es =>
    obtain ⟨xs, h, _⟩ := h
    rcases h.2 with ⟨h2, _⟩ | ⟨g', cap, cur, hv, hg, hh, r⟩
    · cases h2
    · have : g' = pl.1 := by injection hv with h3; injection h3 with h3; injection h3 with h3; exact h3.symm
      subst this
      exact free_of hh o
theorem BoxR.up {R R' : LV → Value → Prop} {w w' : World} {pl : Nat × Nat} {b : Box} (h : BoxR R w pl b) (hR : ∀ v x, R v x → R' v x) (hb : w'.heap[pl.1]? = w.heap[pl.1]?) : BoxR R' w' pl b := by
  cases b with
  | var cs =>
    obtain ⟨vs, e, h, h2, h3⟩ := h
    exact ⟨vs, e, hb.trans h, h2.mono fun l v _ => hR l v, h3⟩
  | row e sz es =>
    obtain ⟨xs, h, h2, h3, h4⟩ := h
    exact ⟨xs, ownsRow_at h hb, h2.mono fun l v _ => hR l v, h3, h4⟩

theorem RR.up {cx : Cx} {s s' : List (Key × Box)} {z z' : List Key} {M M' : Pl} {w w' : World} (hN : ∀ b, NS cx s z M w b → NS cx s' z' M' w' b)
    (hM : ∀ k p, M k = some p → M' k = some p) (hw : ∀ b, NS cx s z M w b → w'.heap[b]? = w.heap[b]?) {v : LV} {x : Value} (h : RR cx s z M w v x) : RR cx s' z' M' w' v x := by
  refine RepL.mono h hN (fun b hb => ⟨hN b hb.1, hb.2.1, fun o => (World.frozen?_of_block (a := ⟨b, o, none⟩) (hw b hb.1)).trans (hb.2.2 o)⟩) hM (fun b hb o u hu => ?_)
  have hb : NS cx s z M w b := hb.elim id (·.1)
  rw [← hu]
  exact World.cell?_of_block (hw b hb)

theorem Inv.lt {cx : Cx} {σ : St} {M : Pl} {a : Act} {w : World} (h : Inv cx σ M a w) {k : Key} {pl : Nat × Nat} (hk : (getB σ.s k).isSome = true) (hM : M k = some pl) : pl.1 < w.heap.size := by
  obtain ⟨b, hb⟩ := Option.isSome_iff_exists.1 hk
  exact (h.box k b pl hb hM).lt

theorem getD_put (a : Act) (d : Nat) (v : Value) (hd : d < a.tmps.size) (t : Nat) : (a.put (some d) v).tmps.getD t undef = if d = t then v else a.tmps.getD t undef := by
  simp only [Act.put, Array.getD_eq_getD_getElem?, Array.getElem?_setIfInBounds]
  split
  · rename_i h; subst h; simp [hd]
  · rfl

/-- A value comes into a temporary; the boxes in z are handed on. -/
theorem Inv.val {cx : Cx} {σ : St} {M : Pl} {a : Act} {w : World} (h : Inv cx σ M a w) {d : Nat} (hd : d < a.tmps.size) {lv : LV} {v : Value} (hv : RR cx σ.s σ.z M w lv v) :
    Inv cx { σ with e := putE σ.e d lv } M (a.put (some d) v) w where
  os := h.os
  tape := h.tape
  output := h.output
  size := h.size
  frame := h.frame
  plc := h.plc
  box := h.box
  own := h.own
  arg := h.arg
  argM := h.argM
  argz := h.argz
  inj := h.inj
  env := fun t => by
    rw [getE_put, getD_put a d v hd]
    split
    · exact hv
    · exact h.env t
  defers := h.defers

theorem NS.addZ {cx : Cx} {s : List (Key × Box)} {z : List Key} {M : Pl} {w : World} {b : Nat} (l : List Key) (h : NS cx s z M w b) : NS cx s (Lg.addZ l z) M w b :=
  ⟨h.1, h.2.1, fun k c hk hz => h.2.2 k c hk (fun hc => hz ((mem_addZ _ _ _).2 (.inr hc)))⟩

theorem Inv.addZ {cx : Cx} {σ : St} {M : Pl} {a : Act} {w : World} (h : Inv cx σ M a w) {l : List Key} (hl : ∀ k ∈ l, k.isOwn = true) :
    Inv cx { σ with z := Lg.addZ l σ.z } M a w := by
  have up : ∀ v x, RR cx σ.s σ.z M w v x → RR cx σ.s (Lg.addZ l σ.z) M w v x := fun v x hx => RR.up (fun b hb => hb.addZ l) (fun _ _ h => h) (fun _ _ => rfl) hx
  exact { os := h.os, tape := h.tape, output := h.output, size := h.size, frame := h.frame, plc := h.plc, own := h.own, arg := h.arg, argM := h.argM, inj := h.inj, defers := h.defers
          box := fun k b pl hk hM => (h.box k b pl hk hM).up up rfl
          argz := fun i hi => by
            rcases (mem_addZ _ _ _).1 hi with h1 | h1
            · have := hl _ h1; simp [Key.isOwn] at this
            · exact h.argz i h1
          env := fun t => up _ _ (h.env t) }

/-- A new box. -/
theorem Inv.new {cx : Cx} {σ : St} {M : Pl} {a : Act} {w : World} (h : Inv cx σ M a w) {d : Nat} (hk : getB σ.s (.own d) = none) (hM : M (.own d) = none) {cs : List LV} {vs : Array Value} {e : TypeId}
    (hv : Rows2 (RR cx σ.s σ.z M w) cs vs.toList) (h1 : ∀ v ∈ vs.toList, v.oneCell' = true) :
    Inv cx { σ with s := setB σ.s (.own d) (.var cs) } (fun k => if k = .own d then some (w.heap.size, 0) else M k) a (w.alloc (.cells vs e)) := by
  have hMM : ∀ k p, M k = some p → (fun k => if k = Key.own d then some (w.heap.size, 0) else M k) k = some p := by
    intro k p hp
    by_cases hkd : k = .own d
    · subst hkd; rw [hM] at hp; cases hp
    · simp [hkd, hp]
  have hN : ∀ b, NS cx σ.s σ.z M w b → NS cx (setB σ.s (.own d) (.var cs)) σ.z (fun k => if k = Key.own d then some (w.heap.size, 0) else M k) (w.alloc (.cells vs e)) b := by
    rintro b ⟨h1, h2, h3⟩
    refine ⟨h1, by simp; omega, fun k c hk' hz => ?_⟩
    by_cases hkd : k = .own d
    · subst hkd; simp; omega
    · simp only [if_neg hkd]
      rw [getB_set, if_neg (Ne.symm hkd)] at hk'
      exact h3 k c hk' hz
  have hw : ∀ b, b < w.heap.size → (w.alloc (.cells vs e)).heap[b]? = w.heap[b]? := fun b hb => heap_alloc_old w _ b hb
  have up : ∀ v x, RR cx σ.s σ.z M w v x → RR cx (setB σ.s (.own d) (.var cs)) σ.z (fun k => if k = Key.own d then some (w.heap.size, 0) else M k) (w.alloc (.cells vs e)) v x :=
    fun v x hx => RR.up hN hMM (fun b hb => hw b hb.2.1) hx
  have live : ∀ k, (getB (setB σ.s (.own d) (.var cs)) k).isSome = true → k = .own d ∨ (getB σ.s k).isSome = true := by
    intro k hk'
    rw [getB_set] at hk'
    by_cases hkd : k = .own d
    · exact .inl hkd
    · rw [if_neg (Ne.symm hkd)] at hk'; exact .inr hk'
  exact { os := h.os, tape := h.tape, output := h.output, defers := h.defers, argz := h.argz
          size := by simp; have := h.size; omega
          frame := fun b hb hi => (hw b (by have := h.size; omega)).trans (h.frame b hb hi)
          plc := fun k hk' => by
            by_cases hkd : k = .own d
            · exact ⟨(w.heap.size, 0), by simp [hkd]⟩
            · obtain ⟨pl, hp⟩ := h.plc k ((live k hk').resolve_left hkd)
              exact ⟨pl, hMM k pl hp⟩
          box := fun k b pl hb hp => by
            simp only [getB_set] at hb
            by_cases hkd : k = .own d
            · subst hkd
              simp only [if_true, Option.some.injEq] at hb hp
              subst hb; subst hp
              exact ⟨vs, e, heap_alloc_new w _, hv.mono fun l v _ => up l v, h1⟩
            · rw [if_neg (Ne.symm hkd)] at hb
              simp only [if_neg hkd] at hp
              have hb' := h.box k b pl hb hp
              exact hb'.up up (hw _ hb'.lt)
          own := fun t pl ht hp => by
            by_cases hkd : Key.own t = .own d
            · simp only [if_pos hkd, Option.some.injEq] at hp; subst hp; exact h.size
            · simp only [if_neg hkd] at hp; exact h.own t pl ((live _ ht).resolve_left hkd) hp
          arg := fun i hi => h.arg i ((live _ hi).resolve_left (by simp))
          argM := fun i hi => by obtain ⟨c, hc⟩ := h.argM i hi; exact ⟨c, hMM _ _ hc⟩
          inj := fun k k' b c c' hk1 hk2 hp hp' => by
            by_cases hkd : k = .own d
            · by_cases hkd' : k' = .own d
              · rw [hkd, hkd']
              · simp only [if_pos hkd, if_neg hkd'] at hp hp'
                have := h.lt ((live k' hk2).resolve_left hkd') hp'
                simp at hp this; omega
            · by_cases hkd' : k' = .own d
              · simp only [if_neg hkd, if_pos hkd'] at hp hp'
                have := h.lt ((live k hk1).resolve_left hkd) hp
                simp at hp' this; omega
              · simp only [if_neg hkd, if_neg hkd'] at hp hp'
                exact h.inj k k' b c c' ((live k hk1).resolve_left hkd) ((live k' hk2).resolve_left hkd') hp hp'
          env := fun t => up _ _ (h.env t) }

/-! ### Handing on -/
theorem resL_cons {f : LV → Option (Bool × IV)} {a : LV} {r : List LV} {g : Bool} {vs : List IV} (h : resL f (a :: r) = some (g, vs)) :
    ∃ b v c us, f a = some (b, v) ∧ resL f r = some (c, us) ∧ g = (b && c) ∧ vs = v :: us := by
  simp only [resL] at h
  split at h
  · split at h
    · simp only [Option.some.injEq, Prod.mk.injEq] at h
      rename_i b v h1 _ c us h2
      exact ⟨b, v, c, us, h1, h2, h.1.symm, h.2.symm⟩
    · cases h
  · cases h
theorem resL_length {f : LV → Option (Bool × IV)} : ∀ {l : List LV} {g : Bool} {vs : List IV}, resL f l = some (g, vs) → vs.length = l.length
  | [], _, _, h => by simp only [resL, Option.some.injEq, Prod.mk.injEq] at h; rw [← h.2]; rfl
  | a :: r, g, vs, h => by
    obtain ⟨b, v, c, us, _, h2, _, rfl⟩ := resL_cons h
    simp [resL_length h2]
theorem resLL_cons {f : LV → Option (Bool × IV)} {a : List LV} {r : List (List LV)} {g : Bool} {vs : List (List IV)} (h : resLL f (a :: r) = some (g, vs)) :
    ∃ b v c us, resL f a = some (b, v) ∧ resLL f r = some (c, us) ∧ g = (b && c) ∧ vs = v :: us := by
  simp only [resLL] at h
  split at h
  · split at h
    · simp only [Option.some.injEq, Prod.mk.injEq] at h
      rename_i b v h1 _ c us h2
      exact ⟨b, v, c, us, h1, h2, h.1.symm, h.2.symm⟩
    · cases h
  · cases h

/-- What the whole says of each: lists. -/
theorem resL_reps {f : LV → Option (Bool × IV)} {R : LV → Value → Prop} {RI : Bool → IV → Value → Prop} (hm : ∀ b v x, RI true v x → RI b v x) : ∀ {l : List LV} {g : Bool} {vs : List IV} {xs : List Value},
    (∀ a ∈ l, ∀ b v x, f a = some (b, v) → R a x → RI b v x) → resL f l = some (g, vs) → Rows2 R l xs → ∀ j (h : j < vs.length) (h' : j < xs.length), RI g vs[j] xs[j]
  | [], g, vs, xs, hf, h, hr => by
    have := resL_length h
    intro j hj; simp at this; simp [this] at hj
  | a :: r, g, vs, xs, hf, h, hr => by
    obtain ⟨b, v, c, us, h1, h2, rfl, rfl⟩ := resL_cons h
    cases xs with
    | nil => have := hr.1; simp at this
    | cons x xs =>
      obtain ⟨hr1, hr2⟩ := hr.of_cons
      have ih := resL_reps hm (l := r) (fun a ha => hf a (List.mem_cons_of_mem _ ha)) h2 hr2
      have h0 := hf a (List.mem_cons_self) b v x h1 hr1
      intro j hj hj'
      have weak : ∀ (b c : Bool) v x, RI b v x → RI (b && c) v x := fun b c v x hx => by
        cases b
        · exact hx
        · cases c
          · exact hm _ v x hx
          · exact hx
      cases j with
      | zero => exact weak b c _ _ h0
      | succ j =>
        have := ih j (by simpa using hj) (by simpa using hj')
        rw [Bool.and_comm]
        exact weak c b _ _ this

theorem resLL_flat {f : LV → Option (Bool × IV)} : ∀ {l : List (List LV)} {g : Bool} {vs : List (List IV)}, resLL f l = some (g, vs) →
    resL f l.flatten = some (g, vs.flatten) ∧ vs.length = l.length ∧ ∀ i (h : i < vs.length) (h' : i < l.length), vs[i].length = l[i].length
  | [], g, vs, h => by simp only [resLL, Option.some.injEq, Prod.mk.injEq] at h; obtain ⟨rfl, rfl⟩ := h; exact ⟨rfl, rfl, fun i h => by simp at h⟩
  | a :: r, g, vs, h => by
    obtain ⟨b, v, c, us, h1, h2, rfl, rfl⟩ := resLL_cons h
    obtain ⟨h3, h4, h5⟩ := resLL_flat h2
    have app : ∀ (l l' : List LV) b c v us, resL f l = some (b, v) → resL f l' = some (c, us) → resL f (l ++ l') = some (b && c, v ++ us) := by
      intro l
      induction l with
      | nil => intro l' b c v us h h'; simp only [resL, Option.some.injEq, Prod.mk.injEq] at h; obtain ⟨rfl, rfl⟩ := h; simpa using h'
      | cons x l ih =>
        intro l' b c v us h h'
        obtain ⟨b1, v1, c1, us1, e1, e2, rfl, rfl⟩ := resL_cons h
        have := ih l' c1 c us1 us e2 h'
        simp only [List.cons_append, resL, e1, this, Bool.and_assoc]
    refine ⟨by simpa using app a r.flatten b c v us.flatten h1 h3, by simp [h4], fun i hi hi' => ?_⟩
    cases i with
    | zero => simpa using resL_length h1
    | succ i => simpa using h5 i (by simpa using hi) (by simpa using hi')

theorem flatten_at {α : Type} (sz : Nat) : ∀ (l : List (List α)), (∀ x ∈ l, x.length = sz) → ∀ i (h : i < l.length) j (h' : j < l[i].length), l.flatten[i * sz + j]? = some l[i][j]
  | [], _, i, h, _, _ => by simp at h
  | a :: r, hl, 0, h, j, h' => by
    simp only [List.flatten_cons, Nat.zero_mul, Nat.zero_add]
    simp only [List.getElem_cons_zero] at h'
    rw [List.getElem?_append_left h']; simp
  | a :: r, hl, i + 1, h, j, h' => by
    have ha := hl a (List.mem_cons_self)
    simp only [List.flatten_cons, List.getElem_cons_succ] at h' ⊢
    rw [List.getElem?_append_right (by rw [ha, Nat.add_mul]; omega)]
    have : (i + 1) * sz + j - a.length = i * sz + j := by rw [ha, Nat.add_mul]; omega
    rw [this]
    exact flatten_at sz r (fun x hx => hl x (List.mem_cons_of_mem _ hx)) i (by simpa using h) j h'
theorem flatten_len {α : Type} (sz : Nat) : ∀ (l : List (List α)), (∀ x ∈ l, x.length = sz) → l.flatten.length = l.length * sz
  | [], _ => by simp
  | a :: r, hl => by
    have ha := hl a (List.mem_cons_self)
    have := flatten_len sz r (fun x hx => hl x (List.mem_cons_of_mem _ hx))
    simp [this, ha, Nat.add_mul, Nat.add_comm]

theorem keysL_mem {f : LV → List Key} {k : Key} : ∀ {l : List LV} {a : LV}, a ∈ l → k ∈ f a → k ∈ keysL f l
  | b :: r, a, h, hk => by
    simp only [keysL, List.mem_append]
    rcases List.mem_cons.1 h with rfl | h
    · exact .inl hk
    · exact .inr (keysL_mem h hk)
theorem keysLL_mem {f : LV → List Key} {k : Key} : ∀ {l : List (List LV)} {a : LV}, a ∈ l.flatten → k ∈ f a → k ∈ keysLL f l
  | b :: r, a, h, hk => by
    simp only [keysLL, List.mem_append]
    simp only [List.flatten_cons, List.mem_append] at h
    rcases h with h | h
    · exact .inl (keysL_mem h hk)
    · exact .inr (keysLL_mem h hk)

/-- A value written out is told of the same. l: all the boxes that it goes through. -/
theorem res_sound {cx : Cx} {σ : St} {M : Pl} {a : Act} {w : World} (h : Inv cx σ M a w) (l : List Key) : ∀ (n : Nat) (lv : LV) (f : Bool) (v : IV) (x : Value),
    res σ.s n lv = some (f, v) → (∀ k ∈ keys σ.s n lv, k ∈ l) → RR cx σ.s σ.z M w lv x → RepI w (if f then NF cx σ.s (Lg.addZ l σ.z) M w else NS cx σ.s (Lg.addZ l σ.z) M w) v x := by
  have hmono : ∀ b v x, RepI w (if true = true then NF cx σ.s (Lg.addZ l σ.z) M w else NS cx σ.s (Lg.addZ l σ.z) M w) v x → RepI w (if b = true then NF cx σ.s (Lg.addZ l σ.z) M w else NS cx σ.s (Lg.addZ l σ.z) M w) v x := by
    intro b v x hx
    cases b
    · exact hx.mono (fun b hb => hb.1) (fun _ _ _ _ h => h)
    · exact hx
  intro n
  induction n with
  | zero => intro lv f v x h1; simp [res] at h1
  | succ n ih =>
    intro lv f v x h1 hk hx
    -- a box that is in l is nobody's any more
    have inN : ∀ k pl, k ∈ l → k.isOwn = true → (getB σ.s k).isSome = true → M k = some pl → NF cx σ.s (Lg.addZ l σ.z) M w pl.1 := by
      intro k pl hkl hko hks hkM
      have hge : cx.w.heap.size ≤ pl.1 := by
        cases k with
        | own t => exact h.own t pl hks hkM
        | arg i => simp [Key.isOwn] at hko
      obtain ⟨bx, hbx⟩ := Option.isSome_iff_exists.1 hks
      refine ⟨⟨.inr hge, h.lt hks hkM, fun k' c hk' hz hM' => ?_⟩, hge, (h.box k bx pl hbx hkM).free⟩
      have : k = k' := h.inj k k' pl.1 pl.2 c hks hk' hkM hM'
      subst this
      exact hz ((mem_addZ _ _ _).2 (.inl hkl))
    cases lv with
    | undef => simp [res] at h1
    | fn g caps => simp [res] at h1
    | unitI t => simp [res] at h1
    | imm g u =>
      simp only [res, Option.some.injEq, Prod.mk.injEq] at h1
      obtain ⟨rfl, rfl⟩ := h1
      have := RepL.imm_iff.1 hx
      cases hp : u.plain
      · cases g
        · exact this.mono (fun b hb => hb.addZ l) (fun _ _ _ _ h => h)
        · exact this.mono (fun b hb => ⟨hb.1.addZ l, hb.2⟩) (fun _ _ _ _ h => h)
      · exact this.plain hp
    | nils =>
      simp only [res, Option.some.injEq, Prod.mk.injEq] at h1
      obtain ⟨rfl, rfl⟩ := h1
      cases hx
      exact .slice0 _ _
    | agg cells =>
      simp only [res] at h1
      split at h1
      · rename_i g vs hg
        simp only [Option.some.injEq, Prod.mk.injEq] at h1
        obtain ⟨rfl, rfl⟩ := h1
        cases hx with
        | agg cells xs hl h1c hr =>
          refine .agg _ _ (by rw [hl, resL_length hg]) h1c fun j hj hj' => ?_
          exact resL_reps (RI := fun b v x => RepI w (if b = true then NF cx σ.s (Lg.addZ l σ.z) M w else NS cx σ.s (Lg.addZ l σ.z) M w) v x) hmono
            (fun a ha b v x hf hR => ih a b v x hf (fun k hk' => hk k (by simp only [keys]; exact keysL_mem ha hk')) hR) hg ⟨hl, fun j h1 h2 => hr j h1 h2⟩ j hj hj'
      · cases h1
    | tup cells =>
      simp only [res] at h1
      split at h1
      · rename_i g vs hg
        simp only [Option.some.injEq, Prod.mk.injEq] at h1
        obtain ⟨rfl, rfl⟩ := h1
        cases hx with
        | tup cells xs hl hr =>
          refine .tup _ _ (by rw [hl, resL_length hg]) fun j hj hj' => ?_
          exact resL_reps (RI := fun b v x => RepI w (if b = true then NF cx σ.s (Lg.addZ l σ.z) M w else NS cx σ.s (Lg.addZ l σ.z) M w) v x) hmono
            (fun a ha b v x hf hR => ih a b v x hf (fun k hk' => hk k (by simp only [keys]; exact keysL_mem ha hk')) hR) hg ⟨hl, fun j h1 h2 => hr j h1 h2⟩ j hj hj'
      · cases h1
    | loc k off =>
      simp only [res] at h1
      split at h1
      · rename_i cells hb
        split at h1
        · rename_i g vs hg
          split at h1
          · rename_i hko
            simp only [Option.some.injEq, Prod.mk.injEq] at h1
            obtain ⟨rfl, rfl⟩ := h1
            cases hx with
            | loc k off b c hM =>
              have hkl : k ∈ l := hk k (by simp [keys, hb])
              obtain ⟨xs, e, hh, hr, h1c⟩ := h.box k _ _ hb hM
              have hN := inN k _ hkl hko (by simp [hb]) hM
              have hlen := resL_length hg
              have hsz : xs.size = vs.length := by have := hr.1; simp at this; omega
              refine RepI.ptr vs off b 0 (fun j => xs.getD j undef) ?_ (fun j hj => ?_) (fun j hj => ?_) (fun j hj => ?_) |> fun t => by simpa using t
              · cases g
                · exact hN.1
                · exact hN
              · have hj' : j < xs.size := by omega
                simp [World.cell?, hh, hj']
              · have hj' : j < xs.size := by omega
                simp only [Array.getD, hj', dite_true]
                exact h1c _ (by simp)
              · have hj' : j < xs.size := by omega
                have := resL_reps (RI := fun b v x => RepI w (if b = true then NF cx σ.s (Lg.addZ l σ.z) M w else NS cx σ.s (Lg.addZ l σ.z) M w) v x) hmono
                  (fun a ha b v x hf hR => ih a b v x hf (fun k' hk' => hk k' (by simp only [keys, hb]; exact List.mem_cons_of_mem _ (keysL_mem ha hk'))) hR) hg hr j hj (by simpa using hj')
                simpa [Array.getD, hj'] using this
          · cases h1
        · cases h1
      · cases h1
    | row k m =>
      simp only [res] at h1
      split at h1
      · rename_i e sz elems hb
        split at h1
        · rename_i hlen0
          split at h1
          · rename_i g vs hg
            split at h1
            · rename_i hko
              simp only [Option.some.injEq, Prod.mk.injEq] at h1
              obtain ⟨rfl, rfl⟩ := h1
              cases hx with
              | row k m b c hM =>
                have hkl : k ∈ l := hk k (by simp [keys, hb])
                obtain ⟨xs, hown, hr, hsz, h1c⟩ := h.box k _ _ hb hM
                have hN := inN k _ hkl hko (by simp [hb]) hM
                obtain ⟨hflat, hlen, heach⟩ := resLL_flat hg
                have hsz' : ∀ x ∈ vs, x.length = sz := by
                  intro x hx
                  obtain ⟨i, hi, rfl⟩ := List.getElem_of_mem hx
                  rw [heach i hi (by omega)]
                  exact hsz _ (List.getElem_mem _)
                have hfl := flatten_len sz vs hsz'
                have hxl : xs.length = vs.length * sz := by rw [hown.1, hlen]
                have hcell := hown.cells (g := b) rfl
                obtain ⟨hcap, hmax⟩ : elems.length ≤ c ∧ c ≤ maxLen := by
                  rcases hown.2 with ⟨h2, _⟩ | ⟨g', cap, cur, hv, _, _, h3, h4, _⟩
                  · cases h2
                  · injection hv with _ _ h5; subst h5; exact ⟨h3, h4⟩
                rw [← hlen0, ← hlen]
                refine RepI.slice vs b 0 sz c (fun j => xs.getD j undef) ?_ (fun i hi => hsz' _ (List.getElem_mem _)) (by simp only [maxLen] at hmax; omega) (by omega) (fun j hj => ?_) (fun j hj => ?_) (fun i hi j hj => ?_)
                · cases g
                  · exact hN.1
                  · exact hN
                · have hj' : j < xs.length := by omega
                  have := hcell j xs[j] (by simp)
                  have hadd : (⟨b, 0, none⟩ : Addr).add j = ⟨b, 0 + j, none⟩ := by unfold Addr.add; split <;> simp_all
                  rw [hadd] at this
                  rw [this]; simp [List.getD_eq_getElem?_getD, hj']
                · have hj' : j < xs.length := by omega
                  simp only [List.getD_eq_getElem?_getD, List.getElem?_eq_getElem hj', Option.getD_some]
                  exact h1c _ (List.getElem_mem _)
                · have h3 := flatten_at sz vs hsz' i hi j hj
                  obtain ⟨hlt, he⟩ := List.getElem?_eq_some_iff.1 h3
                  have hj' : i * sz + j < xs.length := by omega
                  have := resL_reps (RI := fun b v x => RepI w (if b = true then NF cx σ.s (Lg.addZ l σ.z) M w else NS cx σ.s (Lg.addZ l σ.z) M w) v x) hmono
                    (fun a ha b v x hf hR => ih a b v x hf (fun k' hk' => hk k' (by simp only [keys, hb]; exact List.mem_cons_of_mem _ (keysLL_mem ha hk'))) hR) hflat hr (i * sz + j) hlt hj'
                  simpa [he, List.getD_eq_getElem?_getD, hj'] using this
            · cases h1
          · cases h1
        · cases h1
      · cases h1

end Go.Proofs.Ytopgmopdjiahmaa.Lg

/- The operations of the machine, and that the abstract ones tell of them. Conditions: none; plain definitions and lemmas. -/
set_option linter.unusedVariables false
set_option linter.unusedSimpArgs false
namespace Go.Proofs.Ytopgmopdjiahmaa.Lg
open Go Go.RowKit

/-! ### From the machine's operations to the abstract ones -/
def trV : Value → Option LV
  | .int k n => some (.imm true (.int k n))
  | .bool b => some (.imm true (.bool b))
  | .string s => some (.imm true (.str s))
  | .slice none 0 0 => some .nils
  | .pointer none => some (.imm true .nilp)
  | .nilFunc => some .undef
  | _ => none
def trVs : List Value → Option (List LV)
  | [] => some []
  | v :: r => match trV v, trVs r with
    | some l, some ls => some (l :: ls)
    | _, _ => none
def trX : Operand → Option Opd
  | .tmp t => some (.t t)
  | .const v => (trV v).map .c
  | .func f => some (.c (.fn f []))
  | .global _ => none
def trXs : List Operand → Option (List Opd)
  | [] => some []
  | x :: r => match trX x, trXs r with
    | some l, some ls => some (l :: ls)
    | _, _ => none
def nOf (P : Program) (t : TypeId) : Option (Option Nat) :=
  match P.underlying t with
  | some (.struct _) => (P.info? t).map fun i => some i.size
  | some (.array _ _) => (P.info? t).map fun i => some i.size
  | some _ => some none
  | none => none
def szOf (P : Program) (t : TypeId) : Option Nat := (P.info? t).map (·.size)
def zeroOf (P : Program) (t : TypeId) : Option (List LV) := match P.info? t with
  | some i => match i.zero with
    | some z => trVs z.cells.toList
    | none => none
  | none => none

structure Hints where
  cst : List Nat
  bor : List (Nat × List Key)

def places (P : Program) : List Field → Option (List (Nat × Nat))
  | [] => some []
  | f :: r => match P.info? f.type, places P r with
    | some i, some l => some ((f.offset, i.size) :: l)
    | _, _ => none
def trParts (pl : Nat → Option (Nat × Nat)) : List (Nat × Operand) → Option (List (Nat × Nat × Opd))
  | [] => some []
  | (i, x) :: r => match pl i, trX x, trParts pl r with
    | some (o, n), some x, some l => some ((o, n, x) :: l)
    | _, _, _ => none
def trLit : Nat → List (Nat × Operand) → Option (List Opd)
  | _, [] => some []
  | k, (i, x) :: r => if i = k then match trX x, trLit (k + 1) r with
    | some x, some l => some (x :: l)
    | _, _ => none else none
def findB : List (Nat × List Key) → Nat → Option (List Key)
  | [], _ => none
  | (d, l) :: r, n => if d = n then some l else findB r n

def trCall (P : Program) (h : Hints) (c : Call) (dst : Option Nat) : Option MO :=
  match c.callee with
  | .builtin .len => match c.args.toList, c.argTypes.toList, dst with
    | [x], [t], some d => match P.underlying t with
      | some (.slice _) => (trX x).map (.len d)
      | some .string => (trX x).map (.slen d)
      | _ => none
    | _, _, _ => none
  | .builtin .append => match c.args.toList, c.argTypes.toList, dst with
    | [x, y], [t, t'], some d => if t = t' then match P.underlying t with
      | some (.slice e) => match P.info? e with
        | some i => match i.zero, trX x, trX y with
          | some z, some x, some y => if z.cells.size = i.size then some (.append d x y e i.size i.bytes) else none
          | _, _, _ => none
        | none => none
      | _ => none else none
    | _, _, _ => none
  | .builtin .max => match trXs c.args.toList, dst with
    | some xs, some d => some (.mx d xs)
    | _, _ => none
  | .builtin .min => match trXs c.args.toList, dst with
    | some xs, some d => some (.mn d xs)
    | _, _ => none
  | .value f => match trX f, trXs c.args.toList with
    | some f, some xs => match findB h.bor (dst.getD 0) with
      | some ρ => some (.callB dst f xs ρ)
      | none => some (.call dst f xs)
    | _, _ => none
  | _ => none

def trOp (P : Program) (h : Hints) (o : Oper) : Option MO :=
  match o.op, o.dst with
  | .move x, some d => (trX x).map (.mv d)
  | .assign x, some d => (trX x).map (.mv d)
  | .pick c a b, some d => match trX c, trX a, trX b with
    | some c, some a, some b => some (.pick d c a b)
    | _, _, _ => none
  | .alloc e, some d => (zeroOf P e).map (.alloc d)
  | .box _ x, some d => (trX x).map fun x => if d ∈ h.cst then .boxc d x else .box d x
  | .build t ps, some d => match P.info? t, P.underlying t with
    | some it, some (.struct fs) => match it.zero, places P fs.toList with
      | some z, some pl => match trVs z.cells.toList, trParts (pl[·]?) ps.toList with
        | some zs, some ps => some (.build d zs ps)
        | _, _ => none
      | _, _ => none
    | some it, some (.array _ e) => match it.zero, P.info? e with
      | some z, some ie => match trVs z.cells.toList, trParts (fun i => some (i * ie.size, ie.size)) ps.toList with
        | some zs, some ps => some (.build d zs ps)
        | _, _ => none
      | _, _ => none
    | _, _ => none
  | .buildSlice t n ps, some d => match P.underlying t with
    | some (.slice e) => match P.info? e with
      | some i => match i.zero, trLit 0 ps.toList with
        | some z, some xs => if xs.length = n ∧ 0 < n ∧ 0 < i.size ∧ n * i.size ≤ 16777216 then some (.lit d i.size xs) else none
        | _, _ => none
      | none => none
    | _ => none
  | .load t x, some d => match nOf P t, trX x with
    | some n, some x => some (.load d x n)
    | _, _ => none
  | .store t x y, none => match szOf P t, trX x, trX y with
    | some n, some x, some y => some (.store x y n)
    | _, _, _ => none
  | .nilCheck x, some d => (trX x).map (.nilc d)
  | .fieldAddr s x f, some d => match P.underlying s with
    | some (.struct fs) => match fs[f]? with
      | some fl => match szOf P fl.type, trX x with
        | some n, some x => if n = 0 then none else some (.fad d x fl.offset)
        | _, _ => none
      | none => none
    | _ => none
  | .field s x f, some d => match P.underlying s with
    | some (.struct fs) => match fs[f]? with
      | some fl => match nOf P fl.type, trX x with
        | some n, some x => some (.fld d x fl.offset n)
        | _, _ => none
      | none => none
    | _ => none
  | .indexAddr t x i, some d => match P.underlying t with
    | some (.slice e) => match szOf P e, trX x, trX i with
      | some n, some x, some i => some (.iad d x i n)
      | _, _, _ => none
    | some (.array len e) => match szOf P e, trX x, trX i with
      | some n, some x, some i => some (.aad d x i len n)
      | _, _, _ => none
    | _ => none
  | .index t x i, some d => match P.underlying t with
    | some (.array len e) => match szOf P e, nOf P e, trX x, trX i with
      | some sz, some n, some x, some i => some (.idx d x i len sz n)
      | _, _, _, _ => none
    | _ => none
  | .extract x i, some d => (trX x).map fun x => .ext d x i
  | .binOp op t x y _, some d => match trX x, trX y with
    | some x, some y => match op, P.underlying t with
      | .eql, some .bool => some (.binb d false x y)
      | .neq, some .bool => some (.binb d true x y)
      | _, _ => some (.bin d op x y)
    | _, _ => none
  | .unOp op _ x, some d => (trX x).map (.un d op)
  | .convert s t x, some d => match P.underlying s, P.underlying t with
    | some (.int _), some (.int k) => (trX x).map (.conv d k)
    | _, _ => none
  | .makeFunc (.func f) fs caps, some d => if fs.size = 0 then (trXs caps.toList).map (.mkfn d f) else none
  | .makeSlice t (.tmp l) (.tmp c), some d => if l = c then match P.underlying t with
    | some (.slice e) => match P.info? e with
      | some i => match i.zero with
        | some z => match trVs z.cells.toList with
          | some zs => if z.cells.size = i.size ∧ i.bytes ≤ 1000 then some (.mksl d (.t l) zs) else none
          | none => none
        | none => none
      | none => none
    | _ => none else none
  | .makeSlice t (.const (.int _ l)) (.tmp c), some d => if l = 0 then match P.underlying t with
    | some (.slice e) => match P.info? e with
      | some i => match i.zero with
        | some _ => some (.mkrow d (.t c) e i.size i.bytes)
        | none => none
      | none => none
    | _ => none else none
  | .slice t x lo hi none, some d => match P.underlying t, trX x with
    | some (.slice e), some x => match szOf P e with
      | some n => match lo, hi with
        | none, none => some (.cut d x none none n)
        | some l, none => (trX l).map fun l => .cut d x (some l) none n
        | none, some h => (trX h).map fun h => .cut d x none (some h) n
        | some l, some h => match trX l, trX h with
          | some l, some h => some (.cut d x (some l) (some h) n)
          | _, _ => none
      | none => none
    | _, _ => none
  | .makeInterface t x, some d => match P.underlying t with
    | some (.struct fs) => if fs.size = 0 then (trX x).map (.mkif d t) else none
    | _ => none
  | .panic x, _ => (trX x).map .pan
  | .call c, dst => trCall P h c dst
  | _, _ => none

/-! ### Constants, operands -/
theorem trV_rep {w : World} {N Nf : Nat → Prop} {M : Pl} {v : Value} {l : LV} (h : trV v = some l) : RepL w N Nf M l v := by
  unfold trV at h
  split at h <;> first | (simp only [Option.some.injEq] at h; subst h) | cases h
  · exact .fresh _ _ (.int _ _)
  · exact .fresh _ _ (.bool _)
  · exact .fresh _ _ (.str _)
  · exact .nils
  · exact .fresh _ _ .nilp
  · exact .undef _
theorem trV_one {v : Value} {l : LV} (h : trV v = some l) : v.oneCell' = true := by
  unfold trV at h
  split at h <;> first | rfl | cases h
theorem trVs_rep {w : World} {N Nf : Nat → Prop} {M : Pl} : ∀ {vs : List Value} {ls : List LV}, trVs vs = some ls → Rows2 (RepL w N Nf M) ls vs ∧ ∀ v ∈ vs, v.oneCell' = true
  | [], ls, h => by simp only [trVs, Option.some.injEq] at h; subst h; exact ⟨Rows2.nil, by simp⟩
  | v :: r, ls, h => by
    simp only [trVs] at h
    split at h
    · rename_i l ls' h1 h2
      simp only [Option.some.injEq] at h; subst h
      obtain ⟨h3, h4⟩ := trVs_rep (w := w) (N := N) (Nf := Nf) (M := M) h2
      exact ⟨Rows2.cons (trV_rep h1) h3, fun u hu => by
        rcases List.mem_cons.1 hu with rfl | hu
        · exact trV_one h1
        · exact h4 u hu⟩
    · cases h

section
variable {P : Program} {cx : Cx} {σ : St} {M : Pl} {a : Act} {w : World}

theorem trX_rep (h : Inv cx σ M a w) {x : Operand} {y : Opd} (hx : trX x = some y) : RR cx σ.s σ.z M w (σ.ev y) (a.eval x) := by
  cases x with
  | tmp t => simp only [trX, Option.some.injEq] at hx; subst hx; exact h.env t
  | const v =>
    simp only [trX, Option.map_eq_some_iff] at hx
    obtain ⟨l, hl, rfl⟩ := hx
    exact trV_rep hl
  | func f => simp only [trX, Option.some.injEq] at hx; subst hx; exact .fn f [] [] rfl fun j hj => by simp at hj
  | «global» g => simp [trX] at hx
theorem trXs_rep (h : Inv cx σ M a w) : ∀ {xs : List Operand} {ys : List Opd}, trXs xs = some ys → Rows2 (RR cx σ.s σ.z M w) (ys.map σ.ev) (xs.map a.eval)
  | [], ys, hx => by simp only [trXs, Option.some.injEq] at hx; subst hx; exact Rows2.nil
  | x :: r, ys, hx => by
    simp only [trXs] at hx
    split at hx
    · rename_i l ls h1 h2
      simp only [Option.some.injEq] at hx; subst hx
      exact Rows2.cons (trX_rep h h1) (trXs_rep h h2)
    · cases hx

/-! ### Loads -/
theorem run_loadVar_some {t : TypeId} {n : Nat} (hn : nOf P t = some (some n)) (ad : Addr) (vs : List Value) (hl : vs.length = n) (hc : ∀ j v, vs[j]? = some v → w.cell? (ad.add j) = some v) :
    (loadVar t ad).run P w = .ok (.agg vs.toArray) w := by
  have hs : ∃ d, P.underlying t = some d ∧ (isAgg t).run P w = .ok true w ∧ (Go.sizeOf t).run P w = .ok n w := by
    unfold nOf at hn
    cases hu : P.underlying t with
    | none => simp [hu] at hn
    | some d =>
      cases hi : P.info? t with
      | none => cases d <;> simp [hu, hi] at hn
      | some i => cases d <;> simp [hu, hi] at hn <;> (subst hn; exact ⟨_, rfl, by simp [isAgg, run_underlying hu], by simp [Go.sizeOf, typeInfo, hi]⟩)
  obtain ⟨d, hu, h1, h2⟩ := hs
  have h3 := run_loadCells_list (P := P) w ad vs hc
  rw [hl] at h3
  simp [loadVar, h1, h2, h3]
theorem run_loadVar_none {t : TypeId} (hn : nOf P t = some none) (ad : Addr) (v : Value) (hc : w.cell? ad = some v) : (loadVar t ad).run P w = .ok v w := by
  have hs : (isAgg t).run P w = .ok false w := by
    unfold nOf at hn
    cases hu : P.underlying t with
    | none => simp [hu] at hn
    | some d =>
      cases d <;> first | (simp [isAgg, run_underlying hu]; done) | (cases hi : P.info? t <;> simp [hu, hi] at hn)
  simp [loadVar, hs, hc]
theorem run_part_some {t : TypeId} {n : Nat} (hn : nOf P t = some (some n)) (cs : Array Value) (off : Nat) :
    (part t cs off).run P w = .ok (.agg (cs.extract off (off + n))) w := by
  have hs : ∃ d, P.underlying t = some d ∧ (isAgg t).run P w = .ok true w ∧ (Go.sizeOf t).run P w = .ok n w := by
    unfold nOf at hn
    cases hu : P.underlying t with
    | none => simp [hu] at hn
    | some d =>
      cases hi : P.info? t with
      | none => cases d <;> simp [hu, hi] at hn
      | some i => cases d <;> simp [hu, hi] at hn <;> (subst hn; exact ⟨_, rfl, by simp [isAgg, run_underlying hu], by simp [Go.sizeOf, typeInfo, hi]⟩)
  obtain ⟨d, hu, h1, h2⟩ := hs
  simp [part, h1, h2]
theorem run_part_none {t : TypeId} (hn : nOf P t = some none) (cs : Array Value) (off : Nat) (v : Value) (hc : cs[off]? = some v) : (part t cs off).run P w = .ok v w := by
  have hs : (isAgg t).run P w = .ok false w := by
    unfold nOf at hn
    cases hu : P.underlying t with
    | none => simp [hu] at hn
    | some d =>
      cases d <;> first | (simp [isAgg, run_underlying hu]; done) | (cases hi : P.info? t <;> simp [hu, hi] at hn)
  simp [part, hs, hc]

theorem add_flat (b o j : Nat) : (⟨b, o, none⟩ : Addr).add j = ⟨b, o + j, none⟩ := by unfold Addr.add; split <;> simp_all

/-- A part of a row of cells that lies in memory. -/
theorem load_sound {R : LV → Value → Prop} (hagg : ∀ cs vs, Rows2 R cs vs → (∀ v ∈ vs, v.oneCell' = true) → R (.agg cs) (.agg vs.toArray)) {t : TypeId} {n : Option Nat} (hn : nOf P t = some n) {b o : Nat} {cs : List LV} {vs : List Value} (hr : Rows2 R cs vs) (h1 : ∀ v ∈ vs, v.oneCell' = true)
    (hc : ∀ j v, vs[j]? = some v → w.cell? ⟨b, o + j, none⟩ = some v) {off : Nat} {lv : LV} (hp : partOf cs off n = some lv) :
    ∃ v, (loadVar t ⟨b, o + off, none⟩).run P w = .ok v w ∧ R lv v := by
  cases n with
  | none =>
    simp only [partOf] at hp
    obtain ⟨v, hv, hR⟩ := hr.getD hp
    exact ⟨v, run_loadVar_none hn _ v (hc off v hv), hR⟩
  | some n =>
    simp only [partOf] at hp
    split at hp
    · rename_i hle
      simp only [Option.some.injEq] at hp; subst hp
      have hlen := hr.1
      refine ⟨_, run_loadVar_some hn _ ((vs.drop off).take n) (by simp; omega) (fun j v hv => ?_), hagg _ _ ((hr.drop off).take n) (fun v hv => h1 v (List.mem_of_mem_drop (List.mem_of_mem_take hv)))⟩
      rw [add_flat, Nat.add_assoc]
      refine hc (off + j) v ?_
      rw [List.getElem?_take] at hv
      split at hv
      · simpa using hv
      · cases hv
    · cases hp
theorem part_sound {R : LV → Value → Prop} (hagg : ∀ cs vs, Rows2 R cs vs → (∀ v ∈ vs, v.oneCell' = true) → R (.agg cs) (.agg vs.toArray)) {t : TypeId} {n : Option Nat} (hn : nOf P t = some n) {cs : List LV} {vs : Array Value} (hr : Rows2 R cs vs.toList) (h1 : ∀ v ∈ vs.toList, v.oneCell' = true)
    {off : Nat} {lv : LV} (hp : partOf cs off n = some lv) :
    ∃ v, (part t vs off).run P w = .ok v w ∧ R lv v := by
  cases n with
  | none =>
    simp only [partOf] at hp
    obtain ⟨v, hv, hR⟩ := hr.getD hp
    exact ⟨v, run_part_none hn _ _ v (by simpa using hv), hR⟩
  | some n =>
    simp only [partOf] at hp
    split at hp
    · rename_i hle
      simp only [Option.some.injEq] at hp; subst hp
      refine ⟨_, run_part_some hn _ _, ?_⟩
      have := hagg _ _ ((hr.drop off).take n) (fun v hv => h1 v (List.mem_of_mem_drop (List.mem_of_mem_take hv)))
      have he : vs.extract off (off + n) = ((vs.toList.drop off).take n).toArray := by
        apply Array.toList_inj.1
        simp [Array.toList_extract]
      rw [he]; exact this
    · cases hp

theorem RR.agg {cx : Cx} {s : List (Key × Box)} {z : List Key} {M : Pl} {w : World} (cs : List LV) (vs : List Value) (h : Rows2 (RR cx s z M w) cs vs) (h1 : ∀ v ∈ vs, v.oneCell' = true) : RR cx s z M w (.agg cs) (.agg vs.toArray) :=
  RepL.agg cs vs h.1 h1 h.2

/-! ### A new block that nobody will change -/
theorem NS.grow {o : Obj} {b : Nat} (h : NS cx σ.s σ.z M w b) : NS cx σ.s σ.z M (w.alloc o) b := ⟨h.1, by simp; have := h.2.1; omega, h.2.2⟩
theorem Inv.grow (h : Inv cx σ M a w) (o : Obj) : Inv cx σ M a (w.alloc o) := by
  have up : ∀ v x, RR cx σ.s σ.z M w v x → RR cx σ.s σ.z M (w.alloc o) v x := fun v x hx => RR.up (fun b hb => hb.grow) (fun _ _ h => h) (fun b hb => heap_alloc_old w _ b hb.2.1) hx
  exact { os := h.os, tape := h.tape, output := h.output, plc := h.plc, own := h.own, arg := h.arg, argM := h.argM, inj := h.inj, defers := h.defers, argz := h.argz
          size := by simp; have := h.size; omega
          frame := fun b hb hi => (heap_alloc_old w _ b (by have := h.size; omega)).trans (h.frame b hb hi)
          box := fun k b pl hk hM => (h.box k b pl hk hM).up up (heap_alloc_old w _ _ (h.box k b pl hk hM).lt)
          env := fun t => up _ _ (h.env t) }
theorem NS.last (h : Inv cx σ M a w) (vs : Array Value) (e : TypeId) : NF cx σ.s σ.z M (w.alloc (.cells vs e)) w.heap.size :=
  ⟨⟨.inr h.size, by simp, fun k c hk _ hM => by have := h.lt hk hM; simp at this⟩, h.size, fun o => free_of (heap_alloc_new w _) o⟩

theorem Inv.drew (h : Inv cx σ M a w) : Inv cx σ M a w.drew := by
  have up : ∀ v x, RR cx σ.s σ.z M w v x → RR cx σ.s σ.z M w.drew v x := fun v x hx => RR.up (w := w) (s := σ.s) (z := σ.z) (M := M) (s' := σ.s) (z' := σ.z) (M' := M) (w' := w.drew) (fun b hb => ⟨hb.1, hb.2.1, hb.2.2⟩) (fun _ _ h => h) (fun b hb => rfl) hx
  exact { os := h.os, tape := h.tape, output := h.output, plc := h.plc, own := h.own, arg := h.arg, argM := h.argM, inj := h.inj, defers := h.defers, argz := h.argz
          size := h.size, frame := h.frame
          box := fun k b pl hk hM => (h.box k b pl hk hM).up up rfl
          env := fun t => up _ _ (h.env t) }

theorem resL_reps' (h : Inv cx σ M a w) {cs : List LV} {vs : List Value} {f : Bool} {ivs : List IV} {l : List Key} (hr : Rows2 (RR cx σ.s σ.z M w) cs vs) (hres : resL (res σ.s depth0) cs = some (f, ivs)) (hl : ∀ k ∈ keysL (keys σ.s depth0) cs, k ∈ l) :
    ivs.length = vs.length ∧ ∀ j (h1 : j < ivs.length) (h2 : j < vs.length), RepI w (if f then NF cx σ.s (addZ l σ.z) M w else NS cx σ.s (addZ l σ.z) M w) ivs[j] vs[j] := by
  refine ⟨by rw [resL_length hres, hr.1], fun j h1 h2 => ?_⟩
  exact resL_reps (RI := fun b v x => RepI w (if b = true then NF cx σ.s (addZ l σ.z) M w else NS cx σ.s (addZ l σ.z) M w) v x) (fun b v x hx => by
      cases b
      · exact hx.mono (fun b hb => hb.1) (fun _ _ _ _ h => h)
      · exact hx) (fun a ha b v x hf hR => res_sound h l depth0 a b v x hf (fun k hk' => hl k (keysL_mem ha hk')) hR) hres hr j h1 h2

theorem keys_own (h : Inv cx σ M a w) : ∀ (n : Nat) (lv : LV) (p : Bool × IV), res σ.s n lv = some p → ∀ k ∈ keys σ.s n lv, k.isOwn = true := by
  intro n
  induction n with
  | zero => intro lv p hp; simp [res] at hp
  | succ n ih =>
    have ihL : ∀ (l : List LV) (p : Bool × List IV), resL (res σ.s n) l = some p → ∀ k ∈ keysL (keys σ.s n) l, k.isOwn = true := by
      intro l
      induction l with
      | nil => intro p _ k hk; simp [keysL] at hk
      | cons x l ihl =>
        intro p hp k hk
        obtain ⟨b, v, c, us, h1, h2, _, _⟩ := resL_cons (g := p.1) (vs := p.2) hp
        simp only [keysL, List.mem_append] at hk
        rcases hk with hk | hk
        · exact ih x _ h1 k hk
        · exact ihl _ h2 k hk
    have ihLL : ∀ (l : List (List LV)) (p : Bool × List (List IV)), resLL (res σ.s n) l = some p → ∀ k ∈ keysLL (keys σ.s n) l, k.isOwn = true := by
      intro l
      induction l with
      | nil => intro p _ k hk; simp [keysLL] at hk
      | cons x l ihl =>
        intro p hp k hk
        obtain ⟨b, v, c, us, h1, h2, _, _⟩ := resLL_cons (g := p.1) (vs := p.2) hp
        simp only [keysLL, List.mem_append] at hk
        rcases hk with hk | hk
        · exact ihL x _ h1 k hk
        · exact ihl _ h2 k hk
    intro lv p hp k hk
    cases lv with
    | undef => simp [res] at hp
    | fn g caps => simp [res] at hp
    | unitI t => simp [res] at hp
    | imm g u => simp [keys] at hk
    | nils => simp [keys] at hk
    | agg cells =>
      simp only [res] at hp
      split at hp
      · rename_i g vs hg; exact ihL _ _ hg k (by simpa [keys] using hk)
      · cases hp
    | tup cells =>
      simp only [res] at hp
      split at hp
      · rename_i g vs hg; exact ihL _ _ hg k (by simpa [keys] using hk)
      · cases hp
    | loc k' off =>
      simp only [res] at hp
      split at hp
      · rename_i cells hb
        split at hp
        · rename_i g vs hg
          split at hp
          · rename_i hko
            simp only [keys, hb, List.mem_cons] at hk
            rcases hk with rfl | hk
            · exact hko
            · exact ihL _ _ hg k hk
          · cases hp
        · cases hp
      · cases hp
    | row k' m =>
      simp only [res] at hp
      split at hp
      · rename_i e sz elems hb
        split at hp
        · split at hp
          · rename_i g vs hg
            split at hp
            · rename_i hko
              simp only [keys, hb, List.mem_cons] at hk
              rcases hk with rfl | hk
              · exact hko
              · exact ihLL _ _ hg k hk
            · cases hp
          · cases hp
        · cases hp
      · cases hp
theorem keysL_own (h : Inv cx σ M a w) (n : Nat) : ∀ (l : List LV) (p : Bool × List IV), resL (res σ.s n) l = some p → ∀ k ∈ keysL (keys σ.s n) l, k.isOwn = true := by
  intro l
  induction l with
  | nil => intro p _ k hk; simp [keysL] at hk
  | cons x l ihl =>
    intro p hp k hk
    obtain ⟨b, v, c, us, h1, h2, _, _⟩ := resL_cons (g := p.1) (vs := p.2) hp
    simp only [keysL, List.mem_append] at hk
    rcases hk with hk | hk
    · exact keys_own h n x _ h1 k hk
    · exact ihl _ h2 k hk
end
end Go.Proofs.Ytopgmopdjiahmaa.Lg

/- Each operation, one by one: the machine's own does what the abstract one tells. Conditions: none; plain lemmas. -/
set_option linter.unusedVariables false
set_option linter.unusedSimpArgs false
namespace Go.Proofs.Ytopgmopdjiahmaa.Lg
open Go Go.RowKit

def valOf : Next → Value
  | .value v => v
  | _ => undef

def OpGoes (P : Program) (cx : Cx) (o : Oper) (a : Act) (w : World) (M : Pl) (σ' : St) : Prop :=
  ∃ r w' M', (execOp a.eval o).run P w = .ok r w' ∧ (r = .skip ∨ ∃ v, r = .value v) ∧ Inv cx σ' M' (a.put o.dst (valOf r)) w' ∧ (∀ k, M k = none → (∀ d, o.dst = some d → k ≠ .own d) → M' k = none)

section
variable {P : Program} {cx : Cx} {σ : St} {M : Pl} {a : Act} {w : World} {o : Oper} {d : Nat}

theorem goes_val (h : Inv cx σ M a w) (ho : o.dst = some d) (hd : d < a.tmps.size) {lv : LV} {v : Value} (hrun : (execOp a.eval o).run P w = .ok (.value v) w) (hv : RR cx σ.s σ.z M w lv v) :
    OpGoes P cx o a w M { σ with e := putE σ.e d lv } :=
  ⟨.value v, w, M, hrun, .inr ⟨v, rfl⟩, by rw [ho]; exact h.val hd hv, fun k hk _ => hk⟩

theorem val_eff {E : Eff} {d : Nat} {lv : LV} (h : val d lv = some E) : E = { d := some (d, lv), u := [], z := [], r := [] } := by
  simp only [val, Option.some.injEq] at h; exact h.symm
theorem goes_mv (h : Inv cx σ M a w) (ho : o.dst = some d) (hd : d < a.tmps.size) {x : Operand} {y : Opd} (hop : o.op = .move x ∨ o.op = .assign x) (hx : trX x = some y) {E : Eff} (ha : aop σ (.mv d y) = some E) :
    OpGoes P cx o a w M (σ.app E) := by
  simp only [aop] at ha
  rw [val_eff ha]
  refine goes_val h ho hd (v := a.eval x) ?_ (trX_rep h hx)
  rcases hop with hop | hop <;> simp [execOp, hop]

theorem RR.bool_inv {s : List (Key × Box)} {z : List Key} {f b : Bool} {x : Value} (h : RR cx s z M w (.imm f (.bool b)) x) : x = .bool b := by
  have := RepL.imm_iff.1 h
  cases this; rfl
theorem RR.int_inv {s : List (Key × Box)} {z : List Key} {f : Bool} {k : IntKind} {n : Int} {x : Value} (h : RR cx s z M w (.imm f (.int k n)) x) : x = .int k n := by
  have := RepL.imm_iff.1 h
  cases this; rfl
theorem RR.str_inv {s : List (Key × Box)} {z : List Key} {f : Bool} {n : ByteArray} {x : Value} (h : RR cx s z M w (.imm f (.str n)) x) : x = .string n := by
  have := RepL.imm_iff.1 h
  cases this; rfl

theorem goes_pick (h : Inv cx σ M a w) (ho : o.dst = some d) (hd : d < a.tmps.size) {c x y : Operand} {c' x' y' : Opd} (hop : o.op = .pick c x y) (hc : trX c = some c') (hx : trX x = some x') (hy : trX y = some y')
    {E : Eff} (ha : aop σ (.pick d c' x' y') = some E) : OpGoes P cx o a w M (σ.app E) := by
  simp only [aop] at ha
  split at ha
  · rename_i f t hev
    rw [val_eff ha]
    have hcv := trX_rep h hc
    rw [hev] at hcv
    have hcv := hcv.bool_inv
    cases t
    · exact goes_val h ho hd (v := a.eval y) (by simp [execOp, hop, hcv, asBool]) (by simpa using trX_rep h hy)
    · exact goes_val h ho hd (v := a.eval x) (by simp [execOp, hop, hcv, asBool]) (by simpa using trX_rep h hx)
  · cases ha

theorem goes_nilc (h : Inv cx σ M a w) (ho : o.dst = some d) (hd : d < a.tmps.size) {x : Operand} {x' : Opd} (hop : o.op = .nilCheck x) (hx : trX x = some x')
    {E : Eff} (ha : aop σ (.nilc d x') = some E) : OpGoes P cx o a w M (σ.app E) := by
  have hR := trX_rep h hx
  simp only [aop] at ha
  split at ha
  · rename_i f cs off hev
    rw [val_eff ha]
    rw [hev] at hR
    refine goes_val h ho hd (v := a.eval x) ?_ hR
    have := RepL.imm_iff.1 hR
    generalize hg : a.eval x = u at *
    cases this
    simp [execOp, hop, hg]
  · rename_i k off hev
    rw [val_eff ha]
    rw [hev] at hR
    refine goes_val h ho hd (v := a.eval x) ?_ hR
    generalize hg : a.eval x = u at *
    cases hR
    simp [execOp, hop, hg]
  · cases ha

theorem goes_fad (h : Inv cx σ M a w) (ho : o.dst = some d) (hd : d < a.tmps.size) {x : Operand} {x' : Opd} {s : TypeId} {f : Nat} {fs : Array Field} {fl : Field} {n : Nat} (hop : o.op = .fieldAddr s x f) (hx : trX x = some x')
    (hu : P.underlying s = some (.struct fs)) (hf : fs[f]? = some fl) (hn : szOf P fl.type = some n) (hn0 : n ≠ 0)
    {E : Eff} (ha : aop σ (.fad d x' fl.offset) = some E) : OpGoes P cx o a w M (σ.app E) := by
  have hR := trX_rep h hx
  obtain ⟨i, hi, rfl⟩ := Option.map_eq_some_iff.1 hn
  have hfp : ∀ ad : Addr, (fieldPlace ad fl).run P w = .ok (ad.add fl.offset) w := fun ad => by simp [fieldPlace, Go.sizeOf, typeInfo, hi, hn0]
  simp only [aop] at ha
  split at ha
  · rename_i g cs off hev
    rw [val_eff ha]
    rw [hev] at hR
    have hR := RepL.imm_iff.1 hR
    generalize hg : a.eval x = u at *
    cases hR with
    | ptr cells off b o' vs hN hc h1 hr =>
      refine goes_val h ho hd (v := .pointer (some ⟨b, o' + (off + fl.offset), none⟩)) ?_ (RepL.imm_iff.2 (.ptr cs _ b o' vs hN hc h1 hr))
      simp [execOp, hop, hg, Instr.fieldAt, run_underlying hu, hf, Instr.sureAddr, hfp, add_flat, Nat.add_assoc]
  · rename_i k off hev
    rw [val_eff ha]
    rw [hev] at hR
    generalize hg : a.eval x = u at *
    cases hR with
    | loc k off b c hM =>
      refine goes_val h ho hd (v := .pointer (some ⟨b, off + fl.offset, none⟩)) ?_ (.loc k _ b c hM)
      simp [execOp, hop, hg, Instr.fieldAt, run_underlying hu, hf, Instr.sureAddr, hfp, add_flat]
  · cases ha

/-- A row of cells of a value that nobody changes. -/
theorem partI_part {f : Bool} {cs : List IV} {off : Nat} {n : Option Nat} {lv : LV} (h : partI f cs off n = some lv) : ∃ lv', partOf (cs.map (.imm f)) off n = some lv' ∧
    ∀ {cx : Cx} {s : List (Key × Box)} {z : List Key} {M : Pl} {w : World} {x : Value}, RR cx s z M w lv' x → RR cx s z M w lv x := by
  cases n with
  | none => simp only [partI] at h; exact ⟨lv, by simpa [partOf] using h, fun hx => hx⟩
  | some n =>
    simp only [partI] at h
    split at h
    · rename_i hle
      simp only [Option.some.injEq] at h; subst h
      refine ⟨.agg (((cs.map (LV.imm f)).drop off).take n), by simp [partOf, hle], ?_⟩
      intro cx s z M w x hx
      cases hx with
      | agg cells vs hl h1 hr =>
        refine RepL.imm_iff.2 (.agg _ vs (by simpa using hl) h1 fun j hj hj' => ?_)
        have := hr j (by simpa using hj) hj'
        simp only [List.getElem_take, List.getElem_drop, List.getElem_map] at this ⊢
        exact RepL.imm_iff.1 this
    · cases h

theorem load_imm {f : Bool} {cs : List IV} {off : Nat} {x : Value} {s : List (Key × Box)} {z : List Key} (hR : RR cx s z M w (.imm f (.ptr cs off)) x) {t : TypeId} {n : Option Nat} (hn : nOf P t = some n) {lv : LV} (hp : partI f cs off n = some lv) :
    ∃ b o v, x = .pointer (some ⟨b, o, none⟩) ∧ (loadVar t ⟨b, o, none⟩).run P w = .ok v w ∧ RR cx s z M w lv v := by
  have hR := RepL.imm_iff.1 hR
  cases hR with
  | ptr cells off b o' vs hN hc h1 hr =>
    obtain ⟨lv', hp', up⟩ := partI_part hp
    have hrows : Rows2 (RR cx s z M w) (cs.map (.imm f)) ((List.range cs.length).map vs) := by
      refine ⟨by simp, fun j hj hj' => ?_⟩
      simp only [List.getElem_map, List.getElem_range]
      exact RepL.imm_iff.2 (hr j (by simpa using hj))
    obtain ⟨v, hv, hRv⟩ := load_sound (P := P) (w := w) (b := b) (o := o') (fun cs vs h1 h2 => RR.agg cs vs h1 h2) hn hrows (fun v hv => by
        obtain ⟨j, hj, rfl⟩ := List.mem_map.1 hv
        exact h1 j (by simpa using hj)) (fun j v hv => by
        rw [List.getElem?_map, Option.map_eq_some_iff] at hv
        obtain ⟨i, hi, rfl⟩ := hv
        obtain ⟨hi1, rfl⟩ := List.getElem?_eq_some_iff.1 hi
        simp only [List.getElem_range]
        exact hc j (by simpa using hi1)) hp'
    exact ⟨b, o' + off, v, rfl, hv, up hRv⟩

/-- What lies in a box. -/
theorem box_cells (h : Inv cx σ M a w) {k : Key} {bx : Box} (hb : getB σ.s k = some bx) {b c : Nat} (hM : M k = some (b, c)) :
    ∃ vs, Rows2 (RR cx σ.s σ.z M w) bx.flat vs ∧ (∀ v ∈ vs, v.oneCell' = true) ∧ ∀ j v, vs[j]? = some v → w.cell? ⟨b, j, none⟩ = some v := by
  have hbx := h.box k bx _ hb hM
  cases bx with
  | var cs =>
    obtain ⟨vs, e, hh, hr, h1⟩ := hbx
    refine ⟨vs.toList, hr, h1, fun j v hv => ?_⟩
    simp only [World.cell?, hh]
    simpa using hv
  | row e sz es =>
    obtain ⟨xs, hown, hr, hsz, h1⟩ := hbx
    refine ⟨xs, hr, h1, fun j v hv => ?_⟩
    have := hown.cells (g := b) rfl j v hv
    rw [add_flat] at this
    simpa using this

theorem load_loc (h : Inv cx σ M a w) {k : Key} {off : Nat} {x : Value} (hR : RR cx σ.s σ.z M w (.loc k off) x) {bx : Box} (hb : getB σ.s k = some bx) {t : TypeId} {n : Option Nat} (hn : nOf P t = some n) {lv : LV} (hp : partOf bx.flat off n = some lv) :
    ∃ b o v, x = .pointer (some ⟨b, o, none⟩) ∧ (loadVar t ⟨b, o, none⟩).run P w = .ok v w ∧ RR cx σ.s σ.z M w lv v := by
  cases hR with
  | loc k off b c hM =>
    obtain ⟨vs, hr, h1, hc⟩ := box_cells h hb hM
    obtain ⟨v, hv, hRv⟩ := load_sound (P := P) (w := w) (b := b) (o := 0) (fun cs vs h1 h2 => RR.agg cs vs h1 h2) hn hr h1 (fun j v hv => by simpa using hc j v hv) hp
    exact ⟨b, off, v, rfl, by simpa using hv, hRv⟩

theorem goes_load (h : Inv cx σ M a w) (ho : o.dst = some d) (hd : d < a.tmps.size) {x : Operand} {x' : Opd} {t : TypeId} {n : Option Nat} (hop : o.op = .load t x) (hx : trX x = some x') (hn : nOf P t = some n)
    {E : Eff} (ha : aop σ (.load d x' n) = some E) : OpGoes P cx o a w M (σ.app E) := by
  have hR := trX_rep h hx
  simp only [aop] at ha
  split at ha
  · rename_i f cs off hev
    split at ha
    · rename_i lv hp
      rw [val_eff ha]
      rw [hev] at hR
      obtain ⟨b, o', v, hx', hv, hRv⟩ := load_imm hR hn hp
      exact goes_val h ho hd (v := v) (by simp [execOp, hop, hx', Instr.loadAt, Instr.sureAddr, hv]) hRv
    · cases ha
  · rename_i k off hev
    split at ha
    · rename_i bx hb
      split at ha
      · rename_i lv hp
        simp only [Option.some.injEq] at ha; subst ha
        rw [hev] at hR
        obtain ⟨b, o', v, hx', hv, hRv⟩ := load_loc h hR hb hn hp
        exact goes_val h ho hd (v := v) (by simp [execOp, hop, hx', Instr.loadAt, Instr.sureAddr, hv]) hRv
      · cases ha
    · cases ha
  · cases ha

theorem goes_fld (h : Inv cx σ M a w) (ho : o.dst = some d) (hd : d < a.tmps.size) {x : Operand} {x' : Opd} {s : TypeId} {f : Nat} {fs : Array Field} {fl : Field} {n : Option Nat} (hop : o.op = .field s x f) (hx : trX x = some x')
    (hu : P.underlying s = some (.struct fs)) (hf : fs[f]? = some fl) (hn : nOf P fl.type = some n)
    {E : Eff} (ha : aop σ (.fld d x' fl.offset n) = some E) : OpGoes P cx o a w M (σ.app E) := by
  have hR := trX_rep h hx
  simp only [aop] at ha
  split at ha
  · rename_i cs hcs
    split at ha
    · rename_i lv hp
      rw [val_eff ha]
      obtain ⟨vs, hc, hrows, h1⟩ := hR.acells hcs
      obtain ⟨v, hv, hRv⟩ := part_sound (P := P) (w := w) (fun cs vs h1 h2 => RR.agg cs vs h1 h2) hn hrows h1 hp
      refine goes_val h ho hd (v := v) ?_ hRv
      simp [execOp, hop, hc, Instr.field, run_underlying hu, hf, asAgg, hv]
    · cases ha
  · cases ha

theorem goes_ext (h : Inv cx σ M a w) (ho : o.dst = some d) (hd : d < a.tmps.size) {x : Operand} {x' : Opd} {i : Nat} (hop : o.op = .extract x i) (hx : trX x = some x')
    {E : Eff} (ha : aop σ (.ext d x' i) = some E) : OpGoes P cx o a w M (σ.app E) := by
  have hR := trX_rep h hx
  simp only [aop] at ha
  split at ha
  · rename_i vs hev
    split at ha
    · rename_i lv hp
      rw [val_eff ha]
      rw [hev] at hR
      generalize hg : a.eval x = u at *
      cases hR with
      | tup cells xs hl hr =>
        obtain ⟨hi, rfl⟩ := List.getElem?_eq_some_iff.1 hp
        exact goes_val h ho hd (v := xs[i]'(by omega)) (by simp [execOp, hop, hg, Instr.extract, show i < xs.length by omega]) (hr i hi (by omega))
    · cases ha
  · rename_i f vs hev
    split at ha
    · rename_i lv hp
      rw [val_eff ha]
      rw [hev] at hR
      have hR := RepL.imm_iff.1 hR
      generalize hg : a.eval x = u at *
      cases hR with
      | tup cells xs hl hr =>
        obtain ⟨hi, rfl⟩ := List.getElem?_eq_some_iff.1 hp
        exact goes_val h ho hd (v := xs[i]'(by omega)) (by simp [execOp, hop, hg, Instr.extract, show i < xs.length by omega]) (RepL.imm_iff.2 (hr i hi (by omega)))
    · cases ha
  · cases ha

end
end Go.Proofs.Ytopgmopdjiahmaa.Lg

/- Each operation, one by one, second part: indexes, numbers, lengths. Conditions: none; plain lemmas. -/
set_option linter.unusedVariables false
set_option linter.unusedSimpArgs false
namespace Go.Proofs.Ytopgmopdjiahmaa.Lg
open Go Go.RowKit
section
variable {P : Program} {cx : Cx} {σ : St} {M : Pl} {a : Act} {w : World} {o : Oper} {d : Nat}

theorem intOf_inv {s : List (Key × Box)} {z : List Key} {lv : LV} {n : Int} {x : Value} (hn : intOfLV lv = some n) (h : RR cx s z M w lv x) : ∃ k, x = .int k n := by
  unfold intOfLV at hn
  split at hn
  · simp only [Option.some.injEq] at hn; subst hn
    exact ⟨_, h.int_inv⟩
  · cases hn

theorem run_sizeOf' {e : TypeId} {n : Nat} (h : szOf P e = some n) : (Go.sizeOf e).run P w = .ok n w := by
  obtain ⟨i, hi, rfl⟩ := Option.map_eq_some_iff.1 h
  simp [Go.sizeOf, typeInfo, hi]

theorem goes_iad (h : Inv cx σ M a w) (ho : o.dst = some d) (hd : d < a.tmps.size) {x i : Operand} {x' i' : Opd} {t e : TypeId} {sz : Nat} (hop : o.op = .indexAddr t x i) (hx : trX x = some x') (hi : trX i = some i')
    (hu : P.underlying t = some (.slice e)) (hn : szOf P e = some sz)
    {E : Eff} (ha : aop σ (.iad d x' i' sz) = some E) : OpGoes P cx o a w M (σ.app E) := by
  have hR := trX_rep h hx
  have hI := trX_rep h hi
  simp only [aop] at ha
  split at ha
  · rename_i f es n hev hin
    obtain ⟨k, hk⟩ := intOf_inv hin hI
    split at ha
    · rename_i h0
      split at ha
      · rename_i cs hcs
        split at ha
        · rename_i hlen
          rw [val_eff ha]
          rw [hev] at hR
          have hR := RepL.imm_iff.1 hR
          obtain ⟨hlt, rfl⟩ := List.getElem?_eq_some_iff.1 hcs
          generalize hg : a.eval x = u at *
          cases hR with
          | slice0 A c => simp at hlt
          | slice elems b o' sz' c vs hN hsz hm hcap hc h1 hr =>
            have hszz : sz' = sz := by rw [← hlen, hsz _ hlt]
            subst hszz
            have hin' : 0 ≤ n ∧ n < (es.length : Int) := ⟨h0, by omega⟩
            have hbound : ∀ j, j < sz' → n.toNat * sz' + j < es.length * sz' := by
              intro j hj
              have : (n.toNat + 1) * sz' ≤ es.length * sz' := Nat.mul_le_mul_right _ hlt
              rw [Nat.add_mul] at this; omega
            refine goes_val h ho hd (v := .pointer (some ⟨b, o' + n.toNat * sz', none⟩)) ?_ (RepL.imm_iff.2 ?_)
            · simp [execOp, hop, hg, hk, Instr.indexAt, asIntOf, run_underlying hu, hin', run_sizeOf' hn, add_flat]
            · have := RepI.ptr (w := w) (N := (if f = true then NF cx σ.s σ.z M w else NS cx σ.s σ.z M w)) es[n.toNat] 0 b (o' + n.toNat * sz') (fun j => vs (n.toNat * sz' + j)) hN
                (fun j hj => by rw [Nat.add_assoc]; exact hc _ (hbound j (by omega))) (fun j hj => h1 _ (hbound j (by omega))) (fun j hj => hr _ hlt j hj)
              simpa using this
        · cases ha
      · cases ha
    · cases ha
  · rename_i k m n hev hin
    obtain ⟨kk, hk⟩ := intOf_inv hin hI
    split at ha
    · rename_i h0
      rw [val_eff ha]
      rw [hev] at hR
      generalize hg : a.eval x = u at *
      cases hR with
      | row k m b c hM =>
        refine goes_val h ho hd (v := .pointer (some ⟨b, n.toNat * sz, none⟩)) ?_ (.loc k _ b c hM)
        simp [execOp, hop, hg, hk, Instr.indexAt, asIntOf, run_underlying hu, h0, run_sizeOf' hn, add_flat]
    · cases ha
  · cases ha

theorem goes_aad (h : Inv cx σ M a w) (ho : o.dst = some d) (hd : d < a.tmps.size) {x i : Operand} {x' i' : Opd} {t e : TypeId} {len sz : Nat} (hop : o.op = .indexAddr t x i) (hx : trX x = some x') (hi : trX i = some i')
    (hu : P.underlying t = some (.array len e)) (hn : szOf P e = some sz)
    {E : Eff} (ha : aop σ (.aad d x' i' len sz) = some E) : OpGoes P cx o a w M (σ.app E) := by
  have hR := trX_rep h hx
  have hI := trX_rep h hi
  simp only [aop] at ha
  split at ha
  · rename_i f cs off n hev hin
    obtain ⟨k, hk⟩ := intOf_inv hin hI
    split at ha
    · rename_i h0
      rw [val_eff ha]
      rw [hev] at hR
      have hR := RepL.imm_iff.1 hR
      generalize hg : a.eval x = u at *
      cases hR with
      | ptr cells off b o' vs hN hc h1 hr =>
        refine goes_val h ho hd (v := .pointer (some ⟨b, o' + (off + n.toNat * sz), none⟩)) ?_ (RepL.imm_iff.2 (.ptr cs _ b o' vs hN hc h1 hr))
        simp [execOp, hop, hg, hk, Instr.indexAt, asIntOf, run_underlying hu, Instr.sureAddr, h0, run_sizeOf' hn, add_flat, Nat.add_assoc]
    · cases ha
  · rename_i k off n hev hin
    obtain ⟨kk, hk⟩ := intOf_inv hin hI
    split at ha
    · rename_i h0
      rw [val_eff ha]
      rw [hev] at hR
      generalize hg : a.eval x = u at *
      cases hR with
      | loc k off b c hM =>
        refine goes_val h ho hd (v := .pointer (some ⟨b, off + n.toNat * sz, none⟩)) ?_ (.loc k _ b c hM)
        simp [execOp, hop, hg, hk, Instr.indexAt, asIntOf, run_underlying hu, Instr.sureAddr, h0, run_sizeOf' hn, add_flat]
    · cases ha
  · cases ha

theorem goes_idx (h : Inv cx σ M a w) (ho : o.dst = some d) (hd : d < a.tmps.size) {x i : Operand} {x' i' : Opd} {t e : TypeId} {len sz : Nat} {n : Option Nat} (hop : o.op = .index t x i) (hx : trX x = some x') (hi : trX i = some i')
    (hu : P.underlying t = some (.array len e)) (hsz : szOf P e = some sz) (hn : nOf P e = some n)
    {E : Eff} (ha : aop σ (.idx d x' i' len sz n) = some E) : OpGoes P cx o a w M (σ.app E) := by
  have hR := trX_rep h hx
  have hI := trX_rep h hi
  simp only [aop] at ha
  split at ha
  · rename_i cs m hcs hin
    obtain ⟨k, hk⟩ := intOf_inv hin hI
    split at ha
    · rename_i h0
      split at ha
      · rename_i lv hp
        rw [val_eff ha]
        obtain ⟨vs, hc, hrows, h1⟩ := hR.acells hcs
        obtain ⟨v, hv, hRv⟩ := part_sound (P := P) (w := w) (fun cs vs h1 h2 => RR.agg cs vs h1 h2) hn hrows h1 hp
        refine goes_val h ho hd (v := v) ?_ hRv
        simp [execOp, hop, hc, hk, Instr.index, asIntOf, run_underlying hu, h0, run_sizeOf' hsz, hv]
      · cases ha
    · cases ha
  · cases ha

theorem abin_sound {op : BinOp} {x y r : IV} {vx vy : Value} {N N' : Nat → Prop} (h : abin op x y = some r) (hx : RepI w N x vx) (hy : RepI w N' y vy) (t : TypeId) (ox oy : Operand) :
    ∃ v, (binOp op t vx vy).run P w = .ok v w ∧ (eqGuard op t ox oy vx vy).run P w = .ok () w ∧ (∀ N, RepI w N r v) := by
  unfold abin at h
  split at h
  · rename_i k a k' b
    cases hx; cases hy
    have hg : (eqGuard op t ox oy (.int k a) (.int k' b)).run P w = .ok () w := by
      unfold eqGuard
      split <;> rfl
    split at h
    · split at h
      · cases h
      · rename_i hb
        simp only [Option.some.injEq] at h; subst h
        exact ⟨_, by simp [binOp, Op.shift, hb], hg, fun N => .int _ _⟩
    · cases h
    · rename_i hns hnr
      split at h
      · rename_i hk
        subst hk
        have hb0 : binOp op t (.int k a) (.int k b) = match op with
            | .add | .sub | .mul => Op.intArith op k a b
            | .quo | .rem => Op.intDiv op k a b
            | .and | .or | .xor | .andNot => Op.intBits op k a b
            | _ => Op.intCmp op a b := by
          cases op <;> first | rfl | exact absurd rfl hns | exact absurd rfl hnr | simp [binOp]
        rw [hb0]
        cases op <;> simp only [reduceCtorEq] at h <;> try (first | (simp only [Option.some.injEq] at h; subst h))
        all_goals first
          | exact ⟨_, by simp [Op.intArith], hg, fun N => .int _ _⟩
          | exact ⟨_, by simp [Op.intCmp], hg, fun N => .bool _⟩
          | (split at h
             · cases h
             · rename_i hb
               simp only [Option.some.injEq] at h; subst h
               exact ⟨_, by simp [Op.intDiv, hb], hg, fun N => .int _ _⟩)
      · cases h
  · rename_i a b
    cases hx; cases hy
    have hg : (eqGuard op t ox oy (.string a) (.string b)).run P w = .ok () w := by
      unfold eqGuard
      split <;> rfl
    split at h <;> first | (simp only [Option.some.injEq] at h; subst h; exact ⟨_, by simp [binOp, Op.stringOp], hg, fun N => .bool _⟩) | cases h
  · cases h

theorem goes_bin (h : Inv cx σ M a w) (ho : o.dst = some d) (hd : d < a.tmps.size) {x y : Operand} {x' y' : Opd} {op : BinOp} {t u : TypeId} (hop : o.op = .binOp op t x y u) (hx : trX x = some x') (hy : trX y = some y')
    {E : Eff} (ha : aop σ (.bin d op x' y') = some E) : OpGoes P cx o a w M (σ.app E) := by
  have hR := trX_rep h hx
  have hS := trX_rep h hy
  simp only [aop] at ha
  split at ha
  · rename_i f1 v1 f2 v2 e1 e2
    split at ha
    · rename_i r hr
      rw [val_eff ha]
      rw [e1] at hR; rw [e2] at hS
      obtain ⟨v, h1, h2, h3⟩ := abin_sound (P := P) hr (RepL.imm_iff.1 hR) (RepL.imm_iff.1 hS) t x y
      refine goes_val h ho hd (v := v) ?_ (RepL.imm_iff.2 (h3 _))
      simp [execOp, hop, h1, h2]
    · cases ha
  · cases ha

theorem run_equalIn_bool {t : TypeId} (hu : P.underlying t = some .bool) (n : Nat) (x y : Bool) : (Op.equalIn (n + 1) t (.bool x) (.bool y)).run P w = .ok (x == y) w := by
  simp [Op.equalIn, run_underlying hu]
theorem run_eql_bool {t : TypeId} (hu : P.underlying t = some .bool) (x y : Bool) : (binOp .eql t (.bool x) (.bool y)).run P w = .ok (.bool (x == y)) w := by
  have : (Op.equal t (.bool x) (.bool y)).run P w = .ok (x == y) w := run_equalIn_bool hu 9999 x y
  rw [binOp, Sem.run_bind, this]
  all_goals first | rfl | (intros; simp_all)
theorem run_neq_bool {t : TypeId} (hu : P.underlying t = some .bool) (x y : Bool) : (binOp .neq t (.bool x) (.bool y)).run P w = .ok (.bool (!(x == y))) w := by
  have : (Op.equal t (.bool x) (.bool y)).run P w = .ok (x == y) w := run_equalIn_bool hu 9999 x y
  rw [binOp, Sem.run_bind, this]
  all_goals first | rfl | (intros; simp_all)
theorem run_eqGuard_bool {t : TypeId} (op : BinOp) (ox oy : Operand) (x y : Bool) : (eqGuard op t ox oy (.bool x) (.bool y)).run P w = .ok () w := by
  unfold eqGuard
  split <;> rfl

theorem goes_binb (h : Inv cx σ M a w) (ho : o.dst = some d) (hd : d < a.tmps.size) {x y : Operand} {x' y' : Opd} {neg : Bool} {t u : TypeId} (hop : o.op = .binOp (if neg then .neq else .eql) t x y u) (hx : trX x = some x') (hy : trX y = some y')
    (hu : P.underlying t = some .bool) {E : Eff} (ha : aop σ (.binb d neg x' y') = some E) : OpGoes P cx o a w M (σ.app E) := by
  have hR := trX_rep h hx
  have hS := trX_rep h hy
  simp only [aop] at ha
  split at ha
  · rename_i f1 b1 f2 b2 e1 e2
    rw [val_eff ha]
    rw [e1] at hR; rw [e2] at hS
    have hR := hR.bool_inv
    have hS := hS.bool_inv
    cases neg
    · refine goes_val h ho hd (v := .bool (b1 == b2)) ?_ (RepL.imm_iff.2 (.bool _))
      simp only [Bool.false_eq_true, if_false] at hop
      simp [execOp, hop, hR, hS, run_eqGuard_bool, run_eql_bool hu]
    · refine goes_val h ho hd (v := .bool (!(b1 == b2))) ?_ (RepL.imm_iff.2 (.bool _))
      simp only [if_true] at hop
      simp [execOp, hop, hR, hS, run_eqGuard_bool, run_neq_bool hu]
  · cases ha

theorem goes_un (h : Inv cx σ M a w) (ho : o.dst = some d) (hd : d < a.tmps.size) {x : Operand} {x' : Opd} {op : UnOp} {t : TypeId} (hop : o.op = .unOp op t x) (hx : trX x = some x')
    {E : Eff} (ha : aop σ (.un d op x') = some E) : OpGoes P cx o a w M (σ.app E) := by
  have hR := trX_rep h hx
  simp only [aop] at ha
  split at ha
  · rename_i f1 v1 e1
    split at ha
    · rename_i r hr
      rw [val_eff ha]
      rw [e1] at hR
      unfold aun at hr
      split at hr
      · split at hr
        · simp only [Option.some.injEq] at hr; subst hr
          refine goes_val h ho hd (v := .bool (!_)) ?_ (RepL.imm_iff.2 (.bool _))
          simp [execOp, hop, hR.bool_inv, Op.unary]
        · cases hr
      · split at hr
        · simp only [Option.some.injEq] at hr; subst hr
          refine goes_val h ho hd (v := .int _ _) ?_ (RepL.imm_iff.2 (.int _ _))
          simp [execOp, hop, hR.int_inv, Op.unary, Op.intArith]
        · cases hr
      · cases hr
    · cases ha
  · cases ha

theorem goes_conv (h : Inv cx σ M a w) (ho : o.dst = some d) (hd : d < a.tmps.size) {x : Operand} {x' : Opd} {s t : TypeId} {k j : IntKind} (hop : o.op = .convert s t x) (hx : trX x = some x') (hs : P.underlying s = some (.int j)) (ht : P.underlying t = some (.int k))
    {E : Eff} (ha : aop σ (.conv d k x') = some E) : OpGoes P cx o a w M (σ.app E) := by
  have hR := trX_rep h hx
  simp only [aop] at ha
  split at ha
  · rename_i f1 k1 n e1
    rw [val_eff ha]
    rw [e1] at hR
    refine goes_val h ho hd (v := .int k (k.wrap n)) ?_ (RepL.imm_iff.2 (.int _ _))
    simp [execOp, hop, hR.int_inv, convert, run_underlying hs, run_underlying ht, Conv.intToInt]
  · cases ha

theorem goes_len (h : Inv cx σ M a w) (ho : o.dst = some d) (hd : d < a.tmps.size) {x : Operand} {x' : Opd} {c : Call} {t e : TypeId} (hop : o.op = .call c) (hc : c.callee = .builtin .len) (hargs : c.args.toList = [x]) (hty : c.argTypes.toList = [t])
    (hx : trX x = some x') (hu : P.underlying t = some (.slice e)) {E : Eff} (ha : aop σ (.len d x') = some E) : OpGoes P cx o a w M (σ.app E) := by
  have hR := trX_rep h hx
  obtain ⟨callee, args, argTypes⟩ := c
  have ha1 : args = #[x] := by apply Array.toList_inj.1; simpa using hargs
  have ha2 : argTypes = #[t] := by apply Array.toList_inj.1; simpa using hty
  simp only at hc; subst hc; subst ha1; subst ha2
  have main : ∀ (n : Nat) A k, a.eval x = .slice A n k → (execOp a.eval o).run P w = .ok (.value (.int .i64 n)) w := by
    intro n A k hv
    simp [execOp, hop, resolve, invoke, builtin, Builtin.len_, hv, run_underlying hu, goInt]
  simp only [aop] at ha
  split at ha
  · rename_i f es hev
    rw [val_eff ha]
    rw [hev] at hR
    have hR := RepL.imm_iff.1 hR
    have : ∃ A k, a.eval x = .slice A es.length k := by
      generalize a.eval x = u at *
      cases hR with
      | slice0 A c => exact ⟨A, c, rfl⟩
      | slice elems b o' sz c vs => exact ⟨_, c, rfl⟩
    obtain ⟨A, k, hv⟩ := this
    exact goes_val h ho hd (v := .int .i64 es.length) (main es.length A k hv) (RepL.imm_iff.2 (.int _ _))
  · rename_i hev
    rw [val_eff ha]
    rw [hev] at hR
    have : a.eval x = .slice none 0 0 := by
      generalize a.eval x = u at *
      cases hR; rfl
    exact goes_val h ho hd (v := .int .i64 0) (main 0 _ _ this) (RepL.imm_iff.2 (.int _ _))
  · rename_i k n hev
    rw [val_eff ha]
    rw [hev] at hR
    have : ∃ A k, a.eval x = .slice A n k := by
      generalize a.eval x = u at *
      cases hR
      exact ⟨_, _, rfl⟩
    obtain ⟨A, k, hv⟩ := this
    exact goes_val h ho hd (v := .int .i64 n) (main n A k hv) (RepL.imm_iff.2 (.int _ _))
  · cases ha
theorem goes_slen (h : Inv cx σ M a w) (ho : o.dst = some d) (hd : d < a.tmps.size) {x : Operand} {x' : Opd} {c : Call} {t : TypeId} (hop : o.op = .call c) (hc : c.callee = .builtin .len) (hargs : c.args.toList = [x]) (hty : c.argTypes.toList = [t])
    (hx : trX x = some x') (hu : P.underlying t = some .string) {E : Eff} (ha : aop σ (.slen d x') = some E) : OpGoes P cx o a w M (σ.app E) := by
  have hR := trX_rep h hx
  obtain ⟨callee, args, argTypes⟩ := c
  have ha1 : args = #[x] := by apply Array.toList_inj.1; simpa using hargs
  have ha2 : argTypes = #[t] := by apply Array.toList_inj.1; simpa using hty
  simp only at hc; subst hc; subst ha1; subst ha2
  simp only [aop] at ha
  split at ha
  · rename_i f s hev
    rw [val_eff ha]
    rw [hev] at hR
    refine goes_val h ho hd (v := .int .i64 s.size) ?_ (RepL.imm_iff.2 (.int _ _))
    simp [execOp, hop, resolve, invoke, builtin, Builtin.len_, hR.str_inv, run_underlying hu, goInt]
  · cases ha
theorem goes_mkif (h : Inv cx σ M a w) (ho : o.dst = some d) (hd : d < a.tmps.size) {x : Operand} {x' : Opd} {t : TypeId} {fs : Array Field} (hop : o.op = .makeInterface t x) (hx : trX x = some x') (hu : P.underlying t = some (.struct fs))
    {E : Eff} (ha : aop σ (.mkif d t x') = some E) : OpGoes P cx o a w M (σ.app E) := by
  have hR := trX_rep h hx
  simp only [aop] at ha
  split at ha
  · rename_i hc
    rw [val_eff ha]
    obtain ⟨vs, hv, hrows, _⟩ := hR.acells hc
    have hl := hrows.1
    have : vs = #[] := Array.eq_empty_of_size_eq_zero (by simpa using hl)
    subst this
    refine goes_val h ho hd (v := .iface t (.agg #[])) ?_ (.unitI t)
    simp [execOp, hop, hv, Instr.makeInterface, run_underlying hu]
  · cases ha

theorem maxL_sound {k : IntKind} {s : List (Key × Box)} {z : List Key} : ∀ {r : List LV} {m : Int} {lv : LV} {vs : List Value}, maxL k m r = some lv → Rows2 (RR cx s z M w) r vs →
    ∃ v, (vs.foldlM Builtin.max2 (.int k m)).run P w = .ok v w ∧ RR cx s z M w lv v
  | [], m, lv, vs, h, hr => by
    simp only [maxL, Option.some.injEq] at h; subst h
    have : vs = [] := List.eq_nil_of_length_eq_zero hr.1
    subst this
    exact ⟨_, rfl, RepL.imm_iff.2 (.int _ _)⟩
  | x :: r, m, lv, vs, h, hr => by
    unfold maxL at h
    split at h
    · cases ‹x :: r = []›
    · rename_i heq
      obtain ⟨rfl, rfl⟩ := List.cons.inj heq
      cases vs with
      | nil => have := hr.1; simp at this
      | cons v vs =>
        obtain ⟨h1, h2⟩ := hr.of_cons
        obtain ⟨u, hu, hR⟩ := maxL_sound h h2
        refine ⟨u, ?_, hR⟩
        rw [h1.int_inv]
        simp [List.foldlM_cons, Builtin.max2, hu]
    · cases h
theorem minL_sound {k : IntKind} {s : List (Key × Box)} {z : List Key} : ∀ {r : List LV} {m : Int} {lv : LV} {vs : List Value}, minL k m r = some lv → Rows2 (RR cx s z M w) r vs →
    ∃ v, (vs.foldlM Builtin.min2 (.int k m)).run P w = .ok v w ∧ RR cx s z M w lv v
  | [], m, lv, vs, h, hr => by
    simp only [minL, Option.some.injEq] at h; subst h
    have : vs = [] := List.eq_nil_of_length_eq_zero hr.1
    subst this
    exact ⟨_, rfl, RepL.imm_iff.2 (.int _ _)⟩
  | x :: r, m, lv, vs, h, hr => by
    unfold minL at h
    split at h
    · cases ‹x :: r = []›
    · rename_i heq
      obtain ⟨rfl, rfl⟩ := List.cons.inj heq
      cases vs with
      | nil => have := hr.1; simp at this
      | cons v vs =>
        obtain ⟨h1, h2⟩ := hr.of_cons
        obtain ⟨u, hu, hR⟩ := minL_sound h h2
        refine ⟨u, ?_, hR⟩
        rw [h1.int_inv]
        simp [List.foldlM_cons, Builtin.min2, hu]
    · cases h

theorem goes_mx (h : Inv cx σ M a w) (ho : o.dst = some d) (hd : d < a.tmps.size) {c : Call} {xs : List Opd} (hop : o.op = .call c) (hc : c.callee = .builtin .max) (hx : trXs c.args.toList = some xs)
    {E : Eff} (ha : aop σ (.mx d xs) = some E) : OpGoes P cx o a w M (σ.app E) := by
  have hR := trXs_rep h hx
  simp only [aop] at ha
  split at ha
  · rename_i f k m r hev
    split at ha
    · rename_i lv hlv
      rw [val_eff ha]
      rw [hev] at hR
      cases hl : c.args.toList.map a.eval with
      | nil => rw [hl] at hR; have := hR.1; simp at this
      | cons v vs =>
        rw [hl] at hR
        obtain ⟨h1, h2⟩ := hR.of_cons
        obtain ⟨u, hu, hRu⟩ := maxL_sound (P := P) hlv h2
        refine goes_val h ho hd (v := u) ?_ hRu
        have hargs : (c.args.map a.eval).toList = .int k m :: vs := by simpa [h1.int_inv] using hl
        simp [execOp, hop, resolve, hc, invoke, builtin, Builtin.max_, hl, h1.int_inv, hu]
    · cases ha
  · cases ha
theorem goes_mn (h : Inv cx σ M a w) (ho : o.dst = some d) (hd : d < a.tmps.size) {c : Call} {xs : List Opd} (hop : o.op = .call c) (hc : c.callee = .builtin .min) (hx : trXs c.args.toList = some xs)
    {E : Eff} (ha : aop σ (.mn d xs) = some E) : OpGoes P cx o a w M (σ.app E) := by
  have hR := trXs_rep h hx
  simp only [aop] at ha
  split at ha
  · rename_i f k m r hev
    split at ha
    · rename_i lv hlv
      rw [val_eff ha]
      rw [hev] at hR
      cases hl : c.args.toList.map a.eval with
      | nil => rw [hl] at hR; have := hR.1; simp at this
      | cons v vs =>
        rw [hl] at hR
        obtain ⟨h1, h2⟩ := hR.of_cons
        obtain ⟨u, hu, hRu⟩ := minL_sound (P := P) hlv h2
        refine goes_val h ho hd (v := u) ?_ hRu
        simp [execOp, hop, resolve, hc, invoke, builtin, Builtin.min_, hl, h1.int_inv, hu]
    · cases ha
  · cases ha

theorem goes_mkfn (h : Inv cx σ M a w) (ho : o.dst = some d) (hd : d < a.tmps.size) {f : FuncId} {fs caps : Array Operand} {xs : List Opd} (hop : o.op = .makeFunc (.func f) fs caps) (hfs : fs.size = 0) (hx : trXs caps.toList = some xs)
    {E : Eff} (ha : aop σ (.mkfn d f xs) = some E) : OpGoes P cx o a w M (σ.app E) := by
  have hR := trXs_rep h hx
  simp only [aop] at ha
  rw [val_eff ha]
  have hfs' : fs = #[] := Array.eq_empty_of_size_eq_zero hfs
  subst hfs'
  refine goes_val h ho hd (v := .func (.func f) #[] ((caps.toList.map a.eval).toArray)) ?_ (RepL.fn f _ _ hR.1 hR.2)
  simp [execOp, hop, Instr.makeFunc]
  apply Array.toList_inj.1; simp

theorem goes_cut (h : Inv cx σ M a w) (ho : o.dst = some d) (hd : d < a.tmps.size) {x : Operand} {lo hi : Option Operand} {x' : Opd} {lo' hi' : Option Opd} {t e : TypeId} (hop : o.op = .slice t x lo hi none) (hx : trX x = some x')
    (hu : P.underlying t = some (.slice e)) (hlo : match lo, lo' with | none, none => True | some l, some l' => trX l = some l' | _, _ => False) (hhi : match hi, hi' with | none, none => True | some l, some l' => trX l = some l' | _, _ => False)
    {n : Nat} (hn : szOf P e = some n)
    {E : Eff} (ha : aop σ (.cut d x' lo' hi' n) = some E) : OpGoes P cx o a w M (σ.app E) := by
  have hR := trX_rep h hx
  simp only [aop] at ha
  split at ha
  · rename_i f es hev
    split at ha
    · rename_i l r hl hr
      split at ha
      · rename_i hle0
        obtain ⟨hle, hall⟩ := hle0
        rw [val_eff ha]
        rw [hev] at hR
        have hR := RepL.imm_iff.1 hR
        have hL : ∃ vl : Option Value, lo.map a.eval = vl ∧ ((vl = none ∧ l = 0) ∨ ∃ k, vl = some (.int k l)) := by
          refine ⟨_, rfl, ?_⟩
          cases lo with
          | none => cases lo' with
            | none => exact .inl ⟨rfl, by simpa using hl.symm⟩
            | some l' => exact hlo.elim
          | some lx => cases lo' with
            | none => exact hlo.elim
            | some l' =>
              obtain ⟨k, hk⟩ := intOf_inv hl (trX_rep h hlo)
              exact .inr ⟨k, by simp [hk]⟩
        have hH : ∃ vh : Option Value, hi.map a.eval = vh ∧ ((vh = none ∧ r = es.length) ∨ ∃ k, vh = some (.int k r)) := by
          refine ⟨_, rfl, ?_⟩
          cases hi with
          | none => cases hi' with
            | none => exact .inl ⟨rfl, by simpa using hr.symm⟩
            | some l' => exact hhi.elim
          | some lx => cases hi' with
            | none => exact hhi.elim
            | some l' =>
              obtain ⟨k, hk⟩ := intOf_inv hr (trX_rep h hhi)
              exact .inr ⟨k, by simp [hk]⟩
        obtain ⟨vl, hvl, hL⟩ := hL
        obtain ⟨vh, hvh, hH⟩ := hH
        -- the bounds
        have hb : ∀ cap : Nat, es.length ≤ cap → (Instr.sliceBounds true es.length cap vl vh none).run P w = .ok (l.toNat, r.toNat, cap) w := by
          intro cap hcap
          have c1 : 0 ≤ r ∧ r ≤ (cap : Int) := by omega
          have c2 : 0 ≤ l ∧ l ≤ (r.toNat : Int) := by omega
          have c2' : 0 ≤ l ∧ l ≤ r := by omega
          rcases hL with ⟨rfl, rfl⟩ | ⟨k, rfl⟩ <;> rcases hH with ⟨rfl, rfl⟩ | ⟨k', rfl⟩ <;>
            simp [Instr.sliceBounds, Instr.sliceBound, asIntOf, c1, c2, c2'] <;> omega
        generalize hg : a.eval x = u at *
        have hlen : ((es.drop l.toNat).take (r - l).toNat).length = (r - l).toNat := by simp; omega
        cases hR with
        | slice0 A c =>
          have h1 : l = 0 := by simp at hle; omega
          have h2 : r = 0 := by simp at hle; omega
          subst h1; subst h2
          have := hb c (by simp)
          refine goes_val h ho hd (v := .slice (if c = 0 then A else A.map (·.add (0 * n))) 0 (c - 0)) ?_ (RepL.imm_iff.2 (by simpa using RepI.slice0 _ _))
          simp at this
          simp [execOp, hop, hg, Instr.sliceAt, Instr.slice, run_underlying hu, hvl, hvh, this, run_sizeOf' hn]
        | slice elems b o' sz c vs hN hsz hm hcap hc h1 hr' =>
          have := hb c hcap
          by_cases hz : r - l = 0
          · have e1 : ((es.drop l.toNat).take (r - l).toNat) = [] := by rw [hz]; rfl
            rw [e1]
            refine goes_val h ho hd (v := .slice (if c = l.toNat then some ⟨b, o', none⟩ else some ((⟨b, o', none⟩ : Addr).add (l.toNat * n))) (r.toNat - l.toNat) (c - l.toNat)) ?_ (RepL.imm_iff.2 ?_)
            · simp [execOp, hop, hg, Instr.sliceAt, Instr.slice, run_underlying hu, hvl, hvh, this, run_sizeOf' hn]
            · rw [show r.toNat - l.toNat = 0 by omega]; exact .slice0 _ _
          · have hszn : sz = n := by
              have h0 : 0 < es.length := by omega
              have := List.all_eq_true.1 hall es[0] (List.getElem_mem h0)
              rw [← hsz 0 h0]; simpa using this
            subst hszn
            have hcl : ¬ c = l.toNat := by omega
            refine goes_val h ho hd (v := .slice (some ⟨b, o' + l.toNat * sz, none⟩) (r.toNat - l.toNat) (c - l.toNat)) ?_ (RepL.imm_iff.2 ?_)
            · simp [execOp, hop, hg, Instr.sliceAt, Instr.slice, run_underlying hu, hvl, hvh, this, run_sizeOf' hn, hcl, add_flat]
            · have hlen2 : r.toNat - l.toNat = ((es.drop l.toNat).take (r - l).toNat).length := by rw [hlen]; omega
              rw [hlen2]
              have key : ∀ j, j < ((es.drop l.toNat).take (r - l).toNat).length * sz → l.toNat * sz + j < es.length * sz := by
                intro j hj
                rw [hlen] at hj
                have : (l.toNat + (r - l).toNat) * sz ≤ es.length * sz := Nat.mul_le_mul_right _ (by omega)
                rw [Nat.add_mul] at this; omega
              refine RepI.slice _ b (o' + l.toNat * sz) sz _ (fun j => vs (l.toNat * sz + j)) hN (fun i hi => ?_) (by rw [hlen]; omega) (by rw [hlen]; omega) (fun j hj => by rw [Nat.add_assoc]; exact hc _ (key j hj)) (fun j hj => h1 _ (key j hj)) (fun i hi j hj => ?_)
              · simp only [List.getElem_take, List.getElem_drop]; exact hsz _ _
              · simp only [List.getElem_take, List.getElem_drop] at hj ⊢
                have := hr' (l.toNat + i) (by rw [hlen] at hi; omega) j hj
                rw [Nat.add_mul, Nat.add_assoc] at this
                exact this
      · cases ha
    · cases ha
  · cases ha

end
end Go.Proofs.Ytopgmopdjiahmaa.Lg
