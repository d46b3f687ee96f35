/- The operations of the machine, and that the abstract ones tell of them. Conditions: none; plain definitions and lemmas. -/
import Derived.Test.YtopgmopdjiahmaaDoorLc
import Derived.Laws.Tables
import Derived.Laws.MakeOwn
import Derived.Great.BuildSlice
set_option linter.unusedVariables false
set_option linter.unusedSimpArgs false
namespace Go.Proofs.YtopgmopdjiahmaaDoor.Lg
open Go Go.RowKit

/-! ### From the machine's operations to the abstract ones -/
def trV : Value → Option LV
  | .int k n => some (.imm true (.int k n))
  | .bool b => some (.imm true (.bool b))
  | .string s => some (.imm true (.str s))
  | .slice none 0 0 => some .nils
  | .pointer none => some (.imm true .nilp)
  | .nilFunc => some .undef
  | _ => none
def trVs : List Value → Option (List LV)
  | [] => some []
  | v :: r => match trV v, trVs r with
    | some l, some ls => some (l :: ls)
    | _, _ => none
def trX : Operand → Option Opd
  | .tmp t => some (.t t)
  | .const v => (trV v).map .c
  | .func f => some (.c (.fn f []))
  | .global _ => none
def trXs : List Operand → Option (List Opd)
  | [] => some []
  | x :: r => match trX x, trXs r with
    | some l, some ls => some (l :: ls)
    | _, _ => none
def nOf (P : Program) (t : TypeId) : Option (Option Nat) :=
  match P.underlying t with
  | some (.struct _) => (P.info? t).map fun i => some i.size
  | some (.array _ _) => (P.info? t).map fun i => some i.size
  | some _ => some none
  | none => none
def szOf (P : Program) (t : TypeId) : Option Nat := (P.info? t).map (·.size)
def zeroOf (P : Program) (t : TypeId) : Option (List LV) := match P.info? t with
  | some i => match i.zero with
    | some z => trVs z.cells.toList
    | none => none
  | none => none

structure Hints where
  cst : List Nat
  bor : List (Nat × List Key)

def places (P : Program) : List Field → Option (List (Nat × Nat))
  | [] => some []
  | f :: r => match P.info? f.type, places P r with
    | some i, some l => some ((f.offset, i.size) :: l)
    | _, _ => none
def trParts (pl : Nat → Option (Nat × Nat)) : List (Nat × Operand) → Option (List (Nat × Nat × Opd))
  | [] => some []
  | (i, x) :: r => match pl i, trX x, trParts pl r with
    | some (o, n), some x, some l => some ((o, n, x) :: l)
    | _, _, _ => none
def trLit : Nat → List (Nat × Operand) → Option (List Opd)
  | _, [] => some []
  | k, (i, x) :: r => if i = k then match trX x, trLit (k + 1) r with
    | some x, some l => some (x :: l)
    | _, _ => none else none
def findB : List (Nat × List Key) → Nat → Option (List Key)
  | [], _ => none
  | (d, l) :: r, n => if d = n then some l else findB r n

def trCall (P : Program) (h : Hints) (c : Call) (dst : Option Nat) : Option MO :=
  match c.callee with
  | .builtin .len => match c.args.toList, c.argTypes.toList, dst with
    | [x], [t], some d => match P.underlying t with
      | some (.slice _) => (trX x).map (.len d)
      | some .string => (trX x).map (.slen d)
      | _ => none
    | _, _, _ => none
  | .builtin .append => match c.args.toList, c.argTypes.toList, dst with
    | [x, y], [t, t'], some d => if t = t' then match P.underlying t with
      | some (.slice e) => match P.info? e with
        | some i => match i.zero, trX x, trX y with
          | some z, some x, some y => if z.cells.size = i.size then some (.append d x y e i.size i.bytes) else none
          | _, _, _ => none
        | none => none
      | _ => none else none
    | _, _, _ => none
  | .builtin .max => match trXs c.args.toList, dst with
    | some xs, some d => some (.mx d xs)
    | _, _ => none
  | .builtin .min => match trXs c.args.toList, dst with
    | some xs, some d => some (.mn d xs)
    | _, _ => none
  | .value f => match trX f, trXs c.args.toList with
    | some f, some xs => match findB h.bor (dst.getD 0) with
      | some [] => match xs, dst with
        | x :: xs, some d => some (.acall d f x xs)
        | _, _ => none
      | some ρ => some (.callB dst f xs ρ)
      | none => some (.call dst f xs)
    | _, _ => none
  | _ => none

def trOp (P : Program) (h : Hints) (o : Oper) : Option MO :=
  match o.op, o.dst with
  | .move x, some d => (trX x).map (.mv d)
  | .assign x, some d => (trX x).map (.mv d)
  | .pick c a b, some d => match trX c, trX a, trX b with
    | some c, some a, some b => some (.pick d c a b)
    | _, _, _ => none
  | .alloc e, some d => (zeroOf P e).map (.alloc d)
  | .box _ x, some d => (trX x).map fun x => if d ∈ h.cst then .boxc d x else .box d x
  | .build t ps, some d => match P.info? t, P.underlying t with
    | some it, some (.struct fs) => match it.zero, places P fs.toList with
      | some z, some pl => match trVs z.cells.toList, trParts (pl[·]?) ps.toList with
        | some zs, some ps => some (.build d zs ps)
        | _, _ => none
      | _, _ => none
    | some it, some (.array _ e) => match it.zero, P.info? e with
      | some z, some ie => match trVs z.cells.toList, trParts (fun i => some (i * ie.size, ie.size)) ps.toList with
        | some zs, some ps => some (.build d zs ps)
        | _, _ => none
      | _, _ => none
    | _, _ => none
  | .buildSlice t n ps, some d => match P.underlying t with
    | some (.slice e) => match P.info? e with
      | some i => match i.zero, trLit 0 ps.toList with
        | some z, some xs => if xs.length = n ∧ 0 < n ∧ 0 < i.size ∧ n * i.size ≤ 16777216 then some (.lit d i.size xs) else none
        | _, _ => none
      | none => none
    | _ => none
  | .load t x, some d => match nOf P t, trX x with
    | some n, some x => some (.load d x n)
    | _, _ => none
  | .store t x y, none => match szOf P t, trX x, trX y with
    | some n, some x, some y => some (.store x y n)
    | _, _, _ => none
  | .nilCheck x, some d => (trX x).map (.nilc d)
  | .fieldAddr s x f, some d => match P.underlying s with
    | some (.struct fs) => match fs[f]? with
      | some fl => match szOf P fl.type, trX x with
        | some n, some x => if n = 0 then none else some (.fad d x fl.offset)
        | _, _ => none
      | none => none
    | _ => none
  | .field s x f, some d => match P.underlying s with
    | some (.struct fs) => match fs[f]? with
      | some fl => match nOf P fl.type, trX x with
        | some n, some x => some (.fld d x fl.offset n)
        | _, _ => none
      | none => none
    | _ => none
  | .indexAddr t x i, some d => match P.underlying t with
    | some (.slice e) => match szOf P e, trX x, trX i with
      | some n, some x, some i => some (.iad d x i n)
      | _, _, _ => none
    | some (.array len e) => match szOf P e, trX x, trX i with
      | some n, some x, some i => some (.aad d x i len n)
      | _, _, _ => none
    | _ => none
  | .index t x i, some d => match P.underlying t with
    | some (.array len e) => match szOf P e, nOf P e, trX x, trX i with
      | some sz, some n, some x, some i => some (.idx d x i len sz n)
      | _, _, _, _ => none
    | _ => none
  | .extract x i, some d => (trX x).map fun x => .ext d x i
  | .binOp op t x y _, some d => match trX x, trX y with
    | some x, some y => match op, P.underlying t with
      | .eql, some .bool => some (.binb d false x y)
      | .neq, some .bool => some (.binb d true x y)
      | _, _ => some (.bin d op x y)
    | _, _ => none
  | .unOp op _ x, some d => (trX x).map (.un d op)
  | .convert s t x, some d => match P.underlying s, P.underlying t with
    | some (.int _), some (.int k) => (trX x).map (.conv d k)
    | _, _ => none
  | .makeFunc (.func f) fs caps, some d => if fs.size = 0 then (trXs caps.toList).map (.mkfn d f) else none
  | .makeSlice t (.tmp l) (.tmp c), some d => if l = c then match P.underlying t with
    | some (.slice e) => match P.info? e with
      | some i => match i.zero with
        | some z => match trVs z.cells.toList with
          | some zs => if z.cells.size = i.size ∧ i.bytes ≤ 1000 then some (.mksl d (.t l) zs) else none
          | none => none
        | none => none
      | none => none
    | _ => none else none
  | .makeSlice t (.const (.int _ l)) (.tmp c), some d => if l = 0 then match P.underlying t with
    | some (.slice e) => match P.info? e with
      | some i => match i.zero with
        | some _ => some (.mkrow d (.t c) e i.size i.bytes)
        | none => none
      | none => none
    | _ => none else none
  | .slice t x lo hi none, some d => match P.underlying t, trX x with
    | some (.slice e), some x => match szOf P e with
      | some n => match lo, hi with
        | none, none => some (.cut d x none none n)
        | some l, none => (trX l).map fun l => .cut d x (some l) none n
        | none, some h => (trX h).map fun h => .cut d x none (some h) n
        | some l, some h => match trX l, trX h with
          | some l, some h => some (.cut d x (some l) (some h) n)
          | _, _ => none
      | none => none
    | _, _ => none
  | .makeInterface t x, some d => match P.underlying t with
    | some (.struct fs) => if fs.size = 0 then (trX x).map (.mkif d t) else none
    | _ => none
  | .panic x, _ => (trX x).map .pan
  | .call c, dst => trCall P h c dst
  | _, _ => none

/-! ### Constants, operands -/
theorem trV_rep {w : World} {N Nf : Nat → Prop} {M : Pl} {v : Value} {l : LV} (h : trV v = some l) : RepL w N Nf M l v := by
  unfold trV at h
  split at h <;> first | (simp only [Option.some.injEq] at h; subst h) | cases h
  · exact .fresh _ _ (.int _ _)
  · exact .fresh _ _ (.bool _)
  · exact .fresh _ _ (.str _)
  · exact .nils
  · exact .fresh _ _ .nilp
  · exact .undef _
theorem trV_one {v : Value} {l : LV} (h : trV v = some l) : v.oneCell' = true := by
  unfold trV at h
  split at h <;> first | rfl | cases h
theorem trVs_rep {w : World} {N Nf : Nat → Prop} {M : Pl} : ∀ {vs : List Value} {ls : List LV}, trVs vs = some ls → Rows2 (RepL w N Nf M) ls vs ∧ ∀ v ∈ vs, v.oneCell' = true
  | [], ls, h => by simp only [trVs, Option.some.injEq] at h; subst h; exact ⟨Rows2.nil, by simp⟩
  | v :: r, ls, h => by
    simp only [trVs] at h
    split at h
    · rename_i l ls' h1 h2
      simp only [Option.some.injEq] at h; subst h
      obtain ⟨h3, h4⟩ := trVs_rep (w := w) (N := N) (Nf := Nf) (M := M) h2
      exact ⟨Rows2.cons (trV_rep h1) h3, fun u hu => by
        rcases List.mem_cons.1 hu with rfl | hu
        · exact trV_one h1
        · exact h4 u hu⟩
    · cases h

section
variable {P : Program} {cx : Cx} {σ : St} {M : Pl} {a : Act} {w : World}

theorem trX_rep (h : Inv cx σ M a w) {x : Operand} {y : Opd} (hx : trX x = some y) : RR cx σ.s σ.z M w (σ.ev y) (a.eval x) := by
  cases x with
  | tmp t => simp only [trX, Option.some.injEq] at hx; subst hx; exact h.env t
  | const v =>
    simp only [trX, Option.map_eq_some_iff] at hx
    obtain ⟨l, hl, rfl⟩ := hx
    exact trV_rep hl
  | func f => simp only [trX, Option.some.injEq] at hx; subst hx; exact .fn f [] [] rfl fun j hj => by simp at hj
  | «global» g => simp [trX] at hx
theorem trXs_rep (h : Inv cx σ M a w) : ∀ {xs : List Operand} {ys : List Opd}, trXs xs = some ys → Rows2 (RR cx σ.s σ.z M w) (ys.map σ.ev) (xs.map a.eval)
  | [], ys, hx => by simp only [trXs, Option.some.injEq] at hx; subst hx; exact Rows2.nil
  | x :: r, ys, hx => by
    simp only [trXs] at hx
    split at hx
    · rename_i l ls h1 h2
      simp only [Option.some.injEq] at hx; subst hx
      exact Rows2.cons (trX_rep h h1) (trXs_rep h h2)
    · cases hx

/-! ### Loads -/
theorem run_loadVar_some {t : TypeId} {n : Nat} (hn : nOf P t = some (some n)) (ad : Addr) (vs : List Value) (hl : vs.length = n) (hc : ∀ j v, vs[j]? = some v → w.cell? (ad.add j) = some v) :
    (loadVar t ad).run P w = .ok (.agg vs.toArray) w := by
  have hs : ∃ d, P.underlying t = some d ∧ (isAgg t).run P w = .ok true w ∧ (Go.sizeOf t).run P w = .ok n w := by
    unfold nOf at hn
    cases hu : P.underlying t with
    | none => simp [hu] at hn
    | some d =>
      cases hi : P.info? t with
      | none => cases d <;> simp [hu, hi] at hn
      | some i => cases d <;> simp [hu, hi] at hn <;> (subst hn; exact ⟨_, rfl, by simp [isAgg, run_underlying hu], by simp [Go.sizeOf, typeInfo, hi]⟩)
  obtain ⟨d, hu, h1, h2⟩ := hs
  have h3 := run_loadCells_list (P := P) w ad vs hc
  rw [hl] at h3
  simp [loadVar, h1, h2, h3]
theorem run_loadVar_none {t : TypeId} (hn : nOf P t = some none) (ad : Addr) (v : Value) (hc : w.cell? ad = some v) : (loadVar t ad).run P w = .ok v w := by
  have hs : (isAgg t).run P w = .ok false w := by
    unfold nOf at hn
    cases hu : P.underlying t with
    | none => simp [hu] at hn
    | some d =>
      cases d <;> first | (simp [isAgg, run_underlying hu]; done) | (cases hi : P.info? t <;> simp [hu, hi] at hn)
  simp [loadVar, hs, hc]
theorem run_part_some {t : TypeId} {n : Nat} (hn : nOf P t = some (some n)) (cs : Array Value) (off : Nat) :
    (part t cs off).run P w = .ok (.agg (cs.extract off (off + n))) w := by
  have hs : ∃ d, P.underlying t = some d ∧ (isAgg t).run P w = .ok true w ∧ (Go.sizeOf t).run P w = .ok n w := by
    unfold nOf at hn
    cases hu : P.underlying t with
    | none => simp [hu] at hn
    | some d =>
      cases hi : P.info? t with
      | none => cases d <;> simp [hu, hi] at hn
      | some i => cases d <;> simp [hu, hi] at hn <;> (subst hn; exact ⟨_, rfl, by simp [isAgg, run_underlying hu], by simp [Go.sizeOf, typeInfo, hi]⟩)
  obtain ⟨d, hu, h1, h2⟩ := hs
  simp [part, h1, h2]
theorem run_part_none {t : TypeId} (hn : nOf P t = some none) (cs : Array Value) (off : Nat) (v : Value) (hc : cs[off]? = some v) : (part t cs off).run P w = .ok v w := by
  have hs : (isAgg t).run P w = .ok false w := by
    unfold nOf at hn
    cases hu : P.underlying t with
    | none => simp [hu] at hn
    | some d =>
      cases d <;> first | (simp [isAgg, run_underlying hu]; done) | (cases hi : P.info? t <;> simp [hu, hi] at hn)
  simp [part, hs, hc]

theorem add_flat (b o j : Nat) : (⟨b, o, none⟩ : Addr).add j = ⟨b, o + j, none⟩ := by unfold Addr.add; split <;> simp_all

/-- A part of a row of cells that lies in memory. -/
theorem load_sound {R : LV → Value → Prop} (hagg : ∀ cs vs, Rows2 R cs vs → (∀ v ∈ vs, v.oneCell' = true) → R (.agg cs) (.agg vs.toArray)) {t : TypeId} {n : Option Nat} (hn : nOf P t = some n) {b o : Nat} {cs : List LV} {vs : List Value} (hr : Rows2 R cs vs) (h1 : ∀ v ∈ vs, v.oneCell' = true)
    (hc : ∀ j v, vs[j]? = some v → w.cell? ⟨b, o + j, none⟩ = some v) {off : Nat} {lv : LV} (hp : partOf cs off n = some lv) :
    ∃ v, (loadVar t ⟨b, o + off, none⟩).run P w = .ok v w ∧ R lv v := by
  cases n with
  | none =>
    simp only [partOf] at hp
    obtain ⟨v, hv, hR⟩ := hr.getD hp
    exact ⟨v, run_loadVar_none hn _ v (hc off v hv), hR⟩
  | some n =>
    simp only [partOf] at hp
    split at hp
    · rename_i hle
      simp only [Option.some.injEq] at hp; subst hp
      have hlen := hr.1
      refine ⟨_, run_loadVar_some hn _ ((vs.drop off).take n) (by simp; omega) (fun j v hv => ?_), hagg _ _ ((hr.drop off).take n) (fun v hv => h1 v (List.mem_of_mem_drop (List.mem_of_mem_take hv)))⟩
      rw [add_flat, Nat.add_assoc]
      refine hc (off + j) v ?_
      rw [List.getElem?_take] at hv
      split at hv
      · simpa using hv
      · cases hv
    · cases hp
theorem part_sound {R : LV → Value → Prop} (hagg : ∀ cs vs, Rows2 R cs vs → (∀ v ∈ vs, v.oneCell' = true) → R (.agg cs) (.agg vs.toArray)) {t : TypeId} {n : Option Nat} (hn : nOf P t = some n) {cs : List LV} {vs : Array Value} (hr : Rows2 R cs vs.toList) (h1 : ∀ v ∈ vs.toList, v.oneCell' = true)
    {off : Nat} {lv : LV} (hp : partOf cs off n = some lv) :
    ∃ v, (part t vs off).run P w = .ok v w ∧ R lv v := by
  cases n with
  | none =>
    simp only [partOf] at hp
    obtain ⟨v, hv, hR⟩ := hr.getD hp
    exact ⟨v, run_part_none hn _ _ v (by simpa using hv), hR⟩
  | some n =>
    simp only [partOf] at hp
    split at hp
    · rename_i hle
      simp only [Option.some.injEq] at hp; subst hp
      refine ⟨_, run_part_some hn _ _, ?_⟩
      have := hagg _ _ ((hr.drop off).take n) (fun v hv => h1 v (List.mem_of_mem_drop (List.mem_of_mem_take hv)))
      have he : vs.extract off (off + n) = ((vs.toList.drop off).take n).toArray := by
        apply Array.toList_inj.1
        simp [Array.toList_extract]
      rw [he]; exact this
    · cases hp

theorem RR.agg {cx : Cx} {s : List (Key × Box)} {z : List Key} {M : Pl} {w : World} (cs : List LV) (vs : List Value) (h : Rows2 (RR cx s z M w) cs vs) (h1 : ∀ v ∈ vs, v.oneCell' = true) : RR cx s z M w (.agg cs) (.agg vs.toArray) :=
  RepL.agg cs vs h.1 h1 h.2

/-! ### A new block that nobody will change -/
theorem NS.grow {o : Obj} {b : Nat} (h : NS cx σ.s σ.z M w b) : NS cx σ.s σ.z M (w.alloc o) b := ⟨h.1, by simp; have := h.2.1; omega, h.2.2⟩
theorem Inv.grow (h : Inv cx σ M a w) (o : Obj) : Inv cx σ M a (w.alloc o) := by
  have up : ∀ v x, RR cx σ.s σ.z M w v x → RR cx σ.s σ.z M (w.alloc o) v x := fun v x hx => RR.up (fun b hb => hb.grow) (fun _ _ h => h) (fun b hb => heap_alloc_old w _ b hb.2.1) hx
  exact { os := h.os, tape := h.tape, output := h.output, plc := h.plc, own := h.own, arg := h.arg, argM := h.argM, inj := h.inj, defers := h.defers, argz := h.argz
          gho := gho_up h.gho (by simp) (fun b hb => hb.grow) (fun b hb => heap_alloc_old w _ b hb.2.1)
          size := by simp; have := h.size; omega
          frame := fun b hb hi => (heap_alloc_old w _ b (by have := h.size; omega)).trans (h.frame b hb hi)
          box := fun k b pl hk hM => (h.box k b pl hk hM).up up (heap_alloc_old w _ _ (h.box k b pl hk hM).lt)
          env := fun t => up _ _ (h.env t) }
theorem NS.last (h : Inv cx σ M a w) (vs : Array Value) (e : TypeId) : NF cx σ.s σ.z M (w.alloc (.cells vs e)) w.heap.size :=
  ⟨⟨.inr h.size, by simp, fun k c hk _ hM => by have := h.lt hk hM; simp at this⟩, h.size, fun o => free_of (heap_alloc_new w _) o⟩

theorem Inv.drew (h : Inv cx σ M a w) : Inv cx σ M a w.drew := by
  have up : ∀ v x, RR cx σ.s σ.z M w v x → RR cx σ.s σ.z M w.drew v x := fun v x hx => RR.up (w := w) (s := σ.s) (z := σ.z) (M := M) (s' := σ.s) (z' := σ.z) (M' := M) (w' := w.drew) (fun b hb => ⟨hb.1, hb.2.1, hb.2.2⟩) (fun _ _ h => h) (fun b hb => rfl) hx
  exact { os := h.os, tape := h.tape, output := h.output, plc := h.plc, own := h.own, arg := h.arg, argM := h.argM, inj := h.inj, defers := h.defers, argz := h.argz
          gho := h.gho
          size := h.size, frame := h.frame
          box := fun k b pl hk hM => (h.box k b pl hk hM).up up rfl
          env := fun t => up _ _ (h.env t) }

theorem resL_reps' (h : Inv cx σ M a w) {cs : List LV} {vs : List Value} {f : Bool} {ivs : List IV} {l : List Key} (hr : Rows2 (RR cx σ.s σ.z M w) cs vs) (hres : resL (res σ.s depth0) cs = some (f, ivs)) (hl : ∀ k ∈ keysL (keys σ.s depth0) cs, k ∈ l) :
    ivs.length = vs.length ∧ ∀ j (h1 : j < ivs.length) (h2 : j < vs.length), RepI w (if f then NF cx σ.s (addZ l σ.z) M w else NS cx σ.s (addZ l σ.z) M w) ivs[j] vs[j] := by
  refine ⟨by rw [resL_length hres, hr.1], fun j h1 h2 => ?_⟩
  exact resL_reps (RI := fun b v x => RepI w (if b = true then NF cx σ.s (addZ l σ.z) M w else NS cx σ.s (addZ l σ.z) M w) v x) (fun b v x hx => by
      cases b
      · exact hx.mono (fun b hb => hb.1) (fun _ _ _ _ h => h)
      · exact hx) (fun a ha b v x hf hR => res_sound h l depth0 a b v x hf (fun k hk' => hl k (keysL_mem ha hk')) hR) hres hr j h1 h2

theorem keys_own (h : Inv cx σ M a w) : ∀ (n : Nat) (lv : LV) (p : Bool × IV), res σ.s n lv = some p → ∀ k ∈ keys σ.s n lv, k.isOwn = true := by
  intro n
  induction n with
  | zero => intro lv p hp; simp [res] at hp
  | succ n ih =>
    have ihL : ∀ (l : List LV) (p : Bool × List IV), resL (res σ.s n) l = some p → ∀ k ∈ keysL (keys σ.s n) l, k.isOwn = true := by
      intro l
      induction l with
      | nil => intro p _ k hk; simp [keysL] at hk
      | cons x l ihl =>
        intro p hp k hk
        obtain ⟨b, v, c, us, h1, h2, _, _⟩ := resL_cons (g := p.1) (vs := p.2) hp
        simp only [keysL, List.mem_append] at hk
        rcases hk with hk | hk
        · exact ih x _ h1 k hk
        · exact ihl _ h2 k hk
    have ihLL : ∀ (l : List (List LV)) (p : Bool × List (List IV)), resLL (res σ.s n) l = some p → ∀ k ∈ keysLL (keys σ.s n) l, k.isOwn = true := by
      intro l
      induction l with
      | nil => intro p _ k hk; simp [keysLL] at hk
      | cons x l ihl =>
        intro p hp k hk
        obtain ⟨b, v, c, us, h1, h2, _, _⟩ := resLL_cons (g := p.1) (vs := p.2) hp
        simp only [keysLL, List.mem_append] at hk
        rcases hk with hk | hk
        · exact ihL x _ h1 k hk
        · exact ihl _ h2 k hk
    intro lv p hp k hk
    cases lv with
    | undef => simp [res] at hp
    | fn g caps => simp [res] at hp
    | unitI t => simp [res] at hp
    | imm g u => simp [keys] at hk
    | nils => simp [keys] at hk
    | agg cells =>
      simp only [res] at hp
      split at hp
      · rename_i g vs hg; exact ihL _ _ hg k (by simpa [keys] using hk)
      · cases hp
    | tup cells =>
      simp only [res] at hp
      split at hp
      · rename_i g vs hg; exact ihL _ _ hg k (by simpa [keys] using hk)
      · cases hp
    | loc k' off =>
      simp only [res] at hp
      split at hp
      · rename_i cells hb
        split at hp
        · rename_i g vs hg
          split at hp
          · rename_i hko
            simp only [keys, hb, List.mem_cons] at hk
            rcases hk with rfl | hk
            · exact hko
            · exact ihL _ _ hg k hk
          · cases hp
        · cases hp
      · cases hp
    | row k' m =>
      simp only [res] at hp
      split at hp
      · rename_i e sz elems hb
        split at hp
        · split at hp
          · rename_i g vs hg
            split at hp
            · rename_i hko
              simp only [keys, hb, List.mem_cons] at hk
              rcases hk with rfl | hk
              · exact hko
              · exact ihLL _ _ hg k hk
            · cases hp
          · cases hp
        · cases hp
      · cases hp
theorem keysL_own (h : Inv cx σ M a w) (n : Nat) : ∀ (l : List LV) (p : Bool × List IV), resL (res σ.s n) l = some p → ∀ k ∈ keysL (keys σ.s n) l, k.isOwn = true := by
  intro l
  induction l with
  | nil => intro p _ k hk; simp [keysL] at hk
  | cons x l ihl =>
    intro p hp k hk
    obtain ⟨b, v, c, us, h1, h2, _, _⟩ := resL_cons (g := p.1) (vs := p.2) hp
    simp only [keysL, List.mem_append] at hk
    rcases hk with hk | hk
    · exact keys_own h n x _ h1 k hk
    · exact ihl _ h2 k hk
end
end Go.Proofs.YtopgmopdjiahmaaDoor.Lg
