/- An operation hangs on what it reads alone; operations that touch nothing of one another's may change places. Conditions: none; plain lemmas. -/
import Derived.Test.YtopgmopdjiahmaaDoorLk
set_option linter.unusedVariables false
set_option linter.unusedSimpArgs false
namespace Go.Proofs.YtopgmopdjiahmaaDoor.Lg
open Go Go.RowKit

def Opd.tmps : Opd → List Nat
  | .t n => [n]
  | .c _ => []
def tmpsL : List Opd → List Nat
  | [] => []
  | x :: r => x.tmps ++ tmpsL r
def tmpsO : Option Opd → List Nat
  | none => []
  | some x => x.tmps
def MO.reads : MO → List Nat
  | .mv _ x | .box _ x | .boxc _ x | .load _ x _ | .nilc _ x | .fad _ x _ | .fld _ x _ _ | .ext _ x _ | .un _ _ x | .conv _ _ x | .len _ x | .slen _ x | .mkif _ _ x | .pan x | .mksl _ x _ | .mkrow _ x _ _ _ => x.tmps
  | .pick _ c a b => c.tmps ++ (a.tmps ++ b.tmps)
  | .alloc _ _ => []
  | .build _ _ ps => tmpsL (ps.map fun p => p.2.2)
  | .lit _ _ ps => tmpsL ps
  | .store x y _ | .iad _ x y _ | .aad _ x y _ _ | .idx _ x y _ _ _ | .bin _ _ x y | .binb _ _ x y | .append _ x y _ _ _ => x.tmps ++ y.tmps
  | .mx _ xs | .mn _ xs | .mkfn _ _ xs => tmpsL xs
  | .cut _ x lo hi _ => x.tmps ++ (tmpsO lo ++ tmpsO hi)
  | .call _ f xs | .callB _ f xs _ => f.tmps ++ tmpsL xs
  | .acall _ f x xs => f.tmps ++ (x.tmps ++ tmpsL xs)

def Eff.wr (E : Eff) : List Key := E.u.map (·.1)
def Eff.touch (E : Eff) : List Key := E.r ++ (E.wr ++ E.z)

/-- Two states say the same of these temporaries and boxes. -/
structure Agree (σ σ' : St) (ts : List Nat) (ks ws : List Key) : Prop where
  t : ∀ n ∈ ts, σ'.get n = σ.get n
  b : ∀ k ∈ ks, getB σ'.s k = getB σ.s k
  z : ∀ k ∈ ws, (k ∈ σ'.z ↔ k ∈ σ.z)

theorem Agree.sub {σ σ' : St} {ts ts' : List Nat} {ks ks' ws ws' : List Key} (h : Agree σ σ' ts ks ws) (h1 : ∀ n ∈ ts', n ∈ ts) (h2 : ∀ k ∈ ks', k ∈ ks) (h3 : ∀ k ∈ ws', k ∈ ws) : Agree σ σ' ts' ks' ws' :=
  ⟨fun n hn => h.t n (h1 n hn), fun k hk => h.b k (h2 k hk), fun k hk => h.z k (h3 k hk)⟩

theorem ev_agree {σ σ' : St} {x : Opd} (h : ∀ n ∈ x.tmps, σ'.get n = σ.get n) : σ'.ev x = σ.ev x := by
  cases x with
  | t n => exact h n (by simp [Opd.tmps])
  | c v => rfl
theorem evL_agree {σ σ' : St} : ∀ {xs : List Opd}, (∀ n ∈ tmpsL xs, σ'.get n = σ.get n) → xs.map σ'.ev = xs.map σ.ev
  | [], _ => rfl
  | x :: r, h => by
    simp only [List.map_cons]
    rw [ev_agree (fun n hn => h n (by simp only [tmpsL, List.mem_append]; exact .inl hn)), evL_agree (fun n hn => h n (by simp only [tmpsL, List.mem_append]; exact .inr hn))]

section res
variable {s s' : List (Key × Box)}
theorem resL_local {f f' : LV → Option (Bool × IV)} : ∀ {l : List LV} {p : Bool × List IV}, (∀ a ∈ l, ∀ q, f a = some q → f' a = some q) → resL f l = some p → resL f' l = some p
  | [], p, _, h => h
  | a :: r, p, hf, h => by
    obtain ⟨b, v, c, us, h1, h2, e1, e2⟩ := resL_cons (g := p.1) (vs := p.2) h
    have h1' := hf a List.mem_cons_self _ h1
    have h2' := resL_local (fun a ha => hf a (List.mem_cons_of_mem _ ha)) h2
    simp only [resL, h1', h2', ← e1, ← e2]
theorem resLL_local {f f' : LV → Option (Bool × IV)} : ∀ {l : List (List LV)} {p : Bool × List (List IV)}, (∀ a ∈ l.flatten, ∀ q, f a = some q → f' a = some q) → resLL f l = some p → resLL f' l = some p
  | [], p, _, h => h
  | a :: r, p, hf, h => by
    obtain ⟨b, v, c, us, h1, h2, e1, e2⟩ := resLL_cons (g := p.1) (vs := p.2) h
    have h1' := resL_local (f' := f') (fun x hx => hf x (by rw [List.flatten_cons]; exact List.mem_append.2 (.inl hx))) h1
    have h2' := resLL_local (f' := f') (fun x hx => hf x (by rw [List.flatten_cons]; exact List.mem_append.2 (.inr hx))) h2
    simp only [resLL, h1', h2', ← e1, ← e2]
theorem keysL_local {f f' : LV → List Key} : ∀ {l : List LV}, (∀ a ∈ l, f' a = f a) → keysL f' l = keysL f l
  | [], _ => rfl
  | a :: r, h => by simp only [keysL]; rw [h a List.mem_cons_self, keysL_local (fun b hb => h b (List.mem_cons_of_mem _ hb))]
theorem keysLL_local {f f' : LV → List Key} : ∀ {l : List (List LV)}, (∀ a ∈ l.flatten, f' a = f a) → keysLL f' l = keysLL f l
  | [], _ => rfl
  | a :: r, h => by
    simp only [keysLL]
    rw [keysL_local (fun b hb => h b (by rw [List.flatten_cons]; exact List.mem_append.2 (.inl hb))), keysLL_local (fun b hb => h b (by rw [List.flatten_cons]; exact List.mem_append.2 (.inr hb)))]

theorem res_local : ∀ (n : Nat) (lv : LV), (∀ k ∈ keys s n lv, getB s' k = getB s k) → (∀ p, res s n lv = some p → res s' n lv = some p) ∧ keys s' n lv = keys s n lv := by
  intro n
  induction n with
  | zero => intro lv _; exact ⟨fun p h => h, rfl⟩
  | succ n ih =>
    intro lv hk
    cases lv with
    | undef => exact ⟨fun p h => h, rfl⟩
    | fn g c => exact ⟨fun p h => h, rfl⟩
    | unitI t => exact ⟨fun p h => h, rfl⟩
    | imm f v => exact ⟨fun p h => h, rfl⟩
    | nils => exact ⟨fun p h => h, rfl⟩
    | agg cs =>
      have hk' : ∀ a ∈ cs, ∀ k ∈ keys s n a, getB s' k = getB s k := fun a ha k hk1 => hk k (by simp only [keys]; exact keysL_mem ha hk1)
      refine ⟨fun p hp => ?_, by simp only [keys]; exact keysL_local fun a ha => (ih a (hk' a ha)).2⟩
      simp only [res] at hp ⊢
      split at hp
      · rename_i f vs hr
        rw [resL_local (fun a ha q => (ih a (hk' a ha)).1 q) hr]; exact hp
      · cases hp
    | tup cs =>
      have hk' : ∀ a ∈ cs, ∀ k ∈ keys s n a, getB s' k = getB s k := fun a ha k hk1 => hk k (by simp only [keys]; exact keysL_mem ha hk1)
      refine ⟨fun p hp => ?_, by simp only [keys]; exact keysL_local fun a ha => (ih a (hk' a ha)).2⟩
      simp only [res] at hp ⊢
      split at hp
      · rename_i f vs hr
        rw [resL_local (fun a ha q => (ih a (hk' a ha)).1 q) hr]; exact hp
      · cases hp
    | loc k off =>
      have hb : getB s' k = getB s k := hk k (by simp only [keys]; split <;> simp)
      refine ⟨fun p hp => ?_, ?_⟩
      · simp only [res, hb] at hp ⊢
        split at hp
        · rename_i cells hc
          have hk' : ∀ a ∈ cells, ∀ k ∈ keys s n a, getB s' k = getB s k := fun a ha k' hk1 => hk k' (by simp only [keys, hc]; exact List.mem_cons_of_mem _ (keysL_mem ha hk1))
          split at hp
          · rename_i f vs hr
            simp only [hc, resL_local (fun a ha q => (ih a (hk' a ha)).1 q) hr]; exact hp
          · cases hp
        · cases hp
      · simp only [keys, hb]
        cases hc : getB s k with
        | none => rfl
        | some b =>
          cases b with
          | row e sz es => rfl
          | var cells =>
            simp only
            rw [keysL_local fun a ha => (ih a (fun k' hk1 => hk k' (by simp only [keys, hc]; exact List.mem_cons_of_mem _ (keysL_mem ha hk1)))).2]
    | row k m =>
      have hb : getB s' k = getB s k := hk k (by simp only [keys]; split <;> simp)
      refine ⟨fun p hp => ?_, ?_⟩
      · simp only [res, hb] at hp ⊢
        split at hp
        · rename_i e sz elems hc
          have hk' : ∀ a ∈ elems.flatten, ∀ k ∈ keys s n a, getB s' k = getB s k := fun a ha k' hk1 => hk k' (by simp only [keys, hc]; exact List.mem_cons_of_mem _ (keysLL_mem ha hk1))
          split at hp
          · rename_i hl
            split at hp
            · rename_i f vs hr
              simp only [hc, hl, if_true, resLL_local (fun a ha q => (ih a (hk' a ha)).1 q) hr]; exact hp
            · cases hp
          · cases hp
        · cases hp
      · simp only [keys, hb]
        cases hc : getB s k with
        | none => rfl
        | some b =>
          cases b with
          | var cells => rfl
          | row e sz es =>
            simp only
            rw [keysLL_local fun a ha => (ih a (fun k' hk1 => hk k' (by simp only [keys, hc]; exact List.mem_cons_of_mem _ (keysLL_mem ha hk1)))).2]

theorem resL_keys {n : Nat} {l : List LV} (h : ∀ k ∈ keysL (keys s n) l, getB s' k = getB s k) : (∀ p, resL (res s n) l = some p → resL (res s' n) l = some p) ∧ keysL (keys s' n) l = keysL (keys s n) l :=
  ⟨fun p hp => resL_local (fun a ha q => (res_local n a (fun k hk => h k (keysL_mem ha hk))).1 q) hp, keysL_local fun a ha => (res_local n a (fun k hk => h k (keysL_mem ha hk))).2⟩
end res

theorem resAll_local {σ σ' : St} : ∀ {l : List LV} {p : Bool × List (List IV)}, (∀ k ∈ keysL (fun a => keysL (keys σ.s depth0) (a.cells.getD [])) l, getB σ'.s k = getB σ.s k) → resAll σ l = some p →
    resAll σ' l = some p ∧ keysL (fun a => keysL (keys σ'.s depth0) (a.cells.getD [])) l = keysL (fun a => keysL (keys σ.s depth0) (a.cells.getD [])) l
  | [], p, _, h => ⟨h, rfl⟩
  | a :: r, p, hk, h => by
    obtain ⟨cs, b, v, c, us, h0, h1, h2, e1, e2⟩ := resAll_cons (g := p.1) (vs := p.2) h
    have hk1 : ∀ k ∈ keysL (keys σ.s depth0) cs, getB σ'.s k = getB σ.s k := fun k hk' => hk k (by simp only [keysL, h0, Option.getD_some, List.mem_append]; exact .inl hk')
    obtain ⟨g1, g2⟩ := resL_keys hk1
    obtain ⟨g3, g4⟩ := resAll_local (fun k hk' => hk k (by simp only [keysL, List.mem_append]; exact .inr hk')) h2
    refine ⟨by simp only [resAll, h0, g1 _ h1, g3, ← e1, ← e2], ?_⟩
    simp only [keysL, h0, Option.getD_some, g2, g4]

theorem lendBoxes_local {σ σ' : St} {ρ : List Key} : ∀ {r : List Key} {S : List (List LV)}, (∀ k ∈ r, getB σ'.s k = getB σ.s k ∧ (k ∈ σ'.z ↔ k ∈ σ.z)) → lendBoxes σ ρ r = some S → lendBoxes σ' ρ r = some S
  | [], S, _, h => h
  | k :: r, S, hk, h => by
    obtain ⟨hb, hz⟩ := hk k List.mem_cons_self
    simp only [lendBoxes] at h ⊢
    split at h
    · cases h
    · rename_i hnz
      rw [if_neg (fun hc => hnz (hz.1 hc))]
      have hb' : σ'.box k = σ.box k := hb
      rw [hb']
      split at h
      · rename_i cs hc
        split at h
        · rename_i c l e1 e2
          simp only [e1, lendBoxes_local (fun k hk' => hk k (List.mem_cons_of_mem _ hk')) e2]; exact h
        · cases h
      · cases h
theorem give_local {σ σ' : St} {ρ : List Key} : ∀ {ls args : List LV}, (∀ k ∈ giveK σ ρ ls, getB σ'.s k = getB σ.s k) → giveL σ ρ ls = some args → giveL σ' ρ ls = some args ∧ giveK σ' ρ ls = giveK σ ρ ls
  | [], args, _, h => ⟨h, rfl⟩
  | b :: ls, args, hk, h => by
    simp only [giveL] at h ⊢
    split at h
    · rename_i c r e1 e2
      obtain ⟨g1, g2⟩ := give_local (fun k hk' => hk k (by simp only [giveK, List.mem_append]; exact .inr hk')) e2
      simp only [g1, giveK, g2]
      cases hl : lend ρ 4 b with
      | some l => simp only [hl] at e1 ⊢; simp only [Option.some.injEq] at e1 h; subst e1; exact ⟨by rw [← h], trivial⟩
      | none =>
        simp only [hl] at e1 ⊢
        obtain ⟨p, hp, rfl⟩ := Option.map_eq_some_iff.1 e1
        obtain ⟨g3, g4⟩ := res_local (s := σ.s) (s' := σ'.s) depth0 b (fun k hk' => hk k (by simp only [giveK, hl, List.mem_append]; exact .inl hk'))
        rw [g3 p hp, g4]
        exact ⟨h, rfl⟩
    · cases h

theorem fill_agree {σ σ' : St} (ps : List (Nat × Nat × Opd)) (h : ∀ n ∈ tmpsL (ps.map fun p => p.2.2), σ'.get n = σ.get n) : (ps.map fun (o, n, x) => (o, n, σ'.ev x)) = ps.map fun (o, n, x) => (o, n, σ.ev x) := by
  induction ps with
  | nil => rfl
  | cons p r ih =>
    obtain ⟨o, n, x⟩ := p
    simp only [List.map_cons, tmpsL, List.mem_append] at h ⊢
    rw [ev_agree (fun n hn => h n (.inl hn)), ih (fun n hn => h n (.inr hn))]

/-- **What an operation does hangs on what it reads alone.** -/
theorem Sat.local {P : Program} {σ σ' : St} {o : MO} {E : Eff} {p : Option TypeId} (h : Sat P σ o E p) (ha : Agree σ σ' o.reads E.touch E.wr) : Sat P σ' o E p := by
  have t2 : ∀ {x y : Opd}, (∀ n ∈ x.tmps ++ y.tmps, σ'.get n = σ.get n) → σ'.ev x = σ.ev x ∧ σ'.ev y = σ.ev y := fun {x y} h =>
    ⟨ev_agree fun n hn => h n (List.mem_append.2 (.inl hn)), ev_agree fun n hn => h n (List.mem_append.2 (.inr hn))⟩
  cases o with
  | mv d x => have := ev_agree ha.t; simp only [Sat, aop, this] at h ⊢; exact h
  | pick d c x y =>
    have e1 := ev_agree (x := c) fun n hn => ha.t n (List.mem_append.2 (.inl hn))
    obtain ⟨e2, e3⟩ := t2 (x := x) (y := y) fun n hn => ha.t n (List.mem_append.2 (.inr hn))
    simp only [Sat, aop, e1, e2, e3] at h ⊢; exact h
  | box d x => have := ev_agree ha.t; simp only [Sat, aop, this] at h ⊢; exact h
  | boxc d x =>
    have hev := ev_agree (x := x) ha.t
    obtain ⟨h1, h2⟩ := h
    refine ⟨?_, h2⟩
    simp only [aop, hev] at h1 ⊢
    split at h1
    · rename_i cs hcs
      split at h1
      · rename_i f vs hr
        simp only [Option.some.injEq] at h1; subst h1
        obtain ⟨g1, g2⟩ := resL_keys (s := σ.s) (s' := σ'.s) (n := depth0) (l := cs) fun k hk => ha.b k (by simp only [Eff.touch, List.mem_append]; exact .inl hk)
        simp only [hcs, g1 _ hr, g2]
      · cases h1
    · cases h1
  | alloc d zs => exact h
  | build d zs ps =>
    have := fill_agree (σ := σ) (σ' := σ') ps ha.t
    simp only [Sat, aop, this] at h ⊢; exact h
  | lit d sz ps =>
    have hev := evL_agree (σ := σ) (σ' := σ') (xs := ps) ha.t
    obtain ⟨h1, h2⟩ := h
    refine ⟨?_, h2⟩
    simp only [aop, hev] at h1 ⊢
    split at h1
    · rename_i f vs hr
      split at h1
      · rename_i hall
        simp only [Option.some.injEq] at h1; subst h1
        obtain ⟨g1, g2⟩ := resAll_local (σ := σ) (σ' := σ') (fun k hk => ha.b k (by simp only [Eff.touch, List.mem_append]; exact .inl hk)) hr
        simp only [g1, g2, hall, if_true]
      · cases h1
    · cases h1
  | load d x n =>
    have hev := ev_agree (x := x) ha.t
    obtain ⟨h1, h2⟩ := h
    refine ⟨?_, h2⟩
    simp only [aop, hev] at h1 ⊢
    split at h1
    · exact h1
    · rename_i k off he
      split at h1
      · rename_i b hb
        split at h1
        · rename_i v hv
          simp only [Option.some.injEq] at h1; subst h1
          have : σ'.box k = σ.box k := ha.b k (by simp [Eff.touch])
          simp only [this, hb, hv]
        · cases h1
      · cases h1
    · cases h1
  | store x y n =>
    obtain ⟨e1, e2⟩ := t2 (x := x) (y := y) ha.t
    obtain ⟨h1, h2⟩ := h
    refine ⟨?_, h2⟩
    simp only [aop, e1, e2] at h1 ⊢
    split at h1
    · rename_i k off he
      split at h1
      · cases h1
      · rename_i hz
        split at h1
        · rename_i cs hb
          split at h1
          · rename_i vs hv
            split at h1
            · rename_i hc
              simp only [Option.some.injEq] at h1; subst h1
              have hb' : σ'.box k = σ.box k := ha.b k (by simp [Eff.touch])
              have hz' : ¬ k ∈ σ'.z := fun hc => hz ((ha.z k (by simp [Eff.wr])).1 hc)
              simp only [hb', hb, hv, if_neg hz', if_pos hc]
            · cases h1
          · cases h1
        · cases h1
    · cases h1
  | nilc d x => have := ev_agree ha.t; simp only [Sat, aop, this] at h ⊢; exact h
  | fad d x o => have := ev_agree ha.t; simp only [Sat, aop, this] at h ⊢; exact h
  | fld d x o n => have := ev_agree ha.t; simp only [Sat, aop, this] at h ⊢; exact h
  | iad d x i sz => obtain ⟨e1, e2⟩ := t2 (x := x) (y := i) ha.t; simp only [Sat, aop, e1, e2] at h ⊢; exact h
  | aad d x i l sz => obtain ⟨e1, e2⟩ := t2 (x := x) (y := i) ha.t; simp only [Sat, aop, e1, e2] at h ⊢; exact h
  | idx d x i l sz n => obtain ⟨e1, e2⟩ := t2 (x := x) (y := i) ha.t; simp only [Sat, aop, e1, e2] at h ⊢; exact h
  | ext d x i => have := ev_agree ha.t; simp only [Sat, aop, this] at h ⊢; exact h
  | bin d op x y => obtain ⟨e1, e2⟩ := t2 (x := x) (y := y) ha.t; simp only [Sat, aop, e1, e2] at h ⊢; exact h
  | binb d op x y => obtain ⟨e1, e2⟩ := t2 (x := x) (y := y) ha.t; simp only [Sat, aop, e1, e2] at h ⊢; exact h
  | un d op x => have := ev_agree ha.t; simp only [Sat, aop, this] at h ⊢; exact h
  | conv d k x => have := ev_agree ha.t; simp only [Sat, aop, this] at h ⊢; exact h
  | len d x => have := ev_agree ha.t; simp only [Sat, aop, this] at h ⊢; exact h
  | slen d x => have := ev_agree ha.t; simp only [Sat, aop, this] at h ⊢; exact h
  | mkif d t x => have := ev_agree ha.t; simp only [Sat, aop, this] at h ⊢; exact h
  | pan x => have := ev_agree ha.t; simp only [Sat, this] at h ⊢; exact h
  | append d x y e sz by_ =>
    obtain ⟨e1, e2⟩ := t2 (x := x) (y := y) ha.t
    obtain ⟨h1, h2⟩ := h
    refine ⟨?_, h2⟩
    simp only [aop, e1, e2] at h1 ⊢
    split at h1
    · rename_i f news he
      split at h1
      · rename_i hc
        simp only [hc, if_true]
        split at h1
        · exact h1
        · rename_i k n he2
          split at h1
          · cases h1
          · rename_i hz
            split at h1
            · rename_i e' sz' es hb
              split at h1
              · rename_i hc2
                simp only [Option.some.injEq] at h1; subst h1
                have hb' : σ'.box k = σ.box k := ha.b k (by simp [Eff.touch])
                have hz' : ¬ k ∈ σ'.z := fun hc => hz ((ha.z k (by simp [Eff.wr])).1 hc)
                simp only [hb', hb, if_neg hz', if_pos hc2]
              · cases h1
            · cases h1
        · cases h1
      · cases h1
    · cases h1
  | mx d xs => have := evL_agree (σ := σ) (σ' := σ') (xs := xs) ha.t; simp only [Sat, aop, this] at h ⊢; exact h
  | mn d xs => have := evL_agree (σ := σ) (σ' := σ') (xs := xs) ha.t; simp only [Sat, aop, this] at h ⊢; exact h
  | mkfn d f xs => have := evL_agree (σ := σ) (σ' := σ') (xs := xs) ha.t; simp only [Sat, aop, this] at h ⊢; exact h
  | mksl d n zs => have := ev_agree ha.t; simp only [Sat, aop, this] at h ⊢; exact h
  | mkrow d n e sz by_ => have := ev_agree ha.t; simp only [Sat, aop, this] at h ⊢; exact h
  | cut d x lo hi sz =>
    have e1 := ev_agree (x := x) fun n hn => ha.t n (List.mem_append.2 (.inl hn))
    have e2 : ∀ l, lo = some l → σ'.ev l = σ.ev l := fun l hl => ev_agree fun n hn => ha.t n (List.mem_append.2 (.inr (List.mem_append.2 (.inl (by rw [hl]; exact hn)))))
    have e3 : ∀ l, hi = some l → σ'.ev l = σ.ev l := fun l hl => ev_agree fun n hn => ha.t n (List.mem_append.2 (.inr (List.mem_append.2 (.inr (by rw [hl]; exact hn)))))
    cases lo <;> cases hi <;> simp only [Sat, aop, e1] at h ⊢
    · exact h
    · rw [e3 _ rfl]; exact h
    · rw [e2 _ rfl]; exact h
    · rw [e2 _ rfl, e3 _ rfl]; exact h
  | call d f xs =>
    have e1 := ev_agree (x := f) fun n hn => ha.t n (List.mem_append.2 (.inl hn))
    have e2 := evL_agree (σ := σ) (σ' := σ') (xs := xs) fun n hn => ha.t n (List.mem_append.2 (.inr hn))
    obtain ⟨g, caps, fl, vs, fr, v, h1, h2, h3, h4, h5⟩ := h
    subst h4
    obtain ⟨g1, g2⟩ := resL_keys (s := σ.s) (s' := σ'.s) (n := depth0) (l := xs.map σ.ev ++ caps) fun k hk => ha.b k (by simp only [Eff.touch, List.mem_append]; exact .inl hk)
    exact ⟨g, caps, fl, vs, fr, v, by rw [e1]; exact h1, by rw [e2]; exact g1 _ h2, h3, by rw [e2, g2], h5⟩
  | callB d f xs ρ =>
    have e1 := ev_agree (x := f) fun n hn => ha.t n (List.mem_append.2 (.inl hn))
    have e2 := evL_agree (σ := σ) (σ' := σ') (xs := xs) fun n hn => ha.t n (List.mem_append.2 (.inr hn))
    obtain ⟨g, caps, args, S, o', S', u, h1, h2, h3, h4, h5, h6, h7, h8⟩ := h
    have hu := (backBoxes_spec h7).2.1
    have hr : E.r = ρ ++ giveK σ ρ (xs.map σ.ev ++ caps) ∧ E.u = u := by
      cases o' with
      | ret fr v => obtain ⟨rfl, _⟩ := h8; exact ⟨rfl, rfl⟩
      | pan t => obtain ⟨rfl, _⟩ := h8; exact ⟨rfl, rfl⟩
    obtain ⟨g1, g2⟩ := give_local (σ := σ) (σ' := σ') (ρ := ρ) (ls := xs.map σ.ev ++ caps) (fun k hk => ha.b k (by simp only [Eff.touch, hr.1, List.mem_append]; exact .inl (.inr hk))) h4
    have g3 := lendBoxes_local (σ := σ) (σ' := σ') (ρ := ρ) (r := ρ) (fun k hk => ⟨ha.b k (by simp only [Eff.touch, hr.1, List.mem_append]; exact .inl (.inl hk)), ha.z k (by rw [Eff.wr, hr.2, hu]; exact hk)⟩) h5
    refine ⟨g, caps, args, S, o', S', u, by rw [e1]; exact h1, h2, by rw [e2, g2]; exact h3, by rw [e2]; exact g1, g3, h6, h7, ?_⟩
    rw [e2, g2]; exact h8
  | acall d f x xs =>
    have e1 := ev_agree (x := f) fun n hn => ha.t n (List.mem_append.2 (.inl hn))
    have e0 := ev_agree (x := x) fun n hn => ha.t n (List.mem_append.2 (.inr (List.mem_append.2 (.inl hn))))
    have e2 := evL_agree (σ := σ) (σ' := σ') (xs := xs) fun n hn => ha.t n (List.mem_append.2 (.inr (List.mem_append.2 (.inr hn))))
    obtain ⟨g, e, ws, B, fl, vs, h1, h2, h3, h4, h5⟩ := h
    have hz : E.z = keysL (Lg.keys σ.s depth0) (xs.map σ.ev) := by
      rcases h5 with ⟨_, rfl⟩ | ⟨k, es, _, _, _, _, _, _, rfl⟩ <;> rfl
    obtain ⟨g1, g2⟩ := resL_keys (s := σ.s) (s' := σ'.s) (n := depth0) (l := xs.map σ.ev) fun k hk => ha.b k (by simp only [Eff.touch, List.mem_append, hz]; exact .inr (.inr hk))
    refine ⟨g, e, ws, B, fl, vs, by rw [e1]; exact h1, by rw [e2]; exact g1 _ h2, h3, h4, ?_⟩
    rcases h5 with ⟨h6, rfl⟩ | ⟨k, es, h6, h7, h8, h9, h10, h11, rfl⟩
    · exact .inl ⟨by rw [e0]; exact h6, by rw [e2, g2]⟩
    · refine .inr ⟨k, es, by rw [e0]; exact h6, fun hc => h7 ((ha.z k (by simp [Eff.wr])).1 hc), by rw [e2, g2]; exact h8, h9, ?_, h11, by rw [e2, g2]⟩
      exact (ha.b k (by simp [Eff.touch])).trans h10
end Go.Proofs.YtopgmopdjiahmaaDoor.Lg
