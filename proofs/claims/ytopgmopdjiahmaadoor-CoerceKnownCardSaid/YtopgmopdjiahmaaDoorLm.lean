/- Groups of operations, in whatever order they may come. Conditions: none; plain definitions and lemmas. -/
import Derived.Test.YtopgmopdjiahmaaDoorLl
set_option linter.unusedVariables false
set_option linter.unusedSimpArgs false
namespace Go.Proofs.YtopgmopdjiahmaaDoor.Lg
open Go Go.RowKit

/-- An operation with its guard: a temporary, and what it must hold. -/
structure MG where
  g : Option (Nat × Bool)
  o : MO

/-- what stands where an operation was not carried out -/
def dead : LV := .imm true (.tup [])
def yes : LV → Option (Option Bool)
  | .imm _ (.bool c) => some (some c)
  | .imm _ (.tup []) => some none
  | _ => none
def undefEff (o : MO) : Eff := { d := o.dst.map fun d => (d, dead), u := [], z := [], r := [] }

def SatG (P : Program) (σ : St) (m : MG) (E : Eff) (p : Option TypeId) : Prop := match m.g with
  | none => Sat P σ m.o E p
  | some (t, b) => ∃ c, yes (σ.get t) = some c ∧ ((c = some b ∧ Sat P σ m.o E p) ∨ (c ≠ some b ∧ E = undefEff m.o ∧ p = none))

def MG.reads (m : MG) : List Nat := (match m.g with | none => [] | some (t, _) => [t]) ++ m.o.reads

theorem SatG.local {P : Program} {σ σ' : St} {m : MG} {E : Eff} {p : Option TypeId} (h : SatG P σ m E p) (ha : Agree σ σ' m.reads E.touch E.wr) : SatG P σ' m E p := by
  unfold SatG at h ⊢
  have hr : Agree σ σ' m.o.reads E.touch E.wr := ha.sub (fun n hn => List.mem_append.2 (.inr hn)) (fun _ h => h) (fun _ h => h)
  split at h
  · exact h.local hr
  · rename_i t b hg
    obtain ⟨c, h1, h2⟩ := h
    refine ⟨c, by rw [ha.t t (by simp [MG.reads, hg])]; exact h1, ?_⟩
    rcases h2 with ⟨h2, h3⟩ | h2
    · exact .inl ⟨h2, h3.local hr⟩
    · exact .inr h2

theorem aop_dst {σ : St} {o : MO} {E : Eff} (h : aop σ o = some E) {d : Nat} {v : LV} (hd : E.d = some (d, v)) : o.dst = some d := by
  have hv : ∀ {d' : Nat} {lv : LV}, val d' lv = some E → d' = d := fun hv => by
    rw [val_eff hv] at hd
    simp only [Option.some.injEq, Prod.mk.injEq] at hd
    exact hd.1
  cases o <;> simp only [aop] at h <;> simp only [MO.dst]
  all_goals (repeat' (split at h))
  all_goals first
    | (cases h; done)
    | (rw [hv h]; done)
    | (simp only [Option.some.injEq] at h; subst h; simp only [Option.some.injEq, Prod.mk.injEq, reduceCtorEq] at hd; rw [hd.1]; done)
    | (simp only [Option.some.injEq] at h; subst h; simp at hd; done)

theorem Sat.dst {P : Program} {σ : St} {o : MO} {E : Eff} {p : Option TypeId} (h : Sat P σ o E p) {d : Nat} {v : LV} (hd : E.d = some (d, v)) : o.dst = some d := by
  cases hc : o.isCall with
  | false =>
    have hs : aop σ o = some E := by cases o <;> first | exact h.1 | (simp [MO.isCall] at hc)
    exact aop_dst hs hd
  | true =>
    cases o <;> simp [MO.isCall] at hc
    · obtain ⟨t, _, rfl, _⟩ := h; cases hd
    · obtain ⟨g, caps, fl, vs, fr, v', _, _, _, rfl, _⟩ := h
      simp only [Option.map_eq_some_iff, Prod.mk.injEq] at hd
      obtain ⟨d', h1, rfl, _⟩ := hd
      exact h1
    · obtain ⟨g, caps, args, S, o', S', u, _, _, _, _, _, _, _, h8⟩ := h
      cases o' with
      | ret fr v' =>
        obtain ⟨rfl, _⟩ := h8
        simp only [Option.map_eq_some_iff, Prod.mk.injEq] at hd
        obtain ⟨d', h1, rfl, _⟩ := hd
        exact h1
      | pan t => obtain ⟨rfl, _⟩ := h8; cases hd
    · obtain ⟨g, e, ws, fl, vs, _, _, _, _, _, h5⟩ := h
      rcases h5 with ⟨_, rfl⟩ | ⟨k, es, _, _, _, _, _, _, rfl⟩ <;> (simp only [Option.some.injEq, Prod.mk.injEq] at hd; simp [MO.dst, hd.1])
theorem SatG.dst {P : Program} {σ : St} {m : MG} {E : Eff} {p : Option TypeId} (h : SatG P σ m E p) {d : Nat} {v : LV} (hd : E.d = some (d, v)) : m.o.dst = some d := by
  unfold SatG at h
  split at h
  · exact h.dst hd
  · obtain ⟨c, _, h2⟩ := h
    rcases h2 with ⟨_, h3⟩ | ⟨_, rfl, _⟩
    · exact h3.dst hd
    · simp only [undefEff, Option.map_eq_some_iff, Prod.mk.injEq] at hd
      obtain ⟨d', h1, rfl, _⟩ := hd
      exact h1

/-! ### States that say the same -/
structure Same (σ σ' : St) : Prop where
  t : ∀ n, σ'.get n = σ.get n
  b : ∀ k, getB σ'.s k = getB σ.s k
  z : ∀ k, k ∈ σ'.z ↔ k ∈ σ.z
theorem Same.refl (σ : St) : Same σ σ := ⟨fun _ => rfl, fun _ => rfl, fun _ => Iff.rfl⟩
theorem Same.trans {a b c : St} (h : Same a b) (k : Same b c) : Same a c := ⟨fun n => (k.t n).trans (h.t n), fun n => (k.b n).trans (h.b n), fun n => (k.z n).trans (h.z n)⟩
theorem Same.symm {a b : St} (h : Same a b) : Same b a := ⟨fun n => (h.t n).symm, fun n => (h.b n).symm, fun n => (h.z n).symm⟩
theorem Same.agree {σ σ' : St} (h : Same σ σ') (ts : List Nat) (ks ws : List Key) : Agree σ σ' ts ks ws := ⟨fun n _ => h.t n, fun k _ => h.b k, fun k _ => h.z k⟩

theorem get_app (σ : St) (E : Eff) (n : Nat) : (σ.app E).get n = match E.d with | some (t, v) => if t = n then v else σ.get n | none => σ.get n := by
  unfold St.app St.get
  split
  · rename_i t v h
    simp only [h, getE_put]
  · rename_i h; simp [h]
theorem appU_other : ∀ (u : List (Key × Option Box)) (s : List (Key × Box)) (k : Key), k ∉ u.map (·.1) → getB (appU u s) k = getB s k
  | [], s, k, _ => rfl
  | (k', none) :: u, s, k, h => by
    simp only [List.map_cons, List.mem_cons, not_or] at h
    simp only [appU]
    rw [appU_other u _ k h.2, getB_del, if_neg (Ne.symm h.1)]
  | (k', some b) :: u, s, k, h => by
    simp only [List.map_cons, List.mem_cons, not_or] at h
    simp only [appU]
    rw [appU_other u _ k h.2, getB_set, if_neg (Ne.symm h.1)]
theorem appU_congr : ∀ (u : List (Key × Option Box)) (s s' : List (Key × Box)) (k : Key), getB s k = getB s' k → getB (appU u s) k = getB (appU u s') k
  | [], s, s', k, h => h
  | (k', none) :: u, s, s', k, h => by simp only [appU]; exact appU_congr u _ _ k (by rw [getB_del, getB_del, h])
  | (k', some b) :: u, s, s', k, h => by simp only [appU]; exact appU_congr u _ _ k (by rw [getB_set, getB_set, h])

theorem Same.app {σ σ' : St} (h : Same σ σ') (E : Eff) : Same (σ.app E) (σ'.app E) :=
  ⟨fun n => by rw [get_app, get_app]; split <;> simp [h.t], fun k => appU_congr _ _ _ k (h.b k), fun k => by simp only [St.app, mem_addZ]; rw [h.z k]⟩

/-- Two that touch nothing of one another's. -/
structure Ind (m m' : MG) (E F : Eff) : Prop where
  t1 : ∀ d, m.o.dst = some d → d ∉ m'.reads
  t2 : ∀ d, m'.o.dst = some d → d ∉ m.reads
  t3 : ∀ d, m.o.dst = some d → m'.o.dst ≠ some d
  k1 : ∀ k ∈ E.wr, k ∉ F.touch
  k2 : ∀ k ∈ F.wr, k ∉ E.touch

theorem Eff.wr_touch (E : Eff) (k : Key) (h : k ∈ E.wr) : k ∈ E.touch := List.mem_append.2 (.inr (List.mem_append.2 (.inl h)))
theorem Eff.z_touch (E : Eff) (k : Key) (h : k ∈ E.z) : k ∈ E.touch := List.mem_append.2 (.inr (List.mem_append.2 (.inr h)))

theorem agree_app {σ : St} {E F : Eff} {ts : List Nat} (h1 : ∀ d v, E.d = some (d, v) → d ∉ ts) (h2 : ∀ k ∈ E.wr, k ∉ F.touch) (h3 : ∀ k ∈ F.wr, k ∉ E.touch) : Agree σ (σ.app E) ts F.touch F.wr where
  t := fun n hn => by
    rw [get_app]
    split
    · rename_i t v h
      rw [if_neg]
      rintro rfl
      exact h1 t v h hn
    · rfl
  b := fun k hk => appU_other _ _ k fun hc => h2 k hc hk
  z := fun k hk => by
    simp only [St.app, mem_addZ]
    exact ⟨fun h => h.resolve_left fun hc => h3 k hk (E.z_touch k hc), .inr⟩

theorem app_comm {σ : St} {E F : Eff} (h0 : ∀ d v d' v', E.d = some (d, v) → F.d = some (d', v') → d ≠ d') (h2 : ∀ k ∈ E.wr, k ∉ F.touch) : Same ((σ.app E).app F) ((σ.app F).app E) where
  t := fun n => by
    simp only [get_app]
    cases hE : E.d with
    | none => rfl
    | some e =>
      cases hF : F.d with
      | none => rfl
      | some f =>
        obtain ⟨d, v⟩ := e
        obtain ⟨d', v'⟩ := f
        have := h0 d v d' v' hE hF
        by_cases e1 : d = n
        · subst e1
          simp [Ne.symm this]
        · simp [e1]
  b := fun k => by
    show getB (appU E.u (appU F.u σ.s)) k = getB (appU F.u (appU E.u σ.s)) k
    by_cases hk : k ∈ E.wr
    · have hk' : k ∉ F.u.map (·.1) := fun hc => h2 k hk (F.wr_touch k hc)
      rw [appU_other F.u _ k hk']
      exact appU_congr _ _ _ k (appU_other F.u _ k hk')
    · rw [appU_other E.u _ k hk]
      exact (appU_congr _ _ _ k (appU_other E.u _ k hk)).symm
  z := fun k => by
    simp only [St.app, mem_addZ]
    constructor
    · rintro (h | h | h)
      · exact .inr (.inl h)
      · exact .inl h
      · exact .inr (.inr h)
    · rintro (h | h | h)
      · exact .inr (.inl h)
      · exact .inl h
      · exact .inr (.inr h)

/-! ### Chains -/
def Chain (P : Program) (ms : List MG) (Es : Nat → Eff) : List Nat → St → Prop
  | [], _ => True
  | i :: r, σ => (∃ m, ms[i]? = some m ∧ SatG P σ m (Es i) none) ∧ Chain P ms Es r (σ.app (Es i))
def fin (Es : Nat → Eff) : List Nat → St → St
  | [], σ => σ
  | i :: r, σ => fin Es r (σ.app (Es i))

section
variable {P : Program} {ms : List MG} {Es : Nat → Eff}
theorem Chain.same : ∀ {l : List Nat} {σ σ' : St}, Chain P ms Es l σ → Same σ σ' → Chain P ms Es l σ'
  | [], _, _, _, _ => trivial
  | i :: r, σ, σ', h, hs => by
    obtain ⟨⟨m, hm, hsat⟩, h2⟩ := h
    exact ⟨⟨m, hm, hsat.local (hs.agree _ _ _)⟩, Chain.same h2 (hs.app _)⟩
theorem fin_same : ∀ {l : List Nat} {σ σ' : St}, Same σ σ' → Same (fin Es l σ) (fin Es l σ')
  | [], _, _, h => h
  | i :: r, σ, σ', h => fin_same (l := r) (h.app _)

theorem Chain.move {j : Nat} : ∀ {L1 L2 : List Nat} {σ : St}, (∀ i ∈ L1, ∀ m m', ms[i]? = some m → ms[j]? = some m' → Ind m m' (Es i) (Es j)) → Chain P ms Es (L1 ++ j :: L2) σ →
    (∃ m, ms[j]? = some m ∧ SatG P σ m (Es j) none) ∧ Chain P ms Es (L1 ++ L2) (σ.app (Es j)) ∧ Same (fin Es (L1 ++ j :: L2) σ) (fin Es (L1 ++ L2) (σ.app (Es j)))
  | [], L2, σ, _, h => ⟨h.1, h.2, Same.refl _⟩
  | i :: L1, L2, σ, hind, h => by
    obtain ⟨⟨mi, hmi, hsi⟩, h2⟩ := h
    obtain ⟨⟨mj, hmj, hsj⟩, h3, h4⟩ := Chain.move (L1 := L1) (L2 := L2) (fun k hk => hind k (List.mem_cons_of_mem _ hk)) h2
    have hI := hind i List.mem_cons_self mi mj hmi hmj
    have hd0 : ∀ d v d' v', (Es i).d = some (d, v) → (Es j).d = some (d', v') → d ≠ d' := fun d v d' v' e1 e2 e => by
      subst e; exact hI.t3 d (hsi.dst e1) (hsj.dst e2)
    -- j at once
    have hA : Agree σ (σ.app (Es i)) mj.reads (Es j).touch (Es j).wr := agree_app (fun d v hd => hI.t1 d (hsi.dst hd)) hI.k1 hI.k2
    have hA' : Agree (σ.app (Es i)) σ mj.reads (Es j).touch (Es j).wr := ⟨fun n hn => (hA.t n hn).symm, fun k hk => (hA.b k hk).symm, fun k hk => (hA.z k hk).symm⟩
    have hsj' := hsj.local hA'
    -- i behind j
    have hB : Agree σ (σ.app (Es j)) mi.reads (Es i).touch (Es i).wr := agree_app (fun d v hd => hI.t2 d (hsj.dst hd)) hI.k2 hI.k1
    have hsi' := hsi.local hB
    have hcomm := app_comm (σ := σ) hd0 hI.k1
    exact ⟨⟨mj, hmj, hsj'⟩, ⟨⟨mi, hmi, hsi'⟩, h3.same hcomm⟩, h4.trans (fin_same hcomm)⟩
end

/-! ### The machine's state, told by a state that says the same -/
theorem Inv.same {cx : Cx} {σ σ' : St} {M : Pl} {a : Act} {w : World} (h : Inv cx σ M a w) (hs : Same σ σ') : Inv cx σ' M a w := by
  have hN : ∀ b, NS cx σ.s σ.z M w b → NS cx σ'.s σ'.z M w b := fun b hb => ⟨hb.1, hb.2.1, fun k c hk hz => hb.2.2 k c (by rw [hs.b k] at hk; exact hk) (fun hc => hz ((hs.z k).2 hc))⟩
  have up : ∀ v x, RR cx σ.s σ.z M w v x → RR cx σ'.s σ'.z M w v x := fun v x hx => RR.up hN (fun _ _ h => h) (fun _ _ => rfl) hx
  exact { os := h.os, tape := h.tape, output := h.output, size := h.size, frame := h.frame, argM := h.argM, defers := h.defers
          gho := gho_up h.gho (Nat.le_refl _) hN (fun _ _ => rfl)
          plc := fun k hk => h.plc k (by rw [hs.b k] at hk; exact hk)
          box := fun k b pl hk hM => (h.box k b pl (by rw [hs.b k] at hk; exact hk) hM).up up rfl
          own := fun t pl ht hp => h.own t pl (by rw [hs.b] at ht; exact ht) hp
          arg := fun i hi => h.arg i (by rw [hs.b] at hi; exact hi)
          argz := fun i hi => h.argz i ((hs.z _).1 hi)
          inj := fun k k' b c c' hk hk' => h.inj k k' b c c' (by rw [hs.b] at hk; exact hk) (by rw [hs.b] at hk'; exact hk')
          env := fun t => by have := hs.t t; simp only [St.get] at this; rw [this]; exact up _ _ (h.env t) }

/-! ### From the machine's groups -/
def trG (P : Program) (h : Hints) (ops : Array Oper) (o : Oper) : Option MG := match trOp P h o with
  | some mo => match o.guard with
    | none => some ⟨none, mo⟩
    | some (j, b) => match (ops[j]?).bind (·.dst) with
      | some t => some ⟨some (t, b), mo⟩
      | none => none
  | none => none
def dstOk (n : Nat) (o : Oper) (m : MG) : Bool := (match o.dst with | some d => decide (d < n) && decide (d < 1000) | none => true) && decide (m.o.dst = o.dst)
def trGs (P : Program) (h : Hints) (ops : Array Oper) (n : Nat) : List Oper → Option (List MG)
  | [] => some []
  | o :: r => match trG P h ops o, trGs P h ops n r with
    | some m, some l => if dstOk n o m = true then some (m :: l) else none
    | _, _ => none

theorem trGs_spec {P : Program} {h : Hints} {ops : Array Oper} {n : Nat} : ∀ {l : List Oper} {ms : List MG}, trGs P h ops n l = some ms → ms.length = l.length ∧ ∀ i (hi : i < l.length) (hi' : i < ms.length), trG P h ops l[i] = some ms[i] ∧ (∀ d, l[i].dst = some d → d < n ∧ d < 1000) ∧ ms[i].o.dst = l[i].dst
  | [], ms, hm => by simp only [trGs, Option.some.injEq] at hm; subst hm; exact ⟨rfl, fun i hi => by simp at hi⟩
  | o :: r, ms, hm => by
    simp only [trGs] at hm
    split at hm
    · rename_i m l e1 e2
      split at hm
      · rename_i hc
        simp only [Option.some.injEq] at hm; subst hm
        obtain ⟨h1, h2⟩ := trGs_spec e2
        simp only [dstOk, Bool.and_eq_true, decide_eq_true_eq] at hc
        refine ⟨by simp [h1], fun i hi hi' => ?_⟩
        cases i with
        | zero =>
          refine ⟨e1, fun d hd => ?_, hc.2⟩
          have hd : o.dst = some d := hd
          have := hc.1; rw [hd] at this
          simpa using this
        | succ i => exact h2 i (by simpa using hi) (by simpa using hi')
      · cases hm
    · cases hm

section
variable {P : Program} {hts : Hints} {ops : Array Oper} {cx : Cx} {σ : St} {M : Pl} {a : Act} {w : World}

/-- An operation with its guard. -/
theorem satG_goes {i : Nat} {o : Oper} {m : MG} {E : Eff} {p : Option TypeId} (ho : ops[i]? = some o) (htr : trG P hts ops o = some m) (hsat : SatG P σ m E p) (hI : Inv cx σ M a w) (hd : ∀ d, o.dst = some d → d < a.tmps.size) (hdst : m.o.dst = o.dst)
    (hM : ∀ d, m.o.news = some d → M (.own d) = none) {K : Act → World → Prop} {Q : Exit → Act → World → Prop}
    (hK : p = none → ∀ a' w' M', Inv cx (σ.app E) M' a' w' → a'.tmps.size = a.tmps.size → (∀ k, M k = none → (∀ d, o.dst = some d → k ≠ .own d) → M' k = none) → K a' w')
    (hQ : ∀ t, p = some t → ∀ a' w' M', Inv cx (σ.app E) M' a' w' → Q (.panic [{ v := .iface t (.agg #[]), recovered := false }]) a' w') : wpOp P ops Q i K a w := by
  unfold wpOp
  simp only [ho]
  unfold trG at htr
  split at htr
  · rename_i mo hmo
    split at htr
    · rename_i hg
      simp only [Option.some.injEq] at htr; subst htr
      have hw : Region.wanted o (yielded ops a.tmps) = true := by simp [Region.wanted, hg]
      rw [if_pos hw]
      exact .inl (sat_goes hmo hsat hI hd hM hK hQ)
    · rename_i j b hg
      split at htr
      · rename_i t ht
        simp only [Option.some.injEq] at htr; subst htr
        obtain ⟨c, h1, h2⟩ := hsat
        have henv := hI.env t
        have h1' : yes (getE σ.e t) = some c := h1
        generalize getE σ.e t = lv at henv h1'
        have hy : yielded ops a.tmps j = c := by
          unfold yielded
          rw [ht]
          unfold yes at h1'
          split at h1'
          · rename_i f c'
            simp only [Option.some.injEq] at h1'; subst h1'
            have hv := henv.bool_inv
            have : a.tmps[t]? = some (.bool c') := by
              rw [Array.getD_eq_getD_getElem?] at hv
              cases hx : a.tmps[t]? with
              | none => rw [hx] at hv; simp [undef] at hv
              | some u => rw [hx] at hv; simpa using hv
            simp [this]
          · rename_i f
            simp only [Option.some.injEq] at h1'; subst h1'
            have hv : a.tmps.getD t undef = .tuple #[] := by
              have h3 := RepL.imm_iff.1 henv
              generalize a.tmps.getD t undef = x at h3
              cases h3 with
              | tup cells vs hl hr =>
                have : vs = [] := List.eq_nil_of_length_eq_zero hl
                subst this; rfl
            cases hx : a.tmps[t]? with
            | none => simp [hx]
            | some u =>
              rw [Array.getD_eq_getD_getElem?, hx] at hv
              simp only [Option.getD_some] at hv
              subst hv; simp [hx]
          · cases h1'
        rcases h2 with ⟨hcb, h3⟩ | ⟨hne, rfl, rfl⟩
        · have hw : Region.wanted o (yielded ops a.tmps) = true := by simp [Region.wanted, hg, hy, hcb]
          rw [if_pos hw]
          exact .inl (sat_goes hmo h3 hI hd hM hK hQ)
        · have hw : ¬ (Region.wanted o (yielded ops a.tmps) = true) := by simpa [Region.wanted, hg, hy] using hne
          rw [if_neg hw]
          refine hK rfl _ _ M ?_ (put_size _ _ _) (fun k hk _ => hk)
          have hdst' : mo.dst = o.dst := hdst
          cases hod : o.dst with
          | none =>
            have : σ.app (undefEff mo) = σ := by simp [undefEff, hdst', hod, St.app, appU, addZ]
            rw [this]; exact hI
          | some d =>
            have : σ.app (undefEff mo) = { σ with e := putE σ.e d dead } := by simp [undefEff, hdst', hod, St.app, appU, addZ]
            rw [this]
            exact hI.val (hd d hod) (.fresh _ _ (.tup [] [] rfl (fun j h => by simp at h)))
      · cases htr
  · cases htr
end
end Go.Proofs.YtopgmopdjiahmaaDoor.Lg
