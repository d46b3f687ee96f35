/- All operations together; calls by what the callee is known to do. Conditions: none; plain definitions and lemmas. -/
import Derived.Test.YtopgmopdjiahmaaDoorLh
set_option linter.unusedVariables false
set_option linter.unusedSimpArgs false
namespace Go.Proofs.YtopgmopdjiahmaaDoor.Lg
open Go Go.RowKit

def MO.isCall : MO → Bool
  | .call .. | .callB .. | .acall .. | .pan _ => true
  | _ => false

section
variable {P : Program} {cx : Cx} {σ : St} {M : Pl} {a : Act} {w : World} {o : Oper}

theorem call_sound {h : Hints} {c : Call} {mo : MO} (hop : o.op = .call c) (htr : trCall P h c o.dst = some mo) (hnc : mo.isCall = false) {E : Eff} (ha : aop σ mo = some E) (hI : Inv cx σ M a w) (hd : ∀ d, o.dst = some d → d < a.tmps.size)
    (hM : ∀ d, mo.news = some d → M (.own d) = none) : OpGoes P cx o a w M (σ.app E) := by
  have nk : ∀ d, M (.own d) = none → getB σ.s (.own d) = none := by
    intro d hd
    cases hb : getB σ.s (.own d) with
    | none => rfl
    | some b => obtain ⟨pl, hp⟩ := hI.plc (.own d) (by simp [hb]); rw [hd] at hp; cases hp
  unfold trCall at htr
  split at htr
  · rename_i hcal
    split at htr
    · rename_i x t d hargs hty hdst
      split at htr
      · rename_i e hu
        obtain ⟨x', hx, rfl⟩ := Option.map_eq_some_iff.1 htr
        exact goes_len hI hdst (hd _ hdst) hop hcal hargs hty hx hu ha
      · rename_i hu
        obtain ⟨x', hx, rfl⟩ := Option.map_eq_some_iff.1 htr
        exact goes_slen hI hdst (hd _ hdst) hop hcal hargs hty hx hu ha
      · cases htr
    · cases htr
  · rename_i hcal
    split at htr
    · rename_i x y t t' d hargs hty hdst
      split at htr
      · rename_i htt
        subst htt
        split at htr
        · rename_i e hu
          split at htr
          · rename_i i hi
            split at htr
            · rename_i z x' y' hz hx hy
              split at htr
              · rename_i hzs
                simp only [Option.some.injEq] at htr; subst htr
                have hM' := hM d rfl
                exact goes_append hI hdst (hd _ hdst) (nk d hM') hM' hop hcal hargs hty hx hy hu hi hz hzs ha
              · cases htr
            · cases htr
          · cases htr
        · cases htr
      · cases htr
    · cases htr
  · rename_i hcal
    split at htr
    · rename_i xs d hxs hdst
      simp only [Option.some.injEq] at htr; subst htr
      exact goes_mx hI hdst (hd _ hdst) hop hcal hxs ha
    · cases htr
  · rename_i hcal
    split at htr
    · rename_i xs d hxs hdst
      simp only [Option.some.injEq] at htr; subst htr
      exact goes_mn hI hdst (hd _ hdst) hop hcal hxs ha
    · cases htr
  · split at htr
    · split at htr
      · split at htr
        · simp only [Option.some.injEq] at htr; subst htr; simp [MO.isCall] at hnc
        · cases htr
      · simp only [Option.some.injEq] at htr; subst htr; simp [MO.isCall] at hnc
      · simp only [Option.some.injEq] at htr; subst htr; simp [MO.isCall] at hnc
    · cases htr
  · cases htr

theorem op_sound {h : Hints} {mo : MO} (htr : trOp P h o = some mo) (hnc : mo.isCall = false) {E : Eff} (ha : aop σ mo = some E) (hI : Inv cx σ M a w) (hd : ∀ d, o.dst = some d → d < a.tmps.size)
    (hM : ∀ d, mo.news = some d → M (.own d) = none) : OpGoes P cx o a w M (σ.app E) := by
  have nk : ∀ d, M (.own d) = none → getB σ.s (.own d) = none := by
    intro d hd
    cases hb : getB σ.s (.own d) with
    | none => rfl
    | some b => obtain ⟨pl, hp⟩ := hI.plc (.own d) (by simp [hb]); rw [hd] at hp; cases hp
  unfold trOp at htr
  split at htr
  · rename_i x d hop hdst
    obtain ⟨x', hx, rfl⟩ := Option.map_eq_some_iff.1 htr
    exact goes_mv hI hdst (hd _ hdst) (.inl hop) hx ha
  · rename_i x d hop hdst
    obtain ⟨x', hx, rfl⟩ := Option.map_eq_some_iff.1 htr
    exact goes_mv hI hdst (hd _ hdst) (.inr hop) hx ha
  · rename_i c x y d hop hdst
    split at htr
    · rename_i c' x' y' hc hx hy
      simp only [Option.some.injEq] at htr; subst htr
      exact goes_pick hI hdst (hd _ hdst) hop hc hx hy ha
    · cases htr
  · rename_i e d hop hdst
    obtain ⟨zs, hz, rfl⟩ := Option.map_eq_some_iff.1 htr
    have hM' := hM d rfl
    exact goes_alloc hI hdst (hd _ hdst) (nk d hM') hM' hop hz ha
  · rename_i t x d hop hdst
    obtain ⟨x', hx, rfl⟩ := Option.map_eq_some_iff.1 htr
    split at ha
    · exact goes_boxc hI hdst (hd _ hdst) hop hx ha
    · rename_i hnm
      have hM' := hM d (by simp [hnm, MO.news])
      exact goes_box hI hdst (hd _ hdst) (nk d hM') hM' hop hx ha
  · rename_i t ps d hop hdst
    split at htr
    · rename_i it fs hi hu
      split at htr
      · rename_i z pl hz hpl
        split at htr
        · rename_i zs qs hzs hq
          simp only [Option.some.injEq] at htr; subst htr
          exact goes_build_struct hI hdst (hd _ hdst) hop hi hu hz hpl hzs hq ha
        · cases htr
      · cases htr
    · rename_i it n e hi hu
      split at htr
      · rename_i z ie hz hie
        split at htr
        · rename_i zs qs hzs hq
          simp only [Option.some.injEq] at htr; subst htr
          exact goes_build_array hI hdst (hd _ hdst) hop hi hu hz hie hzs hq ha
        · cases htr
      · cases htr
    · cases htr
  · rename_i t n ps d hop hdst
    split at htr
    · rename_i e hu
      split at htr
      · rename_i i hi
        split at htr
        · rename_i z xs hz hx
          split at htr
          · rename_i hc
            simp only [Option.some.injEq] at htr; subst htr
            exact goes_lit hI hdst (hd _ hdst) hop hu hi hz hx hc.1 hc.2.1 hc.2.2.1 hc.2.2.2 ha
          · cases htr
        · cases htr
      · cases htr
    · cases htr
  · rename_i t x d hop hdst
    split at htr
    · rename_i n x' hn hx
      simp only [Option.some.injEq] at htr; subst htr
      exact goes_load hI hdst (hd _ hdst) hop hx hn ha
    · cases htr
  · rename_i t x y hop hdst
    split at htr
    · rename_i n x' y' hn hx hy
      simp only [Option.some.injEq] at htr; subst htr
      exact goes_store hI hdst hop hx hy hn ha
    · cases htr
  · rename_i x d hop hdst
    obtain ⟨x', hx, rfl⟩ := Option.map_eq_some_iff.1 htr
    exact goes_nilc hI hdst (hd _ hdst) hop hx ha
  · rename_i s x f d hop hdst
    split at htr
    · rename_i fs hu
      split at htr
      · rename_i fl hf
        split at htr
        · rename_i n x' hn hx
          split at htr
          · cases htr
          · rename_i hn0
            simp only [Option.some.injEq] at htr; subst htr
            exact goes_fad hI hdst (hd _ hdst) hop hx hu hf hn hn0 ha
        · cases htr
      · cases htr
    · cases htr
  · rename_i s x f d hop hdst
    split at htr
    · rename_i fs hu
      split at htr
      · rename_i fl hf
        split at htr
        · rename_i n x' hn hx
          simp only [Option.some.injEq] at htr; subst htr
          exact goes_fld hI hdst (hd _ hdst) hop hx hu hf hn ha
        · cases htr
      · cases htr
    · cases htr
  · rename_i t x i d hop hdst
    split at htr
    · rename_i e hu
      split at htr
      · rename_i n x' i' hn hx hi
        simp only [Option.some.injEq] at htr; subst htr
        exact goes_iad hI hdst (hd _ hdst) hop hx hi hu hn ha
      · cases htr
    · rename_i len e hu
      split at htr
      · rename_i n x' i' hn hx hi
        simp only [Option.some.injEq] at htr; subst htr
        exact goes_aad hI hdst (hd _ hdst) hop hx hi hu hn ha
      · cases htr
    · cases htr
  · rename_i t x i d hop hdst
    split at htr
    · rename_i len e hu
      split at htr
      · rename_i sz n x' i' hsz hn hx hi
        simp only [Option.some.injEq] at htr; subst htr
        exact goes_idx hI hdst (hd _ hdst) hop hx hi hu hsz hn ha
      · cases htr
    · cases htr
  · rename_i x i d hop hdst
    obtain ⟨x', hx, rfl⟩ := Option.map_eq_some_iff.1 htr
    exact goes_ext hI hdst (hd _ hdst) hop hx ha
  · rename_i op t x y yt d hop hdst
    split at htr
    · rename_i x' y' hx hy
      split at htr
      · rename_i hu
        simp only [Option.some.injEq] at htr; subst htr
        exact goes_binb hI hdst (hd _ hdst) (neg := false) hop hx hy hu ha
      · rename_i hu
        simp only [Option.some.injEq] at htr; subst htr
        exact goes_binb hI hdst (hd _ hdst) (neg := true) hop hx hy hu ha
      · simp only [Option.some.injEq] at htr; subst htr
        exact goes_bin hI hdst (hd _ hdst) hop hx hy ha
    · cases htr
  · rename_i op t x d hop hdst
    obtain ⟨x', hx, rfl⟩ := Option.map_eq_some_iff.1 htr
    exact goes_un hI hdst (hd _ hdst) hop hx ha
  · rename_i s t x d hop hdst
    split at htr
    · rename_i j k hs ht
      obtain ⟨x', hx, rfl⟩ := Option.map_eq_some_iff.1 htr
      exact goes_conv hI hdst (hd _ hdst) hop hx hs ht ha
    · cases htr
  · rename_i f fs caps d hop hdst
    split at htr
    · rename_i hfs
      obtain ⟨xs, hx, rfl⟩ := Option.map_eq_some_iff.1 htr
      exact goes_mkfn hI hdst (hd _ hdst) hop hfs hx ha
    · cases htr
  · rename_i t l c d hop hdst
    split at htr
    · rename_i hlc
      subst hlc
      split at htr
      · rename_i e hu
        split at htr
        · rename_i i hi
          split at htr
          · rename_i z hz
            split at htr
            · rename_i zs hzs
              split at htr
              · rename_i hc
                simp only [Option.some.injEq] at htr; subst htr
                exact goes_mksl hI hdst (hd _ hdst) hop hu hi hz hzs hc.1 hc.2 ha
              · cases htr
            · cases htr
          · cases htr
        · cases htr
      · cases htr
    · cases htr
  · rename_i t k l c d hop hdst
    split at htr
    · rename_i hl0
      subst hl0
      split at htr
      · rename_i e hu
        split at htr
        · rename_i i hi
          split at htr
          · rename_i z hz
            simp only [Option.some.injEq] at htr; subst htr
            have hM' := hM d rfl
            exact goes_mkrow hI hdst (hd _ hdst) (nk d hM') hM' hop hu hi hz ha
          · cases htr
        · cases htr
      · cases htr
    · cases htr
  · rename_i t x lo hi d hop hdst
    split at htr
    · rename_i e x' hu hx
      split at htr
      · rename_i n hn
        split at htr
        · simp only [Option.some.injEq] at htr; subst htr
          exact goes_cut hI hdst (hd _ hdst) hop hx hu trivial trivial hn ha
        · obtain ⟨l', hl, rfl⟩ := Option.map_eq_some_iff.1 htr
          exact goes_cut hI hdst (hd _ hdst) hop hx hu hl trivial hn ha
        · obtain ⟨l', hl, rfl⟩ := Option.map_eq_some_iff.1 htr
          exact goes_cut hI hdst (hd _ hdst) hop hx hu trivial hl hn ha
        · split at htr
          · rename_i l' h' hl hh
            simp only [Option.some.injEq] at htr; subst htr
            exact goes_cut hI hdst (hd _ hdst) hop hx hu hl hh hn ha
          · cases htr
      · cases htr
    · cases htr
  · rename_i t x d hop hdst
    split at htr
    · rename_i fs hu
      split at htr
      · obtain ⟨x', hx, rfl⟩ := Option.map_eq_some_iff.1 htr
        exact goes_mkif hI hdst (hd _ hdst) hop hx hu ha
      · cases htr
    · cases htr
  · obtain ⟨x', hx, rfl⟩ := Option.map_eq_some_iff.1 htr
    simp [MO.isCall] at hnc
  · rename_i c hop
    exact call_sound hop htr hnc ha hI hd hM
  · cases htr
end

/-! ### What a function does -/
inductive Out where
  | ret (f : Bool) (v : IV)
  | pan (t : TypeId)

def argS : Nat → List (List LV) → List (Key × Box)
  | _, [] => []
  | i, c :: r => (.arg i, .var c) :: argS (i + 1) r

def Ended (cx : Cx) (S : List (List LV)) (M : Pl) (w : World) : Out → Ending → Prop
  | .ret f v, e => ∃ x, e = .returned x ∧ RR cx (argS 0 S) [] M w (.imm f v) x
  | .pan t, e => e = .panicked [{ v := .iface t (.agg #[]), recovered := false }]

def Callable (P : Program) (f : FuncId) : Prop := ∃ fn, P.funcs[f]? = some fn ∧ (fn.name == "runtime.NumGoroutine") = false ∧ fn.body.isNone = false

/-- Function f, called with args, the lent variables holding S: how it ends, and what they hold then; nothing else that was there has turned. -/
def Does (P : Program) (f : FuncId) (args : List LV) (S : List (List LV)) (o : Out) (S' : List (List LV)) : Prop :=
  Callable P f ∧ S'.length = S.length ∧ ∀ (cx : Cx) (M : Pl) (vals : List Value), cx.na = S.length → Inv cx ⟨[], argS 0 S, []⟩ M ⟨#[], []⟩ cx.w → Rows2 (RR cx (argS 0 S) [] M cx.w) args vals →
    Calls P f vals.toArray cx.w fun e w' => Inv cx ⟨[], argS 0 S', []⟩ M ⟨#[], []⟩ w' ∧ Ended cx S' M w' o e

/-- Function f, called with a row of strings (type e) of the caller's own, and args: it hands that row back, lengthened by ws; nothing else that was there has turned. -/
def DoesA (P : Program) (e : TypeId) (f : FuncId) (args : List IV) (ws : List ByteArray) (B : Nat) : Prop :=
  Callable P f ∧ ∀ (w : World) (v : Value) (ss : List ByteArray) (vals : List Value) (N : Nat → Prop), w.ownsRow 0 e 1 v ss.length (ss.map .string) → ss.length ≤ B → (∀ b, N b → b < w.heap.size ∧ v.ownBlock ≠ some b) → (hl : vals.length = args.length) →
    (∀ j (h : j < args.length) (h' : j < vals.length), RepI w N args[j] vals[j]) →
    Calls P f (v :: vals).toArray w fun en w' => ∃ g c, en = .returned (.slice (some ⟨g, 0, none⟩) (ss.length + ws.length) c) ∧ w'.ownsRow 0 e 1 (.slice (some ⟨g, 0, none⟩) (ss.length + ws.length) c) (ss.length + ws.length) (ss.map .string ++ ws.map .string) ∧ w.grownBy w' v.ownBlock ∧ (v.ownBlock = some g ∨ w.heap.size ≤ g)

theorem getB_argS : ∀ (S : List (List LV)) (n : Nat) (k : Key) (b : Box), getB (argS n S) k = some b → ∃ i, k = .arg (n + i) ∧ ∃ h : i < S.length, b = .var S[i]
  | [], n, k, b, h => by simp [argS, getB] at h
  | c :: r, n, k, b, h => by
    simp only [argS, getB] at h
    split at h
    · rename_i he
      simp only [Option.some.injEq] at h
      exact ⟨0, he.symm, by simp, h.symm⟩
    · obtain ⟨i, rfl, hi, rfl⟩ := getB_argS r (n + 1) k b h
      exact ⟨i + 1, by rw [Nat.add_assoc, Nat.add_comm 1 i], by simpa using hi, by simp⟩
theorem getB_argS_at : ∀ (S : List (List LV)) (n i : Nat) (h : i < S.length), getB (argS n S) (.arg (n + i)) = some (.var S[i])
  | c :: r, n, 0, h => by simp [argS, getB]
  | c :: r, n, i + 1, h => by
    simp only [argS, getB]
    rw [if_neg (by simp)]
    have := getB_argS_at r (n + 1) i (by simpa using h)
    rw [show n + (i + 1) = n + 1 + i by omega]
    simpa using this

/-! ### Lending: boxes of the caller's that the callee may write -/
def findK : List Key → Nat → Key → Option Nat
  | [], _, _ => none
  | k :: r, n, k' => if k = k' then some n else findK r (n + 1) k'
/-- how the callee sees a value of the caller's -/
def lendL (f : LV → Option LV) : List LV → Option (List LV)
  | [] => some []
  | a :: r => match f a, lendL f r with
    | some b, some l => some (b :: l)
    | _, _ => none
def lend (ρ : List Key) : Nat → LV → Option LV
  | 0, _ => none
  | _ + 1, .imm _ v => some (.imm false v)
  | _ + 1, .loc k off => (findK ρ 0 k).map fun i => .loc (.arg i) off
  | _ + 1, .nils => some .nils
  | n + 1, .fn f caps => (lendL (lend ρ n) caps).map (.fn f)
  | _ + 1, _ => none
/-- and back -/
def backL (f : LV → Option LV) : List LV → Option (List LV)
  | [] => some []
  | a :: r => match f a, backL f r with
    | some b, some l => some (b :: l)
    | _, _ => none
def back (ρ : List Key) : Nat → LV → Option LV
  | 0, _ => none
  | _ + 1, .imm f v => some (.imm f v)
  | _ + 1, .loc (.arg i) off => (ρ[i]?).map fun k => .loc k off
  | _ + 1, .nils => some .nils
  | n + 1, .fn f caps => (backL (back ρ n) caps).map (.fn f)
  | _ + 1, _ => none

def lendBoxes (σ : St) (ρ : List Key) : List Key → Option (List (List LV))
  | [] => some []
  | k :: r => if k ∈ σ.z then none else match σ.box k with
    | some (.var cs) => match lendL (lend ρ 4) cs, lendBoxes σ ρ r with
      | some c, some l => some (c :: l)
      | _, _ => none
    | _ => none
def backBoxes (ρ : List Key) : List Key → List (List LV) → Option (List (Key × Option Box))
  | [], [] => some []
  | k :: r, c :: l => match backL (back ρ 4) c, backBoxes ρ r l with
    | some cs, some u => some ((k, some (.var cs)) :: u)
    | _, _ => none
  | _, _ => none
/-- an argument: lent, or handed on -/
def giveL (σ : St) (ρ : List Key) : List LV → Option (List LV)
  | [] => some []
  | a :: r => match (match lend ρ 4 a with | some l => some l | none => (Lg.res σ.s depth0 a).map fun p => .imm false p.2), giveL σ ρ r with
    | some b, some l => some (b :: l)
    | _, _ => none
def giveK (σ : St) (ρ : List Key) : List LV → List Key
  | [] => []
  | a :: r => (match lend ρ 4 a with | some _ => [] | none => Lg.keys σ.s depth0 a) ++ giveK σ ρ r

/-- Each operation, calls too: its effect; some t: it panics with a value of type t. -/
def Sat (P : Program) (σ : St) (o : MO) (E : Eff) (p : Option TypeId) : Prop :=
  match o with
  | .call d fx xs => ∃ f caps fl vs fr v, σ.ev fx = .fn f caps ∧ resL (Lg.res σ.s depth0) (xs.map σ.ev ++ caps) = some (fl, vs) ∧ Does P f (vs.map (.imm false)) [] (.ret fr v) [] ∧
      E = { d := d.map (·, .imm fr v), u := [], z := keysL (Lg.keys σ.s depth0) (xs.map σ.ev ++ caps), r := keysL (Lg.keys σ.s depth0) (xs.map σ.ev ++ caps) } ∧ p = none
  | .callB d fx xs ρ => ∃ f caps args S o' S' u, σ.ev fx = .fn f caps ∧ ρ.Nodup ∧ (∀ k ∈ ρ, k ∉ giveK σ ρ (xs.map σ.ev ++ caps)) ∧ giveL σ ρ (xs.map σ.ev ++ caps) = some args ∧ lendBoxes σ ρ ρ = some S ∧ Does P f args S o' S' ∧ backBoxes ρ ρ S' = some u ∧
      (match o' with
       | .ret fr v => E = { d := d.map (·, .imm fr v), u := u, z := giveK σ ρ (xs.map σ.ev ++ caps), r := ρ ++ giveK σ ρ (xs.map σ.ev ++ caps) } ∧ p = none
       | .pan t => E = { d := none, u := u, z := giveK σ ρ (xs.map σ.ev ++ caps), r := ρ ++ giveK σ ρ (xs.map σ.ev ++ caps) } ∧ p = some t)
  | .acall d fx x xs => ∃ f e ws B fl vs, σ.ev fx = .fn f [] ∧ resL (Lg.res σ.s depth0) (xs.map σ.ev) = some (fl, vs) ∧ DoesA P e f vs ws B ∧ p = none ∧
      ((σ.ev x = .nils ∧ E = { d := some (d, .row (.own d) ws.length), u := [(.own d, some (.row e 1 (ws.map fun s => [.imm true (.str s)])))], z := keysL (Lg.keys σ.s depth0) (xs.map σ.ev), r := keysL (Lg.keys σ.s depth0) (xs.map σ.ev) }) ∨
       ∃ k es, σ.ev x = .row k es.length ∧ k ∉ σ.z ∧ k ∉ keysL (Lg.keys σ.s depth0) (xs.map σ.ev) ∧ k.isOwn = true ∧ σ.box k = some (.row e 1 es) ∧ (es.length ≤ B ∧ ∃ ss : List ByteArray, es = ss.map fun s => [LV.imm true (.str s)]) ∧
        E = { d := some (d, .row (.own d) (es.length + ws.length)), u := [(k, none), (.own d, some (.row e 1 (es ++ ws.map fun s => [.imm true (.str s)])))], z := keysL (Lg.keys σ.s depth0) (xs.map σ.ev), r := k :: keysL (Lg.keys σ.s depth0) (xs.map σ.ev) })
  | .pan x => ∃ t, σ.ev x = .unitI t ∧ E = { d := none, u := [], z := [], r := [] } ∧ p = some t
  | o => aop σ o = some E ∧ p = none

end Go.Proofs.YtopgmopdjiahmaaDoor.Lg
