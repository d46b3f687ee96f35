/- A function as a whole: from its text's law to what a call does. Conditions: none; plain definitions and lemmas. -/
import Derived.Test.YtopgmopdjiahmaaDoorLp
set_option linter.unusedVariables false
set_option linter.unusedSimpArgs false
set_option linter.unusedSectionVars false
namespace Go.Proofs.YtopgmopdjiahmaaDoor.Lg
open Go Go.RowKit

inductive MR where
  | t (n : Nat)
  | c (n : Nat) (sz : Option Nat)
def trR (P : Program) : List ResultVar → Option (List MR)
  | [] => some []
  | .tmp t :: r => match trR P r with
    | some l => some (.t t :: l)
    | none => none
  | .cell a ty :: r => match nOf P ty, trR P r with
    | some n, some l => some (.c a n :: l)
    | _, _ => none
def resLV (σ : St) : MR → Option LV
  | .t n => some (σ.get n)
  | .c n sz => match σ.get n with
    | .imm f (.ptr cs off) => partI f cs off sz
    | .loc k off => match getB σ.s k with
      | some b => partOf b.flat off sz
      | none => none
    | _ => none
def resLVs (σ : St) : List MR → Option (List LV)
  | [] => some []
  | r :: l => match resLV σ r, resLVs σ l with
    | some v, some vs => some (v :: vs)
    | _, _ => none
def outLV : List LV → LV
  | [v] => v
  | l => .tup l
def finV (σ : St) (rs : List MR) : Option (Bool × IV) := match resLVs σ rs with
  | some l => res σ.s depth0 (outLV l)
  | none => none

/-- What a lent variable holds in the end. -/
def settle (s : List (Key × Box)) (na : Nat) : Nat → LV → Option LV
  | 0, _ => none
  | _ + 1, .nils => some .nils
  | _ + 1, .loc (.arg i) off => if i < na then some (.loc (.arg i) off) else none
  | n + 1, .fn f caps => match lendL (settle s na n) caps with
    | some l => some (.fn f l)
    | none => none
  | _ + 1, lv => match res s depth0 lv with
    | some (_, v) => some (.imm false v)
    | none => none
def storeOut (s : List (Key × Box)) (na : Nat) : Nat → Nat → Option (List (List LV))
  | _, 0 => some []
  | i, k + 1 => match getB s (.arg i) with
    | some (.var cs) => match lendL (settle s na 4) cs, storeOut s na (i + 1) k with
      | some c, some l => some (c :: l)
      | _, _ => none
    | _ => none
def OutIs (o : Out) (f' : Bool) (v' : IV) : Prop := match o with
  | .ret f v => v = v' ∧ (f = true → f' = true)
  | .pan _ => False
def FinV (o : Out) : Option (Bool × IV) → Prop
  | some (f, v) => OutIs o f v
  | none => False
def Fin (rs : List MR) (o : Out) (S' : List (List LV)) : AEx → St → Prop
  | .normal, σ | .ret, σ => FinV o (finV σ rs) ∧ storeOut σ.s S'.length 0 S'.length = some S'
  | .pan t, σ => o = .pan t ∧ storeOut σ.s S'.length 0 S'.length = some S'
  | .exit _, _ => False

def numE : Nat → List LV → List (Nat × LV)
  | _, [] => []
  | i, v :: r => (i, v) :: numE (i + 1) r
theorem getE_numE : ∀ (l : List LV) (i t : Nat), getE (numE i l) t = if i ≤ t then l.getD (t - i) .undef else .undef
  | [], i, t => by simp [numE, getE]
  | v :: r, i, t => by
    simp only [numE, getE]
    by_cases h : i = t
    · subst h; simp
    · rw [if_neg h, getE_numE r (i + 1) t]
      by_cases h2 : i ≤ t
      · rw [if_pos h2, if_pos (by omega)]
        have : t - i = (t - (i + 1)) + 1 := by omega
        rw [this]; simp
      · rw [if_neg h2, if_neg (by omega)]

def rdV (tm : Array Value) : ResultVar → Sem Value
  | .tmp t => pure (tm.getD t undef)
  | .cell a t => do loadVar t (← asAddr (tm.getD a undef))

section
variable {P : Program} {cx : Cx} {σ : St} {M : Pl} {a : Act} {w : World}

theorem resLV_sound (h : Inv cx σ M a w) {r : MR} {v : ResultVar} {lv : LV} (htr : trR P [v] = some [r]) (hr : resLV σ r = some lv) :
    ∃ x, (rdV a.tmps v).run P w = .ok x w ∧ RR cx σ.s σ.z M w lv x := by
  cases v with
  | tmp t =>
    simp only [trR, Option.some.injEq, List.cons.injEq, and_true] at htr
    subst htr
    simp only [resLV, Option.some.injEq] at hr; subst hr
    exact ⟨a.tmps.getD t undef, by simp [rdV], h.env t⟩
  | cell b t =>
    simp only [trR] at htr
    split at htr
    · rename_i n l hn hl
      simp only [Option.some.injEq] at hl htr; subst hl
      simp only [List.cons.injEq, and_true] at htr; subst htr
      simp only [resLV] at hr
      have henv := h.env b
      split at hr
      · rename_i f cs off hg
        simp only [St.get] at hg
        rw [hg] at henv
        obtain ⟨b', o', v, hx', hv, hRv⟩ := load_imm (P := P) henv hn hr
        exact ⟨v, by simp only [rdV]; rw [hx']; simp [asAddr, hv], hRv⟩
      · rename_i k off hg
        simp only [St.get] at hg
        rw [hg] at henv
        split at hr
        · rename_i bx hb
          obtain ⟨b', o', v, hx', hv, hRv⟩ := load_loc (P := P) h henv hb hn hr
          exact ⟨v, by simp only [rdV]; rw [hx']; simp [asAddr, hv], hRv⟩
        · cases hr
      · cases hr
    · cases htr

theorem resLVs_sound (h : Inv cx σ M a w) : ∀ {vs : List ResultVar} {rs : List MR} {ls : List LV}, trR P vs = some rs → resLVs σ rs = some ls →
    ∃ xs, (vs.mapM (rdV a.tmps)).run P w = .ok xs w ∧ Rows2 (RR cx σ.s σ.z M w) ls xs
  | [], rs, ls, htr, hr => by
    simp only [trR, Option.some.injEq] at htr; subst htr
    simp only [resLVs, Option.some.injEq] at hr; subst hr
    exact ⟨[], by simp, .nil⟩
  | v :: vs, rs, ls, htr, hr => by
    have hsplit : ∃ r rs', rs = r :: rs' ∧ trR P [v] = some [r] ∧ trR P vs = some rs' := by
      cases v with
      | tmp t =>
        simp only [trR] at htr
        split at htr
        · rename_i l hl
          simp only [Option.some.injEq] at htr
          exact ⟨_, _, htr.symm, rfl, hl⟩
        · cases htr
      | cell b t =>
        simp only [trR] at htr
        split at htr
        · rename_i n l hn hl
          simp only [Option.some.injEq] at htr
          exact ⟨_, _, htr.symm, by simp [trR, hn], hl⟩
        · cases htr
    obtain ⟨r, rs', rfl, h1, h2⟩ := hsplit
    simp only [resLVs] at hr
    split at hr
    · rename_i lv lvs e1 e2
      simp only [Option.some.injEq] at hr; subst hr
      obtain ⟨x, hx, hRx⟩ := resLV_sound h h1 e1
      obtain ⟨xs, hxs, hRxs⟩ := resLVs_sound h h2 e2
      refine ⟨x :: xs, ?_, .cons hRx hRxs⟩
      rw [List.mapM_cons]
      simp only [Sem.run_bind, hx, Result.andThen_ok, hxs, Sem.run_pure]
    · cases hr

theorem results_sound (h : Inv cx σ M a w) {fn : Func} {rs : List MR} {ls : List LV} (htr : trR P fn.results.toList = some rs) (hr : resLVs σ rs = some ls) :
    ∃ x, (results fn a.tmps).run P w = .ok x w ∧ RR cx σ.s σ.z M w (outLV ls) x := by
  obtain ⟨xs, hxs, hR⟩ := resLVs_sound h htr hr
  have hx2 : (fn.results.mapM (rdV a.tmps)).run P w = .ok xs.toArray w := by
    rw [Array.mapM_eq_mapM_toList]
    simp [hxs]
  refine ⟨if h : xs.toArray.size = 1 then xs.toArray[0] else .tuple xs.toArray, ?_, ?_⟩
  · show (do let vs ← fn.results.mapM (rdV a.tmps); pure (if h : vs.size = 1 then vs[0] else .tuple vs) : Sem Value).run P w = _
    simp only [Sem.run_bind, hx2, Result.andThen_ok, Sem.run_pure]
  · split
    · rename_i h1
      have : ∃ x, xs = [x] := List.length_eq_one_iff.1 (by simpa using h1)
      obtain ⟨x, rfl⟩ := this
      have : ∃ l, ls = [l] := List.length_eq_one_iff.1 (by rw [← hR.1]; rfl)
      obtain ⟨l, rfl⟩ := this
      exact hR.2 0 (by simp) (by simp)
    · rename_i h1
      have : outLV ls = .tup ls := by
        match ls, hR.1 with
        | [], _ => rfl
        | [l], hl => exact absurd (by simpa using hl) h1
        | _ :: _ :: _, _ => rfl
      rw [this]
      exact .tup ls xs hR.1 hR.2

theorem storeOut_spec {s : List (Key × Box)} {na : Nat} : ∀ {i k : Nat} {S' : List (List LV)}, storeOut s na i k = some S' → S'.length = k ∧ ∀ j (h : j < S'.length), ∃ cs, getB s (.arg (i + j)) = some (.var cs) ∧ lendL (settle s na 4) cs = some S'[j]
  | i, 0, S', h => by simp only [storeOut, Option.some.injEq] at h; subst h; exact ⟨rfl, fun j h => by simp at h⟩
  | i, k + 1, S', h => by
    simp only [storeOut] at h
    split at h
    · rename_i cs hb
      split at h
      · rename_i c l e1 e2
        simp only [Option.some.injEq] at h; subst h
        obtain ⟨h1, h2⟩ := storeOut_spec e2
        refine ⟨by simp [h1], fun j hj => ?_⟩
        cases j with
        | zero => exact ⟨cs, hb, e1⟩
        | succ j =>
          obtain ⟨cs', h3, h4⟩ := h2 j (by simpa using hj)
          exact ⟨cs', by rw [← h3]; congr 2; omega, h4⟩
      · cases h
    · cases h

section
variable {M0 : Pl} {S' : List (List LV)} (h : Inv cx σ M a w) (hna : cx.na = S'.length) (hM0 : ∀ i, i < cx.na → ∃ c, M0 (.arg i) = some (cx.m i, c)) (hS : storeOut σ.s S'.length 0 S'.length = some S')
include h hna hM0 hS

theorem fin_NS {l : List Key} (hl : ∀ k ∈ l, k.isOwn = true) {b : Nat} (hb : NS cx σ.s (addZ l σ.z) M w b) : NS cx (argS 0 S') [] M0 w b := by
  refine ⟨hb.1, hb.2.1, fun k c hk _ hM => ?_⟩
  obtain ⟨bx, hbx⟩ := Option.isSome_iff_exists.1 hk
  obtain ⟨i, rfl, hi, _⟩ := getB_argS S' 0 k bx hbx
  simp only [Nat.zero_add] at hM
  obtain ⟨c0, hc0⟩ := hM0 i (by omega)
  obtain ⟨c1, hc1⟩ := h.argM i (by omega)
  obtain ⟨cs, hcs, _⟩ := (storeOut_spec hS).2 i hi
  rw [hc0] at hM
  simp only [Option.some.injEq, Prod.mk.injEq] at hM
  refine hb.2.2 (.arg i) c1 (by rw [Nat.zero_add] at hcs; simp [hcs]) (fun hz => ?_) (by rw [hc1, hM.1])
  rcases (mem_addZ _ _ _).1 hz with hz | hz
  · have := hl _ hz; simp [Key.isOwn] at this
  · exact h.argz i hz

theorem fin_res {lv : LV} {f : Bool} {v : IV} {x : Value} (hr : res σ.s depth0 lv = some (f, v)) (hx : RR cx σ.s σ.z M w lv x) : RR cx (argS 0 S') [] M0 w (.imm f v) x := by
  have hl := keys_own h depth0 lv _ hr
  have := res_sound h (keys σ.s depth0 lv) depth0 lv f v x hr (fun _ hk => hk) hx
  refine RepL.imm_iff.2 ?_
  cases f
  · exact this.mono (fun b hb => fin_NS h hna hM0 hS hl hb) (fun _ _ _ _ h => h)
  · exact this.mono (fun b hb => ⟨fin_NS h hna hM0 hS hl hb.1, hb.2⟩) (fun _ _ _ _ h => h)

theorem fin_settle : ∀ (n : Nat) (lv lv' : LV) (x : Value), settle σ.s S'.length n lv = some lv' → RR cx σ.s σ.z M w lv x → RR cx (argS 0 S') [] M0 w lv' x := by
  have fb : ∀ (lv lv' : LV) (x : Value), (match res σ.s depth0 lv with | some (_, v) => some (LV.imm false v) | none => none) = some lv' → RR cx σ.s σ.z M w lv x → RR cx (argS 0 S') [] M0 w lv' x := by
    intro lv lv' x h1 hx
    split at h1
    · rename_i f v hr
      simp only [Option.some.injEq] at h1; subst h1
      have h2 := RepL.imm_iff.1 (fin_res h hna hM0 hS hr hx)
      refine RepL.imm_iff.2 ?_
      cases f
      · exact h2
      · exact h2.mono (fun b hb => hb.1) (fun _ _ _ _ h => h)
    · cases h1
  intro n
  induction n with
  | zero => intro lv lv' x h1; simp [settle] at h1
  | succ n ih =>
    intro lv lv' x h1 hx
    cases lv with
    | nils =>
      simp only [settle, Option.some.injEq] at h1; subst h1
      cases hx; exact .nils
    | loc k off =>
      cases k with
      | arg i =>
        simp only [settle] at h1
        split at h1
        · rename_i hi
          simp only [Option.some.injEq] at h1; subst h1
          cases hx with
          | loc k off b c hM =>
            obtain ⟨c0, hc0⟩ := hM0 i (by omega)
            obtain ⟨c1, hc1⟩ := h.argM i (by omega)
            rw [hc1] at hM
            simp only [Option.some.injEq, Prod.mk.injEq] at hM
            exact .loc _ _ _ c0 (by rw [hc0, hM.1])
        · cases h1
      | own t => exact fb _ _ _ (by simpa only [settle] using h1) hx
    | fn f caps =>
      simp only [settle] at h1
      split at h1
      · rename_i l hl
        simp only [Option.some.injEq] at h1; subst h1
        obtain ⟨e1, e2⟩ := lendL_spec hl
        cases hx with
        | fn f caps vs hlen hr => exact .fn f l vs (by omega) fun j hj hj' => ih _ _ _ (e2 j (by omega) hj) (hr j (by omega) hj')
      · cases h1
    | undef => exact fb _ _ _ (by simpa only [settle] using h1) hx
    | imm f v => exact fb _ _ _ (by simpa only [settle] using h1) hx
    | row k m => exact fb _ _ _ (by simpa only [settle] using h1) hx
    | agg cs => exact fb _ _ _ (by simpa only [settle] using h1) hx
    | tup cs => exact fb _ _ _ (by simpa only [settle] using h1) hx
    | unitI t => exact fb _ _ _ (by simpa only [settle] using h1) hx

theorem fin_inv (hdf : cx.dfs = []) : Inv cx ⟨[], argS 0 S', []⟩ M0 ⟨#[], []⟩ w := by
  have at_ : ∀ k b, getB (argS 0 S') k = some b → ∃ i, k = .arg i ∧ ∃ hi : i < S'.length, b = .var S'[i] := fun k b hb => by
    obtain ⟨i, rfl, hi, rfl⟩ := getB_argS S' 0 k b hb
    exact ⟨i, by simp, hi, rfl⟩
  have live : ∀ k, (getB (argS 0 S') k).isSome = true → ∃ i, k = .arg i ∧ i < S'.length := fun k hk => by
    obtain ⟨b, hb⟩ := Option.isSome_iff_exists.1 hk
    obtain ⟨i, rfl, hi, _⟩ := at_ k b hb
    exact ⟨i, rfl, hi⟩
  have box0 : ∀ i (hi : i < S'.length), ∃ cs, getB σ.s (.arg i) = some (.var cs) ∧ lendL (settle σ.s S'.length 4) cs = some S'[i] := fun i hi => by
    obtain ⟨cs, h1, h2⟩ := (storeOut_spec hS).2 i hi
    exact ⟨cs, by rw [Nat.zero_add] at h1; exact h1, h2⟩
  exact { os := h.os, tape := h.tape, output := h.output, size := h.size, frame := h.frame, defers := hdf.symm
          gho := gho_up h.gho (Nat.le_refl _) (fun b hb => fin_NS h hna hM0 hS (l := []) (fun k hk => nomatch hk) hb) (fun _ _ => rfl)
          plc := fun k hk => by
            obtain ⟨i, rfl, hi⟩ := live k hk
            obtain ⟨c, hc⟩ := hM0 i (by omega)
            exact ⟨_, hc⟩
          box := fun k b pl hb hp => by
            obtain ⟨i, rfl, hi, rfl⟩ := at_ k b hb
            obtain ⟨cs, h1, h2⟩ := box0 i hi
            obtain ⟨c0, hc0⟩ := hM0 i (by omega)
            obtain ⟨c1, hc1⟩ := h.argM i (by omega)
            have hp' : M0 (.arg i) = some pl := hp
            rw [hc0] at hp'
            simp only [Option.some.injEq] at hp'; subst hp'
            obtain ⟨vs, e, hh, hr, h1c⟩ := h.box (.arg i) _ _ h1 hc1
            obtain ⟨e1, e2⟩ := lendL_spec h2
            exact ⟨vs, e, hh, ⟨by rw [e1]; exact hr.1, fun j hj hj' => fin_settle h hna hM0 hS 4 _ _ _ (e2 j (by omega) hj) (hr.2 j (by omega) hj')⟩, h1c⟩
          own := fun t pl ht hp => by
            obtain ⟨i, hi, _⟩ := live _ ht
            cases hi
          arg := fun i hi => by
            obtain ⟨j, hj, hlt⟩ := live _ hi
            cases hj; omega
          argM := hM0
          argz := fun i hi => nomatch hi
          inj := fun k1 k2 b c c' hk1 hk2 hp1 hp2 => by
            obtain ⟨i, rfl, hi⟩ := live k1 hk1
            obtain ⟨j, rfl, hj⟩ := live k2 hk2
            obtain ⟨ci, hci⟩ := hM0 i (by omega)
            obtain ⟨cj, hcj⟩ := hM0 j (by omega)
            obtain ⟨di, hdi⟩ := h.argM i (by omega)
            obtain ⟨dj, hdj⟩ := h.argM j (by omega)
            rw [hci] at hp1; rw [hcj] at hp2
            simp only [Option.some.injEq, Prod.mk.injEq] at hp1 hp2
            obtain ⟨cs1, g1, _⟩ := box0 i hi
            obtain ⟨cs2, g2, _⟩ := box0 j hj
            exact h.inj (.arg i) (.arg j) b di dj (by simp [g1]) (by simp [g2]) (by rw [hdi, hp1.1]) (by rw [hdj, hp2.1])
          env := fun t => .undef _ }
end

/-- From a function's text to what a call of it does. -/
theorem does_of_awp {f : FuncId} {fn : Func} {c : Code} {mc : MC} {H : Hints} {tb : Tb} {rs : List MR} (hm : P.follows .mixedOrders = true) (hf : P.funcs[f]? = some fn) (hname : (fn.name == "runtime.NumGoroutine") = false) (hb : fn.body = some c)
    (htr : trC P H tb fn.ntmps c = some mc) (hrs : trR P fn.results.toList = some rs) {args : List LV} (hargs : args.length ≤ fn.ntmps) {S S' : List (List LV)} (hSS : S'.length = S.length) {o : Out}
    (h : awp P mc (Fin rs o S') ⟨numE 0 args, argS 0 S, []⟩) : Does P f args S o S' := by
  refine ⟨⟨fn, hf, hname, by simp [hb]⟩, hSS, fun cx M vals hna hI hR => ?_⟩
  have hlen : vals.length = args.length := hR.1
  have hdf : cx.dfs = [] := hI.defers.symm
  refine calls_of_wp hf hb (awp_sound (cx := cx) hm c mc htr (Fin rs o S') _ (fun e σ' M' a' w' hq hI' hn' => ?_) _ M _ _ h ?_ (by simp; omega))
  · have hM0 : ∀ i, i < cx.na → ∃ c, M (.arg i) = some (cx.m i, c) := hI.argM
    have hret : (FinV o (finV σ' rs) ∧ storeOut σ'.s S'.length 0 S'.length = some S') → a'.defers = [] ∧ ∃ v, (results fn a'.tmps).run P w' = .ok v w' ∧ (Inv cx ⟨[], argS 0 S', []⟩ M ⟨#[], []⟩ w' ∧ Ended cx S' M w' o (.returned v)) := by
      rintro ⟨h1, h2⟩
      refine ⟨hI'.defers.trans hdf, ?_⟩
      unfold finV at h1
      split at h1
      · rename_i ls hls
        obtain ⟨x, hx, hRx⟩ := results_sound hI' hrs hls
        refine ⟨x, hx, fin_inv hI' (by omega) hM0 h2 hdf, ?_⟩
        cases hr : res σ'.s depth0 (outLV ls) with
        | none => rw [hr] at h1; exact h1.elim
        | some p =>
          obtain ⟨f', v'⟩ := p
          rw [hr] at h1
          cases o with
          | pan t => exact h1.elim
          | ret f0 v0 =>
            obtain ⟨rfl, hff⟩ := h1
            refine ⟨x, rfl, ?_⟩
            have h3 := RepL.imm_iff.1 (fin_res hI' (by omega) hM0 h2 hr hRx)
            refine RepL.imm_iff.2 ?_
            cases f0
            · cases f'
              · exact h3
              · exact h3.mono (fun b hb => hb.1) (fun _ _ _ _ h => h)
            · rw [hff rfl] at h3; exact h3
      · exact h1.elim
    cases e with
    | normal => exact hret hq
    | ret => exact hret hq
    | pan t => exact ⟨hI'.defers.trans hdf, fin_inv hI' (by omega) hM0 hq.2 hdf, by rw [hq.1]; rfl⟩
    | exit id => exact hq.elim
  · exact { os := hI.os, tape := hI.tape, output := hI.output, size := hI.size, frame := hI.frame, plc := hI.plc, box := hI.box, own := hI.own, arg := hI.arg, argM := hI.argM, argz := hI.argz, inj := hI.inj, defers := hI.defers, gho := hI.gho
            env := fun t => by
              have hg : getE (numE 0 args) t = args.getD t .undef := by rw [getE_numE]; simp
              show RR cx _ _ M _ (getE (numE 0 args) t) _
              rw [hg]
              by_cases ht : t < args.length
              · have : (vals.toArray ++ Array.replicate (fn.ntmps - vals.toArray.size) undef).getD t undef = vals[t]'(by omega) := by
                  rw [Array.getD_eq_getD_getElem?, Array.getElem?_append_left (by simp; omega)]
                  simp [hlen, ht]
                rw [this]
                have e : args.getD t .undef = args[t] := by simp [List.getD_eq_getElem?_getD, ht]
                rw [e]
                exact hR.2 t ht (by omega)
              · have e : args.getD t .undef = .undef := by rw [List.getD_eq_getElem?_getD, List.getElem?_eq_none (by omega)]; rfl
                rw [e]; exact .undef _ }
end
end Go.Proofs.YtopgmopdjiahmaaDoor.Lg
