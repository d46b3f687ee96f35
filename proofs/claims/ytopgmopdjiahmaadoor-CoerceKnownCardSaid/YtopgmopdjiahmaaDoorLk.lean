/- Every operation, calls too, as the machine carries it out. Conditions: none; plain lemmas. -/
import Derived.Test.YtopgmopdjiahmaaDoorLj
set_option linter.unusedVariables false
set_option linter.unusedSimpArgs false
namespace Go.Proofs.YtopgmopdjiahmaaDoor.Lg
open Go Go.RowKit

theorem keysL_app {f : LV → List Key} : ∀ (l l' : List LV), keysL f (l ++ l') = keysL f l ++ keysL f l'
  | [], l' => rfl
  | y :: l, l' => by simp [keysL, keysL_app l l']

section
variable {P : Program} {cx : Cx} {σ : St} {M : Pl} {a : Act} {w : World} {o : Oper}

theorem run_call {c : Call} {f : Operand} {g : FuncId} {caps : List Value} (hop : o.op = .call c) (hc : c.callee = .value f) (hf : a.eval f = .func (.func g) #[] caps.toArray) (hcal : Callable P g) :
    (execOp a.eval o).run P w = .ok (.enter g (c.args.toList.map a.eval ++ caps).toArray) w := by
  obtain ⟨fn, h1, h2, h3⟩ := hcal
  have h2' : ¬ (fn.name = "runtime.NumGoroutine") := by simpa using h2
  have : (#[] ++ Array.map a.eval c.args) ++ caps.toArray = (c.args.toList.map a.eval ++ caps).toArray := by
    apply Array.toList_inj.1; simp
  have h3' : ¬ (fn.body = none) := by intro e; rw [e] at h3; simp at h3
  have h5 : (callFunc g (c.args.toList.map a.eval ++ caps).toArray).run P w = .ok (.enter g (c.args.toList.map a.eval ++ caps).toArray) w := by
    simp [callFunc, h1, h2', h3']
  simp only [execOp, hop, resolve, hc, hf, Deferred.ofValue, Sem.run_bind, Sem.run_pure, Result.andThen_ok, invoke, pure_bind]
  rw [this]; exact h5

theorem put_some_or (h : Inv cx σ M a w) {dst : Option Nat} (hd : ∀ d, dst = some d → d < a.tmps.size) {lv : LV} {x : Value} (hx : RR cx σ.s σ.z M w lv x) :
    Inv cx { σ with e := match dst.map (fun d => (d, lv)) with | some (t, v) => putE σ.e t v | none => σ.e } M (a.put dst x) w := by
  cases dst with
  | none => exact h
  | some d => exact h.val (hd d rfl) hx

theorem put_size (a : Act) (d : Option Nat) (v : Value) : (a.put d v).tmps.size = a.tmps.size := by
  cases d <;> simp [Act.put]

theorem give_rep (h : Inv cx σ M a w) (ρ : List Key) (l : List Key) : ∀ {ls args : List LV} {xs : List Value} (hh : Inv cx { σ with z := addZ l σ.z } M a w) (hlive : ∀ i (hi : i < ρ.length), ρ[i] ∉ addZ l σ.z ∧ (getB σ.s ρ[i]).isSome = true) {S : List (List LV)} (hS : S.length = ρ.length),
    giveL σ ρ ls = some args → (∀ k ∈ giveK σ ρ ls, k ∈ l) → Rows2 (RR cx σ.s σ.z M w) ls xs → Rows2 (RR (lentCx hh ρ hlive) (argS 0 S) [] (lentM M ρ) w) args xs
  | [], args, xs, hh, hlive, S, hS, hg, hk, hr => by
    simp only [giveL, Option.some.injEq] at hg; subst hg
    have : xs = [] := List.eq_nil_of_length_eq_zero hr.1
    subst this; exact Rows2.nil
  | b :: ls, args, xs, hh, hlive, S, hS, hg, hk, hr => by
    simp only [giveL] at hg
    split at hg
    · rename_i c r e1 e2
      simp only [Option.some.injEq] at hg; subst hg
      cases xs with
      | nil => have := hr.1; simp at this
      | cons x xs =>
        obtain ⟨h1, h2⟩ := hr.of_cons
        refine Rows2.cons ?_ (give_rep h ρ l hh hlive hS e2 (fun k hk' => hk k (by simp only [giveK, List.mem_append]; exact .inr hk')) h2)
        have up : RR cx σ.s (addZ l σ.z) M w b x := RR.up (fun b hb => hb.addZ l) (fun _ _ h => h) (fun _ _ => rfl) h1
        split at e1
        · rename_i lv hlv
          simp only [Option.some.injEq] at e1; subst e1
          exact lend_sound hh ρ hlive hS 4 _ _ _ hlv up
        · rename_i hno
          obtain ⟨⟨f, v⟩, hp, rfl⟩ := Option.map_eq_some_iff.1 e1
          have := res_sound h l depth0 b f v x hp (fun k hk' => hk k (by simp only [giveK, hno, List.mem_append]; exact .inl hk')) h1
          refine RepL.imm_iff.2 ?_
          have weak : ∀ j, NS cx σ.s (addZ l σ.z) M w j → NS (lentCx hh ρ hlive) (argS 0 S) [] (lentM M ρ) w j := fun j hj => lent_NS hh ρ hlive hS hj
          cases f
          · exact this.mono weak (fun _ _ _ _ h => h)
          · exact this.mono (fun j hj => weak j hj.1) (fun _ _ _ _ h => h)
    · cases hg

theorem giveK_own (h : Inv cx σ M a w) (ρ : List Key) : ∀ {ls args : List LV}, giveL σ ρ ls = some args → ∀ k ∈ giveK σ ρ ls, k.isOwn = true
  | [], args, hg, k, hk => by simp [giveK] at hk
  | b :: ls, args, hg, k, hk => by
    simp only [giveL] at hg
    split at hg
    · rename_i c r e1 e2
      simp only [giveK, List.mem_append] at hk
      rcases hk with hk | hk
      · split at hk
        · cases hk
        · rename_i hno
          rw [hno] at e1
          obtain ⟨p, hp, _⟩ := Option.map_eq_some_iff.1 e1
          exact keys_own h depth0 b p hp k hk
      · exact giveK_own h ρ e2 k hk
    · cases hg

theorem trCall_value {h : Hints} {c : Call} {mo : MO} {dst : Option Nat} (htr : trCall P h c dst = some mo) (hc : mo.isCall = true) : ∃ f fx xs, c.callee = .value f ∧ trX f = some fx ∧ trXs c.args.toList = some xs ∧ (mo = .call dst fx xs ∨ (∃ ρ, mo = .callB dst fx xs ρ) ∨ ∃ d x xr, dst = some d ∧ xs = x :: xr ∧ mo = .acall d fx x xr) := by
  unfold trCall at htr
  split at htr
  · split at htr
    · split at htr
      · obtain ⟨x', hx, rfl⟩ := Option.map_eq_some_iff.1 htr; simp [MO.isCall] at hc
      · obtain ⟨x', hx, rfl⟩ := Option.map_eq_some_iff.1 htr; simp [MO.isCall] at hc
      · cases htr
    · cases htr
  · split at htr
    · split at htr
      · split at htr
        · split at htr
          · split at htr
            · split at htr
              · simp only [Option.some.injEq] at htr; subst htr; simp [MO.isCall] at hc
              · cases htr
            · cases htr
          · cases htr
        · cases htr
      · cases htr
    · cases htr
  · split at htr
    · simp only [Option.some.injEq] at htr; subst htr; simp [MO.isCall] at hc
    · cases htr
  · split at htr
    · simp only [Option.some.injEq] at htr; subst htr; simp [MO.isCall] at hc
    · cases htr
  · rename_i f hcal
    split at htr
    · rename_i fx xs hf hxs
      split at htr
      · split at htr
        · rename_i x xr d hdst
          simp only [Option.some.injEq] at htr
          exact ⟨f, fx, _, hcal, hf, hxs, .inr (.inr ⟨d, x, xr, rfl, rfl, htr.symm⟩)⟩
        · cases htr
      · rename_i ρ hρ
        simp only [Option.some.injEq] at htr
        exact ⟨f, fx, xs, hcal, hf, hxs, .inr (.inl ⟨_, htr.symm⟩)⟩
      · simp only [Option.some.injEq] at htr
        exact ⟨f, fx, xs, hcal, hf, hxs, .inl htr.symm⟩
    · cases htr
  · cases htr

theorem trOp_call {h : Hints} {mo : MO} (htr : trOp P h o = some mo) (hc : mo.isCall = true) : (∃ c f fx xs, o.op = .call c ∧ c.callee = .value f ∧ trX f = some fx ∧ trXs c.args.toList = some xs ∧ (mo = .call o.dst fx xs ∨ (∃ ρ, mo = .callB o.dst fx xs ρ) ∨ ∃ d x xr, o.dst = some d ∧ xs = x :: xr ∧ mo = .acall d fx x xr)) ∨
    (∃ x x', o.op = .panic x ∧ trX x = some x' ∧ mo = .pan x') := by
  unfold trOp at htr
  split at htr
  case h_24 x _ hop => obtain ⟨x', hx, rfl⟩ := Option.map_eq_some_iff.1 htr; exact .inr ⟨_, x', hop, hx, rfl⟩
  case h_25 c hop =>
    obtain ⟨f, fx, xs, h1, h2, h3, h4⟩ := trCall_value htr hc
    exact .inl ⟨_, f, fx, xs, hop, h1, h2, h3, h4⟩
  all_goals exfalso
  all_goals (repeat' (split at htr))
  all_goals first
    | (cases htr; done)
    | (simp only [Option.some.injEq] at htr; subst htr; simp [MO.isCall] at hc; done)
    | (obtain ⟨x', hx, rfl⟩ := Option.map_eq_some_iff.1 htr; simp [MO.isCall] at hc; done)
    | (obtain ⟨x', hx, rfl⟩ := Option.map_eq_some_iff.1 htr; revert hc; split <;> simp [MO.isCall])

theorem emptyS {cx : Cx} {M : Pl} {w : World} : argS 0 [] = ([] : List (Key × Box)) := rfl

theorem rows_ws {cx : Cx} {s : List (Key × Box)} {z : List Key} {M : Pl} {w : World} : ∀ ws : List ByteArray, Rows2 (RR cx s z M w) (ws.map fun x => [LV.imm true (.str x)]).flatten (ws.map Value.string)
  | [] => Rows2.nil
  | x :: ws => Rows2.cons (RepL.imm_iff.2 (.str x)) (rows_ws ws)
theorem rows_inv {cx : Cx} {s : List (Key × Box)} {z : List Key} {M : Pl} {w : World} : ∀ (ws : List ByteArray) (xs : List Value), Rows2 (RR cx s z M w) (ws.map fun x => [LV.imm true (.str x)]).flatten xs → xs = ws.map Value.string
  | [], xs, h => List.eq_nil_of_length_eq_zero (by simpa using h.1)
  | x :: ws, [], h => by have := h.1; simp at this
  | x :: ws, v :: xs, h => by
    have h' : Rows2 (RR cx s z M w) (.imm true (.str x) :: (ws.map fun x => [LV.imm true (.str x)]).flatten) (v :: xs) := h
    obtain ⟨h1, h2⟩ := h'.of_cons
    have := RepL.imm_iff.1 h1
    cases this
    rw [rows_inv ws xs h2]; rfl
/-- **An operation, calls too**, as the machine carries it out. -/
theorem sat_goes {hts : Hints} {mo : MO} {E : Eff} {p : Option TypeId} (htr : trOp P hts o = some mo) (hsat : Sat P σ mo E p) (hI : Inv cx σ M a w) (hd : ∀ d, o.dst = some d → d < a.tmps.size)
    (hM : ∀ d, mo.news = some d → M (.own d) = none) {K : Act → World → Prop} {Q : Exit → Act → World → Prop}
    (hK : p = none → ∀ a' w' M', Inv cx (σ.app E) M' a' w' → a'.tmps.size = a.tmps.size → (∀ k, M k = none → (∀ d, o.dst = some d → k ≠ .own d) → M' k = none) → K a' w')
    (hQ : ∀ t, p = some t → ∀ a' w' M', Inv cx (σ.app E) M' a' w' → Q (.panic [{ v := .iface t (.agg #[]), recovered := false }]) a' w') : o.wp P a w K Q := by
  cases hc : mo.isCall with
  | false =>
    have hs : aop σ mo = some E ∧ p = none := by
      cases mo <;> first | exact hsat | (simp [MO.isCall] at hc)
    obtain ⟨ha, hp⟩ := hs
    obtain ⟨r, w', M', hrun, hr, hI', hM'⟩ := op_sound htr hc ha hI hd hM
    have := hK hp _ _ _ hI' (put_size _ _ _) hM'
    unfold Oper.wp
    rw [hrun]
    rcases hr with rfl | ⟨v, rfl⟩
    · exact this
    · exact this
  | true =>
    rcases trOp_call htr hc with ⟨c, f, fx, xs, hop, hcal, hf, hxs, hmo⟩ | ⟨x, x', hop, hx, rfl⟩
    · have hfx := trX_rep hI hf
      have hargs := trXs_rep hI hxs
      rcases hmo with rfl | ⟨ρ, rfl⟩ | ⟨d, x, xr, hdst, rfl, rfl⟩
      · -- what is handed on is nobody's any more
        obtain ⟨g, caps, fl, vs, fr, v, hev, hres, ⟨hcallable, _, hdoes⟩, rfl, rfl⟩ := hsat
        rw [hev] at hfx
        generalize hfv : a.eval f = fv at *
        cases hfx with
        | fn g caps cvs hcl hcr =>
          have hlvs : Rows2 (RR cx σ.s σ.z M w) (xs.map σ.ev ++ caps) (c.args.toList.map a.eval ++ cvs) := hargs.append ⟨hcl, hcr⟩
          have hown := keysL_own hI depth0 _ _ hres
          have hI1 := hI.addZ hown
          obtain ⟨hlen, hrep⟩ := resL_reps' hI hlvs hres (fun k hk => hk)
          have hlive : ∀ i (hi : i < ([] : List Key).length), ([] : List Key)[i] ∉ addZ (keysL (Lg.keys σ.s depth0) (xs.map σ.ev ++ caps)) σ.z ∧ (getB σ.s ([] : List Key)[i]).isSome = true := fun i hi => by simp at hi
          have hpre := lent_inv hI1 [] hlive (S := []) List.nodup_nil rfl
          have hvals : Rows2 (RR (lentCx hI1 [] hlive) (argS 0 []) [] (lentM M []) w) (vs.map (.imm false)) (c.args.toList.map a.eval ++ cvs) := by
            refine ⟨by rw [List.length_map, hlen], fun j hj hj' => ?_⟩
            simp only [List.getElem_map]
            refine RepL.imm_iff.2 ?_
            have := hrep j (by simpa using hj) hj'
            cases fl
            · exact this.mono (fun b hb => lent_NS hI1 [] hlive (S := []) rfl hb) (fun _ _ _ _ h => h)
            · exact this.mono (fun b hb => lent_NS hI1 [] hlive (S := []) rfl hb.1) (fun _ _ _ _ h => h)
          have hcalls := hdoes (lentCx hI1 [] hlive) (lentM M []) (c.args.toList.map a.eval ++ cvs) rfl hpre hvals
          unfold Oper.wp
          rw [run_call hop hcal hfv hcallable, Oper.upon_enter]
          refine hcalls.mono fun e w' hpost => ?_
          obtain ⟨hp1, x, rfl, hx⟩ := hpost
          obtain ⟨hI2, hback⟩ := back_inv hI1 [] hlive (S' := []) (u := []) List.nodup_nil rfl hp1
          exact hK rfl _ _ M (put_some_or hI2 hd (hback fr v x hx)) (put_size _ _ _) (fun k hk _ => hk)
      · -- what is lent comes back
        obtain ⟨g, caps, args, S, o', S', u, hev, hnd, hdisj, hgive, hS, ⟨hcallable, hSl, hdoes⟩, hu, hE⟩ := hsat
        rw [hev] at hfx
        generalize hfv : a.eval f = fv at *
        cases hfx with
        | fn g caps cvs hcl hcr =>
          have hlvs : Rows2 (RR cx σ.s σ.z M w) (xs.map σ.ev ++ caps) (c.args.toList.map a.eval ++ cvs) := hargs.append ⟨hcl, hcr⟩
          have hown := giveK_own hI ρ hgive
          have hI1 := hI.addZ hown
          obtain ⟨hSlen, hSspec⟩ := lendBoxes_spec hS
          have hlive : ∀ i (hi : i < ρ.length), ρ[i] ∉ addZ (giveK σ ρ (xs.map σ.ev ++ caps)) σ.z ∧ (getB σ.s ρ[i]).isSome = true := fun i hi => by
            obtain ⟨hz, cs, hcs, _⟩ := hSspec i hi (by omega)
            refine ⟨fun hk => ?_, by simp [hcs]⟩
            rcases (mem_addZ _ _ _).1 hk with hk | hk
            · exact hdisj _ (List.getElem_mem hi) hk
            · exact hz hk
          have hS1 : lendBoxes { σ with z := addZ (giveK σ ρ (xs.map σ.ev ++ caps)) σ.z } ρ ρ = some S := by
            have gen : ∀ (r : List Key) (S : List (List LV)), (∀ k ∈ r, k ∉ addZ (giveK σ ρ (xs.map σ.ev ++ caps)) σ.z) → lendBoxes σ ρ r = some S → lendBoxes { σ with z := addZ (giveK σ ρ (xs.map σ.ev ++ caps)) σ.z } ρ r = some S := by
              intro r
              induction r with
              | nil => intro S _ h; exact h
              | cons k r ih =>
                intro S hk h
                simp only [lendBoxes] at h ⊢
                rw [if_neg (hk k List.mem_cons_self)]
                split at h
                · cases h
                · rename_i hz
                  split at h
                  · rename_i cs hb
                    split at h
                    · rename_i c' l e1 e2
                      have hb' : St.box { σ with z := addZ (giveK σ ρ (xs.map σ.ev ++ caps)) σ.z } k = some (.var cs) := hb
                      rw [hb']
                      simp only [e1, ih l (fun k' hk' => hk k' (List.mem_cons_of_mem _ hk')) e2]
                      exact h
                    · cases h
                  · cases h
            exact gen ρ S (fun k hk => by
              obtain ⟨i, hi, rfl⟩ := List.getElem_of_mem hk
              exact (hlive i hi).1) hS
          have hpre := lent_inv hI1 ρ hlive hnd hS1
          have hvals := give_rep hI ρ _ hI1 hlive hSlen hgive (fun k hk => hk) hlvs
          have hcalls := hdoes (lentCx hI1 ρ hlive) (lentM M ρ) (c.args.toList.map a.eval ++ cvs) (by simp [lentCx, hSlen]) hpre hvals
          unfold Oper.wp
          rw [run_call hop hcal hfv hcallable, Oper.upon_enter]
          refine hcalls.mono fun e w' hpost => ?_
          obtain ⟨hp1, hend⟩ := hpost
          obtain ⟨hI2, hback⟩ := back_inv hI1 ρ hlive hnd hu hp1
          cases o' with
          | ret fr v =>
            obtain ⟨rfl, rfl⟩ := hE
            obtain ⟨x, rfl, hx⟩ := hend
            exact hK rfl _ _ M (put_some_or hI2 hd (hback fr v x hx)) (put_size _ _ _) (fun k hk _ => hk)
          | pan t =>
            obtain ⟨rfl, rfl⟩ := hE
            simp only [Ended] at hend
            subst hend
            exact hQ t rfl _ _ M hI2
      · -- a row is lengthened
        obtain ⟨g, e, ws, B, fl, vs, hev, hres, ⟨hcallable, hdoes⟩, rfl, hE⟩ := hsat
        rw [hev] at hfx
        generalize hfv : a.eval f = fv at *
        cases hfx with
        | fn g caps cvs hcl hcr =>
          have hc0 : cvs = [] := List.eq_nil_of_length_eq_zero (by simpa using hcl)
          subst hc0
          obtain ⟨av, hav, hargl⟩ : ∃ (v : Value) (vals : List Value), c.args.toList.map a.eval = v :: vals := by
            have h1 := hargs.1
            cases hal : c.args.toList.map a.eval with
            | nil => rw [hal] at h1; simp at h1
            | cons v vals => exact ⟨v, vals, rfl⟩
          rw [hargl] at hargs
          simp only [List.map_cons] at hargs
          obtain ⟨hrow, hrest⟩ := hargs.of_cons
          have hown := keysL_own hI depth0 _ _ hres
          have hI1 := hI.addZ hown
          obtain ⟨hlen, hrep⟩ := resL_reps' hI hrest hres (fun k hk => hk)
          have hrep' : ∀ j (h : j < vs.length) (h' : j < hav.length), RepI w (NS cx σ.s (addZ (keysL (Lg.keys σ.s depth0) (xr.map σ.ev)) σ.z) M w) vs[j] hav[j] := fun j h h' => by
            have := hrep j h h'
            cases fl
            · exact this
            · exact this.mono (fun b hb => hb.1) (fun _ _ _ _ h => h)
          have hd' : d < a.tmps.size := hd d hdst
          have hMd : M (.own d) = none := hM d rfl
          have nk : getB σ.s (.own d) = none := by
            cases hb : getB σ.s (.own d) with
            | none => rfl
            | some b => obtain ⟨pl, hp⟩ := hI.plc (.own d) (by simp [hb]); rw [hMd] at hp; cases hp
          have hwl : (ws.map fun s => [LV.imm true (.str s)]).length = ws.length := by simp
          have hw1 : ∀ x ∈ (ws.map fun s => [LV.imm true (IV.str s)]), x.length = 1 := fun x hx => by
            obtain ⟨s, _, rfl⟩ := List.mem_map.1 hx; rfl
          have hone : ∀ u ∈ ws.map Value.string, u.oneCell' = true := fun u hu => by
            obtain ⟨s, _, rfl⟩ := List.mem_map.1 hu; rfl
          unfold Oper.wp
          rw [run_call hop hcal hfv hcallable, Oper.upon_enter, hargl]
          simp only [List.append_nil]
          rcases hE with ⟨hx0, rfl⟩ | ⟨k, es, hx0, hkz, hkl, hko, hbx, hle, rfl⟩
          · rw [hx0] at hrow
            have hav0 : av = .slice none 0 0 := by cases hrow; rfl
            subst hav0
            refine (hdoes w (.slice none 0 0) [] hav (NS cx σ.s (addZ (keysL (Lg.keys σ.s depth0) (xr.map σ.ev)) σ.z) M w) (World.ownsRow_nil w 0 e 1) (Nat.zero_le _) (fun b hb => ⟨hb.2.1, by simp [Value.ownBlock]⟩) hlen.symm hrep').mono fun en w' hpost => ?_
            obtain ⟨g', c', rfl, hown', hgrow, hor⟩ := hpost
            have hge : w.heap.size ≤ g' := by
              rcases hor with h | h
              · simp [Value.ownBlock] at h
              · exact h
            simp only [List.length_nil, List.map_nil, Nat.zero_add, List.nil_append] at hown' ⊢
            have hI2 := hI1.row (s0 := σ.s) (old := none) (fun k b hb => hb) nk hMd hgrow (fun g hg => by cases hg) (e := e) (sz := 1) (es := ws.map fun s => [LV.imm true (.str s)]) (g' := g') (c' := c') (xs := ws.map .string) (.inr hge)
              (by rw [hwl]; exact hown') (rows_ws ws) hw1 hone
            refine hK rfl _ _ (fun k => if k = Key.own d then some (g', c') else M k) ?_ (put_size _ _ _) fun k hk' hne => ?_
            · rw [hdst]
              exact hI2.val hd' (RepL.row (.own d) ws.length g' c' (by simp))
            · have := hne d hdst
              show (if k = Key.own d then some (g', c') else M k) = none
              simp [this, hk']
          · rw [hx0] at hrow
            cases hrow with
            | row k n b1 c1 hM1 =>
              have hbx' : getB σ.s k = some (.row e 1 es) := hbx
              obtain ⟨xs1, hown1, hrows1, hsz1, hone1⟩ := hI.box k _ _ hbx hM1
              obtain ⟨hle, ss, hes⟩ := hle
              have hesl : es.length = ss.length := by rw [hes, List.length_map]
              have hxs1 : xs1 = ss.map .string := rows_inv ss _ (by rw [← hes]; exact hrows1)
              have hkd : k ≠ .own d := by rintro rfl; rw [nk] at hbx'; cases hbx'
              have hge : cx.w.heap.size ≤ b1 := by
                cases k with
                | own t => exact hI.own t _ (by rw [hbx']; rfl) hM1
                | arg i => simp [Key.isOwn] at hko
              have hkz' : k ∉ addZ (keysL (Lg.keys σ.s depth0) (xr.map σ.ev)) σ.z := fun hc => (mem_addZ _ _ _).1 hc |>.elim hkl hkz
              refine (hdoes w (.slice (some ⟨b1, 0, none⟩) es.length c1) ss hav (NS cx σ.s (addZ (keysL (Lg.keys σ.s depth0) (xr.map σ.ev)) σ.z) M w) (by rw [← hesl, ← hxs1]; exact hown1) (by rw [← hesl]; exact hle) (fun b hb => ⟨hb.2.1, fun he => ?_⟩) hlen.symm hrep').mono fun en w' hpost => ?_
              · have he : b1 = b := by simpa [Value.ownBlock] using he
                subst he
                exact hb.2.2 k c1 (by rw [hbx']; rfl) hkz' hM1
              obtain ⟨g', c', rfl, hown', hgrow, hor⟩ := hpost
              rw [← hesl, ← hxs1] at hown'
              rw [← hesl]
              have hI2 := hI1.row (s0 := delB σ.s k) (old := some b1) (fun k' b' hb => (del_some hb).2) (by rw [getB_del, if_neg hkd]; exact nk) hMd (by simpa [Value.ownBlock] using hgrow)
                (fun g hg => by
                  simp only [Option.some.injEq] at hg; subst hg
                  refine ⟨fun j hj e => ?_, fun k' c'' hk' hM' => ?_, hge⟩
                  · subst e; exact hj.2.2 k c1 (by show (getB σ.s k).isSome = true; rw [hbx']; rfl) hkz' hM1
                  · obtain ⟨h5, h6⟩ := del_live hk'
                    exact h5 (hI.inj k k' b1 c1 c'' (by rw [hbx']; rfl) h6 hM1 hM'))
                (e := e) (sz := 1) (es := es ++ ws.map fun s => [LV.imm true (.str s)]) (g' := g') (c' := c') (xs := xs1 ++ ws.map .string) (by
                  rcases hor with h | h
                  · left; simpa [Value.ownBlock] using h
                  · exact .inr h)
                (by rw [List.length_append, hwl]; exact hown') (by
                  rw [List.flatten_append]
                  refine Rows2.append (hrows1.mono fun l v _ h => ?_) (rows_ws ws)
                  exact RR.up (fun b hb => hb.addZ _) (fun _ _ h => h) (fun _ _ => rfl) h)
                (fun x hx => (List.mem_append.1 hx).elim (hsz1 x) (hw1 x))
                (fun v hv => (List.mem_append.1 hv).elim (hone1 v) (hone v))
              refine hK rfl _ _ (fun k => if k = Key.own d then some (g', c') else M k) ?_ (put_size _ _ _) fun k hk' hne => ?_
              · rw [hdst]
                exact hI2.val hd' (RepL.row (.own d) (es.length + ws.length) g' c' (by simp))
              · have := hne d hdst
                show (if k = Key.own d then some (g', c') else M k) = none
                simp [this, hk']
    · obtain ⟨t, hev, rfl, rfl⟩ := hsat
      have hR := trX_rep hI hx
      rw [hev] at hR
      have hv : a.eval x = .iface t (.agg #[]) := by generalize a.eval x = u at *; cases hR; rfl
      unfold Oper.wp
      have hrun : (execOp a.eval o).run P w = .halt (.panic (.iface t (.agg #[]))) w := by
        simp [execOp, hop, hv, Instr.panic]
      rw [hrun]
      exact hQ t rfl a w M hI
end
end Go.Proofs.YtopgmopdjiahmaaDoor.Lg
