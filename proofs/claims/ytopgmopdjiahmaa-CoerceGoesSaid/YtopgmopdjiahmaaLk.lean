/- Every operation, calls too, as the machine carries it out. Conditions: none; plain lemmas. -/
import Derived.Test.YtopgmopdjiahmaaLj
set_option linter.unusedVariables false
set_option linter.unusedSimpArgs false
namespace Go.Proofs.Ytopgmopdjiahmaa.Lg
open Go Go.RowKit

theorem keysL_app {f : LV → List Key} : ∀ (l l' : List LV), keysL f (l ++ l') = keysL f l ++ keysL f l'
  | [], l' => rfl
  | y :: l, l' => by simp [keysL, keysL_app l l']

section
variable {P : Program} {cx : Cx} {σ : St} {M : Pl} {a : Act} {w : World} {o : Oper}

theorem run_call {c : Call} {f : Operand} {g : FuncId} {caps : List Value} (hop : o.op = .call c) (hc : c.callee = .value f) (hf : a.eval f = .func (.func g) #[] caps.toArray) (hcal : Callable P g) :
    (execOp a.eval o).run P w = .ok (.enter g (c.args.toList.map a.eval ++ caps).toArray) w := by
  obtain ⟨fn, h1, h2, h3⟩ := hcal
  have h2' : ¬ (fn.name = "runtime.NumGoroutine") := by simpa using h2
  have : (#[] ++ Array.map a.eval c.args) ++ caps.toArray = (c.args.toList.map a.eval ++ caps).toArray := by
    apply Array.toList_inj.1; simp
  have h3' : ¬ (fn.body = none) := by intro e; rw [e] at h3; simp at h3
  have h5 : (callFunc g (c.args.toList.map a.eval ++ caps).toArray).run P w = .ok (.enter g (c.args.toList.map a.eval ++ caps).toArray) w := by
    simp [callFunc, h1, h2', h3']
  simp only [execOp, hop, resolve, hc, hf, Deferred.ofValue, Sem.run_bind, Sem.run_pure, Result.andThen_ok, invoke, pure_bind]
  rw [this]; exact h5

theorem put_some_or (h : Inv cx σ M a w) {dst : Option Nat} (hd : ∀ d, dst = some d → d < a.tmps.size) {lv : LV} {x : Value} (hx : RR cx σ.s σ.z M w lv x) :
    Inv cx { σ with e := match dst.map (fun d => (d, lv)) with | some (t, v) => putE σ.e t v | none => σ.e } M (a.put dst x) w := by
  cases dst with
  | none => exact h
  | some d => exact h.val (hd d rfl) hx

theorem put_size (a : Act) (d : Option Nat) (v : Value) : (a.put d v).tmps.size = a.tmps.size := by
  cases d <;> simp [Act.put]

theorem give_rep (h : Inv cx σ M a w) (ρ : List Key) (l : List Key) : ∀ {ls args : List LV} {xs : List Value} (hh : Inv cx { σ with z := addZ l σ.z } M a w) (hlive : ∀ i (hi : i < ρ.length), ρ[i] ∉ addZ l σ.z ∧ (getB σ.s ρ[i]).isSome = true) {S : List (List LV)} (hS : S.length = ρ.length),
    giveL σ ρ ls = some args → (∀ k ∈ giveK σ ρ ls, k ∈ l) → Rows2 (RR cx σ.s σ.z M w) ls xs → Rows2 (RR (lentCx hh ρ hlive) (argS 0 S) [] (lentM M ρ) w) args xs
  | [], args, xs, hh, hlive, S, hS, hg, hk, hr => by
    simp only [giveL, Option.some.injEq] at hg; subst hg
    have : xs = [] := List.eq_nil_of_length_eq_zero hr.1
    subst this; exact Rows2.nil
  | b :: ls, args, xs, hh, hlive, S, hS, hg, hk, hr => by
    simp only [giveL] at hg
    split at hg
    · rename_i c r e1 e2
      simp only [Option.some.injEq] at hg; subst hg
      cases xs with
      | nil => have := hr.1; simp at this
      | cons x xs =>
        obtain ⟨h1, h2⟩ := hr.of_cons
        refine Rows2.cons ?_ (give_rep h ρ l hh hlive hS e2 (fun k hk' => hk k (by simp only [giveK, List.mem_append]; exact .inr hk')) h2)
        have up : RR cx σ.s (addZ l σ.z) M w b x := RR.up (fun b hb => hb.addZ l) (fun _ _ h => h) (fun _ _ => rfl) h1
        split at e1
        · rename_i lv hlv
          simp only [Option.some.injEq] at e1; subst e1
          exact lend_sound hh ρ hlive hS 4 _ _ _ hlv up
        · rename_i hno
          obtain ⟨⟨f, v⟩, hp, rfl⟩ := Option.map_eq_some_iff.1 e1
          have := res_sound h l depth0 b f v x hp (fun k hk' => hk k (by simp only [giveK, hno, List.mem_append]; exact .inl hk')) h1
          refine RepL.imm_iff.2 ?_
          have weak : ∀ j, NS cx σ.s (addZ l σ.z) M w j → NS (lentCx hh ρ hlive) (argS 0 S) [] (lentM M ρ) w j := fun j hj => lent_NS hh ρ hlive hS hj
          cases f
          · exact this.mono weak (fun _ _ _ _ h => h)
          · exact this.mono (fun j hj => weak j hj.1) (fun _ _ _ _ h => h)
    · cases hg

theorem giveK_own (h : Inv cx σ M a w) (ρ : List Key) : ∀ {ls args : List LV}, giveL σ ρ ls = some args → ∀ k ∈ giveK σ ρ ls, k.isOwn = true
  | [], args, hg, k, hk => by simp [giveK] at hk
  | b :: ls, args, hg, k, hk => by
    simp only [giveL] at hg
    split at hg
    · rename_i c r e1 e2
      simp only [giveK, List.mem_append] at hk
      rcases hk with hk | hk
      · split at hk
        · cases hk
        · rename_i hno
          rw [hno] at e1
          obtain ⟨p, hp, _⟩ := Option.map_eq_some_iff.1 e1
          exact keys_own h depth0 b p hp k hk
      · exact giveK_own h ρ e2 k hk
    · cases hg

theorem trCall_value {h : Hints} {c : Call} {mo : MO} {dst : Option Nat} (htr : trCall P h c dst = some mo) (hc : mo.isCall = true) : ∃ f fx xs, c.callee = .value f ∧ trX f = some fx ∧ trXs c.args.toList = some xs ∧ (mo = .call dst fx xs ∨ ∃ ρ, mo = .callB dst fx xs ρ) := by
  unfold trCall at htr
  split at htr
  · split at htr
    · split at htr
      · obtain ⟨x', hx, rfl⟩ := Option.map_eq_some_iff.1 htr; simp [MO.isCall] at hc
      · obtain ⟨x', hx, rfl⟩ := Option.map_eq_some_iff.1 htr; simp [MO.isCall] at hc
      · cases htr
    · cases htr
  · split at htr
    · split at htr
      · split at htr
        · split at htr
          · split at htr
            · split at htr
              · simp only [Option.some.injEq] at htr; subst htr; simp [MO.isCall] at hc
              · cases htr
            · cases htr
          · cases htr
        · cases htr
      · cases htr
    · cases htr
  · split at htr
    · simp only [Option.some.injEq] at htr; subst htr; simp [MO.isCall] at hc
    · cases htr
  · split at htr
    · simp only [Option.some.injEq] at htr; subst htr; simp [MO.isCall] at hc
    · cases htr
  · rename_i f hcal
    split at htr
    · rename_i fx xs hf hxs
      split at htr
      · rename_i ρ hρ
        simp only [Option.some.injEq] at htr
        exact ⟨f, fx, xs, hcal, hf, hxs, .inr ⟨ρ, htr.symm⟩⟩
      · simp only [Option.some.injEq] at htr
        exact ⟨f, fx, xs, hcal, hf, hxs, .inl htr.symm⟩
    · cases htr
  · cases htr

theorem trOp_call {h : Hints} {mo : MO} (htr : trOp P h o = some mo) (hc : mo.isCall = true) : (∃ c f fx xs, o.op = .call c ∧ c.callee = .value f ∧ trX f = some fx ∧ trXs c.args.toList = some xs ∧ (mo = .call o.dst fx xs ∨ ∃ ρ, mo = .callB o.dst fx xs ρ)) ∨
    (∃ x x', o.op = .panic x ∧ trX x = some x' ∧ mo = .pan x') := by
  unfold trOp at htr
  split at htr
  case h_23 x _ hop => obtain ⟨x', hx, rfl⟩ := Option.map_eq_some_iff.1 htr; exact .inr ⟨_, x', hop, hx, rfl⟩
  case h_24 c hop =>
    obtain ⟨f, fx, xs, h1, h2, h3, h4⟩ := trCall_value htr hc
    exact .inl ⟨_, f, fx, xs, hop, h1, h2, h3, h4⟩
  all_goals exfalso
  all_goals (repeat' (split at htr))
  all_goals first
    | (cases htr; done)
    | (simp only [Option.some.injEq] at htr; subst htr; simp [MO.isCall] at hc; done)
    | (obtain ⟨x', hx, rfl⟩ := Option.map_eq_some_iff.1 htr; simp [MO.isCall] at hc; done)
    | (obtain ⟨x', hx, rfl⟩ := Option.map_eq_some_iff.1 htr; revert hc; split <;> simp [MO.isCall])

theorem emptyS {cx : Cx} {M : Pl} {w : World} : argS 0 [] = ([] : List (Key × Box)) := rfl

/-- **An operation, calls too**, as the machine carries it out. -/
theorem sat_goes {hts : Hints} {mo : MO} {E : Eff} {p : Option TypeId} (htr : trOp P hts o = some mo) (hsat : Sat P σ mo E p) (hI : Inv cx σ M a w) (hd : ∀ d, o.dst = some d → d < a.tmps.size)
    (hM : ∀ d, mo.news = some d → M (.own d) = none) {K : Act → World → Prop} {Q : Exit → Act → World → Prop}
    (hK : p = none → ∀ a' w' M', Inv cx (σ.app E) M' a' w' → a'.tmps.size = a.tmps.size → (∀ k, M k = none → (∀ d, o.dst = some d → k ≠ .own d) → M' k = none) → K a' w')
    (hQ : ∀ t, p = some t → ∀ a' w' M', Inv cx (σ.app E) M' a' w' → Q (.panic [{ v := .iface t (.agg #[]), recovered := false }]) a' w') : o.wp P a w K Q := by
  cases hc : mo.isCall with
  | false =>
    have hs : aop σ mo = some E ∧ p = none := by
      cases mo <;> first | exact hsat | (simp [MO.isCall] at hc)
    obtain ⟨ha, hp⟩ := hs
    obtain ⟨r, w', M', hrun, hr, hI', hM'⟩ := op_sound htr hc ha hI hd hM
    have := hK hp _ _ _ hI' (put_size _ _ _) hM'
    unfold Oper.wp
    rw [hrun]
    rcases hr with rfl | ⟨v, rfl⟩
    · exact this
    · exact this
  | true =>
    rcases trOp_call htr hc with ⟨c, f, fx, xs, hop, hcal, hf, hxs, hmo⟩ | ⟨x, x', hop, hx, rfl⟩
    · have hfx := trX_rep hI hf
      have hargs := trXs_rep hI hxs
      rcases hmo with rfl | ⟨ρ, rfl⟩
      · -- what is handed on is nobody's any more
        obtain ⟨g, caps, fl, vs, fr, v, hev, hres, ⟨hcallable, _, hdoes⟩, rfl, rfl⟩ := hsat
        rw [hev] at hfx
        generalize hfv : a.eval f = fv at *
        cases hfx with
        | fn g caps cvs hcl hcr =>
          have hlvs : Rows2 (RR cx σ.s σ.z M w) (xs.map σ.ev ++ caps) (c.args.toList.map a.eval ++ cvs) := hargs.append ⟨hcl, hcr⟩
          have hown := keysL_own hI depth0 _ _ hres
          have hI1 := hI.addZ hown
          obtain ⟨hlen, hrep⟩ := resL_reps' hI hlvs hres (fun k hk => hk)
          have hlive : ∀ i (hi : i < ([] : List Key).length), ([] : List Key)[i] ∉ addZ (keysL (Lg.keys σ.s depth0) (xs.map σ.ev ++ caps)) σ.z ∧ (getB σ.s ([] : List Key)[i]).isSome = true := fun i hi => by simp at hi
          have hpre := lent_inv hI1 [] hlive (S := []) List.nodup_nil rfl
          have hvals : Rows2 (RR (lentCx hI1 [] hlive) (argS 0 []) [] (lentM M []) w) (vs.map (.imm false)) (c.args.toList.map a.eval ++ cvs) := by
            refine ⟨by rw [List.length_map, hlen], fun j hj hj' => ?_⟩
            simp only [List.getElem_map]
            refine RepL.imm_iff.2 ?_
            have := hrep j (by simpa using hj) hj'
            cases fl
            · exact this.mono (fun b hb => lent_NS hI1 [] hlive (S := []) rfl hb) (fun _ _ _ _ h => h)
            · exact this.mono (fun b hb => lent_NS hI1 [] hlive (S := []) rfl hb.1) (fun _ _ _ _ h => h)
          have hcalls := hdoes (lentCx hI1 [] hlive) (lentM M []) (c.args.toList.map a.eval ++ cvs) rfl hpre hvals
          unfold Oper.wp
          rw [run_call hop hcal hfv hcallable, Oper.upon_enter]
          refine hcalls.mono fun e w' hpost => ?_
          obtain ⟨hp1, x, rfl, hx⟩ := hpost
          obtain ⟨hI2, hback⟩ := back_inv hI1 [] hlive (S' := []) (u := []) List.nodup_nil rfl hp1
          exact hK rfl _ _ M (put_some_or hI2 hd (hback fr v x hx)) (put_size _ _ _) (fun k hk _ => hk)
      · -- what is lent comes back
        obtain ⟨g, caps, args, S, o', S', u, hev, hnd, hdisj, hgive, hS, ⟨hcallable, hSl, hdoes⟩, hu, hE⟩ := hsat
        rw [hev] at hfx
        generalize hfv : a.eval f = fv at *
        cases hfx with
        | fn g caps cvs hcl hcr =>
          have hlvs : Rows2 (RR cx σ.s σ.z M w) (xs.map σ.ev ++ caps) (c.args.toList.map a.eval ++ cvs) := hargs.append ⟨hcl, hcr⟩
          have hown := giveK_own hI ρ hgive
          have hI1 := hI.addZ hown
          obtain ⟨hSlen, hSspec⟩ := lendBoxes_spec hS
          have hlive : ∀ i (hi : i < ρ.length), ρ[i] ∉ addZ (giveK σ ρ (xs.map σ.ev ++ caps)) σ.z ∧ (getB σ.s ρ[i]).isSome = true := fun i hi => by
            obtain ⟨hz, cs, hcs, _⟩ := hSspec i hi (by omega)
            refine ⟨fun hk => ?_, by simp [hcs]⟩
            rcases (mem_addZ _ _ _).1 hk with hk | hk
            · exact hdisj _ (List.getElem_mem hi) hk
            · exact hz hk
          have hS1 : lendBoxes { σ with z := addZ (giveK σ ρ (xs.map σ.ev ++ caps)) σ.z } ρ ρ = some S := by
            have gen : ∀ (r : List Key) (S : List (List LV)), (∀ k ∈ r, k ∉ addZ (giveK σ ρ (xs.map σ.ev ++ caps)) σ.z) → lendBoxes σ ρ r = some S → lendBoxes { σ with z := addZ (giveK σ ρ (xs.map σ.ev ++ caps)) σ.z } ρ r = some S := by
              intro r
              induction r with
              | nil => intro S _ h; exact h
              | cons k r ih =>
                intro S hk h
                simp only [lendBoxes] at h ⊢
                rw [if_neg (hk k List.mem_cons_self)]
                split at h
                · cases h
                · rename_i hz
                  split at h
                  · rename_i cs hb
                    split at h
                    · rename_i c' l e1 e2
                      have hb' : St.box { σ with z := addZ (giveK σ ρ (xs.map σ.ev ++ caps)) σ.z } k = some (.var cs) := hb
                      rw [hb']
                      simp only [e1, ih l (fun k' hk' => hk k' (List.mem_cons_of_mem _ hk')) e2]
                      exact h
                    · cases h
                  · cases h
            exact gen ρ S (fun k hk => by
              obtain ⟨i, hi, rfl⟩ := List.getElem_of_mem hk
              exact (hlive i hi).1) hS
          have hpre := lent_inv hI1 ρ hlive hnd hS1
          have hvals := give_rep hI ρ _ hI1 hlive hSlen hgive (fun k hk => hk) hlvs
          have hcalls := hdoes (lentCx hI1 ρ hlive) (lentM M ρ) (c.args.toList.map a.eval ++ cvs) (by simp [lentCx, hSlen]) hpre hvals
          unfold Oper.wp
          rw [run_call hop hcal hfv hcallable, Oper.upon_enter]
          refine hcalls.mono fun e w' hpost => ?_
          obtain ⟨hp1, hend⟩ := hpost
          obtain ⟨hI2, hback⟩ := back_inv hI1 ρ hlive hnd hu hp1
          cases o' with
          | ret fr v =>
            obtain ⟨rfl, rfl⟩ := hE
            obtain ⟨x, rfl, hx⟩ := hend
            exact hK rfl _ _ M (put_some_or hI2 hd (hback fr v x hx)) (put_size _ _ _) (fun k hk _ => hk)
          | pan t =>
            obtain ⟨rfl, rfl⟩ := hE
            simp only [Ended] at hend
            subst hend
            exact hQ t rfl _ _ M hI2
    · obtain ⟨t, hev, rfl, rfl⟩ := hsat
      have hR := trX_rep hI hx
      rw [hev] at hR
      have hv : a.eval x = .iface t (.agg #[]) := by generalize a.eval x = u at *; cases hR; rfl
      unfold Oper.wp
      have hrun : (execOp a.eval o).run P w = .halt (.panic (.iface t (.agg #[]))) w := by
        simp [execOp, hop, hv, Instr.panic]
      rw [hrun]
      exact hQ t rfl a w M hI
end
end Go.Proofs.Ytopgmopdjiahmaa.Lg
