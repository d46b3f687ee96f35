/- Each operation, one by one, fourth part: stores, appends, made slices. Conditions: none; plain lemmas. -/
import Derived.Test.YtopgmopdjiahmaaDoorLg
import Derived.Maps.AppendAt
set_option linter.unusedVariables false
set_option linter.unusedSimpArgs false
namespace Go.Proofs.YtopgmopdjiahmaaDoor.Lg
open Go Go.RowKit
section
variable {P : Program} {cx : Cx} {σ : St} {M : Pl} {a : Act} {w : World} {o : Oper} {d : Nat}

/-- A box's cells are written. -/
theorem Inv.store (h : Inv cx σ M a w) {k : Key} {cs cs' : List LV} (hk : getB σ.s k = some (.var cs)) (hz : k ∉ σ.z) {b c : Nat} (hM : M k = some (b, c)) {w' : World} {vs : List Value} {e : TypeId}
    (hb : w'.heap[b]? = some (.cells vs.toArray e (0, 0))) (hv : Rows2 (RR cx σ.s σ.z M w) cs' vs) (h1 : ∀ v ∈ vs, v.oneCell' = true)
    (ho : w'.os = w.os) (ht : w'.tape = w.tape) (hout : w'.output = w.output) (hsz : w'.heap.size = w.heap.size) (hoth : ∀ j, j ≠ b → w'.heap[j]? = w.heap[j]?) :
    Inv cx { σ with s := setB σ.s k (.var cs') } M a w' := by
  have live : ∀ k', (getB (setB σ.s k (.var cs')) k').isSome = true → (getB σ.s k').isSome = true := by
    intro k' hk'
    rw [getB_set] at hk'
    split at hk'
    · rename_i he; subst he; simp [hk]
    · exact hk'
  have hN : ∀ j, NS cx σ.s σ.z M w j → NS cx (setB σ.s k (.var cs')) σ.z M w' j := fun j hj => ⟨hj.1, by rw [hsz]; exact hj.2.1, fun k' c' hk' hz' => hj.2.2 k' c' (live k' hk') hz'⟩
  have hne : ∀ j, NS cx σ.s σ.z M w j → j ≠ b := fun j hj e => by subst e; exact hj.2.2 k c (by simp [hk]) hz hM
  have up : ∀ v x, RR cx σ.s σ.z M w v x → RR cx (setB σ.s k (.var cs')) σ.z M w' v x := fun v x hx => RR.up hN (fun _ _ h => h) (fun j hj => hoth j (hne j hj)) hx
  exact { os := ho.trans h.os, tape := ht.trans h.tape, output := hout.trans h.output, defers := h.defers, argz := h.argz, argM := h.argM
          gho := gho_up h.gho (by rw [hsz]; exact Nat.le_refl _) hN (fun j hj => hoth j (hne j hj))
          size := by rw [hsz]; exact h.size
          frame := fun j hj hi => by
            have : j ≠ b := by
              rintro rfl
              cases k with
              | own t => have := h.own t _ (by simp [hk]) hM; simp at this; omega
              | arg i =>
                have hi' := h.arg i (by simp [hk])
                obtain ⟨c', hc'⟩ := h.argM i hi'
                rw [hM] at hc'
                exact hi i hi' (by simpa using (Prod.mk.inj (Option.some.inj hc')).1.symm)
            exact (hoth j this).trans (h.frame j hj hi)
          plc := fun k' hk' => h.plc k' (live k' hk')
          box := fun k' b' pl hb' hp => by
            simp only [getB_set] at hb'
            split at hb'
            · rename_i he; subst he
              simp only [Option.some.injEq] at hb'; subst hb'
              rw [hM] at hp; simp only [Option.some.injEq] at hp; subst hp
              exact ⟨vs.toArray, e, hb, by simpa using hv.mono fun l v _ => up l v, by simpa using h1⟩
            · rename_i he
              have hbx := h.box k' b' pl hb' hp
              refine hbx.up up (hoth _ fun e => he ?_)
              obtain ⟨pb, pc⟩ := pl
              simp only at e; subst e
              exact h.inj k k' pb c pc (by simp [hk]) (by simp [hb']) hM hp
          own := fun t pl ht' hp => h.own t pl (live _ ht') hp
          arg := fun i hi => h.arg i (live _ hi)
          inj := fun k1 k2 b1 c1 c2 hk1 hk2 => h.inj k1 k2 b1 c1 c2 (live _ hk1) (live _ hk2)
          env := fun t => up _ _ (h.env t) }

theorem setAtV_eq : ∀ (us : List Value) (xs : List Value) (o : Nat), o + us.length ≤ xs.length → setAtV xs o us = xs.take o ++ us ++ xs.drop (o + us.length)
  | [], xs, o, _ => by simp [setAtV]
  | u :: us, xs, o, hle => by
    simp only [setAtV, List.length_cons] at hle ⊢
    rw [setAtV_eq us (xs.set o u) (o + 1) (by simp; omega)]
    have h1 : (xs.set o u).take (o + 1) = xs.take o ++ [u] := by
      rw [List.take_succ_eq_append_getElem (by simp; omega)]
      simp [List.take_set_of_le]
    have h2 : (xs.set o u).drop (o + 1 + us.length) = xs.drop (o + (us.length + 1)) := by
      rw [List.drop_set_of_lt (by omega)]; congr 1; omega
    rw [h1, h2]; simp

theorem goes_store (h : Inv cx σ M a w) (ho : o.dst = none) {t : TypeId} {x y : Operand} {x' y' : Opd} {n : Nat} (hop : o.op = .store t x y) (hx : trX x = some x') (hy : trX y = some y') (hn : szOf P t = some n)
    {E : Eff} (ha : aop σ (.store x' y' n) = some E) : OpGoes P cx o a w M (σ.app E) := by
  have hR := trX_rep h hx
  have hS := trX_rep h hy
  simp only [aop] at ha
  split at ha
  · rename_i k off hev
    split at ha
    · cases ha
    · rename_i hz
      split at ha
      · rename_i cs hbx
        split at ha
        · rename_i vs hvs
          split at ha
          · rename_i hle
            obtain ⟨hl1, hl2⟩ := hle
            simp only [Option.some.injEq] at ha; subst ha
            rw [hev] at hR
            generalize hg : a.eval x = u at *
            cases hR with
            | loc k off b c hM =>
              obtain ⟨cur, e, hh, hr, h1⟩ := h.box k _ _ hbx hM
              obtain ⟨hr2, h2⟩ := hS.cells hvs
              have e1 := hr.1
              have e2 := hr2.1
              simp only [Array.length_toList] at e1 e2
              have hst := run_storeCells_at P b off e (a.eval y).cells.toList 0 cur w hh (by simp; omega) h2
              simp only [Nat.add_zero] at hst
              rw [← setAtV_eq _ _ _ (by simp; omega)] at hst
              refine ⟨.skip, w.setRow b (setAtV cur.toList off (a.eval y).cells.toList).toArray, M, ?_, .inl rfl, ?_, fun k hk _ => hk⟩
              · have hs := run_sizeOf' (w := w) hn
                simp [execOp, hop, hg, Instr.storeAt, Instr.sureAddr, storeVar, hs, show (a.eval y).cells.size = n by omega, hst]
              · rw [ho]
                exact h.store hbx hz hM (setRow_heap w b cur _ e _ hh) (hr.setAt off hr2) (setAtV_one _ _ _ h1 h2) rfl rfl rfl (by simp [World.setRow]) (fun j hj => setRow_other w b j _ (by omega))
          · cases ha
        · cases ha
      · cases ha
  · cases ha

/-! ### append -/
theorem ownsRow_zero {base e sz n : Nat} {v : Value} {xs : List Value} (h : w.ownsRow base e sz v n xs) : w.ownsRow 0 e sz v n xs := by
  refine ⟨h.1, ?_⟩
  rcases h.2 with h2 | ⟨g, cap, cur, h1, h2, h3⟩
  · exact .inl h2
  · exact .inr ⟨g, cap, cur, h1, Nat.zero_le _, h3⟩
theorem ownsRow_base {base e sz n c g : Nat} {xs : List Value} (h : w.ownsRow 0 e sz (.slice (some ⟨g, 0, none⟩) n c) n xs) (hb : base ≤ g) : w.ownsRow base e sz (.slice (some ⟨g, 0, none⟩) n c) n xs := by
  refine ⟨h.1, ?_⟩
  rcases h.2 with ⟨h2, _⟩ | ⟨g', cap, cur, h1, h2, h3⟩
  · cases h2
  · refine .inr ⟨g', cap, cur, h1, ?_, h3⟩
    have : g' = g := by injection h1 with h4; injection h4 with h4; injection h4 with h4; exact h4.symm
    omega

/-- A row grows: s0 is the store without the old one. -/
theorem Inv.row (h : Inv cx σ M a w) {s0 : List (Key × Box)} (hs0 : ∀ k b, getB s0 k = some b → getB σ.s k = some b) (hd0 : getB s0 (.own d) = none) (hMd : M (.own d) = none) {w' : World} {old : Option Nat}
    (hg : w.grownBy w' old) (hold : ∀ g, old = some g → (∀ j, NS cx σ.s σ.z M w j → j ≠ g) ∧ (∀ k c, (getB s0 k).isSome = true → M k ≠ some (g, c)) ∧ cx.w.heap.size ≤ g)
    {e sz : Nat} {es : List (List LV)} {g' c' : Nat} {xs : List Value} (hg' : old = some g' ∨ w.heap.size ≤ g')
    (hown : w'.ownsRow 0 e sz (.slice (some ⟨g', 0, none⟩) es.length c') es.length xs) (hrows : Rows2 (RR cx σ.s σ.z M w) es.flatten xs) (hsz : ∀ x ∈ es, x.length = sz) (h1 : ∀ v ∈ xs, v.oneCell' = true) :
    Inv cx { σ with s := setB s0 (.own d) (.row e sz es) } (fun k => if k = .own d then some (g', c') else M k) a w' := by
  have hMM : ∀ k p, M k = some p → (fun k => if k = Key.own d then some (g', c') else M k) k = some p := by
    intro k p hp
    by_cases hkd : k = .own d
    · subst hkd; rw [hMd] at hp; cases hp
    · simp [hkd, hp]
  have live : ∀ k, (getB (setB s0 (.own d) (.row e sz es)) k).isSome = true → k = .own d ∨ (getB s0 k).isSome = true := by
    intro k hk'
    rw [getB_set] at hk'
    by_cases hkd : k = .own d
    · exact .inl hkd
    · rw [if_neg (Ne.symm hkd)] at hk'; exact .inr hk'
  have old0 : ∀ k, (getB s0 k).isSome = true → (getB σ.s k).isSome = true := fun k hk => by
    obtain ⟨b, hb⟩ := Option.isSome_iff_exists.1 hk
    simp [hs0 k b hb]
  have hN : ∀ j, NS cx σ.s σ.z M w j → NS cx (setB s0 (.own d) (.row e sz es)) σ.z (fun k => if k = Key.own d then some (g', c') else M k) w' j := by
    rintro j hj
    refine ⟨hj.1, Nat.lt_of_lt_of_le hj.2.1 hg.size, fun k c hk' hz => ?_⟩
    by_cases hkd : k = .own d
    · subst hkd
      simp only [if_true, ne_eq, Option.some.injEq, Prod.mk.injEq, not_and]
      intro e1
      rcases hg' with hg' | hg'
      · exact absurd e1.symm ((hold g' hg').1 j hj)
      · have := hj.2.1; omega
    · simp only [if_neg hkd]
      exact hj.2.2 k c (old0 k ((live k hk').resolve_left hkd)) hz
  have hw : ∀ j, NS cx σ.s σ.z M w j → w'.heap[j]? = w.heap[j]? := fun j hj => hg.block j hj.2.1 fun e => (hold j e.symm).1 j hj rfl
  have up : ∀ v x, RR cx σ.s σ.z M w v x → RR cx (setB s0 (.own d) (.row e sz es)) σ.z (fun k => if k = Key.own d then some (g', c') else M k) w' v x := fun v x hx => RR.up hN hMM hw hx
  have hblk : ∀ k b pl, getB s0 k = some b → M k = some pl → w'.heap[pl.1]? = w.heap[pl.1]? := fun k b pl hb hp =>
    hg.block pl.1 (h.lt (old0 k (by simp [hb])) hp) fun e => by
      obtain ⟨pb, pc⟩ := pl
      exact (hold pb e.symm).2.1 k pc (by simp [hb]) hp
  exact { os := hg.os.trans h.os, tape := hg.tape.trans h.tape, output := hg.output.trans h.output, defers := h.defers, argz := h.argz
          gho := gho_up h.gho hg.size hN hw
          size := Nat.le_trans h.size hg.size
          frame := fun j hj hi => (hg.block j (Nat.lt_of_lt_of_le hj h.size) fun e => by have := (hold j e.symm).2.2; omega).trans (h.frame j hj hi)
          plc := fun k hk' => by
            by_cases hkd : k = .own d
            · exact ⟨(g', c'), by simp [hkd]⟩
            · obtain ⟨pl, hp⟩ := h.plc k (old0 k ((live k hk').resolve_left hkd))
              exact ⟨pl, hMM k pl hp⟩
          box := fun k b pl hb hp => by
            simp only [getB_set] at hb
            by_cases hkd : k = .own d
            · subst hkd
              simp only [if_true, Option.some.injEq] at hb hp
              subst hb; subst hp
              exact ⟨xs, hown, hrows.mono fun l v _ => up l v, hsz, h1⟩
            · rw [if_neg (Ne.symm hkd)] at hb
              simp only [if_neg hkd] at hp
              exact (h.box k b pl (hs0 k b hb) hp).up up (hblk k b pl hb hp)
          own := fun t pl ht hp => by
            by_cases hkd : Key.own t = .own d
            · simp only [if_pos hkd, Option.some.injEq] at hp; subst hp
              rcases hg' with hg' | hg'
              · exact (hold g' hg').2.2
              · have := h.size; show cx.w.heap.size ≤ g'; omega
            · simp only [if_neg hkd] at hp; exact h.own t pl (old0 _ ((live _ ht).resolve_left hkd)) hp
          arg := fun i hi => h.arg i (old0 _ ((live _ hi).resolve_left (by simp)))
          argM := fun i hi => by obtain ⟨c, hc⟩ := h.argM i hi; exact ⟨c, hMM _ _ hc⟩
          inj := fun k k' b c c2 hk1 hk2 hp hp' => by
            have other : ∀ k1 c1, (getB s0 k1).isSome = true → M k1 ≠ some (g', c1) := fun k1 c1 hk1 hp1 => by
              rcases hg' with hg' | hg'
              · exact (hold g' hg').2.1 k1 c1 hk1 hp1
              · have := h.lt (old0 k1 hk1) hp1; simp only at this; omega
            by_cases hkd : k = .own d
            · by_cases hkd' : k' = .own d
              · rw [hkd, hkd']
              · simp only [if_pos hkd, if_neg hkd'] at hp hp'
                simp only [Option.some.injEq, Prod.mk.injEq] at hp
                obtain ⟨rfl, _⟩ := hp
                exact absurd hp' (other k' c2 ((live k' hk2).resolve_left hkd'))
            · by_cases hkd' : k' = .own d
              · simp only [if_neg hkd, if_pos hkd'] at hp hp'
                simp only [Option.some.injEq, Prod.mk.injEq] at hp'
                obtain ⟨rfl, _⟩ := hp'
                exact absurd hp (other k c ((live k hk1).resolve_left hkd))
              · simp only [if_neg hkd, if_neg hkd'] at hp hp'
                exact h.inj k k' b c c2 (old0 _ ((live k hk1).resolve_left hkd)) (old0 _ ((live k' hk2).resolve_left hkd')) hp hp'
          env := fun t => up _ _ (h.env t) }

/-- The new elements, as they lie in memory. -/
theorem news_of {f : Bool} {news : List (List IV)} {x : Value} {sz : Nat} (hR : RR cx σ.s σ.z M w (.imm f (.slice news)) x) (hall : ∀ v ∈ news, v.length = sz) (hpos : 0 < news.length) :
    ∃ b o c us, x = .slice (some ⟨b, o, none⟩) news.length c ∧ us.length = news.length * sz ∧ (∀ j u, us[j]? = some u → w.cell? ((⟨b, o, none⟩ : Addr).add j) = some u) ∧ (∀ u ∈ us, u.oneCell' = true) ∧
      Rows2 (RR cx σ.s σ.z M w) (news.map fun v => v.map (LV.imm f)).flatten us ∧ news.length ≤ 9223372036854775807 := by
  have hR := RepL.imm_iff.1 hR
  cases hR with
  | slice0 A c => simp at hpos
  | slice elems b o sz' c vs hN hsz hm hcap hc h1 hr =>
    have hs : sz' = sz := by rw [← hsz 0 hpos]; exact hall _ (List.getElem_mem hpos)
    subst hs
    have hflat : (news.map fun v => v.map (LV.imm f)).flatten = news.flatten.map (LV.imm f) := by rw [List.map_flatten]
    have hfl := flatten_len sz' news hall
    refine ⟨b, o, c, (List.range (news.length * sz')).map vs, rfl, by simp, fun j u hu => ?_, fun u hu => ?_, ?_, hm⟩
    · rw [List.getElem?_map, Option.map_eq_some_iff] at hu
      obtain ⟨i, hi, rfl⟩ := hu
      obtain ⟨hi1, rfl⟩ := List.getElem?_eq_some_iff.1 hi
      rw [add_flat]
      simp only [List.getElem_range]
      exact hc j (by simpa using hi1)
    · obtain ⟨j, hj, rfl⟩ := List.mem_map.1 hu
      exact h1 j (by simpa using hj)
    · rw [hflat]
      refine ⟨by rw [List.length_map, List.length_map, List.length_range, hfl], fun j hj hj' => ?_⟩
      simp only [List.getElem_map, List.getElem_range]
      refine RepL.imm_iff.2 ?_
      have hj2 : j < news.length * sz' := by simpa using hj'
      have hs0 : 0 < sz' := by
        rcases Nat.eq_zero_or_pos sz' with h0 | h0
        · subst h0; simp at hj2
        · exact h0
      have hi : j / sz' < news.length := by rw [Nat.div_lt_iff_lt_mul hs0]; exact hj2
      have hm' : j % sz' < (news[j / sz']).length := by rw [hsz _ hi]; exact Nat.mod_lt _ hs0
      have h3 := flatten_at sz' news hall (j / sz') hi (j % sz') hm'
      have h4 := hr (j / sz') hi (j % sz') hm'
      have he : j / sz' * sz' + j % sz' = j := by rw [Nat.mul_comm]; exact Nat.div_add_mod j sz'
      rw [he] at h3 h4
      obtain ⟨_, h5⟩ := List.getElem?_eq_some_iff.1 h3
      rw [h5]; exact h4

theorem del_some {s : List (Key × Box)} {k k' : Key} {b : Box} (h : getB (delB s k) k' = some b) : k ≠ k' ∧ getB s k' = some b := by
  rw [getB_del] at h
  split at h
  · cases h
  · rename_i hne
    exact ⟨hne, h⟩
theorem del_live {s : List (Key × Box)} {k k' : Key} (h : (getB (delB s k) k').isSome = true) : k ≠ k' ∧ (getB s k').isSome = true := by
  obtain ⟨b, hb⟩ := Option.isSome_iff_exists.1 h
  obtain ⟨h1, h2⟩ := del_some hb
  exact ⟨h1, by simp [h2]⟩

theorem goes_append (h : Inv cx σ M a w) (ho : o.dst = some d) (hd : d < a.tmps.size) (hk : getB σ.s (.own d) = none) (hM : M (.own d) = none) {c : Call} {x y : Operand} {x' y' : Opd} {t e : TypeId} {i : TypeInfo} {z : Value} (hop : o.op = .call c) (hc : c.callee = .builtin .append)
    (hargs : c.args.toList = [x, y]) (hty : c.argTypes.toList = [t, t]) (hx : trX x = some x') (hy : trX y = some y') (hu : P.underlying t = some (.slice e)) (hi : P.info? e = some i) (hz : i.zero = some z) (hzs : z.cells.size = i.size)
    {E : Eff} (ha : aop σ (.append d x' y' e i.size i.bytes) = some E) : OpGoes P cx o a w M (σ.app E) := by
  have hR := trX_rep h hx
  have hS := trX_rep h hy
  obtain ⟨callee, args, argTypes⟩ := c
  have ha1 : args = #[x, y] := by apply Array.toList_inj.1; simpa using hargs
  have ha2 : argTypes = #[t, t] := by apply Array.toList_inj.1; simpa using hty
  simp only at hc; subst hc; subst ha1; subst ha2
  have hrun : ∀ v1 v2 r w', a.eval x = v1 → a.eval y = v2 → (Builtin.append_ #[t, t] o.type #[v1, v2]).run P w = .ok r w' → (execOp a.eval o).run P w = .ok (.value r) w' := by
    intro v1 v2 r w' e1 e2 hr
    simp [execOp, hop, resolve, invoke, builtin, e1, e2, hr]
  simp only [aop] at ha
  split at ha
  · rename_i f news hev
    split at ha
    · rename_i hcond
      simp only [Bool.and_eq_true, List.all_eq_true, beq_iff_eq, decide_eq_true_eq] at hcond
      obtain ⟨⟨⟨hall, hs0⟩, hb0⟩, hpos⟩ := hcond
      rw [hev] at hS
      obtain ⟨b, o', c', us, hyv, hul, hcell, hone, hrows, hmax⟩ := news_of hS hall hpos
      have hlenm : (news.map fun v => v.map (LV.imm f)).length = news.length := by simp
      have hallm : ∀ x ∈ (news.map fun v => v.map (LV.imm f)), x.length = i.size := by
        intro x hx
        obtain ⟨v, hv, rfl⟩ := List.mem_map.1 hx
        simp [hall v hv]
      split at ha
      · rename_i hevx
        split at ha
        · rename_i hfit
          simp only [Option.some.injEq] at ha; subst ha
          rw [hevx] at hR
          have hxv : a.eval x = .slice none 0 0 := by generalize a.eval x = u at *; cases hR; rfl
          have hmul : news.length * 1 ≤ news.length * i.bytes := Nat.mul_le_mul_left _ hb0
          obtain ⟨v', w', hr, hown, hgrow, hnil, hat⟩ := run_append_own_at (P := P) w cx.w.heap.size t o.type e i z i.size i.bytes hu hi hz rfl rfl hzs hs0 (.slice none 0 0) 0 [] (World.ownsRow_nil w _ e i.size) ⟨b, o', none⟩ news.length c' us hul hcell hone
            (by simp only [maxLen]; omega) (by simpa using hfit) h.size
          rcases hown.2 with ⟨h2, h3⟩ | ⟨g', cap, cur, rfl, hbg, h3⟩
          · omega
          · have hg'' : g' = w.heap.size := by
              rcases hat with hat | hat
              · simp [Value.ownBlock] at hat
              · simpa [Value.ownBlock] using hat
            simp only [Nat.zero_add, List.nil_append] at hown
            have hI := h.row (s0 := σ.s) (old := none) (fun k b hb => hb) hk hM (by simpa [Value.ownBlock] using hgrow) (fun g hg => by cases hg) (e := e) (sz := i.size) (es := news.map fun v => v.map (LV.imm f)) (c' := cap) (xs := us) (.inr (Nat.le_of_eq hg''.symm))
              (by rw [hlenm]; simpa using ownsRow_zero hown) hrows hallm hone
            refine ⟨_, w', (fun k => if k = Key.own d then some (g', cap) else M k), hrun _ _ _ _ hxv hyv hr, .inr ⟨_, rfl⟩, ?_, ?_⟩
            rotate_left
            · intro k hk' hne
              have := hne d ho
              show (if k = Key.own d then some (g', cap) else M k) = none
              simp [this, hk']
            · rw [ho]
              refine hI.val hd ?_
              have := RepL.row (w := w') (N := NS cx (setB σ.s (.own d) (.row e i.size (news.map fun v => v.map (LV.imm f)))) σ.z (fun k => if k = Key.own d then some (g', cap) else M k) w') (Nf := NF cx (setB σ.s (.own d) (.row e i.size (news.map fun v => v.map (LV.imm f)))) σ.z (fun k => if k = Key.own d then some (g', cap) else M k) w')
                (M := (fun k => if k = Key.own d then some (g', cap) else M k)) (.own d) news.length g' cap (by simp)
              simpa [valOf] using this
        · cases ha
      · rename_i k n hevx
        split at ha
        · cases ha
        · rename_i hkz
          split at ha
          · rename_i e' sz' es hbx
            split at ha
            · rename_i hc5
              obtain ⟨rfl, rfl, hes, hko, hfit⟩ := hc5
              simp only [Option.some.injEq] at ha; subst ha
              rw [hevx] at hR
              generalize hxv : a.eval x = u at *
              cases hR with
              | row k n b1 c1 hM1 =>
                have hbx' : getB σ.s k = some (.row e' i.size es) := hbx
                obtain ⟨xs, hown1, hrows1, hsz1, hone1⟩ := h.box k _ _ hbx hM1
                rw [hes] at hown1
                have hown1 : w.ownsRow 0 e' i.size (.slice (some ⟨b1, 0, none⟩) n c1) n xs := hown1
                have hge : cx.w.heap.size ≤ b1 := by
                  cases k with
                  | own t => exact h.own t _ (by rw [hbx']; rfl) hM1
                  | arg i => simp [Key.isOwn] at hko
                have hmul : (n + news.length) * 1 ≤ (n + news.length) * i.bytes := Nat.mul_le_mul_left _ hb0
                obtain ⟨v', w', hr, hown, hgrow, hnil, hat⟩ := run_append_own_at (P := P) w cx.w.heap.size t o.type e' i z i.size i.bytes hu hi hz rfl rfl hzs hs0 _ n xs (ownsRow_base hown1 hge) ⟨b, o', none⟩ news.length c' us hul hcell hone
                  (by simp only [maxLen]; omega) hfit h.size
                rcases hown.2 with ⟨h2, h3⟩ | ⟨g', cap, cur, rfl, hbg, h3⟩
                · omega
                · have hkd : k ≠ .own d := by rintro rfl; rw [hk] at hbx'; cases hbx'
                  have hI := h.row (s0 := delB σ.s k) (old := some b1) (fun k' b' hb => (del_some hb).2) (by rw [getB_del, if_neg hkd]; exact hk) hM (by simpa [Value.ownBlock] using hgrow)
                    (fun g hg => by
                      simp only [Option.some.injEq] at hg; subst hg
                      refine ⟨fun j hj e => ?_, fun k' c'' hk' hM' => ?_, hge⟩
                      · subst e; exact hj.2.2 k c1 (by rw [hbx']; rfl) hkz hM1
                      · obtain ⟨h5, h6⟩ := del_live hk'
                        exact h5 (h.inj k k' b1 c1 c'' (by rw [hbx']; rfl) h6 hM1 hM'))
                    (e := e') (sz := i.size) (es := es ++ news.map fun v => v.map (LV.imm f)) (g' := g') (c' := cap) (xs := xs ++ us) (by
                      rcases hat with hat | hat
                      · left; simpa [Value.ownBlock] using hat.symm
                      · right; exact Nat.le_of_eq (by simpa [Value.ownBlock] using hat.symm))
                    (by rw [List.length_append, hlenm, hes]; exact ownsRow_zero hown) (by rw [List.flatten_append]; exact hrows1.append hrows)
                    (fun x hx => (List.mem_append.1 hx).elim (hsz1 x) (hallm x))
                    (fun v hv => (List.mem_append.1 hv).elim (hone1 v) (hone v))
                  refine ⟨_, w', (fun k => if k = Key.own d then some (g', cap) else M k), hrun _ _ _ _ rfl hyv hr, .inr ⟨_, rfl⟩, ?_, ?_⟩
                  rotate_left
                  · intro k hk' hne
                    have := hne d ho
                    show (if k = Key.own d then some (g', cap) else M k) = none
                    simp [this, hk']
                  · rw [ho]
                    refine hI.val hd ?_
                    exact RepL.row (.own d) (n + news.length) g' cap (by simp)
            · cases ha
          · cases ha
      · cases ha
    · cases ha
  · cases ha

theorem goes_mksl (h : Inv cx σ M a w) (ho : o.dst = some d) (hd : d < a.tmps.size) {t e : TypeId} {l : Nat} {i : TypeInfo} {z : Value} {zs : List LV} (hop : o.op = .makeSlice t (.tmp l) (.tmp l)) (hu : P.underlying t = some (.slice e)) (hi : P.info? e = some i) (hz : i.zero = some z)
    (hzs : trVs z.cells.toList = some zs) (hsz : z.cells.size = i.size) (hby : i.bytes ≤ 1000)
    {E : Eff} (ha : aop σ (.mksl d (.t l) zs) = some E) : OpGoes P cx o a w M (σ.app E) := by
  have hR := trX_rep h (x := .tmp l) (y := .t l) rfl
  simp only [aop] at ha
  split at ha
  · rename_i n hn
    obtain ⟨k, hk⟩ := intOf_inv hn hR
    split at ha
    · rename_i hle
      split at ha
      · rename_i f vs hres
        rw [val_eff ha]
        have hmul : (i.bytes : Int) * n ≤ 281474976710656 := by
          have : (i.bytes : Int) * n ≤ 1000 * n := Int.mul_le_mul_of_nonneg_right (by omega) hle.1
          omega
        have hrun := run_make (P := P) w t e i z hu hi hz k k n n hle.1 (Int.le_refl _) hmul (by omega)
        obtain ⟨hrows, hone⟩ := trVs_rep (w := w.alloc (.cells (madeCells z.cells (n.toNat * i.size)) e)) (N := fun _ => False) (Nf := fun _ => False) (M := fun _ => none) hzs
        have hvl := resL_length hres
        have hzl : zs.length = i.size := by have := hrows.1; simp at this; omega
        have hlast := NS.last h (madeCells z.cells (n.toNat * i.size)) e
        refine ⟨.value (.slice (some ⟨w.heap.size, 0, none⟩) n.toNat n.toNat), w.alloc (.cells (madeCells z.cells (n.toNat * i.size)) e), M, by simp [execOp, hop, hk, hrun], .inr ⟨_, rfl⟩, ?_, fun k hk _ => hk⟩
        rw [ho]
        refine (h.grow _).val hd (RepL.imm_iff.2 ?_)
        have h0 : (List.replicate n.toNat vs).length = n.toNat := by simp
        have hcells : ∀ j v, (madeCells z.cells (n.toNat * i.size)).toList[j]? = some v → z.cells[j % i.size]! = v := by
          intro j v hv
          simp only [madeCells, Array.toList_map, Array.toList_range, List.getElem?_map, Option.map_eq_some_iff] at hv
          obtain ⟨j', hj', rfl⟩ := hv
          obtain ⟨_, rfl⟩ := List.getElem?_eq_some_iff.1 hj'
          simp [hsz]
        have hrepz : ∀ j (hj : j < vs.length) (hj2 : j < z.cells.size), RepI (w.alloc (.cells (madeCells z.cells (n.toNat * i.size)) e)) (NF cx σ.s σ.z M (w.alloc (.cells (madeCells z.cells (n.toNat * i.size)) e))) vs[j] z.cells[j] := by
          intro j hj hj2
          have := resL_reps (RI := fun b v x => RepI (w.alloc (.cells (madeCells z.cells (n.toNat * i.size)) e)) (fun _ => False) v x) (R := RepL (w.alloc (.cells (madeCells z.cells (n.toNat * i.size)) e)) (fun _ => False) (fun _ => False) (fun _ => none)) (fun b v x hx => hx) (fun a ha b v x hf hR => by
            cases a with
            | imm g u =>
              simp only [res, Option.some.injEq, Prod.mk.injEq] at hf
              obtain ⟨rfl, rfl⟩ := hf
              have := RepL.imm_iff.1 hR
              simpa using this
            | nils =>
              simp only [res, Option.some.injEq, Prod.mk.injEq] at hf
              obtain ⟨rfl, rfl⟩ := hf
              cases hR; exact .slice0 _ _
            | undef => simp [res] at hf
            | fn g c => simp [res] at hf
            | unitI t => simp [res] at hf
            | loc k o => simp [res, getB] at hf
            | row k m => simp [res, getB] at hf
            | agg cs =>
              simp only [res] at hf
              have hno : ∀ (l : List LV) p, resL (res [] 0) l = some p → l = [] := by
                intro l p hp
                cases l with
                | nil => rfl
                | cons y l => simp [resL, res] at hp
              split at hf
              · rename_i g us hg
                have := hno _ _ hg; subst this
                simp only [resL, Option.some.injEq, Prod.mk.injEq] at hg hf
                obtain ⟨rfl, rfl⟩ := hg
                obtain ⟨rfl, rfl⟩ := hf
                cases hR with
                | agg cells xs hl h1 hr => exact .agg _ xs (by simpa using hl) h1 fun j hj => by simp at hj
              · cases hf
            | tup cs =>
              simp only [res] at hf
              have hno : ∀ (l : List LV) p, resL (res [] 0) l = some p → l = [] := by
                intro l p hp
                cases l with
                | nil => rfl
                | cons y l => simp [resL, res] at hp
              split at hf
              · rename_i g us hg
                have := hno _ _ hg; subst this
                simp only [resL, Option.some.injEq, Prod.mk.injEq] at hg hf
                obtain ⟨rfl, rfl⟩ := hg
                obtain ⟨rfl, rfl⟩ := hf
                cases hR with
                | tup cells xs hl hr => exact .tup _ xs (by simpa using hl) fun j hj => by simp at hj
              · cases hf) hres hrows j hj (by simpa using hj2)
          exact RepI.mono (N := fun _ => False) (by simpa using this) (fun b hb => False.elim hb) (fun b hb => False.elim hb)
        have := slice_of_block (w := w.alloc (.cells (madeCells z.cells (n.toNat * i.size)) e)) (N := NF cx σ.s σ.z M (w.alloc (.cells (madeCells z.cells (n.toNat * i.size)) e))) (vs := List.replicate n.toNat vs) (us := (madeCells z.cells (n.toNat * i.size)).toList) (sz := i.size) (b := w.heap.size) (c := n.toNat) hlast
          (fun v hv => by rw [(List.mem_replicate.1 hv).2]; omega) (by simp [size_madeCells]) (by simp; omega) (by simp) (fun j v hv => by rw [World.cell?_alloc_new, ← Array.getElem?_toList]; exact hv)
          (fun v hv => by
            obtain ⟨j, hj, rfl⟩ := List.getElem_of_mem hv
            have := hcells j _ (List.getElem?_eq_getElem hj)
            rw [← this]
            have hj' : j < n.toNat * i.size := by simpa [size_madeCells] using hj
            have hs0 : 0 < i.size := by
              rcases Nat.eq_zero_or_pos i.size with h0 | h0
              · rw [h0] at hj'; simp at hj'
              · exact h0
            have hm : j % i.size < z.cells.size := by rw [hsz]; exact Nat.mod_lt _ hs0
            rw [getElem!_pos z.cells _ hm]
            exact hone _ (by simp))
          (fun j hj hj2 => by
            have hc := hcells j _ (List.getElem?_eq_getElem hj2)
            rw [← hc]
            have hj' : j < n.toNat * i.size := by simpa [size_madeCells] using hj2
            have hs0 : 0 < i.size := by
              rcases Nat.eq_zero_or_pos i.size with h0 | h0
              · rw [h0] at hj'; simp at hj'
              · exact h0
            have hm : j % i.size < z.cells.size := by rw [hsz]; exact Nat.mod_lt _ hs0
            rw [getElem!_pos z.cells _ hm]
            have hi' : j / i.size < (List.replicate n.toNat vs).length := by rw [h0, Nat.div_lt_iff_lt_mul hs0]; exact hj'
            have hm' : j % i.size < ((List.replicate n.toNat vs)[j / i.size]).length := by simp; omega
            have h3 := flatten_at i.size (List.replicate n.toNat vs) (fun v hv => by rw [(List.mem_replicate.1 hv).2]; omega) (j / i.size) hi' (j % i.size) hm'
            have he : j / i.size * i.size + j % i.size = j := by rw [Nat.mul_comm]; exact Nat.div_add_mod j i.size
            rw [he] at h3
            obtain ⟨_, h5⟩ := List.getElem?_eq_some_iff.1 h3
            rw [h5]
            have hmv : j % i.size < vs.length := by omega
            have := hrepz (j % i.size) hmv hm
            simpa using this)
        rw [h0] at this
        simpa [valOf] using this
      · cases ha
    · cases ha
  · cases ha

/-- A row is made with nothing in it and room behind. -/
theorem goes_mkrow (h : Inv cx σ M a w) (ho : o.dst = some d) (hd : d < a.tmps.size) (hk : getB σ.s (.own d) = none) (hM : M (.own d) = none) {t e : TypeId} {k : IntKind} {l : Nat} {i : TypeInfo} {z : Value} (hop : o.op = .makeSlice t (.const (.int k 0)) (.tmp l)) (hu : P.underlying t = some (.slice e)) (hi : P.info? e = some i) (hz : i.zero = some z)
    {E : Eff} (ha : aop σ (.mkrow d (.t l) e i.size i.bytes) = some E) : OpGoes P cx o a w M (σ.app E) := by
  have hR := trX_rep h (x := .tmp l) (y := .t l) rfl
  simp only [aop] at ha
  split at ha
  · rename_i n hn
    obtain ⟨k', hk'⟩ := intOf_inv hn hR
    split at ha
    · rename_i hle
      obtain ⟨h0, h1, h2⟩ := hle
      simp only [Option.some.injEq] at ha; subst ha
      have hmul : i.bytes * n.toNat ≤ 1000 * n.toNat := Nat.mul_le_mul_right _ h2
      obtain ⟨w', hrun, hown, hgrow⟩ := run_make_own (P := P) w cx.w.heap.size t e i z i.size hu hi hz rfl k k' n.toNat (by omega) (by simp only [maxLen]; omega) h.size
      rw [Int.toNat_of_nonneg h0] at hrun
      have hI := h.row (s0 := σ.s) (old := none) (fun k b hb => hb) hk hM hgrow (fun g hg => by cases hg) (e := e) (sz := i.size) (es := []) (g' := w.heap.size) (c' := n.toNat) (xs := []) (.inr (Nat.le_refl _))
        (by simpa using ownsRow_zero hown) Rows2.nil (fun x hx => by simp at hx) (fun x hx => by simp at hx)
      refine ⟨.value (.slice (some ⟨w.heap.size, 0, none⟩) 0 n.toNat), w', (fun k => if k = Key.own d then some (w.heap.size, n.toNat) else M k), by simp [execOp, hop, hk', hrun, show a.eval (.const (.int k 0)) = .int k 0 from rfl], .inr ⟨_, rfl⟩, ?_, ?_⟩
      rotate_left
      · intro k hk' hne
        have := hne d ho
        show (if k = Key.own d then some (w.heap.size, n.toNat) else M k) = none
        simp [this, hk']
      · rw [ho]
        refine hI.val hd ?_
        exact RepL.row (.own d) 0 w.heap.size n.toNat (by simp)
    · cases ha
  · cases ha

end
end Go.Proofs.YtopgmopdjiahmaaDoor.Lg
