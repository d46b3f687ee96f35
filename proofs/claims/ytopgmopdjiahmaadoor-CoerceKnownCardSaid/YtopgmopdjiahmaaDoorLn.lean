/- A group that draws its order: one walk serves every order. Conditions: none; plain definitions and lemmas. -/
import Derived.Test.YtopgmopdjiahmaaDoorLm
set_option linter.unusedVariables false
set_option linter.unusedSimpArgs false
namespace Go.Proofs.YtopgmopdjiahmaaDoor.Lg
open Go Go.RowKit

def MO.writes : MO → Bool
  | .store .. | .append .. | .box .. | .alloc .. | .mkrow .. | .callB .. | .acall .. => true
  | _ => false

theorem aop_wr {σ : St} {o : MO} {E : Eff} (h : aop σ o = some E) (hw : o.writes = false) : E.u = [] := by
  have hv : ∀ {d' : Nat} {lv : LV}, val d' lv = some E → E.u = [] := fun hv => by rw [val_eff hv]
  cases o <;> simp only [MO.writes, reduceCtorEq] at hw <;> simp only [aop] at h
  all_goals (repeat' (split at h))
  all_goals first
    | (cases h; done)
    | (exact hv h)
    | (simp only [Option.some.injEq] at h; subst h; rfl)
theorem Sat.wr0 {P : Program} {σ : St} {o : MO} {E : Eff} {p : Option TypeId} (h : Sat P σ o E p) (hw : o.writes = false) : E.u = [] := by
  cases hc : o.isCall with
  | false =>
    have hs : aop σ o = some E := by cases o <;> first | exact h.1 | (simp [MO.isCall] at hc)
    exact aop_wr hs hw
  | true =>
    cases o <;> first | (simp [MO.isCall] at hc; done) | (simp [MO.writes] at hw; done) | skip
    · obtain ⟨t, _, rfl, _⟩ := h; rfl
    · obtain ⟨g, caps, fl, vs, fr, v', _, _, _, rfl, _⟩ := h; rfl
theorem SatG.wr {P : Program} {σ : St} {m : MG} {E : Eff} {p : Option TypeId} (h : SatG P σ m E p) (hw : m.o.writes = false) : E.wr = [] := by
  have : E.u = [] := by
    unfold SatG at h
    split at h
    · exact h.wr0 hw
    · obtain ⟨c, _, h2⟩ := h
      rcases h2 with ⟨_, h3⟩ | ⟨_, rfl, _⟩
      · exact h3.wr0 hw
      · rfl
  simp [Eff.wr, this]

def keyClash (E F : Eff) : Bool := E.wr.any (fun k => decide (k ∈ F.touch)) || F.wr.any (fun k => decide (k ∈ E.touch))
def dynOk (es : List Eff) : List (Nat × Nat) → Bool
  | [] => true
  | (i, j) :: r => (match es[i]?, es[j]? with
    | some E, some F => !keyClash E F
    | _, _ => false) && dynOk es r

/-! ### What is asked of the text of a group -/
def dsts (ms : List MG) : List Nat := ms.filterMap fun m => m.o.dst
def pairOk (m m' : MG) : Bool :=
  (match m.o.dst with | some d => !(m'.reads.contains d) | none => true) && (match m'.o.dst with | some d => !(m.reads.contains d) | none => true)
def rowOk (anc : List (List Nat)) (pr : List (Nat × Nat)) (ms : List MG) (j : Nat) (mj : MG) : Bool :=
  (List.range j).all fun i => (anc.getD j []).contains i || match ms[i]? with
    | some mi => pairOk mi mj && (!(mi.o.writes || mj.o.writes) || pr.contains (i, j))
    | none => false
def ancRow (anc : List (List Nat)) (j : Nat) (o : Oper) : Bool :=
  (o.after.toList.all fun e => !Region.binds .any e || decide (e.on < j)) &&
  (anc.getD j []).all fun k => o.after.toList.any fun e => Region.binds .any e && (e.on == k || (anc.getD e.on []).contains k)
def drawOk (ops : Array Oper) (ms : List MG) (anc : List (List Nat)) (pr : List (Nat × Nat)) : Bool :=
  (List.range ops.size).all fun j => match ops[j]?, ms[j]? with
    | some o, some m => ancRow anc j o && rowOk anc pr ms j m
    | _, _ => false

section
variable {P : Program} {hts : Hints} {ops : Array Oper} {ms : List MG} {anc : List (List Nat)} {pr : List (Nat × Nat)} {n : Nat}

theorem anc_listed (hd : drawOk ops ms anc pr = true) {listed : Array Bool} (hsz : listed.size = ops.size) (hdown : ∀ i o, ops[i]? = some o → listed.getD i true = true → ∀ e ∈ o.after, Region.binds .any e = true → listed.getD e.on false = true) :
    ∀ j, j < ops.size → (∀ o, ops[j]? = some o → ∀ e ∈ o.after, Region.binds .any e = true → listed.getD e.on false = true) → ∀ k ∈ anc.getD j [], listed.getD k false = true := by
  intro j
  induction j using Nat.strongRecOn with
  | _ j ih =>
    intro hj hall k hk
    have hrow := List.all_eq_true.1 hd j (List.mem_range.2 hj)
    split at hrow
    · rename_i o m ho hm
      simp only [Bool.and_eq_true, ancRow] at hrow
      obtain ⟨⟨h1, h2⟩, _⟩ := hrow
      have h3 := List.all_eq_true.1 h2 k hk
      obtain ⟨e, he, h4⟩ := List.any_eq_true.1 h3
      simp only [Bool.and_eq_true, Bool.or_eq_true, beq_iff_eq, List.contains_iff_mem] at h4
      obtain ⟨hb, h5⟩ := h4
      have he' : e ∈ o.after := by simpa using he
      have hlist := hall o ho e he' hb
      rcases h5 with rfl | h5
      · exact hlist
      · have hlt : e.on < j := by
          have := List.all_eq_true.1 h1 e he
          simpa [hb] using this
        refine ih e.on hlt (by omega) (fun o' ho' e' he'' hb' => ?_) k h5
        refine hdown e.on o' ho' ?_ e' he'' hb'
        have : e.on < listed.size := by omega
        simp only [Array.getD_eq_getD_getElem?, Array.getElem?_eq_getElem this, Option.getD_some] at hlist ⊢
        exact hlist
    · cases hrow

theorem ind_of (hd : drawOk ops ms anc pr = true) (hnd : (dsts ms).Nodup) {es : List Eff} (hdyn : dynOk es pr = true) {i j : Nat} (hij : i < j) (hj : j < ops.size) (hna : i ∉ anc.getD j []) {m m' : MG} (hm : ms[i]? = some m) (hm' : ms[j]? = some m')
    {E F : Eff} (hE : es[i]? = some E) (hF : es[j]? = some F) (hw : m.o.writes = false → E.wr = []) (hw' : m'.o.writes = false → F.wr = []) : Ind m m' E F := by
  have hrow := List.all_eq_true.1 hd j (List.mem_range.2 hj)
  rw [hm'] at hrow
  split at hrow
  · rename_i o m1 ho hm1
    simp only [Option.some.injEq] at hm1; subst hm1
    simp only [Bool.and_eq_true] at hrow
    have h1 := List.all_eq_true.1 hrow.2 i (List.mem_range.2 hij)
    rw [hm] at h1
    simp only [Bool.or_eq_true, List.contains_iff_mem] at h1
    have h1 := h1.resolve_left hna
    simp only [Bool.and_eq_true, pairOk, Bool.or_eq_true, Bool.not_eq_true', List.contains_iff_mem] at h1
    obtain ⟨⟨h2, h3⟩, h4⟩ := h1
    have hkeys : (∀ k ∈ E.wr, k ∉ F.touch) ∧ (∀ k ∈ F.wr, k ∉ E.touch) := by
      rcases h4 with h4 | h4
      · simp only [Bool.or_eq_false_iff] at h4
        refine ⟨fun k hk => ?_, fun k hk => ?_⟩
        · rw [hw h4.1] at hk; cases hk
        · rw [hw' h4.2] at hk; cases hk
      · have gen : ∀ (l : List (Nat × Nat)), dynOk es l = true → (i, j) ∈ l → keyClash E F = false := by
          intro l
          induction l with
          | nil => intro _ hc; cases hc
          | cons p l ihl =>
            intro hl hc
            obtain ⟨i', j'⟩ := p
            simp only [dynOk, Bool.and_eq_true] at hl
            rcases List.mem_cons.1 hc with hc | hc
            · simp only [Prod.mk.injEq] at hc
              obtain ⟨rfl, rfl⟩ := hc
              have := hl.1
              rw [hE, hF] at this
              simpa using this
            · exact ihl hl.2 hc
        have hcl := gen pr hdyn h4
        simp only [keyClash, Bool.or_eq_false_iff, List.any_eq_false, decide_eq_true_eq] at hcl
        exact ⟨fun k hk hc => by have := hcl.1 k hk; exact this hc, fun k hk hc => by have := hcl.2 k hk; exact this hc⟩
    refine ⟨fun d hd' => ?_, fun d hd' => ?_, fun d hd1 hd2 => ?_, hkeys.1, hkeys.2⟩
    · rw [hd'] at h2; simpa using h2
    · rw [hd'] at h3; simpa using h3
    · -- two operations with one temporary
      have gen : ∀ (l : List MG) (i j : Nat), i < j → l[i]? = some m → l[j]? = some m' → ¬ (dsts l).Nodup := by
        intro l
        induction l with
        | nil => intro i j _ h; simp at h
        | cons x l ihl =>
          intro i j hij g1 g2
          cases i with
          | zero =>
            cases j with
            | zero => omega
            | succ j =>
              simp only [List.getElem?_cons_zero, Option.some.injEq] at g1
              subst g1
              simp only [List.getElem?_cons_succ] at g2
              intro hn
              simp only [dsts, List.filterMap_cons, hd1, List.nodup_cons] at hn
              exact hn.1 (List.mem_filterMap.2 ⟨m', List.mem_of_getElem? g2, hd2⟩)
          | succ i =>
            cases j with
            | zero => omega
            | succ j =>
              intro hn
              refine ihl i j (by omega) (by simpa using g1) (by simpa using g2) ?_
              simp only [dsts, List.filterMap_cons] at hn
              split at hn
              · exact hn
              · exact (List.nodup_cons.1 hn).2
      exact gen ms i j hij hm hm' hnd
  · cases hrow

/-- **Whatever order is picked**: as the order of the text. -/
theorem any_sound (htr : ∀ (i : Nat) (o : Oper), ops[i]? = some o → ∃ m : MG, ms[i]? = some m ∧ trG P hts ops o = some m ∧ m.o.dst = o.dst ∧ ∀ d, o.dst = some d → d < n) (hd : drawOk ops ms anc pr = true) (hnd : (dsts ms).Nodup) {es : List Eff} (hel : es.length = ops.size) (hdyn : dynOk es pr = true)
    {cx : Cx} {Q : Exit → Act → World → Prop} : ∀ (fuel : Nat) (rem : List Nat) (listed : Array Bool) (σ : St) (M : Pl) (a : Act) (w : World),
      rem.length ≤ fuel → rem.Pairwise (· < ·) → (∀ i, i ∈ rem ↔ i < ops.size ∧ listed.getD i true = false) → listed.size = ops.size →
      (∀ i o, ops[i]? = some o → listed.getD i true = true → ∀ e ∈ o.after, Region.binds .any e = true → listed.getD e.on false = true) →
      Chain P ms (fun i => es.getD i (undefEff (.pan (.t 0)))) rem σ → Inv cx σ M a w → a.tmps.size = n → (∀ i ∈ rem, ∀ m d, ms[i]? = some m → m.o.news = some d → M (.own d) = none) →
      (∀ i ∈ rem, ∀ m, ms[i]? = some m → m.o.writes = false → (es.getD i (undefEff (.pan (.t 0)))).wr = []) →
      (∀ σ' M' a' w', Same (fin (fun i => es.getD i (undefEff (.pan (.t 0)))) rem σ) σ' → Inv cx σ' M' a' w' → a'.tmps.size = n → Q .normal a' w') →
      wpAny P .any ops Q fuel listed a w := by
  intro fuel
  induction fuel with
  | zero =>
    intro rem listed σ M a w hlen hsort hmem hsz hdown hch hI hn hnew hwr hQ
    have hrem : rem = [] := List.eq_nil_of_length_eq_zero (by omega)
    subst hrem
    refine ⟨?_, hQ σ M a w (Same.refl _) hI hn⟩
    cases hr : Region.ready .any ops listed with
    | nil => rfl
    | cons x l =>
      have hx : x ∈ Region.ready .any ops listed := by rw [hr]; exact List.mem_cons_self
      obtain ⟨h1, o, ho, _⟩ := mem_ready.1 hx
      have := (hmem x).2 ⟨(Array.getElem?_eq_some_iff.1 ho).1, h1⟩
      cases this
  | succ fuel ih =>
    intro rem listed σ M a w hlen hsort hmem hsz hdown hch hI hn hnew hwr hQ
    refine ⟨fun hr => ?_, fun j hj => ?_⟩
    · -- nothing is left
      cases rem with
      | nil => exact hQ σ M a w (Same.refl _) hI hn
      | cons i r =>
        exfalso
        have hi := (hmem i).1 List.mem_cons_self
        have ho : ∃ o, ops[i]? = some o := ⟨ops[i], Array.getElem?_eq_getElem hi.1⟩
        obtain ⟨o, ho⟩ := ho
        have : i ∈ Region.ready .any ops listed := by
          refine mem_ready.2 ⟨hi.2, o, ho, fun e he hb => ?_⟩
          have hrow := List.all_eq_true.1 hd i (List.mem_range.2 hi.1)
          rw [ho] at hrow
          split at hrow
          · rename_i o' m' ho' hm'
            simp only [Option.some.injEq] at ho'; subst ho'
            simp only [Bool.and_eq_true, ancRow] at hrow
            have hlt := List.all_eq_true.1 hrow.1.1 e (by simpa using he)
            have hlt : e.on < i := by simpa [hb] using hlt
            have hnot : e.on ∉ i :: r := by
              intro hc
              rcases List.mem_cons.1 hc with hc | hc
              · omega
              · have := (List.pairwise_cons.1 hsort).1 _ hc; omega
            have : ¬ (listed.getD e.on true = false) := fun hc => hnot ((hmem _).2 ⟨by omega, hc⟩)
            have hlt' : e.on < listed.size := by omega
            simp only [Array.getD_eq_getD_getElem?, Array.getElem?_eq_getElem hlt', Option.getD_some] at this ⊢
            simpa using this
          · cases hrow
        rw [hr] at this; cases this
    · obtain ⟨hun, o, ho, hall⟩ := mem_ready.1 hj
      have hjlt : j < ops.size := (Array.getElem?_eq_some_iff.1 ho).1
      have hjr : j ∈ rem := (hmem j).2 ⟨hjlt, hun⟩
      obtain ⟨L1, L2, rfl⟩ := List.append_of_mem hjr
      have hsort' := List.pairwise_append.1 hsort
      have hanc := anc_listed hd hsz hdown j hjlt (fun o' ho' => by rw [ho] at ho'; simp only [Option.some.injEq] at ho'; subst ho'; exact hall)
      have hEat : ∀ i, i < ops.size → es[i]? = some (es.getD i (undefEff (.pan (.t 0)))) := fun i hi => by
        rw [List.getD_eq_getElem?_getD, List.getElem?_eq_getElem (by omega)]; rfl
      obtain ⟨⟨m, hm, hsat⟩, hch', hsame⟩ := Chain.move (L1 := L1) (L2 := L2) (fun i hi m1 m2 h1 h2 => by
        have hir : i ∈ L1 ++ j :: L2 := List.mem_append.2 (.inl hi)
        have hi' := (hmem i).1 hir
        have hij : i < j := hsort'.2.2 i hi j List.mem_cons_self
        refine ind_of hd hnd hdyn hij hjlt (fun hc => ?_) h1 h2 (hEat i hi'.1) (hEat j hjlt) (hwr i hir m1 h1) (hwr j hjr m2 h2)
        have h3 := hanc i hc
        have hlt' : i < listed.size := by omega
        have h4 := hi'.2
        simp only [Array.getD_eq_getD_getElem?, Array.getElem?_eq_getElem hlt', Option.getD_some] at h3 h4
        rw [h3] at h4; cases h4) hch
      obtain ⟨m', hm', htr', hdst, hdlt⟩ := htr j o ho
      rw [hm] at hm'
      simp only [Option.some.injEq] at hm'; subst hm'
      refine satG_goes ho htr' hsat hI (fun d hd' => by rw [hn]; exact hdlt d hd') hdst (fun d hd' => hnew j hjr m d hm hd') (fun _ a' w' M' hI' hsz' hM' => ?_) (fun t ht => by cases ht)
      refine ih (L1 ++ L2) (listed.setIfInBounds j true) _ M' a' w' (by simp at hlen ⊢; omega) ?_ (fun i => ?_) (by simpa using hsz) (fun i o' ho' hl' e he hb => ?_) hch' hI' (by rw [hsz', hn]) (fun i hi m1 d h1 h2 => ?_) (fun i hi => hwr i (by
          rcases List.mem_append.1 hi with hi | hi
          · exact List.mem_append.2 (.inl hi)
          · exact List.mem_append.2 (.inr (List.mem_cons_of_mem _ hi)))) (fun σ' M'' a'' w'' hs => hQ σ' M'' a'' w'' (hsame.trans hs))
      · refine List.pairwise_append.2 ⟨hsort'.1, (List.pairwise_cons.1 hsort'.2.1).2, fun x hx y hy => hsort'.2.2 x hx y (List.mem_cons_of_mem _ hy)⟩
      · have hnodup : j ∉ L1 ++ L2 := by
          intro hc
          rcases List.mem_append.1 hc with hc | hc
          · have := hsort'.2.2 j hc j List.mem_cons_self; omega
          · have := (List.pairwise_cons.1 hsort'.2.1).1 j hc; omega
        by_cases hij : i = j
        · subst hij
          constructor
          · intro hc; exact absurd hc hnodup
          · rintro ⟨_, hc⟩
            have hlt' : i < listed.size := by omega
            simp [hlt'] at hc
        · rw [getD_set_ne true (Ne.symm hij)]
          constructor
          · intro hc
            refine (hmem i).1 ?_
            rcases List.mem_append.1 hc with hc | hc
            · exact List.mem_append.2 (.inl hc)
            · exact List.mem_append.2 (.inr (List.mem_cons_of_mem _ hc))
          · intro hc
            have := (hmem i).2 hc
            rcases List.mem_append.1 this with h5 | h5
            · exact List.mem_append.2 (.inl h5)
            · rcases List.mem_cons.1 h5 with h5 | h5
              · exact absurd h5 hij
              · exact List.mem_append.2 (.inr h5)
      · by_cases hij : i = j
        · subst hij
          rw [ho] at ho'; simp only [Option.some.injEq] at ho'; subst ho'
          exact getD_set_true (hall e he hb)
        · rw [getD_set_ne true (Ne.symm hij)] at hl'
          exact getD_set_true (hdown i o' ho' hl' e he hb)
      · have hir : i ∈ L1 ++ j :: L2 := by
          rcases List.mem_append.1 hi with hi | hi
          · exact List.mem_append.2 (.inl hi)
          · exact List.mem_append.2 (.inr (List.mem_cons_of_mem _ hi))
        have hMi := hnew i hir m1 d h1 h2
        refine hM' _ hMi fun d' hd' => ?_
        rintro he
        simp only [Key.own.injEq] at he
        subst he
        -- the temporary of i is not that of j
        have hne : i ≠ j := by
          rintro rfl
          rcases List.mem_append.1 hi with hi | hi
          · have := hsort'.2.2 i hi i List.mem_cons_self; omega
          · have := (List.pairwise_cons.1 hsort'.2.1).1 i hi; omega
        have hd1 : m1.o.dst = some d := by
          revert h2
          cases m1.o <;> simp [MO.news, MO.dst]
        have hd2 : m.o.dst = some d := by rw [hdst]; exact hd'
        have gen : ∀ (l : List MG) (i j : Nat) (x y : MG), i ≠ j → l[i]? = some x → l[j]? = some y → x.o.dst = some d → y.o.dst = some d → ¬ (dsts l).Nodup := by
          intro l
          induction l with
          | nil => intro i j x y _ h; simp at h
          | cons z l ihl =>
            intro i j x y hij e1 e2 e3 e4 hn
            cases i with
            | zero =>
              cases j with
              | zero => exact hij rfl
              | succ j =>
                simp only [List.getElem?_cons_zero, Option.some.injEq] at e1
                subst e1
                simp only [List.getElem?_cons_succ] at e2
                simp only [dsts, List.filterMap_cons, e3, List.nodup_cons] at hn
                exact hn.1 (List.mem_filterMap.2 ⟨y, List.mem_of_getElem? e2, e4⟩)
            | succ i =>
              cases j with
              | zero =>
                simp only [List.getElem?_cons_zero, Option.some.injEq] at e2
                subst e2
                simp only [List.getElem?_cons_succ] at e1
                simp only [dsts, List.filterMap_cons, e4, List.nodup_cons] at hn
                exact hn.1 (List.mem_filterMap.2 ⟨x, List.mem_of_getElem? e1, e3⟩)
              | succ j =>
                refine ihl i j x y (by omega) (by simpa using e1) (by simpa using e2) e3 e4 ?_
                simp only [dsts, List.filterMap_cons] at hn
                split at hn
                · exact hn
                · exact (List.nodup_cons.1 hn).2
        exact gen ms i j m1 m hne h1 hm hd1 hd2 hnd
end
end Go.Proofs.YtopgmopdjiahmaaDoor.Lg
