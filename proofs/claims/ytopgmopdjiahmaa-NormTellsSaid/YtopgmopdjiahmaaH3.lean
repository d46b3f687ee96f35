/- Texts of one proof, joined by program (gen/tells.py): Ln Lo Lp Lq Lr. Conditions: none; plain definitions and lemmas. -/
import Derived.Test.YtopgmopdjiahmaaH2
import Derived.Deep.LoopGhost
/- A group that draws its order: one walk serves every order. Conditions: none; plain definitions and lemmas. -/
set_option linter.unusedVariables false
set_option linter.unusedSimpArgs false
namespace Go.Proofs.Ytopgmopdjiahmaa.Lg
open Go Go.RowKit

def MO.writes : MO → Bool
  | .store .. | .append .. | .box .. | .alloc .. | .mkrow .. | .callB .. => true
  | _ => false

theorem aop_wr {σ : St} {o : MO} {E : Eff} (h : aop σ o = some E) (hw : o.writes = false) : E.u = [] := by
  have hv : ∀ {d' : Nat} {lv : LV}, val d' lv = some E → E.u = [] := fun hv => by rw [val_eff hv]
  cases o <;> simp only [MO.writes, reduceCtorEq] at hw <;> simp only [aop] at h
  all_goals (repeat' (split at h))
  all_goals first
    | (cases h; done)
    | (exact hv h)
    | (simp only [Option.some.injEq] at h; subst h; rfl)
theorem Sat.wr0 {P : Program} {σ : St} {o : MO} {E : Eff} {p : Option TypeId} (h : Sat P σ o E p) (hw : o.writes = false) : E.u = [] := by
  cases hc : o.isCall with
  | false =>
    have hs : aop σ o = some E := by cases o <;> first | exact h.1 | (simp [MO.isCall] at hc)
    exact aop_wr hs hw
  | true =>
    cases o <;> first | (simp [MO.isCall] at hc; done) | (simp [MO.writes] at hw; done) | skip
    · obtain ⟨t, _, rfl, _⟩ := h; rfl
    · obtain ⟨g, caps, fl, vs, fr, v', _, _, _, rfl, _⟩ := h; rfl
theorem SatG.wr {P : Program} {σ : St} {m : MG} {E : Eff} {p : Option TypeId} (h : SatG P σ m E p) (hw : m.o.writes = false) : E.wr = [] := by
  have : E.u = [] := by
    unfold SatG at h
    split at h
    · exact h.wr0 hw
    · obtain ⟨c, _, h2⟩ := h
      rcases h2 with ⟨_, h3⟩ | ⟨_, rfl, _⟩
      · exact h3.wr0 hw
      · rfl
  simp [Eff.wr, this]

def keyClash (E F : Eff) : Bool := E.wr.any (fun k => decide (k ∈ F.touch)) || F.wr.any (fun k => decide (k ∈ E.touch))
def dynOk (es : List Eff) : List (Nat × Nat) → Bool
  | [] => true
  | (i, j) :: r => (match es[i]?, es[j]? with
    | some E, some F => !keyClash E F
    | _, _ => false) && dynOk es r

/-! ### What is asked of the text of a group -/
def dsts (ms : List MG) : List Nat := ms.filterMap fun m => m.o.dst
def pairOk (m m' : MG) : Bool :=
  (match m.o.dst with | some d => !(m'.reads.contains d) | none => true) && (match m'.o.dst with | some d => !(m.reads.contains d) | none => true)
def rowOk (anc : List (List Nat)) (pr : List (Nat × Nat)) (ms : List MG) (j : Nat) (mj : MG) : Bool :=
  (List.range j).all fun i => (anc.getD j []).contains i || match ms[i]? with
    | some mi => pairOk mi mj && (!(mi.o.writes || mj.o.writes) || pr.contains (i, j))
    | none => false
def ancRow (anc : List (List Nat)) (j : Nat) (o : Oper) : Bool :=
  (o.after.toList.all fun e => !Region.binds .any e || decide (e.on < j)) &&
  (anc.getD j []).all fun k => o.after.toList.any fun e => Region.binds .any e && (e.on == k || (anc.getD e.on []).contains k)
def drawOk (ops : Array Oper) (ms : List MG) (anc : List (List Nat)) (pr : List (Nat × Nat)) : Bool :=
  (List.range ops.size).all fun j => match ops[j]?, ms[j]? with
    | some o, some m => ancRow anc j o && rowOk anc pr ms j m
    | _, _ => false

section
variable {P : Program} {hts : Hints} {ops : Array Oper} {ms : List MG} {anc : List (List Nat)} {pr : List (Nat × Nat)} {n : Nat}

theorem anc_listed (hd : drawOk ops ms anc pr = true) {listed : Array Bool} (hsz : listed.size = ops.size) (hdown : ∀ i o, ops[i]? = some o → listed.getD i true = true → ∀ e ∈ o.after, Region.binds .any e = true → listed.getD e.on false = true) :
    ∀ j, j < ops.size → (∀ o, ops[j]? = some o → ∀ e ∈ o.after, Region.binds .any e = true → listed.getD e.on false = true) → ∀ k ∈ anc.getD j [], listed.getD k false = true := by
  intro j
  induction j using Nat.strongRecOn with
  | _ j ih =>
    intro hj hall k hk
    have hrow := List.all_eq_true.1 hd j (List.mem_range.2 hj)
    split at hrow
    · rename_i o m ho hm
      simp only [Bool.and_eq_true, ancRow] at hrow
      obtain ⟨⟨h1, h2⟩, _⟩ := hrow
      have h3 := List.all_eq_true.1 h2 k hk
      obtain ⟨e, he, h4⟩ := List.any_eq_true.1 h3
      simp only [Bool.and_eq_true, Bool.or_eq_true, beq_iff_eq, List.contains_iff_mem] at h4
      obtain ⟨hb, h5⟩ := h4
      have he' : e ∈ o.after := by simpa using he
      have hlist := hall o ho e he' hb
      rcases h5 with rfl | h5
      · exact hlist
      · have hlt : e.on < j := by
          have := List.all_eq_true.1 h1 e he
          simpa [hb] using this
        refine ih e.on hlt (by omega) (fun o' ho' e' he'' hb' => ?_) k h5
        refine hdown e.on o' ho' ?_ e' he'' hb'
        have : e.on < listed.size := by omega
        simp only [Array.getD_eq_getD_getElem?, Array.getElem?_eq_getElem this, Option.getD_some] at hlist ⊢
        exact hlist
    · cases hrow

theorem ind_of (hd : drawOk ops ms anc pr = true) (hnd : (dsts ms).Nodup) {es : List Eff} (hdyn : dynOk es pr = true) {i j : Nat} (hij : i < j) (hj : j < ops.size) (hna : i ∉ anc.getD j []) {m m' : MG} (hm : ms[i]? = some m) (hm' : ms[j]? = some m')
    {E F : Eff} (hE : es[i]? = some E) (hF : es[j]? = some F) (hw : m.o.writes = false → E.wr = []) (hw' : m'.o.writes = false → F.wr = []) : Ind m m' E F := by
  have hrow := List.all_eq_true.1 hd j (List.mem_range.2 hj)
  rw [hm'] at hrow
  split at hrow
  · rename_i o m1 ho hm1
    simp only [Option.some.injEq] at hm1; subst hm1
    simp only [Bool.and_eq_true] at hrow
    have h1 := List.all_eq_true.1 hrow.2 i (List.mem_range.2 hij)
    rw [hm] at h1
    simp only [Bool.or_eq_true, List.contains_iff_mem] at h1
    have h1 := h1.resolve_left hna
    simp only [Bool.and_eq_true, pairOk, Bool.or_eq_true, Bool.not_eq_true', List.contains_iff_mem] at h1
    obtain ⟨⟨h2, h3⟩, h4⟩ := h1
    have hkeys : (∀ k ∈ E.wr, k ∉ F.touch) ∧ (∀ k ∈ F.wr, k ∉ E.touch) := by
      rcases h4 with h4 | h4
      · simp only [Bool.or_eq_false_iff] at h4
        refine ⟨fun k hk => ?_, fun k hk => ?_⟩
        · rw [hw h4.1] at hk; cases hk
        · rw [hw' h4.2] at hk; cases hk
      · have gen : ∀ (l : List (Nat × Nat)), dynOk es l = true → (i, j) ∈ l → keyClash E F = false := by
          intro l
          induction l with
          | nil => intro _ hc; cases hc
          | cons p l ihl =>
            intro hl hc
            obtain ⟨i', j'⟩ := p
            simp only [dynOk, Bool.and_eq_true] at hl
            rcases List.mem_cons.1 hc with hc | hc
            · simp only [Prod.mk.injEq] at hc
              obtain ⟨rfl, rfl⟩ := hc
              have := hl.1
              rw [hE, hF] at this
              simpa using this
            · exact ihl hl.2 hc
        have hcl := gen pr hdyn h4
        simp only [keyClash, Bool.or_eq_false_iff, List.any_eq_false, decide_eq_true_eq] at hcl
        exact ⟨fun k hk hc => by have := hcl.1 k hk; exact this hc, fun k hk hc => by have := hcl.2 k hk; exact this hc⟩
    refine ⟨fun d hd' => ?_, fun d hd' => ?_, fun d hd1 hd2 => ?_, hkeys.1, hkeys.2⟩
    · rw [hd'] at h2; simpa using h2
    · rw [hd'] at h3; simpa using h3
    · -- two operations with one temporary
      have gen : ∀ (l : List MG) (i j : Nat), i < j → l[i]? = some m → l[j]? = some m' → ¬ (dsts l).Nodup := by
        intro l
        induction l with
        | nil => intro i j _ h; simp at h
        | cons x l ihl =>
          intro i j hij g1 g2
          cases i with
          | zero =>
            cases j with
            | zero => omega
            | succ j =>
              simp only [List.getElem?_cons_zero, Option.some.injEq] at g1
              subst g1
              simp only [List.getElem?_cons_succ] at g2
              intro hn
              simp only [dsts, List.filterMap_cons, hd1, List.nodup_cons] at hn
              exact hn.1 (List.mem_filterMap.2 ⟨m', List.mem_of_getElem? g2, hd2⟩)
          | succ i =>
            cases j with
            | zero => omega
            | succ j =>
              intro hn
              refine ihl i j (by omega) (by simpa using g1) (by simpa using g2) ?_
              simp only [dsts, List.filterMap_cons] at hn
              split at hn
              · exact hn
              · exact (List.nodup_cons.1 hn).2
      exact gen ms i j hij hm hm' hnd
  · cases hrow

/-- **Whatever order is picked**: as the order of the text. -/
theorem any_sound (htr : ∀ (i : Nat) (o : Oper), ops[i]? = some o → ∃ m : MG, ms[i]? = some m ∧ trG P hts ops o = some m ∧ m.o.dst = o.dst ∧ ∀ d, o.dst = some d → d < n) (hd : drawOk ops ms anc pr = true) (hnd : (dsts ms).Nodup) {es : List Eff} (hel : es.length = ops.size) (hdyn : dynOk es pr = true)
    {cx : Cx} {Q : Exit → Act → World → Prop} : ∀ (fuel : Nat) (rem : List Nat) (listed : Array Bool) (σ : St) (M : Pl) (a : Act) (w : World),
      rem.length ≤ fuel → rem.Pairwise (· < ·) → (∀ i, i ∈ rem ↔ i < ops.size ∧ listed.getD i true = false) → listed.size = ops.size →
      (∀ i o, ops[i]? = some o → listed.getD i true = true → ∀ e ∈ o.after, Region.binds .any e = true → listed.getD e.on false = true) →
      Chain P ms (fun i => es.getD i (undefEff (.pan (.t 0)))) rem σ → Inv cx σ M a w → a.tmps.size = n → (∀ i ∈ rem, ∀ m d, ms[i]? = some m → m.o.news = some d → M (.own d) = none) →
      (∀ i ∈ rem, ∀ m, ms[i]? = some m → m.o.writes = false → (es.getD i (undefEff (.pan (.t 0)))).wr = []) →
      (∀ σ' M' a' w', Same (fin (fun i => es.getD i (undefEff (.pan (.t 0)))) rem σ) σ' → Inv cx σ' M' a' w' → a'.tmps.size = n → Q .normal a' w') →
      wpAny P .any ops Q fuel listed a w := by
  intro fuel
  induction fuel with
  | zero =>
    intro rem listed σ M a w hlen hsort hmem hsz hdown hch hI hn hnew hwr hQ
    have hrem : rem = [] := List.eq_nil_of_length_eq_zero (by omega)
    subst hrem
    refine ⟨?_, hQ σ M a w (Same.refl _) hI hn⟩
    cases hr : Region.ready .any ops listed with
    | nil => rfl
    | cons x l =>
      have hx : x ∈ Region.ready .any ops listed := by rw [hr]; exact List.mem_cons_self
      obtain ⟨h1, o, ho, _⟩ := mem_ready.1 hx
      have := (hmem x).2 ⟨(Array.getElem?_eq_some_iff.1 ho).1, h1⟩
      cases this
  | succ fuel ih =>
    intro rem listed σ M a w hlen hsort hmem hsz hdown hch hI hn hnew hwr hQ
    refine ⟨fun hr => ?_, fun j hj => ?_⟩
    · -- nothing is left
      cases rem with
      | nil => exact hQ σ M a w (Same.refl _) hI hn
      | cons i r =>
        exfalso
        have hi := (hmem i).1 List.mem_cons_self
        have ho : ∃ o, ops[i]? = some o := ⟨ops[i], Array.getElem?_eq_getElem hi.1⟩
        obtain ⟨o, ho⟩ := ho
        have : i ∈ Region.ready .any ops listed := by
          refine mem_ready.2 ⟨hi.2, o, ho, fun e he hb => ?_⟩
          have hrow := List.all_eq_true.1 hd i (List.mem_range.2 hi.1)
          rw [ho] at hrow
          split at hrow
          · rename_i o' m' ho' hm'
            simp only [Option.some.injEq] at ho'; subst ho'
            simp only [Bool.and_eq_true, ancRow] at hrow
            have hlt := List.all_eq_true.1 hrow.1.1 e (by simpa using he)
            have hlt : e.on < i := by simpa [hb] using hlt
            have hnot : e.on ∉ i :: r := by
              intro hc
              rcases List.mem_cons.1 hc with hc | hc
              · omega
              · have := (List.pairwise_cons.1 hsort).1 _ hc; omega
            have : ¬ (listed.getD e.on true = false) := fun hc => hnot ((hmem _).2 ⟨by omega, hc⟩)
            have hlt' : e.on < listed.size := by omega
            simp only [Array.getD_eq_getD_getElem?, Array.getElem?_eq_getElem hlt', Option.getD_some] at this ⊢
            simpa using this
          · cases hrow
        rw [hr] at this; cases this
    · obtain ⟨hun, o, ho, hall⟩ := mem_ready.1 hj
      have hjlt : j < ops.size := (Array.getElem?_eq_some_iff.1 ho).1
      have hjr : j ∈ rem := (hmem j).2 ⟨hjlt, hun⟩
      obtain ⟨L1, L2, rfl⟩ := List.append_of_mem hjr
      have hsort' := List.pairwise_append.1 hsort
      have hanc := anc_listed hd hsz hdown j hjlt (fun o' ho' => by rw [ho] at ho'; simp only [Option.some.injEq] at ho'; subst ho'; exact hall)
      have hEat : ∀ i, i < ops.size → es[i]? = some (es.getD i (undefEff (.pan (.t 0)))) := fun i hi => by
        rw [List.getD_eq_getElem?_getD, List.getElem?_eq_getElem (by omega)]; rfl
      obtain ⟨⟨m, hm, hsat⟩, hch', hsame⟩ := Chain.move (L1 := L1) (L2 := L2) (fun i hi m1 m2 h1 h2 => by
        have hir : i ∈ L1 ++ j :: L2 := List.mem_append.2 (.inl hi)
        have hi' := (hmem i).1 hir
        have hij : i < j := hsort'.2.2 i hi j List.mem_cons_self
        refine ind_of hd hnd hdyn hij hjlt (fun hc => ?_) h1 h2 (hEat i hi'.1) (hEat j hjlt) (hwr i hir m1 h1) (hwr j hjr m2 h2)
        have h3 := hanc i hc
        have hlt' : i < listed.size := by omega
        have h4 := hi'.2
        simp only [Array.getD_eq_getD_getElem?, Array.getElem?_eq_getElem hlt', Option.getD_some] at h3 h4
        rw [h3] at h4; cases h4) hch
      obtain ⟨m', hm', htr', hdst, hdlt⟩ := htr j o ho
      rw [hm] at hm'
      simp only [Option.some.injEq] at hm'; subst hm'
      refine satG_goes ho htr' hsat hI (fun d hd' => by rw [hn]; exact hdlt d hd') hdst (fun d hd' => hnew j hjr m d hm hd') (fun _ a' w' M' hI' hsz' hM' => ?_) (fun t ht => by cases ht)
      refine ih (L1 ++ L2) (listed.setIfInBounds j true) _ M' a' w' (by simp at hlen ⊢; omega) ?_ (fun i => ?_) (by simpa using hsz) (fun i o' ho' hl' e he hb => ?_) hch' hI' (by rw [hsz', hn]) (fun i hi m1 d h1 h2 => ?_) (fun i hi => hwr i (by
          rcases List.mem_append.1 hi with hi | hi
          · exact List.mem_append.2 (.inl hi)
          · exact List.mem_append.2 (.inr (List.mem_cons_of_mem _ hi)))) (fun σ' M'' a'' w'' hs => hQ σ' M'' a'' w'' (hsame.trans hs))
      · refine List.pairwise_append.2 ⟨hsort'.1, (List.pairwise_cons.1 hsort'.2.1).2, fun x hx y hy => hsort'.2.2 x hx y (List.mem_cons_of_mem _ hy)⟩
      · have hnodup : j ∉ L1 ++ L2 := by
          intro hc
          rcases List.mem_append.1 hc with hc | hc
          · have := hsort'.2.2 j hc j List.mem_cons_self; omega
          · have := (List.pairwise_cons.1 hsort'.2.1).1 j hc; omega
        by_cases hij : i = j
        · subst hij
          constructor
          · intro hc; exact absurd hc hnodup
          · rintro ⟨_, hc⟩
            have hlt' : i < listed.size := by omega
            simp [hlt'] at hc
        · rw [getD_set_ne true (Ne.symm hij)]
          constructor
          · intro hc
            refine (hmem i).1 ?_
            rcases List.mem_append.1 hc with hc | hc
            · exact List.mem_append.2 (.inl hc)
            · exact List.mem_append.2 (.inr (List.mem_cons_of_mem _ hc))
          · intro hc
            have := (hmem i).2 hc
            rcases List.mem_append.1 this with h5 | h5
            · exact List.mem_append.2 (.inl h5)
            · rcases List.mem_cons.1 h5 with h5 | h5
              · exact absurd h5 hij
              · exact List.mem_append.2 (.inr h5)
      · by_cases hij : i = j
        · subst hij
          rw [ho] at ho'; simp only [Option.some.injEq] at ho'; subst ho'
          exact getD_set_true (hall e he hb)
        · rw [getD_set_ne true (Ne.symm hij)] at hl'
          exact getD_set_true (hdown i o' ho' hl' e he hb)
      · have hir : i ∈ L1 ++ j :: L2 := by
          rcases List.mem_append.1 hi with hi | hi
          · exact List.mem_append.2 (.inl hi)
          · exact List.mem_append.2 (.inr (List.mem_cons_of_mem _ hi))
        have hMi := hnew i hir m1 d h1 h2
        refine hM' _ hMi fun d' hd' => ?_
        rintro he
        simp only [Key.own.injEq] at he
        subst he
        -- the temporary of i is not that of j
        have hne : i ≠ j := by
          rintro rfl
          rcases List.mem_append.1 hi with hi | hi
          · have := hsort'.2.2 i hi i List.mem_cons_self; omega
          · have := (List.pairwise_cons.1 hsort'.2.1).1 i hi; omega
        have hd1 : m1.o.dst = some d := by
          revert h2
          cases m1.o <;> simp [MO.news, MO.dst]
        have hd2 : m.o.dst = some d := by rw [hdst]; exact hd'
        have gen : ∀ (l : List MG) (i j : Nat) (x y : MG), i ≠ j → l[i]? = some x → l[j]? = some y → x.o.dst = some d → y.o.dst = some d → ¬ (dsts l).Nodup := by
          intro l
          induction l with
          | nil => intro i j x y _ h; simp at h
          | cons z l ihl =>
            intro i j x y hij e1 e2 e3 e4 hn
            cases i with
            | zero =>
              cases j with
              | zero => exact hij rfl
              | succ j =>
                simp only [List.getElem?_cons_zero, Option.some.injEq] at e1
                subst e1
                simp only [List.getElem?_cons_succ] at e2
                simp only [dsts, List.filterMap_cons, e3, List.nodup_cons] at hn
                exact hn.1 (List.mem_filterMap.2 ⟨y, List.mem_of_getElem? e2, e4⟩)
            | succ i =>
              cases j with
              | zero =>
                simp only [List.getElem?_cons_zero, Option.some.injEq] at e2
                subst e2
                simp only [List.getElem?_cons_succ] at e1
                simp only [dsts, List.filterMap_cons, e4, List.nodup_cons] at hn
                exact hn.1 (List.mem_filterMap.2 ⟨x, List.mem_of_getElem? e1, e3⟩)
              | succ j =>
                refine ihl i j x y (by omega) (by simpa using e1) (by simpa using e2) e3 e4 ?_
                simp only [dsts, List.filterMap_cons] at hn
                split at hn
                · exact hn
                · exact (List.nodup_cons.1 hn).2
        exact gen ms i j m1 m hne h1 hm hd1 hd2 hnd
end
end Go.Proofs.Ytopgmopdjiahmaa.Lg

/- Code and functions: what is to be shown of a function's text, without memory. Conditions: none; plain definitions and lemmas. -/
set_option linter.unusedVariables false
set_option linter.unusedSimpArgs false
set_option linter.unusedSectionVars false
namespace Go.Proofs.Ytopgmopdjiahmaa.Lg
open Go Go.RowKit

/-! ### One operation behind the other -/
def stepM (P : Program) (σ : St) (o : MO) (K : Eff → Prop) (Kp : TypeId → Eff → Prop) : Prop :=
  match o with
  | .call d fx xs => match σ.ev fx with
    | .fn f caps => match resL (Lg.res σ.s depth0) (xs.map σ.ev ++ caps) with
      | some (_, vs) => ∃ fr v, Does P f (vs.map (.imm false)) [] (.ret fr v) [] ∧
          K { d := d.map (·, .imm fr v), u := [], z := keysL (Lg.keys σ.s depth0) (xs.map σ.ev ++ caps), r := keysL (Lg.keys σ.s depth0) (xs.map σ.ev ++ caps) }
      | none => False
    | _ => False
  | .callB d fx xs ρ => match σ.ev fx with
    | .fn f caps => ρ.Nodup ∧ (∀ k ∈ ρ, k ∉ giveK σ ρ (xs.map σ.ev ++ caps)) ∧ match giveL σ ρ (xs.map σ.ev ++ caps), lendBoxes σ ρ ρ with
      | some args, some S => ∃ o' S', Does P f args S o' S' ∧ match backBoxes ρ ρ S' with
        | some u => (match o' with
          | .ret fr v => K { d := d.map (·, .imm fr v), u := u, z := giveK σ ρ (xs.map σ.ev ++ caps), r := ρ ++ giveK σ ρ (xs.map σ.ev ++ caps) }
          | .pan t => Kp t { d := none, u := u, z := giveK σ ρ (xs.map σ.ev ++ caps), r := ρ ++ giveK σ ρ (xs.map σ.ev ++ caps) })
        | none => False
      | _, _ => False
    | _ => False
  | .pan x => match σ.ev x with
    | .unitI t => Kp t { d := none, u := [], z := [], r := [] }
    | _ => False
  | o => match aop σ o with
    | some E => K E
    | none => False

theorem stepM_spec {P : Program} {σ : St} {o : MO} {K : Eff → Prop} {Kp : TypeId → Eff → Prop} (h : stepM P σ o K Kp) : ∃ E p, Sat P σ o E p ∧ (p = none → K E) ∧ (∀ t, p = some t → Kp t E) := by
  have plain : ∀ E, aop σ o = some E → o.isCall = false → K E → ∃ E p, Sat P σ o E p ∧ (p = none → K E) ∧ (∀ t, p = some t → Kp t E) := by
    intro E hE hc hK
    refine ⟨E, none, ?_, fun _ => hK, fun t ht => by cases ht⟩
    cases o <;> first | exact ⟨hE, rfl⟩ | (simp [MO.isCall] at hc)
  unfold stepM at h
  split at h
  · split at h
    · rename_i f caps hev
      split at h
      · rename_i fl vs hres
        obtain ⟨fr, v, hd, hK⟩ := h
        exact ⟨_, none, ⟨f, caps, fl, vs, fr, v, hev, hres, hd, rfl, rfl⟩, fun _ => hK, fun t ht => by cases ht⟩
      · cases h
    · cases h
  · split at h
    · rename_i f caps hev
      obtain ⟨hn, hdis, h⟩ := h
      split at h
      · rename_i args S hg hS
        obtain ⟨o', S', hd, h⟩ := h
        split at h
        · rename_i u hu
          cases o' with
          | ret fr v => exact ⟨_, none, ⟨f, caps, args, S, .ret fr v, S', u, hev, hn, hdis, hg, hS, hd, hu, rfl, rfl⟩, fun _ => h, fun t ht => by cases ht⟩
          | pan t => exact ⟨_, some t, ⟨f, caps, args, S, .pan t, S', u, hev, hn, hdis, hg, hS, hd, hu, rfl, rfl⟩, (fun hp => nomatch hp), (fun t' ht => by simp only [Option.some.injEq] at ht; subst ht; exact h)⟩
        · cases h
      · cases h
    · cases h
  · split at h
    · rename_i t hev
      exact ⟨_, some t, ⟨t, hev, rfl, rfl⟩, (fun hp => nomatch hp), (fun t' ht => by simp only [Option.some.injEq] at ht; subst ht; exact h)⟩
    · cases h
  · rename_i hn1 hn2 hn3
    split at h
    · rename_i E hE
      refine plain E hE ?_ h
      cases o <;> first | rfl | exact absurd rfl (hn1 _ _ _) | exact absurd rfl (hn2 _ _ _ _) | exact absurd rfl (hn3 _)
    · cases h

def awpOps (P : Program) : List MG → St → List Eff → (St → List Eff → Prop) → (TypeId → St → Prop) → Prop
  | [], σ, acc, K, _ => K σ acc
  | m :: r, σ, acc, K, Kp => match m.g with
    | none => stepM P σ m.o (fun E => awpOps P r (σ.app E) (acc ++ [E]) K Kp) (fun t E => Kp t (σ.app E))
    | some (t, b) => match yes (σ.get t) with
      | some c => (c = some b → stepM P σ m.o (fun E => awpOps P r (σ.app E) (acc ++ [E]) K Kp) (fun t E => Kp t (σ.app E))) ∧ (c ≠ some b → awpOps P r (σ.app (undefEff m.o)) (acc ++ [undefEff m.o]) K Kp)
      | none => False

theorem awpOps_cons {P : Program} {m : MG} {r : List MG} {σ : St} {acc : List Eff} {K : St → List Eff → Prop} {Kp : TypeId → St → Prop} (h : awpOps P (m :: r) σ acc K Kp) :
    ∃ E p, SatG P σ m E p ∧ (p = none → awpOps P r (σ.app E) (acc ++ [E]) K Kp) ∧ (∀ t, p = some t → Kp t (σ.app E)) := by
  unfold awpOps at h
  split at h
  · rename_i hg
    obtain ⟨E, p, h1, h2, h3⟩ := stepM_spec h
    exact ⟨E, p, by unfold SatG; rw [hg]; exact h1, h2, h3⟩
  · rename_i t b hg
    split at h
    · rename_i c hget
      by_cases hcb : c = some b
      · obtain ⟨E, p, h1, h2, h3⟩ := stepM_spec (h.1 hcb)
        exact ⟨E, p, by unfold SatG; rw [hg]; exact ⟨c, hget, .inl ⟨hcb, h1⟩⟩, h2, h3⟩
      · exact ⟨undefEff m.o, none, by unfold SatG; rw [hg]; exact ⟨c, hget, .inr ⟨hcb, rfl, rfl⟩⟩, fun _ => h.2 hcb, fun t ht => by cases ht⟩
    · cases h

section
variable {P : Program} {hts : Hints} {ops : Array Oper} {ms : List MG} {n : Nat} {cx : Cx}

theorem dsts_at : ∀ (l : List MG) (i j : Nat) (x y : MG) (d : Nat), i ≠ j → l[i]? = some x → l[j]? = some y → x.o.dst = some d → y.o.dst = some d → ¬ (dsts l).Nodup
  | [], i, j, x, y, d, _, h, _, _, _ => by simp at h
  | z :: l, i, j, x, y, d, hij, e1, e2, e3, e4 => fun hn => by
    cases i with
    | zero =>
      cases j with
      | zero => exact hij rfl
      | succ j =>
        simp only [List.getElem?_cons_zero, Option.some.injEq] at e1
        subst e1
        simp only [List.getElem?_cons_succ] at e2
        simp only [dsts, List.filterMap_cons, e3, List.nodup_cons] at hn
        exact hn.1 (List.mem_filterMap.2 ⟨y, List.mem_of_getElem? e2, e4⟩)
    | succ i =>
      cases j with
      | zero =>
        simp only [List.getElem?_cons_zero, Option.some.injEq] at e2
        subst e2
        simp only [List.getElem?_cons_succ] at e1
        simp only [dsts, List.filterMap_cons, e4, List.nodup_cons] at hn
        exact hn.1 (List.mem_filterMap.2 ⟨x, List.mem_of_getElem? e1, e3⟩)
      | succ j =>
        refine dsts_at l i j x y d (by omega) (by simpa using e1) (by simpa using e2) e3 e4 ?_
        simp only [dsts, List.filterMap_cons] at hn
        split at hn
        · exact hn
        · exact (List.nodup_cons.1 hn).2
theorem news_dst {m : MG} {d : Nat} (h : m.o.news = some d) : m.o.dst = some d := by
  revert h
  cases m.o <;> simp [MO.news, MO.dst]

theorem seq_sound (htr : ∀ (i : Nat) (o : Oper), ops[i]? = some o → ∃ m : MG, ms[i]? = some m ∧ trG P hts ops o = some m ∧ m.o.dst = o.dst ∧ ∀ d, o.dst = some d → d < n) (hlen : ms.length = ops.size) (hnd : (dsts ms).Nodup)
    {K : St → List Eff → Prop} {Kp : TypeId → St → Prop} {Q : Exit → Act → World → Prop}
    (hK : ∀ σ es M a w, K σ es → Inv cx σ M a w → a.tmps.size = n → Q .normal a w)
    (hKp : ∀ t σ M a w, Kp t σ → Inv cx σ M a w → Q (.panic [{ v := .iface t (.agg #[]), recovered := false }]) a w) :
    ∀ (l : List MG) (i : Nat) (σ : St) (acc : List Eff) (M : Pl) (a : Act) (w : World), ms.drop i = l → awpOps P l σ acc K Kp → Inv cx σ M a w → a.tmps.size = n → (∀ j m d, i ≤ j → ms[j]? = some m → m.o.news = some d → M (.own d) = none) →
      wpOps P ops Q (List.range' i l.length) a w
  | [], i, σ, acc, M, a, w, hdrop, hawp, hI, hn, hnew => by
    simp only [List.length_nil, List.range'_zero, wpOps]
    exact hK _ _ _ _ _ hawp hI hn
  | m :: r, i, σ, acc, M, a, w, hdrop, hawp, hI, hn, hnew => by
    have hi : ms[i]? = some m := by rw [← List.head?_drop, hdrop]; rfl
    have hdrop' : ms.drop (i + 1) = r := by rw [← List.drop_drop, hdrop]; rfl
    have hlt : i < ops.size := by rw [← hlen]; exact (List.getElem?_eq_some_iff.1 hi).1
    obtain ⟨m', hm', htr', hdst, hdlt⟩ := htr i ops[i] (Array.getElem?_eq_getElem hlt)
    rw [hi] at hm'
    simp only [Option.some.injEq] at hm'; subst hm'
    obtain ⟨E, p, hsat, h2, h3⟩ := awpOps_cons hawp
    simp only [List.length_cons, List.range'_succ]
    rw [wpOps_cons]
    refine satG_goes (Array.getElem?_eq_getElem hlt) htr' hsat hI (fun d hd => by rw [hn]; exact hdlt d hd) hdst (fun d hd => hnew i m d (Nat.le_refl _) hi hd) (fun hp a' w' M' hI' hsz hM' => ?_) (fun t ht a' w' M' hI' => hKp _ _ _ _ _ (h3 t ht) hI')
    refine seq_sound htr hlen hnd hK hKp r (i + 1) _ _ M' a' w' hdrop' (h2 hp) hI' (by rw [hsz, hn]) (fun j m1 d hj h1 h4 => ?_)
    refine hM' _ (hnew j m1 d (by omega) h1 h4) fun d' hd' he => ?_
    simp only [Key.own.injEq] at he
    subst he
    exact dsts_at ms i j m m1 d (by omega) hi h1 (by rw [hdst]; exact hd') (news_dst h4) hnd

def dfltEff : Eff := undefEff (.pan (.t 0))

theorem chain_of_awp {K : St → List Eff → Prop} : ∀ (l : List MG) (i : Nat) (σ : St) (acc : List Eff), ms.drop i = l → acc.length = i → awpOps P l σ acc K (fun _ _ => False) →
    ∃ es, es.length = i + l.length ∧ (∀ j, j < i → es[j]? = acc[j]?) ∧ Chain P ms (fun j => es.getD j dfltEff) (List.range' i l.length) σ ∧ K (fin (fun j => es.getD j dfltEff) (List.range' i l.length) σ) es
  | [], i, σ, acc, hdrop, hacc, h => ⟨acc, by simp [hacc], fun j _ => rfl, trivial, h⟩
  | m :: r, i, σ, acc, hdrop, hacc, h => by
    have hi : ms[i]? = some m := by rw [← List.head?_drop, hdrop]; rfl
    have hdrop' : ms.drop (i + 1) = r := by rw [← List.drop_drop, hdrop]; rfl
    obtain ⟨E, p, hsat, h2, h3⟩ := awpOps_cons h
    have hp : p = none := by
      cases p with
      | none => rfl
      | some t => exact (h3 t rfl).elim
    subst hp
    obtain ⟨es, h4, h5, h6, h7⟩ := chain_of_awp r (i + 1) (σ.app E) (acc ++ [E]) hdrop' (by simp [hacc]) (h2 rfl)
    have hE : es.getD i dfltEff = E := by
      have := h5 i (by omega)
      rw [List.getD_eq_getElem?_getD, this, List.getElem?_append_right (by omega)]
      simp [hacc]
    refine ⟨es, by simp only [List.length_cons]; omega, fun j hj => ?_, ?_, ?_⟩
    · rw [h5 j (by omega), List.getElem?_append_left (by omega)]
    · simp only [List.length_cons, List.range'_succ, Chain]
      rw [hE]
      exact ⟨⟨m, hi, hsat⟩, h6⟩
    · simp only [List.length_cons, List.range'_succ, fin]
      rw [hE]
      exact h7
end

/-! ### Before a group: its new boxes' names are made free -/
def renK (D : List Nat) : Key → Option Key
  | .arg i => some (.arg i)
  | .own t => if t ∈ D then some (.own (t + 1000)) else if 1000 ≤ t ∧ (t - 1000) ∈ D then none else some (.own t)
def renL (f : LV → Option LV) : List LV → Option (List LV)
  | [] => some []
  | a :: r => match f a, renL f r with
    | some b, some l => some (b :: l)
    | _, _ => none
def renLL (f : LV → Option LV) : List (List LV) → Option (List (List LV))
  | [] => some []
  | a :: r => match renL f a, renLL f r with
    | some b, some l => some (b :: l)
    | _, _ => none
def renV (D : List Nat) : Nat → LV → Option LV
  | 0, _ => none
  | _ + 1, .undef => some .undef
  | _ + 1, .imm f v => some (.imm f v)
  | _ + 1, .loc k o => match renK D k with
    | some k => some (.loc k o)
    | none => none
  | _ + 1, .row k m => match renK D k with
    | some k => some (.row k m)
    | none => none
  | _ + 1, .nils => some .nils
  | _ + 1, .unitI t => some (.unitI t)
  | n + 1, .agg cs => match renL (renV D n) cs with
    | some l => some (.agg l)
    | none => none
  | n + 1, .tup cs => match renL (renV D n) cs with
    | some l => some (.tup l)
    | none => none
  | n + 1, .fn f cs => match renL (renV D n) cs with
    | some l => some (.fn f l)
    | none => none
def renB (D : List Nat) : Box → Option Box
  | .var cs => match renL (renV D 6) cs with
    | some l => some (.var l)
    | none => none
  | .row e sz es => match renLL (renV D 6) es with
    | some l => some (.row e sz l)
    | none => none
def renS (D : List Nat) : List (Key × Box) → Option (List (Key × Box))
  | [] => some []
  | (k, b) :: r => match renK D k with
    | none => renS D r
    | some k' => match renB D b, renS D r with
      | some b', some r' => some ((k', b') :: r')
      | _, _ => none
def renE (D : List Nat) : List (Nat × LV) → List (Nat × LV)
  | [] => []
  | (t, v) :: r => (t, (renV D 6 v).getD .undef) :: renE D r
def renZ (D : List Nat) : List Key → List Key
  | [] => []
  | k :: r => match renK D k with
    | some k' => k' :: renZ D r
    | none => renZ D r
def St.prep (D : List Nat) (σ : St) : Option St := match D with
  | [] => some σ
  | D => match renS D σ.s with
    | some s => some ⟨renE D σ.e, s, renZ D σ.z⟩
    | none => none
def renM (D : List Nat) (M : Pl) : Pl := fun k => match k with
  | .arg i => M (.arg i)
  | .own t => if t ∈ D then none else if 1000 ≤ t ∧ (t - 1000) ∈ D then M (.own (t - 1000)) else M (.own t)

section
variable {D : List Nat} (hD : ∀ d ∈ D, d < 1000)
include hD
theorem renM_at {M : Pl} {k k' : Key} (h : renK D k = some k') : renM D M k' = M k := by
  cases k with
  | arg i => simp only [renK, Option.some.injEq] at h; subst h; rfl
  | own t =>
    simp only [renK] at h
    split at h
    · rename_i ht
      simp only [Option.some.injEq] at h; subst h
      have h1 : t + 1000 ∉ D := fun hc => by have := hD _ hc; omega
      simp [renM, h1, ht]
    · rename_i ht
      split at h
      · cases h
      · rename_i h2
        simp only [Option.some.injEq] at h; subst h
        simp only [renM, if_neg ht, if_neg h2]
omit hD in
theorem renL_spec {f : LV → Option LV} : ∀ {l l' : List LV}, renL f l = some l' → l'.length = l.length ∧ ∀ j (h : j < l.length) (h' : j < l'.length), f l[j] = some l'[j]
  | [], l', h => by simp only [renL, Option.some.injEq] at h; subst h; exact ⟨rfl, fun j h => by simp at h⟩
  | a :: r, l', h => by
    simp only [renL] at h
    split at h
    · rename_i b l e1 e2
      simp only [Option.some.injEq] at h; subst h
      obtain ⟨h1, h2⟩ := renL_spec e2
      refine ⟨by simp [h1], fun j hj hj' => ?_⟩
      cases j with
      | zero => exact e1
      | succ j => exact h2 j (by simpa using hj) (by simpa using hj')
    · cases h
omit hD in
theorem renLL_spec {f : LV → Option LV} : ∀ {l l' : List (List LV)}, renLL f l = some l' → l'.length = l.length ∧ renL f l.flatten = some l'.flatten ∧ ∀ sz, (∀ x ∈ l, x.length = sz) → ∀ x ∈ l', x.length = sz
  | [], l', h => by simp only [renLL, Option.some.injEq] at h; subst h; exact ⟨rfl, rfl, fun sz _ x hx => by cases hx⟩
  | a :: r, l', h => by
    simp only [renLL] at h
    split at h
    · rename_i b l e1 e2
      simp only [Option.some.injEq] at h; subst h
      obtain ⟨h1, h2, h3⟩ := renLL_spec e2
      have app : ∀ (x y x' y' : List LV), renL f x = some x' → renL f y = some y' → renL f (x ++ y) = some (x' ++ y') := by
        intro x
        induction x with
        | nil => intro y x' y' hx hy; simp only [renL, Option.some.injEq] at hx; subst hx; simpa using hy
        | cons c x ih =>
          intro y x' y' hx hy
          simp only [renL] at hx
          split at hx
          · rename_i c' l'' g1 g2
            simp only [Option.some.injEq] at hx; subst hx
            simp only [List.cons_append, renL, g1, ih y l'' y' g2 hy]
          · cases hx
      refine ⟨by simp [h1], by simpa using app a r.flatten b l.flatten e1 h2, fun sz hs x hx => ?_⟩
      rcases List.mem_cons.1 hx with rfl | hx
      · rw [(renL_spec e1).1]; exact hs a List.mem_cons_self
      · exact h3 sz (fun y hy => hs y (List.mem_cons_of_mem _ hy)) x hx
    · cases h
theorem ren_rep {w : World} {N Nf : Nat → Prop} {M : Pl} : ∀ (n : Nat) (v v' : LV) (x : Value), renV D n v = some v' → RepL w N Nf M v x → RepL w N Nf (renM D M) v' x := by
  intro n
  induction n with
  | zero => intro v v' x h; simp [renV] at h
  | succ n ih =>
    intro v v' x h hx
    cases hx with
    | undef x => simp only [renV, Option.some.injEq] at h; subst h; exact .undef x
    | imm v x hr => simp only [renV, Option.some.injEq] at h; subst h; exact .imm v x hr
    | fresh v x hr => simp only [renV, Option.some.injEq] at h; subst h; exact .fresh v x hr
    | loc k off b c hM =>
      simp only [renV] at h
      split at h
      · rename_i k' hk
        simp only [Option.some.injEq] at h; subst h
        exact .loc k' off b c (by rw [renM_at hD hk]; exact hM)
      · cases h
    | row k m b c hM =>
      simp only [renV] at h
      split at h
      · rename_i k' hk
        simp only [Option.some.injEq] at h; subst h
        exact .row k' m b c (by rw [renM_at hD hk]; exact hM)
      · cases h
    | nils => simp only [renV, Option.some.injEq] at h; subst h; exact .nils
    | unitI t => simp only [renV, Option.some.injEq] at h; subst h; exact .unitI t
    | agg cells vs hl h1 hr =>
      simp only [renV] at h
      split at h
      · rename_i l hl'
        simp only [Option.some.injEq] at h; subst h
        obtain ⟨e1, e2⟩ := renL_spec hl'
        exact .agg l vs (by omega) h1 fun j hj hj' => ih _ _ _ (e2 j (by omega) hj) (hr j (by omega) hj')
      · cases h
    | tup cells vs hl hr =>
      simp only [renV] at h
      split at h
      · rename_i l hl'
        simp only [Option.some.injEq] at h; subst h
        obtain ⟨e1, e2⟩ := renL_spec hl'
        exact .tup l vs (by omega) fun j hj hj' => ih _ _ _ (e2 j (by omega) hj) (hr j (by omega) hj')
      · cases h
    | fn f caps vs hl hr =>
      simp only [renV] at h
      split at h
      · rename_i l hl'
        simp only [Option.some.injEq] at h; subst h
        obtain ⟨e1, e2⟩ := renL_spec hl'
        exact .fn f l vs (by omega) fun j hj hj' => ih _ _ _ (e2 j (by omega) hj) (hr j (by omega) hj')
      · cases h
omit hD in
theorem renE_get (e : List (Nat × LV)) (t : Nat) : getE (renE D e) t = (renV D 6 (getE e t)).getD .undef := by
  induction e with
  | nil => rfl
  | cons x e ih =>
    obtain ⟨u, v⟩ := x
    simp only [renE, getE]
    split
    · rfl
    · exact ih
theorem renS_get : ∀ {s s' : List (Key × Box)} {k' : Key} {b' : Box}, renS D s = some s' → getB s' k' = some b' → ∃ k b, getB s k = some b ∧ renK D k = some k' ∧ renB D b = some b'
  | [], s', k', b', h, hb => by simp only [renS, Option.some.injEq] at h; subst h; simp [getB] at hb
  | (k, b) :: r, s', k', b', h, hb => by
    simp only [renS] at h
    split at h
    · rename_i hk
      obtain ⟨k1, b1, h1, h2, h3⟩ := renS_get h hb
      refine ⟨k1, b1, ?_, h2, h3⟩
      simp only [getB]
      rw [if_neg (fun e => by rw [e, h2] at hk; cases hk)]
      exact h1
    · rename_i k0 hk
      split at h
      · rename_i b0 r' e1 e2
        simp only [Option.some.injEq] at h; subst h
        simp only [getB] at hb
        split at hb
        · rename_i he
          subst he
          simp only [Option.some.injEq] at hb; subst hb
          exact ⟨k, b, by simp [getB], hk, e1⟩
        · rename_i hne
          obtain ⟨k1, b1, h1, h2, h3⟩ := renS_get e2 hb
          refine ⟨k1, b1, ?_, h2, h3⟩
          simp only [getB]
          rw [if_neg (fun e => by subst e; rw [hk] at h2; simp only [Option.some.injEq] at h2; exact hne h2)]
          exact h1
      · cases h
omit hD in
theorem mem_renZ {z : List Key} {k k' : Key} (h : k ∈ z) (hk : renK D k = some k') : k' ∈ renZ D z := by
  induction z with
  | nil => cases h
  | cons x z ih =>
    simp only [renZ]
    rcases List.mem_cons.1 h with rfl | h
    · rw [hk]; exact List.mem_cons_self
    · split
      · exact List.mem_cons_of_mem _ (ih h)
      · exact ih h
omit hD in
theorem of_mem_renZ {z : List Key} {k' : Key} (h : k' ∈ renZ D z) : ∃ k ∈ z, renK D k = some k' := by
  induction z with
  | nil => cases h
  | cons x z ih =>
    simp only [renZ] at h
    split at h
    · rename_i k0 hk
      rcases List.mem_cons.1 h with rfl | h
      · exact ⟨x, List.mem_cons_self, hk⟩
      · obtain ⟨k, h1, h2⟩ := ih h
        exact ⟨k, List.mem_cons_of_mem _ h1, h2⟩
    · obtain ⟨k, h1, h2⟩ := ih h
      exact ⟨k, List.mem_cons_of_mem _ h1, h2⟩

theorem Inv.prep {cx : Cx} {σ σ' : St} {M : Pl} {a : Act} {w : World} (h : Inv cx σ M a w) (hp : σ.prep D = some σ') (hne : D ≠ []) : Inv cx σ' (renM D M) a w := by
  have hp' : ∃ s, renS D σ.s = some s ∧ σ' = ⟨renE D σ.e, s, renZ D σ.z⟩ := by
    unfold St.prep at hp
    split at hp
    · exact absurd rfl hne
    · split at hp
      · rename_i s hs
        simp only [Option.some.injEq] at hp
        exact ⟨s, hs, hp.symm⟩
      · cases hp
  obtain ⟨s, hs, rfl⟩ := hp'
  have back : ∀ k' b', getB s k' = some b' → ∃ k b, getB σ.s k = some b ∧ renK D k = some k' ∧ renB D b = some b' ∧ renM D M k' = M k := fun k' b' hb => by
    obtain ⟨k, b, h1, h2, h3⟩ := renS_get hD hs hb
    exact ⟨k, b, h1, h2, h3, renM_at hD h2⟩
  have live : ∀ k', (getB s k').isSome = true → ∃ k, (getB σ.s k).isSome = true ∧ renK D k = some k' ∧ renM D M k' = M k := fun k' hk => by
    obtain ⟨b', hb⟩ := Option.isSome_iff_exists.1 hk
    obtain ⟨k, b, h1, h2, _, h4⟩ := back k' b' hb
    exact ⟨k, by simp [h1], h2, h4⟩
  have hN : ∀ b, NS cx σ.s σ.z M w b → NS cx s (renZ D σ.z) (renM D M) w b := fun b hb => ⟨hb.1, hb.2.1, fun k' c hk hz hM => by
    obtain ⟨k, h1, h2, h3⟩ := live k' hk
    rw [h3] at hM
    exact hb.2.2 k c h1 (fun hc => hz (mem_renZ hc h2)) hM⟩
  have up : ∀ n v v' x, renV D n v = some v' → RR cx σ.s σ.z M w v x → RR cx s (renZ D σ.z) (renM D M) w v' x := fun n v v' x hv hx =>
    RepL.mono (ren_rep hD n v v' x hv hx) hN (fun b hb => ⟨hN b hb.1, hb.2⟩) (fun _ _ h => h) (fun _ _ _ _ h => h)
  have upL : ∀ n l l' xs, renL (renV D n) l = some l' → Rows2 (RR cx σ.s σ.z M w) l xs → Rows2 (RR cx s (renZ D σ.z) (renM D M) w) l' xs := fun n l l' xs hl hr => by
    obtain ⟨e1, e2⟩ := renL_spec hl
    exact ⟨by rw [e1]; exact hr.1, fun j hj hj' => up n _ _ _ (e2 j (by omega) hj) (hr.2 j (by omega) hj')⟩
  exact { os := h.os, tape := h.tape, output := h.output, size := h.size, frame := h.frame, defers := h.defers
          argM := fun i hi => h.argM i hi
          plc := fun k' hk => by
            obtain ⟨k, h1, _, h3⟩ := live k' hk
            obtain ⟨pl, hp⟩ := h.plc k h1
            exact ⟨pl, by rw [h3]; exact hp⟩
          box := fun k' b' pl hb hp => by
            obtain ⟨k, b, h1, h2, h3, h4⟩ := back k' b' hb
            rw [h4] at hp
            have hbx := h.box k b pl h1 hp
            cases b with
            | var cs =>
              simp only [renB] at h3
              split at h3
              · rename_i l hl
                simp only [Option.some.injEq] at h3; subst h3
                obtain ⟨vs, e, hh, hr, h1c⟩ := hbx
                exact ⟨vs, e, hh, upL 6 cs l _ hl hr, h1c⟩
              · cases h3
            | row e sz es =>
              simp only [renB] at h3
              split at h3
              · rename_i l hl
                simp only [Option.some.injEq] at h3; subst h3
                obtain ⟨xs, hown, hr, hsz, h1c⟩ := hbx
                obtain ⟨e1, e2, e3⟩ := renLL_spec hl
                exact ⟨xs, by rw [e1]; exact hown, upL 6 _ _ _ e2 hr, e3 sz hsz, h1c⟩
              · cases h3
          own := fun t pl ht hp => by
            obtain ⟨k, h1, h2, h3⟩ := live _ ht
            rw [h3] at hp
            cases k with
            | own u => exact h.own u pl h1 hp
            | arg i => simp [renK] at h2
          arg := fun i hi => by
            obtain ⟨k, h1, h2, h3⟩ := live _ hi
            cases k with
            | arg j => simp only [renK, Option.some.injEq, Key.arg.injEq] at h2; subst h2; exact h.arg j h1
            | own u =>
              simp only [renK] at h2
              split at h2
              · cases h2
              · split at h2 <;> cases h2
          argz := fun i hi => by
            obtain ⟨k, h1, h2⟩ := of_mem_renZ hi
            cases k with
            | arg j => exact h.argz j h1
            | own u =>
              simp only [renK] at h2
              split at h2
              · cases h2
              · split at h2 <;> cases h2
          inj := fun k1 k2 b c c' hk1 hk2 hp1 hp2 => by
            obtain ⟨j1, h1, h2, h3⟩ := live _ hk1
            obtain ⟨j2, g1, g2, g3⟩ := live _ hk2
            rw [h3] at hp1; rw [g3] at hp2
            have := h.inj j1 j2 b c c' h1 g1 hp1 hp2
            subst this
            rw [h2] at g2
            simpa using g2
          env := fun t => by
            rw [renE_get]
            cases hv : renV D 6 (getE σ.e t) with
            | none => exact .undef _
            | some v' => exact up 6 _ _ _ hv (h.env t) }
omit hD in
theorem renM_free {M : Pl} {d : Nat} (h : d ∈ D) : renM D M (.own d) = none := by simp [renM, h]
end

theorem Inv.keep {cx : Cx} {σ : St} {M : Pl} {a : Act} {w : World} (h : Inv cx σ M a w) (l : List Nat) : Inv cx { σ with e := keepE σ.e l } M a w :=
  { os := h.os, tape := h.tape, output := h.output, size := h.size, frame := h.frame, plc := h.plc, box := h.box, own := h.own, arg := h.arg, argM := h.argM, argz := h.argz, inj := h.inj, defers := h.defers
    env := fun t => by
      rcases getE_keep σ.e l t with he | he
      · rw [he]; exact h.env t
      · rw [he]; exact .undef _ }
end Go.Proofs.Ytopgmopdjiahmaa.Lg

/- Code as a whole. Conditions: none; plain definitions and lemmas. -/
set_option linter.unusedVariables false
set_option linter.unusedSimpArgs false
set_option linter.unusedSectionVars false
namespace Go.Proofs.Ytopgmopdjiahmaa.Lg
open Go Go.RowKit

/-! ### What is kept behind a group: temporaries, own boxes -/
def argsOf : List (Key × Box) → List (Key × Box)
  | [] => []
  | (.arg i, b) :: r => (.arg i, b) :: argsOf r
  | (.own _, _) :: r => argsOf r
def ownsOf (s : List (Key × Box)) : List Nat → List (Key × Box)
  | [] => []
  | d :: r => match getB s (.own d) with
    | some b => (.own d, b) :: ownsOf s r
    | none => ownsOf s r
def keepS (s : List (Key × Box)) (l : List Nat) : List (Key × Box) := argsOf s ++ ownsOf s l
def keepZ (z : List Key) : List Nat → List Key
  | [] => []
  | d :: r => if .own d ∈ z then .own d :: keepZ z r else keepZ z r
theorem getB_argsOf (s : List (Key × Box)) (k : Key) : getB (argsOf s) k = match k with | .arg _ => getB s k | .own _ => none := by
  induction s with
  | nil => cases k <;> rfl
  | cons x s ih =>
    obtain ⟨k', b⟩ := x
    cases k' with
    | arg i =>
      cases k with
      | arg j =>
        simp only [argsOf, getB]
        split
        · rfl
        · exact ih
      | own t => simp only [argsOf, getB]; simpa using ih
    | own u =>
      cases k with
      | arg j => simp only [argsOf, getB]; simpa using ih
      | own t => simp only [argsOf]; exact ih
theorem getB_ownsOf (s : List (Key × Box)) : ∀ (l : List Nat) (k : Key) (b : Box), getB (ownsOf s l) k = some b → getB s k = some b ∧ ∃ d ∈ l, k = .own d
  | [], k, b, h => by simp [ownsOf, getB] at h
  | d :: r, k, b, h => by
    simp only [ownsOf] at h
    split at h
    · rename_i b' hb
      simp only [getB] at h
      split at h
      · rename_i he
        simp only [Option.some.injEq] at h; subst h; subst he
        exact ⟨hb, d, List.mem_cons_self, rfl⟩
      · obtain ⟨h1, d', h2, h3⟩ := getB_ownsOf s r k b h
        exact ⟨h1, d', List.mem_cons_of_mem _ h2, h3⟩
    · obtain ⟨h1, d', h2, h3⟩ := getB_ownsOf s r k b h
      exact ⟨h1, d', List.mem_cons_of_mem _ h2, h3⟩
theorem getB_append (s s' : List (Key × Box)) (k : Key) : getB (s ++ s') k = match getB s k with | some b => some b | none => getB s' k := by
  induction s with
  | nil => rfl
  | cons x s ih =>
    obtain ⟨k', b⟩ := x
    simp only [List.cons_append, getB]
    split
    · rfl
    · exact ih
theorem getB_keepS {s : List (Key × Box)} {l : List Nat} {k : Key} {b : Box} (h : getB (keepS s l) k = some b) : getB s k = some b ∧ ((∃ i, k = .arg i) ∨ ∃ d ∈ l, k = .own d) := by
  unfold keepS at h
  rw [getB_append, getB_argsOf] at h
  cases k with
  | arg i =>
    simp only at h
    split at h
    · rename_i b' hb
      simp only [Option.some.injEq] at h; subst h
      exact ⟨hb, .inl ⟨i, rfl⟩⟩
    · obtain ⟨_, d, _, hd⟩ := getB_ownsOf s l _ b h
      cases hd
  | own t =>
    obtain ⟨h1, h2⟩ := getB_ownsOf s l _ b h
    exact ⟨h1, .inr h2⟩
theorem mem_keepZ (z : List Key) : ∀ (l : List Nat) (k : Key), k ∈ keepZ z l ↔ k ∈ z ∧ ∃ d ∈ l, k = .own d
  | [], k => by simp [keepZ]
  | d :: r, k => by
    simp only [keepZ]
    split
    · rename_i h
      rw [List.mem_cons, mem_keepZ z r k]
      constructor
      · rintro (rfl | ⟨h1, d', h2, h3⟩)
        · exact ⟨h, d, List.mem_cons_self, rfl⟩
        · exact ⟨h1, d', List.mem_cons_of_mem _ h2, h3⟩
      · rintro ⟨h1, d', h2, h3⟩
        rcases List.mem_cons.1 h2 with rfl | h2
        · exact .inl h3
        · exact .inr ⟨h1, d', h2, h3⟩
    · rename_i h
      rw [mem_keepZ z r k]
      constructor
      · rintro ⟨h1, d', h2, h3⟩
        exact ⟨h1, d', List.mem_cons_of_mem _ h2, h3⟩
      · rintro ⟨h1, d', h2, h3⟩
        rcases List.mem_cons.1 h2 with rfl | h2
        · subst h3; exact absurd h1 h
        · exact ⟨h1, d', h2, h3⟩
theorem Inv.keepS {cx : Cx} {σ : St} {M : Pl} {a : Act} {w : World} (h : Inv cx σ M a w) (l : List Nat) : Inv cx ⟨σ.e, Lg.keepS σ.s l, keepZ σ.z l⟩ M a w := by
  have live : ∀ k, (getB (Lg.keepS σ.s l) k).isSome = true → (getB σ.s k).isSome = true ∧ ((∃ i, k = .arg i) ∨ ∃ d ∈ l, k = .own d) := fun k hk => by
    obtain ⟨b, hb⟩ := Option.isSome_iff_exists.1 hk
    obtain ⟨h1, h2⟩ := getB_keepS hb
    exact ⟨by simp [h1], h2⟩
  have hN : ∀ b, NS cx σ.s σ.z M w b → NS cx (Lg.keepS σ.s l) (keepZ σ.z l) M w b := fun b hb => ⟨hb.1, hb.2.1, fun k c hk hz hM => by
    obtain ⟨h1, h2⟩ := live k hk
    refine hb.2.2 k c h1 (fun hc => ?_) hM
    rcases h2 with ⟨i, rfl⟩ | h2
    · exact h.argz i hc
    · exact hz ((mem_keepZ _ _ _).2 ⟨hc, h2⟩)⟩
  have up : ∀ v x, RR cx σ.s σ.z M w v x → RR cx (Lg.keepS σ.s l) (keepZ σ.z l) M w v x := fun v x hx => RR.up hN (fun _ _ h => h) (fun _ _ => rfl) hx
  exact { os := h.os, tape := h.tape, output := h.output, size := h.size, frame := h.frame, argM := h.argM, defers := h.defers
          plc := fun k hk => h.plc k (live k hk).1
          box := fun k b pl hk hM => (h.box k b pl (getB_keepS hk).1 hM).up up rfl
          own := fun t pl ht hp => h.own t pl (live _ ht).1 hp
          arg := fun i hi => h.arg i (live _ hi).1
          argz := fun i hi => h.argz i ((mem_keepZ _ _ _).1 hi).1
          inj := fun k k' b c c' hk hk' => h.inj k k' b c c' (live _ hk).1 (live _ hk').1
          env := fun t => up _ _ (h.env t) }

inductive MC where
  | skip
  | reg (ms : List MG) (dr : Option (List (Nat × Nat))) (kp : Option (List Nat × List Nat))
  | seq (a b : MC)
  | cond (c : Opd) (x y : MC)
  | block (id : Nat) (b : MC)
  | loop (b : MC)
  | exit (id : Nat)
  | ret

structure Tb where
  anc : List (Nat × List (List Nat) × List (Nat × Nat))
  kp : List (Nat × List Nat × List Nat)

def findT {α : Type} : List (Nat × α) → Nat → Option α
  | [], _ => none
  | (d, l) :: r, n => if d = n then some l else findT r n
def nodupB : List Nat → Bool
  | [] => true
  | a :: r => !(r.contains a) && nodupB r
theorem nodupB_spec : ∀ {l : List Nat}, nodupB l = true → l.Nodup
  | [], _ => List.nodup_nil
  | a :: r, h => by
    simp only [nodupB, Bool.and_eq_true, Bool.not_eq_true'] at h
    refine List.nodup_cons.2 ⟨fun hc => ?_, nodupB_spec h.2⟩
    have := h.1
    simp [hc] at this

def trC (P : Program) (H : Hints) (tb : Tb) (n : Nat) : Code → Option MC
  | .skip => some .skip
  | .region id ops draw => match trGs P H ops n ops.toList with
    | some ms => if nodupB (dsts ms) = true then
        if draw then match findT tb.anc id with
          | some (anc, pr) => if drawOk ops ms anc pr = true then some (.reg ms (some pr) (findT tb.kp id)) else none
          | none => none
        else some (.reg ms none (findT tb.kp id))
      else none
    | none => none
  | .seq a b => match trC P H tb n a, trC P H tb n b with
    | some a, some b => some (.seq a b)
    | _, _ => none
  | .cond c x y => match trX c, trC P H tb n x, trC P H tb n y with
    | some c, some x, some y => some (.cond c x y)
    | _, _, _ => none
  | .block id b => match trC P H tb n b with
    | some b => some (.block id b)
    | none => none
  | .loop b => match trC P H tb n b with
    | some b => some (.loop b)
    | none => none
  | .exit id => some (.exit id)
  | .ret => some .ret
  | _ => none

inductive AEx where
  | normal
  | exit (id : Nat)
  | ret
  | pan (t : TypeId)

def AEx.calm : AEx → Bool
  | .pan _ => false
  | _ => true
def Then (K : St → Prop) (Q : AEx → St → Prop) : AEx → St → Prop
  | .normal, σ => K σ
  | e, σ => Q e σ
def InB (id : Nat) (Q : AEx → St → Prop) : AEx → St → Prop
  | .exit j, σ => if j = id then Q .normal σ else Q (.exit j) σ
  | e, σ => Q e σ
def newsL (ms : List MG) : List Nat := ms.filterMap fun m => m.o.news
def St.keep (σ : St) : Option (List Nat × List Nat) → St
  | none => σ
  | some (l, k) => ⟨keepE σ.e l, keepS σ.s k, keepZ σ.z k⟩
def KReg (kp : Option (List Nat × List Nat)) (Q : AEx → St → Prop) (σ : St) (_ : List Eff) : Prop := Q .normal (σ.keep kp)
def KDraw (pr : List (Nat × Nat)) (kp : Option (List Nat × List Nat)) (Q : AEx → St → Prop) (σ : St) (es : List Eff) : Prop := dynOk es pr = true ∧ Q .normal (σ.keep kp)
def KPan (Q : AEx → St → Prop) (t : TypeId) (σ : St) : Prop := Q (.pan t) σ
def KNo (_ : TypeId) (_ : St) : Prop := False

def awp (P : Program) : MC → (AEx → St → Prop) → St → Prop
  | .skip, Q, σ => Q .normal σ
  | .reg ms dr kp, Q, σ => match σ.prep (newsL ms) with
    | some σ => match dr with
      | none => awpOps P ms σ [] (KReg kp Q) (KPan Q)
      | some pr => awpOps P ms σ [] (KDraw pr kp Q) KNo
    | none => False
  | .seq a b, Q, σ => awp P a (Then (awp P b Q) Q) σ
  | .cond c x y, Q, σ => match σ.ev c with
    | .imm _ (.bool t) => (t = true → awp P x Q σ) ∧ (t = false → awp P y Q σ)
    | _ => False
  | .block id b, Q, σ => awp P b (InB id Q) σ
  | .loop b, Q, σ => ∃ I : Nat → St → Prop, (∃ n, I n σ) ∧ ∀ n σ, I n σ → awp P b (Then (fun σ' => ∃ n', n' < n ∧ I n' σ') Q) σ
  | .exit id, Q, σ => Q (.exit id) σ
  | .ret, Q, σ => Q .ret σ

def toX : AEx → Exit
  | .normal => .normal
  | .exit id => .exit id
  | .ret => .ret
  | .pan t => .panic [{ v := .iface t (.agg #[]), recovered := false }]

section
variable {P : Program} {cx : Cx} {H : Hints} {tb : Tb} {n : Nat}

theorem Chain.at {ms : List MG} {Es : Nat → Eff} : ∀ {l : List Nat} {σ : St}, Chain P ms Es l σ → ∀ i ∈ l, ∃ σ' m, ms[i]? = some m ∧ SatG P σ' m (Es i) none
  | [], _, _, i, hi => by cases hi
  | j :: r, σ, h, i, hi => by
    rcases List.mem_cons.1 hi with rfl | hi
    · obtain ⟨⟨m, hm, hs⟩, _⟩ := h; exact ⟨σ, m, hm, hs⟩
    · exact Chain.at h.2 i hi

theorem reg_sound (hm : P.follows .mixedOrders = true) {id : Nat} {ops : Array Oper} {draw : Bool} {ms : List MG} {dr : Option (List (Nat × Nat))} {kp : Option (List Nat × List Nat)} (hms : trGs P H ops n ops.toList = some ms) (hnd : (dsts ms).Nodup)
    (hdr : (draw = false ∧ dr = none) ∨ ∃ anc pr, draw = true ∧ dr = some pr ∧ drawOk ops ms anc pr = true)
    {Q : AEx → St → Prop} {QA : Exit → Act → World → Prop} (hQ : ∀ e σ M a w, Q e σ → Inv cx σ M a w → (e.calm = true → a.tmps.size = n) → QA (toX e) a w)
    {σ : St} {M : Pl} {a : Act} {w : World} (h : awp P (.reg ms dr kp) Q σ) (hI : Inv cx σ M a w) (hn : a.tmps.size = n) : (Code.region id ops draw).wp P QA a w := by
  obtain ⟨hlen, hspec⟩ := trGs_spec hms
  have hlen' : ms.length = ops.size := by simpa using hlen
  have htr : ∀ (i : Nat) (o : Oper), ops[i]? = some o → ∃ m : MG, ms[i]? = some m ∧ trG P H ops o = some m ∧ m.o.dst = o.dst ∧ ∀ d, o.dst = some d → d < n := by
    intro i o ho
    have hi : i < ops.size := (Array.getElem?_eq_some_iff.1 ho).1
    have hi' : i < ms.length := by omega
    obtain ⟨h1, h2, h3⟩ := hspec i (by simpa using hi) hi'
    have e : ops.toList[i]'(by simpa using hi) = o := by
      have := (Array.getElem?_eq_some_iff.1 ho).2
      simpa using this
    rw [e] at h1 h2 h3
    exact ⟨ms[i], List.getElem?_eq_getElem hi', h1, h3, fun d hd => (h2 d hd).1⟩
  have hlt : ∀ d ∈ newsL ms, d < 1000 := by
    intro d hd
    obtain ⟨m, hmem, hnew⟩ := List.mem_filterMap.1 hd
    obtain ⟨i, hi, rfl⟩ := List.mem_iff_getElem.1 hmem
    obtain ⟨_, h2, h3⟩ := hspec i (by omega) hi
    have := news_dst hnew
    rw [h3] at this
    exact (h2 d this).2
  simp only [awp] at h
  split at h
  · rename_i σ1 hp
    -- the renamed beginning
    have hpre : ∃ M1, Inv cx σ1 M1 a w ∧ ∀ d ∈ newsL ms, M1 (.own d) = none := by
      by_cases hD : newsL ms = []
      · rw [hD] at hp
        simp only [St.prep, Option.some.injEq] at hp
        subst hp
        exact ⟨M, hI, by rw [hD]; intro d hd; cases hd⟩
      · exact ⟨renM (newsL ms) M, hI.prep hlt hp hD, fun d hd => renM_free hd⟩
    obtain ⟨M1, hI1, hfree⟩ := hpre
    have hfree' : ∀ (j : Nat) (m : MG) (d : Nat), ms[j]? = some m → m.o.news = some d → M1 (.own d) = none := fun j m d h1 h2 => hfree d (List.mem_filterMap.2 ⟨m, List.mem_of_getElem? h1, h2⟩)
    have hkeep : ∀ σ' M a w, Inv cx σ' M a w → Inv cx (σ'.keep kp) M a w := fun σ' M a w hI => by
      cases kp with
      | none => exact hI
      | some p => exact (hI.keep p.1).keepS p.2
    rcases hdr with ⟨rfl, rfl⟩ | ⟨anc, pr, rfl, rfl, hdo⟩
    · refine wp_region ?_
      have e : List.range ops.size = List.range' 0 ms.length := by rw [hlen', List.range_eq_range']
      rw [e]
      exact seq_sound htr hlen' hnd (fun σ' es M' a' w' hk hI' hn' => hQ .normal _ M' a' w' hk (hkeep _ _ _ _ hI') fun _ => hn') (fun t σ' M' a' w' hk hI' => hQ (.pan t) σ' M' a' w' hk hI' fun hc => nomatch hc)
        ms 0 σ1 [] M1 a w rfl h hI1 hn (fun j m d _ h1 h2 => hfree' j m d h1 h2)
    · refine wp_region_any hm ?_
      obtain ⟨es, h1, _, hch, hdyn, hK⟩ := chain_of_awp (P := P) (ms := ms) ms 0 σ1 [] rfl rfl h
      have hel : es.length = ops.size := by omega
      have hch' : Chain P ms (fun i => es.getD i (undefEff (.pan (.t 0)))) (List.range ops.size) σ1 := by
        rw [List.range_eq_range', ← hlen']; exact hch
      refine any_sound htr hdo hnd hel hdyn ops.size (List.range ops.size) _ σ1 M1 a _ (by simp) List.pairwise_lt_range (fun i => ?_) (by simp) (fun i o ho hl => ?_) hch' hI1.drew hn (fun i _ m d h1 h2 => hfree' i m d h1 h2) (fun i hi m hm' hw => ?_) (fun σ' M' a' w' hs hI' hn' => ?_)
      · constructor
        · intro hi
          have hi : i < ops.size := List.mem_range.1 hi
          exact ⟨hi, by simp [hi]⟩
        · rintro ⟨hi, _⟩
          exact List.mem_range.2 hi
      · have hi : i < ops.size := (Array.getElem?_eq_some_iff.1 ho).1
        simp [hi] at hl
      · obtain ⟨σ2, m2, hm2, hs2⟩ := hch'.at i hi
        rw [hm'] at hm2
        simp only [Option.some.injEq] at hm2; subst hm2
        exact hs2.wr hw
      · refine hQ .normal _ M' a' w' hK (hkeep _ _ _ _ ?_) fun _ => hn'
        refine hI'.same ?_
        have e : fin (fun j => es.getD j dfltEff) (List.range' 0 ms.length) σ1 = fin (fun i => es.getD i (undefEff (.pan (.t 0)))) (List.range ops.size) σ1 := by
          rw [List.range_eq_range', ← hlen']; rfl
        rw [e]
        exact hs.symm
  · cases h

theorem awp_sound (hm : P.follows .mixedOrders = true) : ∀ (c : Code) (mc : MC), trC P H tb n c = some mc → ∀ (Q : AEx → St → Prop) (QA : Exit → Act → World → Prop), (∀ e σ M a w, Q e σ → Inv cx σ M a w → (e.calm = true → a.tmps.size = n) → QA (toX e) a w) →
    ∀ (σ : St) (M : Pl) (a : Act) (w : World), awp P mc Q σ → Inv cx σ M a w → a.tmps.size = n → c.wp P QA a w := by
  intro c
  induction c with
  | skip =>
    intro mc htr Q QA hQ σ M a w h hI hn
    simp only [trC, Option.some.injEq] at htr; subst htr
    exact wp_skip (hQ .normal σ M a w h hI fun _ => hn)
  | region id ops draw =>
    intro mc htr Q QA hQ σ M a w h hI hn
    simp only [trC] at htr
    split at htr
    · rename_i ms hms
      split at htr
      · rename_i hnd
        split at htr
        · rename_i hdraw
          split at htr
          · rename_i anc pr hf
            split at htr
            · rename_i hdo
              simp only [Option.some.injEq] at htr; subst htr
              exact reg_sound hm hms (nodupB_spec hnd) (.inr ⟨anc, pr, hdraw, rfl, hdo⟩) hQ h hI hn
            · cases htr
          · cases htr
        · rename_i hdraw
          simp only [Option.some.injEq] at htr; subst htr
          exact reg_sound hm hms (nodupB_spec hnd) (.inl ⟨by simpa using hdraw, rfl⟩) hQ h hI hn
      · cases htr
    · cases htr
  | seq x y ihx ihy =>
    intro mc htr Q QA hQ σ M a w h hI hn
    simp only [trC] at htr
    split at htr
    · rename_i mx my hx hy
      simp only [Option.some.injEq] at htr; subst htr
      refine wp_seq (ihx mx hx (Then (awp P my Q) Q) _ (fun e σ' M' a' w' hq hI' hn' => ?_) σ M a w h hI hn)
      cases e with
      | normal => exact ihy my hy Q QA hQ σ' M' a' w' hq hI' (hn' rfl)
      | exit id => exact hQ (.exit id) σ' M' a' w' hq hI' hn'
      | ret => exact hQ .ret σ' M' a' w' hq hI' hn'
      | pan t => exact hQ (.pan t) σ' M' a' w' hq hI' hn'
    · cases htr
  | cond c x y ihx ihy =>
    intro mc htr Q QA hQ σ M a w h hI hn
    simp only [trC] at htr
    split at htr
    · rename_i mo mx my hc hx hy
      simp only [Option.some.injEq] at htr; subst htr
      simp only [awp] at h
      split at h
      · rename_i f t hev
        have hR := trX_rep hI hc
        rw [hev] at hR
        have hv := hR.bool_inv
        exact wp_cond_split hv (fun ht => ihx mx hx Q QA hQ σ M a w (h.1 ht) hI hn) (fun ht => ihy my hy Q QA hQ σ M a w (h.2 ht) hI hn)
      · cases h
    · cases htr
  | block id b ih =>
    intro mc htr Q QA hQ σ M a w h hI hn
    simp only [trC] at htr
    split at htr
    · rename_i mb hb
      simp only [Option.some.injEq] at htr; subst htr
      refine wp_block (ih mb hb (InB id Q) _ (fun e σ' M' a' w' hq hI' hn' => ?_) σ M a w h hI hn)
      cases e with
      | normal => exact hQ .normal σ' M' a' w' hq hI' hn'
      | exit j =>
        simp only [InB] at hq
        simp only [toX, Exit.inBlock]
        split at hq
        · rename_i he
          rw [if_pos he]
          exact hQ .normal σ' M' a' w' hq hI' fun _ => hn' rfl
        · rename_i he
          rw [if_neg he]
          exact hQ (.exit j) σ' M' a' w' hq hI' hn'
      | ret => exact hQ .ret σ' M' a' w' hq hI' hn'
      | pan t => exact hQ (.pan t) σ' M' a' w' hq hI' hn'
    · cases htr
  | loop b ih =>
    intro mc htr Q QA hQ σ M a w h hI hn
    simp only [trC] at htr
    split at htr
    · rename_i mb hb
      simp only [Option.some.injEq] at htr; subst htr
      obtain ⟨I, ⟨k, hk⟩, hround⟩ := h
      refine wp_loop_ghost (fun k a w => ∃ σ M, I k σ ∧ Inv cx σ M a w ∧ a.tmps.size = n) k ⟨σ, M, hk, hI, hn⟩ fun k a w hJ => ?_
      obtain ⟨σ, M, hk, hI, hn⟩ := hJ
      refine ih mb hb _ _ (fun e σ' M' a' w' hq hI' hn' => ?_) σ M a w (hround k σ hk) hI hn
      cases e with
      | normal =>
        obtain ⟨k', hlt, hk'⟩ := hq
        exact ⟨k', hlt, σ', M', hk', hI', hn' rfl⟩
      | exit id => exact hQ (.exit id) σ' M' a' w' hq hI' hn'
      | ret => exact hQ .ret σ' M' a' w' hq hI' hn'
      | pan t => exact hQ (.pan t) σ' M' a' w' hq hI' hn'
    · cases htr
  | exit id =>
    intro mc htr Q QA hQ σ M a w h hI hn
    simp only [trC, Option.some.injEq] at htr; subst htr
    exact wp_exit (hQ (.exit id) σ M a w h hI fun _ => hn)
  | ret =>
    intro mc htr Q QA hQ σ M a w h hI hn
    simp only [trC, Option.some.injEq] at htr; subst htr
    exact wp_ret (hQ .ret σ M a w h hI fun _ => hn)
  | rangeFunc f ps x y _ _ => intro mc htr; simp [trC] at htr
  | scope b _ => intro mc htr; simp [trC] at htr
  | label l => intro mc htr; simp [trC] at htr
  | goto l => intro mc htr; simp [trC] at htr
  | refuse s => intro mc htr; simp [trC] at htr
end
end Go.Proofs.Ytopgmopdjiahmaa.Lg

/- A function as a whole: from its text's law to what a call does. Conditions: none; plain definitions and lemmas. -/
set_option linter.unusedVariables false
set_option linter.unusedSimpArgs false
set_option linter.unusedSectionVars false
namespace Go.Proofs.Ytopgmopdjiahmaa.Lg
open Go Go.RowKit

inductive MR where
  | t (n : Nat)
  | c (n : Nat) (sz : Option Nat)
def trR (P : Program) : List ResultVar → Option (List MR)
  | [] => some []
  | .tmp t :: r => match trR P r with
    | some l => some (.t t :: l)
    | none => none
  | .cell a ty :: r => match nOf P ty, trR P r with
    | some n, some l => some (.c a n :: l)
    | _, _ => none
def resLV (σ : St) : MR → Option LV
  | .t n => some (σ.get n)
  | .c n sz => match σ.get n with
    | .imm f (.ptr cs off) => partI f cs off sz
    | .loc k off => match getB σ.s k with
      | some b => partOf b.flat off sz
      | none => none
    | _ => none
def resLVs (σ : St) : List MR → Option (List LV)
  | [] => some []
  | r :: l => match resLV σ r, resLVs σ l with
    | some v, some vs => some (v :: vs)
    | _, _ => none
def outLV : List LV → LV
  | [v] => v
  | l => .tup l
def finV (σ : St) (rs : List MR) : Option (Bool × IV) := match resLVs σ rs with
  | some l => res σ.s depth0 (outLV l)
  | none => none

/-- What a lent variable holds in the end. -/
def settle (s : List (Key × Box)) (na : Nat) : Nat → LV → Option LV
  | 0, _ => none
  | _ + 1, .nils => some .nils
  | _ + 1, .loc (.arg i) off => if i < na then some (.loc (.arg i) off) else none
  | n + 1, .fn f caps => match lendL (settle s na n) caps with
    | some l => some (.fn f l)
    | none => none
  | _ + 1, lv => match res s depth0 lv with
    | some (_, v) => some (.imm false v)
    | none => none
def storeOut (s : List (Key × Box)) (na : Nat) : Nat → Nat → Option (List (List LV))
  | _, 0 => some []
  | i, k + 1 => match getB s (.arg i) with
    | some (.var cs) => match lendL (settle s na 4) cs, storeOut s na (i + 1) k with
      | some c, some l => some (c :: l)
      | _, _ => none
    | _ => none
def OutIs (o : Out) (f' : Bool) (v' : IV) : Prop := match o with
  | .ret f v => v = v' ∧ (f = true → f' = true)
  | .pan _ => False
def FinV (o : Out) : Option (Bool × IV) → Prop
  | some (f, v) => OutIs o f v
  | none => False
def Fin (rs : List MR) (o : Out) (S' : List (List LV)) : AEx → St → Prop
  | .normal, σ | .ret, σ => FinV o (finV σ rs) ∧ storeOut σ.s S'.length 0 S'.length = some S'
  | .pan t, σ => o = .pan t ∧ storeOut σ.s S'.length 0 S'.length = some S'
  | .exit _, _ => False

def numE : Nat → List LV → List (Nat × LV)
  | _, [] => []
  | i, v :: r => (i, v) :: numE (i + 1) r
theorem getE_numE : ∀ (l : List LV) (i t : Nat), getE (numE i l) t = if i ≤ t then l.getD (t - i) .undef else .undef
  | [], i, t => by simp [numE, getE]
  | v :: r, i, t => by
    simp only [numE, getE]
    by_cases h : i = t
    · subst h; simp
    · rw [if_neg h, getE_numE r (i + 1) t]
      by_cases h2 : i ≤ t
      · rw [if_pos h2, if_pos (by omega)]
        have : t - i = (t - (i + 1)) + 1 := by omega
        rw [this]; simp
      · rw [if_neg h2, if_neg (by omega)]

def rdV (tm : Array Value) : ResultVar → Sem Value
  | .tmp t => pure (tm.getD t undef)
  | .cell a t => do loadVar t (← asAddr (tm.getD a undef))

section
variable {P : Program} {cx : Cx} {σ : St} {M : Pl} {a : Act} {w : World}

theorem resLV_sound (h : Inv cx σ M a w) {r : MR} {v : ResultVar} {lv : LV} (htr : trR P [v] = some [r]) (hr : resLV σ r = some lv) :
    ∃ x, (rdV a.tmps v).run P w = .ok x w ∧ RR cx σ.s σ.z M w lv x := by
  cases v with
  | tmp t =>
    simp only [trR, Option.some.injEq, List.cons.injEq, and_true] at htr
    subst htr
    simp only [resLV, Option.some.injEq] at hr; subst hr
    exact ⟨a.tmps.getD t undef, by simp [rdV], h.env t⟩
  | cell b t =>
    simp only [trR] at htr
    split at htr
    · rename_i n l hn hl
      simp only [Option.some.injEq] at hl htr; subst hl
      simp only [List.cons.injEq, and_true] at htr; subst htr
      simp only [resLV] at hr
      have henv := h.env b
      split at hr
      · rename_i f cs off hg
        simp only [St.get] at hg
        rw [hg] at henv
        obtain ⟨b', o', v, hx', hv, hRv⟩ := load_imm (P := P) henv hn hr
        exact ⟨v, by simp only [rdV]; rw [hx']; simp [asAddr, hv], hRv⟩
      · rename_i k off hg
        simp only [St.get] at hg
        rw [hg] at henv
        split at hr
        · rename_i bx hb
          obtain ⟨b', o', v, hx', hv, hRv⟩ := load_loc (P := P) h henv hb hn hr
          exact ⟨v, by simp only [rdV]; rw [hx']; simp [asAddr, hv], hRv⟩
        · cases hr
      · cases hr
    · cases htr

theorem resLVs_sound (h : Inv cx σ M a w) : ∀ {vs : List ResultVar} {rs : List MR} {ls : List LV}, trR P vs = some rs → resLVs σ rs = some ls →
    ∃ xs, (vs.mapM (rdV a.tmps)).run P w = .ok xs w ∧ Rows2 (RR cx σ.s σ.z M w) ls xs
  | [], rs, ls, htr, hr => by
    simp only [trR, Option.some.injEq] at htr; subst htr
    simp only [resLVs, Option.some.injEq] at hr; subst hr
    exact ⟨[], by simp, .nil⟩
  | v :: vs, rs, ls, htr, hr => by
    have hsplit : ∃ r rs', rs = r :: rs' ∧ trR P [v] = some [r] ∧ trR P vs = some rs' := by
      cases v with
      | tmp t =>
        simp only [trR] at htr
        split at htr
        · rename_i l hl
          simp only [Option.some.injEq] at htr
          exact ⟨_, _, htr.symm, rfl, hl⟩
        · cases htr
      | cell b t =>
        simp only [trR] at htr
        split at htr
        · rename_i n l hn hl
          simp only [Option.some.injEq] at htr
          exact ⟨_, _, htr.symm, by simp [trR, hn], hl⟩
        · cases htr
    obtain ⟨r, rs', rfl, h1, h2⟩ := hsplit
    simp only [resLVs] at hr
    split at hr
    · rename_i lv lvs e1 e2
      simp only [Option.some.injEq] at hr; subst hr
      obtain ⟨x, hx, hRx⟩ := resLV_sound h h1 e1
      obtain ⟨xs, hxs, hRxs⟩ := resLVs_sound h h2 e2
      refine ⟨x :: xs, ?_, .cons hRx hRxs⟩
      rw [List.mapM_cons]
      simp only [Sem.run_bind, hx, Result.andThen_ok, hxs, Sem.run_pure]
    · cases hr

theorem results_sound (h : Inv cx σ M a w) {fn : Func} {rs : List MR} {ls : List LV} (htr : trR P fn.results.toList = some rs) (hr : resLVs σ rs = some ls) :
    ∃ x, (results fn a.tmps).run P w = .ok x w ∧ RR cx σ.s σ.z M w (outLV ls) x := by
  obtain ⟨xs, hxs, hR⟩ := resLVs_sound h htr hr
  have hx2 : (fn.results.mapM (rdV a.tmps)).run P w = .ok xs.toArray w := by
    rw [Array.mapM_eq_mapM_toList]
    simp [hxs]
  refine ⟨if h : xs.toArray.size = 1 then xs.toArray[0] else .tuple xs.toArray, ?_, ?_⟩
  · show (do let vs ← fn.results.mapM (rdV a.tmps); pure (if h : vs.size = 1 then vs[0] else .tuple vs) : Sem Value).run P w = _
    simp only [Sem.run_bind, hx2, Result.andThen_ok, Sem.run_pure]
  · split
    · rename_i h1
      have : ∃ x, xs = [x] := List.length_eq_one_iff.1 (by simpa using h1)
      obtain ⟨x, rfl⟩ := this
      have : ∃ l, ls = [l] := List.length_eq_one_iff.1 (by rw [← hR.1]; rfl)
      obtain ⟨l, rfl⟩ := this
      exact hR.2 0 (by simp) (by simp)
    · rename_i h1
      have : outLV ls = .tup ls := by
        match ls, hR.1 with
        | [], _ => rfl
        | [l], hl => exact absurd (by simpa using hl) h1
        | _ :: _ :: _, _ => rfl
      rw [this]
      exact .tup ls xs hR.1 hR.2

theorem storeOut_spec {s : List (Key × Box)} {na : Nat} : ∀ {i k : Nat} {S' : List (List LV)}, storeOut s na i k = some S' → S'.length = k ∧ ∀ j (h : j < S'.length), ∃ cs, getB s (.arg (i + j)) = some (.var cs) ∧ lendL (settle s na 4) cs = some S'[j]
  | i, 0, S', h => by simp only [storeOut, Option.some.injEq] at h; subst h; exact ⟨rfl, fun j h => by simp at h⟩
  | i, k + 1, S', h => by
    simp only [storeOut] at h
    split at h
    · rename_i cs hb
      split at h
      · rename_i c l e1 e2
        simp only [Option.some.injEq] at h; subst h
        obtain ⟨h1, h2⟩ := storeOut_spec e2
        refine ⟨by simp [h1], fun j hj => ?_⟩
        cases j with
        | zero => exact ⟨cs, hb, e1⟩
        | succ j =>
          obtain ⟨cs', h3, h4⟩ := h2 j (by simpa using hj)
          exact ⟨cs', by rw [← h3]; congr 2; omega, h4⟩
      · cases h
    · cases h

section
variable {M0 : Pl} {S' : List (List LV)} (h : Inv cx σ M a w) (hna : cx.na = S'.length) (hM0 : ∀ i, i < cx.na → ∃ c, M0 (.arg i) = some (cx.m i, c)) (hS : storeOut σ.s S'.length 0 S'.length = some S')
include h hna hM0 hS

theorem fin_NS {l : List Key} (hl : ∀ k ∈ l, k.isOwn = true) {b : Nat} (hb : NS cx σ.s (addZ l σ.z) M w b) : NS cx (argS 0 S') [] M0 w b := by
  refine ⟨hb.1, hb.2.1, fun k c hk _ hM => ?_⟩
  obtain ⟨bx, hbx⟩ := Option.isSome_iff_exists.1 hk
  obtain ⟨i, rfl, hi, _⟩ := getB_argS S' 0 k bx hbx
  simp only [Nat.zero_add] at hM
  obtain ⟨c0, hc0⟩ := hM0 i (by omega)
  obtain ⟨c1, hc1⟩ := h.argM i (by omega)
  obtain ⟨cs, hcs, _⟩ := (storeOut_spec hS).2 i hi
  rw [hc0] at hM
  simp only [Option.some.injEq, Prod.mk.injEq] at hM
  refine hb.2.2 (.arg i) c1 (by rw [Nat.zero_add] at hcs; simp [hcs]) (fun hz => ?_) (by rw [hc1, hM.1])
  rcases (mem_addZ _ _ _).1 hz with hz | hz
  · have := hl _ hz; simp [Key.isOwn] at this
  · exact h.argz i hz

theorem fin_res {lv : LV} {f : Bool} {v : IV} {x : Value} (hr : res σ.s depth0 lv = some (f, v)) (hx : RR cx σ.s σ.z M w lv x) : RR cx (argS 0 S') [] M0 w (.imm f v) x := by
  have hl := keys_own h depth0 lv _ hr
  have := res_sound h (keys σ.s depth0 lv) depth0 lv f v x hr (fun _ hk => hk) hx
  refine RepL.imm_iff.2 ?_
  cases f
  · exact this.mono (fun b hb => fin_NS h hna hM0 hS hl hb) (fun _ _ _ _ h => h)
  · exact this.mono (fun b hb => ⟨fin_NS h hna hM0 hS hl hb.1, hb.2⟩) (fun _ _ _ _ h => h)

theorem fin_settle : ∀ (n : Nat) (lv lv' : LV) (x : Value), settle σ.s S'.length n lv = some lv' → RR cx σ.s σ.z M w lv x → RR cx (argS 0 S') [] M0 w lv' x := by
  have fb : ∀ (lv lv' : LV) (x : Value), (match res σ.s depth0 lv with | some (_, v) => some (LV.imm false v) | none => none) = some lv' → RR cx σ.s σ.z M w lv x → RR cx (argS 0 S') [] M0 w lv' x := by
    intro lv lv' x h1 hx
    split at h1
    · rename_i f v hr
      simp only [Option.some.injEq] at h1; subst h1
      have h2 := RepL.imm_iff.1 (fin_res h hna hM0 hS hr hx)
      refine RepL.imm_iff.2 ?_
      cases f
      · exact h2
      · exact h2.mono (fun b hb => hb.1) (fun _ _ _ _ h => h)
    · cases h1
  intro n
  induction n with
  | zero => intro lv lv' x h1; simp [settle] at h1
  | succ n ih =>
    intro lv lv' x h1 hx
    cases lv with
    | nils =>
      simp only [settle, Option.some.injEq] at h1; subst h1
      cases hx; exact .nils
    | loc k off =>
      cases k with
      | arg i =>
        simp only [settle] at h1
        split at h1
        · rename_i hi
          simp only [Option.some.injEq] at h1; subst h1
          cases hx with
          | loc k off b c hM =>
            obtain ⟨c0, hc0⟩ := hM0 i (by omega)
            obtain ⟨c1, hc1⟩ := h.argM i (by omega)
            rw [hc1] at hM
            simp only [Option.some.injEq, Prod.mk.injEq] at hM
            exact .loc _ _ _ c0 (by rw [hc0, hM.1])
        · cases h1
      | own t => exact fb _ _ _ (by simpa only [settle] using h1) hx
    | fn f caps =>
      simp only [settle] at h1
      split at h1
      · rename_i l hl
        simp only [Option.some.injEq] at h1; subst h1
        obtain ⟨e1, e2⟩ := lendL_spec hl
        cases hx with
        | fn f caps vs hlen hr => exact .fn f l vs (by omega) fun j hj hj' => ih _ _ _ (e2 j (by omega) hj) (hr j (by omega) hj')
      · cases h1
    | undef => exact fb _ _ _ (by simpa only [settle] using h1) hx
    | imm f v => exact fb _ _ _ (by simpa only [settle] using h1) hx
    | row k m => exact fb _ _ _ (by simpa only [settle] using h1) hx
    | agg cs => exact fb _ _ _ (by simpa only [settle] using h1) hx
    | tup cs => exact fb _ _ _ (by simpa only [settle] using h1) hx
    | unitI t => exact fb _ _ _ (by simpa only [settle] using h1) hx

theorem fin_inv (hdf : cx.dfs = []) : Inv cx ⟨[], argS 0 S', []⟩ M0 ⟨#[], []⟩ w := by
  have at_ : ∀ k b, getB (argS 0 S') k = some b → ∃ i, k = .arg i ∧ ∃ hi : i < S'.length, b = .var S'[i] := fun k b hb => by
    obtain ⟨i, rfl, hi, rfl⟩ := getB_argS S' 0 k b hb
    exact ⟨i, by simp, hi, rfl⟩
  have live : ∀ k, (getB (argS 0 S') k).isSome = true → ∃ i, k = .arg i ∧ i < S'.length := fun k hk => by
    obtain ⟨b, hb⟩ := Option.isSome_iff_exists.1 hk
    obtain ⟨i, rfl, hi, _⟩ := at_ k b hb
    exact ⟨i, rfl, hi⟩
  have box0 : ∀ i (hi : i < S'.length), ∃ cs, getB σ.s (.arg i) = some (.var cs) ∧ lendL (settle σ.s S'.length 4) cs = some S'[i] := fun i hi => by
    obtain ⟨cs, h1, h2⟩ := (storeOut_spec hS).2 i hi
    exact ⟨cs, by rw [Nat.zero_add] at h1; exact h1, h2⟩
  exact { os := h.os, tape := h.tape, output := h.output, size := h.size, frame := h.frame, defers := hdf.symm
          plc := fun k hk => by
            obtain ⟨i, rfl, hi⟩ := live k hk
            obtain ⟨c, hc⟩ := hM0 i (by omega)
            exact ⟨_, hc⟩
          box := fun k b pl hb hp => by
            obtain ⟨i, rfl, hi, rfl⟩ := at_ k b hb
            obtain ⟨cs, h1, h2⟩ := box0 i hi
            obtain ⟨c0, hc0⟩ := hM0 i (by omega)
            obtain ⟨c1, hc1⟩ := h.argM i (by omega)
            have hp' : M0 (.arg i) = some pl := hp
            rw [hc0] at hp'
            simp only [Option.some.injEq] at hp'; subst hp'
            obtain ⟨vs, e, hh, hr, h1c⟩ := h.box (.arg i) _ _ h1 hc1
            obtain ⟨e1, e2⟩ := lendL_spec h2
            exact ⟨vs, e, hh, ⟨by rw [e1]; exact hr.1, fun j hj hj' => fin_settle h hna hM0 hS 4 _ _ _ (e2 j (by omega) hj) (hr.2 j (by omega) hj')⟩, h1c⟩
          own := fun t pl ht hp => by
            obtain ⟨i, hi, _⟩ := live _ ht
            cases hi
          arg := fun i hi => by
            obtain ⟨j, hj, hlt⟩ := live _ hi
            cases hj; omega
          argM := hM0
          argz := fun i hi => nomatch hi
          inj := fun k1 k2 b c c' hk1 hk2 hp1 hp2 => by
            obtain ⟨i, rfl, hi⟩ := live k1 hk1
            obtain ⟨j, rfl, hj⟩ := live k2 hk2
            obtain ⟨ci, hci⟩ := hM0 i (by omega)
            obtain ⟨cj, hcj⟩ := hM0 j (by omega)
            obtain ⟨di, hdi⟩ := h.argM i (by omega)
            obtain ⟨dj, hdj⟩ := h.argM j (by omega)
            rw [hci] at hp1; rw [hcj] at hp2
            simp only [Option.some.injEq, Prod.mk.injEq] at hp1 hp2
            obtain ⟨cs1, g1, _⟩ := box0 i hi
            obtain ⟨cs2, g2, _⟩ := box0 j hj
            exact h.inj (.arg i) (.arg j) b di dj (by simp [g1]) (by simp [g2]) (by rw [hdi, hp1.1]) (by rw [hdj, hp2.1])
          env := fun t => .undef _ }
end

/-- From a function's text to what a call of it does. -/
theorem does_of_awp {f : FuncId} {fn : Func} {c : Code} {mc : MC} {H : Hints} {tb : Tb} {rs : List MR} (hm : P.follows .mixedOrders = true) (hf : P.funcs[f]? = some fn) (hname : (fn.name == "runtime.NumGoroutine") = false) (hb : fn.body = some c)
    (htr : trC P H tb fn.ntmps c = some mc) (hrs : trR P fn.results.toList = some rs) {args : List LV} (hargs : args.length ≤ fn.ntmps) {S S' : List (List LV)} (hSS : S'.length = S.length) {o : Out}
    (h : awp P mc (Fin rs o S') ⟨numE 0 args, argS 0 S, []⟩) : Does P f args S o S' := by
  refine ⟨⟨fn, hf, hname, by simp [hb]⟩, hSS, fun cx M vals hna hI hR => ?_⟩
  have hlen : vals.length = args.length := hR.1
  have hdf : cx.dfs = [] := hI.defers.symm
  refine calls_of_wp hf hb (awp_sound (cx := cx) hm c mc htr (Fin rs o S') _ (fun e σ' M' a' w' hq hI' hn' => ?_) _ M _ _ h ?_ (by simp; omega))
  · have hM0 : ∀ i, i < cx.na → ∃ c, M (.arg i) = some (cx.m i, c) := hI.argM
    have hret : (FinV o (finV σ' rs) ∧ storeOut σ'.s S'.length 0 S'.length = some S') → a'.defers = [] ∧ ∃ v, (results fn a'.tmps).run P w' = .ok v w' ∧ (Inv cx ⟨[], argS 0 S', []⟩ M ⟨#[], []⟩ w' ∧ Ended cx S' M w' o (.returned v)) := by
      rintro ⟨h1, h2⟩
      refine ⟨hI'.defers.trans hdf, ?_⟩
      unfold finV at h1
      split at h1
      · rename_i ls hls
        obtain ⟨x, hx, hRx⟩ := results_sound hI' hrs hls
        refine ⟨x, hx, fin_inv hI' (by omega) hM0 h2 hdf, ?_⟩
        cases hr : res σ'.s depth0 (outLV ls) with
        | none => rw [hr] at h1; exact h1.elim
        | some p =>
          obtain ⟨f', v'⟩ := p
          rw [hr] at h1
          cases o with
          | pan t => exact h1.elim
          | ret f0 v0 =>
            obtain ⟨rfl, hff⟩ := h1
            refine ⟨x, rfl, ?_⟩
            have h3 := RepL.imm_iff.1 (fin_res hI' (by omega) hM0 h2 hr hRx)
            refine RepL.imm_iff.2 ?_
            cases f0
            · cases f'
              · exact h3
              · exact h3.mono (fun b hb => hb.1) (fun _ _ _ _ h => h)
            · rw [hff rfl] at h3; exact h3
      · exact h1.elim
    cases e with
    | normal => exact hret hq
    | ret => exact hret hq
    | pan t => exact ⟨hI'.defers.trans hdf, fin_inv hI' (by omega) hM0 hq.2 hdf, by rw [hq.1]; rfl⟩
    | exit id => exact hq.elim
  · exact { os := hI.os, tape := hI.tape, output := hI.output, size := hI.size, frame := hI.frame, plc := hI.plc, box := hI.box, own := hI.own, arg := hI.arg, argM := hI.argM, argz := hI.argz, inj := hI.inj, defers := hI.defers
            env := fun t => by
              have hg : getE (numE 0 args) t = args.getD t .undef := by rw [getE_numE]; simp
              show RR cx _ _ M _ (getE (numE 0 args) t) _
              rw [hg]
              by_cases ht : t < args.length
              · have : (vals.toArray ++ Array.replicate (fn.ntmps - vals.toArray.size) undef).getD t undef = vals[t]'(by omega) := by
                  rw [Array.getD_eq_getD_getElem?, Array.getElem?_append_left (by simp; omega)]
                  simp [hlen, ht]
                rw [this]
                have e : args.getD t .undef = args[t] := by simp [List.getD_eq_getElem?_getD, ht]
                rw [e]
                exact hR.2 t ht (by omega)
              · have e : args.getD t .undef = .undef := by rw [List.getD_eq_getElem?_getD, List.getElem?_eq_none (by omega)]; rfl
                rw [e]; exact .undef _ }
end
end Go.Proofs.Ytopgmopdjiahmaa.Lg

/- Rules for working a text out. Conditions: none; plain definitions and lemmas. -/
set_option linter.unusedVariables false
namespace Go.Proofs.Ytopgmopdjiahmaa.Lg
open Go Go.RowKit

/-- A step that asks for something. -/
def Get {α : Type} (x : Option α) (K : α → Prop) : Prop := match x with
  | some a => K a
  | none => False
/-- A step that waits for its state to be worked out. -/
def Lt (σ : St) (K : St → Prop) : Prop := K σ
theorem Lt_mk {e : List (Nat × LV)} {s : List (Key × Box)} {z : List Key} {K : St → Prop} : Lt ⟨e, s, z⟩ K = K ⟨e, s, z⟩ := rfl
theorem Get_some {α : Type} {a : α} {K : α → Prop} : Get (some a) K = K a := rfl

section
variable {P : Program} {Q : AEx → St → Prop} {σ : St}
theorem awp_skip : awp P .skip Q σ = Q .normal σ := rfl
theorem awp_seq {a b : MC} : awp P (.seq a b) Q σ = awp P a (Then (awp P b Q) Q) σ := rfl
theorem awp_block {id : Nat} {b : MC} : awp P (.block id b) Q σ = awp P b (InB id Q) σ := rfl
theorem awp_exit {id : Nat} : awp P (.exit id) Q σ = Q (.exit id) σ := rfl
theorem awp_ret : awp P .ret Q σ = Q .ret σ := rfl
def CondR (P : Program) (v : LV) (x y : MC) (Q : AEx → St → Prop) (σ : St) : Prop := match v with
  | .imm _ (.bool t) => (t = true → awp P x Q σ) ∧ (t = false → awp P y Q σ)
  | _ => False
theorem CondOn_imm {f t : Bool} {x y : MC} : CondR P (.imm f (.bool t)) x y Q σ = ((t = true → awp P x Q σ) ∧ (t = false → awp P y Q σ)) := rfl
theorem CondOn_true {f : Bool} {x y : MC} : CondR P (.imm f (.bool true)) x y Q σ = awp P x Q σ := by simp [CondR]
theorem CondOn_false {f : Bool} {x y : MC} : CondR P (.imm f (.bool false)) x y Q σ = awp P y Q σ := by simp [CondR]
theorem awp_cond {t : Nat} {x y : MC} : awp P (.cond (.t t) x y) Q σ = CondR P (getE σ.e t) x y Q σ := rfl
theorem Then_normal {K : St → Prop} : Then K Q .normal σ = K σ := rfl
theorem Then_exit {K : St → Prop} {id : Nat} : Then K Q (.exit id) σ = Q (.exit id) σ := rfl
theorem Then_ret {K : St → Prop} : Then K Q .ret σ = Q .ret σ := rfl
theorem Then_pan {K : St → Prop} {t : TypeId} : Then K Q (.pan t) σ = Q (.pan t) σ := rfl
theorem InB_normal {id : Nat} : InB id Q .normal σ = Q .normal σ := rfl
theorem InB_exit {id j : Nat} : InB id Q (.exit j) σ = if j = id then Q .normal σ else Q (.exit j) σ := rfl
theorem InB_ret {id : Nat} : InB id Q .ret σ = Q .ret σ := rfl
theorem InB_pan {id : Nat} {t : TypeId} : InB id Q (.pan t) σ = Q (.pan t) σ := rfl
theorem KReg_eq {kp : Option (List Nat × List Nat)} {es : List Eff} : KReg kp Q σ es = Lt (σ.keep kp) (Q .normal) := rfl
theorem KDraw_eq {pr : List (Nat × Nat)} {kp : Option (List Nat × List Nat)} {es : List Eff} : KDraw pr kp Q σ es = (dynOk es pr = true ∧ Lt (σ.keep kp) (Q .normal)) := rfl
theorem KPan_eq {t : TypeId} : KPan Q t σ = Q (.pan t) σ := rfl
theorem Fin_ret {rs : List MR} {o : Out} {S' : List (List LV)} : Fin rs o S' .ret σ = (FinV o (finV σ rs) ∧ storeOut σ.s S'.length 0 S'.length = some S') := rfl
theorem Fin_normal {rs : List MR} {o : Out} {S' : List (List LV)} : Fin rs o S' .normal σ = (FinV o (finV σ rs) ∧ storeOut σ.s S'.length 0 S'.length = some S') := rfl
theorem Fin_pan {rs : List MR} {o : Out} {S' : List (List LV)} {t : TypeId} : Fin rs o S' (.pan t) σ = (o = .pan t ∧ storeOut σ.s S'.length 0 S'.length = some S') := rfl
theorem FinV_ret {f f' : Bool} {v v' : IV} : FinV (.ret f v) (some (f', v')) = (v = v' ∧ (f = true → f' = true)) := rfl
end

def putO (e : List (Nat × LV)) : Option (Nat × LV) → List (Nat × LV)
  | some (t, v) => putE e t v
  | none => e
section
variable {P : Program} {e : List (Nat × LV)} {s : List (Key × Box)} {z : List Key}
theorem keep_eq {l k : List Nat} : St.keep ⟨e, s, z⟩ (some (l, k)) = ⟨keepE e l, keepS s k, keepZ z k⟩ := rfl
theorem ev_t {t : Nat} : St.ev ⟨e, s, z⟩ (.t t) = getE e t := rfl
theorem ev_c {v : LV} : St.ev ⟨e, s, z⟩ (.c v) = v := rfl
theorem app_eq {d : Option (Nat × LV)} {u : List (Key × Option Box)} {zz r : List Key} : St.app ⟨e, s, z⟩ ⟨d, u, zz, r⟩ = ⟨putO e d, appU u s, addZ zz z⟩ := by
  cases d <;> rfl
theorem box_eq {k : Key} : St.box ⟨e, s, z⟩ k = getB s k := rfl
theorem get_eq {t : Nat} : St.get ⟨e, s, z⟩ t = getE e t := rfl
theorem prep_cons {d : Nat} {D : List Nat} : St.prep (d :: D) ⟨e, s, z⟩ = match renS (d :: D) s with | some s => some ⟨renE (d :: D) e, s, renZ (d :: D) z⟩ | none => none := rfl
end
theorem getE_nil {n : Nat} : getE [] n = .undef := rfl
theorem getE_cons {t n : Nat} {v : LV} {r : List (Nat × LV)} : getE ((t, v) :: r) n = if t = n then v else getE r n := rfl
theorem putE_nil {n : Nat} {v : LV} : putE [] n v = [(n, v)] := rfl
theorem putE_cons {t n : Nat} {u v : LV} {r : List (Nat × LV)} : putE ((t, u) :: r) n v = if t = n then (t, v) :: r else (t, u) :: putE r n v := rfl
theorem putO_some {e : List (Nat × LV)} {t : Nat} {v : LV} : putO e (some (t, v)) = putE e t v := rfl
theorem putO_none {e : List (Nat × LV)} : putO e none = e := rfl
theorem keepE_nil {e : List (Nat × LV)} : keepE e [] = [] := rfl
theorem keepE_cons {e : List (Nat × LV)} {n : Nat} {r : List Nat} : keepE e (n :: r) = (n, getE e n) :: keepE e r := rfl
theorem prep_nil {σ : St} : σ.prep [] = some σ := rfl

theorem ncast2 : ((2 : Nat) : Int) = 2 := rfl
theorem ncast6 : ((6 : Nat) : Int) = 6 := rfl
theorem ncast1 : ((1 : Nat) : Int) = 1 := rfl
theorem ncast0 : ((0 : Nat) : Int) = 0 := rfl
theorem plain_int {k : IntKind} {n : Int} : (IV.int k n).plain = true := rfl
theorem plain_bool {b : Bool} : (IV.bool b).plain = true := rfl
theorem plain_str {b : ByteArray} : (IV.str b).plain = true := rfl
theorem plain_nilp : IV.nilp.plain = true := rfl
theorem plain_agg {l : List IV} : (IV.agg l).plain = false := rfl
theorem plain_ptr {l : List IV} {o : Nat} : (IV.ptr l o).plain = false := rfl
theorem plain_tup {l : List IV} : (IV.tup l).plain = false := rfl
theorem plain_slice {l : List (List IV)} : (IV.slice l).plain = false := rfl

/-! values handed on -/
section
variable {s : List (Key × Box)} {n : Nat} {f : Bool}
theorem res_imm {v : IV} : res s (n + 1) (.imm f v) = some (f || v.plain, v) := rfl
theorem res_nils : res s (n + 1) .nils = some (true, .slice []) := rfl
theorem res_agg {cs : List LV} : res s (n + 1) (.agg cs) = match resL (res s n) cs with | some (f, vs) => some (f, .agg vs) | none => none := rfl
theorem res_tup {cs : List LV} : res s (n + 1) (.tup cs) = match resL (res s n) cs with | some (f, vs) => some (f, .tup vs) | none => none := rfl
theorem res_own {t off : Nat} : res s (n + 1) (.loc (.own t) off) = match getB s (.own t) with
    | some (.var cells) => match resL (res s n) cells with
      | some (f, vs) => some (f, IV.ptr vs off)
      | none => none
    | _ => none := by
  simp only [res, Key.isOwn, if_true]; generalize getB s (Key.own t) = r; rcases r with _ | ⟨_ | _⟩ <;> rfl
theorem res_row {t m : Nat} : res s (n + 1) (.row (.own t) m) = match getB s (.own t) with
    | some (.row _ _ elems) => if elems.length = m then match resLL (res s n) elems with
      | some (f, vs) => some (f, .slice vs)
      | none => none else none
    | _ => none := rfl
theorem keys_imm {v : IV} : keys s (n + 1) (.imm f v) = [] := rfl
theorem keys_nils : keys s (n + 1) .nils = [] := rfl
theorem keys_agg {cs : List LV} : keys s (n + 1) (.agg cs) = keysL (keys s n) cs := rfl
theorem keys_tup {cs : List LV} : keys s (n + 1) (.tup cs) = keysL (keys s n) cs := rfl
theorem keys_loc {k : Key} {off : Nat} : keys s (n + 1) (.loc k off) = match getB s k with | some (.var cells) => k :: keysL (keys s n) cells | _ => [k] := rfl
theorem keys_row {k : Key} {m : Nat} : keys s (n + 1) (.row k m) = match getB s k with | some (.row _ _ elems) => k :: keysLL (keys s n) elems | _ => [k] := rfl
end
theorem settle_imm {s : List (Key × Box)} {na n : Nat} {f : Bool} {v : IV} : settle s na (n + 1) (.imm f v) = some (.imm false v) := rfl
theorem settle_nils {s : List (Key × Box)} {na n : Nat} : settle s na (n + 1) .nils = some .nils := rfl
theorem settle_arg {s : List (Key × Box)} {na n i off : Nat} : settle s na (n + 1) (.loc (.arg i) off) = if i < na then some (.loc (.arg i) off) else none := rfl
theorem settle_own {s : List (Key × Box)} {na n i off : Nat} : settle s na (n + 1) (.loc (.own i) off) = match res s depth0 (.loc (.own i) off) with | some (_, v) => some (.imm false v) | none => none := rfl
theorem settle_row {s : List (Key × Box)} {na n i : Nat} {k : Key} : settle s na (n + 1) (.row k i) = match res s depth0 (.row k i) with | some (_, v) => some (.imm false v) | none => none := rfl
theorem settle_fn {s : List (Key × Box)} {na n : Nat} {f : FuncId} {caps : List LV} : settle s na (n + 1) (.fn f caps) = match lendL (settle s na n) caps with | some l => some (.fn f l) | none => none := rfl
theorem cells_agg {cs : List LV} : (LV.agg cs).cells = some cs := rfl
theorem cells_iagg {f : Bool} {cs : List IV} : (LV.imm f (.agg cs)).cells = some (cs.map (.imm f)) := rfl
theorem cells_int {f : Bool} {k : IntKind} {n : Int} : (LV.imm f (.int k n)).cells = some [.imm f (.int k n)] := rfl
theorem cells_bool {f : Bool} {b : Bool} : (LV.imm f (.bool b)).cells = some [.imm f (.bool b)] := rfl
theorem cells_str {f : Bool} {b : ByteArray} : (LV.imm f (.str b)).cells = some [.imm f (.str b)] := rfl
theorem cells_nilp {f : Bool} : (LV.imm f .nilp).cells = some [.imm f .nilp] := rfl
theorem cells_ptr {f : Bool} {l : List IV} {o : Nat} : (LV.imm f (.ptr l o)).cells = some [.imm f (.ptr l o)] := rfl
theorem cells_slice {f : Bool} {l : List (List IV)} : (LV.imm f (.slice l)).cells = some [.imm f (.slice l)] := rfl
theorem cells_nils : LV.nils.cells = some [.nils] := rfl
theorem cells_loc {k : Key} {o : Nat} : (LV.loc k o).cells = some [.loc k o] := rfl
theorem cells_row {k : Key} {o : Nat} : (LV.row k o).cells = some [.row k o] := rfl
theorem cells_fn {f : FuncId} {l : List LV} : (LV.fn f l).cells = some [.fn f l] := rfl
theorem acells_agg {cs : List LV} : (LV.agg cs).acells = some cs := rfl
theorem acells_iagg {f : Bool} {cs : List IV} : (LV.imm f (.agg cs)).acells = some (cs.map (.imm f)) := rfl
section
variable {D : List Nat} {n : Nat}
theorem renV_undef : renV D (n + 1) .undef = some .undef := rfl
theorem renV_imm {f : Bool} {v : IV} : renV D (n + 1) (.imm f v) = some (.imm f v) := rfl
theorem renV_nils : renV D (n + 1) .nils = some .nils := rfl
theorem renV_loc {k : Key} {o : Nat} : renV D (n + 1) (.loc k o) = match renK D k with | some k => some (.loc k o) | none => none := rfl
theorem renV_row {k : Key} {o : Nat} : renV D (n + 1) (.row k o) = match renK D k with | some k => some (.row k o) | none => none := rfl
theorem renV_agg {l : List LV} : renV D (n + 1) (.agg l) = match renL (renV D n) l with | some l => some (.agg l) | none => none := rfl
theorem renV_tup {l : List LV} : renV D (n + 1) (.tup l) = match renL (renV D n) l with | some l => some (.tup l) | none => none := rfl
theorem renV_fn {f : FuncId} {l : List LV} : renV D (n + 1) (.fn f l) = match renL (renV D n) l with | some l => some (.fn f l) | none => none := rfl
theorem renK_arg {i : Nat} : renK D (.arg i) = some (.arg i) := rfl
theorem renK_own {t : Nat} : renK D (.own t) = if t ∈ D then some (.own (t + 1000)) else if 1000 ≤ t ∧ (t - 1000) ∈ D then none else some (.own t) := rfl
end

/-! one operation -/
section
variable {P : Program} {σ : St} {K : Eff → Prop} {Kp : TypeId → Eff → Prop}
theorem s_mv {d : Nat} {x : Opd} : stepM P σ (.mv d x) K Kp = Get (aop σ (.mv d x)) K := by
  simp only [stepM]; generalize aop σ (.mv d x) = r; cases r <;> rfl
theorem s_pick {d : Nat} {c : Opd} {a : Opd} {b : Opd} : stepM P σ (.pick d c a b) K Kp = Get (aop σ (.pick d c a b)) K := by
  simp only [stepM]; generalize aop σ (.pick d c a b) = r; cases r <;> rfl
theorem s_box {d : Nat} {x : Opd} : stepM P σ (.box d x) K Kp = Get (aop σ (.box d x)) K := by
  simp only [stepM]; generalize aop σ (.box d x) = r; cases r <;> rfl
theorem s_boxc {d : Nat} {x : Opd} : stepM P σ (.boxc d x) K Kp = Get (aop σ (.boxc d x)) K := by
  simp only [stepM]; generalize aop σ (.boxc d x) = r; cases r <;> rfl
theorem s_alloc {d : Nat} {zs : List LV} : stepM P σ (.alloc d zs) K Kp = Get (aop σ (.alloc d zs)) K := by
  simp only [stepM]; generalize aop σ (.alloc d zs) = r; cases r <;> rfl
theorem s_build {d : Nat} {zs : List LV} {ps : List (Nat × Nat × Opd)} : stepM P σ (.build d zs ps) K Kp = Get (aop σ (.build d zs ps)) K := by
  simp only [stepM]; generalize aop σ (.build d zs ps) = r; cases r <;> rfl
theorem s_lit {d : Nat} {sz : Nat} {ps : List Opd} : stepM P σ (.lit d sz ps) K Kp = Get (aop σ (.lit d sz ps)) K := by
  simp only [stepM]; generalize aop σ (.lit d sz ps) = r; cases r <;> rfl
theorem s_load {d : Nat} {x : Opd} {n : Option Nat} : stepM P σ (.load d x n) K Kp = Get (aop σ (.load d x n)) K := by
  simp only [stepM]; generalize aop σ (.load d x n) = r; cases r <;> rfl
theorem s_store {x : Opd} {y : Opd} {n : Nat} : stepM P σ (.store x y n) K Kp = Get (aop σ (.store x y n)) K := by
  simp only [stepM]; generalize aop σ (.store x y n) = r; cases r <;> rfl
theorem s_nilc {d : Nat} {x : Opd} : stepM P σ (.nilc d x) K Kp = Get (aop σ (.nilc d x)) K := by
  simp only [stepM]; generalize aop σ (.nilc d x) = r; cases r <;> rfl
theorem s_fad {d : Nat} {x : Opd} {off : Nat} : stepM P σ (.fad d x off) K Kp = Get (aop σ (.fad d x off)) K := by
  simp only [stepM]; generalize aop σ (.fad d x off) = r; cases r <;> rfl
theorem s_fld {d : Nat} {x : Opd} {off : Nat} {n : Option Nat} : stepM P σ (.fld d x off n) K Kp = Get (aop σ (.fld d x off n)) K := by
  simp only [stepM]; generalize aop σ (.fld d x off n) = r; cases r <;> rfl
theorem s_iad {d : Nat} {x : Opd} {i : Opd} {sz : Nat} : stepM P σ (.iad d x i sz) K Kp = Get (aop σ (.iad d x i sz)) K := by
  simp only [stepM]; generalize aop σ (.iad d x i sz) = r; cases r <;> rfl
theorem s_aad {d : Nat} {x : Opd} {i : Opd} {len : Nat} {sz : Nat} : stepM P σ (.aad d x i len sz) K Kp = Get (aop σ (.aad d x i len sz)) K := by
  simp only [stepM]; generalize aop σ (.aad d x i len sz) = r; cases r <;> rfl
theorem s_idx {d : Nat} {x : Opd} {i : Opd} {len : Nat} {sz : Nat} {n : Option Nat} : stepM P σ (.idx d x i len sz n) K Kp = Get (aop σ (.idx d x i len sz n)) K := by
  simp only [stepM]; generalize aop σ (.idx d x i len sz n) = r; cases r <;> rfl
theorem s_ext {d : Nat} {x : Opd} {i : Nat} : stepM P σ (.ext d x i) K Kp = Get (aop σ (.ext d x i)) K := by
  simp only [stepM]; generalize aop σ (.ext d x i) = r; cases r <;> rfl
theorem s_bin {d : Nat} {op : BinOp} {x : Opd} {y : Opd} : stepM P σ (.bin d op x y) K Kp = Get (aop σ (.bin d op x y)) K := by
  simp only [stepM]; generalize aop σ (.bin d op x y) = r; cases r <;> rfl
theorem s_binb {d : Nat} {neg : Bool} {x : Opd} {y : Opd} : stepM P σ (.binb d neg x y) K Kp = Get (aop σ (.binb d neg x y)) K := by
  simp only [stepM]; generalize aop σ (.binb d neg x y) = r; cases r <;> rfl
theorem s_un {d : Nat} {op : UnOp} {x : Opd} : stepM P σ (.un d op x) K Kp = Get (aop σ (.un d op x)) K := by
  simp only [stepM]; generalize aop σ (.un d op x) = r; cases r <;> rfl
theorem s_conv {d : Nat} {k : IntKind} {x : Opd} : stepM P σ (.conv d k x) K Kp = Get (aop σ (.conv d k x)) K := by
  simp only [stepM]; generalize aop σ (.conv d k x) = r; cases r <;> rfl
theorem s_len {d : Nat} {x : Opd} : stepM P σ (.len d x) K Kp = Get (aop σ (.len d x)) K := by
  simp only [stepM]; generalize aop σ (.len d x) = r; cases r <;> rfl
theorem s_mkif {d : Nat} {t : TypeId} {x : Opd} : stepM P σ (.mkif d t x) K Kp = Get (aop σ (.mkif d t x)) K := by
  simp only [stepM]; generalize aop σ (.mkif d t x) = r; cases r <;> rfl
theorem s_append {d : Nat} {x : Opd} {y : Opd} {e : TypeId} {sz : Nat} {by_ : Nat} : stepM P σ (.append d x y e sz by_) K Kp = Get (aop σ (.append d x y e sz by_)) K := by
  simp only [stepM]; generalize aop σ (.append d x y e sz by_) = r; cases r <;> rfl
theorem s_mx {d : Nat} {xs : List Opd} : stepM P σ (.mx d xs) K Kp = Get (aop σ (.mx d xs)) K := by
  simp only [stepM]; generalize aop σ (.mx d xs) = r; cases r <;> rfl
theorem s_mn {d : Nat} {xs : List Opd} : stepM P σ (.mn d xs) K Kp = Get (aop σ (.mn d xs)) K := by
  simp only [stepM]; generalize aop σ (.mn d xs) = r; cases r <;> rfl
theorem s_mkfn {d : Nat} {f : FuncId} {caps : List Opd} : stepM P σ (.mkfn d f caps) K Kp = Get (aop σ (.mkfn d f caps)) K := by
  simp only [stepM]; generalize aop σ (.mkfn d f caps) = r; cases r <;> rfl
theorem s_mksl {d : Nat} {n : Opd} {zs : List LV} : stepM P σ (.mksl d n zs) K Kp = Get (aop σ (.mksl d n zs)) K := by
  simp only [stepM]; generalize aop σ (.mksl d n zs) = r; cases r <;> rfl
theorem s_mkrow {d : Nat} {n : Opd} {e : TypeId} {sz : Nat} {by_ : Nat} : stepM P σ (.mkrow d n e sz by_) K Kp = Get (aop σ (.mkrow d n e sz by_)) K := by
  simp only [stepM]; generalize aop σ (.mkrow d n e sz by_) = r; cases r <;> rfl
theorem s_pan {x : Opd} : stepM P σ (.pan x) K Kp = (match σ.ev x with | .unitI t => Kp t { d := none, u := [], z := [], r := [] } | _ => False) := by
  simp only [stepM] <;> (generalize σ.ev x = r; cases r <;> rfl)
def CallK (P : Program) (f : FuncId) (o : Option (Bool × List IV)) (K : Bool → IV → Prop) : Prop := match o with
  | some (_, vs) => ∃ fr v, Does P f (vs.map (.imm false)) [] (.ret fr v) [] ∧ K fr v
  | none => False
def CallV (v : LV) (K : FuncId → List LV → Prop) : Prop := match v with
  | .fn f caps => K f caps
  | _ => False
theorem CallV_fn {f : FuncId} {caps : List LV} {K : FuncId → List LV → Prop} : CallV (.fn f caps) K = K f caps := rfl
theorem s_call {d : Option Nat} {fx : Opd} {xs : List Opd} : stepM P σ (.call d fx xs) K Kp = CallV (σ.ev fx) fun f caps => CallK P f (resL (res σ.s depth0) (xs.map σ.ev ++ caps)) fun fr v => K { d := d.map (·, .imm fr v), u := [], z := keysL (keys σ.s depth0) (xs.map σ.ev ++ caps), r := keysL (keys σ.s depth0) (xs.map σ.ev ++ caps) } := by
  simp only [stepM]
  generalize σ.ev fx = fv
  cases fv <;> first | rfl | skip
def CallBK (P : Program) (f : FuncId) (x : Option (List LV)) (y : Option (List (List LV))) (K : Out → List (List LV) → Prop) : Prop := match x, y with
  | some args, some S => ∃ o' S', Does P f args S o' S' ∧ K o' S'
  | _, _ => False
theorem CallBK_do {f : FuncId} {args : List LV} {S S' : List (List LV)} {o' : Out} {K : Out → List (List LV) → Prop} (hd : Does P f args S o' S') (h : K o' S') : CallBK P f (some args) (some S) K := ⟨o', S', hd, h⟩
def OutK (o : Out) (A : Bool → IV → Prop) (B : TypeId → Prop) : Prop := match o with
  | .ret fr v => A fr v
  | .pan t => B t
theorem OutK_ret {fr : Bool} {v : IV} {A : Bool → IV → Prop} {B : TypeId → Prop} : OutK (.ret fr v) A B = A fr v := rfl
theorem OutK_pan {t : TypeId} {A : Bool → IV → Prop} {B : TypeId → Prop} : OutK (.pan t) A B = B t := rfl
def Dis : List Key → List Key → Prop
  | [], _ => True
  | k :: r, l => k ∉ l ∧ Dis r l
theorem Dis_iff {l : List Key} : ∀ {r : List Key}, (∀ k ∈ r, k ∉ l) = Dis r l
  | [] => by simp [Dis]
  | k :: r => by simp only [List.forall_mem_cons, Dis, Dis_iff (r := r)]
theorem s_callB {d : Option Nat} {fx : Opd} {xs : List Opd} {ρ : List Key} : stepM P σ (.callB d fx xs ρ) K Kp = CallV (σ.ev fx) fun f caps => ρ.Nodup ∧ Dis ρ (giveK σ ρ (xs.map σ.ev ++ caps)) ∧
    CallBK P f (giveL σ ρ (xs.map σ.ev ++ caps)) (lendBoxes σ ρ ρ) fun o' S' => Get (backBoxes ρ ρ S') fun u => OutK o' (fun fr v => K { d := d.map (·, .imm fr v), u := u, z := giveK σ ρ (xs.map σ.ev ++ caps), r := ρ ++ giveK σ ρ (xs.map σ.ev ++ caps) })
      (fun t => Kp t { d := none, u := u, z := giveK σ ρ (xs.map σ.ev ++ caps), r := ρ ++ giveK σ ρ (xs.map σ.ev ++ caps) }) := by
  simp only [stepM]
  generalize σ.ev fx = fv
  cases fv <;> first | rfl | skip
  rename_i f caps
  simp only [CallV, CallBK, Dis_iff]
  generalize giveL σ ρ (xs.map σ.ev ++ caps) = x
  generalize lendBoxes σ ρ ρ = y
  cases x <;> cases y <;> first | rfl | skip
  dsimp only
  refine congrArg _ (congrArg _ (congrArg _ (funext fun o' => congrArg _ (funext fun S' => congrArg _ ?_))))
  simp only [Get]
  generalize backBoxes ρ ρ S' = u
  cases u <;> cases o' <;> rfl
/-- a rule for a callee -/
theorem CallK_do {f : FuncId} {b : Bool} {vs : List IV} {fr : Bool} {v : IV} {K : Bool → IV → Prop} (hd : Does P f (vs.map (.imm false)) [] (.ret fr v) []) (h : K fr v) : CallK P f (some (b, vs)) K := ⟨fr, v, hd, h⟩
theorem awpOps_nil {acc : List Eff} {K : St → List Eff → Prop} {Kp : TypeId → St → Prop} : awpOps P [] σ acc K Kp = K σ acc := rfl
theorem awpOps_plain {o : MO} {r : List MG} {acc : List Eff} {K : St → List Eff → Prop} {Kp : TypeId → St → Prop} : awpOps P (⟨none, o⟩ :: r) σ acc K Kp = stepM P σ o (fun E => Lt (σ.app E) fun σ => awpOps P r σ (acc ++ [E]) K Kp) (fun t E => Lt (σ.app E) (Kp t)) := rfl
def GuardR (P : Program) (v : LV) (b : Bool) (o : MO) (r : List MG) (σ : St) (acc : List Eff) (K : St → List Eff → Prop) (Kp : TypeId → St → Prop) : Prop := match yes v with
  | some c => (c = some b → stepM P σ o (fun E => Lt (σ.app E) fun σ => awpOps P r σ (acc ++ [E]) K Kp) (fun t E => Lt (σ.app E) (Kp t))) ∧ (c ≠ some b → Lt (σ.app (undefEff o)) fun σ => awpOps P r σ (acc ++ [undefEff o]) K Kp)
  | none => False
section
variable {o : MO} {r : List MG} {acc : List Eff} {K : St → List Eff → Prop} {Kp : TypeId → St → Prop} {f : Bool}
theorem GuardOn_tt : GuardR P (.imm f (.bool true)) true o r σ acc K Kp = stepM P σ o (fun E => Lt (σ.app E) fun σ => awpOps P r σ (acc ++ [E]) K Kp) (fun t E => Lt (σ.app E) (Kp t)) := by simp [GuardR, yes]
theorem GuardOn_ff : GuardR P (.imm f (.bool false)) false o r σ acc K Kp = stepM P σ o (fun E => Lt (σ.app E) fun σ => awpOps P r σ (acc ++ [E]) K Kp) (fun t E => Lt (σ.app E) (Kp t)) := by simp [GuardR, yes]
theorem GuardOn_tf : GuardR P (.imm f (.bool true)) false o r σ acc K Kp = Lt (σ.app (undefEff o)) fun σ => awpOps P r σ (acc ++ [undefEff o]) K Kp := by simp [GuardR, yes]
theorem GuardOn_ft : GuardR P (.imm f (.bool false)) true o r σ acc K Kp = Lt (σ.app (undefEff o)) fun σ => awpOps P r σ (acc ++ [undefEff o]) K Kp := by simp [GuardR, yes]
theorem GuardOn_dead {b : Bool} : GuardR P (.imm f (.tup [])) b o r σ acc K Kp = Lt (σ.app (undefEff o)) fun σ => awpOps P r σ (acc ++ [undefEff o]) K Kp := by simp [GuardR, yes]
theorem awpOps_guard {t : Nat} {b : Bool} : awpOps P (⟨some (t, b), o⟩ :: r) σ acc K Kp = GuardR P (σ.get t) b o r σ acc K Kp := rfl
end
end
section
variable {P : Program} {Q : AEx → St → Prop} {σ : St}
theorem awpR_no {m : MC} {ms : List MG} {kp : Option (List Nat × List Nat)} (h : m = .reg ms none kp ∧ newsL ms = []) : awp P m Q σ = awpOps P ms σ [] (KReg kp Q) (KPan Q) := by
  obtain ⟨rfl, h⟩ := h
  simp only [awp, h]; rfl
theorem awpD_no {m : MC} {ms : List MG} {kp : Option (List Nat × List Nat)} {pr : List (Nat × Nat)} (h : m = .reg ms (some pr) kp ∧ newsL ms = []) : awp P m Q σ = awpOps P ms σ [] (KDraw pr kp Q) KNo := by
  obtain ⟨rfl, h⟩ := h
  simp only [awp, h]; rfl
end
section
variable {P : Program} {Q : AEx → St → Prop} {σ : St}
theorem awpR_get {m : MC} {ms : List MG} {kp : Option (List Nat × List Nat)} {D : List Nat} (h : m = .reg ms none kp ∧ newsL ms = D) : awp P m Q σ = Get (σ.prep D) (fun σ => awpOps P ms σ [] (KReg kp Q) (KPan Q)) := by
  obtain ⟨rfl, rfl⟩ := h
  simp only [awp]; generalize σ.prep (newsL ms) = r; cases r <;> rfl
theorem awpD_get {m : MC} {ms : List MG} {kp : Option (List Nat × List Nat)} {pr : List (Nat × Nat)} {D : List Nat} (h : m = .reg ms (some pr) kp ∧ newsL ms = D) : awp P m Q σ = Get (σ.prep D) (fun σ => awpOps P ms σ [] (KDraw pr kp Q) KNo) := by
  obtain ⟨rfl, rfl⟩ := h
  simp only [awp]; generalize σ.prep (newsL ms) = r; cases r <;> rfl
end
section
variable {P : Program}
@[congr] theorem Get_congr {α : Type} {x y : Option α} {K : α → Prop} (h : x = y) : Get x K = Get y K := by rw [h]
@[congr] theorem CondR_congr {v v' : LV} {x y : MC} {Q : AEx → St → Prop} {σ : St} (h : v = v') : CondR P v x y Q σ = CondR P v' x y Q σ := by rw [h]
@[congr] theorem GuardR_congr {v v' : LV} {b : Bool} {o : MO} {r : List MG} {σ : St} {acc : List Eff} {K : St → List Eff → Prop} {Kp : TypeId → St → Prop} (h : v = v') : GuardR P v b o r σ acc K Kp = GuardR P v' b o r σ acc K Kp := by rw [h]
@[congr] theorem CallK_congr {f : FuncId} {x y : Option (Bool × List IV)} {K : Bool → IV → Prop} (h : x = y) : CallK P f x K = CallK P f y K := by rw [h]
@[congr] theorem CallV_congr {v v' : LV} {K : FuncId → List LV → Prop} (h : v = v') : CallV v K = CallV v' K := by rw [h]
@[congr] theorem CallBK_congr {f : FuncId} {x x' : Option (List LV)} {y y' : Option (List (List LV))} {K : Out → List (List LV) → Prop} (h : x = x') (h' : y = y') : CallBK P f x y K = CallBK P f x' y' K := by rw [h, h']
@[congr] theorem Lt_congr {σ σ' : St} {K : St → Prop} (h : σ = σ') : Lt σ K = Lt σ' K := by rw [h]
end
def z8 : List LV := [.imm true (.int .i8 0), .imm true (.int .i8 0), .nils, .imm true (.int .i8 0), .nils, .imm true (.int .i64 0), .imm true (.bool false), .nils]
def z2 : List LV := [.imm true (.int .i8 0), .nils]
attribute [go_sem] z8 z2
attribute [go_sem ↓] awp_seq awp_skip awp_block awp_exit awp_ret awp_cond Then_normal Then_exit Then_ret Then_pan InB_normal InB_exit InB_ret InB_pan KReg_eq KPan_eq KDraw_eq Fin_ret Fin_normal s_mv s_bin s_boxc s_load s_call s_callB Fin_pan s_len s_fad s_iad s_alloc s_store s_un s_mx s_mn s_nilc s_pick s_build s_aad s_idx s_lit s_mksl s_mkrow s_mkif s_pan s_ext s_fld s_conv s_append s_mkfn s_box s_binb awpOps_guard awpOps_nil awpOps_plain
attribute [go_sem] numE argS CondOn_true CondOn_false Get_some FinV_ret eq_self_iff_true Bool.false_eq_true false_implies implies_true true_implies keep_eq ev_t ev_c app_eq box_eq get_eq getE_nil getE_cons putE_nil putE_cons putO_some putO_none keepE_nil keepE_cons prep_nil prep_cons St.get CallV_fn OutK_ret OutK_pan settle_imm settle_nils settle_arg settle_own settle_row settle_fn Nat.lt_one_iff giveL giveK lend lendL findK lendBoxes backBoxes backL back List.nodup_cons Dis not_true_eq_false true_or or_true List.nodup_nil not_false_eq_true GuardOn_tt GuardOn_dead dead GuardOn_tf GuardOn_ft GuardOn_ff fillA resAll maxL minL ne_eq Bool.not_eq_true Bool.not_eq_false undefEff MO.dst aop val appU addZ keepS argsOf ownsOf keepZ abin aun List.nil_append List.append_nil List.cons_append finV resLVs resLV outLV res_imm res_nils res_agg res_tup res_own res_row resL resLL keys_imm keys_nils keys_agg keys_tup keys_loc keys_row keysL keysLL depth0 plain_int plain_bool plain_str plain_nilp plain_agg plain_ptr plain_tup plain_slice List.all_cons List.all_nil beq_self_eq_true Bool.or_self Bool.false_or Bool.false_and Bool.and_false Bool.or_true Bool.true_or Bool.or_false Bool.and_true Bool.true_and storeOut List.length_nil List.length_cons List.map_cons List.map_nil cells_agg cells_iagg cells_int cells_bool cells_nils cells_loc cells_slice cells_fn cells_row cells_ptr cells_nilp cells_str acells_agg acells_iagg partI partOf List.getElem?_cons_zero List.getElem?_cons_succ Option.map_some Option.map_none renS renB renL renLL renZ renE renV_imm renV_nils renV_undef renV_loc renV_row renV_agg renK_own renK_arg List.mem_cons List.not_mem_nil or_false false_or Option.getD_some intOfLV getB setB delB Box.flat setAt List.set_cons_zero List.set_cons_succ List.drop_zero List.drop_succ_cons List.take_succ_cons List.take_zero Key.isOwn Key.own.injEq Key.arg.injEq dynOk keyClash Eff.wr Eff.touch List.any_cons List.any_nil decide_false decide_true Bool.not_false Bool.and_self and_self true_and and_true Bool.not_true and_false false_and List.drop List.take Lt_mk ncast2 ncast6 ncast1 ncast0 Int.toNat_zero Int.toNat_one Nat.zero_mul Nat.mul_one Nat.one_mul Nat.zero_add Nat.add_zero Int.le_refl Nat.le_refl
end Go.Proofs.Ytopgmopdjiahmaa.Lg
