/- Texts of one proof, joined by program (gen/tells.py): Lg Lh Li Lj Lk Ll Lm. Conditions: none; plain definitions and lemmas. -/
import Derived.Test.YtopgmopdjiahmaaH1
import Derived.Maps.AppendAt
/- Each operation, one by one, third part: what makes memory or writes it. Conditions: none; plain lemmas. -/
set_option linter.unusedVariables false
set_option linter.unusedSimpArgs false
namespace Go.Proofs.Ytopgmopdjiahmaa.Lg
open Go Go.RowKit
section
variable {P : Program} {cx : Cx} {σ : St} {M : Pl} {a : Act} {w : World} {o : Oper} {d : Nat}

theorem run_newVar' (t : TypeId) (v : Value) : (newVar t v).run P w = .ok ⟨w.heap.size, 0, none⟩ (w.alloc (.cells v.cells t)) := by
  simp [newVar, newRow]

theorem new_goes (h : Inv cx σ M a w) (ho : o.dst = some d) (hd : d < a.tmps.size) (hk : getB σ.s (.own d) = none) (hM : M (.own d) = none) {cs : List LV} {vs : Array Value} {e : TypeId}
    (hv : Rows2 (RR cx σ.s σ.z M w) cs vs.toList) (h1 : ∀ v ∈ vs.toList, v.oneCell' = true) (hrun : (execOp a.eval o).run P w = .ok (.value (.pointer (some ⟨w.heap.size, 0, none⟩))) (w.alloc (.cells vs e))) :
    OpGoes P cx o a w M (σ.app { d := some (d, .loc (.own d) 0), u := [(.own d, some (.var cs))], z := [], r := [] }) := by
  have hI := h.new hk hM hv h1 (e := e)
  refine ⟨_, _, (fun k => if k = Key.own d then some (w.heap.size, 0) else M k), hrun, .inr ⟨_, rfl⟩, ?_, fun k hk' hne => ?_⟩
  · rw [ho]
    exact hI.val hd (RepL.loc (.own d) 0 w.heap.size 0 (by simp))
  · have := hne d ho
    simp [this, hk']

theorem goes_box (h : Inv cx σ M a w) (ho : o.dst = some d) (hd : d < a.tmps.size) (hk : getB σ.s (.own d) = none) (hM : M (.own d) = none) {x : Operand} {x' : Opd} {t : TypeId} (hop : o.op = .box t x) (hx : trX x = some x')
    {E : Eff} (ha : aop σ (.box d x') = some E) : OpGoes P cx o a w M (σ.app E) := by
  have hR := trX_rep h hx
  simp only [aop] at ha
  split at ha
  · rename_i cs hcs
    simp only [Option.some.injEq] at ha; subst ha
    obtain ⟨h1, h2⟩ := hR.cells hcs
    exact new_goes h ho hd hk hM h1 h2 (e := t) (by simp [execOp, hop, Instr.box, run_newVar'])
  · cases ha

theorem zeroOf_spec {t : TypeId} {zs : List LV} (h : zeroOf P t = some zs) : ∃ i z, P.info? t = some i ∧ i.zero = some z ∧ trVs z.cells.toList = some zs := by
  unfold zeroOf at h
  split at h
  · rename_i i hi
    split at h
    · rename_i z hz
      exact ⟨i, z, hi, hz, h⟩
    · cases h
  · cases h

theorem goes_alloc (h : Inv cx σ M a w) (ho : o.dst = some d) (hd : d < a.tmps.size) (hk : getB σ.s (.own d) = none) (hM : M (.own d) = none) {t : TypeId} {zs : List LV} (hop : o.op = .alloc t) (hz : zeroOf P t = some zs)
    {E : Eff} (ha : aop σ (.alloc d zs) = some E) : OpGoes P cx o a w M (σ.app E) := by
  obtain ⟨i, z, hi, hz0, hz1⟩ := zeroOf_spec hz
  simp only [aop, Option.some.injEq] at ha; subst ha
  obtain ⟨h1, h2⟩ := trVs_rep (w := w) (N := NS cx σ.s σ.z M w) (Nf := NF cx σ.s σ.z M w) (M := M) hz1
  exact new_goes h ho hd hk hM h1 h2 (e := t) (by simp [execOp, hop, Instr.alloc, zeroValue, typeInfo, hi, hz0, run_newVar'])

/-- A new block that nobody will change: the cells that lie in it. -/
theorem imm_cells (h : Inv cx σ M a w) {cs : List LV} {vs : List Value} {f : Bool} {ivs : List IV} {l : List Key} (hr : Rows2 (RR cx σ.s σ.z M w) cs vs) (hres : resL (res σ.s depth0) cs = some (f, ivs)) (hl : ∀ k ∈ keysL (keys σ.s depth0) cs, k ∈ l)
    (hlo : ∀ k ∈ l, k.isOwn = true) (o' : Obj) :
    Inv cx { σ with z := addZ l σ.z } M a (w.alloc o') ∧ ivs.length = vs.length ∧
    ∀ j (h1 : j < ivs.length) (h2 : j < vs.length), RepI (w.alloc o') (if f then NF cx σ.s (addZ l σ.z) M (w.alloc o') else NS cx σ.s (addZ l σ.z) M (w.alloc o')) ivs[j] vs[j] := by
  obtain ⟨h1, h2⟩ := resL_reps' h hr hres hl
  have hI := h.addZ hlo
  refine ⟨hI.grow o', h1, fun j hj hj' => ?_⟩
  have := h2 j hj hj'
  cases f
  · exact this.mono (fun b hb => NS.grow (σ := { σ with z := addZ l σ.z }) hb) (fun b hb o u hu => by rw [← hu]; exact World.cell?_of_block (heap_alloc_old w o' b hb.2.1))
  · exact this.mono (fun b hb => ⟨NS.grow (σ := { σ with z := addZ l σ.z }) hb.1, hb.2.1, fun o => (World.frozen?_of_block (a := ⟨b, o, none⟩) (heap_alloc_old w o' b hb.1.2.1)).trans (hb.2.2 o)⟩) (fun b hb o u hu => by rw [← hu]; exact World.cell?_of_block (heap_alloc_old w o' b hb.1.2.1))

theorem goes_boxc (h : Inv cx σ M a w) (ho : o.dst = some d) (hd : d < a.tmps.size) {x : Operand} {x' : Opd} {t : TypeId} (hop : o.op = .box t x) (hx : trX x = some x')
    {E : Eff} (ha : aop σ (.boxc d x') = some E) : OpGoes P cx o a w M (σ.app E) := by
  have hR := trX_rep h hx
  simp only [aop] at ha
  split at ha
  · rename_i cs hcs
    split at ha
    · rename_i f ivs hres
      simp only [Option.some.injEq] at ha; subst ha
      obtain ⟨hrows, h1⟩ := hR.cells hcs
      have hlo := keysL_own h depth0 cs _ hres
      obtain ⟨hI, hlen, hrep⟩ := imm_cells h hrows hres (fun k hk => hk) hlo (.cells (a.eval x).cells t)
      have hlast := NS.last (σ := { σ with z := addZ (keysL (keys σ.s depth0) cs) σ.z }) (h.addZ hlo) (a.eval x).cells t
      refine ⟨.value (.pointer (some ⟨w.heap.size, 0, none⟩)), w.alloc (.cells (a.eval x).cells t), M, by simp [execOp, hop, Instr.box, run_newVar'], .inr ⟨_, rfl⟩, ?_, fun k hk _ => hk⟩
      rw [ho]
      refine hI.val hd (RepL.imm_iff.2 ?_)
      have hsz : (a.eval x).cells.size = ivs.length := by rw [hlen]; simp
      refine RepI.ptr ivs 0 w.heap.size 0 (fun j => (a.eval x).cells.getD j undef) ?_ (fun j hj => ?_) (fun j hj => ?_) (fun j hj => ?_)
      · cases f
        · exact hlast.1
        · exact hlast
      · have hj' : j < (a.eval x).cells.size := by omega
        rw [World.cell?_alloc_new]
        simp [Array.getD, hj']
      · have hj' : j < (a.eval x).cells.size := by omega
        simp only [Array.getD, hj', dite_true]
        exact h1 _ (by simp)
      · have hj' : j < (a.eval x).cells.size := by omega
        have := hrep j hj (by simpa using hj')
        simpa [Array.getD, hj'] using this
    · cases ha
  · cases ha

/-! ### Literals -/
def setAtV : List Value → Nat → List Value → List Value
  | cs, _, [] => cs
  | cs, o, v :: r => setAtV (cs.set o v) (o + 1) r
theorem Rows2.setAt {R : LV → Value → Prop} : ∀ {vs : List LV} {us : List Value} {cs : List LV} {xs : List Value} (o : Nat), Rows2 R cs xs → Rows2 R vs us → Rows2 R (Lg.setAt cs o vs) (setAtV xs o us)
  | [], us, cs, xs, o, h, h' => by
    have : us = [] := List.eq_nil_of_length_eq_zero h'.1
    subst this; exact h
  | v :: r, us, cs, xs, o, h, h' => by
    cases us with
    | nil => have := h'.1; simp at this
    | cons u us =>
      obtain ⟨h1, h2⟩ := h'.of_cons
      exact Rows2.setAt (o + 1) (h.set o h1) h2
theorem setAtV_one : ∀ (us : List Value) (xs : List Value) (o : Nat), (∀ v ∈ xs, v.oneCell' = true) → (∀ v ∈ us, v.oneCell' = true) → ∀ v ∈ setAtV xs o us, v.oneCell' = true
  | [], xs, o, h, h' => h
  | u :: us, xs, o, h, h' => setAtV_one us (xs.set o u) (o + 1) (fun v hv => by
      rcases List.mem_or_eq_of_mem_set hv with hv | rfl
      · exact h v hv
      · exact h' _ List.mem_cons_self) (fun v hv => h' v (List.mem_cons_of_mem _ hv))
theorem setAtV_len : ∀ (us : List Value) (xs : List Value) (o : Nat), (setAtV xs o us).length = xs.length
  | [], xs, o => rfl
  | u :: us, xs, o => by simp [setAtV, setAtV_len us]
theorem fold_setAtV (off : Nat) : ∀ (us : List Value) (k : Nat) (xs : Array Value),
    ((us.zipIdx k).foldl (fun cs x => cs.setIfInBounds (off + x.2) x.1) xs).toList = setAtV xs.toList (off + k) us
  | [], k, xs => rfl
  | u :: us, k, xs => by
    simp only [List.zipIdx_cons, List.foldl_cons, setAtV]
    rw [fold_setAtV off us (k + 1)]
    simp [Nat.add_assoc]
theorem fold_setAtV' (off : Nat) (vs : Array Value) (xs : Array Value) :
    (vs.zipIdx.foldl (fun cs (x : Value × Nat) => match x with | (c, j) => cs.setIfInBounds (off + j) c) xs).toList = setAtV xs.toList off vs.toList := by
  have := fold_setAtV off vs.toList 0 xs
  simp only [Nat.add_zero] at this
  rw [← this, ← Array.foldl_toList]
  simp

theorem fill_sound (h : Inv cx σ M a w) (place : Nat → Option (Nat × Nat)) : ∀ {ps : List (Nat × Operand)} {qs : List (Nat × Nat × Opd)} {cs cs' : List LV} {xs : Array Value}, trParts place ps = some qs →
    fillA cs (qs.map fun (o, n, x) => (o, n, σ.ev x)) = some cs' → Rows2 (RR cx σ.s σ.z M w) cs xs.toList → (∀ v ∈ xs.toList, v.oneCell' = true) →
    ∃ ys, Instr.fill place xs (ps.map fun (i, x) => (i, a.eval x)) = some ys ∧ Rows2 (RR cx σ.s σ.z M w) cs' ys.toList ∧ ∀ v ∈ ys.toList, v.oneCell' = true
  | [], qs, cs, cs', xs, hp, hf, hr, h1 => by
    simp only [trParts, Option.some.injEq] at hp; subst hp
    simp only [List.map_nil, fillA, Option.some.injEq] at hf; subst hf
    exact ⟨xs, rfl, hr, h1⟩
  | (i, x) :: ps, qs, cs, cs', xs, hp, hf, hr, h1 => by
    simp only [trParts] at hp
    split at hp
    · rename_i o n x' l e1 e2 e3
      simp only [Option.some.injEq] at hp; subst hp
      simp only [List.map_cons, fillA] at hf
      split at hf
      · rename_i vs hvs
        split at hf
        · rename_i hle
          obtain ⟨hle1, hle2⟩ := hle
          obtain ⟨h3, h4⟩ := (trX_rep h e2).cells hvs
          have hl1 := h3.1
          have hl2 := hr.1
          simp only [Array.length_toList] at hl1 hl2
          have hrows := hr.setAt o h3
          rw [← fold_setAtV'] at hrows
          obtain ⟨ys, hy1, hy2, hy3⟩ := fill_sound h place e3 hf hrows (by rw [fold_setAtV']; exact setAtV_one _ _ _ h1 h4)
          refine ⟨ys, ?_, hy2, hy3⟩
          simp only [List.map_cons, Instr.fill, e1]
          rw [if_neg (by simp; omega)]
          exact hy1
        · cases hf
      · cases hf
    · cases hp

theorem places_spec : ∀ {fs : List Field} {pl : List (Nat × Nat)}, places P fs = some pl → fs.mapM (fun f => (P.info? f.type).map fun i => (f.offset, i.size)) = some pl
  | [], pl, h => by simp only [places, Option.some.injEq] at h; subst h; rfl
  | f :: r, pl, h => by
    simp only [places] at h
    split at h
    · rename_i i l e1 e2
      simp only [Option.some.injEq] at h; subst h
      simp [List.mapM_cons, e1, places_spec e2]
    · cases h

theorem build_goes (h : Inv cx σ M a w) (ho : o.dst = some d) (hd : d < a.tmps.size) {t : TypeId} {ps : Array (Nat × Operand)} (hop : o.op = .build t ps) {place : Nat → Option (Nat × Nat)} {z : Value} {zs : List LV} {qs : List (Nat × Nat × Opd)}
    (hz : trVs z.cells.toList = some zs) (hq : trParts place ps.toList = some qs) (hb : ∀ parts ys, Instr.fill place z.cells parts = some ys → P.built t parts = some ys)
    {E : Eff} (ha : aop σ (.build d zs qs) = some E) : OpGoes P cx o a w M (σ.app E) := by
  simp only [aop] at ha
  split at ha
  · rename_i cs hcs
    rw [val_eff ha]
    obtain ⟨h1, h2⟩ := trVs_rep (w := w) (N := NS cx σ.s σ.z M w) (Nf := NF cx σ.s σ.z M w) (M := M) hz
    obtain ⟨ys, hy1, hy2, hy3⟩ := fill_sound h place hq hcs h1 h2
    refine goes_val h ho hd (v := .agg ys) ?_ (RR.agg cs ys.toList hy2 hy3)
    have := run_build (P := P) w t (ps.map fun (i, x) => (i, a.eval x)) ys (by rw [Array.toList_map]; exact hb _ _ hy1)
    simp [execOp, hop, this]
  · cases ha

theorem goes_build_struct (h : Inv cx σ M a w) (ho : o.dst = some d) (hd : d < a.tmps.size) {t : TypeId} {ps : Array (Nat × Operand)} (hop : o.op = .build t ps) {it : TypeInfo} {fs : Array Field} {z : Value} {pl : List (Nat × Nat)} {zs : List LV} {qs : List (Nat × Nat × Opd)}
    (hi : P.info? t = some it) (hu : P.underlying t = some (.struct fs)) (hz0 : it.zero = some z) (hpl : places P fs.toList = some pl)
    (hz : trVs z.cells.toList = some zs) (hq : trParts (pl[·]?) ps.toList = some qs)
    {E : Eff} (ha : aop σ (.build d zs qs) = some E) : OpGoes P cx o a w M (σ.app E) :=
  build_goes h ho hd hop hz hq (fun parts ys hf => by simp [Program.built, hi, hu, hz0, places_spec hpl, hf]) ha
theorem goes_build_array (h : Inv cx σ M a w) (ho : o.dst = some d) (hd : d < a.tmps.size) {t : TypeId} {ps : Array (Nat × Operand)} (hop : o.op = .build t ps) {it ie : TypeInfo} {n : Nat} {e : TypeId} {z : Value} {zs : List LV} {qs : List (Nat × Nat × Opd)}
    (hi : P.info? t = some it) (hu : P.underlying t = some (.array n e)) (hz0 : it.zero = some z) (hie : P.info? e = some ie)
    (hz : trVs z.cells.toList = some zs) (hq : trParts (fun i => some (i * ie.size, ie.size)) ps.toList = some qs)
    {E : Eff} (ha : aop σ (.build d zs qs) = some E) : OpGoes P cx o a w M (σ.app E) :=
  build_goes h ho hd hop hz hq (fun parts ys hf => by simp [Program.built, hi, hu, hz0, hie, hf]) ha

/-! ### A slice literal -/
theorem resAll_cons {a' : LV} {r : List LV} {g : Bool} {vs : List (List IV)} (h : resAll σ (a' :: r) = some (g, vs)) :
    ∃ cs b v c us, a'.cells = some cs ∧ resL (res σ.s depth0) cs = some (b, v) ∧ resAll σ r = some (c, us) ∧ g = (b && c) ∧ vs = v :: us := by
  simp only [resAll] at h
  split at h
  · rename_i cs hcs
    split at h
    · rename_i b v h1
      split at h
      · rename_i c us h2
        simp only [Option.some.injEq, Prod.mk.injEq] at h
        exact ⟨cs, b, v, c, us, hcs, h1, h2, h.1.symm, h.2.symm⟩
      · cases h
    · cases h
  · cases h

theorem resL_app {f : LV → Option (Bool × IV)} : ∀ (l l' : List LV) b c v us, resL f l = some (b, v) → resL f l' = some (c, us) → resL f (l ++ l') = some (b && c, v ++ us)
  | [], l', b, c, v, us, h, h' => by simp only [resL, Option.some.injEq, Prod.mk.injEq] at h; obtain ⟨rfl, rfl⟩ := h; simpa using h'
  | x :: l, l', b, c, v, us, h, h' => by
    obtain ⟨b1, v1, c1, us1, e1, e2, rfl, rfl⟩ := resL_cons h
    have := resL_app l l' c1 c us1 us e2 h'
    simp only [List.cons_append, resL, e1, this, Bool.and_assoc]

theorem lit_fill (h : Inv cx σ M a w) (sz : Nat) : ∀ (ps : List (Nat × Operand)) (k : Nat) (xs : List Opd) (f : Bool) (vs : List (List IV)) (A : Array Value), trLit k ps = some xs → resAll σ (xs.map σ.ev) = some (f, vs) → (∀ v ∈ vs, v.length = sz) →
    A.size = (k + ps.length) * sz →
    ∃ ys cs us, Instr.fill (fun i => some (i * sz, sz)) A (ps.map fun (i, x) => (i, a.eval x)) = some ys ∧ ys.toList = A.toList.take (k * sz) ++ us ∧ us.length = ps.length * sz ∧
      Rows2 (RR cx σ.s σ.z M w) cs us ∧ (∀ v ∈ us, v.oneCell' = true) ∧ resL (res σ.s depth0) cs = some (f, vs.flatten) ∧ vs.length = ps.length ∧ xs.length = ps.length ∧
      (∀ k ∈ keysL (keys σ.s depth0) cs, k ∈ keysL (fun a => keysL (keys σ.s depth0) (a.cells.getD [])) (xs.map σ.ev))
  | [], k, xs, f, vs, A, hx, hr, hl, hA => by
    simp only [trLit, Option.some.injEq] at hx; subst hx
    simp only [List.map_nil, resAll, Option.some.injEq, Prod.mk.injEq] at hr; obtain ⟨rfl, rfl⟩ := hr
    refine ⟨A, [], [], rfl, ?_, by simp, Rows2.nil, by simp, rfl, rfl, rfl, by simp [keysL]⟩
    rw [List.append_nil, List.take_of_length_le (by simp at hA ⊢; omega)]
  | (i, x) :: ps, k, xs, f, vs, A, hx, hr, hl, hA => by
    simp only [trLit] at hx
    split at hx
    · rename_i hik
      subst hik
      split at hx
      · rename_i x' l e1 e2
        simp only [Option.some.injEq] at hx; subst hx
        simp only [List.map_cons] at hr
        obtain ⟨cs1, b, v, c, us1, hc1, hr1, hr2, rfl, rfl⟩ := resAll_cons hr
        obtain ⟨h3, h4⟩ := (trX_rep h e1).cells hc1
        have hvl : v.length = sz := hl v List.mem_cons_self
        have hcl : cs1.length = sz := by rw [← resL_length hr1, hvl]
        have hul : (a.eval x).cells.size = sz := by have := h3.1; simp at this; omega
        have hA' : A.size = (i + 1 + ps.length) * sz := by rw [hA]; simp [Nat.add_comm, Nat.add_left_comm]
        have hroom : i * sz + sz ≤ A.size := by
          rw [hA']
          have : (i + 1) * sz ≤ (i + 1 + ps.length) * sz := Nat.mul_le_mul_right _ (by omega)
          rw [Nat.add_mul] at this; omega
        obtain ⟨ys, cs, us, hy, hyl, hul', hrows, hone, hres, hlen, hxl, hkeys⟩ := lit_fill h sz ps (i + 1) l c us1
          ((a.eval x).cells.zipIdx.foldl (fun cs (x : Value × Nat) => match x with | (c, j) => cs.setIfInBounds (i * sz + j) c) A) e2 hr2 (fun v hv => hl v (List.mem_cons_of_mem _ hv))
          (by have := fold_setAtV' (i * sz) (a.eval x).cells A
              have := congrArg List.length this
              simp only [Array.length_toList, setAtV_len] at this
              rw [this, hA'])
        refine ⟨ys, cs1 ++ cs, (a.eval x).cells.toList ++ us, ?_, ?_, by simp [hul', hul, Nat.add_mul, Nat.add_comm], h3.append hrows, ?_, ?_, by simp [hlen], by simp [hxl], ?_⟩
        · simp only [List.map_cons, Instr.fill]
          rw [if_neg (by simp; omega)]
          exact hy
        · rw [hyl, fold_setAtV']
          have key : ∀ (us : List Value) (xs : List Value) (o : Nat), o + us.length ≤ xs.length → (setAtV xs o us).take (o + us.length) = xs.take o ++ us := by
            intro us
            induction us with
            | nil => intro xs o _; simp [setAtV]
            | cons u us ih =>
              intro xs o hle
              simp only [setAtV, List.length_cons]
              have := ih (xs.set o u) (o + 1) (by simp at hle ⊢; omega)
              rw [show o + (us.length + 1) = o + 1 + us.length by omega, this]
              have : (xs.set o u).take (o + 1) = xs.take o ++ [u] := by
                rw [List.take_succ_eq_append_getElem (by simp at hle ⊢; omega)]
                simp [List.take_set_of_le]
              rw [this]; simp
          have := key (a.eval x).cells.toList A.toList (i * sz) (by simp; omega)
          simp only [Array.length_toList, hul] at this
          rw [Nat.add_mul, Nat.one_mul, this, List.append_assoc]
        · intro u hu
          rcases List.mem_append.1 hu with hu | hu
          · exact h4 u hu
          · exact hone u hu
        · rw [List.flatten_cons]; exact resL_app _ _ _ _ _ _ hr1 hres
        · intro k' hk'
          have app : ∀ (l l' : List LV), keysL (keys σ.s depth0) (l ++ l') = keysL (keys σ.s depth0) l ++ keysL (keys σ.s depth0) l' := by
            intro l l'
            induction l with
            | nil => rfl
            | cons y l ih => simp [keysL, ih]
          rw [app] at hk'
          simp only [List.map_cons, keysL, List.mem_append, hc1, Option.getD_some]
          rcases List.mem_append.1 hk' with hk' | hk'
          · exact .inl hk'
          · exact .inr (hkeys k' hk')
      · cases hx
    · cases hx

theorem resAll_own (h : Inv cx σ M a w) : ∀ (l : List LV) (p : Bool × List (List IV)), resAll σ l = some p → ∀ k ∈ keysL (fun a => keysL (keys σ.s depth0) (a.cells.getD [])) l, k.isOwn = true
  | [], p, hp, k, hk => by simp [keysL] at hk
  | x :: l, p, hp, k, hk => by
    obtain ⟨cs, b, v, c, us, h1, h2, h3, _, _⟩ := resAll_cons (g := p.1) (vs := p.2) hp
    simp only [keysL, List.mem_append, h1, Option.getD_some] at hk
    rcases hk with hk | hk
    · exact keysL_own h depth0 cs _ h2 k hk
    · exact resAll_own h l _ h3 k hk

/-- A row of cells in a new block: a slice that nobody changes. -/
theorem slice_of_block {N : Nat → Prop} {vs : List (List IV)} {us : List Value} {sz b c : Nat} (hN : N b) (hsz : ∀ v ∈ vs, v.length = sz) (hus : vs.length * sz ≤ us.length) (hm : vs.length ≤ 9223372036854775807) (hc : vs.length ≤ c)
    (hcell : ∀ j v, us[j]? = some v → w.cell? ⟨b, j, none⟩ = some v) (h1 : ∀ v ∈ us, v.oneCell' = true)
    (hrep : ∀ j (h1 : j < vs.flatten.length) (h2 : j < us.length), RepI w N vs.flatten[j] us[j]) : RepI w N (.slice vs) (.slice (some ⟨b, 0, none⟩) vs.length c) := by
  have hfl := flatten_len sz vs hsz
  refine RepI.slice vs b 0 sz c (fun j => us.getD j undef) hN (fun i hi => hsz _ (List.getElem_mem _)) hm hc (fun j hj => ?_) (fun j hj => ?_) (fun i hi j hj => ?_)
  · have hj' : j < us.length := by omega
    have := hcell j us[j] (by simp)
    rw [Nat.zero_add, this]; simp [List.getD_eq_getElem?_getD, hj']
  · have hj' : j < us.length := by omega
    simp only [List.getD_eq_getElem?_getD, List.getElem?_eq_getElem hj', Option.getD_some]
    exact h1 _ (List.getElem_mem _)
  · have h3 := flatten_at sz vs hsz i hi j hj
    obtain ⟨hlt, he⟩ := List.getElem?_eq_some_iff.1 h3
    have hj' : i * sz + j < us.length := by omega
    have := hrep (i * sz + j) hlt hj'
    simpa [he, List.getD_eq_getElem?_getD, hj'] using this

theorem goes_lit (h : Inv cx σ M a w) (ho : o.dst = some d) (hd : d < a.tmps.size) {t e : TypeId} {n : Nat} {ps : Array (Nat × Operand)} {i : TypeInfo} {z : Value} {xs : List Opd} (hop : o.op = .buildSlice t n ps) (hu : P.underlying t = some (.slice e)) (hi : P.info? e = some i) (hz : i.zero = some z)
    (hx : trLit 0 ps.toList = some xs) (hn : xs.length = n) (hn0 : 0 < n) (hs0 : 0 < i.size) (hsm : n * i.size ≤ 16777216)
    {E : Eff} (ha : aop σ (.lit d i.size xs) = some E) : OpGoes P cx o a w M (σ.app E) := by
  simp only [aop] at ha
  split at ha
  · rename_i f vs hres
    split at ha
    · rename_i hall
      simp only [Option.some.injEq] at ha; subst ha
      have hsz : ∀ v ∈ vs, v.length = i.size := fun v hv => by simpa using List.all_eq_true.1 hall v hv
      have hps : ps.toList.length = n := by
        have : ∀ (l : List (Nat × Operand)) (k : Nat) (xs : List Opd), trLit k l = some xs → xs.length = l.length := by
          intro l
          induction l with
          | nil => intro k xs h; simp only [trLit, Option.some.injEq] at h; subst h; rfl
          | cons p l ih =>
            intro k xs h
            obtain ⟨j, x⟩ := p
            simp only [trLit] at h
            split at h
            · split at h
              · rename_i x' l' e1 e2
                simp only [Option.some.injEq] at h; subst h
                simp [ih _ _ e2]
              · cases h
            · cases h
        rw [← this _ _ _ hx, hn]
      obtain ⟨ys, cs, us, hy, hyl, hul, hrows, hone, hres', hlen, hxl, hkeys⟩ := lit_fill h i.size ps.toList 0 xs f vs ((Array.range (n * i.size)).map (z.cells[· % z.cells.size]!)) hx hres hsz (by simp [hps])
      have hlo := resAll_own h _ _ hres
      obtain ⟨hI, hlen2, hrep⟩ := imm_cells h hrows hres' hkeys hlo (.cells ys e)
      have hlast := NS.last (σ := { σ with z := addZ (keysL (fun a => keysL (keys σ.s depth0) (a.cells.getD [])) (xs.map σ.ev)) σ.z }) (h.addZ hlo) ys e
      have hrun := run_buildSlice (P := P) w t e n (ps.map fun (i, x) => (i, a.eval x)) ys i z hu hi hz (by omega) (by have := Nat.mul_pos hn0 hs0; omega) (by rw [Array.toList_map]; exact hy)
      refine ⟨.value (.slice (some ⟨w.heap.size, 0, none⟩) n n), w.alloc (.cells ys e), M, by simp [execOp, hop, hrun], .inr ⟨_, rfl⟩, ?_, fun k hk _ => hk⟩
      rw [ho]
      refine hI.val hd (RepL.imm_iff.2 ?_)
      have hvn : vs.length = n := by rw [hlen, hps]
      rw [← hvn]
      refine slice_of_block ?_ hsz (by rw [hul, hlen]; exact Nat.le_refl _) (by rw [hvn]; have : n * 1 ≤ n * i.size := Nat.mul_le_mul_left _ hs0; omega) (Nat.le_refl _) (fun j v hv => ?_) hone hrep
      · cases f
        · exact hlast.1
        · exact hlast
      · simp only [Nat.zero_mul, List.take_zero, List.nil_append] at hyl
        rw [World.cell?_alloc_new]
        rw [← Array.getElem?_toList, hyl]; exact hv
    · cases ha
  · cases ha

end
end Go.Proofs.Ytopgmopdjiahmaa.Lg

/- Each operation, one by one, fourth part: stores, appends, made slices. Conditions: none; plain lemmas. -/
set_option linter.unusedVariables false
set_option linter.unusedSimpArgs false
namespace Go.Proofs.Ytopgmopdjiahmaa.Lg
open Go Go.RowKit
section
variable {P : Program} {cx : Cx} {σ : St} {M : Pl} {a : Act} {w : World} {o : Oper} {d : Nat}

/-- A box's cells are written. -/
theorem Inv.store (h : Inv cx σ M a w) {k : Key} {cs cs' : List LV} (hk : getB σ.s k = some (.var cs)) (hz : k ∉ σ.z) {b c : Nat} (hM : M k = some (b, c)) {w' : World} {vs : List Value} {e : TypeId}
    (hb : w'.heap[b]? = some (.cells vs.toArray e (0, 0))) (hv : Rows2 (RR cx σ.s σ.z M w) cs' vs) (h1 : ∀ v ∈ vs, v.oneCell' = true)
    (ho : w'.os = w.os) (ht : w'.tape = w.tape) (hout : w'.output = w.output) (hsz : w'.heap.size = w.heap.size) (hoth : ∀ j, j ≠ b → w'.heap[j]? = w.heap[j]?) :
    Inv cx { σ with s := setB σ.s k (.var cs') } M a w' := by
  have live : ∀ k', (getB (setB σ.s k (.var cs')) k').isSome = true → (getB σ.s k').isSome = true := by
    intro k' hk'
    rw [getB_set] at hk'
    split at hk'
    · rename_i he; subst he; simp [hk]
    · exact hk'
  have hN : ∀ j, NS cx σ.s σ.z M w j → NS cx (setB σ.s k (.var cs')) σ.z M w' j := fun j hj => ⟨hj.1, by rw [hsz]; exact hj.2.1, fun k' c' hk' hz' => hj.2.2 k' c' (live k' hk') hz'⟩
  have hne : ∀ j, NS cx σ.s σ.z M w j → j ≠ b := fun j hj e => by subst e; exact hj.2.2 k c (by simp [hk]) hz hM
  have up : ∀ v x, RR cx σ.s σ.z M w v x → RR cx (setB σ.s k (.var cs')) σ.z M w' v x := fun v x hx => RR.up hN (fun _ _ h => h) (fun j hj => hoth j (hne j hj)) hx
  exact { os := ho.trans h.os, tape := ht.trans h.tape, output := hout.trans h.output, defers := h.defers, argz := h.argz, argM := h.argM
          size := by rw [hsz]; exact h.size
          frame := fun j hj hi => by
            have : j ≠ b := by
              rintro rfl
              cases k with
              | own t => have := h.own t _ (by simp [hk]) hM; simp at this; omega
              | arg i =>
                have hi' := h.arg i (by simp [hk])
                obtain ⟨c', hc'⟩ := h.argM i hi'
                rw [hM] at hc'
                exact hi i hi' (by simpa using (Prod.mk.inj (Option.some.inj hc')).1.symm)
            exact (hoth j this).trans (h.frame j hj hi)
          plc := fun k' hk' => h.plc k' (live k' hk')
          box := fun k' b' pl hb' hp => by
            simp only [getB_set] at hb'
            split at hb'
            · rename_i he; subst he
              simp only [Option.some.injEq] at hb'; subst hb'
              rw [hM] at hp; simp only [Option.some.injEq] at hp; subst hp
              exact ⟨vs.toArray, e, hb, by simpa using hv.mono fun l v _ => up l v, by simpa using h1⟩
            · rename_i he
              have hbx := h.box k' b' pl hb' hp
              refine hbx.up up (hoth _ fun e => he ?_)
              obtain ⟨pb, pc⟩ := pl
              simp only at e; subst e
              exact h.inj k k' pb c pc (by simp [hk]) (by simp [hb']) hM hp
          own := fun t pl ht' hp => h.own t pl (live _ ht') hp
          arg := fun i hi => h.arg i (live _ hi)
          inj := fun k1 k2 b1 c1 c2 hk1 hk2 => h.inj k1 k2 b1 c1 c2 (live _ hk1) (live _ hk2)
          env := fun t => up _ _ (h.env t) }

theorem setAtV_eq : ∀ (us : List Value) (xs : List Value) (o : Nat), o + us.length ≤ xs.length → setAtV xs o us = xs.take o ++ us ++ xs.drop (o + us.length)
  | [], xs, o, _ => by simp [setAtV]
  | u :: us, xs, o, hle => by
    simp only [setAtV, List.length_cons] at hle ⊢
    rw [setAtV_eq us (xs.set o u) (o + 1) (by simp; omega)]
    have h1 : (xs.set o u).take (o + 1) = xs.take o ++ [u] := by
      rw [List.take_succ_eq_append_getElem (by simp; omega)]
      simp [List.take_set_of_le]
    have h2 : (xs.set o u).drop (o + 1 + us.length) = xs.drop (o + (us.length + 1)) := by
      rw [List.drop_set_of_lt (by omega)]; congr 1; omega
    rw [h1, h2]; simp

theorem goes_store (h : Inv cx σ M a w) (ho : o.dst = none) {t : TypeId} {x y : Operand} {x' y' : Opd} {n : Nat} (hop : o.op = .store t x y) (hx : trX x = some x') (hy : trX y = some y') (hn : szOf P t = some n)
    {E : Eff} (ha : aop σ (.store x' y' n) = some E) : OpGoes P cx o a w M (σ.app E) := by
  have hR := trX_rep h hx
  have hS := trX_rep h hy
  simp only [aop] at ha
  split at ha
  · rename_i k off hev
    split at ha
    · cases ha
    · rename_i hz
      split at ha
      · rename_i cs hbx
        split at ha
        · rename_i vs hvs
          split at ha
          · rename_i hle
            obtain ⟨hl1, hl2⟩ := hle
            simp only [Option.some.injEq] at ha; subst ha
            rw [hev] at hR
            generalize hg : a.eval x = u at *
            cases hR with
            | loc k off b c hM =>
              obtain ⟨cur, e, hh, hr, h1⟩ := h.box k _ _ hbx hM
              obtain ⟨hr2, h2⟩ := hS.cells hvs
              have e1 := hr.1
              have e2 := hr2.1
              simp only [Array.length_toList] at e1 e2
              have hst := run_storeCells_at P b off e (a.eval y).cells.toList 0 cur w hh (by simp; omega) h2
              simp only [Nat.add_zero] at hst
              rw [← setAtV_eq _ _ _ (by simp; omega)] at hst
              refine ⟨.skip, w.setRow b (setAtV cur.toList off (a.eval y).cells.toList).toArray, M, ?_, .inl rfl, ?_, fun k hk _ => hk⟩
              · have hs := run_sizeOf' (w := w) hn
                simp [execOp, hop, hg, Instr.storeAt, Instr.sureAddr, storeVar, hs, show (a.eval y).cells.size = n by omega, hst]
              · rw [ho]
                exact h.store hbx hz hM (setRow_heap w b cur _ e _ hh) (hr.setAt off hr2) (setAtV_one _ _ _ h1 h2) rfl rfl rfl (by simp [World.setRow]) (fun j hj => setRow_other w b j _ (by omega))
          · cases ha
        · cases ha
      · cases ha
  · cases ha

/-! ### append -/
theorem ownsRow_zero {base e sz n : Nat} {v : Value} {xs : List Value} (h : w.ownsRow base e sz v n xs) : w.ownsRow 0 e sz v n xs := by
  refine ⟨h.1, ?_⟩
  rcases h.2 with h2 | ⟨g, cap, cur, h1, h2, h3⟩
  · exact .inl h2
  · exact .inr ⟨g, cap, cur, h1, Nat.zero_le _, h3⟩
theorem ownsRow_base {base e sz n c g : Nat} {xs : List Value} (h : w.ownsRow 0 e sz (.slice (some ⟨g, 0, none⟩) n c) n xs) (hb : base ≤ g) : w.ownsRow base e sz (.slice (some ⟨g, 0, none⟩) n c) n xs := by
  refine ⟨h.1, ?_⟩
  rcases h.2 with ⟨h2, _⟩ | ⟨g', cap, cur, h1, h2, h3⟩
  · cases h2
  · refine .inr ⟨g', cap, cur, h1, ?_, h3⟩
    have : g' = g := by injection h1 with h4; injection h4 with h4; injection h4 with h4; exact h4.symm
    omega

/-- A row grows: s0 is the store without the old one. -/
theorem Inv.row (h : Inv cx σ M a w) {s0 : List (Key × Box)} (hs0 : ∀ k b, getB s0 k = some b → getB σ.s k = some b) (hd0 : getB s0 (.own d) = none) (hMd : M (.own d) = none) {w' : World} {old : Option Nat}
    (hg : w.grownBy w' old) (hold : ∀ g, old = some g → (∀ j, NS cx σ.s σ.z M w j → j ≠ g) ∧ (∀ k c, (getB s0 k).isSome = true → M k ≠ some (g, c)) ∧ cx.w.heap.size ≤ g)
    {e sz : Nat} {es : List (List LV)} {g' c' : Nat} {xs : List Value} (hg' : old = some g' ∨ g' = w.heap.size)
    (hown : w'.ownsRow 0 e sz (.slice (some ⟨g', 0, none⟩) es.length c') es.length xs) (hrows : Rows2 (RR cx σ.s σ.z M w) es.flatten xs) (hsz : ∀ x ∈ es, x.length = sz) (h1 : ∀ v ∈ xs, v.oneCell' = true) :
    Inv cx { σ with s := setB s0 (.own d) (.row e sz es) } (fun k => if k = .own d then some (g', c') else M k) a w' := by
  have hMM : ∀ k p, M k = some p → (fun k => if k = Key.own d then some (g', c') else M k) k = some p := by
    intro k p hp
    by_cases hkd : k = .own d
    · subst hkd; rw [hMd] at hp; cases hp
    · simp [hkd, hp]
  have live : ∀ k, (getB (setB s0 (.own d) (.row e sz es)) k).isSome = true → k = .own d ∨ (getB s0 k).isSome = true := by
    intro k hk'
    rw [getB_set] at hk'
    by_cases hkd : k = .own d
    · exact .inl hkd
    · rw [if_neg (Ne.symm hkd)] at hk'; exact .inr hk'
  have old0 : ∀ k, (getB s0 k).isSome = true → (getB σ.s k).isSome = true := fun k hk => by
    obtain ⟨b, hb⟩ := Option.isSome_iff_exists.1 hk
    simp [hs0 k b hb]
  have hN : ∀ j, NS cx σ.s σ.z M w j → NS cx (setB s0 (.own d) (.row e sz es)) σ.z (fun k => if k = Key.own d then some (g', c') else M k) w' j := by
    rintro j hj
    refine ⟨hj.1, Nat.lt_of_lt_of_le hj.2.1 hg.size, fun k c hk' hz => ?_⟩
    by_cases hkd : k = .own d
    · subst hkd
      simp only [if_true, ne_eq, Option.some.injEq, Prod.mk.injEq, not_and]
      intro e1
      rcases hg' with hg' | hg'
      · exact absurd e1.symm ((hold g' hg').1 j hj)
      · have := hj.2.1; omega
    · simp only [if_neg hkd]
      exact hj.2.2 k c (old0 k ((live k hk').resolve_left hkd)) hz
  have hw : ∀ j, NS cx σ.s σ.z M w j → w'.heap[j]? = w.heap[j]? := fun j hj => hg.block j hj.2.1 fun e => (hold j e.symm).1 j hj rfl
  have up : ∀ v x, RR cx σ.s σ.z M w v x → RR cx (setB s0 (.own d) (.row e sz es)) σ.z (fun k => if k = Key.own d then some (g', c') else M k) w' v x := fun v x hx => RR.up hN hMM hw hx
  have hblk : ∀ k b pl, getB s0 k = some b → M k = some pl → w'.heap[pl.1]? = w.heap[pl.1]? := fun k b pl hb hp =>
    hg.block pl.1 (h.lt (old0 k (by simp [hb])) hp) fun e => by
      obtain ⟨pb, pc⟩ := pl
      exact (hold pb e.symm).2.1 k pc (by simp [hb]) hp
  exact { os := hg.os.trans h.os, tape := hg.tape.trans h.tape, output := hg.output.trans h.output, defers := h.defers, argz := h.argz
          size := Nat.le_trans h.size hg.size
          frame := fun j hj hi => (hg.block j (Nat.lt_of_lt_of_le hj h.size) fun e => by have := (hold j e.symm).2.2; omega).trans (h.frame j hj hi)
          plc := fun k hk' => by
            by_cases hkd : k = .own d
            · exact ⟨(g', c'), by simp [hkd]⟩
            · obtain ⟨pl, hp⟩ := h.plc k (old0 k ((live k hk').resolve_left hkd))
              exact ⟨pl, hMM k pl hp⟩
          box := fun k b pl hb hp => by
            simp only [getB_set] at hb
            by_cases hkd : k = .own d
            · subst hkd
              simp only [if_true, Option.some.injEq] at hb hp
              subst hb; subst hp
              exact ⟨xs, hown, hrows.mono fun l v _ => up l v, hsz, h1⟩
            · rw [if_neg (Ne.symm hkd)] at hb
              simp only [if_neg hkd] at hp
              exact (h.box k b pl (hs0 k b hb) hp).up up (hblk k b pl hb hp)
          own := fun t pl ht hp => by
            by_cases hkd : Key.own t = .own d
            · simp only [if_pos hkd, Option.some.injEq] at hp; subst hp
              rcases hg' with hg' | hg'
              · exact (hold g' hg').2.2
              · have := h.size; show cx.w.heap.size ≤ g'; omega
            · simp only [if_neg hkd] at hp; exact h.own t pl (old0 _ ((live _ ht).resolve_left hkd)) hp
          arg := fun i hi => h.arg i (old0 _ ((live _ hi).resolve_left (by simp)))
          argM := fun i hi => by obtain ⟨c, hc⟩ := h.argM i hi; exact ⟨c, hMM _ _ hc⟩
          inj := fun k k' b c c2 hk1 hk2 hp hp' => by
            have other : ∀ k1 c1, (getB s0 k1).isSome = true → M k1 ≠ some (g', c1) := fun k1 c1 hk1 hp1 => by
              rcases hg' with hg' | hg'
              · exact (hold g' hg').2.1 k1 c1 hk1 hp1
              · have := h.lt (old0 k1 hk1) hp1; simp only at this; omega
            by_cases hkd : k = .own d
            · by_cases hkd' : k' = .own d
              · rw [hkd, hkd']
              · simp only [if_pos hkd, if_neg hkd'] at hp hp'
                simp only [Option.some.injEq, Prod.mk.injEq] at hp
                obtain ⟨rfl, _⟩ := hp
                exact absurd hp' (other k' c2 ((live k' hk2).resolve_left hkd'))
            · by_cases hkd' : k' = .own d
              · simp only [if_neg hkd, if_pos hkd'] at hp hp'
                simp only [Option.some.injEq, Prod.mk.injEq] at hp'
                obtain ⟨rfl, _⟩ := hp'
                exact absurd hp (other k c ((live k hk1).resolve_left hkd))
              · simp only [if_neg hkd, if_neg hkd'] at hp hp'
                exact h.inj k k' b c c2 (old0 _ ((live k hk1).resolve_left hkd)) (old0 _ ((live k' hk2).resolve_left hkd')) hp hp'
          env := fun t => up _ _ (h.env t) }

/-- The new elements, as they lie in memory. -/
theorem news_of {f : Bool} {news : List (List IV)} {x : Value} {sz : Nat} (hR : RR cx σ.s σ.z M w (.imm f (.slice news)) x) (hall : ∀ v ∈ news, v.length = sz) (hpos : 0 < news.length) :
    ∃ b o c us, x = .slice (some ⟨b, o, none⟩) news.length c ∧ us.length = news.length * sz ∧ (∀ j u, us[j]? = some u → w.cell? ((⟨b, o, none⟩ : Addr).add j) = some u) ∧ (∀ u ∈ us, u.oneCell' = true) ∧
      Rows2 (RR cx σ.s σ.z M w) (news.map fun v => v.map (LV.imm f)).flatten us ∧ news.length ≤ 9223372036854775807 := by
  have hR := RepL.imm_iff.1 hR
  cases hR with
  | slice0 A c => simp at hpos
  | slice elems b o sz' c vs hN hsz hm hcap hc h1 hr =>
    have hs : sz' = sz := by rw [← hsz 0 hpos]; exact hall _ (List.getElem_mem hpos)
    subst hs
    have hflat : (news.map fun v => v.map (LV.imm f)).flatten = news.flatten.map (LV.imm f) := by rw [List.map_flatten]
    have hfl := flatten_len sz' news hall
    refine ⟨b, o, c, (List.range (news.length * sz')).map vs, rfl, by simp, fun j u hu => ?_, fun u hu => ?_, ?_, hm⟩
    · rw [List.getElem?_map, Option.map_eq_some_iff] at hu
      obtain ⟨i, hi, rfl⟩ := hu
      obtain ⟨hi1, rfl⟩ := List.getElem?_eq_some_iff.1 hi
      rw [add_flat]
      simp only [List.getElem_range]
      exact hc j (by simpa using hi1)
    · obtain ⟨j, hj, rfl⟩ := List.mem_map.1 hu
      exact h1 j (by simpa using hj)
    · rw [hflat]
      refine ⟨by rw [List.length_map, List.length_map, List.length_range, hfl], fun j hj hj' => ?_⟩
      simp only [List.getElem_map, List.getElem_range]
      refine RepL.imm_iff.2 ?_
      have hj2 : j < news.length * sz' := by simpa using hj'
      have hs0 : 0 < sz' := by
        rcases Nat.eq_zero_or_pos sz' with h0 | h0
        · subst h0; simp at hj2
        · exact h0
      have hi : j / sz' < news.length := by rw [Nat.div_lt_iff_lt_mul hs0]; exact hj2
      have hm' : j % sz' < (news[j / sz']).length := by rw [hsz _ hi]; exact Nat.mod_lt _ hs0
      have h3 := flatten_at sz' news hall (j / sz') hi (j % sz') hm'
      have h4 := hr (j / sz') hi (j % sz') hm'
      have he : j / sz' * sz' + j % sz' = j := by rw [Nat.mul_comm]; exact Nat.div_add_mod j sz'
      rw [he] at h3 h4
      obtain ⟨_, h5⟩ := List.getElem?_eq_some_iff.1 h3
      rw [h5]; exact h4

theorem del_some {s : List (Key × Box)} {k k' : Key} {b : Box} (h : getB (delB s k) k' = some b) : k ≠ k' ∧ getB s k' = some b := by
  rw [getB_del] at h
  split at h
  · cases h
  · rename_i hne
    exact ⟨hne, h⟩
theorem del_live {s : List (Key × Box)} {k k' : Key} (h : (getB (delB s k) k').isSome = true) : k ≠ k' ∧ (getB s k').isSome = true := by
  obtain ⟨b, hb⟩ := Option.isSome_iff_exists.1 h
  obtain ⟨h1, h2⟩ := del_some hb
  exact ⟨h1, by simp [h2]⟩

theorem goes_append (h : Inv cx σ M a w) (ho : o.dst = some d) (hd : d < a.tmps.size) (hk : getB σ.s (.own d) = none) (hM : M (.own d) = none) {c : Call} {x y : Operand} {x' y' : Opd} {t e : TypeId} {i : TypeInfo} {z : Value} (hop : o.op = .call c) (hc : c.callee = .builtin .append)
    (hargs : c.args.toList = [x, y]) (hty : c.argTypes.toList = [t, t]) (hx : trX x = some x') (hy : trX y = some y') (hu : P.underlying t = some (.slice e)) (hi : P.info? e = some i) (hz : i.zero = some z) (hzs : z.cells.size = i.size)
    {E : Eff} (ha : aop σ (.append d x' y' e i.size i.bytes) = some E) : OpGoes P cx o a w M (σ.app E) := by
  have hR := trX_rep h hx
  have hS := trX_rep h hy
  obtain ⟨callee, args, argTypes⟩ := c
  have ha1 : args = #[x, y] := by apply Array.toList_inj.1; simpa using hargs
  have ha2 : argTypes = #[t, t] := by apply Array.toList_inj.1; simpa using hty
  simp only at hc; subst hc; subst ha1; subst ha2
  have hrun : ∀ v1 v2 r w', a.eval x = v1 → a.eval y = v2 → (Builtin.append_ #[t, t] o.type #[v1, v2]).run P w = .ok r w' → (execOp a.eval o).run P w = .ok (.value r) w' := by
    intro v1 v2 r w' e1 e2 hr
    simp [execOp, hop, resolve, invoke, builtin, e1, e2, hr]
  simp only [aop] at ha
  split at ha
  · rename_i f news hev
    split at ha
    · rename_i hcond
      simp only [Bool.and_eq_true, List.all_eq_true, beq_iff_eq, decide_eq_true_eq] at hcond
      obtain ⟨⟨⟨hall, hs0⟩, hb0⟩, hpos⟩ := hcond
      rw [hev] at hS
      obtain ⟨b, o', c', us, hyv, hul, hcell, hone, hrows, hmax⟩ := news_of hS hall hpos
      have hlenm : (news.map fun v => v.map (LV.imm f)).length = news.length := by simp
      have hallm : ∀ x ∈ (news.map fun v => v.map (LV.imm f)), x.length = i.size := by
        intro x hx
        obtain ⟨v, hv, rfl⟩ := List.mem_map.1 hx
        simp [hall v hv]
      split at ha
      · rename_i hevx
        split at ha
        · rename_i hfit
          simp only [Option.some.injEq] at ha; subst ha
          rw [hevx] at hR
          have hxv : a.eval x = .slice none 0 0 := by generalize a.eval x = u at *; cases hR; rfl
          have hmul : news.length * 1 ≤ news.length * i.bytes := Nat.mul_le_mul_left _ hb0
          obtain ⟨v', w', hr, hown, hgrow, hnil, hat⟩ := run_append_own_at (P := P) w cx.w.heap.size t o.type e i z i.size i.bytes hu hi hz rfl rfl hzs hs0 (.slice none 0 0) 0 [] (World.ownsRow_nil w _ e i.size) ⟨b, o', none⟩ news.length c' us hul hcell hone
            (by simp only [maxLen]; omega) (by simpa using hfit) h.size
          rcases hown.2 with ⟨h2, h3⟩ | ⟨g', cap, cur, rfl, hbg, h3⟩
          · omega
          · have hg'' : g' = w.heap.size := by
              rcases hat with hat | hat
              · simp [Value.ownBlock] at hat
              · simpa [Value.ownBlock] using hat
            simp only [Nat.zero_add, List.nil_append] at hown
            have hI := h.row (s0 := σ.s) (old := none) (fun k b hb => hb) hk hM (by simpa [Value.ownBlock] using hgrow) (fun g hg => by cases hg) (e := e) (sz := i.size) (es := news.map fun v => v.map (LV.imm f)) (c' := cap) (xs := us) (.inr hg'')
              (by rw [hlenm]; simpa using ownsRow_zero hown) hrows hallm hone
            refine ⟨_, w', (fun k => if k = Key.own d then some (g', cap) else M k), hrun _ _ _ _ hxv hyv hr, .inr ⟨_, rfl⟩, ?_, ?_⟩
            rotate_left
            · intro k hk' hne
              have := hne d ho
              show (if k = Key.own d then some (g', cap) else M k) = none
              simp [this, hk']
            · rw [ho]
              refine hI.val hd ?_
              have := RepL.row (w := w') (N := NS cx (setB σ.s (.own d) (.row e i.size (news.map fun v => v.map (LV.imm f)))) σ.z (fun k => if k = Key.own d then some (g', cap) else M k) w') (Nf := NF cx (setB σ.s (.own d) (.row e i.size (news.map fun v => v.map (LV.imm f)))) σ.z (fun k => if k = Key.own d then some (g', cap) else M k) w')
                (M := (fun k => if k = Key.own d then some (g', cap) else M k)) (.own d) news.length g' cap (by simp)
              simpa [valOf] using this
        · cases ha
      · rename_i k n hevx
        split at ha
        · cases ha
        · rename_i hkz
          split at ha
          · rename_i e' sz' es hbx
            split at ha
            · rename_i hc5
              obtain ⟨rfl, rfl, hes, hko, hfit⟩ := hc5
              simp only [Option.some.injEq] at ha; subst ha
              rw [hevx] at hR
              generalize hxv : a.eval x = u at *
              cases hR with
              | row k n b1 c1 hM1 =>
                have hbx' : getB σ.s k = some (.row e' i.size es) := hbx
                obtain ⟨xs, hown1, hrows1, hsz1, hone1⟩ := h.box k _ _ hbx hM1
                rw [hes] at hown1
                have hown1 : w.ownsRow 0 e' i.size (.slice (some ⟨b1, 0, none⟩) n c1) n xs := hown1
                have hge : cx.w.heap.size ≤ b1 := by
                  cases k with
                  | own t => exact h.own t _ (by rw [hbx']; rfl) hM1
                  | arg i => simp [Key.isOwn] at hko
                have hmul : (n + news.length) * 1 ≤ (n + news.length) * i.bytes := Nat.mul_le_mul_left _ hb0
                obtain ⟨v', w', hr, hown, hgrow, hnil, hat⟩ := run_append_own_at (P := P) w cx.w.heap.size t o.type e' i z i.size i.bytes hu hi hz rfl rfl hzs hs0 _ n xs (ownsRow_base hown1 hge) ⟨b, o', none⟩ news.length c' us hul hcell hone
                  (by simp only [maxLen]; omega) hfit h.size
                rcases hown.2 with ⟨h2, h3⟩ | ⟨g', cap, cur, rfl, hbg, h3⟩
                · omega
                · have hkd : k ≠ .own d := by rintro rfl; rw [hk] at hbx'; cases hbx'
                  have hI := h.row (s0 := delB σ.s k) (old := some b1) (fun k' b' hb => (del_some hb).2) (by rw [getB_del, if_neg hkd]; exact hk) hM (by simpa [Value.ownBlock] using hgrow)
                    (fun g hg => by
                      simp only [Option.some.injEq] at hg; subst hg
                      refine ⟨fun j hj e => ?_, fun k' c'' hk' hM' => ?_, hge⟩
                      · subst e; exact hj.2.2 k c1 (by rw [hbx']; rfl) hkz hM1
                      · obtain ⟨h5, h6⟩ := del_live hk'
                        exact h5 (h.inj k k' b1 c1 c'' (by rw [hbx']; rfl) h6 hM1 hM'))
                    (e := e') (sz := i.size) (es := es ++ news.map fun v => v.map (LV.imm f)) (g' := g') (c' := cap) (xs := xs ++ us) (by
                      rcases hat with hat | hat
                      · left; simpa [Value.ownBlock] using hat.symm
                      · right; simpa [Value.ownBlock] using hat)
                    (by rw [List.length_append, hlenm, hes]; exact ownsRow_zero hown) (by rw [List.flatten_append]; exact hrows1.append hrows)
                    (fun x hx => (List.mem_append.1 hx).elim (hsz1 x) (hallm x))
                    (fun v hv => (List.mem_append.1 hv).elim (hone1 v) (hone v))
                  refine ⟨_, w', (fun k => if k = Key.own d then some (g', cap) else M k), hrun _ _ _ _ rfl hyv hr, .inr ⟨_, rfl⟩, ?_, ?_⟩
                  rotate_left
                  · intro k hk' hne
                    have := hne d ho
                    show (if k = Key.own d then some (g', cap) else M k) = none
                    simp [this, hk']
                  · rw [ho]
                    refine hI.val hd ?_
                    exact RepL.row (.own d) (n + news.length) g' cap (by simp)
            · cases ha
          · cases ha
      · cases ha
    · cases ha
  · cases ha

theorem goes_mksl (h : Inv cx σ M a w) (ho : o.dst = some d) (hd : d < a.tmps.size) {t e : TypeId} {l : Nat} {i : TypeInfo} {z : Value} {zs : List LV} (hop : o.op = .makeSlice t (.tmp l) (.tmp l)) (hu : P.underlying t = some (.slice e)) (hi : P.info? e = some i) (hz : i.zero = some z)
    (hzs : trVs z.cells.toList = some zs) (hsz : z.cells.size = i.size) (hby : i.bytes ≤ 1000)
    {E : Eff} (ha : aop σ (.mksl d (.t l) zs) = some E) : OpGoes P cx o a w M (σ.app E) := by
  have hR := trX_rep h (x := .tmp l) (y := .t l) rfl
  simp only [aop] at ha
  split at ha
  · rename_i n hn
    obtain ⟨k, hk⟩ := intOf_inv hn hR
    split at ha
    · rename_i hle
      split at ha
      · rename_i f vs hres
        rw [val_eff ha]
        have hmul : (i.bytes : Int) * n ≤ 281474976710656 := by
          have : (i.bytes : Int) * n ≤ 1000 * n := Int.mul_le_mul_of_nonneg_right (by omega) hle.1
          omega
        have hrun := run_make (P := P) w t e i z hu hi hz k k n n hle.1 (Int.le_refl _) hmul (by omega)
        obtain ⟨hrows, hone⟩ := trVs_rep (w := w.alloc (.cells (madeCells z.cells (n.toNat * i.size)) e)) (N := fun _ => False) (Nf := fun _ => False) (M := fun _ => none) hzs
        have hvl := resL_length hres
        have hzl : zs.length = i.size := by have := hrows.1; simp at this; omega
        have hlast := NS.last h (madeCells z.cells (n.toNat * i.size)) e
        refine ⟨.value (.slice (some ⟨w.heap.size, 0, none⟩) n.toNat n.toNat), w.alloc (.cells (madeCells z.cells (n.toNat * i.size)) e), M, by simp [execOp, hop, hk, hrun], .inr ⟨_, rfl⟩, ?_, fun k hk _ => hk⟩
        rw [ho]
        refine (h.grow _).val hd (RepL.imm_iff.2 ?_)
        have h0 : (List.replicate n.toNat vs).length = n.toNat := by simp
        have hcells : ∀ j v, (madeCells z.cells (n.toNat * i.size)).toList[j]? = some v → z.cells[j % i.size]! = v := by
          intro j v hv
          simp only [madeCells, Array.toList_map, Array.toList_range, List.getElem?_map, Option.map_eq_some_iff] at hv
          obtain ⟨j', hj', rfl⟩ := hv
          obtain ⟨_, rfl⟩ := List.getElem?_eq_some_iff.1 hj'
          simp [hsz]
        have hrepz : ∀ j (hj : j < vs.length) (hj2 : j < z.cells.size), RepI (w.alloc (.cells (madeCells z.cells (n.toNat * i.size)) e)) (NF cx σ.s σ.z M (w.alloc (.cells (madeCells z.cells (n.toNat * i.size)) e))) vs[j] z.cells[j] := by
          intro j hj hj2
          have := resL_reps (RI := fun b v x => RepI (w.alloc (.cells (madeCells z.cells (n.toNat * i.size)) e)) (fun _ => False) v x) (R := RepL (w.alloc (.cells (madeCells z.cells (n.toNat * i.size)) e)) (fun _ => False) (fun _ => False) (fun _ => none)) (fun b v x hx => hx) (fun a ha b v x hf hR => by
            cases a with
            | imm g u =>
              simp only [res, Option.some.injEq, Prod.mk.injEq] at hf
              obtain ⟨rfl, rfl⟩ := hf
              have := RepL.imm_iff.1 hR
              simpa using this
            | nils =>
              simp only [res, Option.some.injEq, Prod.mk.injEq] at hf
              obtain ⟨rfl, rfl⟩ := hf
              cases hR; exact .slice0 _ _
            | undef => simp [res] at hf
            | fn g c => simp [res] at hf
            | unitI t => simp [res] at hf
            | loc k o => simp [res, getB] at hf
            | row k m => simp [res, getB] at hf
            | agg cs =>
              simp only [res] at hf
              have hno : ∀ (l : List LV) p, resL (res [] 0) l = some p → l = [] := by
                intro l p hp
                cases l with
                | nil => rfl
                | cons y l => simp [resL, res] at hp
              split at hf
              · rename_i g us hg
                have := hno _ _ hg; subst this
                simp only [resL, Option.some.injEq, Prod.mk.injEq] at hg hf
                obtain ⟨rfl, rfl⟩ := hg
                obtain ⟨rfl, rfl⟩ := hf
                cases hR with
                | agg cells xs hl h1 hr => exact .agg _ xs (by simpa using hl) h1 fun j hj => by simp at hj
              · cases hf
            | tup cs =>
              simp only [res] at hf
              have hno : ∀ (l : List LV) p, resL (res [] 0) l = some p → l = [] := by
                intro l p hp
                cases l with
                | nil => rfl
                | cons y l => simp [resL, res] at hp
              split at hf
              · rename_i g us hg
                have := hno _ _ hg; subst this
                simp only [resL, Option.some.injEq, Prod.mk.injEq] at hg hf
                obtain ⟨rfl, rfl⟩ := hg
                obtain ⟨rfl, rfl⟩ := hf
                cases hR with
                | tup cells xs hl hr => exact .tup _ xs (by simpa using hl) fun j hj => by simp at hj
              · cases hf) hres hrows j hj (by simpa using hj2)
          exact RepI.mono (N := fun _ => False) (by simpa using this) (fun b hb => False.elim hb) (fun b hb => False.elim hb)
        have := slice_of_block (w := w.alloc (.cells (madeCells z.cells (n.toNat * i.size)) e)) (N := NF cx σ.s σ.z M (w.alloc (.cells (madeCells z.cells (n.toNat * i.size)) e))) (vs := List.replicate n.toNat vs) (us := (madeCells z.cells (n.toNat * i.size)).toList) (sz := i.size) (b := w.heap.size) (c := n.toNat) hlast
          (fun v hv => by rw [(List.mem_replicate.1 hv).2]; omega) (by simp [size_madeCells]) (by simp; omega) (by simp) (fun j v hv => by rw [World.cell?_alloc_new, ← Array.getElem?_toList]; exact hv)
          (fun v hv => by
            obtain ⟨j, hj, rfl⟩ := List.getElem_of_mem hv
            have := hcells j _ (List.getElem?_eq_getElem hj)
            rw [← this]
            have hj' : j < n.toNat * i.size := by simpa [size_madeCells] using hj
            have hs0 : 0 < i.size := by
              rcases Nat.eq_zero_or_pos i.size with h0 | h0
              · rw [h0] at hj'; simp at hj'
              · exact h0
            have hm : j % i.size < z.cells.size := by rw [hsz]; exact Nat.mod_lt _ hs0
            rw [getElem!_pos z.cells _ hm]
            exact hone _ (by simp))
          (fun j hj hj2 => by
            have hc := hcells j _ (List.getElem?_eq_getElem hj2)
            rw [← hc]
            have hj' : j < n.toNat * i.size := by simpa [size_madeCells] using hj2
            have hs0 : 0 < i.size := by
              rcases Nat.eq_zero_or_pos i.size with h0 | h0
              · rw [h0] at hj'; simp at hj'
              · exact h0
            have hm : j % i.size < z.cells.size := by rw [hsz]; exact Nat.mod_lt _ hs0
            rw [getElem!_pos z.cells _ hm]
            have hi' : j / i.size < (List.replicate n.toNat vs).length := by rw [h0, Nat.div_lt_iff_lt_mul hs0]; exact hj'
            have hm' : j % i.size < ((List.replicate n.toNat vs)[j / i.size]).length := by simp; omega
            have h3 := flatten_at i.size (List.replicate n.toNat vs) (fun v hv => by rw [(List.mem_replicate.1 hv).2]; omega) (j / i.size) hi' (j % i.size) hm'
            have he : j / i.size * i.size + j % i.size = j := by rw [Nat.mul_comm]; exact Nat.div_add_mod j i.size
            rw [he] at h3
            obtain ⟨_, h5⟩ := List.getElem?_eq_some_iff.1 h3
            rw [h5]
            have hmv : j % i.size < vs.length := by omega
            have := hrepz (j % i.size) hmv hm
            simpa using this)
        rw [h0] at this
        simpa [valOf] using this
      · cases ha
    · cases ha
  · cases ha

/-- A row is made with nothing in it and room behind. -/
theorem goes_mkrow (h : Inv cx σ M a w) (ho : o.dst = some d) (hd : d < a.tmps.size) (hk : getB σ.s (.own d) = none) (hM : M (.own d) = none) {t e : TypeId} {k : IntKind} {l : Nat} {i : TypeInfo} {z : Value} (hop : o.op = .makeSlice t (.const (.int k 0)) (.tmp l)) (hu : P.underlying t = some (.slice e)) (hi : P.info? e = some i) (hz : i.zero = some z)
    {E : Eff} (ha : aop σ (.mkrow d (.t l) e i.size i.bytes) = some E) : OpGoes P cx o a w M (σ.app E) := by
  have hR := trX_rep h (x := .tmp l) (y := .t l) rfl
  simp only [aop] at ha
  split at ha
  · rename_i n hn
    obtain ⟨k', hk'⟩ := intOf_inv hn hR
    split at ha
    · rename_i hle
      obtain ⟨h0, h1, h2⟩ := hle
      simp only [Option.some.injEq] at ha; subst ha
      have hmul : i.bytes * n.toNat ≤ 1000 * n.toNat := Nat.mul_le_mul_right _ h2
      obtain ⟨w', hrun, hown, hgrow⟩ := run_make_own (P := P) w cx.w.heap.size t e i z i.size hu hi hz rfl k k' n.toNat (by omega) (by simp only [maxLen]; omega) h.size
      rw [Int.toNat_of_nonneg h0] at hrun
      have hI := h.row (s0 := σ.s) (old := none) (fun k b hb => hb) hk hM hgrow (fun g hg => by cases hg) (e := e) (sz := i.size) (es := []) (g' := w.heap.size) (c' := n.toNat) (xs := []) (.inr rfl)
        (by simpa using ownsRow_zero hown) Rows2.nil (fun x hx => by simp at hx) (fun x hx => by simp at hx)
      refine ⟨.value (.slice (some ⟨w.heap.size, 0, none⟩) 0 n.toNat), w', (fun k => if k = Key.own d then some (w.heap.size, n.toNat) else M k), by simp [execOp, hop, hk', hrun, show a.eval (.const (.int k 0)) = .int k 0 from rfl], .inr ⟨_, rfl⟩, ?_, ?_⟩
      rotate_left
      · intro k hk' hne
        have := hne d ho
        show (if k = Key.own d then some (w.heap.size, n.toNat) else M k) = none
        simp [this, hk']
      · rw [ho]
        refine hI.val hd ?_
        exact RepL.row (.own d) 0 w.heap.size n.toNat (by simp)
    · cases ha
  · cases ha

end
end Go.Proofs.Ytopgmopdjiahmaa.Lg

/- All operations together; calls by what the callee is known to do. Conditions: none; plain definitions and lemmas. -/
set_option linter.unusedVariables false
set_option linter.unusedSimpArgs false
namespace Go.Proofs.Ytopgmopdjiahmaa.Lg
open Go Go.RowKit

def MO.isCall : MO → Bool
  | .call .. | .callB .. | .pan _ => true
  | _ => false

section
variable {P : Program} {cx : Cx} {σ : St} {M : Pl} {a : Act} {w : World} {o : Oper}

theorem call_sound {h : Hints} {c : Call} {mo : MO} (hop : o.op = .call c) (htr : trCall P h c o.dst = some mo) (hnc : mo.isCall = false) {E : Eff} (ha : aop σ mo = some E) (hI : Inv cx σ M a w) (hd : ∀ d, o.dst = some d → d < a.tmps.size)
    (hM : ∀ d, mo.news = some d → M (.own d) = none) : OpGoes P cx o a w M (σ.app E) := by
  have nk : ∀ d, M (.own d) = none → getB σ.s (.own d) = none := by
    intro d hd
    cases hb : getB σ.s (.own d) with
    | none => rfl
    | some b => obtain ⟨pl, hp⟩ := hI.plc (.own d) (by simp [hb]); rw [hd] at hp; cases hp
  unfold trCall at htr
  split at htr
  · rename_i hcal
    split at htr
    · rename_i x t d hargs hty hdst
      split at htr
      · rename_i e hu
        obtain ⟨x', hx, rfl⟩ := Option.map_eq_some_iff.1 htr
        exact goes_len hI hdst (hd _ hdst) hop hcal hargs hty hx hu ha
      · rename_i hu
        obtain ⟨x', hx, rfl⟩ := Option.map_eq_some_iff.1 htr
        exact goes_slen hI hdst (hd _ hdst) hop hcal hargs hty hx hu ha
      · cases htr
    · cases htr
  · rename_i hcal
    split at htr
    · rename_i x y t t' d hargs hty hdst
      split at htr
      · rename_i htt
        subst htt
        split at htr
        · rename_i e hu
          split at htr
          · rename_i i hi
            split at htr
            · rename_i z x' y' hz hx hy
              split at htr
              · rename_i hzs
                simp only [Option.some.injEq] at htr; subst htr
                have hM' := hM d rfl
                exact goes_append hI hdst (hd _ hdst) (nk d hM') hM' hop hcal hargs hty hx hy hu hi hz hzs ha
              · cases htr
            · cases htr
          · cases htr
        · cases htr
      · cases htr
    · cases htr
  · rename_i hcal
    split at htr
    · rename_i xs d hxs hdst
      simp only [Option.some.injEq] at htr; subst htr
      exact goes_mx hI hdst (hd _ hdst) hop hcal hxs ha
    · cases htr
  · rename_i hcal
    split at htr
    · rename_i xs d hxs hdst
      simp only [Option.some.injEq] at htr; subst htr
      exact goes_mn hI hdst (hd _ hdst) hop hcal hxs ha
    · cases htr
  · split at htr
    · split at htr
      · simp only [Option.some.injEq] at htr; subst htr; simp [MO.isCall] at hnc
      · simp only [Option.some.injEq] at htr; subst htr; simp [MO.isCall] at hnc
    · cases htr
  · cases htr

theorem op_sound {h : Hints} {mo : MO} (htr : trOp P h o = some mo) (hnc : mo.isCall = false) {E : Eff} (ha : aop σ mo = some E) (hI : Inv cx σ M a w) (hd : ∀ d, o.dst = some d → d < a.tmps.size)
    (hM : ∀ d, mo.news = some d → M (.own d) = none) : OpGoes P cx o a w M (σ.app E) := by
  have nk : ∀ d, M (.own d) = none → getB σ.s (.own d) = none := by
    intro d hd
    cases hb : getB σ.s (.own d) with
    | none => rfl
    | some b => obtain ⟨pl, hp⟩ := hI.plc (.own d) (by simp [hb]); rw [hd] at hp; cases hp
  unfold trOp at htr
  split at htr
  · rename_i x d hop hdst
    obtain ⟨x', hx, rfl⟩ := Option.map_eq_some_iff.1 htr
    exact goes_mv hI hdst (hd _ hdst) (.inl hop) hx ha
  · rename_i x d hop hdst
    obtain ⟨x', hx, rfl⟩ := Option.map_eq_some_iff.1 htr
    exact goes_mv hI hdst (hd _ hdst) (.inr hop) hx ha
  · rename_i c x y d hop hdst
    split at htr
    · rename_i c' x' y' hc hx hy
      simp only [Option.some.injEq] at htr; subst htr
      exact goes_pick hI hdst (hd _ hdst) hop hc hx hy ha
    · cases htr
  · rename_i e d hop hdst
    obtain ⟨zs, hz, rfl⟩ := Option.map_eq_some_iff.1 htr
    have hM' := hM d rfl
    exact goes_alloc hI hdst (hd _ hdst) (nk d hM') hM' hop hz ha
  · rename_i t x d hop hdst
    obtain ⟨x', hx, rfl⟩ := Option.map_eq_some_iff.1 htr
    split at ha
    · exact goes_boxc hI hdst (hd _ hdst) hop hx ha
    · rename_i hnm
      have hM' := hM d (by simp [hnm, MO.news])
      exact goes_box hI hdst (hd _ hdst) (nk d hM') hM' hop hx ha
  · rename_i t ps d hop hdst
    split at htr
    · rename_i it fs hi hu
      split at htr
      · rename_i z pl hz hpl
        split at htr
        · rename_i zs qs hzs hq
          simp only [Option.some.injEq] at htr; subst htr
          exact goes_build_struct hI hdst (hd _ hdst) hop hi hu hz hpl hzs hq ha
        · cases htr
      · cases htr
    · rename_i it n e hi hu
      split at htr
      · rename_i z ie hz hie
        split at htr
        · rename_i zs qs hzs hq
          simp only [Option.some.injEq] at htr; subst htr
          exact goes_build_array hI hdst (hd _ hdst) hop hi hu hz hie hzs hq ha
        · cases htr
      · cases htr
    · cases htr
  · rename_i t n ps d hop hdst
    split at htr
    · rename_i e hu
      split at htr
      · rename_i i hi
        split at htr
        · rename_i z xs hz hx
          split at htr
          · rename_i hc
            simp only [Option.some.injEq] at htr; subst htr
            exact goes_lit hI hdst (hd _ hdst) hop hu hi hz hx hc.1 hc.2.1 hc.2.2.1 hc.2.2.2 ha
          · cases htr
        · cases htr
      · cases htr
    · cases htr
  · rename_i t x d hop hdst
    split at htr
    · rename_i n x' hn hx
      simp only [Option.some.injEq] at htr; subst htr
      exact goes_load hI hdst (hd _ hdst) hop hx hn ha
    · cases htr
  · rename_i t x y hop hdst
    split at htr
    · rename_i n x' y' hn hx hy
      simp only [Option.some.injEq] at htr; subst htr
      exact goes_store hI hdst hop hx hy hn ha
    · cases htr
  · rename_i x d hop hdst
    obtain ⟨x', hx, rfl⟩ := Option.map_eq_some_iff.1 htr
    exact goes_nilc hI hdst (hd _ hdst) hop hx ha
  · rename_i s x f d hop hdst
    split at htr
    · rename_i fs hu
      split at htr
      · rename_i fl hf
        split at htr
        · rename_i n x' hn hx
          split at htr
          · cases htr
          · rename_i hn0
            simp only [Option.some.injEq] at htr; subst htr
            exact goes_fad hI hdst (hd _ hdst) hop hx hu hf hn hn0 ha
        · cases htr
      · cases htr
    · cases htr
  · rename_i s x f d hop hdst
    split at htr
    · rename_i fs hu
      split at htr
      · rename_i fl hf
        split at htr
        · rename_i n x' hn hx
          simp only [Option.some.injEq] at htr; subst htr
          exact goes_fld hI hdst (hd _ hdst) hop hx hu hf hn ha
        · cases htr
      · cases htr
    · cases htr
  · rename_i t x i d hop hdst
    split at htr
    · rename_i e hu
      split at htr
      · rename_i n x' i' hn hx hi
        simp only [Option.some.injEq] at htr; subst htr
        exact goes_iad hI hdst (hd _ hdst) hop hx hi hu hn ha
      · cases htr
    · rename_i len e hu
      split at htr
      · rename_i n x' i' hn hx hi
        simp only [Option.some.injEq] at htr; subst htr
        exact goes_aad hI hdst (hd _ hdst) hop hx hi hu hn ha
      · cases htr
    · cases htr
  · rename_i t x i d hop hdst
    split at htr
    · rename_i len e hu
      split at htr
      · rename_i sz n x' i' hsz hn hx hi
        simp only [Option.some.injEq] at htr; subst htr
        exact goes_idx hI hdst (hd _ hdst) hop hx hi hu hsz hn ha
      · cases htr
    · cases htr
  · rename_i x i d hop hdst
    obtain ⟨x', hx, rfl⟩ := Option.map_eq_some_iff.1 htr
    exact goes_ext hI hdst (hd _ hdst) hop hx ha
  · rename_i op t x y yt d hop hdst
    split at htr
    · rename_i x' y' hx hy
      split at htr
      · rename_i hu
        simp only [Option.some.injEq] at htr; subst htr
        exact goes_binb hI hdst (hd _ hdst) (neg := false) hop hx hy hu ha
      · rename_i hu
        simp only [Option.some.injEq] at htr; subst htr
        exact goes_binb hI hdst (hd _ hdst) (neg := true) hop hx hy hu ha
      · simp only [Option.some.injEq] at htr; subst htr
        exact goes_bin hI hdst (hd _ hdst) hop hx hy ha
    · cases htr
  · rename_i op t x d hop hdst
    obtain ⟨x', hx, rfl⟩ := Option.map_eq_some_iff.1 htr
    exact goes_un hI hdst (hd _ hdst) hop hx ha
  · rename_i s t x d hop hdst
    split at htr
    · rename_i j k hs ht
      obtain ⟨x', hx, rfl⟩ := Option.map_eq_some_iff.1 htr
      exact goes_conv hI hdst (hd _ hdst) hop hx hs ht ha
    · cases htr
  · rename_i f fs caps d hop hdst
    split at htr
    · rename_i hfs
      obtain ⟨xs, hx, rfl⟩ := Option.map_eq_some_iff.1 htr
      exact goes_mkfn hI hdst (hd _ hdst) hop hfs hx ha
    · cases htr
  · rename_i t l c d hop hdst
    split at htr
    · rename_i hlc
      subst hlc
      split at htr
      · rename_i e hu
        split at htr
        · rename_i i hi
          split at htr
          · rename_i z hz
            split at htr
            · rename_i zs hzs
              split at htr
              · rename_i hc
                simp only [Option.some.injEq] at htr; subst htr
                exact goes_mksl hI hdst (hd _ hdst) hop hu hi hz hzs hc.1 hc.2 ha
              · cases htr
            · cases htr
          · cases htr
        · cases htr
      · cases htr
    · cases htr
  · rename_i t k l c d hop hdst
    split at htr
    · rename_i hl0
      subst hl0
      split at htr
      · rename_i e hu
        split at htr
        · rename_i i hi
          split at htr
          · rename_i z hz
            simp only [Option.some.injEq] at htr; subst htr
            have hM' := hM d rfl
            exact goes_mkrow hI hdst (hd _ hdst) (nk d hM') hM' hop hu hi hz ha
          · cases htr
        · cases htr
      · cases htr
    · cases htr
  · rename_i t x lo hi d hop hdst
    split at htr
    · rename_i e x' hu hx
      split at htr
      · rename_i n hn
        split at htr
        · simp only [Option.some.injEq] at htr; subst htr
          exact goes_cut hI hdst (hd _ hdst) hop hx hu trivial trivial hn ha
        · obtain ⟨l', hl, rfl⟩ := Option.map_eq_some_iff.1 htr
          exact goes_cut hI hdst (hd _ hdst) hop hx hu hl trivial hn ha
        · obtain ⟨l', hl, rfl⟩ := Option.map_eq_some_iff.1 htr
          exact goes_cut hI hdst (hd _ hdst) hop hx hu trivial hl hn ha
        · split at htr
          · rename_i l' h' hl hh
            simp only [Option.some.injEq] at htr; subst htr
            exact goes_cut hI hdst (hd _ hdst) hop hx hu hl hh hn ha
          · cases htr
      · cases htr
    · cases htr
  · rename_i t x d hop hdst
    split at htr
    · rename_i fs hu
      split at htr
      · obtain ⟨x', hx, rfl⟩ := Option.map_eq_some_iff.1 htr
        exact goes_mkif hI hdst (hd _ hdst) hop hx hu ha
      · cases htr
    · cases htr
  · obtain ⟨x', hx, rfl⟩ := Option.map_eq_some_iff.1 htr
    simp [MO.isCall] at hnc
  · rename_i c hop
    exact call_sound hop htr hnc ha hI hd hM
  · cases htr
end

/-! ### What a function does -/
inductive Out where
  | ret (f : Bool) (v : IV)
  | pan (t : TypeId)

def argS : Nat → List (List LV) → List (Key × Box)
  | _, [] => []
  | i, c :: r => (.arg i, .var c) :: argS (i + 1) r

def Ended (cx : Cx) (S : List (List LV)) (M : Pl) (w : World) : Out → Ending → Prop
  | .ret f v, e => ∃ x, e = .returned x ∧ RR cx (argS 0 S) [] M w (.imm f v) x
  | .pan t, e => e = .panicked [{ v := .iface t (.agg #[]), recovered := false }]

def Callable (P : Program) (f : FuncId) : Prop := ∃ fn, P.funcs[f]? = some fn ∧ (fn.name == "runtime.NumGoroutine") = false ∧ fn.body.isNone = false

/-- Function f, called with args, the lent variables holding S: how it ends, and what they hold then; nothing else that was there has turned. -/
def Does (P : Program) (f : FuncId) (args : List LV) (S : List (List LV)) (o : Out) (S' : List (List LV)) : Prop :=
  Callable P f ∧ S'.length = S.length ∧ ∀ (cx : Cx) (M : Pl) (vals : List Value), cx.na = S.length → Inv cx ⟨[], argS 0 S, []⟩ M ⟨#[], []⟩ cx.w → Rows2 (RR cx (argS 0 S) [] M cx.w) args vals →
    Calls P f vals.toArray cx.w fun e w' => Inv cx ⟨[], argS 0 S', []⟩ M ⟨#[], []⟩ w' ∧ Ended cx S' M w' o e

theorem getB_argS : ∀ (S : List (List LV)) (n : Nat) (k : Key) (b : Box), getB (argS n S) k = some b → ∃ i, k = .arg (n + i) ∧ ∃ h : i < S.length, b = .var S[i]
  | [], n, k, b, h => by simp [argS, getB] at h
  | c :: r, n, k, b, h => by
    simp only [argS, getB] at h
    split at h
    · rename_i he
      simp only [Option.some.injEq] at h
      exact ⟨0, he.symm, by simp, h.symm⟩
    · obtain ⟨i, rfl, hi, rfl⟩ := getB_argS r (n + 1) k b h
      exact ⟨i + 1, by rw [Nat.add_assoc, Nat.add_comm 1 i], by simpa using hi, by simp⟩
theorem getB_argS_at : ∀ (S : List (List LV)) (n i : Nat) (h : i < S.length), getB (argS n S) (.arg (n + i)) = some (.var S[i])
  | c :: r, n, 0, h => by simp [argS, getB]
  | c :: r, n, i + 1, h => by
    simp only [argS, getB]
    rw [if_neg (by simp)]
    have := getB_argS_at r (n + 1) i (by simpa using h)
    rw [show n + (i + 1) = n + 1 + i by omega]
    simpa using this

/-! ### Lending: boxes of the caller's that the callee may write -/
def findK : List Key → Nat → Key → Option Nat
  | [], _, _ => none
  | k :: r, n, k' => if k = k' then some n else findK r (n + 1) k'
/-- how the callee sees a value of the caller's -/
def lendL (f : LV → Option LV) : List LV → Option (List LV)
  | [] => some []
  | a :: r => match f a, lendL f r with
    | some b, some l => some (b :: l)
    | _, _ => none
def lend (ρ : List Key) : Nat → LV → Option LV
  | 0, _ => none
  | _ + 1, .imm _ v => some (.imm false v)
  | _ + 1, .loc k off => (findK ρ 0 k).map fun i => .loc (.arg i) off
  | _ + 1, .nils => some .nils
  | n + 1, .fn f caps => (lendL (lend ρ n) caps).map (.fn f)
  | _ + 1, _ => none
/-- and back -/
def backL (f : LV → Option LV) : List LV → Option (List LV)
  | [] => some []
  | a :: r => match f a, backL f r with
    | some b, some l => some (b :: l)
    | _, _ => none
def back (ρ : List Key) : Nat → LV → Option LV
  | 0, _ => none
  | _ + 1, .imm f v => some (.imm f v)
  | _ + 1, .loc (.arg i) off => (ρ[i]?).map fun k => .loc k off
  | _ + 1, .nils => some .nils
  | n + 1, .fn f caps => (backL (back ρ n) caps).map (.fn f)
  | _ + 1, _ => none

def lendBoxes (σ : St) (ρ : List Key) : List Key → Option (List (List LV))
  | [] => some []
  | k :: r => if k ∈ σ.z then none else match σ.box k with
    | some (.var cs) => match lendL (lend ρ 4) cs, lendBoxes σ ρ r with
      | some c, some l => some (c :: l)
      | _, _ => none
    | _ => none
def backBoxes (ρ : List Key) : List Key → List (List LV) → Option (List (Key × Option Box))
  | [], [] => some []
  | k :: r, c :: l => match backL (back ρ 4) c, backBoxes ρ r l with
    | some cs, some u => some ((k, some (.var cs)) :: u)
    | _, _ => none
  | _, _ => none
/-- an argument: lent, or handed on -/
def giveL (σ : St) (ρ : List Key) : List LV → Option (List LV)
  | [] => some []
  | a :: r => match (match lend ρ 4 a with | some l => some l | none => (Lg.res σ.s depth0 a).map fun p => .imm false p.2), giveL σ ρ r with
    | some b, some l => some (b :: l)
    | _, _ => none
def giveK (σ : St) (ρ : List Key) : List LV → List Key
  | [] => []
  | a :: r => (match lend ρ 4 a with | some _ => [] | none => Lg.keys σ.s depth0 a) ++ giveK σ ρ r

/-- Each operation, calls too: its effect; some t: it panics with a value of type t. -/
def Sat (P : Program) (σ : St) (o : MO) (E : Eff) (p : Option TypeId) : Prop :=
  match o with
  | .call d fx xs => ∃ f caps fl vs fr v, σ.ev fx = .fn f caps ∧ resL (Lg.res σ.s depth0) (xs.map σ.ev ++ caps) = some (fl, vs) ∧ Does P f (vs.map (.imm false)) [] (.ret fr v) [] ∧
      E = { d := d.map (·, .imm fr v), u := [], z := keysL (Lg.keys σ.s depth0) (xs.map σ.ev ++ caps), r := keysL (Lg.keys σ.s depth0) (xs.map σ.ev ++ caps) } ∧ p = none
  | .callB d fx xs ρ => ∃ f caps args S o' S' u, σ.ev fx = .fn f caps ∧ ρ.Nodup ∧ (∀ k ∈ ρ, k ∉ giveK σ ρ (xs.map σ.ev ++ caps)) ∧ giveL σ ρ (xs.map σ.ev ++ caps) = some args ∧ lendBoxes σ ρ ρ = some S ∧ Does P f args S o' S' ∧ backBoxes ρ ρ S' = some u ∧
      (match o' with
       | .ret fr v => E = { d := d.map (·, .imm fr v), u := u, z := giveK σ ρ (xs.map σ.ev ++ caps), r := ρ ++ giveK σ ρ (xs.map σ.ev ++ caps) } ∧ p = none
       | .pan t => E = { d := none, u := u, z := giveK σ ρ (xs.map σ.ev ++ caps), r := ρ ++ giveK σ ρ (xs.map σ.ev ++ caps) } ∧ p = some t)
  | .pan x => ∃ t, σ.ev x = .unitI t ∧ E = { d := none, u := [], z := [], r := [] } ∧ p = some t
  | o => aop σ o = some E ∧ p = none

end Go.Proofs.Ytopgmopdjiahmaa.Lg

/- A call, by what the callee is known to do. Conditions: none; plain lemmas. -/
set_option linter.unusedVariables false
set_option linter.unusedSimpArgs false
namespace Go.Proofs.Ytopgmopdjiahmaa.Lg
open Go Go.RowKit

theorem getB_appU : ∀ (u : List (Key × Option Box)) (s : List (Key × Box)) (k : Key), (u.map (·.1)).Nodup → getB (appU u s) k = match u.find? (fun p => p.1 = k) with
    | some (_, b) => b
    | none => getB s k
  | [], s, k, _ => rfl
  | (k', b) :: u, s, k, hn => by
    simp only [List.map_cons, List.nodup_cons] at hn
    have step : getB (appU ((k', b) :: u) s) k = match u.find? (fun p => p.1 = k) with
        | some (_, b) => b
        | none => if k' = k then b else getB s k := by
      cases b with
      | none => simp only [appU]; rw [getB_appU u _ k hn.2, getB_del]
      | some b => simp only [appU]; rw [getB_appU u _ k hn.2, getB_set]
    rw [step]
    by_cases hk : k' = k
    · subst hk
      have : u.find? (fun p => p.1 = k') = none := by
        rw [List.find?_eq_none]
        intro p hp
        simp only [decide_eq_true_eq]
        intro he
        exact hn.1 (he ▸ List.mem_map_of_mem hp)
      rw [this]; simp
    · simp [List.find?_cons, hk]

theorem findK_spec : ∀ (ρ : List Key) (n : Nat) (k : Key) (i : Nat), findK ρ n k = some i → ∃ j, i = n + j ∧ ρ[j]? = some k
  | [], n, k, i, h => by simp [findK] at h
  | k' :: r, n, k, i, h => by
    simp only [findK] at h
    split at h
    · rename_i he
      simp only [Option.some.injEq] at h
      exact ⟨0, by omega, by simp [he]⟩
    · obtain ⟨j, hj, hk⟩ := findK_spec r (n + 1) k i h
      exact ⟨j + 1, by omega, by simpa using hk⟩

theorem lendL_spec {f : LV → Option LV} : ∀ {l l' : List LV}, lendL f l = some l' → l'.length = l.length ∧ ∀ j (h : j < l.length) (h' : j < l'.length), f l[j] = some l'[j]
  | [], l', h => by simp only [lendL, Option.some.injEq] at h; subst h; exact ⟨rfl, fun j h => by simp at h⟩
  | a :: r, l', h => by
    simp only [lendL] at h
    split at h
    · rename_i b l e1 e2
      simp only [Option.some.injEq] at h; subst h
      obtain ⟨h1, h2⟩ := lendL_spec e2
      refine ⟨by simp [h1], fun j hj hj' => ?_⟩
      cases j with
      | zero => exact e1
      | succ j => exact h2 j (by simpa using hj) (by simpa using hj')
    · cases h
theorem backL_spec {f : LV → Option LV} : ∀ {l l' : List LV}, backL f l = some l' → l'.length = l.length ∧ ∀ j (h : j < l.length) (h' : j < l'.length), f l[j] = some l'[j]
  | [], l', h => by simp only [backL, Option.some.injEq] at h; subst h; exact ⟨rfl, fun j h => by simp at h⟩
  | a :: r, l', h => by
    simp only [backL] at h
    split at h
    · rename_i b l e1 e2
      simp only [Option.some.injEq] at h; subst h
      obtain ⟨h1, h2⟩ := backL_spec e2
      refine ⟨by simp [h1], fun j hj hj' => ?_⟩
      cases j with
      | zero => exact e1
      | succ j => exact h2 j (by simpa using hj) (by simpa using hj')
    · cases h

theorem lendBoxes_spec {σ : St} {ρ : List Key} : ∀ {r : List Key} {S : List (List LV)}, lendBoxes σ ρ r = some S → S.length = r.length ∧ ∀ i (h : i < r.length) (h' : i < S.length), r[i] ∉ σ.z ∧ ∃ cs, getB σ.s r[i] = some (.var cs) ∧ lendL (lend ρ 4) cs = some S[i]
  | [], S, h => by simp only [lendBoxes, Option.some.injEq] at h; subst h; exact ⟨rfl, fun i h => by simp at h⟩
  | k :: r, S, h => by
    simp only [lendBoxes] at h
    split at h
    · cases h
    · rename_i hz
      split at h
      · rename_i cs hb
        split at h
        · rename_i c l e1 e2
          simp only [Option.some.injEq] at h; subst h
          obtain ⟨h1, h2⟩ := lendBoxes_spec e2
          refine ⟨by simp [h1], fun i hi hi' => ?_⟩
          cases i with
          | zero => exact ⟨hz, cs, hb, e1⟩
          | succ i => exact h2 i (by simpa using hi) (by simpa using hi')
        · cases h
      · cases h
theorem backBoxes_spec {ρ : List Key} : ∀ {r : List Key} {S : List (List LV)} {u : List (Key × Option Box)}, backBoxes ρ r S = some u → S.length = r.length ∧ u.map (·.1) = r ∧ ∀ i (h : i < r.length) (h' : i < S.length), ∃ cs, u[i]? = some (r[i], some (.var cs)) ∧ backL (back ρ 4) S[i] = some cs
  | [], S, u, h => by
    cases S with
    | nil => simp only [backBoxes, Option.some.injEq] at h; subst h; exact ⟨rfl, rfl, fun i h => by simp at h⟩
    | cons c l => simp [backBoxes] at h
  | k :: r, S, u, h => by
    cases S with
    | nil => simp [backBoxes] at h
    | cons c l =>
      simp only [backBoxes] at h
      split at h
      · rename_i cs v e1 e2
        simp only [Option.some.injEq] at h; subst h
        obtain ⟨h1, h2, h3⟩ := backBoxes_spec e2
        refine ⟨by simp [h1], by simp [h2], fun i hi hi' => ?_⟩
        cases i with
        | zero => exact ⟨cs, by simp, e1⟩
        | succ i => simpa using h3 i (by simpa using hi) (by simpa using hi')
      · cases h

section
variable {P : Program} {cx : Cx} {σ : St} {M : Pl} {a : Act} {w : World}

/-- The callee's own beginning. -/
def lentCx (h : Inv cx σ M a w) (ρ : List Key) (hlive : ∀ i (hi : i < ρ.length), ρ[i] ∉ σ.z ∧ (getB σ.s ρ[i]).isSome = true) : Cx where
  w := w
  N := NS cx σ.s σ.z M w
  na := ρ.length
  m := fun i => match ρ[i]? with
    | some k => ((M k).getD (0, 0)).1
    | none => 0
  hN := fun b hb => hb.2.1
  hm := fun i hi => by
    obtain ⟨hz, hk⟩ := hlive i hi
    obtain ⟨pl, hp⟩ := h.plc _ hk
    have hlt := h.lt hk hp
    have e : ρ[i]? = some ρ[i] := by simp
    simp only [e, hp, Option.getD_some]
    exact ⟨hlt, fun hb => hb.2.2 ρ[i] pl.2 hk hz hp⟩
def lentM (M : Pl) (ρ : List Key) : Pl := fun k => match k with
  | .arg i => (ρ[i]?).bind M
  | .own _ => none

variable (h : Inv cx σ M a w) (ρ : List Key) (hlive : ∀ i (hi : i < ρ.length), ρ[i] ∉ σ.z ∧ (getB σ.s ρ[i]).isSome = true)

theorem lent_NS {S : List (List LV)} (hS : S.length = ρ.length) {b : Nat} (hb : NS cx σ.s σ.z M w b) : NS (lentCx h ρ hlive) (argS 0 S) [] (lentM M ρ) w b := by
  refine ⟨.inl hb, hb.2.1, fun k c hk _ hM => ?_⟩
  obtain ⟨bx, hbx⟩ := Option.isSome_iff_exists.1 hk
  obtain ⟨i, rfl, hi, _⟩ := getB_argS S 0 k bx hbx
  simp only [lentM, Nat.zero_add] at hM
  have hi' : i < ρ.length := by omega
  rw [List.getElem?_eq_getElem hi', Option.bind_some] at hM
  exact hb.2.2 _ c (hlive i hi').2 (hlive i hi').1 hM

theorem lend_sound {S : List (List LV)} (hS : S.length = ρ.length) : ∀ (n : Nat) (lv lv' : LV) (x : Value), lend ρ n lv = some lv' → RR cx σ.s σ.z M w lv x → RR (lentCx h ρ hlive) (argS 0 S) [] (lentM M ρ) w lv' x := by
  intro n
  induction n with
  | zero => intro lv lv' x h1; simp [lend] at h1
  | succ n ih =>
    intro lv lv' x h1 hx
    cases lv with
    | imm f v =>
      simp only [lend, Option.some.injEq] at h1; subst h1
      refine RepL.imm_iff.2 ?_
      have := RepL.imm_iff.1 hx
      cases f
      · exact this.mono (fun b hb => lent_NS h ρ hlive hS hb) (fun _ _ _ _ h => h)
      · exact this.mono (fun b hb => lent_NS h ρ hlive hS hb.1) (fun _ _ _ _ h => h)
    | loc k off =>
      simp only [lend, Option.map_eq_some_iff] at h1
      obtain ⟨i, hi, rfl⟩ := h1
      obtain ⟨j, hj, hk⟩ := findK_spec ρ 0 k i hi
      cases hx with
      | loc k off b c hM => exact .loc _ _ b c (by simp [lentM, hj, hk, hM])
    | nils => simp only [lend, Option.some.injEq] at h1; subst h1; cases hx; exact .nils
    | fn f caps =>
      simp only [lend, Option.map_eq_some_iff] at h1
      obtain ⟨l, hl, rfl⟩ := h1
      obtain ⟨e1, e2⟩ := lendL_spec hl
      cases hx with
      | fn f caps vs hl hr => exact .fn f l vs (by omega) fun j hj hj' => ih _ _ _ (e2 j (by omega) hj) (hr j (by omega) hj')
    | undef => simp [lend] at h1
    | row k n => simp [lend] at h1
    | agg cs => simp [lend] at h1
    | tup cs => simp [lend] at h1
    | unitI t => simp [lend] at h1

theorem lent_inv {S : List (List LV)} (hn : ρ.Nodup) (hS : lendBoxes σ ρ ρ = some S) : Inv (lentCx h ρ hlive) ⟨[], argS 0 S, []⟩ (lentM M ρ) ⟨#[], []⟩ w := by
  obtain ⟨hl, hspec⟩ := lendBoxes_spec hS
  have at_ : ∀ k, (getB (argS 0 S) k).isSome = true → ∃ i, k = .arg i ∧ ∃ hi : i < ρ.length, lentM M ρ k = M ρ[i] := by
    intro k hk
    obtain ⟨bx, hbx⟩ := Option.isSome_iff_exists.1 hk
    obtain ⟨i, rfl, hi, _⟩ := getB_argS S 0 k bx hbx
    refine ⟨i, by simp, by omega, ?_⟩
    simp only [lentM, Nat.zero_add]
    rw [List.getElem?_eq_getElem (by omega), Option.bind_some]
  exact { os := rfl, tape := rfl, output := rfl, size := Nat.le_refl _, frame := fun _ _ _ => rfl, defers := rfl
          plc := fun k hk => by
            obtain ⟨i, rfl, hi, hm⟩ := at_ k hk
            obtain ⟨pl, hp⟩ := h.plc _ (hlive i hi).2
            exact ⟨pl, by rw [hm, hp]⟩
          box := fun k b pl hb hp => by
            obtain ⟨i, rfl, hi, rfl⟩ := getB_argS S 0 k b hb
            obtain ⟨i', hk', hi', hm⟩ := at_ (.arg (0 + i)) (by simp only at hb; rw [hb]; rfl)
            simp only [Nat.zero_add, Key.arg.injEq] at hk'
            subst hk'
            obtain ⟨hz, cs, hcs, hlend⟩ := hspec i hi' hi
            rw [hm] at hp
            obtain ⟨vs, e, hh, hr, h1⟩ := h.box _ _ _ hcs hp
            obtain ⟨e1, e2⟩ := lendL_spec hlend
            refine ⟨vs, e, hh, ⟨by rw [e1]; exact hr.1, fun j hj hj' => ?_⟩, h1⟩
            exact lend_sound h ρ hlive hl 4 _ _ _ (e2 j (by omega) hj) (hr.2 j (by omega) hj')
          own := fun t pl ht hp => by simp [lentM] at hp
          arg := fun i hi => by
            obtain ⟨i', hk', hi', _⟩ := at_ _ hi
            simp only [Key.arg.injEq] at hk'
            subst hk'; exact hi'
          argM := fun i hi => by
            obtain ⟨pl, hp⟩ := h.plc _ (hlive i hi).2
            refine ⟨pl.2, ?_⟩
            have e : ρ[i]? = some ρ[i] := List.getElem?_eq_getElem hi
            simp only [lentM, lentCx, e, Option.bind_some, hp, Option.getD_some]
          argz := fun i hi => by cases hi
          inj := fun k k' b c c' hk hk' hp hp' => by
            obtain ⟨i, rfl, hi, hm⟩ := at_ k hk
            obtain ⟨i', rfl, hi', hm'⟩ := at_ k' hk'
            rw [hm] at hp; rw [hm'] at hp'
            have := h.inj _ _ b c c' (hlive i hi).2 (hlive i' hi').2 hp hp'
            rw [(List.getElem_inj hn).1 this]
          env := fun t => .undef _ }

theorem back_NS {S' : List (List LV)} {s' : List (Key × Box)} (hs' : ∀ k, (getB s' k).isSome = true → (getB σ.s k).isSome = true) {w' : World} (hsz : w.heap.size ≤ w'.heap.size) {b : Nat} (hb : NS (lentCx h ρ hlive) (argS 0 S') [] (lentM M ρ) w' b) : NS cx s' σ.z M w' b := by
  obtain ⟨h1, h2, h3⟩ := hb
  refine ⟨?_, h2, fun k c hk hz hM => ?_⟩
  · rcases h1 with h1 | h1
    · exact h1.1
    · exact .inr (Nat.le_trans h.size h1)
  · rcases h1 with h1 | h1
    · exact h1.2.2 k c (hs' k hk) hz hM
    · have := h.lt (hs' k hk) hM
      have h1' : w.heap.size ≤ b := h1
      simp only at this; omega

theorem back_sound {S' : List (List LV)} {s' : List (Key × Box)} (hs' : ∀ k, (getB s' k).isSome = true → (getB σ.s k).isSome = true) {w' : World} (hsz : w.heap.size ≤ w'.heap.size) : ∀ (n : Nat) (lv lv' : LV) (x : Value), back ρ n lv = some lv' → RR (lentCx h ρ hlive) (argS 0 S') [] (lentM M ρ) w' lv x → RR cx s' σ.z M w' lv' x := by
  intro n
  induction n with
  | zero => intro lv lv' x h1; simp [back] at h1
  | succ n ih =>
    intro lv lv' x h1 hx
    cases lv with
    | imm f v =>
      simp only [back, Option.some.injEq] at h1; subst h1
      refine RepL.imm_iff.2 ?_
      have := RepL.imm_iff.1 hx
      cases f
      · exact this.mono (fun b hb => back_NS h ρ hlive hs' hsz hb) (fun _ _ _ _ h => h)
      · exact this.mono (fun b hb => ⟨back_NS h ρ hlive hs' hsz hb.1, Nat.le_trans h.size hb.2.1, hb.2.2⟩) (fun _ _ _ _ h => h)
    | loc k off =>
      cases k with
      | arg i =>
        simp only [back, Option.map_eq_some_iff] at h1
        obtain ⟨k, hk, rfl⟩ := h1
        cases hx with
        | loc k' off b c hM => exact .loc _ _ b c (by simpa [lentM, hk] using hM)
      | own t => simp [back] at h1
    | nils => simp only [back, Option.some.injEq] at h1; subst h1; cases hx; exact .nils
    | fn f caps =>
      simp only [back, Option.map_eq_some_iff] at h1
      obtain ⟨l, hl, rfl⟩ := h1
      obtain ⟨e1, e2⟩ := backL_spec hl
      cases hx with
      | fn f caps vs hl hr => exact .fn f l vs (by omega) fun j hj hj' => ih _ _ _ (e2 j (by omega) hj) (hr j (by omega) hj')
    | undef => simp [back] at h1
    | row k n => simp [back] at h1
    | agg cs => simp [back] at h1
    | tup cs => simp [back] at h1
    | unitI t => simp [back] at h1

/-- Behind the call: the caller's own state. -/
theorem back_inv {S' : List (List LV)} {u : List (Key × Option Box)} {w' : World} (hn : ρ.Nodup) (hu : backBoxes ρ ρ S' = some u) (hpost : Inv (lentCx h ρ hlive) ⟨[], argS 0 S', []⟩ (lentM M ρ) ⟨#[], []⟩ w') :
    Inv cx { σ with s := appU u σ.s } M a w' ∧ ∀ f v x, RR (lentCx h ρ hlive) (argS 0 S') [] (lentM M ρ) w' (.imm f v) x → RR cx (appU u σ.s) σ.z M w' (.imm f v) x := by
  obtain ⟨hl, hmap, hspec⟩ := backBoxes_spec hu
  have hsz : w.heap.size ≤ w'.heap.size := hpost.size
  have hnu : (u.map (·.1)).Nodup := by rw [hmap]; exact hn
  have hul : u.length = ρ.length := by rw [← hmap]; simp
  -- what stands there
  have look : ∀ k, (∃ i, ∃ hi : i < ρ.length, k = ρ[i] ∧ ∃ cs, getB (appU u σ.s) k = some (.var cs) ∧ backL (back ρ 4) (S'[i]'(by omega)) = some cs) ∨ ((∀ i (hi : i < ρ.length), k ≠ ρ[i]) ∧ getB (appU u σ.s) k = getB σ.s k) := by
    intro k
    rw [getB_appU u σ.s k hnu]
    cases hf : u.find? (fun p => decide (p.1 = k)) with
    | none =>
      refine .inr ⟨fun i hi he => ?_, rfl⟩
      obtain ⟨cs, h1, _⟩ := hspec i hi (by omega)
      have := List.find?_eq_none.1 hf _ (List.mem_of_getElem? h1)
      simp at this; exact this he.symm
    | some p =>
      have h1 := List.mem_of_find?_eq_some hf
      have h2 := List.find?_some hf
      obtain ⟨i, hi, he⟩ := List.getElem_of_mem h1
      obtain ⟨cs, h3, h4⟩ := hspec i (by omega) (by omega)
      rw [List.getElem?_eq_getElem hi, he] at h3
      simp only [Option.some.injEq] at h3
      subst h3
      simp only [decide_eq_true_eq] at h2
      exact .inl ⟨i, by omega, h2.symm, cs, rfl, h4⟩
  have live : ∀ k, (getB (appU u σ.s) k).isSome = true → (getB σ.s k).isSome = true := by
    intro k hk
    rcases look k with ⟨i, hi, rfl, _⟩ | ⟨_, he⟩
    · exact (hlive i hi).2
    · rwa [he] at hk
  have notm : ∀ b, (∀ i (hi : i < ρ.length) c, M ρ[i] ≠ some (b, c)) → b < w.heap.size → w'.heap[b]? = w.heap[b]? := by
    intro b hb hlt
    refine hpost.frame b hlt fun i hi e => ?_
    obtain ⟨pl, hp⟩ := h.plc _ (hlive i hi).2
    have e' : ρ[i]? = some ρ[i] := List.getElem?_eq_getElem hi
    simp only [lentCx, e', hp, Option.getD_some] at e
    exact hb i hi pl.2 (by rw [hp, ← e])
  have hN : ∀ b, NS cx σ.s σ.z M w b → NS cx (appU u σ.s) σ.z M w' b := fun b hb => ⟨hb.1, Nat.lt_of_lt_of_le hb.2.1 hsz, fun k c hk hz => hb.2.2 k c (live k hk) hz⟩
  have hw : ∀ b, NS cx σ.s σ.z M w b → w'.heap[b]? = w.heap[b]? := fun b hb => notm b (fun i hi c hM => hb.2.2 _ c (hlive i hi).2 (hlive i hi).1 hM) hb.2.1
  have up : ∀ v x, RR cx σ.s σ.z M w v x → RR cx (appU u σ.s) σ.z M w' v x := fun v x hx => RR.up hN (fun _ _ h => h) hw hx
  refine ⟨?_, fun f v x hx => back_sound h ρ hlive live hsz 1 (.imm f v) _ x rfl hx⟩
  exact { os := hpost.os.trans h.os, tape := hpost.tape.trans h.tape, output := hpost.output.trans h.output, defers := h.defers, argz := h.argz, argM := h.argM
          size := Nat.le_trans h.size hsz
          frame := fun b hb hi => by
            refine (notm b (fun i hi' c hM => ?_) (Nat.lt_of_lt_of_le hb h.size)).trans (h.frame b hb hi)
            cases hk : ρ[i] with
            | own t => rw [hk] at hM; have := h.own t _ (hk ▸ (hlive i hi').2) hM; simp only at this; omega
            | arg j =>
              rw [hk] at hM
              have hj := h.arg j (hk ▸ (hlive i hi').2)
              obtain ⟨c', hc'⟩ := h.argM j hj
              rw [hM] at hc'
              simp only [Option.some.injEq, Prod.mk.injEq] at hc'
              exact hi j hj hc'.1.symm
          plc := fun k hk => h.plc k (live k hk)
          box := fun k b pl hb hp => by
            rcases look k with ⟨i, hi, rfl, cs, hcs, hbk⟩ | ⟨hne, he⟩
            · simp only at hb
              rw [hcs] at hb
              simp only [Option.some.injEq] at hb; subst hb
              have hb' := getB_argS_at S' 0 i (by omega)
              rw [Nat.zero_add] at hb'
              have hp' : lentM M ρ (.arg i) = some pl := by simp only [lentM]; rw [List.getElem?_eq_getElem hi, Option.bind_some]; exact hp
              obtain ⟨vs, e, hh, hr, h1⟩ := hpost.box _ _ _ hb' hp'
              obtain ⟨e1, e2⟩ := backL_spec hbk
              refine ⟨vs, e, hh, ⟨by rw [e1]; exact hr.1, fun j hj hj' => ?_⟩, h1⟩
              exact back_sound h ρ hlive live hsz 4 _ _ _ (e2 j (by omega) hj) (hr.2 j (by omega) hj')
            · simp only at hb
              rw [he] at hb
              have hbx := h.box k b pl hb hp
              refine hbx.up up (notm pl.1 (fun i hi c hM => ?_) hbx.lt)
              exact hne i hi (h.inj k ρ[i] pl.1 pl.2 c (by simp [hb]) (hlive i hi).2 hp hM)
          own := fun t pl ht hp => h.own t pl (live _ ht) hp
          arg := fun i hi => h.arg i (live _ hi)
          inj := fun k k' b c c' hk hk' => h.inj k k' b c c' (live _ hk) (live _ hk')
          env := fun t => up _ _ (h.env t) }
end
end Go.Proofs.Ytopgmopdjiahmaa.Lg

/- Every operation, calls too, as the machine carries it out. Conditions: none; plain lemmas. -/
set_option linter.unusedVariables false
set_option linter.unusedSimpArgs false
namespace Go.Proofs.Ytopgmopdjiahmaa.Lg
open Go Go.RowKit

section
variable {P : Program} {cx : Cx} {σ : St} {M : Pl} {a : Act} {w : World} {o : Oper}

theorem run_call {c : Call} {f : Operand} {g : FuncId} {caps : List Value} (hop : o.op = .call c) (hc : c.callee = .value f) (hf : a.eval f = .func (.func g) #[] caps.toArray) (hcal : Callable P g) :
    (execOp a.eval o).run P w = .ok (.enter g (c.args.toList.map a.eval ++ caps).toArray) w := by
  obtain ⟨fn, h1, h2, h3⟩ := hcal
  have h2' : ¬ (fn.name = "runtime.NumGoroutine") := by simpa using h2
  have : (#[] ++ Array.map a.eval c.args) ++ caps.toArray = (c.args.toList.map a.eval ++ caps).toArray := by
    apply Array.toList_inj.1; simp
  have h3' : ¬ (fn.body = none) := by intro e; rw [e] at h3; simp at h3
  have h5 : (callFunc g (c.args.toList.map a.eval ++ caps).toArray).run P w = .ok (.enter g (c.args.toList.map a.eval ++ caps).toArray) w := by
    simp [callFunc, h1, h2', h3']
  simp only [execOp, hop, resolve, hc, hf, Deferred.ofValue, Sem.run_bind, Sem.run_pure, Result.andThen_ok, invoke, pure_bind]
  rw [this]; exact h5

theorem put_some_or (h : Inv cx σ M a w) {dst : Option Nat} (hd : ∀ d, dst = some d → d < a.tmps.size) {lv : LV} {x : Value} (hx : RR cx σ.s σ.z M w lv x) :
    Inv cx { σ with e := match dst.map (fun d => (d, lv)) with | some (t, v) => putE σ.e t v | none => σ.e } M (a.put dst x) w := by
  cases dst with
  | none => exact h
  | some d => exact h.val (hd d rfl) hx

theorem put_size (a : Act) (d : Option Nat) (v : Value) : (a.put d v).tmps.size = a.tmps.size := by
  cases d <;> simp [Act.put]

theorem give_rep (h : Inv cx σ M a w) (ρ : List Key) (l : List Key) : ∀ {ls args : List LV} {xs : List Value} (hh : Inv cx { σ with z := addZ l σ.z } M a w) (hlive : ∀ i (hi : i < ρ.length), ρ[i] ∉ addZ l σ.z ∧ (getB σ.s ρ[i]).isSome = true) {S : List (List LV)} (hS : S.length = ρ.length),
    giveL σ ρ ls = some args → (∀ k ∈ giveK σ ρ ls, k ∈ l) → Rows2 (RR cx σ.s σ.z M w) ls xs → Rows2 (RR (lentCx hh ρ hlive) (argS 0 S) [] (lentM M ρ) w) args xs
  | [], args, xs, hh, hlive, S, hS, hg, hk, hr => by
    simp only [giveL, Option.some.injEq] at hg; subst hg
    have : xs = [] := List.eq_nil_of_length_eq_zero hr.1
    subst this; exact Rows2.nil
  | b :: ls, args, xs, hh, hlive, S, hS, hg, hk, hr => by
    simp only [giveL] at hg
    split at hg
    · rename_i c r e1 e2
      simp only [Option.some.injEq] at hg; subst hg
      cases xs with
      | nil => have := hr.1; simp at this
      | cons x xs =>
        obtain ⟨h1, h2⟩ := hr.of_cons
        refine Rows2.cons ?_ (give_rep h ρ l hh hlive hS e2 (fun k hk' => hk k (by simp only [giveK, List.mem_append]; exact .inr hk')) h2)
        have up : RR cx σ.s (addZ l σ.z) M w b x := RR.up (fun b hb => hb.addZ l) (fun _ _ h => h) (fun _ _ => rfl) h1
        split at e1
        · rename_i lv hlv
          simp only [Option.some.injEq] at e1; subst e1
          exact lend_sound hh ρ hlive hS 4 _ _ _ hlv up
        · rename_i hno
          obtain ⟨⟨f, v⟩, hp, rfl⟩ := Option.map_eq_some_iff.1 e1
          have := res_sound h l depth0 b f v x hp (fun k hk' => hk k (by simp only [giveK, hno, List.mem_append]; exact .inl hk')) h1
          refine RepL.imm_iff.2 ?_
          have weak : ∀ j, NS cx σ.s (addZ l σ.z) M w j → NS (lentCx hh ρ hlive) (argS 0 S) [] (lentM M ρ) w j := fun j hj => lent_NS hh ρ hlive hS hj
          cases f
          · exact this.mono weak (fun _ _ _ _ h => h)
          · exact this.mono (fun j hj => weak j hj.1) (fun _ _ _ _ h => h)
    · cases hg

theorem giveK_own (h : Inv cx σ M a w) (ρ : List Key) : ∀ {ls args : List LV}, giveL σ ρ ls = some args → ∀ k ∈ giveK σ ρ ls, k.isOwn = true
  | [], args, hg, k, hk => by simp [giveK] at hk
  | b :: ls, args, hg, k, hk => by
    simp only [giveL] at hg
    split at hg
    · rename_i c r e1 e2
      simp only [giveK, List.mem_append] at hk
      rcases hk with hk | hk
      · split at hk
        · cases hk
        · rename_i hno
          rw [hno] at e1
          obtain ⟨p, hp, _⟩ := Option.map_eq_some_iff.1 e1
          exact keys_own h depth0 b p hp k hk
      · exact giveK_own h ρ e2 k hk
    · cases hg

theorem trCall_value {h : Hints} {c : Call} {mo : MO} {dst : Option Nat} (htr : trCall P h c dst = some mo) (hc : mo.isCall = true) : ∃ f fx xs, c.callee = .value f ∧ trX f = some fx ∧ trXs c.args.toList = some xs ∧ (mo = .call dst fx xs ∨ ∃ ρ, mo = .callB dst fx xs ρ) := by
  unfold trCall at htr
  split at htr
  · split at htr
    · split at htr
      · obtain ⟨x', hx, rfl⟩ := Option.map_eq_some_iff.1 htr; simp [MO.isCall] at hc
      · obtain ⟨x', hx, rfl⟩ := Option.map_eq_some_iff.1 htr; simp [MO.isCall] at hc
      · cases htr
    · cases htr
  · split at htr
    · split at htr
      · split at htr
        · split at htr
          · split at htr
            · split at htr
              · simp only [Option.some.injEq] at htr; subst htr; simp [MO.isCall] at hc
              · cases htr
            · cases htr
          · cases htr
        · cases htr
      · cases htr
    · cases htr
  · split at htr
    · simp only [Option.some.injEq] at htr; subst htr; simp [MO.isCall] at hc
    · cases htr
  · split at htr
    · simp only [Option.some.injEq] at htr; subst htr; simp [MO.isCall] at hc
    · cases htr
  · rename_i f hcal
    split at htr
    · rename_i fx xs hf hxs
      split at htr
      · rename_i ρ hρ
        simp only [Option.some.injEq] at htr
        exact ⟨f, fx, xs, hcal, hf, hxs, .inr ⟨ρ, htr.symm⟩⟩
      · simp only [Option.some.injEq] at htr
        exact ⟨f, fx, xs, hcal, hf, hxs, .inl htr.symm⟩
    · cases htr
  · cases htr

theorem trOp_call {h : Hints} {mo : MO} (htr : trOp P h o = some mo) (hc : mo.isCall = true) : (∃ c f fx xs, o.op = .call c ∧ c.callee = .value f ∧ trX f = some fx ∧ trXs c.args.toList = some xs ∧ (mo = .call o.dst fx xs ∨ ∃ ρ, mo = .callB o.dst fx xs ρ)) ∨
    (∃ x x', o.op = .panic x ∧ trX x = some x' ∧ mo = .pan x') := by
  unfold trOp at htr
  split at htr
  case h_24 x _ hop => obtain ⟨x', hx, rfl⟩ := Option.map_eq_some_iff.1 htr; exact .inr ⟨_, x', hop, hx, rfl⟩
  case h_25 c hop =>
    obtain ⟨f, fx, xs, h1, h2, h3, h4⟩ := trCall_value htr hc
    exact .inl ⟨_, f, fx, xs, hop, h1, h2, h3, h4⟩
  all_goals exfalso
  all_goals (repeat' (split at htr))
  all_goals first
    | (cases htr; done)
    | (simp only [Option.some.injEq] at htr; subst htr; simp [MO.isCall] at hc; done)
    | (obtain ⟨x', hx, rfl⟩ := Option.map_eq_some_iff.1 htr; simp [MO.isCall] at hc; done)
    | (obtain ⟨x', hx, rfl⟩ := Option.map_eq_some_iff.1 htr; revert hc; split <;> simp [MO.isCall])

theorem emptyS {cx : Cx} {M : Pl} {w : World} : argS 0 [] = ([] : List (Key × Box)) := rfl

/-- **An operation, calls too**, as the machine carries it out. -/
theorem sat_goes {hts : Hints} {mo : MO} {E : Eff} {p : Option TypeId} (htr : trOp P hts o = some mo) (hsat : Sat P σ mo E p) (hI : Inv cx σ M a w) (hd : ∀ d, o.dst = some d → d < a.tmps.size)
    (hM : ∀ d, mo.news = some d → M (.own d) = none) {K : Act → World → Prop} {Q : Exit → Act → World → Prop}
    (hK : p = none → ∀ a' w' M', Inv cx (σ.app E) M' a' w' → a'.tmps.size = a.tmps.size → (∀ k, M k = none → (∀ d, o.dst = some d → k ≠ .own d) → M' k = none) → K a' w')
    (hQ : ∀ t, p = some t → ∀ a' w' M', Inv cx (σ.app E) M' a' w' → Q (.panic [{ v := .iface t (.agg #[]), recovered := false }]) a' w') : o.wp P a w K Q := by
  cases hc : mo.isCall with
  | false =>
    have hs : aop σ mo = some E ∧ p = none := by
      cases mo <;> first | exact hsat | (simp [MO.isCall] at hc)
    obtain ⟨ha, hp⟩ := hs
    obtain ⟨r, w', M', hrun, hr, hI', hM'⟩ := op_sound htr hc ha hI hd hM
    have := hK hp _ _ _ hI' (put_size _ _ _) hM'
    unfold Oper.wp
    rw [hrun]
    rcases hr with rfl | ⟨v, rfl⟩
    · exact this
    · exact this
  | true =>
    rcases trOp_call htr hc with ⟨c, f, fx, xs, hop, hcal, hf, hxs, hmo⟩ | ⟨x, x', hop, hx, rfl⟩
    · have hfx := trX_rep hI hf
      have hargs := trXs_rep hI hxs
      rcases hmo with rfl | ⟨ρ, rfl⟩
      · -- what is handed on is nobody's any more
        obtain ⟨g, caps, fl, vs, fr, v, hev, hres, ⟨hcallable, _, hdoes⟩, rfl, rfl⟩ := hsat
        rw [hev] at hfx
        generalize hfv : a.eval f = fv at *
        cases hfx with
        | fn g caps cvs hcl hcr =>
          have hlvs : Rows2 (RR cx σ.s σ.z M w) (xs.map σ.ev ++ caps) (c.args.toList.map a.eval ++ cvs) := hargs.append ⟨hcl, hcr⟩
          have hown := keysL_own hI depth0 _ _ hres
          have hI1 := hI.addZ hown
          obtain ⟨hlen, hrep⟩ := resL_reps' hI hlvs hres (fun k hk => hk)
          have hlive : ∀ i (hi : i < ([] : List Key).length), ([] : List Key)[i] ∉ addZ (keysL (Lg.keys σ.s depth0) (xs.map σ.ev ++ caps)) σ.z ∧ (getB σ.s ([] : List Key)[i]).isSome = true := fun i hi => by simp at hi
          have hpre := lent_inv hI1 [] hlive (S := []) List.nodup_nil rfl
          have hvals : Rows2 (RR (lentCx hI1 [] hlive) (argS 0 []) [] (lentM M []) w) (vs.map (.imm false)) (c.args.toList.map a.eval ++ cvs) := by
            refine ⟨by rw [List.length_map, hlen], fun j hj hj' => ?_⟩
            simp only [List.getElem_map]
            refine RepL.imm_iff.2 ?_
            have := hrep j (by simpa using hj) hj'
            cases fl
            · exact this.mono (fun b hb => lent_NS hI1 [] hlive (S := []) rfl hb) (fun _ _ _ _ h => h)
            · exact this.mono (fun b hb => lent_NS hI1 [] hlive (S := []) rfl hb.1) (fun _ _ _ _ h => h)
          have hcalls := hdoes (lentCx hI1 [] hlive) (lentM M []) (c.args.toList.map a.eval ++ cvs) rfl hpre hvals
          unfold Oper.wp
          rw [run_call hop hcal hfv hcallable, Oper.upon_enter]
          refine hcalls.mono fun e w' hpost => ?_
          obtain ⟨hp1, x, rfl, hx⟩ := hpost
          obtain ⟨hI2, hback⟩ := back_inv hI1 [] hlive (S' := []) (u := []) List.nodup_nil rfl hp1
          exact hK rfl _ _ M (put_some_or hI2 hd (hback fr v x hx)) (put_size _ _ _) (fun k hk _ => hk)
      · -- what is lent comes back
        obtain ⟨g, caps, args, S, o', S', u, hev, hnd, hdisj, hgive, hS, ⟨hcallable, hSl, hdoes⟩, hu, hE⟩ := hsat
        rw [hev] at hfx
        generalize hfv : a.eval f = fv at *
        cases hfx with
        | fn g caps cvs hcl hcr =>
          have hlvs : Rows2 (RR cx σ.s σ.z M w) (xs.map σ.ev ++ caps) (c.args.toList.map a.eval ++ cvs) := hargs.append ⟨hcl, hcr⟩
          have hown := giveK_own hI ρ hgive
          have hI1 := hI.addZ hown
          obtain ⟨hSlen, hSspec⟩ := lendBoxes_spec hS
          have hlive : ∀ i (hi : i < ρ.length), ρ[i] ∉ addZ (giveK σ ρ (xs.map σ.ev ++ caps)) σ.z ∧ (getB σ.s ρ[i]).isSome = true := fun i hi => by
            obtain ⟨hz, cs, hcs, _⟩ := hSspec i hi (by omega)
            refine ⟨fun hk => ?_, by simp [hcs]⟩
            rcases (mem_addZ _ _ _).1 hk with hk | hk
            · exact hdisj _ (List.getElem_mem hi) hk
            · exact hz hk
          have hS1 : lendBoxes { σ with z := addZ (giveK σ ρ (xs.map σ.ev ++ caps)) σ.z } ρ ρ = some S := by
            have gen : ∀ (r : List Key) (S : List (List LV)), (∀ k ∈ r, k ∉ addZ (giveK σ ρ (xs.map σ.ev ++ caps)) σ.z) → lendBoxes σ ρ r = some S → lendBoxes { σ with z := addZ (giveK σ ρ (xs.map σ.ev ++ caps)) σ.z } ρ r = some S := by
              intro r
              induction r with
              | nil => intro S _ h; exact h
              | cons k r ih =>
                intro S hk h
                simp only [lendBoxes] at h ⊢
                rw [if_neg (hk k List.mem_cons_self)]
                split at h
                · cases h
                · rename_i hz
                  split at h
                  · rename_i cs hb
                    split at h
                    · rename_i c' l e1 e2
                      have hb' : St.box { σ with z := addZ (giveK σ ρ (xs.map σ.ev ++ caps)) σ.z } k = some (.var cs) := hb
                      rw [hb']
                      simp only [e1, ih l (fun k' hk' => hk k' (List.mem_cons_of_mem _ hk')) e2]
                      exact h
                    · cases h
                  · cases h
            exact gen ρ S (fun k hk => by
              obtain ⟨i, hi, rfl⟩ := List.getElem_of_mem hk
              exact (hlive i hi).1) hS
          have hpre := lent_inv hI1 ρ hlive hnd hS1
          have hvals := give_rep hI ρ _ hI1 hlive hSlen hgive (fun k hk => hk) hlvs
          have hcalls := hdoes (lentCx hI1 ρ hlive) (lentM M ρ) (c.args.toList.map a.eval ++ cvs) (by simp [lentCx, hSlen]) hpre hvals
          unfold Oper.wp
          rw [run_call hop hcal hfv hcallable, Oper.upon_enter]
          refine hcalls.mono fun e w' hpost => ?_
          obtain ⟨hp1, hend⟩ := hpost
          obtain ⟨hI2, hback⟩ := back_inv hI1 ρ hlive hnd hu hp1
          cases o' with
          | ret fr v =>
            obtain ⟨rfl, rfl⟩ := hE
            obtain ⟨x, rfl, hx⟩ := hend
            exact hK rfl _ _ M (put_some_or hI2 hd (hback fr v x hx)) (put_size _ _ _) (fun k hk _ => hk)
          | pan t =>
            obtain ⟨rfl, rfl⟩ := hE
            simp only [Ended] at hend
            subst hend
            exact hQ t rfl _ _ M hI2
    · obtain ⟨t, hev, rfl, rfl⟩ := hsat
      have hR := trX_rep hI hx
      rw [hev] at hR
      have hv : a.eval x = .iface t (.agg #[]) := by generalize a.eval x = u at *; cases hR; rfl
      unfold Oper.wp
      have hrun : (execOp a.eval o).run P w = .halt (.panic (.iface t (.agg #[]))) w := by
        simp [execOp, hop, hv, Instr.panic]
      rw [hrun]
      exact hQ t rfl a w M hI
end
end Go.Proofs.Ytopgmopdjiahmaa.Lg

/- An operation hangs on what it reads alone; operations that touch nothing of one another's may change places. Conditions: none; plain lemmas. -/
set_option linter.unusedVariables false
set_option linter.unusedSimpArgs false
namespace Go.Proofs.Ytopgmopdjiahmaa.Lg
open Go Go.RowKit

def Opd.tmps : Opd → List Nat
  | .t n => [n]
  | .c _ => []
def tmpsL : List Opd → List Nat
  | [] => []
  | x :: r => x.tmps ++ tmpsL r
def tmpsO : Option Opd → List Nat
  | none => []
  | some x => x.tmps
def MO.reads : MO → List Nat
  | .mv _ x | .box _ x | .boxc _ x | .load _ x _ | .nilc _ x | .fad _ x _ | .fld _ x _ _ | .ext _ x _ | .un _ _ x | .conv _ _ x | .len _ x | .slen _ x | .mkif _ _ x | .pan x | .mksl _ x _ | .mkrow _ x _ _ _ => x.tmps
  | .pick _ c a b => c.tmps ++ (a.tmps ++ b.tmps)
  | .alloc _ _ => []
  | .build _ _ ps => tmpsL (ps.map fun p => p.2.2)
  | .lit _ _ ps => tmpsL ps
  | .store x y _ | .iad _ x y _ | .aad _ x y _ _ | .idx _ x y _ _ _ | .bin _ _ x y | .binb _ _ x y | .append _ x y _ _ _ => x.tmps ++ y.tmps
  | .mx _ xs | .mn _ xs | .mkfn _ _ xs => tmpsL xs
  | .cut _ x lo hi _ => x.tmps ++ (tmpsO lo ++ tmpsO hi)
  | .call _ f xs | .callB _ f xs _ => f.tmps ++ tmpsL xs

def Eff.wr (E : Eff) : List Key := E.u.map (·.1)
def Eff.touch (E : Eff) : List Key := E.r ++ (E.wr ++ E.z)

/-- Two states say the same of these temporaries and boxes. -/
structure Agree (σ σ' : St) (ts : List Nat) (ks ws : List Key) : Prop where
  t : ∀ n ∈ ts, σ'.get n = σ.get n
  b : ∀ k ∈ ks, getB σ'.s k = getB σ.s k
  z : ∀ k ∈ ws, (k ∈ σ'.z ↔ k ∈ σ.z)

theorem Agree.sub {σ σ' : St} {ts ts' : List Nat} {ks ks' ws ws' : List Key} (h : Agree σ σ' ts ks ws) (h1 : ∀ n ∈ ts', n ∈ ts) (h2 : ∀ k ∈ ks', k ∈ ks) (h3 : ∀ k ∈ ws', k ∈ ws) : Agree σ σ' ts' ks' ws' :=
  ⟨fun n hn => h.t n (h1 n hn), fun k hk => h.b k (h2 k hk), fun k hk => h.z k (h3 k hk)⟩

theorem ev_agree {σ σ' : St} {x : Opd} (h : ∀ n ∈ x.tmps, σ'.get n = σ.get n) : σ'.ev x = σ.ev x := by
  cases x with
  | t n => exact h n (by simp [Opd.tmps])
  | c v => rfl
theorem evL_agree {σ σ' : St} : ∀ {xs : List Opd}, (∀ n ∈ tmpsL xs, σ'.get n = σ.get n) → xs.map σ'.ev = xs.map σ.ev
  | [], _ => rfl
  | x :: r, h => by
    simp only [List.map_cons]
    rw [ev_agree (fun n hn => h n (by simp only [tmpsL, List.mem_append]; exact .inl hn)), evL_agree (fun n hn => h n (by simp only [tmpsL, List.mem_append]; exact .inr hn))]

section res
variable {s s' : List (Key × Box)}
theorem resL_local {f f' : LV → Option (Bool × IV)} : ∀ {l : List LV} {p : Bool × List IV}, (∀ a ∈ l, ∀ q, f a = some q → f' a = some q) → resL f l = some p → resL f' l = some p
  | [], p, _, h => h
  | a :: r, p, hf, h => by
    obtain ⟨b, v, c, us, h1, h2, e1, e2⟩ := resL_cons (g := p.1) (vs := p.2) h
    have h1' := hf a List.mem_cons_self _ h1
    have h2' := resL_local (fun a ha => hf a (List.mem_cons_of_mem _ ha)) h2
    simp only [resL, h1', h2', ← e1, ← e2]
theorem resLL_local {f f' : LV → Option (Bool × IV)} : ∀ {l : List (List LV)} {p : Bool × List (List IV)}, (∀ a ∈ l.flatten, ∀ q, f a = some q → f' a = some q) → resLL f l = some p → resLL f' l = some p
  | [], p, _, h => h
  | a :: r, p, hf, h => by
    obtain ⟨b, v, c, us, h1, h2, e1, e2⟩ := resLL_cons (g := p.1) (vs := p.2) h
    have h1' := resL_local (f' := f') (fun x hx => hf x (by rw [List.flatten_cons]; exact List.mem_append.2 (.inl hx))) h1
    have h2' := resLL_local (f' := f') (fun x hx => hf x (by rw [List.flatten_cons]; exact List.mem_append.2 (.inr hx))) h2
    simp only [resLL, h1', h2', ← e1, ← e2]
theorem keysL_local {f f' : LV → List Key} : ∀ {l : List LV}, (∀ a ∈ l, f' a = f a) → keysL f' l = keysL f l
  | [], _ => rfl
  | a :: r, h => by simp only [keysL]; rw [h a List.mem_cons_self, keysL_local (fun b hb => h b (List.mem_cons_of_mem _ hb))]
theorem keysLL_local {f f' : LV → List Key} : ∀ {l : List (List LV)}, (∀ a ∈ l.flatten, f' a = f a) → keysLL f' l = keysLL f l
  | [], _ => rfl
  | a :: r, h => by
    simp only [keysLL]
    rw [keysL_local (fun b hb => h b (by rw [List.flatten_cons]; exact List.mem_append.2 (.inl hb))), keysLL_local (fun b hb => h b (by rw [List.flatten_cons]; exact List.mem_append.2 (.inr hb)))]

theorem res_local : ∀ (n : Nat) (lv : LV), (∀ k ∈ keys s n lv, getB s' k = getB s k) → (∀ p, res s n lv = some p → res s' n lv = some p) ∧ keys s' n lv = keys s n lv := by
  intro n
  induction n with
  | zero => intro lv _; exact ⟨fun p h => h, rfl⟩
  | succ n ih =>
    intro lv hk
    cases lv with
    | undef => exact ⟨fun p h => h, rfl⟩
    | fn g c => exact ⟨fun p h => h, rfl⟩
    | unitI t => exact ⟨fun p h => h, rfl⟩
    | imm f v => exact ⟨fun p h => h, rfl⟩
    | nils => exact ⟨fun p h => h, rfl⟩
    | agg cs =>
      have hk' : ∀ a ∈ cs, ∀ k ∈ keys s n a, getB s' k = getB s k := fun a ha k hk1 => hk k (by simp only [keys]; exact keysL_mem ha hk1)
      refine ⟨fun p hp => ?_, by simp only [keys]; exact keysL_local fun a ha => (ih a (hk' a ha)).2⟩
      simp only [res] at hp ⊢
      split at hp
      · rename_i f vs hr
        rw [resL_local (fun a ha q => (ih a (hk' a ha)).1 q) hr]; exact hp
      · cases hp
    | tup cs =>
      have hk' : ∀ a ∈ cs, ∀ k ∈ keys s n a, getB s' k = getB s k := fun a ha k hk1 => hk k (by simp only [keys]; exact keysL_mem ha hk1)
      refine ⟨fun p hp => ?_, by simp only [keys]; exact keysL_local fun a ha => (ih a (hk' a ha)).2⟩
      simp only [res] at hp ⊢
      split at hp
      · rename_i f vs hr
        rw [resL_local (fun a ha q => (ih a (hk' a ha)).1 q) hr]; exact hp
      · cases hp
    | loc k off =>
      have hb : getB s' k = getB s k := hk k (by simp only [keys]; split <;> simp)
      refine ⟨fun p hp => ?_, ?_⟩
      · simp only [res, hb] at hp ⊢
        split at hp
        · rename_i cells hc
          have hk' : ∀ a ∈ cells, ∀ k ∈ keys s n a, getB s' k = getB s k := fun a ha k' hk1 => hk k' (by simp only [keys, hc]; exact List.mem_cons_of_mem _ (keysL_mem ha hk1))
          split at hp
          · rename_i f vs hr
            simp only [hc, resL_local (fun a ha q => (ih a (hk' a ha)).1 q) hr]; exact hp
          · cases hp
        · cases hp
      · simp only [keys, hb]
        cases hc : getB s k with
        | none => rfl
        | some b =>
          cases b with
          | row e sz es => rfl
          | var cells =>
            simp only
            rw [keysL_local fun a ha => (ih a (fun k' hk1 => hk k' (by simp only [keys, hc]; exact List.mem_cons_of_mem _ (keysL_mem ha hk1)))).2]
    | row k m =>
      have hb : getB s' k = getB s k := hk k (by simp only [keys]; split <;> simp)
      refine ⟨fun p hp => ?_, ?_⟩
      · simp only [res, hb] at hp ⊢
        split at hp
        · rename_i e sz elems hc
          have hk' : ∀ a ∈ elems.flatten, ∀ k ∈ keys s n a, getB s' k = getB s k := fun a ha k' hk1 => hk k' (by simp only [keys, hc]; exact List.mem_cons_of_mem _ (keysLL_mem ha hk1))
          split at hp
          · rename_i hl
            split at hp
            · rename_i f vs hr
              simp only [hc, hl, if_true, resLL_local (fun a ha q => (ih a (hk' a ha)).1 q) hr]; exact hp
            · cases hp
          · cases hp
        · cases hp
      · simp only [keys, hb]
        cases hc : getB s k with
        | none => rfl
        | some b =>
          cases b with
          | var cells => rfl
          | row e sz es =>
            simp only
            rw [keysLL_local fun a ha => (ih a (fun k' hk1 => hk k' (by simp only [keys, hc]; exact List.mem_cons_of_mem _ (keysLL_mem ha hk1)))).2]

theorem resL_keys {n : Nat} {l : List LV} (h : ∀ k ∈ keysL (keys s n) l, getB s' k = getB s k) : (∀ p, resL (res s n) l = some p → resL (res s' n) l = some p) ∧ keysL (keys s' n) l = keysL (keys s n) l :=
  ⟨fun p hp => resL_local (fun a ha q => (res_local n a (fun k hk => h k (keysL_mem ha hk))).1 q) hp, keysL_local fun a ha => (res_local n a (fun k hk => h k (keysL_mem ha hk))).2⟩
end res

theorem resAll_local {σ σ' : St} : ∀ {l : List LV} {p : Bool × List (List IV)}, (∀ k ∈ keysL (fun a => keysL (keys σ.s depth0) (a.cells.getD [])) l, getB σ'.s k = getB σ.s k) → resAll σ l = some p →
    resAll σ' l = some p ∧ keysL (fun a => keysL (keys σ'.s depth0) (a.cells.getD [])) l = keysL (fun a => keysL (keys σ.s depth0) (a.cells.getD [])) l
  | [], p, _, h => ⟨h, rfl⟩
  | a :: r, p, hk, h => by
    obtain ⟨cs, b, v, c, us, h0, h1, h2, e1, e2⟩ := resAll_cons (g := p.1) (vs := p.2) h
    have hk1 : ∀ k ∈ keysL (keys σ.s depth0) cs, getB σ'.s k = getB σ.s k := fun k hk' => hk k (by simp only [keysL, h0, Option.getD_some, List.mem_append]; exact .inl hk')
    obtain ⟨g1, g2⟩ := resL_keys hk1
    obtain ⟨g3, g4⟩ := resAll_local (fun k hk' => hk k (by simp only [keysL, List.mem_append]; exact .inr hk')) h2
    refine ⟨by simp only [resAll, h0, g1 _ h1, g3, ← e1, ← e2], ?_⟩
    simp only [keysL, h0, Option.getD_some, g2, g4]

theorem lendBoxes_local {σ σ' : St} {ρ : List Key} : ∀ {r : List Key} {S : List (List LV)}, (∀ k ∈ r, getB σ'.s k = getB σ.s k ∧ (k ∈ σ'.z ↔ k ∈ σ.z)) → lendBoxes σ ρ r = some S → lendBoxes σ' ρ r = some S
  | [], S, _, h => h
  | k :: r, S, hk, h => by
    obtain ⟨hb, hz⟩ := hk k List.mem_cons_self
    simp only [lendBoxes] at h ⊢
    split at h
    · cases h
    · rename_i hnz
      rw [if_neg (fun hc => hnz (hz.1 hc))]
      have hb' : σ'.box k = σ.box k := hb
      rw [hb']
      split at h
      · rename_i cs hc
        split at h
        · rename_i c l e1 e2
          simp only [e1, lendBoxes_local (fun k hk' => hk k (List.mem_cons_of_mem _ hk')) e2]; exact h
        · cases h
      · cases h
theorem give_local {σ σ' : St} {ρ : List Key} : ∀ {ls args : List LV}, (∀ k ∈ giveK σ ρ ls, getB σ'.s k = getB σ.s k) → giveL σ ρ ls = some args → giveL σ' ρ ls = some args ∧ giveK σ' ρ ls = giveK σ ρ ls
  | [], args, _, h => ⟨h, rfl⟩
  | b :: ls, args, hk, h => by
    simp only [giveL] at h ⊢
    split at h
    · rename_i c r e1 e2
      obtain ⟨g1, g2⟩ := give_local (fun k hk' => hk k (by simp only [giveK, List.mem_append]; exact .inr hk')) e2
      simp only [g1, giveK, g2]
      cases hl : lend ρ 4 b with
      | some l => simp only [hl] at e1 ⊢; simp only [Option.some.injEq] at e1 h; subst e1; exact ⟨by rw [← h], trivial⟩
      | none =>
        simp only [hl] at e1 ⊢
        obtain ⟨p, hp, rfl⟩ := Option.map_eq_some_iff.1 e1
        obtain ⟨g3, g4⟩ := res_local (s := σ.s) (s' := σ'.s) depth0 b (fun k hk' => hk k (by simp only [giveK, hl, List.mem_append]; exact .inl hk'))
        rw [g3 p hp, g4]
        exact ⟨h, rfl⟩
    · cases h

theorem fill_agree {σ σ' : St} (ps : List (Nat × Nat × Opd)) (h : ∀ n ∈ tmpsL (ps.map fun p => p.2.2), σ'.get n = σ.get n) : (ps.map fun (o, n, x) => (o, n, σ'.ev x)) = ps.map fun (o, n, x) => (o, n, σ.ev x) := by
  induction ps with
  | nil => rfl
  | cons p r ih =>
    obtain ⟨o, n, x⟩ := p
    simp only [List.map_cons, tmpsL, List.mem_append] at h ⊢
    rw [ev_agree (fun n hn => h n (.inl hn)), ih (fun n hn => h n (.inr hn))]

/-- **What an operation does hangs on what it reads alone.** -/
theorem Sat.local {P : Program} {σ σ' : St} {o : MO} {E : Eff} {p : Option TypeId} (h : Sat P σ o E p) (ha : Agree σ σ' o.reads E.touch E.wr) : Sat P σ' o E p := by
  have t2 : ∀ {x y : Opd}, (∀ n ∈ x.tmps ++ y.tmps, σ'.get n = σ.get n) → σ'.ev x = σ.ev x ∧ σ'.ev y = σ.ev y := fun {x y} h =>
    ⟨ev_agree fun n hn => h n (List.mem_append.2 (.inl hn)), ev_agree fun n hn => h n (List.mem_append.2 (.inr hn))⟩
  cases o with
  | mv d x => have := ev_agree ha.t; simp only [Sat, aop, this] at h ⊢; exact h
  | pick d c x y =>
    have e1 := ev_agree (x := c) fun n hn => ha.t n (List.mem_append.2 (.inl hn))
    obtain ⟨e2, e3⟩ := t2 (x := x) (y := y) fun n hn => ha.t n (List.mem_append.2 (.inr hn))
    simp only [Sat, aop, e1, e2, e3] at h ⊢; exact h
  | box d x => have := ev_agree ha.t; simp only [Sat, aop, this] at h ⊢; exact h
  | boxc d x =>
    have hev := ev_agree (x := x) ha.t
    obtain ⟨h1, h2⟩ := h
    refine ⟨?_, h2⟩
    simp only [aop, hev] at h1 ⊢
    split at h1
    · rename_i cs hcs
      split at h1
      · rename_i f vs hr
        simp only [Option.some.injEq] at h1; subst h1
        obtain ⟨g1, g2⟩ := resL_keys (s := σ.s) (s' := σ'.s) (n := depth0) (l := cs) fun k hk => ha.b k (by simp only [Eff.touch, List.mem_append]; exact .inl hk)
        simp only [hcs, g1 _ hr, g2]
      · cases h1
    · cases h1
  | alloc d zs => exact h
  | build d zs ps =>
    have := fill_agree (σ := σ) (σ' := σ') ps ha.t
    simp only [Sat, aop, this] at h ⊢; exact h
  | lit d sz ps =>
    have hev := evL_agree (σ := σ) (σ' := σ') (xs := ps) ha.t
    obtain ⟨h1, h2⟩ := h
    refine ⟨?_, h2⟩
    simp only [aop, hev] at h1 ⊢
    split at h1
    · rename_i f vs hr
      split at h1
      · rename_i hall
        simp only [Option.some.injEq] at h1; subst h1
        obtain ⟨g1, g2⟩ := resAll_local (σ := σ) (σ' := σ') (fun k hk => ha.b k (by simp only [Eff.touch, List.mem_append]; exact .inl hk)) hr
        simp only [g1, g2, hall, if_true]
      · cases h1
    · cases h1
  | load d x n =>
    have hev := ev_agree (x := x) ha.t
    obtain ⟨h1, h2⟩ := h
    refine ⟨?_, h2⟩
    simp only [aop, hev] at h1 ⊢
    split at h1
    · exact h1
    · rename_i k off he
      split at h1
      · rename_i b hb
        split at h1
        · rename_i v hv
          simp only [Option.some.injEq] at h1; subst h1
          have : σ'.box k = σ.box k := ha.b k (by simp [Eff.touch])
          simp only [this, hb, hv]
        · cases h1
      · cases h1
    · cases h1
  | store x y n =>
    obtain ⟨e1, e2⟩ := t2 (x := x) (y := y) ha.t
    obtain ⟨h1, h2⟩ := h
    refine ⟨?_, h2⟩
    simp only [aop, e1, e2] at h1 ⊢
    split at h1
    · rename_i k off he
      split at h1
      · cases h1
      · rename_i hz
        split at h1
        · rename_i cs hb
          split at h1
          · rename_i vs hv
            split at h1
            · rename_i hc
              simp only [Option.some.injEq] at h1; subst h1
              have hb' : σ'.box k = σ.box k := ha.b k (by simp [Eff.touch])
              have hz' : ¬ k ∈ σ'.z := fun hc => hz ((ha.z k (by simp [Eff.wr])).1 hc)
              simp only [hb', hb, hv, if_neg hz', if_pos hc]
            · cases h1
          · cases h1
        · cases h1
    · cases h1
  | nilc d x => have := ev_agree ha.t; simp only [Sat, aop, this] at h ⊢; exact h
  | fad d x o => have := ev_agree ha.t; simp only [Sat, aop, this] at h ⊢; exact h
  | fld d x o n => have := ev_agree ha.t; simp only [Sat, aop, this] at h ⊢; exact h
  | iad d x i sz => obtain ⟨e1, e2⟩ := t2 (x := x) (y := i) ha.t; simp only [Sat, aop, e1, e2] at h ⊢; exact h
  | aad d x i l sz => obtain ⟨e1, e2⟩ := t2 (x := x) (y := i) ha.t; simp only [Sat, aop, e1, e2] at h ⊢; exact h
  | idx d x i l sz n => obtain ⟨e1, e2⟩ := t2 (x := x) (y := i) ha.t; simp only [Sat, aop, e1, e2] at h ⊢; exact h
  | ext d x i => have := ev_agree ha.t; simp only [Sat, aop, this] at h ⊢; exact h
  | bin d op x y => obtain ⟨e1, e2⟩ := t2 (x := x) (y := y) ha.t; simp only [Sat, aop, e1, e2] at h ⊢; exact h
  | binb d op x y => obtain ⟨e1, e2⟩ := t2 (x := x) (y := y) ha.t; simp only [Sat, aop, e1, e2] at h ⊢; exact h
  | un d op x => have := ev_agree ha.t; simp only [Sat, aop, this] at h ⊢; exact h
  | conv d k x => have := ev_agree ha.t; simp only [Sat, aop, this] at h ⊢; exact h
  | len d x => have := ev_agree ha.t; simp only [Sat, aop, this] at h ⊢; exact h
  | slen d x => have := ev_agree ha.t; simp only [Sat, aop, this] at h ⊢; exact h
  | mkif d t x => have := ev_agree ha.t; simp only [Sat, aop, this] at h ⊢; exact h
  | pan x => have := ev_agree ha.t; simp only [Sat, this] at h ⊢; exact h
  | append d x y e sz by_ =>
    obtain ⟨e1, e2⟩ := t2 (x := x) (y := y) ha.t
    obtain ⟨h1, h2⟩ := h
    refine ⟨?_, h2⟩
    simp only [aop, e1, e2] at h1 ⊢
    split at h1
    · rename_i f news he
      split at h1
      · rename_i hc
        simp only [hc, if_true]
        split at h1
        · exact h1
        · rename_i k n he2
          split at h1
          · cases h1
          · rename_i hz
            split at h1
            · rename_i e' sz' es hb
              split at h1
              · rename_i hc2
                simp only [Option.some.injEq] at h1; subst h1
                have hb' : σ'.box k = σ.box k := ha.b k (by simp [Eff.touch])
                have hz' : ¬ k ∈ σ'.z := fun hc => hz ((ha.z k (by simp [Eff.wr])).1 hc)
                simp only [hb', hb, if_neg hz', if_pos hc2]
              · cases h1
            · cases h1
        · cases h1
      · cases h1
    · cases h1
  | mx d xs => have := evL_agree (σ := σ) (σ' := σ') (xs := xs) ha.t; simp only [Sat, aop, this] at h ⊢; exact h
  | mn d xs => have := evL_agree (σ := σ) (σ' := σ') (xs := xs) ha.t; simp only [Sat, aop, this] at h ⊢; exact h
  | mkfn d f xs => have := evL_agree (σ := σ) (σ' := σ') (xs := xs) ha.t; simp only [Sat, aop, this] at h ⊢; exact h
  | mksl d n zs => have := ev_agree ha.t; simp only [Sat, aop, this] at h ⊢; exact h
  | mkrow d n e sz by_ => have := ev_agree ha.t; simp only [Sat, aop, this] at h ⊢; exact h
  | cut d x lo hi sz =>
    have e1 := ev_agree (x := x) fun n hn => ha.t n (List.mem_append.2 (.inl hn))
    have e2 : ∀ l, lo = some l → σ'.ev l = σ.ev l := fun l hl => ev_agree fun n hn => ha.t n (List.mem_append.2 (.inr (List.mem_append.2 (.inl (by rw [hl]; exact hn)))))
    have e3 : ∀ l, hi = some l → σ'.ev l = σ.ev l := fun l hl => ev_agree fun n hn => ha.t n (List.mem_append.2 (.inr (List.mem_append.2 (.inr (by rw [hl]; exact hn)))))
    cases lo <;> cases hi <;> simp only [Sat, aop, e1] at h ⊢
    · exact h
    · rw [e3 _ rfl]; exact h
    · rw [e2 _ rfl]; exact h
    · rw [e2 _ rfl, e3 _ rfl]; exact h
  | call d f xs =>
    have e1 := ev_agree (x := f) fun n hn => ha.t n (List.mem_append.2 (.inl hn))
    have e2 := evL_agree (σ := σ) (σ' := σ') (xs := xs) fun n hn => ha.t n (List.mem_append.2 (.inr hn))
    obtain ⟨g, caps, fl, vs, fr, v, h1, h2, h3, h4, h5⟩ := h
    subst h4
    obtain ⟨g1, g2⟩ := resL_keys (s := σ.s) (s' := σ'.s) (n := depth0) (l := xs.map σ.ev ++ caps) fun k hk => ha.b k (by simp only [Eff.touch, List.mem_append]; exact .inl hk)
    exact ⟨g, caps, fl, vs, fr, v, by rw [e1]; exact h1, by rw [e2]; exact g1 _ h2, h3, by rw [e2, g2], h5⟩
  | callB d f xs ρ =>
    have e1 := ev_agree (x := f) fun n hn => ha.t n (List.mem_append.2 (.inl hn))
    have e2 := evL_agree (σ := σ) (σ' := σ') (xs := xs) fun n hn => ha.t n (List.mem_append.2 (.inr hn))
    obtain ⟨g, caps, args, S, o', S', u, h1, h2, h3, h4, h5, h6, h7, h8⟩ := h
    have hu := (backBoxes_spec h7).2.1
    have hr : E.r = ρ ++ giveK σ ρ (xs.map σ.ev ++ caps) ∧ E.u = u := by
      cases o' with
      | ret fr v => obtain ⟨rfl, _⟩ := h8; exact ⟨rfl, rfl⟩
      | pan t => obtain ⟨rfl, _⟩ := h8; exact ⟨rfl, rfl⟩
    obtain ⟨g1, g2⟩ := give_local (σ := σ) (σ' := σ') (ρ := ρ) (ls := xs.map σ.ev ++ caps) (fun k hk => ha.b k (by simp only [Eff.touch, hr.1, List.mem_append]; exact .inl (.inr hk))) h4
    have g3 := lendBoxes_local (σ := σ) (σ' := σ') (ρ := ρ) (r := ρ) (fun k hk => ⟨ha.b k (by simp only [Eff.touch, hr.1, List.mem_append]; exact .inl (.inl hk)), ha.z k (by rw [Eff.wr, hr.2, hu]; exact hk)⟩) h5
    refine ⟨g, caps, args, S, o', S', u, by rw [e1]; exact h1, h2, by rw [e2, g2]; exact h3, by rw [e2]; exact g1, g3, h6, h7, ?_⟩
    rw [e2, g2]; exact h8

end Go.Proofs.Ytopgmopdjiahmaa.Lg

/- Groups of operations, in whatever order they may come. Conditions: none; plain definitions and lemmas. -/
set_option linter.unusedVariables false
set_option linter.unusedSimpArgs false
namespace Go.Proofs.Ytopgmopdjiahmaa.Lg
open Go Go.RowKit

/-- An operation with its guard: a temporary, and what it must hold. -/
structure MG where
  g : Option (Nat × Bool)
  o : MO

/-- what stands where an operation was not carried out -/
def dead : LV := .imm true (.tup [])
def yes : LV → Option (Option Bool)
  | .imm _ (.bool c) => some (some c)
  | .imm _ (.tup []) => some none
  | _ => none
def undefEff (o : MO) : Eff := { d := o.dst.map fun d => (d, dead), u := [], z := [], r := [] }

def SatG (P : Program) (σ : St) (m : MG) (E : Eff) (p : Option TypeId) : Prop := match m.g with
  | none => Sat P σ m.o E p
  | some (t, b) => ∃ c, yes (σ.get t) = some c ∧ ((c = some b ∧ Sat P σ m.o E p) ∨ (c ≠ some b ∧ E = undefEff m.o ∧ p = none))

def MG.reads (m : MG) : List Nat := (match m.g with | none => [] | some (t, _) => [t]) ++ m.o.reads

theorem SatG.local {P : Program} {σ σ' : St} {m : MG} {E : Eff} {p : Option TypeId} (h : SatG P σ m E p) (ha : Agree σ σ' m.reads E.touch E.wr) : SatG P σ' m E p := by
  unfold SatG at h ⊢
  have hr : Agree σ σ' m.o.reads E.touch E.wr := ha.sub (fun n hn => List.mem_append.2 (.inr hn)) (fun _ h => h) (fun _ h => h)
  split at h
  · exact h.local hr
  · rename_i t b hg
    obtain ⟨c, h1, h2⟩ := h
    refine ⟨c, by rw [ha.t t (by simp [MG.reads, hg])]; exact h1, ?_⟩
    rcases h2 with ⟨h2, h3⟩ | h2
    · exact .inl ⟨h2, h3.local hr⟩
    · exact .inr h2

theorem aop_dst {σ : St} {o : MO} {E : Eff} (h : aop σ o = some E) {d : Nat} {v : LV} (hd : E.d = some (d, v)) : o.dst = some d := by
  have hv : ∀ {d' : Nat} {lv : LV}, val d' lv = some E → d' = d := fun hv => by
    rw [val_eff hv] at hd
    simp only [Option.some.injEq, Prod.mk.injEq] at hd
    exact hd.1
  cases o <;> simp only [aop] at h <;> simp only [MO.dst]
  all_goals (repeat' (split at h))
  all_goals first
    | (cases h; done)
    | (rw [hv h]; done)
    | (simp only [Option.some.injEq] at h; subst h; simp only [Option.some.injEq, Prod.mk.injEq, reduceCtorEq] at hd; rw [hd.1]; done)
    | (simp only [Option.some.injEq] at h; subst h; simp at hd; done)

theorem Sat.dst {P : Program} {σ : St} {o : MO} {E : Eff} {p : Option TypeId} (h : Sat P σ o E p) {d : Nat} {v : LV} (hd : E.d = some (d, v)) : o.dst = some d := by
  cases hc : o.isCall with
  | false =>
    have hs : aop σ o = some E := by cases o <;> first | exact h.1 | (simp [MO.isCall] at hc)
    exact aop_dst hs hd
  | true =>
    cases o <;> simp [MO.isCall] at hc
    · obtain ⟨t, _, rfl, _⟩ := h; cases hd
    · obtain ⟨g, caps, fl, vs, fr, v', _, _, _, rfl, _⟩ := h
      simp only [Option.map_eq_some_iff, Prod.mk.injEq] at hd
      obtain ⟨d', h1, rfl, _⟩ := hd
      exact h1
    · obtain ⟨g, caps, args, S, o', S', u, _, _, _, _, _, _, _, h8⟩ := h
      cases o' with
      | ret fr v' =>
        obtain ⟨rfl, _⟩ := h8
        simp only [Option.map_eq_some_iff, Prod.mk.injEq] at hd
        obtain ⟨d', h1, rfl, _⟩ := hd
        exact h1
      | pan t => obtain ⟨rfl, _⟩ := h8; cases hd
theorem SatG.dst {P : Program} {σ : St} {m : MG} {E : Eff} {p : Option TypeId} (h : SatG P σ m E p) {d : Nat} {v : LV} (hd : E.d = some (d, v)) : m.o.dst = some d := by
  unfold SatG at h
  split at h
  · exact h.dst hd
  · obtain ⟨c, _, h2⟩ := h
    rcases h2 with ⟨_, h3⟩ | ⟨_, rfl, _⟩
    · exact h3.dst hd
    · simp only [undefEff, Option.map_eq_some_iff, Prod.mk.injEq] at hd
      obtain ⟨d', h1, rfl, _⟩ := hd
      exact h1

/-! ### States that say the same -/
structure Same (σ σ' : St) : Prop where
  t : ∀ n, σ'.get n = σ.get n
  b : ∀ k, getB σ'.s k = getB σ.s k
  z : ∀ k, k ∈ σ'.z ↔ k ∈ σ.z
theorem Same.refl (σ : St) : Same σ σ := ⟨fun _ => rfl, fun _ => rfl, fun _ => Iff.rfl⟩
theorem Same.trans {a b c : St} (h : Same a b) (k : Same b c) : Same a c := ⟨fun n => (k.t n).trans (h.t n), fun n => (k.b n).trans (h.b n), fun n => (k.z n).trans (h.z n)⟩
theorem Same.symm {a b : St} (h : Same a b) : Same b a := ⟨fun n => (h.t n).symm, fun n => (h.b n).symm, fun n => (h.z n).symm⟩
theorem Same.agree {σ σ' : St} (h : Same σ σ') (ts : List Nat) (ks ws : List Key) : Agree σ σ' ts ks ws := ⟨fun n _ => h.t n, fun k _ => h.b k, fun k _ => h.z k⟩

theorem get_app (σ : St) (E : Eff) (n : Nat) : (σ.app E).get n = match E.d with | some (t, v) => if t = n then v else σ.get n | none => σ.get n := by
  unfold St.app St.get
  split
  · rename_i t v h
    simp only [h, getE_put]
  · rename_i h; simp [h]
theorem appU_other : ∀ (u : List (Key × Option Box)) (s : List (Key × Box)) (k : Key), k ∉ u.map (·.1) → getB (appU u s) k = getB s k
  | [], s, k, _ => rfl
  | (k', none) :: u, s, k, h => by
    simp only [List.map_cons, List.mem_cons, not_or] at h
    simp only [appU]
    rw [appU_other u _ k h.2, getB_del, if_neg (Ne.symm h.1)]
  | (k', some b) :: u, s, k, h => by
    simp only [List.map_cons, List.mem_cons, not_or] at h
    simp only [appU]
    rw [appU_other u _ k h.2, getB_set, if_neg (Ne.symm h.1)]
theorem appU_congr : ∀ (u : List (Key × Option Box)) (s s' : List (Key × Box)) (k : Key), getB s k = getB s' k → getB (appU u s) k = getB (appU u s') k
  | [], s, s', k, h => h
  | (k', none) :: u, s, s', k, h => by simp only [appU]; exact appU_congr u _ _ k (by rw [getB_del, getB_del, h])
  | (k', some b) :: u, s, s', k, h => by simp only [appU]; exact appU_congr u _ _ k (by rw [getB_set, getB_set, h])

theorem Same.app {σ σ' : St} (h : Same σ σ') (E : Eff) : Same (σ.app E) (σ'.app E) :=
  ⟨fun n => by rw [get_app, get_app]; split <;> simp [h.t], fun k => appU_congr _ _ _ k (h.b k), fun k => by simp only [St.app, mem_addZ]; rw [h.z k]⟩

/-- Two that touch nothing of one another's. -/
structure Ind (m m' : MG) (E F : Eff) : Prop where
  t1 : ∀ d, m.o.dst = some d → d ∉ m'.reads
  t2 : ∀ d, m'.o.dst = some d → d ∉ m.reads
  t3 : ∀ d, m.o.dst = some d → m'.o.dst ≠ some d
  k1 : ∀ k ∈ E.wr, k ∉ F.touch
  k2 : ∀ k ∈ F.wr, k ∉ E.touch

theorem Eff.wr_touch (E : Eff) (k : Key) (h : k ∈ E.wr) : k ∈ E.touch := List.mem_append.2 (.inr (List.mem_append.2 (.inl h)))
theorem Eff.z_touch (E : Eff) (k : Key) (h : k ∈ E.z) : k ∈ E.touch := List.mem_append.2 (.inr (List.mem_append.2 (.inr h)))

theorem agree_app {σ : St} {E F : Eff} {ts : List Nat} (h1 : ∀ d v, E.d = some (d, v) → d ∉ ts) (h2 : ∀ k ∈ E.wr, k ∉ F.touch) (h3 : ∀ k ∈ F.wr, k ∉ E.touch) : Agree σ (σ.app E) ts F.touch F.wr where
  t := fun n hn => by
    rw [get_app]
    split
    · rename_i t v h
      rw [if_neg]
      rintro rfl
      exact h1 t v h hn
    · rfl
  b := fun k hk => appU_other _ _ k fun hc => h2 k hc hk
  z := fun k hk => by
    simp only [St.app, mem_addZ]
    exact ⟨fun h => h.resolve_left fun hc => h3 k hk (E.z_touch k hc), .inr⟩

theorem app_comm {σ : St} {E F : Eff} (h0 : ∀ d v d' v', E.d = some (d, v) → F.d = some (d', v') → d ≠ d') (h2 : ∀ k ∈ E.wr, k ∉ F.touch) : Same ((σ.app E).app F) ((σ.app F).app E) where
  t := fun n => by
    simp only [get_app]
    cases hE : E.d with
    | none => rfl
    | some e =>
      cases hF : F.d with
      | none => rfl
      | some f =>
        obtain ⟨d, v⟩ := e
        obtain ⟨d', v'⟩ := f
        have := h0 d v d' v' hE hF
        by_cases e1 : d = n
        · subst e1
          simp [Ne.symm this]
        · simp [e1]
  b := fun k => by
    show getB (appU E.u (appU F.u σ.s)) k = getB (appU F.u (appU E.u σ.s)) k
    by_cases hk : k ∈ E.wr
    · have hk' : k ∉ F.u.map (·.1) := fun hc => h2 k hk (F.wr_touch k hc)
      rw [appU_other F.u _ k hk']
      exact appU_congr _ _ _ k (appU_other F.u _ k hk')
    · rw [appU_other E.u _ k hk]
      exact (appU_congr _ _ _ k (appU_other E.u _ k hk)).symm
  z := fun k => by
    simp only [St.app, mem_addZ]
    constructor
    · rintro (h | h | h)
      · exact .inr (.inl h)
      · exact .inl h
      · exact .inr (.inr h)
    · rintro (h | h | h)
      · exact .inr (.inl h)
      · exact .inl h
      · exact .inr (.inr h)

/-! ### Chains -/
def Chain (P : Program) (ms : List MG) (Es : Nat → Eff) : List Nat → St → Prop
  | [], _ => True
  | i :: r, σ => (∃ m, ms[i]? = some m ∧ SatG P σ m (Es i) none) ∧ Chain P ms Es r (σ.app (Es i))
def fin (Es : Nat → Eff) : List Nat → St → St
  | [], σ => σ
  | i :: r, σ => fin Es r (σ.app (Es i))

section
variable {P : Program} {ms : List MG} {Es : Nat → Eff}
theorem Chain.same : ∀ {l : List Nat} {σ σ' : St}, Chain P ms Es l σ → Same σ σ' → Chain P ms Es l σ'
  | [], _, _, _, _ => trivial
  | i :: r, σ, σ', h, hs => by
    obtain ⟨⟨m, hm, hsat⟩, h2⟩ := h
    exact ⟨⟨m, hm, hsat.local (hs.agree _ _ _)⟩, Chain.same h2 (hs.app _)⟩
theorem fin_same : ∀ {l : List Nat} {σ σ' : St}, Same σ σ' → Same (fin Es l σ) (fin Es l σ')
  | [], _, _, h => h
  | i :: r, σ, σ', h => fin_same (l := r) (h.app _)

theorem Chain.move {j : Nat} : ∀ {L1 L2 : List Nat} {σ : St}, (∀ i ∈ L1, ∀ m m', ms[i]? = some m → ms[j]? = some m' → Ind m m' (Es i) (Es j)) → Chain P ms Es (L1 ++ j :: L2) σ →
    (∃ m, ms[j]? = some m ∧ SatG P σ m (Es j) none) ∧ Chain P ms Es (L1 ++ L2) (σ.app (Es j)) ∧ Same (fin Es (L1 ++ j :: L2) σ) (fin Es (L1 ++ L2) (σ.app (Es j)))
  | [], L2, σ, _, h => ⟨h.1, h.2, Same.refl _⟩
  | i :: L1, L2, σ, hind, h => by
    obtain ⟨⟨mi, hmi, hsi⟩, h2⟩ := h
    obtain ⟨⟨mj, hmj, hsj⟩, h3, h4⟩ := Chain.move (L1 := L1) (L2 := L2) (fun k hk => hind k (List.mem_cons_of_mem _ hk)) h2
    have hI := hind i List.mem_cons_self mi mj hmi hmj
    have hd0 : ∀ d v d' v', (Es i).d = some (d, v) → (Es j).d = some (d', v') → d ≠ d' := fun d v d' v' e1 e2 e => by
      subst e; exact hI.t3 d (hsi.dst e1) (hsj.dst e2)
    -- j at once
    have hA : Agree σ (σ.app (Es i)) mj.reads (Es j).touch (Es j).wr := agree_app (fun d v hd => hI.t1 d (hsi.dst hd)) hI.k1 hI.k2
    have hA' : Agree (σ.app (Es i)) σ mj.reads (Es j).touch (Es j).wr := ⟨fun n hn => (hA.t n hn).symm, fun k hk => (hA.b k hk).symm, fun k hk => (hA.z k hk).symm⟩
    have hsj' := hsj.local hA'
    -- i behind j
    have hB : Agree σ (σ.app (Es j)) mi.reads (Es i).touch (Es i).wr := agree_app (fun d v hd => hI.t2 d (hsj.dst hd)) hI.k2 hI.k1
    have hsi' := hsi.local hB
    have hcomm := app_comm (σ := σ) hd0 hI.k1
    exact ⟨⟨mj, hmj, hsj'⟩, ⟨⟨mi, hmi, hsi'⟩, h3.same hcomm⟩, h4.trans (fin_same hcomm)⟩
end

/-! ### The machine's state, told by a state that says the same -/
theorem Inv.same {cx : Cx} {σ σ' : St} {M : Pl} {a : Act} {w : World} (h : Inv cx σ M a w) (hs : Same σ σ') : Inv cx σ' M a w := by
  have hN : ∀ b, NS cx σ.s σ.z M w b → NS cx σ'.s σ'.z M w b := fun b hb => ⟨hb.1, hb.2.1, fun k c hk hz => hb.2.2 k c (by rw [hs.b k] at hk; exact hk) (fun hc => hz ((hs.z k).2 hc))⟩
  have up : ∀ v x, RR cx σ.s σ.z M w v x → RR cx σ'.s σ'.z M w v x := fun v x hx => RR.up hN (fun _ _ h => h) (fun _ _ => rfl) hx
  exact { os := h.os, tape := h.tape, output := h.output, size := h.size, frame := h.frame, argM := h.argM, defers := h.defers
          plc := fun k hk => h.plc k (by rw [hs.b k] at hk; exact hk)
          box := fun k b pl hk hM => (h.box k b pl (by rw [hs.b k] at hk; exact hk) hM).up up rfl
          own := fun t pl ht hp => h.own t pl (by rw [hs.b] at ht; exact ht) hp
          arg := fun i hi => h.arg i (by rw [hs.b] at hi; exact hi)
          argz := fun i hi => h.argz i ((hs.z _).1 hi)
          inj := fun k k' b c c' hk hk' => h.inj k k' b c c' (by rw [hs.b] at hk; exact hk) (by rw [hs.b] at hk'; exact hk')
          env := fun t => by have := hs.t t; simp only [St.get] at this; rw [this]; exact up _ _ (h.env t) }

/-! ### From the machine's groups -/
def trG (P : Program) (h : Hints) (ops : Array Oper) (o : Oper) : Option MG := match trOp P h o with
  | some mo => match o.guard with
    | none => some ⟨none, mo⟩
    | some (j, b) => match (ops[j]?).bind (·.dst) with
      | some t => some ⟨some (t, b), mo⟩
      | none => none
  | none => none
def dstOk (n : Nat) (o : Oper) (m : MG) : Bool := (match o.dst with | some d => decide (d < n) && decide (d < 1000) | none => true) && decide (m.o.dst = o.dst)
def trGs (P : Program) (h : Hints) (ops : Array Oper) (n : Nat) : List Oper → Option (List MG)
  | [] => some []
  | o :: r => match trG P h ops o, trGs P h ops n r with
    | some m, some l => if dstOk n o m = true then some (m :: l) else none
    | _, _ => none

theorem trGs_spec {P : Program} {h : Hints} {ops : Array Oper} {n : Nat} : ∀ {l : List Oper} {ms : List MG}, trGs P h ops n l = some ms → ms.length = l.length ∧ ∀ i (hi : i < l.length) (hi' : i < ms.length), trG P h ops l[i] = some ms[i] ∧ (∀ d, l[i].dst = some d → d < n ∧ d < 1000) ∧ ms[i].o.dst = l[i].dst
  | [], ms, hm => by simp only [trGs, Option.some.injEq] at hm; subst hm; exact ⟨rfl, fun i hi => by simp at hi⟩
  | o :: r, ms, hm => by
    simp only [trGs] at hm
    split at hm
    · rename_i m l e1 e2
      split at hm
      · rename_i hc
        simp only [Option.some.injEq] at hm; subst hm
        obtain ⟨h1, h2⟩ := trGs_spec e2
        simp only [dstOk, Bool.and_eq_true, decide_eq_true_eq] at hc
        refine ⟨by simp [h1], fun i hi hi' => ?_⟩
        cases i with
        | zero =>
          refine ⟨e1, fun d hd => ?_, hc.2⟩
          have hd : o.dst = some d := hd
          have := hc.1; rw [hd] at this
          simpa using this
        | succ i => exact h2 i (by simpa using hi) (by simpa using hi')
      · cases hm
    · cases hm

section
variable {P : Program} {hts : Hints} {ops : Array Oper} {cx : Cx} {σ : St} {M : Pl} {a : Act} {w : World}

/-- An operation with its guard. -/
theorem satG_goes {i : Nat} {o : Oper} {m : MG} {E : Eff} {p : Option TypeId} (ho : ops[i]? = some o) (htr : trG P hts ops o = some m) (hsat : SatG P σ m E p) (hI : Inv cx σ M a w) (hd : ∀ d, o.dst = some d → d < a.tmps.size) (hdst : m.o.dst = o.dst)
    (hM : ∀ d, m.o.news = some d → M (.own d) = none) {K : Act → World → Prop} {Q : Exit → Act → World → Prop}
    (hK : p = none → ∀ a' w' M', Inv cx (σ.app E) M' a' w' → a'.tmps.size = a.tmps.size → (∀ k, M k = none → (∀ d, o.dst = some d → k ≠ .own d) → M' k = none) → K a' w')
    (hQ : ∀ t, p = some t → ∀ a' w' M', Inv cx (σ.app E) M' a' w' → Q (.panic [{ v := .iface t (.agg #[]), recovered := false }]) a' w') : wpOp P ops Q i K a w := by
  unfold wpOp
  simp only [ho]
  unfold trG at htr
  split at htr
  · rename_i mo hmo
    split at htr
    · rename_i hg
      simp only [Option.some.injEq] at htr; subst htr
      have hw : Region.wanted o (yielded ops a.tmps) = true := by simp [Region.wanted, hg]
      rw [if_pos hw]
      exact .inl (sat_goes hmo hsat hI hd hM hK hQ)
    · rename_i j b hg
      split at htr
      · rename_i t ht
        simp only [Option.some.injEq] at htr; subst htr
        obtain ⟨c, h1, h2⟩ := hsat
        have henv := hI.env t
        have h1' : yes (getE σ.e t) = some c := h1
        generalize getE σ.e t = lv at henv h1'
        have hy : yielded ops a.tmps j = c := by
          unfold yielded
          rw [ht]
          unfold yes at h1'
          split at h1'
          · rename_i f c'
            simp only [Option.some.injEq] at h1'; subst h1'
            have hv := henv.bool_inv
            have : a.tmps[t]? = some (.bool c') := by
              rw [Array.getD_eq_getD_getElem?] at hv
              cases hx : a.tmps[t]? with
              | none => rw [hx] at hv; simp [undef] at hv
              | some u => rw [hx] at hv; simpa using hv
            simp [this]
          · rename_i f
            simp only [Option.some.injEq] at h1'; subst h1'
            have hv : a.tmps.getD t undef = .tuple #[] := by
              have h3 := RepL.imm_iff.1 henv
              generalize a.tmps.getD t undef = x at h3
              cases h3 with
              | tup cells vs hl hr =>
                have : vs = [] := List.eq_nil_of_length_eq_zero hl
                subst this; rfl
            cases hx : a.tmps[t]? with
            | none => simp [hx]
            | some u =>
              rw [Array.getD_eq_getD_getElem?, hx] at hv
              simp only [Option.getD_some] at hv
              subst hv; simp [hx]
          · cases h1'
        rcases h2 with ⟨hcb, h3⟩ | ⟨hne, rfl, rfl⟩
        · have hw : Region.wanted o (yielded ops a.tmps) = true := by simp [Region.wanted, hg, hy, hcb]
          rw [if_pos hw]
          exact .inl (sat_goes hmo h3 hI hd hM hK hQ)
        · have hw : ¬ (Region.wanted o (yielded ops a.tmps) = true) := by simpa [Region.wanted, hg, hy] using hne
          rw [if_neg hw]
          refine hK rfl _ _ M ?_ (put_size _ _ _) (fun k hk _ => hk)
          have hdst' : mo.dst = o.dst := hdst
          cases hod : o.dst with
          | none =>
            have : σ.app (undefEff mo) = σ := by simp [undefEff, hdst', hod, St.app, appU, addZ]
            rw [this]; exact hI
          | some d =>
            have : σ.app (undefEff mo) = { σ with e := putE σ.e d dead } := by simp [undefEff, hdst', hod, St.app, appU, addZ]
            rw [this]
            exact hI.val (hd d hod) (.fresh _ _ (.tup [] [] rfl (fun j h => by simp at h)))
      · cases htr
  · cases htr
end
end Go.Proofs.Ytopgmopdjiahmaa.Lg
