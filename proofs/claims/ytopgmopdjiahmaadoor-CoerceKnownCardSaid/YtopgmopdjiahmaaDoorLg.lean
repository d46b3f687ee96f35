/- Each operation, one by one, third part: what makes memory or writes it. Conditions: none; plain lemmas. -/
import Derived.Test.YtopgmopdjiahmaaDoorLf
set_option linter.unusedVariables false
set_option linter.unusedSimpArgs false
namespace Go.Proofs.YtopgmopdjiahmaaDoor.Lg
open Go Go.RowKit
section
variable {P : Program} {cx : Cx} {σ : St} {M : Pl} {a : Act} {w : World} {o : Oper} {d : Nat}

theorem run_newVar' (t : TypeId) (v : Value) : (newVar t v).run P w = .ok ⟨w.heap.size, 0, none⟩ (w.alloc (.cells v.cells t)) := by
  simp [newVar, newRow]

theorem new_goes (h : Inv cx σ M a w) (ho : o.dst = some d) (hd : d < a.tmps.size) (hk : getB σ.s (.own d) = none) (hM : M (.own d) = none) {cs : List LV} {vs : Array Value} {e : TypeId}
    (hv : Rows2 (RR cx σ.s σ.z M w) cs vs.toList) (h1 : ∀ v ∈ vs.toList, v.oneCell' = true) (hrun : (execOp a.eval o).run P w = .ok (.value (.pointer (some ⟨w.heap.size, 0, none⟩))) (w.alloc (.cells vs e))) :
    OpGoes P cx o a w M (σ.app { d := some (d, .loc (.own d) 0), u := [(.own d, some (.var cs))], z := [], r := [] }) := by
  have hI := h.new hk hM hv h1 (e := e)
  refine ⟨_, _, (fun k => if k = Key.own d then some (w.heap.size, 0) else M k), hrun, .inr ⟨_, rfl⟩, ?_, fun k hk' hne => ?_⟩
  · rw [ho]
    exact hI.val hd (RepL.loc (.own d) 0 w.heap.size 0 (by simp))
  · have := hne d ho
    simp [this, hk']

theorem goes_box (h : Inv cx σ M a w) (ho : o.dst = some d) (hd : d < a.tmps.size) (hk : getB σ.s (.own d) = none) (hM : M (.own d) = none) {x : Operand} {x' : Opd} {t : TypeId} (hop : o.op = .box t x) (hx : trX x = some x')
    {E : Eff} (ha : aop σ (.box d x') = some E) : OpGoes P cx o a w M (σ.app E) := by
  have hR := trX_rep h hx
  simp only [aop] at ha
  split at ha
  · rename_i cs hcs
    simp only [Option.some.injEq] at ha; subst ha
    obtain ⟨h1, h2⟩ := hR.cells hcs
    exact new_goes h ho hd hk hM h1 h2 (e := t) (by simp [execOp, hop, Instr.box, run_newVar'])
  · cases ha

theorem zeroOf_spec {t : TypeId} {zs : List LV} (h : zeroOf P t = some zs) : ∃ i z, P.info? t = some i ∧ i.zero = some z ∧ trVs z.cells.toList = some zs := by
  unfold zeroOf at h
  split at h
  · rename_i i hi
    split at h
    · rename_i z hz
      exact ⟨i, z, hi, hz, h⟩
    · cases h
  · cases h

theorem goes_alloc (h : Inv cx σ M a w) (ho : o.dst = some d) (hd : d < a.tmps.size) (hk : getB σ.s (.own d) = none) (hM : M (.own d) = none) {t : TypeId} {zs : List LV} (hop : o.op = .alloc t) (hz : zeroOf P t = some zs)
    {E : Eff} (ha : aop σ (.alloc d zs) = some E) : OpGoes P cx o a w M (σ.app E) := by
  obtain ⟨i, z, hi, hz0, hz1⟩ := zeroOf_spec hz
  simp only [aop, Option.some.injEq] at ha; subst ha
  obtain ⟨h1, h2⟩ := trVs_rep (w := w) (N := NS cx σ.s σ.z M w) (Nf := NF cx σ.s σ.z M w) (M := M) hz1
  exact new_goes h ho hd hk hM h1 h2 (e := t) (by simp [execOp, hop, Instr.alloc, zeroValue, typeInfo, hi, hz0, run_newVar'])

/-- A new block that nobody will change: the cells that lie in it. -/
theorem imm_cells (h : Inv cx σ M a w) {cs : List LV} {vs : List Value} {f : Bool} {ivs : List IV} {l : List Key} (hr : Rows2 (RR cx σ.s σ.z M w) cs vs) (hres : resL (res σ.s depth0) cs = some (f, ivs)) (hl : ∀ k ∈ keysL (keys σ.s depth0) cs, k ∈ l)
    (hlo : ∀ k ∈ l, k.isOwn = true) (o' : Obj) :
    Inv cx { σ with z := addZ l σ.z } M a (w.alloc o') ∧ ivs.length = vs.length ∧
    ∀ j (h1 : j < ivs.length) (h2 : j < vs.length), RepI (w.alloc o') (if f then NF cx σ.s (addZ l σ.z) M (w.alloc o') else NS cx σ.s (addZ l σ.z) M (w.alloc o')) ivs[j] vs[j] := by
  obtain ⟨h1, h2⟩ := resL_reps' h hr hres hl
  have hI := h.addZ hlo
  refine ⟨hI.grow o', h1, fun j hj hj' => ?_⟩
  have := h2 j hj hj'
  cases f
  · exact this.mono (fun b hb => NS.grow (σ := { σ with z := addZ l σ.z }) hb) (fun b hb o u hu => by rw [← hu]; exact World.cell?_of_block (heap_alloc_old w o' b hb.2.1))
  · exact this.mono (fun b hb => ⟨NS.grow (σ := { σ with z := addZ l σ.z }) hb.1, hb.2.1, fun o => (World.frozen?_of_block (a := ⟨b, o, none⟩) (heap_alloc_old w o' b hb.1.2.1)).trans (hb.2.2 o)⟩) (fun b hb o u hu => by rw [← hu]; exact World.cell?_of_block (heap_alloc_old w o' b hb.1.2.1))

theorem goes_boxc (h : Inv cx σ M a w) (ho : o.dst = some d) (hd : d < a.tmps.size) {x : Operand} {x' : Opd} {t : TypeId} (hop : o.op = .box t x) (hx : trX x = some x')
    {E : Eff} (ha : aop σ (.boxc d x') = some E) : OpGoes P cx o a w M (σ.app E) := by
  have hR := trX_rep h hx
  simp only [aop] at ha
  split at ha
  · rename_i cs hcs
    split at ha
    · rename_i f ivs hres
      simp only [Option.some.injEq] at ha; subst ha
      obtain ⟨hrows, h1⟩ := hR.cells hcs
      have hlo := keysL_own h depth0 cs _ hres
      obtain ⟨hI, hlen, hrep⟩ := imm_cells h hrows hres (fun k hk => hk) hlo (.cells (a.eval x).cells t)
      have hlast := NS.last (σ := { σ with z := addZ (keysL (keys σ.s depth0) cs) σ.z }) (h.addZ hlo) (a.eval x).cells t
      refine ⟨.value (.pointer (some ⟨w.heap.size, 0, none⟩)), w.alloc (.cells (a.eval x).cells t), M, by simp [execOp, hop, Instr.box, run_newVar'], .inr ⟨_, rfl⟩, ?_, fun k hk _ => hk⟩
      rw [ho]
      refine hI.val hd (RepL.imm_iff.2 ?_)
      have hsz : (a.eval x).cells.size = ivs.length := by rw [hlen]; simp
      refine RepI.ptr ivs 0 w.heap.size 0 (fun j => (a.eval x).cells.getD j undef) ?_ (fun j hj => ?_) (fun j hj => ?_) (fun j hj => ?_)
      · cases f
        · exact hlast.1
        · exact hlast
      · have hj' : j < (a.eval x).cells.size := by omega
        rw [World.cell?_alloc_new]
        simp [Array.getD, hj']
      · have hj' : j < (a.eval x).cells.size := by omega
        simp only [Array.getD, hj', dite_true]
        exact h1 _ (by simp)
      · have hj' : j < (a.eval x).cells.size := by omega
        have := hrep j hj (by simpa using hj')
        simpa [Array.getD, hj'] using this
    · cases ha
  · cases ha

/-! ### Literals -/
theorem setAt_len : ∀ (vs : List LV) (cs : List LV) (o : Nat), (setAt cs o vs).length = cs.length
  | [], cs, o => rfl
  | v :: r, cs, o => by simp [setAt, setAt_len r]
def setAtV : List Value → Nat → List Value → List Value
  | cs, _, [] => cs
  | cs, o, v :: r => setAtV (cs.set o v) (o + 1) r
theorem Rows2.setAt {R : LV → Value → Prop} : ∀ {vs : List LV} {us : List Value} {cs : List LV} {xs : List Value} (o : Nat), Rows2 R cs xs → Rows2 R vs us → Rows2 R (Lg.setAt cs o vs) (setAtV xs o us)
  | [], us, cs, xs, o, h, h' => by
    have : us = [] := List.eq_nil_of_length_eq_zero h'.1
    subst this; exact h
  | v :: r, us, cs, xs, o, h, h' => by
    cases us with
    | nil => have := h'.1; simp at this
    | cons u us =>
      obtain ⟨h1, h2⟩ := h'.of_cons
      exact Rows2.setAt (o + 1) (h.set o h1) h2
theorem setAtV_one : ∀ (us : List Value) (xs : List Value) (o : Nat), (∀ v ∈ xs, v.oneCell' = true) → (∀ v ∈ us, v.oneCell' = true) → ∀ v ∈ setAtV xs o us, v.oneCell' = true
  | [], xs, o, h, h' => h
  | u :: us, xs, o, h, h' => setAtV_one us (xs.set o u) (o + 1) (fun v hv => by
      rcases List.mem_or_eq_of_mem_set hv with hv | rfl
      · exact h v hv
      · exact h' _ List.mem_cons_self) (fun v hv => h' v (List.mem_cons_of_mem _ hv))
theorem setAtV_len : ∀ (us : List Value) (xs : List Value) (o : Nat), (setAtV xs o us).length = xs.length
  | [], xs, o => rfl
  | u :: us, xs, o => by simp [setAtV, setAtV_len us]
theorem fold_setAtV (off : Nat) : ∀ (us : List Value) (k : Nat) (xs : Array Value),
    ((us.zipIdx k).foldl (fun cs x => cs.setIfInBounds (off + x.2) x.1) xs).toList = setAtV xs.toList (off + k) us
  | [], k, xs => rfl
  | u :: us, k, xs => by
    simp only [List.zipIdx_cons, List.foldl_cons, setAtV]
    rw [fold_setAtV off us (k + 1)]
    simp [Nat.add_assoc]
theorem fold_setAtV' (off : Nat) (vs : Array Value) (xs : Array Value) :
    (vs.zipIdx.foldl (fun cs (x : Value × Nat) => match x with | (c, j) => cs.setIfInBounds (off + j) c) xs).toList = setAtV xs.toList off vs.toList := by
  have := fold_setAtV off vs.toList 0 xs
  simp only [Nat.add_zero] at this
  rw [← this, ← Array.foldl_toList]
  simp

theorem fill_sound (h : Inv cx σ M a w) (place : Nat → Option (Nat × Nat)) : ∀ {ps : List (Nat × Operand)} {qs : List (Nat × Nat × Opd)} {cs cs' : List LV} {xs : Array Value}, trParts place ps = some qs →
    fillA cs (qs.map fun (o, n, x) => (o, n, σ.ev x)) = some cs' → Rows2 (RR cx σ.s σ.z M w) cs xs.toList → (∀ v ∈ xs.toList, v.oneCell' = true) →
    ∃ ys, Instr.fill place xs (ps.map fun (i, x) => (i, a.eval x)) = some ys ∧ Rows2 (RR cx σ.s σ.z M w) cs' ys.toList ∧ ∀ v ∈ ys.toList, v.oneCell' = true
  | [], qs, cs, cs', xs, hp, hf, hr, h1 => by
    simp only [trParts, Option.some.injEq] at hp; subst hp
    simp only [List.map_nil, fillA, Option.some.injEq] at hf; subst hf
    exact ⟨xs, rfl, hr, h1⟩
  | (i, x) :: ps, qs, cs, cs', xs, hp, hf, hr, h1 => by
    simp only [trParts] at hp
    split at hp
    · rename_i o n x' l e1 e2 e3
      simp only [Option.some.injEq] at hp; subst hp
      simp only [List.map_cons, fillA] at hf
      split at hf
      · rename_i vs hvs
        split at hf
        · rename_i hle
          obtain ⟨hle1, hle2⟩ := hle
          obtain ⟨h3, h4⟩ := (trX_rep h e2).cells hvs
          have hl1 := h3.1
          have hl2 := hr.1
          simp only [Array.length_toList] at hl1 hl2
          have hrows := hr.setAt o h3
          rw [← fold_setAtV'] at hrows
          obtain ⟨ys, hy1, hy2, hy3⟩ := fill_sound h place e3 hf hrows (by rw [fold_setAtV']; exact setAtV_one _ _ _ h1 h4)
          refine ⟨ys, ?_, hy2, hy3⟩
          simp only [List.map_cons, Instr.fill, e1]
          rw [if_neg (by simp; omega)]
          exact hy1
        · cases hf
      · cases hf
    · cases hp

theorem places_spec : ∀ {fs : List Field} {pl : List (Nat × Nat)}, places P fs = some pl → fs.mapM (fun f => (P.info? f.type).map fun i => (f.offset, i.size)) = some pl
  | [], pl, h => by simp only [places, Option.some.injEq] at h; subst h; rfl
  | f :: r, pl, h => by
    simp only [places] at h
    split at h
    · rename_i i l e1 e2
      simp only [Option.some.injEq] at h; subst h
      simp [List.mapM_cons, e1, places_spec e2]
    · cases h

theorem build_goes (h : Inv cx σ M a w) (ho : o.dst = some d) (hd : d < a.tmps.size) {t : TypeId} {ps : Array (Nat × Operand)} (hop : o.op = .build t ps) {place : Nat → Option (Nat × Nat)} {z : Value} {zs : List LV} {qs : List (Nat × Nat × Opd)}
    (hz : trVs z.cells.toList = some zs) (hq : trParts place ps.toList = some qs) (hb : ∀ parts ys, Instr.fill place z.cells parts = some ys → P.built t parts = some ys)
    {E : Eff} (ha : aop σ (.build d zs qs) = some E) : OpGoes P cx o a w M (σ.app E) := by
  simp only [aop] at ha
  split at ha
  · rename_i cs hcs
    rw [val_eff ha]
    obtain ⟨h1, h2⟩ := trVs_rep (w := w) (N := NS cx σ.s σ.z M w) (Nf := NF cx σ.s σ.z M w) (M := M) hz
    obtain ⟨ys, hy1, hy2, hy3⟩ := fill_sound h place hq hcs h1 h2
    refine goes_val h ho hd (v := .agg ys) ?_ (RR.agg cs ys.toList hy2 hy3)
    have := run_build (P := P) w t (ps.map fun (i, x) => (i, a.eval x)) ys (by rw [Array.toList_map]; exact hb _ _ hy1)
    simp [execOp, hop, this]
  · cases ha

theorem goes_build_struct (h : Inv cx σ M a w) (ho : o.dst = some d) (hd : d < a.tmps.size) {t : TypeId} {ps : Array (Nat × Operand)} (hop : o.op = .build t ps) {it : TypeInfo} {fs : Array Field} {z : Value} {pl : List (Nat × Nat)} {zs : List LV} {qs : List (Nat × Nat × Opd)}
    (hi : P.info? t = some it) (hu : P.underlying t = some (.struct fs)) (hz0 : it.zero = some z) (hpl : places P fs.toList = some pl)
    (hz : trVs z.cells.toList = some zs) (hq : trParts (pl[·]?) ps.toList = some qs)
    {E : Eff} (ha : aop σ (.build d zs qs) = some E) : OpGoes P cx o a w M (σ.app E) :=
  build_goes h ho hd hop hz hq (fun parts ys hf => by simp [Program.built, hi, hu, hz0, places_spec hpl, hf]) ha
theorem goes_build_array (h : Inv cx σ M a w) (ho : o.dst = some d) (hd : d < a.tmps.size) {t : TypeId} {ps : Array (Nat × Operand)} (hop : o.op = .build t ps) {it ie : TypeInfo} {n : Nat} {e : TypeId} {z : Value} {zs : List LV} {qs : List (Nat × Nat × Opd)}
    (hi : P.info? t = some it) (hu : P.underlying t = some (.array n e)) (hz0 : it.zero = some z) (hie : P.info? e = some ie)
    (hz : trVs z.cells.toList = some zs) (hq : trParts (fun i => some (i * ie.size, ie.size)) ps.toList = some qs)
    {E : Eff} (ha : aop σ (.build d zs qs) = some E) : OpGoes P cx o a w M (σ.app E) :=
  build_goes h ho hd hop hz hq (fun parts ys hf => by simp [Program.built, hi, hu, hz0, hie, hf]) ha

/-! ### A slice literal -/
theorem resAll_cons {a' : LV} {r : List LV} {g : Bool} {vs : List (List IV)} (h : resAll σ (a' :: r) = some (g, vs)) :
    ∃ cs b v c us, a'.cells = some cs ∧ resL (res σ.s depth0) cs = some (b, v) ∧ resAll σ r = some (c, us) ∧ g = (b && c) ∧ vs = v :: us := by
  simp only [resAll] at h
  split at h
  · rename_i cs hcs
    split at h
    · rename_i b v h1
      split at h
      · rename_i c us h2
        simp only [Option.some.injEq, Prod.mk.injEq] at h
        exact ⟨cs, b, v, c, us, hcs, h1, h2, h.1.symm, h.2.symm⟩
      · cases h
    · cases h
  · cases h

theorem resL_app {f : LV → Option (Bool × IV)} : ∀ (l l' : List LV) b c v us, resL f l = some (b, v) → resL f l' = some (c, us) → resL f (l ++ l') = some (b && c, v ++ us)
  | [], l', b, c, v, us, h, h' => by simp only [resL, Option.some.injEq, Prod.mk.injEq] at h; obtain ⟨rfl, rfl⟩ := h; simpa using h'
  | x :: l, l', b, c, v, us, h, h' => by
    obtain ⟨b1, v1, c1, us1, e1, e2, rfl, rfl⟩ := resL_cons h
    have := resL_app l l' c1 c us1 us e2 h'
    simp only [List.cons_append, resL, e1, this, Bool.and_assoc]

theorem lit_fill (h : Inv cx σ M a w) (sz : Nat) : ∀ (ps : List (Nat × Operand)) (k : Nat) (xs : List Opd) (f : Bool) (vs : List (List IV)) (A : Array Value), trLit k ps = some xs → resAll σ (xs.map σ.ev) = some (f, vs) → (∀ v ∈ vs, v.length = sz) →
    A.size = (k + ps.length) * sz →
    ∃ ys cs us, Instr.fill (fun i => some (i * sz, sz)) A (ps.map fun (i, x) => (i, a.eval x)) = some ys ∧ ys.toList = A.toList.take (k * sz) ++ us ∧ us.length = ps.length * sz ∧
      Rows2 (RR cx σ.s σ.z M w) cs us ∧ (∀ v ∈ us, v.oneCell' = true) ∧ resL (res σ.s depth0) cs = some (f, vs.flatten) ∧ vs.length = ps.length ∧ xs.length = ps.length ∧
      (∀ k ∈ keysL (keys σ.s depth0) cs, k ∈ keysL (fun a => keysL (keys σ.s depth0) (a.cells.getD [])) (xs.map σ.ev))
  | [], k, xs, f, vs, A, hx, hr, hl, hA => by
    simp only [trLit, Option.some.injEq] at hx; subst hx
    simp only [List.map_nil, resAll, Option.some.injEq, Prod.mk.injEq] at hr; obtain ⟨rfl, rfl⟩ := hr
    refine ⟨A, [], [], rfl, ?_, by simp, Rows2.nil, by simp, rfl, rfl, rfl, by simp [keysL]⟩
    rw [List.append_nil, List.take_of_length_le (by simp at hA ⊢; omega)]
  | (i, x) :: ps, k, xs, f, vs, A, hx, hr, hl, hA => by
    simp only [trLit] at hx
    split at hx
    · rename_i hik
      subst hik
      split at hx
      · rename_i x' l e1 e2
        simp only [Option.some.injEq] at hx; subst hx
        simp only [List.map_cons] at hr
        obtain ⟨cs1, b, v, c, us1, hc1, hr1, hr2, rfl, rfl⟩ := resAll_cons hr
        obtain ⟨h3, h4⟩ := (trX_rep h e1).cells hc1
        have hvl : v.length = sz := hl v List.mem_cons_self
        have hcl : cs1.length = sz := by rw [← resL_length hr1, hvl]
        have hul : (a.eval x).cells.size = sz := by have := h3.1; simp at this; omega
        have hA' : A.size = (i + 1 + ps.length) * sz := by rw [hA]; simp [Nat.add_comm, Nat.add_left_comm]
        have hroom : i * sz + sz ≤ A.size := by
          rw [hA']
          have : (i + 1) * sz ≤ (i + 1 + ps.length) * sz := Nat.mul_le_mul_right _ (by omega)
          rw [Nat.add_mul] at this; omega
        obtain ⟨ys, cs, us, hy, hyl, hul', hrows, hone, hres, hlen, hxl, hkeys⟩ := lit_fill h sz ps (i + 1) l c us1
          ((a.eval x).cells.zipIdx.foldl (fun cs (x : Value × Nat) => match x with | (c, j) => cs.setIfInBounds (i * sz + j) c) A) e2 hr2 (fun v hv => hl v (List.mem_cons_of_mem _ hv))
          (by have := fold_setAtV' (i * sz) (a.eval x).cells A
              have := congrArg List.length this
              simp only [Array.length_toList, setAtV_len] at this
              rw [this, hA'])
        refine ⟨ys, cs1 ++ cs, (a.eval x).cells.toList ++ us, ?_, ?_, by simp [hul', hul, Nat.add_mul, Nat.add_comm], h3.append hrows, ?_, ?_, by simp [hlen], by simp [hxl], ?_⟩
        · simp only [List.map_cons, Instr.fill]
          rw [if_neg (by simp; omega)]
          exact hy
        · rw [hyl, fold_setAtV']
          have key : ∀ (us : List Value) (xs : List Value) (o : Nat), o + us.length ≤ xs.length → (setAtV xs o us).take (o + us.length) = xs.take o ++ us := by
            intro us
            induction us with
            | nil => intro xs o _; simp [setAtV]
            | cons u us ih =>
              intro xs o hle
              simp only [setAtV, List.length_cons]
              have := ih (xs.set o u) (o + 1) (by simp at hle ⊢; omega)
              rw [show o + (us.length + 1) = o + 1 + us.length by omega, this]
              have : (xs.set o u).take (o + 1) = xs.take o ++ [u] := by
                rw [List.take_succ_eq_append_getElem (by simp at hle ⊢; omega)]
                simp [List.take_set_of_le]
              rw [this]; simp
          have := key (a.eval x).cells.toList A.toList (i * sz) (by simp; omega)
          simp only [Array.length_toList, hul] at this
          rw [Nat.add_mul, Nat.one_mul, this, List.append_assoc]
        · intro u hu
          rcases List.mem_append.1 hu with hu | hu
          · exact h4 u hu
          · exact hone u hu
        · rw [List.flatten_cons]; exact resL_app _ _ _ _ _ _ hr1 hres
        · intro k' hk'
          have app : ∀ (l l' : List LV), keysL (keys σ.s depth0) (l ++ l') = keysL (keys σ.s depth0) l ++ keysL (keys σ.s depth0) l' := by
            intro l l'
            induction l with
            | nil => rfl
            | cons y l ih => simp [keysL, ih]
          rw [app] at hk'
          simp only [List.map_cons, keysL, List.mem_append, hc1, Option.getD_some]
          rcases List.mem_append.1 hk' with hk' | hk'
          · exact .inl hk'
          · exact .inr (hkeys k' hk')
      · cases hx
    · cases hx

theorem resAll_own (h : Inv cx σ M a w) : ∀ (l : List LV) (p : Bool × List (List IV)), resAll σ l = some p → ∀ k ∈ keysL (fun a => keysL (keys σ.s depth0) (a.cells.getD [])) l, k.isOwn = true
  | [], p, hp, k, hk => by simp [keysL] at hk
  | x :: l, p, hp, k, hk => by
    obtain ⟨cs, b, v, c, us, h1, h2, h3, _, _⟩ := resAll_cons (g := p.1) (vs := p.2) hp
    simp only [keysL, List.mem_append, h1, Option.getD_some] at hk
    rcases hk with hk | hk
    · exact keysL_own h depth0 cs _ h2 k hk
    · exact resAll_own h l _ h3 k hk

/-- A row of cells in a new block: a slice that nobody changes. -/
theorem slice_of_block {N : Nat → Prop} {vs : List (List IV)} {us : List Value} {sz b c : Nat} (hN : N b) (hsz : ∀ v ∈ vs, v.length = sz) (hus : vs.length * sz ≤ us.length) (hm : vs.length ≤ 9223372036854775807) (hc : vs.length ≤ c)
    (hcell : ∀ j v, us[j]? = some v → w.cell? ⟨b, j, none⟩ = some v) (h1 : ∀ v ∈ us, v.oneCell' = true)
    (hrep : ∀ j (h1 : j < vs.flatten.length) (h2 : j < us.length), RepI w N vs.flatten[j] us[j]) : RepI w N (.slice vs) (.slice (some ⟨b, 0, none⟩) vs.length c) := by
  have hfl := flatten_len sz vs hsz
  refine RepI.slice vs b 0 sz c (fun j => us.getD j undef) hN (fun i hi => hsz _ (List.getElem_mem _)) hm hc (fun j hj => ?_) (fun j hj => ?_) (fun i hi j hj => ?_)
  · have hj' : j < us.length := by omega
    have := hcell j us[j] (by simp)
    rw [Nat.zero_add, this]; simp [List.getD_eq_getElem?_getD, hj']
  · have hj' : j < us.length := by omega
    simp only [List.getD_eq_getElem?_getD, List.getElem?_eq_getElem hj', Option.getD_some]
    exact h1 _ (List.getElem_mem _)
  · have h3 := flatten_at sz vs hsz i hi j hj
    obtain ⟨hlt, he⟩ := List.getElem?_eq_some_iff.1 h3
    have hj' : i * sz + j < us.length := by omega
    have := hrep (i * sz + j) hlt hj'
    simpa [he, List.getD_eq_getElem?_getD, hj'] using this

theorem goes_lit (h : Inv cx σ M a w) (ho : o.dst = some d) (hd : d < a.tmps.size) {t e : TypeId} {n : Nat} {ps : Array (Nat × Operand)} {i : TypeInfo} {z : Value} {xs : List Opd} (hop : o.op = .buildSlice t n ps) (hu : P.underlying t = some (.slice e)) (hi : P.info? e = some i) (hz : i.zero = some z)
    (hx : trLit 0 ps.toList = some xs) (hn : xs.length = n) (hn0 : 0 < n) (hs0 : 0 < i.size) (hsm : n * i.size ≤ 16777216)
    {E : Eff} (ha : aop σ (.lit d i.size xs) = some E) : OpGoes P cx o a w M (σ.app E) := by
  simp only [aop] at ha
  split at ha
  · rename_i f vs hres
    split at ha
    · rename_i hall
      simp only [Option.some.injEq] at ha; subst ha
      have hsz : ∀ v ∈ vs, v.length = i.size := fun v hv => by simpa using List.all_eq_true.1 hall v hv
      have hps : ps.toList.length = n := by
        have : ∀ (l : List (Nat × Operand)) (k : Nat) (xs : List Opd), trLit k l = some xs → xs.length = l.length := by
          intro l
          induction l with
          | nil => intro k xs h; simp only [trLit, Option.some.injEq] at h; subst h; rfl
          | cons p l ih =>
            intro k xs h
            obtain ⟨j, x⟩ := p
            simp only [trLit] at h
            split at h
            · split at h
              · rename_i x' l' e1 e2
                simp only [Option.some.injEq] at h; subst h
                simp [ih _ _ e2]
              · cases h
            · cases h
        rw [← this _ _ _ hx, hn]
      obtain ⟨ys, cs, us, hy, hyl, hul, hrows, hone, hres', hlen, hxl, hkeys⟩ := lit_fill h i.size ps.toList 0 xs f vs ((Array.range (n * i.size)).map (z.cells[· % z.cells.size]!)) hx hres hsz (by simp [hps])
      have hlo := resAll_own h _ _ hres
      obtain ⟨hI, hlen2, hrep⟩ := imm_cells h hrows hres' hkeys hlo (.cells ys e)
      have hlast := NS.last (σ := { σ with z := addZ (keysL (fun a => keysL (keys σ.s depth0) (a.cells.getD [])) (xs.map σ.ev)) σ.z }) (h.addZ hlo) ys e
      have hrun := run_buildSlice (P := P) w t e n (ps.map fun (i, x) => (i, a.eval x)) ys i z hu hi hz (by omega) (by have := Nat.mul_pos hn0 hs0; omega) (by rw [Array.toList_map]; exact hy)
      refine ⟨.value (.slice (some ⟨w.heap.size, 0, none⟩) n n), w.alloc (.cells ys e), M, by simp [execOp, hop, hrun], .inr ⟨_, rfl⟩, ?_, fun k hk _ => hk⟩
      rw [ho]
      refine hI.val hd (RepL.imm_iff.2 ?_)
      have hvn : vs.length = n := by rw [hlen, hps]
      rw [← hvn]
      refine slice_of_block ?_ hsz (by rw [hul, hlen]; exact Nat.le_refl _) (by rw [hvn]; have : n * 1 ≤ n * i.size := Nat.mul_le_mul_left _ hs0; omega) (Nat.le_refl _) (fun j v hv => ?_) hone hrep
      · cases f
        · exact hlast.1
        · exact hlast
      · simp only [Nat.zero_mul, List.take_zero, List.nil_append] at hyl
        rw [World.cell?_alloc_new]
        rw [← Array.getElem?_toList, hyl]; exact hv
    · cases ha
  · cases ha

end
end Go.Proofs.YtopgmopdjiahmaaDoor.Lg
