/- Each operation, one by one: the machine's own does what the abstract one tells. Conditions: none; plain lemmas. -/
import Derived.Test.YtopgmopdjiahmaaDoorLd
set_option linter.unusedVariables false
set_option linter.unusedSimpArgs false
namespace Go.Proofs.YtopgmopdjiahmaaDoor.Lg
open Go Go.RowKit

def valOf : Next → Value
  | .value v => v
  | _ => undef

def OpGoes (P : Program) (cx : Cx) (o : Oper) (a : Act) (w : World) (M : Pl) (σ' : St) : Prop :=
  ∃ r w' M', (execOp a.eval o).run P w = .ok r w' ∧ (r = .skip ∨ ∃ v, r = .value v) ∧ Inv cx σ' M' (a.put o.dst (valOf r)) w' ∧ (∀ k, M k = none → (∀ d, o.dst = some d → k ≠ .own d) → M' k = none)

section
variable {P : Program} {cx : Cx} {σ : St} {M : Pl} {a : Act} {w : World} {o : Oper} {d : Nat}

theorem goes_val (h : Inv cx σ M a w) (ho : o.dst = some d) (hd : d < a.tmps.size) {lv : LV} {v : Value} (hrun : (execOp a.eval o).run P w = .ok (.value v) w) (hv : RR cx σ.s σ.z M w lv v) :
    OpGoes P cx o a w M { σ with e := putE σ.e d lv } :=
  ⟨.value v, w, M, hrun, .inr ⟨v, rfl⟩, by rw [ho]; exact h.val hd hv, fun k hk _ => hk⟩

theorem val_eff {E : Eff} {d : Nat} {lv : LV} (h : val d lv = some E) : E = { d := some (d, lv), u := [], z := [], r := [] } := by
  simp only [val, Option.some.injEq] at h; exact h.symm
theorem app_val (σ : St) (d : Nat) (lv : LV) (r : List Key) : σ.app { d := some (d, lv), u := [], z := [], r := r } = { σ with e := putE σ.e d lv } := rfl

theorem goes_mv (h : Inv cx σ M a w) (ho : o.dst = some d) (hd : d < a.tmps.size) {x : Operand} {y : Opd} (hop : o.op = .move x ∨ o.op = .assign x) (hx : trX x = some y) {E : Eff} (ha : aop σ (.mv d y) = some E) :
    OpGoes P cx o a w M (σ.app E) := by
  simp only [aop] at ha
  rw [val_eff ha]
  refine goes_val h ho hd (v := a.eval x) ?_ (trX_rep h hx)
  rcases hop with hop | hop <;> simp [execOp, hop]

theorem RR.bool_inv {s : List (Key × Box)} {z : List Key} {f b : Bool} {x : Value} (h : RR cx s z M w (.imm f (.bool b)) x) : x = .bool b := by
  have := RepL.imm_iff.1 h
  cases this; rfl
theorem RR.int_inv {s : List (Key × Box)} {z : List Key} {f : Bool} {k : IntKind} {n : Int} {x : Value} (h : RR cx s z M w (.imm f (.int k n)) x) : x = .int k n := by
  have := RepL.imm_iff.1 h
  cases this; rfl
theorem RR.str_inv {s : List (Key × Box)} {z : List Key} {f : Bool} {n : ByteArray} {x : Value} (h : RR cx s z M w (.imm f (.str n)) x) : x = .string n := by
  have := RepL.imm_iff.1 h
  cases this; rfl

theorem goes_pick (h : Inv cx σ M a w) (ho : o.dst = some d) (hd : d < a.tmps.size) {c x y : Operand} {c' x' y' : Opd} (hop : o.op = .pick c x y) (hc : trX c = some c') (hx : trX x = some x') (hy : trX y = some y')
    {E : Eff} (ha : aop σ (.pick d c' x' y') = some E) : OpGoes P cx o a w M (σ.app E) := by
  simp only [aop] at ha
  split at ha
  · rename_i f t hev
    rw [val_eff ha]
    have hcv := trX_rep h hc
    rw [hev] at hcv
    have hcv := hcv.bool_inv
    cases t
    · exact goes_val h ho hd (v := a.eval y) (by simp [execOp, hop, hcv, asBool]) (by simpa using trX_rep h hy)
    · exact goes_val h ho hd (v := a.eval x) (by simp [execOp, hop, hcv, asBool]) (by simpa using trX_rep h hx)
  · cases ha

theorem goes_nilc (h : Inv cx σ M a w) (ho : o.dst = some d) (hd : d < a.tmps.size) {x : Operand} {x' : Opd} (hop : o.op = .nilCheck x) (hx : trX x = some x')
    {E : Eff} (ha : aop σ (.nilc d x') = some E) : OpGoes P cx o a w M (σ.app E) := by
  have hR := trX_rep h hx
  simp only [aop] at ha
  split at ha
  · rename_i f cs off hev
    rw [val_eff ha]
    rw [hev] at hR
    refine goes_val h ho hd (v := a.eval x) ?_ hR
    have := RepL.imm_iff.1 hR
    generalize hg : a.eval x = u at *
    cases this
    simp [execOp, hop, hg]
  · rename_i k off hev
    rw [val_eff ha]
    rw [hev] at hR
    refine goes_val h ho hd (v := a.eval x) ?_ hR
    generalize hg : a.eval x = u at *
    cases hR
    simp [execOp, hop, hg]
  · cases ha

theorem goes_fad (h : Inv cx σ M a w) (ho : o.dst = some d) (hd : d < a.tmps.size) {x : Operand} {x' : Opd} {s : TypeId} {f : Nat} {fs : Array Field} {fl : Field} {n : Nat} (hop : o.op = .fieldAddr s x f) (hx : trX x = some x')
    (hu : P.underlying s = some (.struct fs)) (hf : fs[f]? = some fl) (hn : szOf P fl.type = some n) (hn0 : n ≠ 0)
    {E : Eff} (ha : aop σ (.fad d x' fl.offset) = some E) : OpGoes P cx o a w M (σ.app E) := by
  have hR := trX_rep h hx
  obtain ⟨i, hi, rfl⟩ := Option.map_eq_some_iff.1 hn
  have hfp : ∀ ad : Addr, (fieldPlace ad fl).run P w = .ok (ad.add fl.offset) w := fun ad => by simp [fieldPlace, Go.sizeOf, typeInfo, hi, hn0]
  simp only [aop] at ha
  split at ha
  · rename_i g cs off hev
    rw [val_eff ha]
    rw [hev] at hR
    have hR := RepL.imm_iff.1 hR
    generalize hg : a.eval x = u at *
    cases hR with
    | ptr cells off b o' vs hN hc h1 hr =>
      refine goes_val h ho hd (v := .pointer (some ⟨b, o' + (off + fl.offset), none⟩)) ?_ (RepL.imm_iff.2 (.ptr cs _ b o' vs hN hc h1 hr))
      simp [execOp, hop, hg, Instr.fieldAt, run_underlying hu, hf, Instr.sureAddr, hfp, add_flat, Nat.add_assoc]
  · rename_i k off hev
    rw [val_eff ha]
    rw [hev] at hR
    generalize hg : a.eval x = u at *
    cases hR with
    | loc k off b c hM =>
      refine goes_val h ho hd (v := .pointer (some ⟨b, off + fl.offset, none⟩)) ?_ (.loc k _ b c hM)
      simp [execOp, hop, hg, Instr.fieldAt, run_underlying hu, hf, Instr.sureAddr, hfp, add_flat]
  · cases ha

/-- A row of cells of a value that nobody changes. -/
theorem partI_part {f : Bool} {cs : List IV} {off : Nat} {n : Option Nat} {lv : LV} (h : partI f cs off n = some lv) : ∃ lv', partOf (cs.map (.imm f)) off n = some lv' ∧
    ∀ {cx : Cx} {s : List (Key × Box)} {z : List Key} {M : Pl} {w : World} {x : Value}, RR cx s z M w lv' x → RR cx s z M w lv x := by
  cases n with
  | none => simp only [partI] at h; exact ⟨lv, by simpa [partOf] using h, fun hx => hx⟩
  | some n =>
    simp only [partI] at h
    split at h
    · rename_i hle
      simp only [Option.some.injEq] at h; subst h
      refine ⟨.agg (((cs.map (LV.imm f)).drop off).take n), by simp [partOf, hle], ?_⟩
      intro cx s z M w x hx
      cases hx with
      | agg cells vs hl h1 hr =>
        refine RepL.imm_iff.2 (.agg _ vs (by simpa using hl) h1 fun j hj hj' => ?_)
        have := hr j (by simpa using hj) hj'
        simp only [List.getElem_take, List.getElem_drop, List.getElem_map] at this ⊢
        exact RepL.imm_iff.1 this
    · cases h

theorem load_imm {f : Bool} {cs : List IV} {off : Nat} {x : Value} {s : List (Key × Box)} {z : List Key} (hR : RR cx s z M w (.imm f (.ptr cs off)) x) {t : TypeId} {n : Option Nat} (hn : nOf P t = some n) {lv : LV} (hp : partI f cs off n = some lv) :
    ∃ b o v, x = .pointer (some ⟨b, o, none⟩) ∧ (loadVar t ⟨b, o, none⟩).run P w = .ok v w ∧ RR cx s z M w lv v := by
  have hR := RepL.imm_iff.1 hR
  cases hR with
  | ptr cells off b o' vs hN hc h1 hr =>
    obtain ⟨lv', hp', up⟩ := partI_part hp
    have hrows : Rows2 (RR cx s z M w) (cs.map (.imm f)) ((List.range cs.length).map vs) := by
      refine ⟨by simp, fun j hj hj' => ?_⟩
      simp only [List.getElem_map, List.getElem_range]
      exact RepL.imm_iff.2 (hr j (by simpa using hj))
    obtain ⟨v, hv, hRv⟩ := load_sound (P := P) (w := w) (b := b) (o := o') (fun cs vs h1 h2 => RR.agg cs vs h1 h2) hn hrows (fun v hv => by
        obtain ⟨j, hj, rfl⟩ := List.mem_map.1 hv
        exact h1 j (by simpa using hj)) (fun j v hv => by
        rw [List.getElem?_map, Option.map_eq_some_iff] at hv
        obtain ⟨i, hi, rfl⟩ := hv
        obtain ⟨hi1, rfl⟩ := List.getElem?_eq_some_iff.1 hi
        simp only [List.getElem_range]
        exact hc j (by simpa using hi1)) hp'
    exact ⟨b, o' + off, v, rfl, hv, up hRv⟩

/-- What lies in a box. -/
theorem box_cells (h : Inv cx σ M a w) {k : Key} {bx : Box} (hb : getB σ.s k = some bx) {b c : Nat} (hM : M k = some (b, c)) :
    ∃ vs, Rows2 (RR cx σ.s σ.z M w) bx.flat vs ∧ (∀ v ∈ vs, v.oneCell' = true) ∧ ∀ j v, vs[j]? = some v → w.cell? ⟨b, j, none⟩ = some v := by
  have hbx := h.box k bx _ hb hM
  cases bx with
  | var cs =>
    obtain ⟨vs, e, hh, hr, h1⟩ := hbx
    refine ⟨vs.toList, hr, h1, fun j v hv => ?_⟩
    simp only [World.cell?, hh]
    simpa using hv
  | row e sz es =>
    obtain ⟨xs, hown, hr, hsz, h1⟩ := hbx
    refine ⟨xs, hr, h1, fun j v hv => ?_⟩
    have := hown.cells (g := b) rfl j v hv
    rw [add_flat] at this
    simpa using this

theorem load_loc (h : Inv cx σ M a w) {k : Key} {off : Nat} {x : Value} (hR : RR cx σ.s σ.z M w (.loc k off) x) {bx : Box} (hb : getB σ.s k = some bx) {t : TypeId} {n : Option Nat} (hn : nOf P t = some n) {lv : LV} (hp : partOf bx.flat off n = some lv) :
    ∃ b o v, x = .pointer (some ⟨b, o, none⟩) ∧ (loadVar t ⟨b, o, none⟩).run P w = .ok v w ∧ RR cx σ.s σ.z M w lv v := by
  cases hR with
  | loc k off b c hM =>
    obtain ⟨vs, hr, h1, hc⟩ := box_cells h hb hM
    obtain ⟨v, hv, hRv⟩ := load_sound (P := P) (w := w) (b := b) (o := 0) (fun cs vs h1 h2 => RR.agg cs vs h1 h2) hn hr h1 (fun j v hv => by simpa using hc j v hv) hp
    exact ⟨b, off, v, rfl, by simpa using hv, hRv⟩

theorem goes_load (h : Inv cx σ M a w) (ho : o.dst = some d) (hd : d < a.tmps.size) {x : Operand} {x' : Opd} {t : TypeId} {n : Option Nat} (hop : o.op = .load t x) (hx : trX x = some x') (hn : nOf P t = some n)
    {E : Eff} (ha : aop σ (.load d x' n) = some E) : OpGoes P cx o a w M (σ.app E) := by
  have hR := trX_rep h hx
  simp only [aop] at ha
  split at ha
  · rename_i f cs off hev
    split at ha
    · rename_i lv hp
      rw [val_eff ha]
      rw [hev] at hR
      obtain ⟨b, o', v, hx', hv, hRv⟩ := load_imm hR hn hp
      exact goes_val h ho hd (v := v) (by simp [execOp, hop, hx', Instr.loadAt, Instr.sureAddr, hv]) hRv
    · cases ha
  · rename_i k off hev
    split at ha
    · rename_i bx hb
      split at ha
      · rename_i lv hp
        simp only [Option.some.injEq] at ha; subst ha
        rw [hev] at hR
        obtain ⟨b, o', v, hx', hv, hRv⟩ := load_loc h hR hb hn hp
        exact goes_val h ho hd (v := v) (by simp [execOp, hop, hx', Instr.loadAt, Instr.sureAddr, hv]) hRv
      · cases ha
    · cases ha
  · cases ha

theorem goes_fld (h : Inv cx σ M a w) (ho : o.dst = some d) (hd : d < a.tmps.size) {x : Operand} {x' : Opd} {s : TypeId} {f : Nat} {fs : Array Field} {fl : Field} {n : Option Nat} (hop : o.op = .field s x f) (hx : trX x = some x')
    (hu : P.underlying s = some (.struct fs)) (hf : fs[f]? = some fl) (hn : nOf P fl.type = some n)
    {E : Eff} (ha : aop σ (.fld d x' fl.offset n) = some E) : OpGoes P cx o a w M (σ.app E) := by
  have hR := trX_rep h hx
  simp only [aop] at ha
  split at ha
  · rename_i cs hcs
    split at ha
    · rename_i lv hp
      rw [val_eff ha]
      obtain ⟨vs, hc, hrows, h1⟩ := hR.acells hcs
      obtain ⟨v, hv, hRv⟩ := part_sound (P := P) (w := w) (fun cs vs h1 h2 => RR.agg cs vs h1 h2) hn hrows h1 hp
      refine goes_val h ho hd (v := v) ?_ hRv
      simp [execOp, hop, hc, Instr.field, run_underlying hu, hf, asAgg, hv]
    · cases ha
  · cases ha

theorem goes_ext (h : Inv cx σ M a w) (ho : o.dst = some d) (hd : d < a.tmps.size) {x : Operand} {x' : Opd} {i : Nat} (hop : o.op = .extract x i) (hx : trX x = some x')
    {E : Eff} (ha : aop σ (.ext d x' i) = some E) : OpGoes P cx o a w M (σ.app E) := by
  have hR := trX_rep h hx
  simp only [aop] at ha
  split at ha
  · rename_i vs hev
    split at ha
    · rename_i lv hp
      rw [val_eff ha]
      rw [hev] at hR
      generalize hg : a.eval x = u at *
      cases hR with
      | tup cells xs hl hr =>
        obtain ⟨hi, rfl⟩ := List.getElem?_eq_some_iff.1 hp
        exact goes_val h ho hd (v := xs[i]'(by omega)) (by simp [execOp, hop, hg, Instr.extract, show i < xs.length by omega]) (hr i hi (by omega))
    · cases ha
  · rename_i f vs hev
    split at ha
    · rename_i lv hp
      rw [val_eff ha]
      rw [hev] at hR
      have hR := RepL.imm_iff.1 hR
      generalize hg : a.eval x = u at *
      cases hR with
      | tup cells xs hl hr =>
        obtain ⟨hi, rfl⟩ := List.getElem?_eq_some_iff.1 hp
        exact goes_val h ho hd (v := xs[i]'(by omega)) (by simp [execOp, hop, hg, Instr.extract, show i < xs.length by omega]) (RepL.imm_iff.2 (hr i hi (by omega)))
    · cases ha
  · cases ha

end
end Go.Proofs.YtopgmopdjiahmaaDoor.Lg
