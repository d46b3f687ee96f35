/- Texts of one proof, joined by program (gen/tells.py): Oa Ob Oc Od. Conditions: none; plain definitions and lemmas. -/
import Derived.Test.YtopgmopdjiahmaaH5
import Derived.ProofKit
import Derived.Deep.Slices
import Derived.Test.YtopgmopdjiahmaaChecked
/- Opening an argument: a reading of a type is a tree. Conditions: none; plain lemmas. -/
set_option linter.unusedVariables false
set_option linter.unusedSimpArgs false
set_option maxRecDepth 100000
namespace Go.Proofs.Ytopgmopdjiahmaa.Lg
open Go Go.RowKit Go.Proofs

section
variable {H : Type} {enc : TypeId × Value → H} {w : World} {base : Nat} {spare : Nat → Bool} {held : Bool}
def InW (w : World) (b : Nat) : Prop := b < w.heap.size
theorem cell_in {w : World} {b o : Nat} {v : Value} (h : w.cell? ⟨b, o, none⟩ = some v) : InW w b := by
  unfold World.cell? at h
  split at h
  · rename_i c e f hh
    exact (Array.getElem?_eq_some_iff.1 hh).1
  · cases h

theorem add_none (b o k : Nat) : (⟨b, o, none⟩ : Addr).add k = ⟨b, o + k, none⟩ := by
  unfold Addr.add; split <;> simp_all
theorem pick_list {α : Type} {Q : Nat → α → Prop} : ∀ n : Nat, (∀ i, i < n → ∃ t, Q i t) → ∃ ts : List α, ts.length = n ∧ ∀ i (h : i < ts.length), Q i ts[i]
  | 0, _ => ⟨[], rfl, fun i h => by simp at h⟩
  | n + 1, h => by
    obtain ⟨ts, hl, hq⟩ := pick_list n fun i hi => h i (by omega)
    obtain ⟨t, ht⟩ := h n (by omega)
    refine ⟨ts ++ [t], by simp [hl], fun i hi => ?_⟩
    by_cases hlt : i < ts.length
    · rw [List.getElem_append_left hlt]; exact hq i hlt
    · have : i = n := by simp at hi; omega
      subst this
      rw [List.getElem_append_right (by omega)]
      simpa [hl] using ht
theorem cells25 : Try.prog.cellsOf 25 = 2 := by kernel_rfl
theorem cells22 : Try.prog.cellsOf 22 = 1 := by kernel_rfl
theorem cells23 : Try.prog.cellsOf 23 = 1 := by kernel_rfl
theorem fitsL_of : ∀ {ts : List Ty}, (∀ i (h : i < ts.length), ts[i].fits) → Ty.fitsL ts
  | [], _ => trivial
  | t :: r, h => ⟨h 0 (by simp), fitsL_of fun i hi => h (i + 1) (by simpa using hi)⟩

/-- A reading of a type is a tree. -/
theorem open_ty : ∀ (fuel : Nat) (cs : List Value) (x : DataW H × List MemPlace), DataW.trod enc Try.prog w base spare held fuel 25 cs = some x →
    ∃ t : Ty, t.fits ∧ ∃ v0 v1, cs = [v0, v1] ∧ v0.oneCell' = true ∧ v1.oneCell' = true ∧ RepI w (InW w) (.int .i8 t.k) v0 ∧ RepI w (InW w) (.slice (Ty.cellsL t.ts)) v1 := by
  intro fuel
  induction fuel using Nat.strongRecOn with
  | _ fuel ih =>
    intro cs x h
    obtain ⟨xs, n, rfl, _, hlen, hxl, hall⟩ := DataW.trod_struct Try.underlying25 h
    rw [cells25] at hlen
    obtain ⟨v0, v1, rfl⟩ : ∃ v0 v1, cs = [v0, v1] := by
      match cs, hlen with
      | [a, b], _ => exact ⟨a, b, rfl⟩
    have hx2 : xs.length = 2 := hxl
    have h0 : DataW.trod enc Try.prog w base spare held n 22 (([v0, v1].drop 0).take (Try.prog.cellsOf 22)) = xs[0]? := hall 0 _ rfl
    have h1 : DataW.trod enc Try.prog w base spare held n 23 (([v0, v1].drop 1).take (Try.prog.cellsOf 23)) = xs[1]? := hall 1 _ rfl
    rw [cells22] at h0
    rw [cells23] at h1
    simp only [List.drop_zero, List.take_succ_cons, List.take_zero, List.drop_succ_cons] at h0 h1
    rw [List.getElem?_eq_getElem (by omega)] at h0 h1
    obtain ⟨k, hk, _, _⟩ := DataW.trod_int Try.underlying22 h0
    simp only [List.cons.injEq, and_true] at hk
    subst hk
    rcases DataW.trod_slice Try.underlying23 h1 with ⟨hv, _⟩ | ⟨a, len, cap, elems, rest, n', rfl, hv, _, hb, hlc, hcap, hel, helem, _⟩
    · simp only [List.cons.injEq, and_true] at hv
      subst hv
      exact ⟨.mk k [], ⟨by simp, trivial⟩, _, _, rfl, rfl, rfl, .int _ _, .slice0 none 0⟩
    · simp only [List.cons.injEq, and_true] at hv
      subst hv
      rw [cells25] at helem
      have hkid : ∀ i, i < len → ∃ t : Ty, t.fits ∧ ∃ u0 u1, w.cell? ((a.add (i * 2)).add 0) = some u0 ∧ w.cell? ((a.add (i * 2)).add 1) = some u1 ∧ u0.oneCell' = true ∧ u1.oneCell' = true ∧ RepI w (InW w) (.int .i8 t.k) u0 ∧ RepI w (InW w) (.slice (Ty.cellsL t.ts)) u1 := by
        intro i hi
        have he := helem i hi
        rw [List.getElem?_eq_getElem (by omega)] at he
        obtain ⟨cs', hc, hd⟩ := Option.bind_eq_some_iff.1 he
        obtain ⟨_, hcl, hcell⟩ := World.cells?_some hc
        obtain ⟨t, hf, u0, u1, rfl, o0, o1, r0, r1⟩ := ih n' (by omega) cs' _ hd
        exact ⟨t, hf, u0, u1, by simpa [Addr.add] using hcell 0 (by omega), by simpa using hcell 1 (by omega), o0, o1, r0, r1⟩
      obtain ⟨ts, hts, hq⟩ := pick_list len hkid
      refine ⟨.mk k ts, ⟨by rw [hts]; simp [maxLen] at hcap; omega, fitsL_of fun i hi => (hq i hi).1⟩, _, _, rfl, rfl, rfl, .int _ _, ?_⟩
      simp only [Ty.ts]
      by_cases h00 : len = 0
      · have : ts = [] := List.eq_nil_of_length_eq_zero (by omega)
        subst this; subst h00; exact .slice0 _ _
      · obtain ⟨b, o, spot⟩ := a
        have hs : spot = none := by
          obtain ⟨_, u0, u1, c0, _⟩ := hq 0 (by omega)
          simpa [Addr.add] using World.cell?_spot c0
        subst hs
        have hclen := Ty.cellsL_len ts
        have el : ∀ i (hi : i < ts.length), (Ty.cellsL ts)[i]? = some ts[i].cells := fun i hi => Ty.cellsL_at ts i hi
        have hcl : ∀ i (hi : i < (Ty.cellsL ts).length), (Ty.cellsL ts)[i] = (ts[i]'(by omega)).cells := fun i hi => by
          have := el i (by omega)
          rw [List.getElem?_eq_getElem hi] at this
          simpa using this
        have key : ∀ i (hi : i < ts.length) (r : Nat), r < 2 → ∃ u, w.cell? ⟨b, o + (i * 2 + r), none⟩ = some u ∧ u.oneCell' = true ∧ ∀ (hr : r < ts[i].cells.length), RepI w (InW w) ts[i].cells[r] u := by
          intro i hi r hr
          obtain ⟨_, u0, u1, c0, c1, o0, o1, r0, r1⟩ := hq i hi
          match r, hr with
          | 0, _ => exact ⟨u0, by rw [add_none, add_none] at c0; simpa [Nat.add_assoc] using c0, o0, fun hr => by simpa [Ty.cells_eq] using r0⟩
          | 1, _ => exact ⟨u1, by rw [add_none, add_none] at c1; simpa [Nat.add_assoc] using c1, o1, fun hr => by simpa [Ty.cells_eq] using r1⟩
        have key2 : ∀ j, j < (Ty.cellsL ts).length * 2 → ∃ u, w.cell? ⟨b, o + j, none⟩ = some u ∧ u.oneCell' = true := by
          intro j hj
          obtain ⟨u, h1, h2, _⟩ := key (j / 2) (by omega) (j % 2) (Nat.mod_lt _ (by omega))
          rw [show j / 2 * 2 + j % 2 = j by omega] at h1
          exact ⟨u, h1, h2⟩
        rw [show len = (Ty.cellsL ts).length by omega]
        refine .slice (Ty.cellsL ts) b o 2 cap (fun j => (w.cell? ⟨b, o + j, none⟩).getD undef) ?_ (fun i hi => by rw [hcl i hi]; exact Ty.cells_len _) (by simp [maxLen] at hcap; omega) (by omega) (fun j hj => ?_) (fun j hj => ?_) (fun i hi r hr => ?_)
        · obtain ⟨u, h1, _⟩ := key2 0 (by omega)
          exact cell_in h1
        · obtain ⟨u, h1, _⟩ := key2 j hj
          simp [h1]
        · obtain ⟨u, h1, h2⟩ := key2 j hj
          simp [h1, h2]
        · have e := hcl i hi
          obtain ⟨u, h1, _, h3⟩ := key i (by omega) r (by rw [e] at hr; rw [Ty.cells_len] at hr; exact hr)
          simp only [h1, Option.getD_some]
          have h4 := h3 (by rw [e] at hr; exact hr)
          simpa only [e] using h4
end
end Go.Proofs.Ytopgmopdjiahmaa.Lg

/- For the rows: a call by what a function does; what an argument stands for. Conditions: none; plain lemmas. -/
set_option linter.unusedVariables false
set_option maxRecDepth 100000
namespace Go.Proofs.Ytopgmopdjiahmaa
open Go.ChangeShapes Go.WideShapes Go.ChangeAt Go.RowKit Go.Proofs.Ytopgmopdjiahmaa.Lg

theorem Try.own : ownKnob Try.prog.godebug = none := by kernel_rfl
theorem Try.laidOut : laidOutB Try.prog = true := by kernel_rfl

def cxOf (W : World) : Cx := { w := W, N := InW W, na := 0, m := fun _ => 0, hN := fun _ h => h, hm := fun i hi => absurd hi (Nat.not_lt_zero i) }
theorem inv0 (W : World) : Inv (cxOf W) ⟨[], argS 0 [], []⟩ (fun _ => Option.none) ⟨#[], []⟩ W := Inv.bare rfl rfl rfl rfl rfl (Nat.le_refl _) fun _ _ => rfl
theorem repN {W : World} {v : IV} {x : Value} (h : RepI W (InW W) v x) : RR (cxOf W) (argS 0 []) [] (fun _ => Option.none) W (.imm false v) x :=
  .imm _ _ (h.mono (fun b hb => ⟨.inl hb, hb, fun k c hk => by simp [argS, getB] at hk⟩) fun _ _ _ _ h => h)
/-- an argument reads behind the call as it did -/
theorem kept {W W' : World} {H : Type} {enc : TypeId × Value → H} {t : TypeId} {v : Value} {d : DataW H} {ps : List MemPlace} (hr : Try.prog.readableRec t = true) (hrow : t < Try.prog.types.size) (h : DataW.Trod enc Try.prog W 0 (fun _ => true) true t v d ps)
    (bel : Below W.heap.size W W') (hlt : ∀ x ∈ ps, x.block < W.heap.size) : DataW.Trod enc Try.prog W' 0 (fun b => decide (b < W.heap.size)) true t v d ps :=
  Below.trod Try.laidOut hr hrow h bel hlt
theorem row25 : Try.prog.readableRec 25 = true := by kernel_rfl
theorem size25 : 25 < Try.prog.types.size := of_decide_eq_true (by kernel_rfl)
theorem Lg.int_in {lab : Int} (wl : (Lit.int .i64 lab).wf = true) : -9223372036854775808 ≤ lab ∧ lab ≤ 9223372036854775807 := by
  simp only [Lit.wf, Bool.and_eq_true, decide_eq_true_eq] at wl
  rw [show IntKind.i64.min = -9223372036854775808 from by kernel_rfl, show IntKind.i64.max = 9223372036854775807 from by kernel_rfl] at wl
  exact wl
end Go.Proofs.Ytopgmopdjiahmaa

/- Opening an argument: a reading of a coercion is a tree. Conditions: none; plain lemmas. -/
set_option linter.unusedVariables false
set_option linter.unusedSimpArgs false
set_option maxRecDepth 100000
namespace Go.Proofs.Ytopgmopdjiahmaa.Lg
open Go Go.RowKit Go.Proofs

/-- a row of cells in memory -/
theorem rep_slice {w : World} {elems : List (List IV)} {sz cap : Nat} {b o : Nat} (hz : 0 < sz) (hsz : ∀ i (h : i < elems.length), elems[i].length = sz) (hm : elems.length ≤ 9223372036854775807) (hcap : elems.length ≤ cap)
    (h : ∀ i (hi : i < elems.length) (r : Nat) (hr : r < elems[i].length), ∃ u, w.cell? ⟨b, o + (i * sz + r), none⟩ = some u ∧ u.oneCell' = true ∧ RepI w (InW w) elems[i][r] u) :
    RepI w (InW w) (.slice elems) (.slice (some ⟨b, o, none⟩) elems.length cap) := by
  by_cases h0 : elems.length = 0
  · have : elems = [] := List.eq_nil_of_length_eq_zero h0
    subst this; exact .slice0 _ _
  have key2 : ∀ j, j < elems.length * sz → ∃ u, w.cell? ⟨b, o + j, none⟩ = some u ∧ u.oneCell' = true := by
    intro j hj
    have hd : j / sz < elems.length := Nat.div_lt_of_lt_mul (by rw [Nat.mul_comm]; exact hj)
    obtain ⟨u, h1, h2, _⟩ := h (j / sz) hd (j % sz) (by rw [hsz]; exact Nat.mod_lt _ hz)
    rw [show j / sz * sz + j % sz = j by rw [Nat.mul_comm]; exact Nat.div_add_mod j sz] at h1
    exact ⟨u, h1, h2⟩
  refine .slice elems b o sz cap (fun j => (w.cell? ⟨b, o + j, none⟩).getD undef) ?_ hsz hm hcap (fun j hj => ?_) (fun j hj => ?_) (fun i hi r hr => ?_)
  · obtain ⟨u, h1, _⟩ := key2 0 (Nat.mul_pos (by omega) hz)
    exact cell_in h1
  · obtain ⟨u, h1, _⟩ := key2 j hj
    simp [h1]
  · obtain ⟨u, h1, h2⟩ := key2 j hj
    simp [h1, h2]
  · obtain ⟨u, h1, _, h3⟩ := h i hi r hr
    simp only [h1, Option.getD_some]
    exact h3

section
variable {H : Type} {enc : TypeId × Value → H} {w : World} {base : Nat} {spare : Nat → Bool} {held : Bool}
theorem cells28 : Try.prog.cellsOf 28 = 8 := by kernel_rfl
theorem cells26 : Try.prog.cellsOf 26 = 1 := by kernel_rfl
theorem cells3 : Try.prog.cellsOf 3 = 1 := by kernel_rfl
theorem cells4 : Try.prog.cellsOf 4 = 1 := by kernel_rfl
theorem cfitsL_of : ∀ {ks : List Cn}, (∀ i (h : i < ks.length), ks[i].fits) → Cn.fitsL ks
  | [], _ => trivial
  | t :: r, h => ⟨h 0 (by simp), cfitsL_of fun i hi => h (i + 1) (by simpa using hi)⟩
def RowOf (w : World) (cells : List IV) (cs : List Value) : Prop := cs.length = cells.length ∧ (∀ v ∈ cs, v.oneCell' = true) ∧ ∀ j (h : j < cells.length) (h' : j < cs.length), RepI w (InW w) cells[j] cs[j]

/-- A reading of a coercion is a tree. -/
theorem open_co : ∀ (fuel : Nat) (cs : List Value) (x : DataW H × List MemPlace), DataW.trod enc Try.prog w base spare held fuel 28 cs = some x → ∃ c : Cn, c.fits ∧ RowOf w c.cells cs := by
  intro fuel
  induction fuel using Nat.strongRecOn with
  | _ fuel ih =>
    intro cs x h
    obtain ⟨xs, n, rfl, _, hlen, hxl, hall⟩ := DataW.trod_struct Try.underlying28 h
    rw [cells28] at hlen
    obtain ⟨v0, v1, v2, v3, v4, v5, v6, v7, rfl⟩ : ∃ v0 v1 v2 v3 v4 v5 v6 v7, cs = [v0, v1, v2, v3, v4, v5, v6, v7] := by
      match cs, hlen with
      | [a, b, c, d, e, f, g, h], _ => exact ⟨a, b, c, d, e, f, g, h, rfl⟩
    have hx6 : xs.length = 6 := hxl
    have h0 : DataW.trod enc Try.prog w base spare held n 22 (([v0, v1, v2, v3, v4, v5, v6, v7].drop 0).take (Try.prog.cellsOf 22)) = xs[0]? := hall 0 _ rfl
    have h1 : DataW.trod enc Try.prog w base spare held n 25 (([v0, v1, v2, v3, v4, v5, v6, v7].drop 1).take (Try.prog.cellsOf 25)) = xs[1]? := hall 1 _ rfl
    have h2 : DataW.trod enc Try.prog w base spare held n 25 (([v0, v1, v2, v3, v4, v5, v6, v7].drop 3).take (Try.prog.cellsOf 25)) = xs[2]? := hall 2 _ rfl
    have h3 : DataW.trod enc Try.prog w base spare held n 3 (([v0, v1, v2, v3, v4, v5, v6, v7].drop 5).take (Try.prog.cellsOf 3)) = xs[3]? := hall 3 _ rfl
    have h4 : DataW.trod enc Try.prog w base spare held n 4 (([v0, v1, v2, v3, v4, v5, v6, v7].drop 6).take (Try.prog.cellsOf 4)) = xs[4]? := hall 4 _ rfl
    have h5 : DataW.trod enc Try.prog w base spare held n 26 (([v0, v1, v2, v3, v4, v5, v6, v7].drop 7).take (Try.prog.cellsOf 26)) = xs[5]? := hall 5 _ rfl
    rw [cells22] at h0
    rw [cells25] at h1 h2
    rw [cells3] at h3
    rw [cells4] at h4
    rw [cells26] at h5
    simp only [List.drop_zero, List.take_succ_cons, List.take_zero, List.drop_succ_cons] at h0 h1 h2 h3 h4 h5
    rw [List.getElem?_eq_getElem (by omega)] at h0 h1 h2 h3 h4 h5
    obtain ⟨k, hk, _, _⟩ := DataW.trod_int Try.underlying22 h0
    simp only [List.cons.injEq, and_true] at hk
    subst hk
    obtain ⟨ty, fty, a0, a1, ha, ao0, ao1, ar0, ar1⟩ := open_ty n _ _ h1
    obtain ⟨to, fto, b0, b1, hb, bo0, bo1, br0, br1⟩ := open_ty n _ _ h2
    simp only [List.cons.injEq, and_true] at ha hb
    obtain ⟨rfl, rfl⟩ := ha
    obtain ⟨rfl, rfl⟩ := hb
    obtain ⟨lab, hlab, _, wl⟩ := DataW.trod_int Try.underlying3 h3
    simp only [List.cons.injEq, and_true] at hlab
    subst hlab
    obtain ⟨neg, hneg, _⟩ := DataW.trod_bool Try.underlying4 h4
    simp only [List.cons.injEq, and_true] at hneg
    subst hneg
    have wl := int_in wl
    have fin : ∀ (ks : List Cn) (v7 : Value), v7.oneCell' = true → RepI w (InW w) (.slice (Cn.cellsL ks)) v7 → RowOf w (Cn.mk k ty to lab neg ks).cells [.int .i8 k, v1, v2, v3, v4, .int .i64 lab, .bool neg, v7] := by
      intro ks v7 ho hr
      refine ⟨rfl, fun v hv => by simp only [List.mem_cons, List.not_mem_nil, or_false] at hv; rcases hv with rfl | rfl | rfl | rfl | rfl | rfl | rfl | rfl <;> first | rfl | assumption, fun j hj hj' => ?_⟩
      match j, hj with
      | 0, _ => exact .int _ _
      | 1, _ => exact ar0
      | 2, _ => exact ar1
      | 3, _ => exact br0
      | 4, _ => exact br1
      | 5, _ => exact .int _ _
      | 6, _ => exact .bool _
      | 7, _ => exact hr
    rcases DataW.trod_slice Try.underlying26 h5 with ⟨hv, _⟩ | ⟨a, len, cap, elems, rest, n', rfl, hv, _, hbl, hlc, hcap, hel, helem, _⟩
    · simp only [List.cons.injEq, and_true] at hv
      subst hv
      exact ⟨.mk k ty to lab neg [], ⟨fty, fto, by simp, wl, trivial⟩, fin [] _ rfl (.slice0 none 0)⟩
    · simp only [List.cons.injEq, and_true] at hv
      subst hv
      rw [cells28] at helem
      have hkid : ∀ i, i < len → ∃ c : Cn, c.fits ∧ ∀ r (hr : r < c.cells.length), ∃ u, w.cell? ((a.add (i * 8)).add r) = some u ∧ u.oneCell' = true ∧ RepI w (InW w) c.cells[r] u := by
        intro i hi
        have he := helem i hi
        rw [List.getElem?_eq_getElem (by omega)] at he
        obtain ⟨cs', hc, hd⟩ := Option.bind_eq_some_iff.1 he
        obtain ⟨_, hcl, hcell⟩ := World.cells?_some hc
        obtain ⟨c, hf, hl, ho, hr⟩ := ih n' (by omega) cs' _ hd
        refine ⟨c, hf, fun r hr' => ?_⟩
        have h8 := Cn.cells_len c
        refine ⟨cs'[r]'(by omega), ?_, ho _ (List.getElem_mem _), hr r hr' _⟩
        have := hcell r (by omega)
        rw [List.getElem?_eq_getElem (by omega)] at this
        exact this
      obtain ⟨ks, hks, hq⟩ := pick_list len hkid
      have hbig : ks.length ≤ 9223372036854775807 := by rw [hks]; simp [maxLen] at hcap; omega
      refine ⟨.mk k ty to lab neg ks, ⟨fty, fto, hbig, wl, cfitsL_of fun i hi => (hq i hi).1⟩, fin ks _ rfl ?_⟩
      have hclen := Cn.cellsL_len ks
      have hcl : ∀ i (hi : i < (Cn.cellsL ks).length), (Cn.cellsL ks)[i] = (ks[i]'(by omega)).cells := fun i hi => by
        have := Cn.cellsL_at ks i (by omega)
        rw [List.getElem?_eq_getElem hi] at this
        simpa using this
      by_cases h00 : len = 0
      · have : ks = [] := List.eq_nil_of_length_eq_zero (by omega)
        subst this; subst h00; exact .slice0 _ _
      · obtain ⟨b, o, spot⟩ := a
        have hs : spot = none := by
          obtain ⟨u, c0, _⟩ := (hq 0 (by omega)).2 0 (by rw [Cn.cells_len]; omega)
          simpa [Addr.add] using World.cell?_spot c0
        subst hs
        rw [show len = (Cn.cellsL ks).length by omega]
        refine rep_slice (sz := 8) (by omega) (fun i hi => by rw [hcl i hi]; exact Cn.cells_len _) (by omega) (by omega) fun i hi r hr => ?_
        have e := hcl i hi
        obtain ⟨u, c0, o0, r0⟩ := (hq i (by omega)).2 r (by rw [e] at hr; exact hr)
        refine ⟨u, ?_, o0, ?_⟩
        · rw [add_none, add_none] at c0; simpa [Nat.add_assoc] using c0
        · simpa only [e] using r0
end
end Go.Proofs.Ytopgmopdjiahmaa.Lg
namespace Go.Proofs.Ytopgmopdjiahmaa
open Go.ChangeShapes Go.WideShapes Go.ChangeAt Go.RowKit Go.Proofs.Ytopgmopdjiahmaa.Lg
theorem rep_co {W : World} {H : Type} {enc : TypeId × Value → H} {base : Nat} {sp : Nat → Bool} {hd : Bool} {v : Value} {d : DataW H} {ps : List MemPlace} (h : DataW.Trod enc Try.prog W base sp hd 28 v d ps) :
    ∃ c : Cn, c.fits ∧ RepI W (InW W) (.agg c.cells) v := by
  obtain ⟨fuel, h⟩ := h
  obtain ⟨c, hf, hl, ho, hr⟩ := open_co fuel _ _ h
  have h8 := Cn.cells_len c
  refine ⟨c, hf, ?_⟩
  have hv : ∃ cs : Array Value, v = .agg cs := by
    cases v with
    | agg cs => exact ⟨cs, rfl⟩
    | _ => simp [Value.cells] at hl; omega
  obtain ⟨cs, rfl⟩ := hv
  simp only [Value.cells] at hl ho hr
  have := RepI.agg (w := W) (N := InW W) c.cells cs.toList hl ho hr
  simpa using this
theorem row28 : Try.prog.readableRec 28 = true := by kernel_rfl
theorem size28 : 28 < Try.prog.types.size := of_decide_eq_true (by kernel_rfl)
end Go.Proofs.Ytopgmopdjiahmaa

/- For the rows: five arguments. Conditions: none; plain lemmas. -/
set_option linter.unusedVariables false
set_option maxRecDepth 100000
namespace Go.Proofs.Ytopgmopdjiahmaa
open Go.ChangeShapes Go.WideShapes Go.ChangeAt Go.RowKit Go.Proofs.Ytopgmopdjiahmaa.Lg
variable {H : Type} {enc : TypeId × Value → H} {P : Program} {w : World} {base : Nat} {spare : Nat → Bool} {held : Bool}
end Go.Proofs.Ytopgmopdjiahmaa
