/- Opening an argument: a reading of a type is a tree. Conditions: none; plain lemmas. -/
import Derived.Test.YtopgmopdjiahmaaNd
import Derived.ProofKit
import Derived.Deep.Slices
set_option linter.unusedVariables false
set_option linter.unusedSimpArgs false
set_option maxRecDepth 100000
namespace Go.Proofs.Ytopgmopdjiahmaa.Lg
open Go Go.RowKit Go.Proofs

section
variable {H : Type} {enc : TypeId × Value → H} {w : World} {base : Nat} {spare : Nat → Bool} {held : Bool}
def InW (w : World) (b : Nat) : Prop := b < w.heap.size
theorem cell_in {w : World} {b o : Nat} {v : Value} (h : w.cell? ⟨b, o, none⟩ = some v) : InW w b := by
  unfold World.cell? at h
  split at h
  · rename_i c e f hh
    exact (Array.getElem?_eq_some_iff.1 hh).1
  · cases h

theorem add_none (b o k : Nat) : (⟨b, o, none⟩ : Addr).add k = ⟨b, o + k, none⟩ := by
  unfold Addr.add; split <;> simp_all
theorem pick_list {α : Type} {Q : Nat → α → Prop} : ∀ n : Nat, (∀ i, i < n → ∃ t, Q i t) → ∃ ts : List α, ts.length = n ∧ ∀ i (h : i < ts.length), Q i ts[i]
  | 0, _ => ⟨[], rfl, fun i h => by simp at h⟩
  | n + 1, h => by
    obtain ⟨ts, hl, hq⟩ := pick_list n fun i hi => h i (by omega)
    obtain ⟨t, ht⟩ := h n (by omega)
    refine ⟨ts ++ [t], by simp [hl], fun i hi => ?_⟩
    by_cases hlt : i < ts.length
    · rw [List.getElem_append_left hlt]; exact hq i hlt
    · have : i = n := by simp at hi; omega
      subst this
      rw [List.getElem_append_right (by omega)]
      simpa [hl] using ht
theorem cells25 : Try.prog.cellsOf 25 = 2 := by kernel_rfl
theorem cells22 : Try.prog.cellsOf 22 = 1 := by kernel_rfl
theorem cells23 : Try.prog.cellsOf 23 = 1 := by kernel_rfl
theorem fitsL_of : ∀ {ts : List Ty}, (∀ i (h : i < ts.length), ts[i].fits) → Ty.fitsL ts
  | [], _ => trivial
  | t :: r, h => ⟨h 0 (by simp), fitsL_of fun i hi => h (i + 1) (by simpa using hi)⟩

/-- A reading of a type is a tree. -/
theorem open_ty : ∀ (fuel : Nat) (cs : List Value) (x : DataW H × List MemPlace), DataW.trod enc Try.prog w base spare held fuel 25 cs = some x →
    ∃ t : Ty, t.fits ∧ ∃ v0 v1, cs = [v0, v1] ∧ v0.oneCell' = true ∧ v1.oneCell' = true ∧ RepI w (InW w) (.int .i8 t.k) v0 ∧ RepI w (InW w) (.slice (Ty.cellsL t.ts)) v1 := by
  intro fuel
  induction fuel using Nat.strongRecOn with
  | _ fuel ih =>
    intro cs x h
    obtain ⟨xs, n, rfl, _, hlen, hxl, hall⟩ := DataW.trod_struct Try.underlying25 h
    rw [cells25] at hlen
    obtain ⟨v0, v1, rfl⟩ : ∃ v0 v1, cs = [v0, v1] := by
      match cs, hlen with
      | [a, b], _ => exact ⟨a, b, rfl⟩
    have hx2 : xs.length = 2 := hxl
    have h0 : DataW.trod enc Try.prog w base spare held n 22 (([v0, v1].drop 0).take (Try.prog.cellsOf 22)) = xs[0]? := hall 0 _ rfl
    have h1 : DataW.trod enc Try.prog w base spare held n 23 (([v0, v1].drop 1).take (Try.prog.cellsOf 23)) = xs[1]? := hall 1 _ rfl
    rw [cells22] at h0
    rw [cells23] at h1
    simp only [List.drop_zero, List.take_succ_cons, List.take_zero, List.drop_succ_cons] at h0 h1
    rw [List.getElem?_eq_getElem (by omega)] at h0 h1
    obtain ⟨k, hk, _, _⟩ := DataW.trod_int Try.underlying22 h0
    simp only [List.cons.injEq, and_true] at hk
    subst hk
    rcases DataW.trod_slice Try.underlying23 h1 with ⟨hv, _⟩ | ⟨a, len, cap, elems, rest, n', rfl, hv, _, hb, hlc, hcap, hel, helem, _⟩
    · simp only [List.cons.injEq, and_true] at hv
      subst hv
      exact ⟨.mk k [], ⟨by simp, trivial⟩, _, _, rfl, rfl, rfl, .int _ _, .slice0 none 0⟩
    · simp only [List.cons.injEq, and_true] at hv
      subst hv
      rw [cells25] at helem
      have hkid : ∀ i, i < len → ∃ t : Ty, t.fits ∧ ∃ u0 u1, w.cell? ((a.add (i * 2)).add 0) = some u0 ∧ w.cell? ((a.add (i * 2)).add 1) = some u1 ∧ u0.oneCell' = true ∧ u1.oneCell' = true ∧ RepI w (InW w) (.int .i8 t.k) u0 ∧ RepI w (InW w) (.slice (Ty.cellsL t.ts)) u1 := by
        intro i hi
        have he := helem i hi
        rw [List.getElem?_eq_getElem (by omega)] at he
        obtain ⟨cs', hc, hd⟩ := Option.bind_eq_some_iff.1 he
        obtain ⟨_, hcl, hcell⟩ := World.cells?_some hc
        obtain ⟨t, hf, u0, u1, rfl, o0, o1, r0, r1⟩ := ih n' (by omega) cs' _ hd
        exact ⟨t, hf, u0, u1, by simpa [Addr.add] using hcell 0 (by omega), by simpa using hcell 1 (by omega), o0, o1, r0, r1⟩
      obtain ⟨ts, hts, hq⟩ := pick_list len hkid
      refine ⟨.mk k ts, ⟨by rw [hts]; simp [maxLen] at hcap; omega, fitsL_of fun i hi => (hq i hi).1⟩, _, _, rfl, rfl, rfl, .int _ _, ?_⟩
      simp only [Ty.ts]
      by_cases h00 : len = 0
      · have : ts = [] := List.eq_nil_of_length_eq_zero (by omega)
        subst this; subst h00; exact .slice0 _ _
      · obtain ⟨b, o, spot⟩ := a
        have hs : spot = none := by
          obtain ⟨_, u0, u1, c0, _⟩ := hq 0 (by omega)
          simpa [Addr.add] using World.cell?_spot c0
        subst hs
        have hclen := Ty.cellsL_len ts
        have el : ∀ i (hi : i < ts.length), (Ty.cellsL ts)[i]? = some ts[i].cells := fun i hi => Ty.cellsL_at ts i hi
        have hcl : ∀ i (hi : i < (Ty.cellsL ts).length), (Ty.cellsL ts)[i] = (ts[i]'(by omega)).cells := fun i hi => by
          have := el i (by omega)
          rw [List.getElem?_eq_getElem hi] at this
          simpa using this
        have key : ∀ i (hi : i < ts.length) (r : Nat), r < 2 → ∃ u, w.cell? ⟨b, o + (i * 2 + r), none⟩ = some u ∧ u.oneCell' = true ∧ ∀ (hr : r < ts[i].cells.length), RepI w (InW w) ts[i].cells[r] u := by
          intro i hi r hr
          obtain ⟨_, u0, u1, c0, c1, o0, o1, r0, r1⟩ := hq i hi
          match r, hr with
          | 0, _ => exact ⟨u0, by rw [add_none, add_none] at c0; simpa [Nat.add_assoc] using c0, o0, fun hr => by simpa [Ty.cells_eq] using r0⟩
          | 1, _ => exact ⟨u1, by rw [add_none, add_none] at c1; simpa [Nat.add_assoc] using c1, o1, fun hr => by simpa [Ty.cells_eq] using r1⟩
        have key2 : ∀ j, j < (Ty.cellsL ts).length * 2 → ∃ u, w.cell? ⟨b, o + j, none⟩ = some u ∧ u.oneCell' = true := by
          intro j hj
          obtain ⟨u, h1, h2, _⟩ := key (j / 2) (by omega) (j % 2) (Nat.mod_lt _ (by omega))
          rw [show j / 2 * 2 + j % 2 = j by omega] at h1
          exact ⟨u, h1, h2⟩
        rw [show len = (Ty.cellsL ts).length by omega]
        refine .slice (Ty.cellsL ts) b o 2 cap (fun j => (w.cell? ⟨b, o + j, none⟩).getD undef) ?_ (fun i hi => by rw [hcl i hi]; exact Ty.cells_len _) (by simp [maxLen] at hcap; omega) (by omega) (fun j hj => ?_) (fun j hj => ?_) (fun i hi r hr => ?_)
        · obtain ⟨u, h1, _⟩ := key2 0 (by omega)
          exact cell_in h1
        · obtain ⟨u, h1, _⟩ := key2 j hj
          simp [h1]
        · obtain ⟨u, h1, h2⟩ := key2 j hj
          simp [h1, h2]
        · have e := hcl i hi
          obtain ⟨u, h1, _, h3⟩ := key i (by omega) r (by rw [e] at hr; rw [Ty.cells_len] at hr; exact hr)
          simp only [h1, Option.getD_some]
          have h4 := h3 (by rw [e] at hr; exact hr)
          simpa only [e] using h4
end
end Go.Proofs.Ytopgmopdjiahmaa.Lg
