/- Texts of one proof, joined by program (gen/merge.py): Oe. Conditions: none; plain definitions and lemmas. -/
import Derived.Test.YtopgmopdjiahmaaG14
import Derived.WideShapes
/- Opening an argument: rows of types, rows of numbers. Conditions: none; plain lemmas. -/
set_option linter.unusedVariables false
set_option linter.unusedSimpArgs false
set_option maxRecDepth 100000
namespace Go.Proofs.Ytopgmopdjiahmaa
open Go Go.ChangeShapes Go.WideShapes Go.ChangeAt Go.RowKit Go.Proofs.Ytopgmopdjiahmaa.Lg

variable {H : Type} {enc : TypeId × Value → H}
theorem row_none {w : World} {a : Addr} {n : Nat} (h : 0 < n) {u : Nat → Value} (hc : ∀ i, i < n → w.cell? (a.add i) = some (u i)) : a.spot = none := by
  have := hc 0 h
  obtain ⟨b, o, spot⟩ := a
  simpa [Addr.add] using World.cell?_spot this
theorem rep_tys {W : World} {b0 base : Nat} {sp : Nat → Bool} {hd : Bool} {v : Value} {d : DataW H} {ps : List MemPlace} (hval : Value.okWide Try.prog W .any b0 23 v) (h : DataW.Trod enc Try.prog W base sp hd 23 v d ps) :
    ∃ ts : List Ty, (Ty.fitsL ts ∧ ts.length ≤ 9223372036854775807) ∧ RepI W (InW W) (.slice (Ty.cellsL ts)) v := by
  obtain ⟨a0, len, cap, rfl⟩ := okWide_slice Try.underlying23 hval
  obtain ⟨fuel, h⟩ := h
  rcases DataW.trod_slice Try.underlying23 h with ⟨hv, _⟩ | ⟨a, len', cap', elems, rest, n', _, hv, _, hb, hlc, hcap, hel, helem, _⟩
  · have hv' : (Value.slice a0 len cap) = .slice none 0 0 := by simpa [Value.cells] using hv
    rw [hv']
    exact ⟨[], ⟨trivial, by simp⟩, .slice0 none 0⟩
  · have hv' : (Value.slice a0 len cap) = .slice (some a) len' cap' := by simpa [Value.cells] using hv
    rw [hv']
    rw [cells25] at helem
    have hkid : ∀ i, i < len' → ∃ t : Ty, t.fits ∧ ∃ u0 u1, W.cell? ((a.add (i * 2)).add 0) = some u0 ∧ W.cell? ((a.add (i * 2)).add 1) = some u1 ∧ u0.oneCell' = true ∧ u1.oneCell' = true ∧ RepI W (InW W) (.int .i8 t.k) u0 ∧ RepI W (InW W) (.slice (Ty.cellsL t.ts)) u1 := by
      intro i hi
      have he := helem i hi
      rw [List.getElem?_eq_getElem (by omega)] at he
      obtain ⟨cs', hc, hd⟩ := Option.bind_eq_some_iff.1 he
      obtain ⟨_, hcl, hcell⟩ := World.cells?_some hc
      obtain ⟨t, hf, u0, u1, rfl, o0, o1, r0, r1⟩ := open_ty n' cs' _ hd
      exact ⟨t, hf, u0, u1, by simpa [Addr.add] using hcell 0 (by omega), by simpa using hcell 1 (by omega), o0, o1, r0, r1⟩
    obtain ⟨ts, hts, hq⟩ := pick_list len' hkid
    have hmx : ts.length ≤ 9223372036854775807 := by rw [hts]; simp [maxLen] at hcap; omega
    refine ⟨ts, ⟨fitsL_of fun i hi => (hq i hi).1, hmx⟩, ?_⟩
    by_cases h00 : len' = 0
    · have : ts = [] := List.eq_nil_of_length_eq_zero (by omega)
      subst this; subst h00; exact .slice0 _ _
    · obtain ⟨b, o, spot⟩ := a
      have hs : spot = none := by
        obtain ⟨_, u0, u1, c0, _⟩ := hq 0 (by omega)
        simpa [Addr.add] using World.cell?_spot c0
      subst hs
      have hclen := Ty.cellsL_len ts
      have hcl : ∀ i (hi : i < (Ty.cellsL ts).length), (Ty.cellsL ts)[i] = (ts[i]'(by omega)).cells := fun i hi => by
        have := Ty.cellsL_at ts i (by omega)
        rw [List.getElem?_eq_getElem hi] at this
        simpa using this
      rw [show len' = (Ty.cellsL ts).length by omega]
      refine rep_slice (sz := 2) (by omega) (fun i hi => by rw [hcl i hi]; exact Ty.cells_len _) (by omega) (by omega) (fun i hi r hr => ?_)
      have e := hcl i hi
      obtain ⟨_, u0, u1, c0, c1, o0, o1, r0, r1⟩ := hq i (by omega)
      have hr2 : r < 2 := by rw [e, Ty.cells_len] at hr; exact hr
      rcases (show r = 0 ∨ r = 1 by omega) with rfl | rfl
      · exact ⟨u0, by rw [add_none, add_none] at c0; simpa [Nat.add_assoc] using c0, o0, by simpa [e, Ty.cells_eq] using r0⟩
      · exact ⟨u1, by rw [add_none, add_none] at c1; simpa [Nat.add_assoc] using c1, o1, by simpa [e, Ty.cells_eq] using r1⟩
theorem rep_ints {W : World} {b0 base : Nat} {sp : Nat → Bool} {hd : Bool} {v : Value} {d : DataW H} {ps : List MemPlace} (hval : Value.okWide Try.prog W .any b0 55 v) (h : DataW.Trod enc Try.prog W base sp hd 55 v d ps) :
    ∃ ls : List Int, ls.length ≤ 9223372036854775807 ∧ RepI W (InW W) (.slice (ls.map fun l => [.int .i64 l])) v := by
  obtain ⟨a0, len, cap, rfl⟩ := okWide_slice Try.underlying55 hval
  obtain ⟨fuel, h⟩ := h
  rcases DataW.trod_slice Try.underlying55 h with ⟨hv, _⟩ | ⟨a, len', cap', elems, rest, n', _, hv, _, hb, hlc, hcap, hel, helem, _⟩
  · have hv' : (Value.slice a0 len cap) = .slice none 0 0 := by simpa [Value.cells] using hv
    rw [hv']
    exact ⟨[], by simp, .slice0 none 0⟩
  · have hv' : (Value.slice a0 len cap) = .slice (some a) len' cap' := by simpa [Value.cells] using hv
    rw [hv']
    rw [cells3] at helem
    have hkid : ∀ i, i < len' → ∃ l : Int, W.cell? (a.add (i * 1)) = some (.int .i64 l) := by
      intro i hi
      have he := helem i hi
      rw [List.getElem?_eq_getElem (by omega)] at he
      obtain ⟨cs', hc, hd⟩ := Option.bind_eq_some_iff.1 he
      obtain ⟨_, hcl, hcell⟩ := World.cells?_some hc
      obtain ⟨l, hl, _, _⟩ := DataW.trod_int Try.underlying3 hd
      subst hl
      exact ⟨l, by simpa [Addr.add] using hcell 0 (by omega)⟩
    obtain ⟨ls, hls, hq⟩ := pick_list len' hkid
    have hmx : ls.length ≤ 9223372036854775807 := by rw [hls]; simp [maxLen] at hcap; omega
    refine ⟨ls, hmx, ?_⟩
    by_cases h00 : len' = 0
    · have : ls = [] := List.eq_nil_of_length_eq_zero (by omega)
      subst this; subst h00; exact .slice0 _ _
    · obtain ⟨b, o, spot⟩ := a
      have hs : spot = none := by
        have := hq 0 (by omega)
        simpa [Addr.add] using World.cell?_spot this
      subst hs
      rw [show len' = (ls.map fun l => [IV.int .i64 l]).length by simp; omega]
      refine rep_slice (sz := 1) (by omega) (fun i hi => by simp) (by simpa using hmx) (by simp; omega) (fun i hi r hr => ?_)
      have c0 := hq i (by simpa using hi)
      have hr2 : r = 0 := by simp at hr; exact hr
      subst hr2
      refine ⟨_, by rw [add_none] at c0; simpa using c0, rfl, ?_⟩
      simp only [List.getElem_map, List.getElem_cons_zero]
      exact .int _ _
theorem row23 : Try.prog.readableRec 23 = true := by kernel_rfl
theorem size23 : 23 < Try.prog.types.size := of_decide_eq_true (by kernel_rfl)
theorem row55 : Try.prog.readableRec 55 = true := by kernel_rfl
theorem size55 : 55 < Try.prog.types.size := of_decide_eq_true (by kernel_rfl)
end Go.Proofs.Ytopgmopdjiahmaa
