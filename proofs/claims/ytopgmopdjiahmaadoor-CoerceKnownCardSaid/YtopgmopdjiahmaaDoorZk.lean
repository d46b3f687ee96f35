/- strings.Join and coerce.Text, as the logic sees them. Conditions: none; plain lemmas. -/
import Derived.Test.YtopgmopdjiahmaaDoorZj
import Derived.Test.YtopgmopdjiahmaaDoorNh
import Derived.Test.YtopgmopdjiahmaaDoorMc
set_option linter.unusedVariables false
set_option linter.unusedSimpArgs false
set_option maxRecDepth 100000
set_option maxHeartbeats 4000000
namespace Go.Proofs.YtopgmopdjiahmaaDoor.Lg
open Go Go.RowKit Go.Proofs Go.Proofs.YtopgmopdjiahmaaDoor
def joinB (ss : List ByteArray) (sep : ByteArray) : ByteArray := ⟨(Lib.join (ss.map (·.data.toList)) sep.data.toList).toArray⟩
abbrev strI (ss : List ByteArray) : List (List IV) := ss.map fun s => [IV.str s]
theorem join_does (ss : List ByteArray) (sep : ByteArray) (hne : ss ≠ []) (hn : ss.length ≤ 1000) (hlen : (Lib.join (ss.map (·.data.toList)) sep.data.toList).length ≤ 140737488355328) :
    Does Tryd.prog 13 [.imm false (.slice (strI ss)), .imm false (.str sep)] [] (.ret true (.str (joinB ss sep))) [] := by
  refine ⟨⟨Tryd.f13, Tryd.func13, by kernel_rfl, by kernel_rfl⟩, rfl, fun cx M vals hna hI hR => ?_⟩
  have hdf : cx.dfs = [] := hI.defers.symm
  match vals, hR.1 with
  | [x, y], _ =>
    obtain ⟨r1, r2⟩ := hR.of_cons
    have r2 := r2.of_cons.1
    cases r1 with
    | imm _ _ r1 =>
    cases r2 with
    | imm _ _ r2 =>
    have ey : y = .string sep := by cases r2; rfl
    subst ey
    have hsl : (strI ss).length = ss.length := by simp [strI]
    have hpos : 0 < ss.length := List.length_pos_iff.2 hne
    generalize hes : strI ss = es at r1
    cases r1 with
    | slice0 A c => rw [hes] at hsl; simp at hsl; omega
    | slice _ b o sz c vs hN hsz hm hcap hc h1 hr =>
      subst hes
      have hsz1 : sz = 1 := by rw [← hsz 0 (by omega)]; simp [strI]
      subst hsz1
      simp only [Nat.mul_one] at hc hr
      rw [hsl]
      refine (strings_join b o c ss sep cx.w (fun j x hj => ?_) hN.2.1 (by omega) (by omega) hlen).mono fun e w' he => ?_
      · have hjl : j < ss.length := (List.getElem?_eq_some_iff.1 hj).1
        have h := hr j (by omega) 0 (by simp [strI])
        have hx : ss[j] = x := (List.getElem?_eq_some_iff.1 hj).2
        simp only [strI, List.getElem_map, List.getElem_cons_zero, Nat.add_zero, hx] at h
        have hv : vs j = .string x := by generalize vs j = u at h; cases h; rfl
        rw [← hv]; exact hc j (by omega)
      · obtain ⟨rfl, hb⟩ := he
        refine ⟨Inv.bare hna hdf hb.os hb.tape hb.output hb.size (fun b hlt => hb.block b hlt) ⟨Nat.le_trans hI.gho.1 hb.size, fun b hG => ?_⟩, _, rfl, .fresh _ _ (.str _)⟩
        obtain ⟨g1, g2⟩ := hI.gho.2 b hG
        exact ⟨⟨g1.1, Nat.lt_of_lt_of_le g1.2.1 hb.size⟩, (hb.block b g1.2.1).trans g2⟩
theorem res_str (s : List (Key × Box)) : ∀ ws : List ByteArray, resLL (res s 5) (strL ws) = some (true, strI ws)
  | [] => rfl
  | w :: ws => by
    have h := res_str s ws
    simp only [strL, strI, List.map_cons, resLL] at h ⊢
    rw [h]; rfl
theorem aop_slen {σ : St} {d : Nat} {x : Opd} {f : Bool} {s : ByteArray} (h : σ.ev x = .imm f (.str s)) : aop σ (.slen d x) = some { d := some (d, .imm true (.int .i64 s.size)), u := [], z := [], r := [] } := by
  simp only [aop, h, val]
theorem text_does (c : Cn) (hf : c.fits) (hc : c.chk.2.2 = 0) (ws : List ByteArray) (B : Nat) (h : DoesA Tryd.prog 9 14 [.ptr c.cells 0] ws B) (hne : ws ≠ []) (hn : ws.length ≤ 1000) (hlen : (joinB ws ⟨#[32]⟩).size ≤ 65536) :
    Does Tryd.prog 6 [.imm false (.agg c.cells)] [] (.ret true (.str (joinB ws ⟨#[32]⟩))) [] := by
  have h1 := cchk_does c hf
  unfold chV at h1
  have h2 := join_does ws ⟨#[32]⟩ hne hn (Nat.le_trans (show _ ≤ 65536 from hlen) (by omega))
  generalize joinB ws ⟨#[32]⟩ = J at *
  generalize c.chk = e at h1 hc
  obtain ⟨⟨k1, t1⟩, ⟨k2, t2⟩, e3⟩ := e
  simp only [Ty.cells] at hc h1
  subst hc
  obtain ⟨k, ty, to, lab, neg, ks⟩ := c
  simp only [Cn.cells] at h h1 ⊢
  refine does6 (by rfl) (by rfl) ?_
  (try simp (implicitDefEqProofs := false) only [go_sem, ↓reduceIte, Nat.reduceEqDiff, reduceCtorEq, Nat.reduceAdd, Nat.reduceSub, Nat.reduceLeDiff, Nat.reduceLT, Nat.reduceMul, Int.reduceToNat, Int.reduceLT, Int.reduceLE])
  refine CallK_do h1 ?_
  (try simp (implicitDefEqProofs := false) only [go_sem, ↓reduceIte, Nat.reduceEqDiff, reduceCtorEq, Nat.reduceAdd, Nat.reduceSub, Nat.reduceLeDiff, Nat.reduceLT, Nat.reduceMul, Int.reduceToNat, Int.reduceLT, Int.reduceLE, show ((0 : Int) != 0) = false from rfl])
  refine acall_nil h rfl rfl rfl ?_
  (try simp (implicitDefEqProofs := false) only [go_sem, ↓reduceIte, Nat.reduceEqDiff, reduceCtorEq, Nat.reduceAdd, Nat.reduceSub, Nat.reduceLeDiff, Nat.reduceLT, Nat.reduceMul, Int.reduceToNat, Int.reduceLT, Int.reduceLE, List.length_map, res_str])
  refine CallK_do h2 ?_
  rw [s_slen, aop_slen rfl]
  (try simp (implicitDefEqProofs := false) only [go_sem, ↓reduceIte, Nat.reduceEqDiff, reduceCtorEq, Nat.reduceAdd, Nat.reduceSub, Nat.reduceLeDiff, Nat.reduceLT, Nat.reduceMul, Int.reduceToNat, Int.reduceLT, Int.reduceLE, show decide ((J.size : Int) > 65536) = false from decide_eq_false (by omega)])
end Go.Proofs.YtopgmopdjiahmaaDoor.Lg
