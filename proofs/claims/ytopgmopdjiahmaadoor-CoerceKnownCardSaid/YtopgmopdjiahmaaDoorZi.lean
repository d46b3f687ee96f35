/- coerce.words of a coercion of functions, from the words of its parts. Conditions: none; plain lemmas. -/
import Derived.Test.YtopgmopdjiahmaaDoorZh
set_option linter.unusedVariables false
set_option linter.unusedSimpArgs false
set_option maxRecDepth 100000
set_option maxHeartbeats 4000000
namespace Go.Proofs.YtopgmopdjiahmaaDoor.Lg
open Go Go.RowKit Go.Proofs Go.Proofs.YtopgmopdjiahmaaDoor
theorem ren_str_app (D : List Nat) (l : List (List LV)) : ∀ ss : List ByteArray, renLL (renV D 6) (strL ss ++ l) = (renLL (renV D 6) l).map (strL ss ++ ·)
  | [] => by cases h : renLL (renV D 6) l <;> simp [strL, h]
  | s :: ss => by
    have h := ren_str_app D l ss
    simp only [strL, List.map_cons, List.cons_append, renLL] at h ⊢
    rw [h]
    cases h : renLL (renV D 6) l <;> rfl
theorem doesA_fun (f g : Cn) {wf wg : List ByteArray} (hf : DoesA Tryd.prog 9 14 [.ptr f.cells 0] wf 700) (hg : DoesA Tryd.prog 9 14 [.ptr g.cells 0] wg 700) (hwf : wf.length ≤ 60) (hwg : wg.length ≤ 60) :
    DoesA Tryd.prog 9 14 [.ptr (part 4 f g).cells 0] ([⟨#[40]⟩] ++ wf ++ [⟨#[45, 62]⟩] ++ wg ++ [⟨#[41]⟩]) 600 := by
  refine doesA_node 4 .un .un 0 false [f, g] _ 600 fun w va vc ss b o N hrow hB hvb hN hx h0 _ _ h5 h6 => ?_
  refine words_fun w va vc ss b o 0 (by omega) _ h0 h5 h6 hrow hvb fun s w1 a Q m hsz hdf ht1 ht2 ht7 hQ => ?_
  obtain ⟨n, M, hn0, hI⟩ := mInv m (rep_mid m rfl hN hx) ht1 ht2 hdf (some ⟨#[45, 62]⟩) (by intro z hz; simp only [Option.some.injEq] at hz; subst hz; exact ht7)
  have hpc := part_cells 4 f g
  unfold part at hpc
  have hfl := Cn.cells_len f
  have hgl := Cn.cells_len g
  let Qf : AEx → St → Prop := fun e σ => e = .normal ∧ ∃ d n, getE σ.e 4 = .row (.own d) n ∧ Key.own d ∉ σ.z ∧ getB σ.s (.own d) = some (.row 9 1 (strL (ss ++ ([(⟨#[40]⟩ : ByteArray)] ++ wf ++ [⟨#[45, 62]⟩] ++ wg ++ [⟨#[41]⟩])))) ∧ n = ss.length + ([(⟨#[40]⟩ : ByteArray)] ++ wf ++ [(⟨#[45, 62]⟩ : ByteArray)] ++ wg ++ [(⟨#[41]⟩ : ByteArray)]).length
  refine awp_sound mixed _ _ g24_is (fun e σ => e = .normal ∧ awp Tryd.prog g25 Qf σ) Q (fun e σ M' a' w' hq hI' hn' => ?_) _ M a w1 ?_ hI hsz
  · obtain ⟨rfl, h25⟩ := hq
    refine hQ a' w' fun Q' hQ' => ?_
    refine awp_sound mixed _ _ g25_is Qf Q' (fun e σ M'' a'' w'' hq hI'' _ => ?_) σ M' a' w' h25 hI' (hn' rfl)
    obtain ⟨rfl, d, n, h1, h2, h3, h4⟩ := hq
    exact hQ' a'' w'' hI''.defers (mEnd m hI'' h1 h2 h3 h4)
  · have q1 : ((ss.length + 1) * 16 ≤ 140737488355328) = True := eq_true (by omega)
    have p1 : (wf.length + 1 = 1 + wf.length) = True := eq_true (by omega)
    have p2 : ((1 + wf.length + 1) * 16 ≤ 140737488355328) = True := eq_true (by omega)
    have p3 : (ss.length + (wf.length + 1) = ss.length + 1 + wf.length) = True := eq_true (by omega)
    have p4 : ((ss.length + 1 + wf.length + 1) * 16 ≤ 140737488355328) = True := eq_true (by omega)
    have p5 : (wf.length + (wg.length + 1) + 1 = 1 + wf.length + 1 + wg.length) = True := eq_true (by omega)
    have p6 : ((1 + wf.length + 1 + wg.length + 1) * 16 ≤ 140737488355328) = True := eq_true (by omega)
    have p7 : (ss.length + (wf.length + (wg.length + 1) + 1) = ss.length + 1 + wf.length + 1 + wg.length) = True := eq_true (by omega)
    have p8 : ((ss.length + 1 + wf.length + 1 + wg.length + 1) * 16 ≤ 140737488355328) = True := eq_true (by omega)
    cases n with
    | true =>
      have hss := hn0 rfl
      subst hss
      unfold mE mS
      (try simp (implicitDefEqProofs := false) only [go_sem, ↓reduceIte, Nat.reduceEqDiff, reduceCtorEq, Nat.reduceAdd, Nat.reduceSub, Nat.reduceLeDiff, Nat.reduceLT, Nat.reduceMul, Int.reduceToNat, Int.reduceLT, Int.reduceLE, hpc, hfl, hgl])
      refine acall_row [⟨#[40]⟩] hf ?_ ?_ ?_ rfl rfl rfl rfl rfl rfl rfl ?_
      · rfl
      · rfl
      · omega
      (try simp (implicitDefEqProofs := false) only [go_sem, ↓reduceIte, Nat.reduceEqDiff, reduceCtorEq, Nat.reduceAdd, Nat.reduceSub, Nat.reduceLeDiff, Nat.reduceLT, Nat.reduceMul, Int.reduceToNat, Int.reduceLT, Int.reduceLE, hpc, hfl, hgl, St.keep, ren_str, List.length_map, List.length_cons, and_self, p1, p2])
      refine acall_row ([⟨#[40]⟩] ++ wf ++ [⟨#[45, 62]⟩]) hg ?_ ?_ ?_ rfl rfl rfl rfl rfl rfl rfl ?_
      · simp [strL]
      · simp [strL]; omega
      · omega
      (try simp (implicitDefEqProofs := false) only [go_sem, ↓reduceIte, Nat.reduceEqDiff, reduceCtorEq, Nat.reduceAdd, Nat.reduceSub, Nat.reduceLeDiff, Nat.reduceLT, Nat.reduceMul, Int.reduceToNat, Int.reduceLT, Int.reduceLE, hpc, hfl, hgl, St.keep, ren_str, List.append_assoc, List.cons_append, List.nil_append, List.length_append, List.length_map, List.length_cons, and_self, p5, p6])
      exact ⟨rfl, 128, _, rfl, List.not_mem_nil, by simp [strL, getB, St.keep], by first | omega | (simp; omega)⟩
    | false =>
      unfold mE mS
      (try simp (implicitDefEqProofs := false) only [go_sem, ↓reduceIte, Nat.reduceEqDiff, reduceCtorEq, Nat.reduceAdd, Nat.reduceSub, Nat.reduceLeDiff, Nat.reduceLT, Nat.reduceMul, Int.reduceToNat, Int.reduceLT, Int.reduceLE, hpc, hfl, hgl, ren_str, List.length_map, q1, and_self])
      refine acall_row (ss ++ [⟨#[40]⟩]) hf ?_ ?_ ?_ rfl rfl rfl rfl rfl rfl rfl ?_
      · simp [strL]
      · simp [strL]
      · omega
      (try simp (implicitDefEqProofs := false) only [go_sem, ↓reduceIte, Nat.reduceEqDiff, reduceCtorEq, Nat.reduceAdd, Nat.reduceSub, Nat.reduceLeDiff, Nat.reduceLT, Nat.reduceMul, Int.reduceToNat, Int.reduceLT, Int.reduceLE, hpc, hfl, hgl, St.keep, ren_str, ren_str_app, List.append_assoc, List.cons_append, List.nil_append, Option.map_some, List.length_map, List.length_append, and_self, p3, p4])
      refine acall_row (ss ++ [⟨#[40]⟩] ++ wf ++ [⟨#[45, 62]⟩]) hg ?_ ?_ ?_ rfl rfl rfl rfl rfl rfl rfl ?_
      · simp [strL]
      · simp [strL]; omega
      · omega
      (try simp (implicitDefEqProofs := false) only [go_sem, ↓reduceIte, Nat.reduceEqDiff, reduceCtorEq, Nat.reduceAdd, Nat.reduceSub, Nat.reduceLeDiff, Nat.reduceLT, Nat.reduceMul, Int.reduceToNat, Int.reduceLT, Int.reduceLE, hpc, hfl, hgl, St.keep, ren_str, ren_str_app, List.append_assoc, List.cons_append, List.nil_append, Option.map_some, List.length_map, List.length_append, and_self, p7, p8])
      exact ⟨rfl, 128, _, rfl, List.not_mem_nil, by simp [strL, getB, St.keep], by first | omega | (simp; omega)⟩
end Go.Proofs.YtopgmopdjiahmaaDoor.Lg
