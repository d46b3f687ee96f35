/- coerce.words of coercions of two, from the words of their parts. Conditions: none; plain lemmas. -/
import Derived.Test.YtopgmopdjiahmaaDoorZg
import Derived.Test.YtopgmopdjiahmaaDoorNd
set_option linter.unusedVariables false
set_option linter.unusedSimpArgs false
set_option maxRecDepth 100000
set_option maxHeartbeats 4000000
namespace Go.Proofs.YtopgmopdjiahmaaDoor.Lg
open Go Go.RowKit Go.Proofs Go.Proofs.YtopgmopdjiahmaaDoor
theorem doesA_node (k : Int) (ty to : Ty) (lab : Int) (neg : Bool) (ks : List Cn) (ws : List ByteArray) (B : Nat)
    (h : ∀ (w : World) (va : Option Addr) (vc : Nat) (ss : List ByteArray) (b o : Nat) (N : Nat → Prop), Row w (.slice va (ss.map Value.string).length vc) (ss.map .string) → ss.length ≤ B → (Value.slice va (ss.map Value.string).length vc).ownBlock ≠ some b →
      (∀ b, N b → b < w.heap.size ∧ (Value.slice va (ss.map Value.string).length vc).ownBlock ≠ some b) → RepI w N (.ptr (Cn.mk k ty to lab neg ks).cells 0) (.pointer (some ⟨b, o, none⟩)) →
      w.cell? ⟨b, o, none⟩ = some (.int .i8 k) → w.cell? ⟨b, o + 1, none⟩ = some (.int .i8 ty.k) → (ty.ts = [] → ∃ A c, w.cell? ⟨b, o + 2, none⟩ = some (.slice A 0 c)) → w.cell? ⟨b, o + 5, none⟩ = some (.int .i64 lab) → w.cell? ⟨b, o + 6, none⟩ = some (.bool neg) →
      Calls Tryd.prog 14 #[.slice va (ss.map Value.string).length vc, .pointer (some ⟨b, o, none⟩)] w (WEnd w (.slice va (ss.map Value.string).length vc) (ss.map .string) ws)) :
    DoesA Tryd.prog 9 14 [.ptr (Cn.mk k ty to lab neg ks).cells 0] ws B := by
  refine ⟨⟨Tryd.f14, Tryd.func14, by kernel_rfl, by kernel_rfl⟩, fun w v ss vals N hown hB hN hl hrep => ?_⟩
  obtain ⟨va, vc, rfl⟩ := row_shape hown
  have hlen : (ss.map Value.string).length = ss.length := List.length_map ..
  rw [← hlen] at hown hN ⊢
  match vals, hl with
  | [x], _ =>
    have hx := hrep 0 (by simp) (by simp)
    simp only [List.getElem_cons_zero] at hx
    have hx' := hx
    cases hx with
    | ptr _ _ b o vs hNb hc h1 hr =>
      simp only [Nat.add_zero] at hx'
      have hcl : (Cn.mk k ty to lab neg ks).cells.length = 8 := Cn.cells_len _
      have r0 := hr 0 (by omega)
      have r1 := hr 1 (by omega)
      have r2 := hr 2 (by omega)
      have r5 := hr 5 (by omega)
      have r6 := hr 6 (by omega)
      have c0 := hc 0 (by omega)
      have c1 := hc 1 (by omega)
      have c2 := hc 2 (by omega)
      have c5 := hc 5 (by omega)
      have c6 := hc 6 (by omega)
      simp only [Cn.cells, List.getElem_cons_zero, List.getElem_cons_succ] at r0 r1 r2 r5 r6
      simp only [Nat.add_zero] at c0
      have e0 : vs 0 = .int .i8 k := by generalize vs 0 = u at r0; cases r0; rfl
      have e1 : vs 1 = .int .i8 ty.k := by generalize vs 1 = u at r1; cases r1; rfl
      have e5 : vs 5 = .int .i64 lab := by generalize vs 5 = u at r5; cases r5; rfl
      have e6 : vs 6 = .bool neg := by generalize vs 6 = u at r6; cases r6; rfl
      refine (h w va vc ss b o N (by unfold Row; rw [hlen]; rw [hlen] at hown; exact hown) hB (hN b hNb).2 hN hx' (by rw [← e0]; exact c0) (by rw [← e1]; exact c1) (fun ht => ?_) (by rw [← e5]; exact c5) (by rw [← e6]; exact c6)).mono fun e w' he => ?_
      · rw [ht] at r2
        simp only [Ty.cellsL] at r2
        generalize vs 2 = u at r2 c2
        cases r2 with
        | slice0 A c => exact ⟨A, c, c2⟩
        | slice _ b' o' sz c vs' => exact ⟨_, c, c2⟩
      · obtain ⟨g, c, rfl, hrow, hgr, hor⟩ := he
        refine ⟨g, c, rfl, ?_, hgr, hor⟩
        unfold Row at hrow
        rw [List.length_append, List.length_map, List.length_map] at hrow
        rw [List.length_map]
        exact hrow
theorem acall_nil {P : Program} {σ : St} {d : Nat} {fx x : Opd} {xs : List Opd} {K : Eff → Prop} {Kp : TypeId → Eff → Prop} {f : FuncId} {fl : Bool} {vs : List IV} {e : TypeId} {ws : List ByteArray} {B : Nat} (hd : DoesA P e f vs ws B)
    (hev : σ.ev fx = .fn f []) (hres : resL (Lg.res σ.s depth0) (xs.map σ.ev) = some (fl, vs)) (hx : σ.ev x = .nils)
    (hK : K { d := some (d, .row (.own d) ws.length), u := [(.own d, some (.row e 1 (ws.map fun s => [.imm true (.str s)])))], z := keysL (Lg.keys σ.s depth0) (xs.map σ.ev), r := keysL (Lg.keys σ.s depth0) (xs.map σ.ev) }) : stepM P σ (.acall d fx x xs) K Kp := by
  simp only [stepM, hev, hres, hx]
  exact ⟨e, ws, B, hd, hK⟩
theorem acall_row {P : Program} {σ : St} {d : Nat} {fx x : Opd} {xs : List Opd} {K : Eff → Prop} {Kp : TypeId → Eff → Prop} {f : FuncId} {fl : Bool} {vs : List IV} {e : TypeId} {ws : List ByteArray} {B : Nat} {k : Key} {n : Nat} {es : List (List LV)} (ss : List ByteArray) (hd : DoesA P e f vs ws B)
    (hes : es = strL ss) (hn : es.length = n) (hB : n ≤ B)
    (hev : σ.ev fx = .fn f []) (hres : resL (Lg.res σ.s depth0) (xs.map σ.ev) = some (fl, vs)) (hx : σ.ev x = .row k n) (hz : σ.z = []) (hk : keysL (Lg.keys σ.s depth0) (xs.map σ.ev) = []) (ho : k.isOwn = true) (hb : σ.box k = some (.row e 1 es))
    (hK : K { d := some (d, .row (.own d) (n + ws.length)), u := [(k, none), (.own d, some (.row e 1 (es ++ ws.map fun s => [.imm true (.str s)])))], z := keysL (Lg.keys σ.s depth0) (xs.map σ.ev), r := k :: keysL (Lg.keys σ.s depth0) (xs.map σ.ev) }) : stepM P σ (.acall d fx x xs) K Kp := by
  simp only [stepM, hev, hres, hx, hb]
  exact ⟨e, ws, B, hd, by rw [hz]; simp, by rw [hk]; simp, ho, rfl, trivial, hn, ⟨hB, ss, hes⟩, hK⟩
theorem ren_str (D : List Nat) : ∀ ss : List ByteArray, renLL (renV D 6) (strL ss) = some (strL ss)
  | [] => rfl
  | s :: ss => by
    have h := ren_str D ss
    simp only [strL, List.map_cons, renLL] at h ⊢
    rw [h]; rfl
theorem rep_mid {w0 : World} {v0 : Value} {s : Nat} {w : World} {va : Option Addr} {vc : Nat} {xs : List Value} (m : Mid w0 v0 s w va vc xs) (hv : v0.ownBlock = (Value.slice va xs.length vc).ownBlock) {N : Nat → Prop} (hN : ∀ b, N b → b < w0.heap.size ∧ v0.ownBlock ≠ some b) {u : IV} {x : Value} (h : RepI w0 N u x) :
    RepI w (fun b => b < w.heap.size ∧ b ≠ s ∧ (Value.slice va xs.length vc).ownBlock ≠ some b) u x := by
  have h1 := m.lo
  have h2 := m.hi
  refine h.mono (fun b hb => ⟨by have := (hN b hb).1; omega, by have := (hN b hb).1; omega, by rw [← hv]; exact (hN b hb).2⟩) fun b hb o u hc => ?_
  exact m.cell hc (hN b hb).2
theorem doesA_seq (f g : Cn) {wf wg : List ByteArray} (hf : DoesA Tryd.prog 9 14 [.ptr f.cells 0] wf 800) (hg : DoesA Tryd.prog 9 14 [.ptr g.cells 0] wg 800) (hwf : wf.length ≤ 60) :
    DoesA Tryd.prog 9 14 [.ptr (part 7 f g).cells 0] (wf ++ [⟨#[59]⟩] ++ wg) 700 := by
  refine doesA_node 7 .un .un 0 false [f, g] _ 700 fun w va vc ss b o N hrow hB hvb hN hx h0 _ _ h5 h6 => ?_
  refine words_seq w va vc ss b o 0 (by omega) _ h0 h5 h6 hrow hvb fun s w1 a Q m hsz hdf ht1 ht2 hQ => ?_
  obtain ⟨n, M, hn0, hI⟩ := mInv m (rep_mid m rfl hN hx) ht1 ht2 hdf none (by simp)
  have hpc := part_cells 7 f g
  unfold part at hpc
  have hfl := Cn.cells_len f
  have hgl := Cn.cells_len g
  refine awp_sound mixed _ _ g22_is (fun e σ => e = .normal ∧ ∃ d n, getE σ.e 4 = .row (.own d) n ∧ Key.own d ∉ σ.z ∧ getB σ.s (.own d) = some (.row 9 1 (strL (ss ++ (wf ++ [(⟨#[59]⟩ : ByteArray)] ++ wg)))) ∧ n = ss.length + (wf ++ [(⟨#[59]⟩ : ByteArray)] ++ wg).length) Q (fun e σ M' a' w' hq hI' _ => ?_) _ M a w1 ?_ hI hsz
  · obtain ⟨rfl, d, n, h1, h2, h3, h4⟩ := hq
    exact hQ a' w' hI'.defers (mEnd m hI' h1 h2 h3 h4)
  · have q1 : ((wf.length + 1) * 16 ≤ 140737488355328) = True := eq_true (by omega)
    have q2 : ((ss.length + wf.length + 1) * 16 ≤ 140737488355328) = True := eq_true (by omega)
    cases n with
    | true =>
      have hss := hn0 rfl
      subst hss
      unfold mE mS
      (try simp (implicitDefEqProofs := false) only [go_sem, ↓reduceIte, Nat.reduceEqDiff, reduceCtorEq, Nat.reduceAdd, Nat.reduceSub, Nat.reduceLeDiff, Nat.reduceLT, Nat.reduceMul, Int.reduceToNat, Int.reduceLT, Int.reduceLE, hpc, hfl, hgl])
      refine acall_nil hf rfl rfl rfl ?_
      (try simp (implicitDefEqProofs := false) only [go_sem, ↓reduceIte, Nat.reduceEqDiff, reduceCtorEq, Nat.reduceAdd, Nat.reduceSub, Nat.reduceLeDiff, Nat.reduceLT, Nat.reduceMul, Int.reduceToNat, Int.reduceLT, Int.reduceLE, hpc, hfl, hgl, List.length_map, q1, and_self])
      refine acall_row (wf ++ [⟨#[59]⟩]) hg ?_ ?_ ?_ rfl rfl rfl rfl rfl rfl rfl ?_
      · simp [strL]
      · simp
      · omega
      (try simp (implicitDefEqProofs := false) only [go_sem, ↓reduceIte, Nat.reduceEqDiff, reduceCtorEq, Nat.reduceAdd, Nat.reduceSub, Nat.reduceLeDiff, Nat.reduceLT, Nat.reduceMul, Int.reduceToNat, Int.reduceLT, Int.reduceLE, hpc, hfl, hgl, List.length_map, q1, and_self])
      exact ⟨96, _, rfl, List.not_mem_nil, by simp [strL, getB, St.keep], by first | omega | (simp; omega)⟩
    | false =>
      unfold mE mS
      (try simp (implicitDefEqProofs := false) only [go_sem, ↓reduceIte, Nat.reduceEqDiff, reduceCtorEq, Nat.reduceAdd, Nat.reduceSub, Nat.reduceLeDiff, Nat.reduceLT, Nat.reduceMul, Int.reduceToNat, Int.reduceLT, Int.reduceLE, hpc, hfl, hgl, ren_str])
      refine acall_row ss hf ?_ ?_ ?_ rfl rfl rfl rfl rfl rfl rfl ?_
      · rfl
      · simp [strL]
      · omega
      (try simp (implicitDefEqProofs := false) only [go_sem, ↓reduceIte, Nat.reduceEqDiff, reduceCtorEq, Nat.reduceAdd, Nat.reduceSub, Nat.reduceLeDiff, Nat.reduceLT, Nat.reduceMul, Int.reduceToNat, Int.reduceLT, Int.reduceLE, hpc, hfl, hgl, List.length_map, List.length_append, q2, and_self])
      refine acall_row (ss ++ wf ++ [⟨#[59]⟩]) hg ?_ ?_ ?_ rfl rfl rfl rfl rfl rfl rfl ?_
      · simp [strL]
      · simp [strL]; omega
      · omega
      (try simp (implicitDefEqProofs := false) only [go_sem, ↓reduceIte, Nat.reduceEqDiff, reduceCtorEq, Nat.reduceAdd, Nat.reduceSub, Nat.reduceLeDiff, Nat.reduceLT, Nat.reduceMul, Int.reduceToNat, Int.reduceLT, Int.reduceLE, hpc, hfl, hgl, List.length_map, List.length_append, q2, and_self])
      exact ⟨96, _, rfl, List.not_mem_nil, by simp [strL, getB, St.keep], by first | omega | (simp; omega)⟩
end Go.Proofs.YtopgmopdjiahmaaDoor.Lg
