/- Texts of one proof, joined by program (gen/tells.py): Pd Td. Conditions: none; plain definitions and lemmas. -/
import Derived.Test.YtopgmopdjiahmaaH11
/- Normal forms: which coercions are in normal form; what is told. Conditions: none; plain definitions and lemmas. -/
set_option linter.unusedVariables false
set_option linter.unusedSimpArgs false
set_option maxRecDepth 100000
namespace Go.Proofs.Ytopgmopdjiahmaa.Lg
open Go Go.RowKit Go.Proofs

/-- by which lines: g, i, s -/
abbrev Lv := Bool × Bool × Bool
def lvM (k tk : Int) (l : List Lv) : Bool :=
  if k = 0 then tk == 1 || tk == 2 else if k = 4 ∨ k = 5 ∨ k = 6 then (match l with | [a, b] => a.2.2 && b.2.2 | _ => false) else false
def lvI (k tk : Int) (ks : List Int) (l : List Lv) : Bool :=
  if k = 1 then true else if k = 7 then (match ks, l with | [_, k1], [a, _] => k1 == 2 && a.1 | _, _ => false) else lvM k tk l
def lvW (k tk : Int) (ks : List Int) (l : List Lv) : Bool :=
  if k = 0 ∧ tk = 0 then true else if k = 7 then (match ks, l with | [k0, _], [_, b] => if k0 = 3 then b.2.1 else lvI k tk ks l | _, _ => false) else lvI k tk ks l
mutual
def Cn.lv : Cn → Lv
  | .mk k ty _ _ _ ks => (lvM k ty.k (Cn.lvL ks), lvI k ty.k (ks.map Cn.kd) (Cn.lvL ks), lvW k ty.k (ks.map Cn.kd) (Cn.lvL ks))
def Cn.lvL : List Cn → List Lv
  | [] => []
  | c :: r => c.lv :: Cn.lvL r
end
theorem clean_two (k : Int) (hk : k = 4 ∨ k = 5 ∨ k = 6 ∨ k = 7) (ty to : Ty) (lab : Int) (neg : Bool) (a b : Cn) : (Cn.mk k ty to lab neg [a, b]).clean = part k a.clean b.clean := by
  simp only [Cn.clean, Cn.cleanL, part]
  rw [if_neg (by omega), if_neg (by omega), if_neg (by omega)]
theorem kd_leaf {c : Cn} {k : Int} (h : c.kd = k) (hk : k = 0 ∨ k = 1 ∨ k = 2 ∨ k = 3) (he : c.ends.2.2 = true) : ∃ ty to lab neg, c = .mk k ty to lab neg [] := by
  obtain ⟨k', ty, to, lab, neg, ks⟩ := c
  simp only [Cn.kd] at h
  subst h
  rcases ends_shape he with ⟨rfl, _⟩ | ⟨a, b, rfl, hk2, _⟩
  · exact ⟨_, _, _, _, rfl⟩
  · omega

theorem lv_nf : ∀ c : Cn, c.ends.2.2 = true → (c.lv.1 = true → c.clean = c.nf.cn ∧ c.nf.mid = true) ∧ (c.lv.2.1 = true → c.clean = c.nf.cn ∧ c.nf.inr = true) ∧ (c.lv.2.2 = true → c.clean = c.nf.cn) := by
  refine Cn.ind fun k ty to lab neg ks ih he => ?_
  rcases ends_shape he with ⟨rfl, hk, _⟩ | ⟨a, b, rfl, hk, ha, hb⟩
  · obtain ⟨hc, e0, e1, e2, e3⟩ := ends_leaf hk he
    have hr := (check_iff.1 hc).2.2
    rcases hk with rfl | rfl | rfl | rfl
    · obtain ⟨tk, ts⟩ := ty
      rcases right_shape hr with ⟨rfl, hk⟩ | ⟨a, b, rfl, hk, ha, hb⟩
      · rcases hk with rfl | rfl | rfl
        · simp [Cn.lv, Cn.lvL, lvM, lvI, lvW, Ty.k, Cn.clean, Cn.cleanL, Cn.nf, nfK, Ty.idn, Ty.idnL, idnK, Nf.cn, Ty.un]
        · simp [Cn.lv, Cn.lvL, lvM, lvI, lvW, Ty.k, Cn.clean, Cn.cleanL, Cn.nf, nfK, Ty.idn, Ty.idnL, idnK, Nf.cn, Ty.un, Nf.mid, Nf.inr]
        · simp [Cn.lv, Cn.lvL, lvM, lvI, lvW, Ty.k, Cn.clean, Cn.cleanL, Cn.nf, nfK, Ty.idn, Ty.idnL, idnK, Nf.cn, Ty.un, Nf.mid, Nf.inr]
      · have n1 : ¬ tk = 1 := by omega
        have n2 : ¬ tk = 2 := by omega
        have n0 : ¬ tk = 0 := by omega
        simp [Cn.lv, Cn.lvL, lvM, lvI, lvW, Ty.k, n1, n2, n0]
    · simp [Cn.lv, Cn.lvL, lvM, lvI, lvW, Cn.clean, Cn.cleanL, Cn.nf, nfK, Nf.cn, Nf.inr]
    · simp [Cn.lv, Cn.lvL, lvM, lvI, lvW]
    · simp [Cn.lv, Cn.lvL, lvM, lvI, lvW]
  · obtain ⟨am, ai, aw⟩ := ih a (by simp) ha
    obtain ⟨bm, bi, bw⟩ := ih b (by simp) hb
    obtain ⟨a1, a2⟩ := nf_wf a ha
    obtain ⟨b1, b2⟩ := nf_wf b hb
    obtain ⟨_, _, e4, e56, e7⟩ := ends_two hk he
    have two : k = 4 ∨ k = 5 ∨ k = 6 → a.lv.2.2 = true → b.lv.2.2 = true → (Cn.mk k ty to lab neg [a, b]).clean = (Cn.mk k ty to lab neg [a, b]).nf.cn ∧ (Cn.mk k ty to lab neg [a, b]).nf.mid = true := by
      intro hk2 h1 h2
      rw [clean_two k hk, nf_two hk2, aw h1, bw h2]
      exact ⟨by simp only [Nf.cn]; rw [show k - 1 + 1 = k by omega], rfl⟩
    rcases hk with rfl | rfl | rfl | rfl
    · have t := two (by omega)
      simp only [Cn.lv, Cn.lvL, lvM, lvI, lvW, List.map_cons, List.map_nil]
      simp only [show ¬ ((4 : Int) = 0) by omega, show ¬ ((4 : Int) = 1) by omega, show ¬ ((4 : Int) = 7) by omega, if_false, true_or, if_true, false_and, Bool.and_eq_true]
      exact ⟨fun h => t h.1 h.2, fun h => ⟨(t h.1 h.2).1, by rw [nf_two (by omega)]; rfl⟩, fun h => (t h.1 h.2).1⟩
    · have t := two (by omega)
      simp only [Cn.lv, Cn.lvL, lvM, lvI, lvW, List.map_cons, List.map_nil]
      simp only [show ¬ ((5 : Int) = 0) by omega, show ¬ ((5 : Int) = 1) by omega, show ¬ ((5 : Int) = 7) by omega, if_false, true_or, or_true, if_true, false_and, Bool.and_eq_true]
      exact ⟨fun h => t h.1 h.2, fun h => ⟨(t h.1 h.2).1, by rw [nf_two (by omega)]; rfl⟩, fun h => (t h.1 h.2).1⟩
    · have t := two (by omega)
      simp only [Cn.lv, Cn.lvL, lvM, lvI, lvW, List.map_cons, List.map_nil]
      simp only [show ¬ ((6 : Int) = 0) by omega, show ¬ ((6 : Int) = 1) by omega, show ¬ ((6 : Int) = 7) by omega, if_false, true_or, or_true, if_true, false_and, Bool.and_eq_true]
      exact ⟨fun h => t h.1 h.2, fun h => ⟨(t h.1 h.2).1, by rw [nf_two (by omega)]; rfl⟩, fun h => (t h.1 h.2).1⟩
    · obtain ⟨e, h1, h2⟩ := e7 rfl
      have inn : b.kd = 2 → a.lv.1 = true → (Cn.mk 7 ty to lab neg [a, b]).clean = (Cn.mk 7 ty to lab neg [a, b]).nf.cn ∧ (Cn.mk 7 ty to lab neg [a, b]).nf.inr = true := by
        intro hb2 hal
        obtain ⟨ty2, to2, lab2, neg2, rfl⟩ := kd_leaf hb2 (by omega) hb
        obtain ⟨c1, _, _, c2, _⟩ := ends_leaf (k := 2) (by omega) hb
        obtain ⟨c3, c4⟩ := c2 rfl
        rw [c3] at h2
        obtain ⟨g1, g2⟩ := isG_gty c4
        have e2 : (Cn.mk 2 ty2 to2 lab2 neg2 []).nf = .inn ty2.idn ty2.k := by simp [Cn.nf, nfK]
        obtain ⟨m1, m2⟩ := am hal
        rw [clean_two 7 (by omega), nf_seq, e2, join_mid_inn m2, join_idr a1 (by rw [a2]; exact h2), m1]
        refine ⟨?_, rfl⟩
        simp only [Nf.cn, ← g2]
        simp [Cn.clean, Cn.cleanL]
      have outt : a.kd = 3 → b.lv.2.1 = true → (Cn.mk 7 ty to lab neg [a, b]).clean = (Cn.mk 7 ty to lab neg [a, b]).nf.cn := by
        intro ha3 hbl
        obtain ⟨ty2, to2, lab2, neg2, rfl⟩ := kd_leaf ha3 (by omega) ha
        obtain ⟨c1, _, _, _, c2⟩ := ends_leaf (k := 3) (by omega) ha
        obtain ⟨c3, c4, _⟩ := c2 rfl
        rw [c3] at h2
        obtain ⟨g1, g2⟩ := isG_gty c4
        have e2 : (Cn.mk 3 ty2 to2 lab2 neg2 []).nf = .out ty2.k lab2 neg2 ty2.idn := by simp [Cn.nf, nfK]
        rw [clean_two 7 (by omega), nf_seq, e2, join_out, join_idl b1 (by rw [b2]; exact h2.symm), (bi hbl).1]
        simp only [Nf.cn, ← g2]
        simp [Cn.clean, Cn.cleanL]
      simp only [Cn.lv, Cn.lvL, lvM, lvI, lvW, List.map_cons, List.map_nil]
      simp only [show ¬ ((7 : Int) = 0) by omega, show ¬ ((7 : Int) = 1) by omega, show ¬ ((7 : Int) = 4 ∨ (7 : Int) = 5 ∨ (7 : Int) = 6) by omega, if_false, if_true, false_and, Bool.and_eq_true, beq_iff_eq]
      refine ⟨fun h => by simp at h, fun h => inn h.1 h.2, fun h => ?_⟩
      split at h
      · rename_i h3; exact outt h3 h
      · simp only [Bool.and_eq_true, beq_iff_eq] at h
        exact (inn h.1 h.2).1

theorem Cn.kd_mk (k : Int) (ty to : Ty) (lab : Int) (neg : Bool) (ks : List Cn) : (Cn.mk k ty to lab neg ks).kd = k := rfl
theorem mid_kd {a : Nf} {l : Nat} (h : a.wf l) (hm : a.mid = true) : a.cn.kd ≠ 3 := (isM_spec (mid_isM h hm)).2.2.2
theorem cn_lv : ∀ {a : Nf} {l : Nat}, l ≤ 2 → a.wf l → (l = 0 → a.cn.lv.1 = true) ∧ (l ≤ 1 → a.cn.lv.2.1 = true) ∧ a.cn.lv.2.2 = true
  | .un, l, hl, h => by
    simp only [Nf.wf] at h
    subst h
    simp [Nf.cn, Cn.lv, Cn.lvL, lvM, lvI, lvW, Ty.un, Ty.k]
  | .out g p n i, l, hl, h => by
    simp only [Nf.wf] at h
    have := cn_lv (by omega) h.2.2.2.1
    simp only [Nf.cn, part, Cn.lv, Cn.lvL, lvW, List.map_cons, List.map_nil, Cn.kd_mk]
    refine ⟨fun h0 => by omega, fun h0 => by omega, ?_⟩
    simp [this]
  | .fail A B p n, l, hl, h => by
    simp only [Nf.wf] at h
    simp [Nf.cn, Cn.lv, Cn.lvL, lvM, lvI, lvW]
    omega
  | .inn i g, l, hl, h => by
    simp only [Nf.wf] at h
    have := cn_lv (by omega) h.2.2.1
    have hk := mid_kd h.2.2.1 (Nf.wf0 h.2.2.1)
    simp only [Nf.cn, part, Cn.lv, Cn.lvL, lvM, lvI, lvW, List.map_cons, List.map_nil, Cn.kd_mk]
    refine ⟨fun h0 => by omega, fun h0 => by simp [this], ?_⟩
    simp [this, hk]
  | .base k, l, hl, h => by
    simp only [Nf.wf] at h
    rcases h with rfl | rfl <;> simp [Nf.cn, Cn.lv, Cn.lvL, lvM, lvI, lvW, Ty.k]
  | .two k a b, l, hl, h => by
    simp only [Nf.wf] at h
    have h1 := cn_lv (by omega) h.2.1
    have h2 := cn_lv (by omega) h.2.2
    rcases h.1 with rfl | rfl | rfl <;> simp [Nf.cn, part, Cn.lv, Cn.lvL, lvM, lvI, lvW, h1, h2]
theorem lab_in {p : Int} (h : labOk p = true) : -9223372036854775808 ≤ p ∧ p ≤ 9223372036854775807 := by
  simp only [labOk, Bool.and_eq_true, decide_eq_true_eq] at h; omega
theorem leaf_fits {k : Int} {ty to : Ty} {lab : Int} {neg : Bool} (h1 : ty.fits) (h2 : to.fits) (h3 : -9223372036854775808 ≤ lab ∧ lab ≤ 9223372036854775807) : (Cn.mk k ty to lab neg []).fits := ⟨h1, h2, by simp, h3, trivial⟩
theorem cn_fits : ∀ {a : Nf} {l : Nat}, a.wf l → a.cn.fits
  | .un, l, h => leaf_fits un_fits un_fits (by omega)
  | .out g p n i, l, h => by
    simp only [Nf.wf] at h
    exact part_fits (leaf_fits (Ty.right_fits _ (gty_right h.2.1)) un_fits (lab_in h.2.2.1)) (cn_fits h.2.2.2.1)
  | .fail A B p n, l, h => by
    simp only [Nf.wf] at h
    exact leaf_fits (Ty.right_fits _ h.2.2.1) (Ty.right_fits _ h.2.2.2.1) (lab_in h.2.2.2.2)
  | .inn i g, l, h => by
    simp only [Nf.wf] at h
    exact part_fits (cn_fits h.2.2.1) (leaf_fits (Ty.right_fits _ (gty_right h.2.1)) un_fits (by omega))
  | .base k, l, h => leaf_fits ⟨by simp, trivial⟩ un_fits (by omega)
  | .two k a b, l, h => by
    simp only [Nf.wf] at h
    exact part_fits (cn_fits h.2.1) (cn_fits h.2.2)

/-! ### what is told -/
def tolN (a : Nf) : Cn × Int := if a.cn.chk.2.2 = 0 then (a.cn, 0) else (.zero, a.cn.chk.2.2)
def normA (c : Cn) : Cn × Int := if c.chk.2.2 = 0 then tolN c.nf else (.zero, c.chk.2.2)
def Cn.isB (c : Cn) : Bool := c.chk.2.2 == 0 && c.lv.2.2
def thenA (a b : Cn) : Cn × Int :=
  if (a.isB && b.isB) = false then (.zero, 150) else if a.ends.2.1.same b.ends.1 = false then (.zero, 150) else tolN (join a.nf b.nf)
def coV (e : Cn × Int) : IV := .tup [.agg e.1.cells, .int .i64 e.2]
inductive CastA (a b : Ty) (lab : Int) : Cn × Int → Prop
  | mk (c : Cn) (e : Int) (h : OfA a b lab c e) : CastA a b lab (if e = 0 then normA c else (.zero, e))

/-- all that is told is in normal form, or it is nothing, and too great -/
theorem tolN_cases {a : Nf} (h : a.wf 2) : (tolN a = (a.cn, 0) ∧ a.cn.chk = (a.en.1, a.en.2, 0)) ∨ ((tolN a = (.zero, 32) ∨ tolN a = (.zero, 31)) ∧ a.cn.chk.2.2 ≠ 0) := by
  rcases nf_chk h with e | e | e
  · exact .inr ⟨.inl (by simp [tolN, e]), by simp [e]⟩
  · exact .inr ⟨.inr (by simp [tolN, e]), by simp [e]⟩
  · exact .inl ⟨by simp [tolN, e], e⟩
/-- one in normal form -/
theorem isB_nf {c : Cn} (h : c.isB = true) : c.chk = (c.ends.1, c.ends.2.1, 0) ∧ c.clean = c.nf.cn ∧ c.nf.wf 2 ∧ c.nf.en = (c.ends.1, c.ends.2.1) := by
  simp only [Cn.isB, Bool.and_eq_true, beq_iff_eq] at h
  have hk := ok_iff h.1
  have hw := nf_wf c hk.2.2.1
  exact ⟨hk.2.2.2.2.2, (lv_nf c hk.2.2.1).2.2 h.2, hw.1, hw.2⟩
theorem nf_isB {a : Nf} (h : a.wf 2) (hc : a.cn.chk.2.2 = 0) : a.cn.isB = true := by
  simp [Cn.isB, hc, (cn_lv (by omega) h).2.2]
end Go.Proofs.Ytopgmopdjiahmaa.Lg

/- Normal forms: whether a coercion is one, its normal form, merging, casts: what the functions answer. Conditions: none; plain lemmas. -/
set_option linter.unusedVariables false
set_option linter.unusedSimpArgs false
set_option maxRecDepth 100000
set_option maxHeartbeats 2000000
namespace Go.Proofs.Ytopgmopdjiahmaa.Lg
open Go Go.RowKit Go.Proofs

def MidD (c : Cn) : Prop := Does Try.prog 122 [.imm false (.ptr c.cells 0)] [] (.ret true (.bool c.lv.1)) []
def InnD (c : Cn) : Prop := Does Try.prog 93 [.imm false (.ptr c.cells 0)] [] (.ret true (.bool c.lv.2.1)) []
def WhlD (c : Cn) : Prop := Does Try.prog 59 [.imm false (.ptr c.cells 0)] [] (.ret true (.bool c.lv.2.2)) []
theorem mid_leaf {k : Int} {ty to : Ty} {lab : Int} {neg : Bool} (hk : k = 0 ∨ k = 1 ∨ k = 2 ∨ k = 3) : MidD (.mk k ty to lab neg []) := by
  unfold MidD
  refine does122 (by rfl) (by rfl) ?_
  rcases hk with rfl | rfl | rfl | rfl
  · (try simp (implicitDefEqProofs := false) only [go_sem, ↓reduceIte, Nat.reduceEqDiff, reduceCtorEq, Nat.reduceAdd, Nat.reduceSub, Nat.reduceLeDiff, Nat.reduceLT, Nat.reduceMul, Int.reduceToNat, Int.reduceLT, Int.reduceLE, Cn.cells, show ((0 : Int) == 0) = true from rfl])
    by_cases h1 : ty.k = 1
    · (try simp (implicitDefEqProofs := false) only [go_sem, ↓reduceIte, Nat.reduceEqDiff, reduceCtorEq, Nat.reduceAdd, Nat.reduceSub, Nat.reduceLeDiff, Nat.reduceLT, Nat.reduceMul, Int.reduceToNat, Int.reduceLT, Int.reduceLE, h1, show ((1 : Int) == 1) = true from rfl])
      simp [Cn.lv, lvM, h1]
    · (try simp (implicitDefEqProofs := false) only [go_sem, ↓reduceIte, Nat.reduceEqDiff, reduceCtorEq, Nat.reduceAdd, Nat.reduceSub, Nat.reduceLeDiff, Nat.reduceLT, Nat.reduceMul, Int.reduceToNat, Int.reduceLT, Int.reduceLE, show (ty.k == 1) = false from by simpa using h1])
      simp [Cn.lv, lvM, h1]
  · (try simp (implicitDefEqProofs := false) only [go_sem, ↓reduceIte, Nat.reduceEqDiff, reduceCtorEq, Nat.reduceAdd, Nat.reduceSub, Nat.reduceLeDiff, Nat.reduceLT, Nat.reduceMul, Int.reduceToNat, Int.reduceLT, Int.reduceLE, Cn.cells, show ((1 : Int) == 0) = false from rfl, show ((1 : Int) == 4) = false from rfl, show ((1 : Int) == 5) = false from rfl, show ((1 : Int) == 6) = false from rfl])
    simp [Cn.lv, lvM]
  · (try simp (implicitDefEqProofs := false) only [go_sem, ↓reduceIte, Nat.reduceEqDiff, reduceCtorEq, Nat.reduceAdd, Nat.reduceSub, Nat.reduceLeDiff, Nat.reduceLT, Nat.reduceMul, Int.reduceToNat, Int.reduceLT, Int.reduceLE, Cn.cells, show ((2 : Int) == 0) = false from rfl, show ((2 : Int) == 4) = false from rfl, show ((2 : Int) == 5) = false from rfl, show ((2 : Int) == 6) = false from rfl])
    simp [Cn.lv, lvM]
  · (try simp (implicitDefEqProofs := false) only [go_sem, ↓reduceIte, Nat.reduceEqDiff, reduceCtorEq, Nat.reduceAdd, Nat.reduceSub, Nat.reduceLeDiff, Nat.reduceLT, Nat.reduceMul, Int.reduceToNat, Int.reduceLT, Int.reduceLE, Cn.cells, show ((3 : Int) == 0) = false from rfl, show ((3 : Int) == 4) = false from rfl, show ((3 : Int) == 5) = false from rfl, show ((3 : Int) == 6) = false from rfl])
    simp [Cn.lv, lvM]
theorem mid_node {k : Int} {ty to : Ty} {lab : Int} {neg : Bool} {a b : Cn} (hk : k = 4 ∨ k = 5 ∨ k = 6 ∨ k = 7) (ha : WhlD a) (hb : WhlD b) : MidD (.mk k ty to lab neg [a, b]) := by
  unfold WhlD at ha hb
  unfold MidD
  have hla := Cn.cells_len a
  have hlb := Cn.cells_len b
  have e0 : (Cn.mk k ty to lab neg [a, b]).lv.1 = if k = 7 then false else (a.lv.2.2 && b.lv.2.2) := by
    rcases hk with rfl | rfl | rfl | rfl <;> simp [Cn.lv, Cn.lvL, lvM]
  rw [e0]
  refine does122 (by rfl) (by rfl) ?_
  rcases hk with rfl | rfl | rfl | rfl
  · (try simp (implicitDefEqProofs := false) only [go_sem, ↓reduceIte, Nat.reduceEqDiff, reduceCtorEq, Nat.reduceAdd, Nat.reduceSub, Nat.reduceLeDiff, Nat.reduceLT, Nat.reduceMul, Int.reduceToNat, Int.reduceLT, Int.reduceLE, Cn.cells, Cn.cellsL, hla, hlb, show ((4 : Int) == 0) = false from rfl, show ((4 : Int) == 4) = true from rfl, show ¬ ((4 : Int) = 7) from by omega])
    refine CallK_do ha ?_
    cases h1 : a.lv.2.2 with
    | false => (try simp (implicitDefEqProofs := false) only [go_sem, ↓reduceIte, Nat.reduceEqDiff, reduceCtorEq, Nat.reduceAdd, Nat.reduceSub, Nat.reduceLeDiff, Nat.reduceLT, Nat.reduceMul, Int.reduceToNat, Int.reduceLT, Int.reduceLE, Bool.false_and])
    | true =>
      (try simp (implicitDefEqProofs := false) only [go_sem, ↓reduceIte, Nat.reduceEqDiff, reduceCtorEq, Nat.reduceAdd, Nat.reduceSub, Nat.reduceLeDiff, Nat.reduceLT, Nat.reduceMul, Int.reduceToNat, Int.reduceLT, Int.reduceLE, hla, hlb])
      refine CallK_do hb ?_
      (try simp (implicitDefEqProofs := false) only [go_sem, ↓reduceIte, Nat.reduceEqDiff, reduceCtorEq, Nat.reduceAdd, Nat.reduceSub, Nat.reduceLeDiff, Nat.reduceLT, Nat.reduceMul, Int.reduceToNat, Int.reduceLT, Int.reduceLE, Bool.true_and])
  · (try simp (implicitDefEqProofs := false) only [go_sem, ↓reduceIte, Nat.reduceEqDiff, reduceCtorEq, Nat.reduceAdd, Nat.reduceSub, Nat.reduceLeDiff, Nat.reduceLT, Nat.reduceMul, Int.reduceToNat, Int.reduceLT, Int.reduceLE, Cn.cells, Cn.cellsL, hla, hlb, show ((5 : Int) == 0) = false from rfl, show ((5 : Int) == 4) = false from rfl, show ((5 : Int) == 5) = true from rfl, show ¬ ((5 : Int) = 7) from by omega])
    refine CallK_do ha ?_
    cases h1 : a.lv.2.2 with
    | false => (try simp (implicitDefEqProofs := false) only [go_sem, ↓reduceIte, Nat.reduceEqDiff, reduceCtorEq, Nat.reduceAdd, Nat.reduceSub, Nat.reduceLeDiff, Nat.reduceLT, Nat.reduceMul, Int.reduceToNat, Int.reduceLT, Int.reduceLE, Bool.false_and])
    | true =>
      (try simp (implicitDefEqProofs := false) only [go_sem, ↓reduceIte, Nat.reduceEqDiff, reduceCtorEq, Nat.reduceAdd, Nat.reduceSub, Nat.reduceLeDiff, Nat.reduceLT, Nat.reduceMul, Int.reduceToNat, Int.reduceLT, Int.reduceLE, hla, hlb])
      refine CallK_do hb ?_
      (try simp (implicitDefEqProofs := false) only [go_sem, ↓reduceIte, Nat.reduceEqDiff, reduceCtorEq, Nat.reduceAdd, Nat.reduceSub, Nat.reduceLeDiff, Nat.reduceLT, Nat.reduceMul, Int.reduceToNat, Int.reduceLT, Int.reduceLE, Bool.true_and])
  · (try simp (implicitDefEqProofs := false) only [go_sem, ↓reduceIte, Nat.reduceEqDiff, reduceCtorEq, Nat.reduceAdd, Nat.reduceSub, Nat.reduceLeDiff, Nat.reduceLT, Nat.reduceMul, Int.reduceToNat, Int.reduceLT, Int.reduceLE, Cn.cells, Cn.cellsL, hla, hlb, show ((6 : Int) == 0) = false from rfl, show ((6 : Int) == 4) = false from rfl, show ((6 : Int) == 5) = false from rfl, show ((6 : Int) == 6) = true from rfl, show ¬ ((6 : Int) = 7) from by omega])
    refine CallK_do ha ?_
    cases h1 : a.lv.2.2 with
    | false => (try simp (implicitDefEqProofs := false) only [go_sem, ↓reduceIte, Nat.reduceEqDiff, reduceCtorEq, Nat.reduceAdd, Nat.reduceSub, Nat.reduceLeDiff, Nat.reduceLT, Nat.reduceMul, Int.reduceToNat, Int.reduceLT, Int.reduceLE, Bool.false_and])
    | true =>
      (try simp (implicitDefEqProofs := false) only [go_sem, ↓reduceIte, Nat.reduceEqDiff, reduceCtorEq, Nat.reduceAdd, Nat.reduceSub, Nat.reduceLeDiff, Nat.reduceLT, Nat.reduceMul, Int.reduceToNat, Int.reduceLT, Int.reduceLE, hla, hlb])
      refine CallK_do hb ?_
      (try simp (implicitDefEqProofs := false) only [go_sem, ↓reduceIte, Nat.reduceEqDiff, reduceCtorEq, Nat.reduceAdd, Nat.reduceSub, Nat.reduceLeDiff, Nat.reduceLT, Nat.reduceMul, Int.reduceToNat, Int.reduceLT, Int.reduceLE, Bool.true_and])
  · (try simp (implicitDefEqProofs := false) only [go_sem, ↓reduceIte, Nat.reduceEqDiff, reduceCtorEq, Nat.reduceAdd, Nat.reduceSub, Nat.reduceLeDiff, Nat.reduceLT, Nat.reduceMul, Int.reduceToNat, Int.reduceLT, Int.reduceLE, Cn.cells, Cn.cellsL, hla, hlb, show ((7 : Int) == 0) = false from rfl, show ((7 : Int) == 4) = false from rfl, show ((7 : Int) == 5) = false from rfl, show ((7 : Int) == 6) = false from rfl])
theorem inn_leaf {k : Int} {ty to : Ty} {lab : Int} {neg : Bool} (hk : k = 0 ∨ k = 1 ∨ k = 2 ∨ k = 3) : InnD (.mk k ty to lab neg []) := by
  have hm := mid_leaf (ty := ty) (to := to) (lab := lab) (neg := neg) hk
  have e0 : (Cn.mk k ty to lab neg []).lv.2.1 = if k = 1 then true else (Cn.mk k ty to lab neg []).lv.1 := by
    rcases hk with rfl | rfl | rfl | rfl <;> simp [Cn.lv, Cn.lvL, lvI]
  unfold InnD
  rw [e0]
  unfold MidD at hm
  generalize (Cn.mk k ty to lab neg []).lv.1 = m at hm
  simp only [Cn.cells] at hm
  refine does93 (by rfl) (by rfl) ?_
  rcases hk with rfl | rfl | rfl | rfl
  · (try simp (implicitDefEqProofs := false) only [go_sem, ↓reduceIte, Nat.reduceEqDiff, reduceCtorEq, Nat.reduceAdd, Nat.reduceSub, Nat.reduceLeDiff, Nat.reduceLT, Nat.reduceMul, Int.reduceToNat, Int.reduceLT, Int.reduceLE, Cn.cells, show ((0 : Int) == 1) = false from rfl, show ((0 : Int) == 7) = false from rfl, show ¬ ((0 : Int) = 1) from by omega])
    refine CallK_do hm ?_
    (try simp (implicitDefEqProofs := false) only [go_sem, ↓reduceIte, Nat.reduceEqDiff, reduceCtorEq, Nat.reduceAdd, Nat.reduceSub, Nat.reduceLeDiff, Nat.reduceLT, Nat.reduceMul, Int.reduceToNat, Int.reduceLT, Int.reduceLE])
  · (try simp (implicitDefEqProofs := false) only [go_sem, ↓reduceIte, Nat.reduceEqDiff, reduceCtorEq, Nat.reduceAdd, Nat.reduceSub, Nat.reduceLeDiff, Nat.reduceLT, Nat.reduceMul, Int.reduceToNat, Int.reduceLT, Int.reduceLE, Cn.cells, show ((1 : Int) == 1) = true from rfl])
  · (try simp (implicitDefEqProofs := false) only [go_sem, ↓reduceIte, Nat.reduceEqDiff, reduceCtorEq, Nat.reduceAdd, Nat.reduceSub, Nat.reduceLeDiff, Nat.reduceLT, Nat.reduceMul, Int.reduceToNat, Int.reduceLT, Int.reduceLE, Cn.cells, show ((2 : Int) == 1) = false from rfl, show ((2 : Int) == 7) = false from rfl, show ¬ ((2 : Int) = 1) from by omega])
    refine CallK_do hm ?_
    (try simp (implicitDefEqProofs := false) only [go_sem, ↓reduceIte, Nat.reduceEqDiff, reduceCtorEq, Nat.reduceAdd, Nat.reduceSub, Nat.reduceLeDiff, Nat.reduceLT, Nat.reduceMul, Int.reduceToNat, Int.reduceLT, Int.reduceLE])
  · (try simp (implicitDefEqProofs := false) only [go_sem, ↓reduceIte, Nat.reduceEqDiff, reduceCtorEq, Nat.reduceAdd, Nat.reduceSub, Nat.reduceLeDiff, Nat.reduceLT, Nat.reduceMul, Int.reduceToNat, Int.reduceLT, Int.reduceLE, Cn.cells, show ((3 : Int) == 1) = false from rfl, show ((3 : Int) == 7) = false from rfl, show ¬ ((3 : Int) = 1) from by omega])
    refine CallK_do hm ?_
    (try simp (implicitDefEqProofs := false) only [go_sem, ↓reduceIte, Nat.reduceEqDiff, reduceCtorEq, Nat.reduceAdd, Nat.reduceSub, Nat.reduceLeDiff, Nat.reduceLT, Nat.reduceMul, Int.reduceToNat, Int.reduceLT, Int.reduceLE])
theorem inn_node {k : Int} {ty to : Ty} {lab : Int} {neg : Bool} {a b : Cn} (hk : k = 4 ∨ k = 5 ∨ k = 6 ∨ k = 7) (hm : MidD (.mk k ty to lab neg [a, b])) (ha : MidD a) : InnD (.mk k ty to lab neg [a, b]) := by
  have hla := Cn.cells_len a
  have e0 : (Cn.mk k ty to lab neg [a, b]).lv.2.1 = if k = 7 then (b.kd == 2 && a.lv.1) else (Cn.mk k ty to lab neg [a, b]).lv.1 := by
    rcases hk with rfl | rfl | rfl | rfl <;> simp [Cn.lv, Cn.lvL, lvI]
  unfold InnD
  rw [e0]
  unfold MidD at hm ha
  generalize (Cn.mk k ty to lab neg [a, b]).lv.1 = m at hm
  generalize a.lv.1 = m2 at ha
  obtain ⟨k2, ty2, to2, lab2, neg2, ks2⟩ := b
  simp only [Cn.cells, Cn.cellsL] at hm
  refine does93 (by rfl) (by rfl) ?_
  by_cases h7 : k = 7
  · subst h7
    by_cases h2 : k2 = 2
    · subst h2
      (try simp (implicitDefEqProofs := false) only [go_sem, ↓reduceIte, Nat.reduceEqDiff, reduceCtorEq, Nat.reduceAdd, Nat.reduceSub, Nat.reduceLeDiff, Nat.reduceLT, Nat.reduceMul, Int.reduceToNat, Int.reduceLT, Int.reduceLE, Cn.cells, Cn.cellsL, hla, show ((7 : Int) == 1) = false from rfl, show ((7 : Int) == 7) = true from rfl, show ((2 : Int) == 2) = true from rfl])
      refine CallK_do ha ?_
      (try simp (implicitDefEqProofs := false) only [go_sem, ↓reduceIte, Nat.reduceEqDiff, reduceCtorEq, Nat.reduceAdd, Nat.reduceSub, Nat.reduceLeDiff, Nat.reduceLT, Nat.reduceMul, Int.reduceToNat, Int.reduceLT, Int.reduceLE, Cn.kd_mk, show ((2 : Int) == 2) = true from rfl])
    · (try simp (implicitDefEqProofs := false) only [go_sem, ↓reduceIte, Nat.reduceEqDiff, reduceCtorEq, Nat.reduceAdd, Nat.reduceSub, Nat.reduceLeDiff, Nat.reduceLT, Nat.reduceMul, Int.reduceToNat, Int.reduceLT, Int.reduceLE, Cn.cells, Cn.cellsL, hla, show ((7 : Int) == 1) = false from rfl, show ((7 : Int) == 7) = true from rfl, show (k2 == 2) = false from by simpa using h2, Cn.kd_mk])
  · (try simp (implicitDefEqProofs := false) only [go_sem, ↓reduceIte, Nat.reduceEqDiff, reduceCtorEq, Nat.reduceAdd, Nat.reduceSub, Nat.reduceLeDiff, Nat.reduceLT, Nat.reduceMul, Int.reduceToNat, Int.reduceLT, Int.reduceLE, Cn.cells, Cn.cellsL, hla, show (k == 1) = false from by simp; omega, show (k == 7) = false from by simpa using h7, h7])
    refine CallK_do hm ?_
    (try simp (implicitDefEqProofs := false) only [go_sem, ↓reduceIte, Nat.reduceEqDiff, reduceCtorEq, Nat.reduceAdd, Nat.reduceSub, Nat.reduceLeDiff, Nat.reduceLT, Nat.reduceMul, Int.reduceToNat, Int.reduceLT, Int.reduceLE])
theorem whl_leaf {k : Int} {ty to : Ty} {lab : Int} {neg : Bool} (hk : k = 0 ∨ k = 1 ∨ k = 2 ∨ k = 3) : WhlD (.mk k ty to lab neg []) := by
  have hm := inn_leaf (ty := ty) (to := to) (lab := lab) (neg := neg) hk
  have e0 : (Cn.mk k ty to lab neg []).lv.2.2 = if k = 0 ∧ ty.k = 0 then true else (Cn.mk k ty to lab neg []).lv.2.1 := by
    rcases hk with rfl | rfl | rfl | rfl <;> simp [Cn.lv, Cn.lvL, lvW]
  unfold WhlD
  rw [e0]
  unfold InnD at hm
  generalize (Cn.mk k ty to lab neg []).lv.2.1 = m at hm
  simp only [Cn.cells] at hm
  refine does59 (by rfl) (by rfl) ?_
  by_cases h0 : k = 0
  · subst h0
    by_cases hz : ty.k = 0
    · (try simp (implicitDefEqProofs := false) only [go_sem, ↓reduceIte, Nat.reduceEqDiff, reduceCtorEq, Nat.reduceAdd, Nat.reduceSub, Nat.reduceLeDiff, Nat.reduceLT, Nat.reduceMul, Int.reduceToNat, Int.reduceLT, Int.reduceLE, Cn.cells, show ((0 : Int) == 0) = true from rfl, hz])
    · (try simp (implicitDefEqProofs := false) only [go_sem, ↓reduceIte, Nat.reduceEqDiff, reduceCtorEq, Nat.reduceAdd, Nat.reduceSub, Nat.reduceLeDiff, Nat.reduceLT, Nat.reduceMul, Int.reduceToNat, Int.reduceLT, Int.reduceLE, Cn.cells, show ((0 : Int) == 0) = true from rfl, show (ty.k == 0) = false from by simpa using hz, show ((0 : Int) == 7) = false from rfl, hz])
      refine CallK_do hm ?_
      (try simp (implicitDefEqProofs := false) only [go_sem, ↓reduceIte, Nat.reduceEqDiff, reduceCtorEq, Nat.reduceAdd, Nat.reduceSub, Nat.reduceLeDiff, Nat.reduceLT, Nat.reduceMul, Int.reduceToNat, Int.reduceLT, Int.reduceLE])
  · (try simp (implicitDefEqProofs := false) only [go_sem, ↓reduceIte, Nat.reduceEqDiff, reduceCtorEq, Nat.reduceAdd, Nat.reduceSub, Nat.reduceLeDiff, Nat.reduceLT, Nat.reduceMul, Int.reduceToNat, Int.reduceLT, Int.reduceLE, Cn.cells, show (k == 0) = false from by simpa using h0, show (k == 7) = false from by simp; omega, h0])
    refine CallK_do hm ?_
    (try simp (implicitDefEqProofs := false) only [go_sem, ↓reduceIte, Nat.reduceEqDiff, reduceCtorEq, Nat.reduceAdd, Nat.reduceSub, Nat.reduceLeDiff, Nat.reduceLT, Nat.reduceMul, Int.reduceToNat, Int.reduceLT, Int.reduceLE])
theorem whl_node {k : Int} {ty to : Ty} {lab : Int} {neg : Bool} {a b : Cn} (hk : k = 4 ∨ k = 5 ∨ k = 6 ∨ k = 7) (hm : InnD (.mk k ty to lab neg [a, b])) (hb : InnD b) : WhlD (.mk k ty to lab neg [a, b]) := by
  have hlb := Cn.cells_len b
  have e0 : (Cn.mk k ty to lab neg [a, b]).lv.2.2 = if k = 7 ∧ a.kd = 3 then b.lv.2.1 else (Cn.mk k ty to lab neg [a, b]).lv.2.1 := by
    rcases hk with rfl | rfl | rfl | rfl <;> simp [Cn.lv, Cn.lvL, lvW]
  unfold WhlD
  rw [e0]
  unfold InnD at hm hb
  generalize (Cn.mk k ty to lab neg [a, b]).lv.2.1 = m at hm
  generalize b.lv.2.1 = m2 at hb
  obtain ⟨k2, ty2, to2, lab2, neg2, ks2⟩ := a
  simp only [Cn.cells, Cn.cellsL] at hm
  refine does59 (by rfl) (by rfl) ?_
  by_cases h7 : k = 7
  · subst h7
    by_cases h2 : k2 = 3
    · subst h2
      (try simp (implicitDefEqProofs := false) only [go_sem, ↓reduceIte, Nat.reduceEqDiff, reduceCtorEq, Nat.reduceAdd, Nat.reduceSub, Nat.reduceLeDiff, Nat.reduceLT, Nat.reduceMul, Int.reduceToNat, Int.reduceLT, Int.reduceLE, Cn.cells, Cn.cellsL, hlb, show ((7 : Int) == 0) = false from rfl, show ((7 : Int) == 7) = true from rfl, show ((3 : Int) == 3) = true from rfl, Cn.kd_mk])
      refine CallK_do hb ?_
      (try simp (implicitDefEqProofs := false) only [go_sem, ↓reduceIte, Nat.reduceEqDiff, reduceCtorEq, Nat.reduceAdd, Nat.reduceSub, Nat.reduceLeDiff, Nat.reduceLT, Nat.reduceMul, Int.reduceToNat, Int.reduceLT, Int.reduceLE])
    · (try simp (implicitDefEqProofs := false) only [go_sem, ↓reduceIte, Nat.reduceEqDiff, reduceCtorEq, Nat.reduceAdd, Nat.reduceSub, Nat.reduceLeDiff, Nat.reduceLT, Nat.reduceMul, Int.reduceToNat, Int.reduceLT, Int.reduceLE, Cn.cells, Cn.cellsL, hlb, show ((7 : Int) == 0) = false from rfl, show ((7 : Int) == 7) = true from rfl, show (k2 == 3) = false from by simpa using h2, Cn.kd_mk, h2])
      refine CallK_do hm ?_
      (try simp (implicitDefEqProofs := false) only [go_sem, ↓reduceIte, Nat.reduceEqDiff, reduceCtorEq, Nat.reduceAdd, Nat.reduceSub, Nat.reduceLeDiff, Nat.reduceLT, Nat.reduceMul, Int.reduceToNat, Int.reduceLT, Int.reduceLE])
  · (try simp (implicitDefEqProofs := false) only [go_sem, ↓reduceIte, Nat.reduceEqDiff, reduceCtorEq, Nat.reduceAdd, Nat.reduceSub, Nat.reduceLeDiff, Nat.reduceLT, Nat.reduceMul, Int.reduceToNat, Int.reduceLT, Int.reduceLE, Cn.cells, Cn.cellsL, hlb, show (k == 0) = false from by simp; omega, show (k == 7) = false from by simpa using h7, h7])
    refine CallK_do hm ?_
    (try simp (implicitDefEqProofs := false) only [go_sem, ↓reduceIte, Nat.reduceEqDiff, reduceCtorEq, Nat.reduceAdd, Nat.reduceSub, Nat.reduceLeDiff, Nat.reduceLT, Nat.reduceMul, Int.reduceToNat, Int.reduceLT, Int.reduceLE])
theorem lv_does : ∀ c : Cn, c.ends.2.2 = true → MidD c ∧ InnD c ∧ WhlD c := by
  refine Cn.ind fun k ty to lab neg ks ih he => ?_
  rcases ends_shape he with ⟨rfl, hk, _⟩ | ⟨a, b, rfl, hk, ha, hb⟩
  · exact ⟨mid_leaf hk, inn_leaf hk, whl_leaf hk⟩
  · have h1 := ih a (by simp) ha
    have h2 := ih b (by simp) hb
    have m := mid_node (ty := ty) (to := to) (lab := lab) (neg := neg) hk h1.2.2 h2.2.2
    have i := inn_node hk m h1.1
    exact ⟨m, i, whl_node hk i h2.2.1⟩

theorem is_does (c : Cn) (hf : c.fits) : Does Try.prog 22 [.imm false (.agg c.cells)] [] (.ret true (.bool c.isB)) [] := by
  have h1 := cchk_does c hf
  have h2 : c.chk.2.2 = 0 → WhlD c := fun h => (lv_does c (ok_iff h).2.2.1).2.2
  unfold WhlD at h2
  unfold chV at h1
  unfold Cn.isB
  generalize c.chk = e at h1 h2
  generalize c.lv.2.2 = w at h2
  obtain ⟨e1, e2, e3⟩ := e
  obtain ⟨k, ty, to, lab, neg, ks⟩ := c
  simp only [Ty.cells_eq, Cn.cells] at h1
  simp only [Cn.cells] at h2
  refine does22 (by rfl) (by rfl) ?_
  (try simp (implicitDefEqProofs := false) only [go_sem, ↓reduceIte, Nat.reduceEqDiff, reduceCtorEq, Nat.reduceAdd, Nat.reduceSub, Nat.reduceLeDiff, Nat.reduceLT, Nat.reduceMul, Int.reduceToNat, Int.reduceLT, Int.reduceLE, Cn.cells])
  refine CallK_do h1 ?_
  by_cases hz : e3 = 0
  · have h2 := h2 hz
    (try simp (implicitDefEqProofs := false) only [go_sem, ↓reduceIte, Nat.reduceEqDiff, reduceCtorEq, Nat.reduceAdd, Nat.reduceSub, Nat.reduceLeDiff, Nat.reduceLT, Nat.reduceMul, Int.reduceToNat, Int.reduceLT, Int.reduceLE, hz, show ((0 : Int) == 0) = true from rfl])
    refine CallK_do h2 ?_
    (try simp (implicitDefEqProofs := false) only [go_sem, ↓reduceIte, Nat.reduceEqDiff, reduceCtorEq, Nat.reduceAdd, Nat.reduceSub, Nat.reduceLeDiff, Nat.reduceLT, Nat.reduceMul, Int.reduceToNat, Int.reduceLT, Int.reduceLE])
  · (try simp (implicitDefEqProofs := false) only [go_sem, ↓reduceIte, Nat.reduceEqDiff, reduceCtorEq, Nat.reduceAdd, Nat.reduceSub, Nat.reduceLeDiff, Nat.reduceLT, Nat.reduceMul, Int.reduceToNat, Int.reduceLT, Int.reduceLE, show (e3 == 0) = false from by simpa using hz])

/-! ### the normal form -/
def NormD (c : Cn) : Prop := Does Try.prog 55 [.imm false (.ptr c.clean.cells 0)] [] (.ret false (.ptr c.nf.cn.cells 0)) []
theorem norm_does : ∀ c : Cn, c.ends.2.2 = true → NormD c := by
  refine Cn.ind fun k ty to lab neg ks ih he => ?_
  unfold NormD
  rcases ends_shape he with ⟨rfl, hk, _⟩ | ⟨a, b, rfl, hk, ha, hb⟩
  · obtain ⟨hc, e0, e1, e2, e3⟩ := ends_leaf hk he
    have hr := (check_iff.1 hc).2.2
    have hid := id_does ty hr
    rcases hk with rfl | rfl | rfl | rfl
    · have e : (Cn.mk 0 ty to lab neg []).nf = ty.idn := by simp [Cn.nf, nfK]
      rw [e]
      generalize ty.idn.cn = d at hid
      obtain ⟨k2, ty2, to2, lab2, neg2, ks2⟩ := d
      simp only [Ty.cells_eq, Cn.cells] at hid
      refine does55 (by rfl) (by rfl) ?_
      (try simp (implicitDefEqProofs := false) only [go_sem, ↓reduceIte, Nat.reduceEqDiff, reduceCtorEq, Nat.reduceAdd, Nat.reduceSub, Nat.reduceLeDiff, Nat.reduceLT, Nat.reduceMul, Int.reduceToNat, Int.reduceLT, Int.reduceLE, Cn.clean, Cn.cleanL, Cn.cells, show ¬ ((0 : Int) = 1) from by omega, show ¬ ((0 : Int) = 3) from by omega, show ((0 : Int) == 0) = true from rfl])
      refine CallK_do hid ?_
      (try simp (implicitDefEqProofs := false) only [go_sem, ↓reduceIte, Nat.reduceEqDiff, reduceCtorEq, Nat.reduceAdd, Nat.reduceSub, Nat.reduceLeDiff, Nat.reduceLT, Nat.reduceMul, Int.reduceToNat, Int.reduceLT, Int.reduceLE])
    · have e : (Cn.mk 1 ty to lab neg []).nf = .fail ty to lab neg := by simp [Cn.nf, nfK]
      rw [e]
      refine does55 (by rfl) (by rfl) ?_
      (try simp (implicitDefEqProofs := false) only [go_sem, ↓reduceIte, Nat.reduceEqDiff, reduceCtorEq, Nat.reduceAdd, Nat.reduceSub, Nat.reduceLeDiff, Nat.reduceLT, Nat.reduceMul, Int.reduceToNat, Int.reduceLT, Int.reduceLE, Cn.clean, Cn.cleanL, Cn.cells, show ((1 : Int) == 0) = false from rfl, show ((1 : Int) == 1) = true from rfl])
      simp only [Nf.cn, Cn.cells]
    · have e : (Cn.mk 2 ty to lab neg []).nf = .inn ty.idn ty.k := by simp [Cn.nf, nfK]
      rw [e]
      obtain ⟨_, hg⟩ := e2 rfl
      obtain ⟨g1, g2⟩ := isG_gty hg
      simp only [Nf.cn, part_cells, ← g2]
      generalize ty.idn.cn = d at hid
      obtain ⟨k2, ty2, to2, lab2, neg2, ks2⟩ := d
      simp only [Ty.cells_eq, Cn.cells] at hid
      refine does55 (by rfl) (by rfl) ?_
      (try simp (implicitDefEqProofs := false) only [go_sem, ↓reduceIte, Nat.reduceEqDiff, reduceCtorEq, Nat.reduceAdd, Nat.reduceSub, Nat.reduceLeDiff, Nat.reduceLT, Nat.reduceMul, Int.reduceToNat, Int.reduceLT, Int.reduceLE, Cn.clean, Cn.cleanL, Cn.cells, show ¬ ((2 : Int) = 1) from by omega, show ¬ ((2 : Int) = 3) from by omega, show ((2 : Int) == 0) = false from rfl, show ((2 : Int) == 1) = false from rfl, show ((2 : Int) == 2) = true from rfl])
      refine CallK_do hid ?_
      (try simp (implicitDefEqProofs := false) only [go_sem, ↓reduceIte, Nat.reduceEqDiff, reduceCtorEq, Nat.reduceAdd, Nat.reduceSub, Nat.reduceLeDiff, Nat.reduceLT, Nat.reduceMul, Int.reduceToNat, Int.reduceLT, Int.reduceLE])
    · have e : (Cn.mk 3 ty to lab neg []).nf = .out ty.k lab neg ty.idn := by simp [Cn.nf, nfK]
      rw [e]
      obtain ⟨_, hg, _⟩ := e3 rfl
      obtain ⟨g1, g2⟩ := isG_gty hg
      simp only [Nf.cn, part_cells, ← g2]
      generalize ty.idn.cn = d at hid
      obtain ⟨k2, ty2, to2, lab2, neg2, ks2⟩ := d
      simp only [Ty.cells_eq, Cn.cells] at hid
      refine does55 (by rfl) (by rfl) ?_
      (try simp (implicitDefEqProofs := false) only [go_sem, ↓reduceIte, Nat.reduceEqDiff, reduceCtorEq, Nat.reduceAdd, Nat.reduceSub, Nat.reduceLeDiff, Nat.reduceLT, Nat.reduceMul, Int.reduceToNat, Int.reduceLT, Int.reduceLE, Cn.clean, Cn.cleanL, Cn.cells, show ¬ ((3 : Int) = 1) from by omega, show ((3 : Int) == 0) = false from rfl, show ((3 : Int) == 1) = false from rfl, show ((3 : Int) == 2) = false from rfl, show ((3 : Int) == 3) = true from rfl])
      refine CallK_do hid ?_
      (try simp (implicitDefEqProofs := false) only [go_sem, ↓reduceIte, Nat.reduceEqDiff, reduceCtorEq, Nat.reduceAdd, Nat.reduceSub, Nat.reduceLeDiff, Nat.reduceLT, Nat.reduceMul, Int.reduceToNat, Int.reduceLT, Int.reduceLE])
  · have h1 := ih a (by simp) ha
    have h2 := ih b (by simp) hb
    have a1 := nf_wf a ha
    have b1 := nf_wf b hb
    obtain ⟨_, _, e4, e56, e7⟩ := ends_two hk he
    rw [clean_two k hk]
    have hla := Cn.cells_len a.clean
    have hlb := Cn.cells_len b.clean
    unfold NormD at h1 h2
    by_cases k7 : k = 7
    · subst k7
      obtain ⟨e, _, hmeet⟩ := e7 rfl
      have ht := then_does _ a.nf b.nf (Nat.le_refl _) a1.1 b1.1 (by rw [a1.2, b1.2]; exact hmeet)
      unfold ThD at ht
      rw [nf_seq]
      refine does55 (by rfl) (by rfl) ?_
      (try simp (implicitDefEqProofs := false) only [go_sem, ↓reduceIte, Nat.reduceEqDiff, reduceCtorEq, Nat.reduceAdd, Nat.reduceSub, Nat.reduceLeDiff, Nat.reduceLT, Nat.reduceMul, Int.reduceToNat, Int.reduceLT, Int.reduceLE, part_cells, hla, hlb, show ((7 : Int) == 0) = false from rfl, show ((7 : Int) == 1) = false from rfl, show ((7 : Int) == 2) = false from rfl, show ((7 : Int) == 3) = false from rfl, show ((7 : Int) == 7) = true from rfl])
      refine CallK_do h1 ?_
      (try simp (implicitDefEqProofs := false) only [go_sem, ↓reduceIte, Nat.reduceEqDiff, reduceCtorEq, Nat.reduceAdd, Nat.reduceSub, Nat.reduceLeDiff, Nat.reduceLT, Nat.reduceMul, Int.reduceToNat, Int.reduceLT, Int.reduceLE, hla, hlb])
      refine CallK_do h2 ?_
      (try simp (implicitDefEqProofs := false) only [go_sem, ↓reduceIte, Nat.reduceEqDiff, reduceCtorEq, Nat.reduceAdd, Nat.reduceSub, Nat.reduceLeDiff, Nat.reduceLT, Nat.reduceMul, Int.reduceToNat, Int.reduceLT, Int.reduceLE])
      refine CallK_do ht ?_
      (try simp (implicitDefEqProofs := false) only [go_sem, ↓reduceIte, Nat.reduceEqDiff, reduceCtorEq, Nat.reduceAdd, Nat.reduceSub, Nat.reduceLeDiff, Nat.reduceLT, Nat.reduceMul, Int.reduceToNat, Int.reduceLT, Int.reduceLE])
    · rw [nf_two (by omega)]
      simp only [Nf.cn, part_cells]
      rw [show k - 1 + 1 = k by omega]
      generalize a.nf.cn = c at h1
      generalize b.nf.cn = d at h2
      obtain ⟨k1, ty1, to1, lab1, neg1, ks1⟩ := c
      obtain ⟨k2, ty2, to2, lab2, neg2, ks2⟩ := d
      simp only [Cn.cells] at h1 h2 ⊢
      refine does55 (by rfl) (by rfl) ?_
      (try simp (implicitDefEqProofs := false) only [go_sem, ↓reduceIte, Nat.reduceEqDiff, reduceCtorEq, Nat.reduceAdd, Nat.reduceSub, Nat.reduceLeDiff, Nat.reduceLT, Nat.reduceMul, Int.reduceToNat, Int.reduceLT, Int.reduceLE, hla, hlb, show (k == 0) = false from by simp; omega, show (k == 1) = false from by simp; omega, show (k == 2) = false from by simp; omega, show (k == 3) = false from by simp; omega, show (k == 7) = false from by simpa using k7])
      refine CallK_do h1 ?_
      (try simp (implicitDefEqProofs := false) only [go_sem, ↓reduceIte, Nat.reduceEqDiff, reduceCtorEq, Nat.reduceAdd, Nat.reduceSub, Nat.reduceLeDiff, Nat.reduceLT, Nat.reduceMul, Int.reduceToNat, Int.reduceLT, Int.reduceLE, hla, hlb])
      refine CallK_do h2 ?_
      (try simp (implicitDefEqProofs := false) only [go_sem, ↓reduceIte, Nat.reduceEqDiff, reduceCtorEq, Nat.reduceAdd, Nat.reduceSub, Nat.reduceLeDiff, Nat.reduceLT, Nat.reduceMul, Int.reduceToNat, Int.reduceLT, Int.reduceLE])

theorem told_does (a : Nf) (h : a.wf 2) : Does Try.prog 54 [.imm false (.ptr a.cn.cells 0)] [] (.ret true (coV (tolN a))) [] := by
  have h1 := cchk_does a.cn (cn_fits h)
  have h2 := copy_does a 2 h
  unfold chV at h1
  unfold CopyD at h2
  unfold tolN coV
  generalize a.cn.chk = e at h1
  generalize a.cn = c at h1 h2
  obtain ⟨e1, e2, e3⟩ := e
  obtain ⟨k, ty, to, lab, neg, ks⟩ := c
  simp only [Ty.cells_eq, Cn.cells] at h1
  simp only [Cn.cells] at h2
  refine does54 (by rfl) (by rfl) ?_
  (try simp (implicitDefEqProofs := false) only [go_sem, ↓reduceIte, Nat.reduceEqDiff, reduceCtorEq, Nat.reduceAdd, Nat.reduceSub, Nat.reduceLeDiff, Nat.reduceLT, Nat.reduceMul, Int.reduceToNat, Int.reduceLT, Int.reduceLE, Cn.cells])
  refine CallK_do h1 ?_
  by_cases hz : e3 = 0
  · (try simp (implicitDefEqProofs := false) only [go_sem, ↓reduceIte, Nat.reduceEqDiff, reduceCtorEq, Nat.reduceAdd, Nat.reduceSub, Nat.reduceLeDiff, Nat.reduceLT, Nat.reduceMul, Int.reduceToNat, Int.reduceLT, Int.reduceLE, hz, show ((0 : Int) != 0) = false from rfl])
    refine CallK_do h2 ?_
    (try simp (implicitDefEqProofs := false) only [go_sem, ↓reduceIte, Nat.reduceEqDiff, reduceCtorEq, Nat.reduceAdd, Nat.reduceSub, Nat.reduceLeDiff, Nat.reduceLT, Nat.reduceMul, Int.reduceToNat, Int.reduceLT, Int.reduceLE])
    simp [Cn.cells]
  · (try simp (implicitDefEqProofs := false) only [go_sem, ↓reduceIte, Nat.reduceEqDiff, reduceCtorEq, Nat.reduceAdd, Nat.reduceSub, Nat.reduceLeDiff, Nat.reduceLT, Nat.reduceMul, Int.reduceToNat, Int.reduceLT, Int.reduceLE, show (e3 != 0) = true from by simpa using hz])
    simp [hz, zero_cells]

theorem normA_does (c : Cn) (hf : c.fits) : Does Try.prog 20 [.imm false (.agg c.cells)] [] (.ret true (coV (normA c))) [] := by
  have h1 := cchk_does c hf
  have h2 : c.chk.2.2 = 0 → CleanD c ∧ NormD c ∧ Does Try.prog 54 [.imm false (.ptr c.nf.cn.cells 0)] [] (.ret true (coV (tolN c.nf))) [] := fun h => by
    have he := (ok_iff h).2.2.1
    exact ⟨clean_does c he, norm_does c he, told_does c.nf (nf_wf c he).1⟩
  unfold chV at h1
  unfold CleanD NormD at h2
  unfold normA coV at *
  generalize c.chk = e at h1 h2
  generalize c.clean = d at h2
  generalize tolN c.nf = r at h2
  generalize c.nf.cn = n at h2
  obtain ⟨r1, r2⟩ := r
  obtain ⟨e1, e2, e3⟩ := e
  obtain ⟨k, ty, to, lab, neg, ks⟩ := c
  obtain ⟨k2, ty2, to2, lab2, neg2, ks2⟩ := d
  obtain ⟨k3, ty3, to3, lab3, neg3, ks3⟩ := r1
  simp only [Ty.cells_eq, Cn.cells] at h1
  refine does20 (by rfl) (by rfl) ?_
  (try simp (implicitDefEqProofs := false) only [go_sem, ↓reduceIte, Nat.reduceEqDiff, reduceCtorEq, Nat.reduceAdd, Nat.reduceSub, Nat.reduceLeDiff, Nat.reduceLT, Nat.reduceMul, Int.reduceToNat, Int.reduceLT, Int.reduceLE, Cn.cells])
  refine CallK_do h1 ?_
  by_cases hz : e3 = 0
  · obtain ⟨h3, h4, h5⟩ := h2 hz
    simp only [Cn.cells] at h3 h4 h5
    (try simp (implicitDefEqProofs := false) only [go_sem, ↓reduceIte, Nat.reduceEqDiff, reduceCtorEq, Nat.reduceAdd, Nat.reduceSub, Nat.reduceLeDiff, Nat.reduceLT, Nat.reduceMul, Int.reduceToNat, Int.reduceLT, Int.reduceLE, hz, show ((0 : Int) != 0) = false from rfl])
    refine CallK_do h3 ?_
    (try simp (implicitDefEqProofs := false) only [go_sem, ↓reduceIte, Nat.reduceEqDiff, reduceCtorEq, Nat.reduceAdd, Nat.reduceSub, Nat.reduceLeDiff, Nat.reduceLT, Nat.reduceMul, Int.reduceToNat, Int.reduceLT, Int.reduceLE])
    refine CallK_do h4 ?_
    (try simp (implicitDefEqProofs := false) only [go_sem, ↓reduceIte, Nat.reduceEqDiff, reduceCtorEq, Nat.reduceAdd, Nat.reduceSub, Nat.reduceLeDiff, Nat.reduceLT, Nat.reduceMul, Int.reduceToNat, Int.reduceLT, Int.reduceLE])
    refine CallK_do h5 ?_
    (try simp (implicitDefEqProofs := false) only [go_sem, ↓reduceIte, Nat.reduceEqDiff, reduceCtorEq, Nat.reduceAdd, Nat.reduceSub, Nat.reduceLeDiff, Nat.reduceLT, Nat.reduceMul, Int.reduceToNat, Int.reduceLT, Int.reduceLE])
    simp [Cn.cells]
  · (try simp (implicitDefEqProofs := false) only [go_sem, ↓reduceIte, Nat.reduceEqDiff, reduceCtorEq, Nat.reduceAdd, Nat.reduceSub, Nat.reduceLeDiff, Nat.reduceLT, Nat.reduceMul, Int.reduceToNat, Int.reduceLT, Int.reduceLE, show (e3 != 0) = true from by simpa using hz])
    simp [hz, zero_cells]

theorem thenA_does (a b : Cn) (ha : a.fits) (hb : b.fits) : Does Try.prog 32 [.imm false (.agg a.cells), .imm false (.agg b.cells)] [] (.ret true (coV (thenA a b))) [] := by
  have i1 := is_does a ha
  have i2 := is_does b hb
  have ck1 := cchk_does a ha
  have ck2 := cchk_does b hb
  have h2 : a.isB = true → b.isB = true → a.chk = (a.ends.1, a.ends.2.1, 0) ∧ b.chk = (b.ends.1, b.ends.2.1, 0) ∧ CleanD a ∧ CleanD b ∧ (a.ends.2.1.same b.ends.1 = true → ThD a.clean b.clean (join a.nf b.nf).cn ∧ Does Try.prog 54 [.imm false (.ptr (join a.nf b.nf).cn.cells 0)] [] (.ret true (coV (tolN (join a.nf b.nf)))) []) := fun h h' => by
    obtain ⟨p1, p2, p3, p4⟩ := isB_nf h
    obtain ⟨q1, q2, q3, q4⟩ := isB_nf h'
    have e1 := (ok_iff (by rw [p1])).2.2.1
    have e2 := (ok_iff (by rw [q1])).2.2.1
    refine ⟨p1, q1, clean_does a e1, clean_does b e2, fun hs => ?_⟩
    have hm : a.nf.en.2 = b.nf.en.1 := by rw [p4, q4]; exact (same_iff.1 hs).2
    refine ⟨?_, told_does _ (join_ok p3 q3 hm).1⟩
    rw [p2, q2]
    exact then_does _ a.nf b.nf (Nat.le_refl _) p3 q3 hm
  have hs := same_does a.ends.2.1 b.ends.1 (Cn.ends_fits a ha).2 (Cn.ends_fits b hb).1
  unfold CleanD ThD at h2
  unfold thenA chV coV at *
  generalize a.isB = ia at i1 h2
  generalize b.isB = ib at i2 h2
  generalize a.chk = ca at ck1 h2
  generalize b.chk = cb at ck2 h2
  generalize a.ends = ea at hs h2
  generalize b.ends = eb at hs h2
  generalize a.clean = a2 at h2
  generalize b.clean = b2 at h2
  generalize tolN (join a.nf b.nf) = r at h2
  generalize (join a.nf b.nf).cn = n at h2
  obtain ⟨r1, r2⟩ := r
  obtain ⟨ea1, ea2, ea3⟩ := ea
  obtain ⟨eb1, eb2, eb3⟩ := eb
  obtain ⟨ca1, ca2, ca3⟩ := ca
  obtain ⟨cb1, cb2, cb3⟩ := cb
  obtain ⟨k, ty, to, lab, neg, ks⟩ := a
  obtain ⟨k', ty', to', lab', neg', ks'⟩ := b
  obtain ⟨k2, ty2, to2, lab2, neg2, ks2⟩ := a2
  obtain ⟨k3, ty3, to3, lab3, neg3, ks3⟩ := b2
  obtain ⟨k4, ty4, to4, lab4, neg4, ks4⟩ := r1
  simp only [Ty.cells_eq, Cn.cells] at i1 i2 ck1 ck2
  simp only [Ty.cells_eq] at hs
  refine does32 (by rfl) (by rfl) ?_
  (try simp (implicitDefEqProofs := false) only [go_sem, ↓reduceIte, Nat.reduceEqDiff, reduceCtorEq, Nat.reduceAdd, Nat.reduceSub, Nat.reduceLeDiff, Nat.reduceLT, Nat.reduceMul, Int.reduceToNat, Int.reduceLT, Int.reduceLE, Cn.cells])
  refine CallK_do i1 ?_
  cases ia with
  | false =>
    (try simp (implicitDefEqProofs := false) only [go_sem, ↓reduceIte, Nat.reduceEqDiff, reduceCtorEq, Nat.reduceAdd, Nat.reduceSub, Nat.reduceLeDiff, Nat.reduceLT, Nat.reduceMul, Int.reduceToNat, Int.reduceLT, Int.reduceLE, Bool.false_and, Bool.not_false])
    simp [zero_cells]
  | true =>
  (try simp (implicitDefEqProofs := false) only [go_sem, ↓reduceIte, Nat.reduceEqDiff, reduceCtorEq, Nat.reduceAdd, Nat.reduceSub, Nat.reduceLeDiff, Nat.reduceLT, Nat.reduceMul, Int.reduceToNat, Int.reduceLT, Int.reduceLE, Bool.not_true])
  refine CallK_do i2 ?_
  cases ib with
  | false =>
    (try simp (implicitDefEqProofs := false) only [go_sem, ↓reduceIte, Nat.reduceEqDiff, reduceCtorEq, Nat.reduceAdd, Nat.reduceSub, Nat.reduceLeDiff, Nat.reduceLT, Nat.reduceMul, Int.reduceToNat, Int.reduceLT, Int.reduceLE, Bool.and_false, Bool.not_false])
    simp [zero_cells]
  | true =>
  obtain ⟨g1, g2, g3, g4, g5⟩ := h2 rfl rfl
  simp only [Prod.mk.injEq] at g1 g2
  obtain ⟨rfl, rfl, rfl⟩ := g1
  obtain ⟨rfl, rfl, rfl⟩ := g2
  simp only [Cn.cells] at g3 g4
  (try simp (implicitDefEqProofs := false) only [go_sem, ↓reduceIte, Nat.reduceEqDiff, reduceCtorEq, Nat.reduceAdd, Nat.reduceSub, Nat.reduceLeDiff, Nat.reduceLT, Nat.reduceMul, Int.reduceToNat, Int.reduceLT, Int.reduceLE, Bool.not_true])
  refine CallK_do ck1 ?_
  (try simp (implicitDefEqProofs := false) only [go_sem, ↓reduceIte, Nat.reduceEqDiff, reduceCtorEq, Nat.reduceAdd, Nat.reduceSub, Nat.reduceLeDiff, Nat.reduceLT, Nat.reduceMul, Int.reduceToNat, Int.reduceLT, Int.reduceLE])
  refine CallK_do ck2 ?_
  (try simp (implicitDefEqProofs := false) only [go_sem, ↓reduceIte, Nat.reduceEqDiff, reduceCtorEq, Nat.reduceAdd, Nat.reduceSub, Nat.reduceLeDiff, Nat.reduceLT, Nat.reduceMul, Int.reduceToNat, Int.reduceLT, Int.reduceLE])
  refine CallK_do hs ?_
  cases hsm : ca2.same cb1 with
  | false =>
    (try simp (implicitDefEqProofs := false) only [go_sem, ↓reduceIte, Nat.reduceEqDiff, reduceCtorEq, Nat.reduceAdd, Nat.reduceSub, Nat.reduceLeDiff, Nat.reduceLT, Nat.reduceMul, Int.reduceToNat, Int.reduceLT, Int.reduceLE, Bool.not_false])
    simp [zero_cells]
  | true =>
  obtain ⟨g6, g7⟩ := g5 hsm
  simp only [Cn.cells] at g6 g7
  (try simp (implicitDefEqProofs := false) only [go_sem, ↓reduceIte, Nat.reduceEqDiff, reduceCtorEq, Nat.reduceAdd, Nat.reduceSub, Nat.reduceLeDiff, Nat.reduceLT, Nat.reduceMul, Int.reduceToNat, Int.reduceLT, Int.reduceLE, Bool.not_true])
  refine CallK_do g3 ?_
  (try simp (implicitDefEqProofs := false) only [go_sem, ↓reduceIte, Nat.reduceEqDiff, reduceCtorEq, Nat.reduceAdd, Nat.reduceSub, Nat.reduceLeDiff, Nat.reduceLT, Nat.reduceMul, Int.reduceToNat, Int.reduceLT, Int.reduceLE])
  refine CallK_do g4 ?_
  (try simp (implicitDefEqProofs := false) only [go_sem, ↓reduceIte, Nat.reduceEqDiff, reduceCtorEq, Nat.reduceAdd, Nat.reduceSub, Nat.reduceLeDiff, Nat.reduceLT, Nat.reduceMul, Int.reduceToNat, Int.reduceLT, Int.reduceLE])
  refine CallK_do g6 ?_
  (try simp (implicitDefEqProofs := false) only [go_sem, ↓reduceIte, Nat.reduceEqDiff, reduceCtorEq, Nat.reduceAdd, Nat.reduceSub, Nat.reduceLeDiff, Nat.reduceLT, Nat.reduceMul, Int.reduceToNat, Int.reduceLT, Int.reduceLE])
  refine CallK_do g7 ?_
  (try simp (implicitDefEqProofs := false) only [go_sem, ↓reduceIte, Nat.reduceEqDiff, reduceCtorEq, Nat.reduceAdd, Nat.reduceSub, Nat.reduceLeDiff, Nat.reduceLT, Nat.reduceMul, Int.reduceToNat, Int.reduceLT, Int.reduceLE])
  simp [Cn.cells]

theorem castA_does (a b : Ty) (ha : a.fits) (hb : b.fits) (lab : Int) (hl : -9223372036854775808 ≤ lab ∧ lab ≤ 9223372036854775807) :
    ∃ r, CastA a b lab r ∧ Does Try.prog 29 [.imm false (.agg a.cells), .imm false (.agg b.cells), .imm false (.int .i64 lab)] [] (.ret true (coV r)) [] := by
  obtain ⟨c, e, hA, hd⟩ := coerceOf_does a b ha hb lab hl
  refine ⟨_, .mk c e hA, ?_⟩
  have hn : e = 0 → Does Try.prog 20 [.imm false (.agg c.cells)] [] (.ret true (coV (normA c))) [] := fun h => by
    have h7 := hA.good h
    have hin := of_decide_eq_true h7.2.2.2.1
    exact normA_does c (h7.2.2.2.2.1.fits (by unfold labN; split <;> omega))
  unfold coV at *
  generalize normA c = r at hn
  obtain ⟨r1, r2⟩ := r
  obtain ⟨k, ty, to, lab1, neg, ks⟩ := c
  obtain ⟨k4, ty4, to4, lab4, neg4, ks4⟩ := r1
  simp only [Ty.cells_eq, Cn.cells] at hd hn ⊢
  refine does29 (by rfl) (by rfl) ?_
  (try simp (implicitDefEqProofs := false) only [go_sem, ↓reduceIte, Nat.reduceEqDiff, reduceCtorEq, Nat.reduceAdd, Nat.reduceSub, Nat.reduceLeDiff, Nat.reduceLT, Nat.reduceMul, Int.reduceToNat, Int.reduceLT, Int.reduceLE])
  refine CallK_do hd ?_
  by_cases hz : e = 0
  · have hn := hn hz
    (try simp (implicitDefEqProofs := false) only [go_sem, ↓reduceIte, Nat.reduceEqDiff, reduceCtorEq, Nat.reduceAdd, Nat.reduceSub, Nat.reduceLeDiff, Nat.reduceLT, Nat.reduceMul, Int.reduceToNat, Int.reduceLT, Int.reduceLE, hz, show ((0 : Int) != 0) = false from rfl])
    refine CallK_do hn ?_
    (try simp (implicitDefEqProofs := false) only [go_sem, ↓reduceIte, Nat.reduceEqDiff, reduceCtorEq, Nat.reduceAdd, Nat.reduceSub, Nat.reduceLeDiff, Nat.reduceLT, Nat.reduceMul, Int.reduceToNat, Int.reduceLT, Int.reduceLE])
    simp [Cn.cells]
  · (try simp (implicitDefEqProofs := false) only [go_sem, ↓reduceIte, Nat.reduceEqDiff, reduceCtorEq, Nat.reduceAdd, Nat.reduceSub, Nat.reduceLeDiff, Nat.reduceLT, Nat.reduceMul, Int.reduceToNat, Int.reduceLT, Int.reduceLE, show (e != 0) = true from by simpa using hz])
    simp [hz, zero_cells]
end Go.Proofs.Ytopgmopdjiahmaa.Lg
