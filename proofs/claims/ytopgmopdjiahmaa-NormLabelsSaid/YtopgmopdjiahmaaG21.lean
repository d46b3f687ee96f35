/- Texts of one proof, joined by program (gen/merge.py): Va. Conditions: none; plain definitions and lemmas. -/
import Derived.Test.YtopgmopdjiahmaaG15
/- Casts of small types, one behind the other: bounds; plain law. Conditions: none; plain definitions and lemmas. -/
set_option linter.unusedVariables false
set_option linter.unusedSimpArgs false
set_option maxRecDepth 100000
namespace Go.Proofs.Ytopgmopdjiahmaa.Lg
open Go Go.RowKit Go.Proofs

/-- how high a normal form is, with its types -/
def Nf.de : Nf → Int
  | .un => 1
  | .out g _ _ i => maxI (ghi g) i.de
  | .fail A B _ _ => maxI A.high B.high
  | .inn i g => maxI i.de (ghi g)
  | .base _ => 1
  | .two _ a b => maxI a.de b.de + 1
theorem Nf.de_pos : ∀ a : Nf, 1 ≤ a.de
  | .un => by simp [Nf.de]
  | .out g p n i => by simp only [Nf.de]; have := le_maxI (a := ghi g) (b := i.de); have := ghi_le g; omega
  | .fail A B p n => by simp only [Nf.de]; have := le_maxI (a := A.high) (b := B.high); have := Ty.high_pos A; omega
  | .inn i g => by simp only [Nf.de]; have := le_maxI (a := i.de) (b := ghi g); have := ghi_le g; omega
  | .base k => by simp [Nf.de]
  | .two k a b => by simp only [Nf.de]; have := le_maxI (a := a.de) (b := b.de); have := Nf.de_pos a; omega
theorem hi_de : ∀ a : Nf, a.hi ≤ a.de
  | .un => by simp [Nf.de, Nf.hi]
  | .out g p n i => by
    simp only [Nf.de, Nf.hi]
    have := hi_de i
    have h := le_maxI (a := ghi g) (b := i.de)
    exact maxI_le (by omega) (by omega)
  | .fail A B p n => by have := Nf.de_pos (.fail A B p n); simpa [Nf.hi] using this
  | .inn i g => by
    simp only [Nf.de, Nf.hi]
    have := hi_de i
    have h := le_maxI (a := i.de) (b := ghi g)
    exact maxI_le (by omega) (by omega)
  | .base k => by simp [Nf.de, Nf.hi]
  | .two k a b => by
    simp only [Nf.de, Nf.hi]
    have h1 := hi_de a
    have h2 := hi_de b
    have h := le_maxI (a := a.de) (b := b.de)
    have := maxI_le (a := a.hi) (b := b.hi) (c := maxI a.de b.de) (by omega) (by omega)
    omega
theorem en_de : ∀ {a : Nf}, a.en.1.high ≤ a.de ∧ a.en.2.high ≤ a.de
  | .un => by simp [Nf.de, Nf.en, un_high]
  | .out g p n i => by
    have := en_de (a := i)
    have h := le_maxI (a := ghi g) (b := i.de)
    have := Nf.de_pos i
    simp only [Nf.de, Nf.en, un_high]; omega
  | .fail A B p n => by simp only [Nf.de, Nf.en]; exact le_maxI
  | .inn i g => by
    have := en_de (a := i)
    have h := le_maxI (a := i.de) (b := ghi g)
    have := Nf.de_pos i
    simp only [Nf.de, Nf.en, un_high]; omega
  | .base k => by simp [Nf.de, Nf.en, Ty.high, Ty.highL]
  | .two k a b => by
    have h1 := en_de (a := a)
    have h2 := en_de (a := b)
    have h := le_maxI (a := a.de) (b := b.de)
    by_cases h3 : k = 3
    · subst h3
      simp only [Nf.en_fn, high_two, Nf.de]
      have q1 := maxI_le (a := a.en.2.high) (b := b.en.1.high) (c := maxI a.de b.de) (by omega) (by omega)
      have q2 := maxI_le (a := a.en.1.high) (b := b.en.2.high) (c := maxI a.de b.de) (by omega) (by omega)
      omega
    · simp only [Nf.en_two h3, high_two, Nf.de]
      have q1 := maxI_le (a := a.en.1.high) (b := b.en.1.high) (c := maxI a.de b.de) (by omega) (by omega)
      have q2 := maxI_le (a := a.en.2.high) (b := b.en.2.high) (c := maxI a.de b.de) (by omega) (by omega)
      omega
theorem dp_leaf2 (g : Ty) (p : Int) (n : Bool) : (Cn.mk 2 g .un p n []).dp = g.high + 1 ∧ (Cn.mk 3 g .un p n []).dp = g.high + 1 := by
  simp [Cn.dp, Cn.dpL, dp0, leafF]
theorem dp_de : ∀ {a : Nf} {l : Nat}, a.wf l → a.cn.dp + 1 ≤ 3 * a.de + l
  | .un, l, h => by simp only [Nf.wf] at h; subst h; simp [Nf.cn, Nf.de, Cn.dp, Cn.dpL, dp0, leafF, Ty.un, Ty.high, Ty.highL]
  | .out g p n i, l, h => by
    simp only [Nf.wf] at h
    have := dp_de h.2.2.2.1
    have hm := le_maxI (a := ghi g) (b := i.de)
    have hg := ghi_le g
    simp only [Nf.cn, dp_part 7 _ _ (by omega), Nf.de, (dp_leaf2 _ _ _).2]
    have q := maxI_le (a := (gty g).high + 1) (b := i.cn.dp) (c := 3 * maxI (ghi g) i.de) (by show ghi g + 1 ≤ _; omega) (by omega)
    omega
  | .fail A B p n, l, h => by
    simp only [Nf.wf] at h
    have := le_maxI (a := A.high) (b := B.high)
    have := Ty.high_pos A
    simp [Nf.de, Nf.cn, Cn.dp, Cn.dpL, dp0, leafF]
    omega
  | .inn i g, l, h => by
    simp only [Nf.wf] at h
    have := dp_de h.2.2.1
    have hm := le_maxI (a := i.de) (b := ghi g)
    have hg := ghi_le g
    simp only [Nf.cn, dp_part 7 _ _ (by omega), Nf.de, (dp_leaf2 _ _ _).1]
    have q := maxI_le (b := (gty g).high + 1) (a := i.cn.dp) (c := 3 * maxI i.de (ghi g) - 1) (by omega) (by show ghi g + 1 ≤ _; omega)
    omega
  | .base k, l, h => by
    simp [Nf.de, Nf.cn, Cn.dp, Cn.dpL, dp0, leafF, Ty.high, Ty.highL]; omega
  | .two k a b, l, h => by
    simp only [Nf.wf] at h
    have h1 := dp_de h.2.1
    have h2 := dp_de h.2.2
    have hm := le_maxI (a := a.de) (b := b.de)
    simp only [Nf.cn, dp_part (k + 1) _ _ (by omega), Nf.de]
    have q := maxI_le (b := b.cn.dp) (a := a.cn.dp) (c := 3 * maxI a.de b.de + 1) (by omega) (by omega)
    omega
theorem gty_nodes (g : Int) : 1 ≤ (gty g).nodes ∧ (gty g).nodes ≤ 3 := by
  unfold gty; split <;> simp [Ty.nodes, Ty.nodesL, Ty.un]
theorem cnt_leaf2 (g : Ty) (p : Int) (n : Bool) : (Cn.mk 2 g .un p n []).cnt = 1 + g.nodes ∧ (Cn.mk 3 g .un p n []).cnt = 1 + g.nodes := by
  simp [Cn.cnt, Cn.cntL, leafF]
theorem cnt_fail (A B : Ty) (p : Int) (n : Bool) : (Nf.fail A B p n).cn.cnt = 1 + A.nodes + B.nodes := by
  simp [Nf.cn, Cn.cnt, Cn.cntL, leafF]
theorem cnt_two {k : Int} (hk : k = 3 ∨ k = 4 ∨ k = 5) (a b : Nf) : (Nf.two k a b).cn.cnt = 1 + a.cn.cnt + b.cn.cnt := by
  simp only [Nf.cn]; exact cnt_part _ _ _ (by omega)
theorem si_cnt : ∀ {a : Nf} {l : Nat}, a.wf l → a.si ≤ a.cn.cnt
  | .un, l, h => by have := Cn.cnt_pos Nf.un.cn; simpa [Nf.si] using this
  | .out g p n i, l, h => by
    simp only [Nf.wf] at h
    have := si_cnt h.2.2.2.1
    have c1 := Cn.cnt_pos (Cn.mk 3 (gty g) .un p n [])
    simp only [Nf.cn, cnt_part 7 _ _ (by omega), Nf.si]; omega
  | .fail A B p n, l, h => by have := Cn.cnt_pos (Nf.fail A B p n).cn; simpa [Nf.si] using this
  | .inn i g, l, h => by
    simp only [Nf.wf] at h
    have := si_cnt h.2.2.1
    have c1 := Cn.cnt_pos (Cn.mk 2 (gty g) .un 0 false [])
    simp only [Nf.cn, cnt_part 7 _ _ (by omega), Nf.si]; omega
  | .base k, l, h => by have := Cn.cnt_pos (Nf.base k).cn; simpa [Nf.si] using this
  | .two k a b, l, h => by
    simp only [Nf.wf] at h
    have h1 := si_cnt h.2.1
    have h2 := si_cnt h.2.2
    rw [cnt_two h.1]; simp only [Nf.si]; omega

/-- merging makes nothing that is greater than both together, or higher than both -/
theorem join_small : ∀ (N : Nat) (a b : Nf), a.sz + b.sz ≤ N → a.wf 2 → b.wf 2 → a.en.2 = b.en.1 → (join a b).de ≤ maxI a.de b.de ∧ (join a b).cn.cnt ≤ a.cn.cnt + b.cn.cnt := by
  intro N
  induction N with
  | zero => intro a b hN; have := a.sz_pos; omega
  | succ N ih =>
    intro a b hN ha hb he
    have pa := Nf.de_pos a
    have pb := Nf.de_pos b
    have mm := le_maxI (a := a.de) (b := b.de)
    have ca := Cn.cnt_pos a.cn
    have cb := Cn.cnt_pos b.cn
    have sa := en_small ha
    have sb := en_small hb
    have da := en_de (a := a)
    have db := en_de (a := b)
    have mid : a.mid = true → (join a b).de ≤ maxI a.de b.de ∧ (join a b).cn.cnt ≤ a.cn.cnt + b.cn.cnt := by
      intro hm
      rcases Nf.meets ha hb hm he with ⟨A, B, p, n, rfl⟩ | ⟨i, g, rfl⟩ | ⟨k, rfl, rfl⟩ | ⟨k, x, y, u, v, rfl, rfl⟩
      · rw [join_mid_fail hm, cnt_fail, cnt_fail]
        simp only [Nf.de] at mm ⊢
        have := le_maxI (a := A.high) (b := B.high)
        exact ⟨maxI_le (by omega) (by omega), by omega⟩
      · rw [join_mid_inn hm]
        simp only [Nf.wf] at hb
        obtain ⟨h1, h2⟩ := ih a i (by simp only [Nf.sz] at hN; omega) ha (Nf.wf_up hb.2.2.1 (by omega) (by omega)) he
        simp only [Nf.cn, cnt_part 7 _ _ (by omega), Nf.de] at mm ⊢
        have a1 := le_maxI (a := i.de) (b := ghi g)
        have a2 := maxI_le (a := a.de) (b := i.de) (c := maxI a.de (maxI i.de (ghi g))) (by omega) (by omega)
        exact ⟨maxI_le (by omega) (by omega), by omega⟩
      · rw [join_base]; exact ⟨by omega, by omega⟩
      · simp only [Nf.wf] at ha hb
        have hN2 : x.sz + y.sz + u.sz + v.sz + 2 ≤ N + 1 := by simp only [Nf.sz] at hN; omega
        have a1 := le_maxI (a := x.de) (b := y.de)
        have a2 := le_maxI (a := u.de) (b := v.de)
        by_cases h3 : k = 3
        · subst h3
          rw [join_fn]
          simp only [Nf.en_fn, Ty.mk.injEq, List.cons.injEq, and_true, true_and] at he
          have h1 := ih u x (by omega) hb.2.1 ha.2.1 he.1.symm
          have h2 := ih y v (by omega) ha.2.2 hb.2.2 he.2
          rw [cnt_two (.inl rfl), cnt_two (.inl rfl), cnt_two (.inl rfl)]
          simp only [Nf.de] at mm ⊢
          have a3 := maxI_le (a := u.de) (b := x.de) (c := maxI (maxI x.de y.de + 1) (maxI u.de v.de + 1) - 1) (by omega) (by omega)
          have a4 := maxI_le (a := y.de) (b := v.de) (c := maxI (maxI x.de y.de + 1) (maxI u.de v.de + 1) - 1) (by omega) (by omega)
          have := maxI_le (c := maxI (maxI x.de y.de + 1) (maxI u.de v.de + 1) - 1) (a := (join u x).de) (b := (join y v).de) (by omega) (by omega)
          omega
        · rw [join_two h3]
          simp only [Nf.en_two h3, Ty.mk.injEq, List.cons.injEq, and_true, true_and] at he
          have h1 := ih x u (by omega) ha.2.1 hb.2.1 he.1
          have h2 := ih y v (by omega) ha.2.2 hb.2.2 he.2
          rw [cnt_two ha.1, cnt_two ha.1, cnt_two ha.1]
          simp only [Nf.de] at mm ⊢
          have a3 := maxI_le (a := x.de) (b := u.de) (c := maxI (maxI x.de y.de + 1) (maxI u.de v.de + 1) - 1) (by omega) (by omega)
          have a4 := maxI_le (a := y.de) (b := v.de) (c := maxI (maxI x.de y.de + 1) (maxI u.de v.de + 1) - 1) (by omega) (by omega)
          have := maxI_le (c := maxI (maxI x.de y.de + 1) (maxI u.de v.de + 1) - 1) (a := (join x u).de) (b := (join y v).de) (by omega) (by omega)
          omega
    cases a with
    | un => rw [join_un]; exact ⟨by omega, by omega⟩
    | out g p n i =>
      simp only [Nf.wf] at ha
      rw [join_out]
      obtain ⟨h1, h2⟩ := ih i b (by simp only [Nf.sz] at hN; omega) (Nf.wf_up ha.2.2.2.1 (by omega) (by omega)) hb he
      simp only [Nf.cn, cnt_part 7 _ _ (by omega), Nf.de] at mm ⊢
      have a1 := le_maxI (a := ghi g) (b := i.de)
      have a2 := maxI_le (a := i.de) (b := b.de) (c := maxI (maxI (ghi g) i.de) b.de) (by omega) (by omega)
      exact ⟨maxI_le (by omega) (by omega), by omega⟩
    | fail A B p n =>
      rw [join_fail, cnt_fail, cnt_fail]
      simp only [Nf.de] at mm ⊢
      have := le_maxI (a := A.high) (b := B.high)
      exact ⟨maxI_le (by omega) (by omega), by omega⟩
    | inn i g =>
      simp only [Nf.wf] at ha
      rcases Nf.out_k hb (by rw [← he]; rfl) with rfl | ⟨h, p, n, j, rfl⟩
      · rw [join_inn_un]; exact ⟨by omega, by omega⟩
      · simp only [Nf.wf] at hb
        by_cases hgh : g = h
        · subst hgh
          rw [join_inn_eq]
          obtain ⟨h1, h2⟩ := ih i j (by simp only [Nf.sz] at hN; omega) (Nf.wf_up ha.2.2.1 (by omega) (by omega)) (Nf.wf_up hb.2.2.2.1 (by omega) (by omega)) (by rw [ha.2.2.2, hb.2.2.2.2])
          have c1 := Cn.cnt_pos (Cn.mk 2 (gty g) .un 0 false [])
          have c2 := Cn.cnt_pos (Cn.mk 3 (gty g) .un p n [])
          simp only [Nf.cn, cnt_part 7 _ _ (by omega), Nf.de] at mm ⊢
          have a1 := le_maxI (a := i.de) (b := ghi g)
          have a2 := le_maxI (a := ghi g) (b := j.de)
          have a3 := maxI_le (a := i.de) (b := j.de) (c := maxI (maxI i.de (ghi g)) (maxI (ghi g) j.de)) (by omega) (by omega)
          exact ⟨by omega, by omega⟩
        · rw [join_inn_ne _ _ _ _ _ _ hgh, cnt_fail]
          have e1 : (Nf.inn i g).en.1 = i.en.1 := rfl
          have e2 : (Nf.out h p n j).en.2 = j.en.2 := rfl
          rw [e1] at sa da
          rw [e2] at sb db
          refine ⟨?_, by omega⟩
          show maxI i.en.1.high j.en.2.high ≤ _
          exact maxI_le (by omega) (by omega)
    | base k => exact mid rfl
    | two k x y => exact mid rfl

/-- what the casts' maker makes is in normal form, and small -/
theorem OfR.small {lab : Int} (hl : labOk lab = true) {neg : Bool} {a b : Ty} {c : Cn} (h : OfR lab neg a b c) : a.check = 0 → b.check = 0 →
    c.nf.cn = c ∧ c.nf.de ≤ maxI a.high b.high ∧ c.cnt + 6 ≤ 6 * ((a.nodes : Int) + b.nodes) ∧ (a.k ≠ 0 → b.k ≠ 0 → (a.nodes = 1 ∧ b.nodes = 1 ∧ c.cnt = 2) ∨ c.cnt + 23 ≤ 6 * ((a.nodes : Int) + b.nodes)) := by
  have hi : ∀ {k : Int} {ts : List Ty}, (Ty.mk k ts).check = 0 → k ≠ 0 → ghi k ≤ (Ty.mk k ts).high := by
    intro k ts hc hk
    rcases right_shape (check_iff.1 hc).2.2 with ⟨rfl, hk2⟩ | ⟨x, y, rfl, hk2, _, _⟩
    · unfold ghi gty; rw [if_pos (by omega)]; exact Int.le_refl _
    · rw [high_two]
      have := Ty.high_pos x
      have := le_maxI (a := x.high) (b := y.high)
      have := ghi_le k
      omega
  induction h with
  | id neg k us =>
    intro ha hb
    have := right_base ha hb
    subst this
    have h1 := Ty.high_pos (.mk k [])
    by_cases hk : k = 0
    · subst hk
      exact ⟨by simp [Cn.nf, nfK, Ty.idn, Ty.idnL, idnK, Nf.cn, Ty.un], by simp [Cn.nf, nfK, Ty.idn, Ty.idnL, idnK, Nf.de, maxI, h1], by simp [Cn.cnt, Cn.cntL, leafF, Ty.nodes, Ty.nodesL], fun h => absurd rfl h⟩
    · have : (Cn.mk 0 (.mk k []) .un 0 false []).nf = .base k := by simp [Cn.nf, nfK, idn_base hk]
      rw [this]
      exact ⟨by simp [Nf.cn], by simp [Nf.de, maxI, h1], by simp [Cn.cnt, Cn.cntL, leafF, Ty.nodes, Ty.nodesL], fun _ _ => .inl (by simp [Cn.cnt, Cn.cntL, leafF, Ty.nodes, Ty.nodesL])⟩
  | inn neg k ts us c hk hc h ih =>
    intro ha hb
    have := right_zero hb
    subst this
    obtain ⟨g1, g2⟩ := ground_gty hc hk
    have hg : (Ty.mk k ts).ground.1 = gty k := by rw [g1]; rfl
    rw [hg] at h ih ⊢
    have gc := gty_check (g := k) g2
    have hm := h.mid hk (by rw [gty_k]; exact hk)
    obtain ⟨i1, i2, i3, i4⟩ := ih ha gc
    have e : (part 7 c (.mk 2 (gty k) .un 0 false [])).nf = .inn c.nf k := by
      have e := h.ends hl ha gc
      obtain ⟨w, en⟩ := nf_wf c (by rw [e])
      rw [part, nf_seq]
      have e2 : (Cn.mk 2 (gty k) .un 0 false []).nf = .inn (gty k).idn k := by simp [Cn.nf, nfK, gty_k]
      rw [e2, join_mid_inn hm, join_idr w (by rw [en, e])]
    have hh := hi hc hk
    have hg2 : (gty k).high = ghi k := rfl
    have m1 := le_maxI (a := (Ty.mk k ts).high) (b := (Ty.mk 0 []).high)
    have m2 := maxI_le (a := (Ty.mk k ts).high) (b := (gty k).high) (c := (Ty.mk k ts).high) (by omega) (by omega)
    rw [e]
    refine ⟨by simp only [Nf.cn, i1], ?_, ?_, fun _ h => absurd rfl h⟩
    · simp only [Nf.de]; exact maxI_le (by omega) (by omega)
    · rw [cnt_part 7 _ _ (by omega), (cnt_leaf2 _ _ _).1]
      have n1 := gty_nodes k
      have n2 : (Ty.mk 0 []).nodes = 1 := rfl
      rw [n2]
      rcases i4 hk (by rw [gty_k]; exact hk) with ⟨q1, q2, q3⟩ | q
      · omega
      · omega
  | out neg k ts us c hk hc h ih =>
    intro ha hb
    have := right_zero ha
    subst this
    obtain ⟨g1, g2⟩ := ground_gty hc hk
    have hg : (Ty.mk k ts).ground.1 = gty k := by rw [g1]; rfl
    rw [hg] at h ih ⊢
    have gc := gty_check (g := k) g2
    have hm := h.mid (by rw [gty_k]; exact hk) hk
    obtain ⟨i1, i2, i3, i4⟩ := ih gc hb
    have e : (part 7 (.mk 3 (gty k) .un lab neg []) c).nf = .out k lab neg c.nf := by
      have e := h.ends hl gc hb
      obtain ⟨w, en⟩ := nf_wf c (by rw [e])
      rw [part, nf_seq]
      have e2 : (Cn.mk 3 (gty k) .un lab neg []).nf = .out k lab neg (gty k).idn := by simp [Cn.nf, nfK, gty_k]
      rw [e2, join_out, join_idl w (by rw [en, e])]
    have hh := hi hc hk
    have hg2 : (gty k).high = ghi k := rfl
    have m1 := le_maxI (b := (Ty.mk k ts).high) (a := (Ty.mk 0 []).high)
    have m2 := maxI_le (b := (Ty.mk k ts).high) (a := (gty k).high) (c := (Ty.mk k ts).high) (by omega) (by omega)
    rw [e]
    refine ⟨by simp only [Nf.cn, i1], ?_, ?_, fun h => absurd rfl h⟩
    · simp only [Nf.de]; exact maxI_le (by omega) (by omega)
    · rw [cnt_part 7 _ _ (by omega), (cnt_leaf2 _ _ _).2]
      have n1 := gty_nodes k
      have n2 : (Ty.mk 0 []).nodes = 1 := rfl
      rw [n2]
      rcases i4 (by rw [gty_k]; exact hk) hk with ⟨q1, q2, q3⟩ | q
      · omega
      · omega
  | fn neg f0 f1 t0 t1 c d h h' ih ih' =>
    intro ha hb
    obtain ⟨a0, a1, _, _⟩ := check_pair ha
    obtain ⟨b0, b1, _, _⟩ := check_pair hb
    obtain ⟨i1, i2, i3, _⟩ := ih b0 a0
    obtain ⟨j1, j2, j3, _⟩ := ih' a1 b1
    have m1 := le_maxI (a := f0.high) (b := f1.high)
    have m2 := le_maxI (a := t0.high) (b := t1.high)
    have m3 := le_maxI (a := maxI f0.high f1.high + 1) (b := maxI t0.high t1.high + 1)
    have m4 := maxI_le (a := t0.high) (b := f0.high) (c := maxI (maxI f0.high f1.high + 1) (maxI t0.high t1.high + 1) - 1) (by omega) (by omega)
    have m5 := maxI_le (a := f1.high) (b := t1.high) (c := maxI (maxI f0.high f1.high + 1) (maxI t0.high t1.high + 1) - 1) (by omega) (by omega)
    have hc := cnt_part 4 c d (by omega)
    have e : (part 4 c d).nf = .two 3 c.nf d.nf := by rw [part, nf_two (by omega)]; rfl
    have n1 := nodes_two 3 f0 f1
    have n2 := nodes_two 3 t0 t1
    rw [e, hc]
    refine ⟨by simp only [Nf.cn, i1, j1]; rfl, ?_, by omega, fun _ _ => .inr (by omega)⟩
    simp only [Nf.de, high_two]
    have := maxI_le (a := c.nf.de) (b := d.nf.de) (c := maxI (maxI f0.high f1.high + 1) (maxI t0.high t1.high + 1) - 1) (by omega) (by omega)
    omega
  | two neg k f0 f1 t0 t1 c d hk h h' ih ih' =>
    intro ha hb
    obtain ⟨a0, a1, _, _⟩ := check_pair ha
    obtain ⟨b0, b1, _, _⟩ := check_pair hb
    obtain ⟨i1, i2, i3, _⟩ := ih a0 b0
    obtain ⟨j1, j2, j3, _⟩ := ih' a1 b1
    have m1 := le_maxI (a := f0.high) (b := f1.high)
    have m2 := le_maxI (a := t0.high) (b := t1.high)
    have m3 := le_maxI (a := maxI f0.high f1.high + 1) (b := maxI t0.high t1.high + 1)
    have m4 := maxI_le (a := f0.high) (b := t0.high) (c := maxI (maxI f0.high f1.high + 1) (maxI t0.high t1.high + 1) - 1) (by omega) (by omega)
    have m5 := maxI_le (a := f1.high) (b := t1.high) (c := maxI (maxI f0.high f1.high + 1) (maxI t0.high t1.high + 1) - 1) (by omega) (by omega)
    have hc := cnt_part (k + 1) c d (by omega)
    have e : (part (k + 1) c d).nf = .two k c.nf d.nf := by rw [part, nf_two (by omega)]; congr 1; omega
    have n1 := nodes_two k f0 f1
    have n2 := nodes_two k t0 t1
    rw [e, hc]
    refine ⟨by simp only [Nf.cn, i1, j1], ?_, by omega, fun _ _ => .inr (by omega)⟩
    simp only [Nf.de, high_two]
    have := maxI_le (a := c.nf.de) (b := d.nf.de) (c := maxI (maxI f0.high f1.high + 1) (maxI t0.high t1.high + 1) - 1) (by omega) (by omega)
    omega
mutual
theorem high_nodes : ∀ t : Ty, t.high ≤ t.nodes
  | .mk k ts => by
    have := highL_nodes ts 0 0 (by omega)
    simp only [Ty.high, Ty.nodes]; omega
theorem highL_nodes : ∀ (ts : List Ty) (d : Int) (n : Nat), d ≤ n → Ty.highL ts d ≤ n + Ty.nodesL ts
  | [], d, n, h => by simp only [Ty.highL, Ty.nodesL]; omega
  | t :: r, d, n, h => by
    have h1 := high_nodes t
    have := highL_nodes r (maxI d t.high) (n + t.nodes) (maxI_le (by omega) (by omega))
    simp only [Ty.highL, Ty.nodesL]
    omega
end
theorem nf_small {a : Nf} (h : a.wf 2) (hd : a.de ≤ 60) (hc : a.cn.cnt ≤ 8192) : a.cn.chk = (a.en.1, a.en.2, 0) := by
  have := dp_de h
  exact nf_ok h hc (by omega)
/-- a cast of small types -/
theorem cast_small {a b : Ty} {lab : Int} {r : Cn × Int} (h : CastA a b lab r) (ha : a.check = 0) (hb : b.check = 0) (hn : a.nodes ≤ 60) (hn' : b.nodes ≤ 60) (hl : a.lev b = true) (hlab : labIn lab = true) :
    ∃ N : Nf, N.wf 2 ∧ N.en = (a, b) ∧ r = (N.cn, 0) ∧ N.de ≤ maxI a.high b.high ∧ N.cn.cnt ≤ 720 := by
  have key : ∀ c, OfR (labN lab) (labS lab) a b c → c.nf.wf 2 ∧ c.nf.en = (a, b) ∧ c.nf.de ≤ maxI a.high b.high ∧ c.nf.cn.cnt ≤ 720 ∧ c.nf.cn = c ∧ c.chk = (a, b, 0) := by
    intro c hc
    have e := hc.ends (labOk_N hlab) ha hb
    obtain ⟨w, en⟩ := nf_wf c (by rw [e])
    rw [e] at en
    obtain ⟨i1, i2, i3, _⟩ := hc.small (labOk_N hlab) ha hb
    have h1 := high_nodes a
    have h2 := high_nodes b
    have h3 := maxI_le (a := a.high) (b := b.high) (c := 60) (by omega) (by omega)
    have hk := nf_small w (by omega) (by rw [i1]; omega)
    rw [i1, en] at hk
    exact ⟨w, en, i2, by rw [i1]; omega, i1, hk⟩
  cases h with
  | mk c e hA =>
    cases hA with
    | e1 h => exact absurd ha h
    | e2 h h' => exact absurd hb h'
    | e3 h h' h2 => rcases h2 with h2 | h2 <;> simp_all
    | e4 c h h' h2 h3 hc he => exact absurd (by rw [(key c hc).2.2.2.2.2]) he
    | ok _ h h' h2 h3 hc he =>
      obtain ⟨w, en, k1, k2, k3, k4⟩ := key c hc
      refine ⟨c.nf, w, en, ?_, k1, k2⟩
      rw [if_pos rfl, normA, if_pos (by rw [k4])]
      rw [tolN, if_pos (by rw [k3, k4])]
end Go.Proofs.Ytopgmopdjiahmaa.Lg
