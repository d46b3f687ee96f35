/- Texts of one proof, joined by program (gen/tells.py): Pa Pb Pc. Conditions: none; plain definitions and lemmas. -/
import Derived.Test.YtopgmopdjiahmaaH8
/- Normal forms: trees, merging, in any order. Conditions: none; plain definitions and lemmas. -/
set_option linter.unusedVariables false
set_option linter.unusedSimpArgs false
set_option maxRecDepth 100000
namespace Go.Proofs.Ytopgmopdjiahmaa.Lg
open Go Go.RowKit Go.Proofs

inductive Nf where
  | un
  | out (g : Int) (p : Int) (n : Bool) (i : Nf)
  | fail (A B : Ty) (p : Int) (n : Bool)
  | inn (i : Nf) (g : Int)
  | base (k : Int)
  | two (k : Int) (a b : Nf)
def gty (k : Int) : Ty := if k = 1 ∨ k = 2 then .mk k [] else .mk k [.un, .un]
theorem gty_k (k : Int) : (gty k).k = k := by unfold gty; split <;> rfl
theorem Ty.un_k : Ty.un.k = 0 := rfl
def Nf.cn : Nf → Cn
  | .un => .mk 0 .un .un 0 false []
  | .out g p n i => part 7 (.mk 3 (gty g) .un p n []) i.cn
  | .fail A B p n => .mk 1 A B p n []
  | .inn i g => part 7 i.cn (.mk 2 (gty g) .un 0 false [])
  | .base k => .mk 0 (.mk k []) .un 0 false []
  | .two k a b => part (k + 1) a.cn b.cn
/-- from where, to where -/
def Nf.en : Nf → Ty × Ty
  | .un => (.un, .un)
  | .out _ _ _ i => (.un, i.en.2)
  | .fail A B _ _ => (A, B)
  | .inn i _ => (i.en.1, .un)
  | .base k => (.mk k [], .mk k [])
  | .two k a b => if k = 3 then (.mk 3 [a.en.2, b.en.1], .mk 3 [a.en.1, b.en.2]) else (.mk k [a.en.1, b.en.1], .mk k [a.en.2, b.en.2])
def okG (g : Int) : Prop := 1 ≤ g ∧ g ≤ 5
/-- of which line: 0 g, 1 i, 2 s -/
def Nf.wf : Nat → Nf → Prop
  | l, .un => l = 2
  | l, .out g p n i => l = 2 ∧ okG g ∧ labOk p = true ∧ i.wf 1 ∧ i.en.1 = gty g
  | l, .fail A B p n => 1 ≤ l ∧ A.k ≠ 0 ∧ A.right = true ∧ B.right = true ∧ labOk p = true
  | l, .inn i g => 1 ≤ l ∧ okG g ∧ i.wf 0 ∧ i.en.2 = gty g
  | l, .base k => k = 1 ∨ k = 2
  | l, .two k a b => (k = 3 ∨ k = 4 ∨ k = 5) ∧ a.wf 2 ∧ b.wf 2
def Nf.mid : Nf → Bool
  | .base _ | .two .. => true
  | _ => false
def Nf.inr : Nf → Bool
  | .base _ | .two .. | .fail .. | .inn .. => true
  | _ => false
def Nf.sz : Nf → Nat
  | .out _ _ _ i => i.sz + 1
  | .inn i _ => i.sz + 1
  | .two _ a b => a.sz + b.sz + 1
  | _ => 1
theorem Nf.sz_pos (a : Nf) : 1 ≤ a.sz := by cases a <;> simp [Nf.sz]

def join (a b : Nf) : Nf :=
  match a with
  | .un => b
  | .out g p n i => .out g p n (join i b)
  | .fail A B p n => .fail A b.en.2 p n
  | .inn i g => match b with
    | .un => .inn i g
    | .out h p n j => if g = h then join i j else .fail i.en.1 j.en.2 p n
    | _ => .un
  | .base k => match b with
    | .fail _ B p n => .fail (.mk k []) B p n
    | .inn j h => .inn (join (.base k) j) h
    | _ => .base k
  | .two k x y => match b with
    | .fail _ B p n => .fail (Nf.two k x y).en.1 B p n
    | .inn j h => .inn (join (.two k x y) j) h
    | .two _ u v => .two k (if k = 3 then join u x else join x u) (join y v)
    | _ => .un
termination_by a.sz + b.sz
decreasing_by all_goals simp only [Nf.sz]; omega

theorem join_un (b : Nf) : join .un b = b := by rw [join]
theorem join_out (g p : Int) (n : Bool) (i b : Nf) : join (.out g p n i) b = .out g p n (join i b) := by rw [join]
theorem join_fail (A B : Ty) (p : Int) (n : Bool) (b : Nf) : join (.fail A B p n) b = .fail A b.en.2 p n := by rw [join]
theorem join_inn_un (i : Nf) (g : Int) : join (.inn i g) .un = .inn i g := by rw [join]
theorem join_inn_eq (i j : Nf) (g : Int) (p : Int) (n : Bool) : join (.inn i g) (.out g p n j) = join i j := by rw [join]; simp
theorem join_inn_ne (i j : Nf) (g h : Int) (p : Int) (n : Bool) (hg : g ≠ h) : join (.inn i g) (.out h p n j) = .fail i.en.1 j.en.2 p n := by rw [join]; simp [hg]
theorem join_mid_fail {a : Nf} (h : a.mid = true) (A B : Ty) (p : Int) (n : Bool) : join a (.fail A B p n) = .fail a.en.1 B p n := by
  cases a <;> simp [Nf.mid] at h
  · rw [join]; rfl
  · rw [join]
theorem join_mid_inn {a : Nf} (h : a.mid = true) (j : Nf) (g : Int) : join a (.inn j g) = .inn (join a j) g := by
  cases a <;> simp [Nf.mid] at h
  · rw [join]
  · rw [join]
theorem join_base (k k' : Int) : join (.base k) (.base k') = .base k := by rw [join] <;> simp
theorem join_fn (x y u v : Nf) : join (.two 3 x y) (.two 3 u v) = .two 3 (join u x) (join y v) := by rw [join]; simp
theorem join_two {k : Int} (hk : k ≠ 3) (k' : Int) (x y u v : Nf) : join (.two k x y) (.two k' u v) = .two k (join x u) (join y v) := by rw [join]; simp [hk]

theorem Nf.wf_up {a : Nf} {l l' : Nat} (h : a.wf l) (hl : l ≤ l') (hl2 : l' ≤ 2) : a.wf l' := by
  cases a <;> simp only [Nf.wf] at h ⊢
  · omega
  · exact ⟨by omega, h.2⟩
  · exact ⟨by omega, h.2⟩
  · exact ⟨by omega, h.2⟩
  · exact h
  · exact h
theorem Nf.wf_mid {a : Nf} {l l' : Nat} (h : a.wf l) (hm : a.mid = true) : a.wf l' := by
  cases a <;> simp [Nf.mid] at hm <;> exact h
theorem Nf.wf0 {a : Nf} (h : a.wf 0) : a.mid = true := by
  cases a <;> simp [Nf.wf] at h <;> rfl
theorem Nf.wf1 {a : Nf} (h : a.wf 1) : a.inr = true := by
  cases a <;> simp [Nf.wf] at h <;> rfl
theorem Nf.inr_wf {a : Nf} (h : a.wf 2) (hi : a.inr = true) : a.wf 1 := by
  cases a <;> simp [Nf.inr] at hi <;> simp only [Nf.wf] at h ⊢
  · exact ⟨by omega, h.2⟩
  · exact ⟨by omega, h.2⟩
  · exact h
  · exact h
theorem Nf.mid_k {a : Nf} {l : Nat} (h : a.wf l) (hm : a.mid = true) : a.en.1.k ≠ 0 ∧ a.en.2.k ≠ 0 := by
  cases a <;> simp [Nf.mid] at hm <;> simp only [Nf.wf] at h
  · simp only [Nf.en, Ty.k]; omega
  · simp only [Nf.en]; split <;> simp only [Ty.k] <;> omega
theorem Nf.inr_k {a : Nf} (h : a.wf 1) : a.en.1.k ≠ 0 := by
  cases a with
  | un => simp [Nf.wf] at h
  | out => simp [Nf.wf] at h
  | fail A B p n => simp only [Nf.wf] at h; exact h.2.1
  | inn i g => simp only [Nf.wf] at h; exact (Nf.mid_k h.2.2.1 (Nf.wf0 h.2.2.1)).1
  | base k => exact (Nf.mid_k h rfl).1
  | two k a b => exact (Nf.mid_k h rfl).1
theorem Nf.out_k {a : Nf} (h : a.wf 2) (hk : a.en.1.k = 0) : a = .un ∨ ∃ g p n i, a = .out g p n i := by
  cases a with
  | un => exact .inl rfl
  | out g p n i => exact .inr ⟨_, _, _, _, rfl⟩
  | fail A B p n => exact absurd hk (Nf.inr_k (Nf.inr_wf h rfl))
  | inn i g => exact absurd hk (Nf.inr_k (Nf.inr_wf h rfl))
  | base k => exact absurd hk (Nf.inr_k (Nf.inr_wf h rfl))
  | two k a b => exact absurd hk (Nf.inr_k (Nf.inr_wf h rfl))
theorem Nf.inr_of {a : Nf} (hk : a.en.1.k ≠ 0) : a.inr = true := by
  cases a with
  | un => exact absurd rfl hk
  | out g p n i => exact absurd rfl hk
  | fail A B p n => rfl
  | inn i g => rfl
  | base k => rfl
  | two k a b => rfl
/-- what a middle one meets -/
theorem Nf.meets {a b : Nf} {la : Nat} (ha : a.wf la) (hb : b.wf 2) (hm : a.mid = true) (h : a.en.2 = b.en.1) :
    (∃ A B p n, b = .fail A B p n) ∨ (∃ i g, b = .inn i g) ∨ (∃ k, a = .base k ∧ b = .base k) ∨ ∃ k x y u v, a = .two k x y ∧ b = .two k u v := by
  have hk := (Nf.mid_k ha hm).2
  rw [h] at hk
  cases b with
  | un => exact absurd rfl hk
  | out => exact absurd rfl hk
  | fail A B p n => exact .inl ⟨_, _, _, _, rfl⟩
  | inn i g => exact .inr (.inl ⟨_, _, rfl⟩)
  | base k =>
    cases a <;> simp [Nf.mid] at hm
    · rename_i k'
      simp only [Nf.en, Ty.mk.injEq, and_true] at h
      subst h
      exact .inr (.inr (.inl ⟨_, rfl, rfl⟩))
    · simp only [Nf.en] at h
      split at h <;> simp at h
  | two k u v =>
    cases a <;> simp [Nf.mid] at hm
    · simp only [Nf.en] at h
      split at h <;> simp at h
    · rename_i k' x y
      have : k' = k := by
        simp only [Nf.en] at h
        split at h <;> split at h <;> simp at h <;> omega
      subst this
      exact .inr (.inr (.inr ⟨_, _, _, _, _, rfl, rfl⟩))
theorem Nf.en_two {k : Int} {a b : Nf} (h : k ≠ 3) : (Nf.two k a b).en = (.mk k [a.en.1, b.en.1], .mk k [a.en.2, b.en.2]) := by simp [Nf.en, h]
theorem Nf.en_fn {a b : Nf} : (Nf.two 3 a b).en = (.mk 3 [a.en.2, b.en.1], .mk 3 [a.en.1, b.en.2]) := by simp [Nf.en]
theorem Nf.en_right : ∀ {a : Nf} {l : Nat}, a.wf l → a.en.1.right = true ∧ a.en.2.right = true
  | .un, l, h => ⟨un_right, un_right⟩
  | .out g p n i, l, h => by
    simp only [Nf.wf] at h
    exact ⟨un_right, (Nf.en_right h.2.2.2.1).2⟩
  | .fail A B p n, l, h => by simp only [Nf.wf] at h; exact ⟨h.2.2.1, h.2.2.2.1⟩
  | .inn i g, l, h => by
    simp only [Nf.wf] at h
    exact ⟨(Nf.en_right h.2.2.1).1, un_right⟩
  | .base k, l, h => by
    simp only [Nf.wf] at h
    have : (Ty.mk k []).right = true := by rcases h with rfl | rfl <;> simp [Ty.right, Ty.rightL, partsF]
    exact ⟨this, this⟩
  | .two k a b, l, h => by
    simp only [Nf.wf] at h
    have h1 := Nf.en_right h.2.1
    have h2 := Nf.en_right h.2.2
    rcases h.1 with rfl | rfl | rfl
    · simp [Nf.en, Ty.right, Ty.rightL, partsF, h1, h2]
    · simp [Nf.en, Ty.right, Ty.rightL, partsF, h1, h2]
    · simp [Nf.en, Ty.right, Ty.rightL, partsF, h1, h2]

theorem max_wf {a : Nf} {l l' l'' : Nat} (h : a.wf l) (h1 : l ≤ max l' l'') (h' : l' ≤ 2) (h'' : l'' ≤ 2) : a.wf (max l' l'') := Nf.wf_up h h1 (by omega)

/-- merging two that meet: again one, from the first's beginning to the second's end -/
theorem join_wf : ∀ (N : Nat) (a b : Nf) (la lb : Nat), a.sz + b.sz ≤ N → la ≤ 2 → lb ≤ 2 → a.wf la → b.wf lb → a.en.2 = b.en.1 →
    (join a b).wf (max la lb) ∧ (join a b).en = (a.en.1, b.en.2) := by
  intro N
  induction N with
  | zero => intro a b la lb hN; have := a.sz_pos; omega
  | succ N ih =>
    intro a b la lb hN hla hlb ha hb he
    cases a with
    | un => rw [join_un]; exact ⟨max_wf hb (by omega) hla hlb, by rw [show b.en = (b.en.1, b.en.2) from rfl, ← he]; rfl⟩
    | out g p n i =>
      simp only [Nf.wf] at ha
      rw [join_out]
      obtain ⟨h1, h2⟩ := ih i b 1 lb (by simp only [Nf.sz] at hN; omega) (by omega) hlb ha.2.2.2.1 hb he
      have hii := Nf.inr_k ha.2.2.2.1
      have hw : (join i b).wf 1 := by
        refine Nf.inr_wf (Nf.wf_up h1 (by omega) (by omega)) (Nf.inr_of ?_)
        rw [h2]; exact hii
      simp only [Nf.wf, Nf.en, h2]
      exact ⟨⟨by omega, ha.2.1, ha.2.2.1, hw, ha.2.2.2.2⟩, trivial⟩
    | fail A B p n =>
      simp only [Nf.wf] at ha
      rw [join_fail]
      have hr := Nf.en_right hb
      simp only [Nf.wf, Nf.en]
      exact ⟨⟨by omega, ha.2.1, ha.2.2.1, hr.2, ha.2.2.2.2⟩, trivial⟩
    | inn i g =>
      have ha' := ha
      simp only [Nf.wf] at ha
      have hk : b.en.1.k = 0 := by rw [← he]; rfl
      rcases Nf.out_k (Nf.wf_up hb hlb (by omega)) hk with rfl | ⟨h, p, n, j, rfl⟩
      · rw [join_inn_un]
        exact ⟨max_wf ha' (by omega) hla hlb, rfl⟩
      · simp only [Nf.wf] at hb
        by_cases hgh : g = h
        · subst hgh
          rw [join_inn_eq]
          obtain ⟨h1, h2⟩ := ih i j 0 1 (by simp only [Nf.sz] at hN; omega) (by omega) (by omega) ha.2.2.1 hb.2.2.2.1 (by rw [ha.2.2.2, hb.2.2.2.2])
          exact ⟨Nf.wf_up h1 (by omega) (by omega), by rw [h2]; rfl⟩
        · rw [join_inn_ne _ _ _ _ _ _ hgh]
          simp only [Nf.wf, Nf.en]
          exact ⟨⟨by omega, (Nf.mid_k ha.2.2.1 (Nf.wf0 ha.2.2.1)).1, (Nf.en_right ha.2.2.1).1, (Nf.en_right hb.2.2.2.1).2, hb.2.2.1⟩, trivial⟩
    | base k =>
      rcases Nf.meets ha (Nf.wf_up hb hlb (by omega)) rfl he with ⟨A, B, p, n, rfl⟩ | ⟨i, g, rfl⟩ | ⟨k', h1, rfl⟩ | ⟨_, _, _, _, _, h1, _⟩
      · rw [join_mid_fail rfl]
        have hr := (Nf.en_right ha).1
        have hk := (Nf.mid_k ha rfl).1
        simp only [Nf.wf] at hb ⊢
        exact ⟨⟨by omega, hk, hr, hb.2.2.2.1, hb.2.2.2.2⟩, rfl⟩
      · rw [join_mid_inn rfl]
        simp only [Nf.wf] at hb
        obtain ⟨h1, h2⟩ := ih (.base k) i 0 0 (by simp only [Nf.sz] at hN ⊢; omega) (by omega) (by omega) ha hb.2.2.1 he
        simp only [Nf.wf, Nf.en, h2]
        exact ⟨⟨by omega, hb.2.1, h1, hb.2.2.2⟩, trivial⟩
      · rw [join_base]
        simp only [Nf.base.injEq] at h1
        subst h1
        exact ⟨ha, rfl⟩
      · simp at h1
    | two k x y =>
      rcases Nf.meets ha (Nf.wf_up hb hlb (by omega)) rfl he with ⟨A, B, p, n, rfl⟩ | ⟨i, g, rfl⟩ | ⟨_, h1, _⟩ | ⟨k', x', y', u, v, h1, rfl⟩
      · rw [join_mid_fail rfl]
        have hr := (Nf.en_right ha).1
        have hk := (Nf.mid_k ha rfl).1
        simp only [Nf.wf] at hb ⊢
        exact ⟨⟨by omega, hk, hr, hb.2.2.2.1, hb.2.2.2.2⟩, rfl⟩
      · rw [join_mid_inn rfl]
        simp only [Nf.wf] at hb
        obtain ⟨h1, h2⟩ := ih (.two k x y) i 0 0 (by simp only [Nf.sz] at hN ⊢; omega) (by omega) (by omega) ha hb.2.2.1 he
        simp only [Nf.wf, Nf.en, h2]
        exact ⟨⟨by omega, hb.2.1, h1, hb.2.2.2⟩, trivial⟩
      · simp at h1
      · simp only [Nf.two.injEq] at h1
        obtain ⟨rfl, rfl, rfl⟩ := h1
        simp only [Nf.wf] at ha hb
        have hN2 : x.sz + y.sz + u.sz + v.sz + 2 ≤ N + 1 := by simp only [Nf.sz] at hN; omega
        by_cases h3 : k = 3
        · subst h3
          rw [join_fn]
          simp only [Nf.en_fn, Ty.mk.injEq, List.cons.injEq, and_true, true_and] at he
          obtain ⟨h1, h2⟩ := ih u x 2 2 (by omega) (by omega) (by omega) hb.2.1 ha.2.1 he.1.symm
          obtain ⟨h3, h4⟩ := ih y v 2 2 (by omega) (by omega) (by omega) ha.2.2 hb.2.2 he.2
          refine ⟨⟨ha.1, h1, h3⟩, ?_⟩
          simp only [Nf.en_fn, h2, h4]
        · rw [join_two h3]
          simp only [Nf.en_two h3, Ty.mk.injEq, List.cons.injEq, and_true, true_and] at he
          obtain ⟨h1, h2⟩ := ih x u 2 2 (by omega) (by omega) (by omega) ha.2.1 hb.2.1 he.1
          obtain ⟨h5, h4⟩ := ih y v 2 2 (by omega) (by omega) (by omega) ha.2.2 hb.2.2 he.2
          refine ⟨⟨ha.1, h1, h5⟩, ?_⟩
          simp only [Nf.en_two h3, h2, h4]

theorem join_ok {a b : Nf} (ha : a.wf 2) (hb : b.wf 2) (he : a.en.2 = b.en.1) : (join a b).wf 2 ∧ (join a b).en = (a.en.1, b.en.2) := by
  have := join_wf _ a b 2 2 (Nat.le_refl _) (by omega) (by omega) ha hb he
  simpa using this
end Go.Proofs.Ytopgmopdjiahmaa.Lg

/- Normal forms: staying as it is; how high, how great; the normal form of a coercion. Conditions: none; plain definitions and lemmas. -/
set_option linter.unusedVariables false
set_option linter.unusedSimpArgs false
set_option maxRecDepth 100000
namespace Go.Proofs.Ytopgmopdjiahmaa.Lg
open Go Go.RowKit Go.Proofs

def idnK (k : Int) : List Nf → Nf
  | [a, b] => .two k a b
  | _ => if k = 0 then .un else .base k
mutual
def Ty.idn : Ty → Nf
  | .mk k ts => idnK k (Ty.idnL ts)
def Ty.idnL : List Ty → List Nf
  | [] => []
  | t :: r => t.idn :: Ty.idnL r
end
theorem idn_wf : ∀ t : Ty, t.right = true → t.idn.wf 2 ∧ t.idn.en = (t, t) ∧ (t.k ≠ 0 → t.idn.mid = true) := by
  refine Ty.ind fun k ts ih hr => ?_
  rcases right_shape hr with ⟨rfl, hk⟩ | ⟨a, b, rfl, hk, ha, hb⟩
  · rcases hk with rfl | rfl | rfl
    · simp [Ty.idn, Ty.idnL, idnK, Nf.wf, Nf.en, Ty.un, Ty.k]
    · simp [Ty.idn, Ty.idnL, idnK, Nf.wf, Nf.en, Ty.un, Ty.k, Nf.mid]
    · simp [Ty.idn, Ty.idnL, idnK, Nf.wf, Nf.en, Ty.un, Ty.k, Nf.mid]
  · obtain ⟨a1, a2, a3⟩ := ih a (by simp) ha
    obtain ⟨b1, b2, b3⟩ := ih b (by simp) hb
    refine ⟨⟨hk, a1, b1⟩, ?_, fun _ => rfl⟩
    simp only [Ty.idn, Ty.idnL, idnK, Nf.en, a2, b2]
    split <;> simp_all
theorem idn_un : Ty.un.idn = .un := rfl
theorem idn_base {k : Int} (h : k ≠ 0) : (Ty.mk k []).idn = .base k := by simp [Ty.idn, Ty.idnL, idnK, h]
theorem idn_two (k : Int) (a b : Ty) : (Ty.mk k [a, b]).idn = .two k a.idn b.idn := by simp [Ty.idn, Ty.idnL, idnK]

/-- staying as it is, ahead and behind -/
theorem join_idn : ∀ (N : Nat) (a : Nf), a.sz ≤ N → a.wf 2 → join a.en.1.idn a = a ∧ join a a.en.2.idn = a := by
  intro N
  induction N with
  | zero => intro a hN; have := a.sz_pos; omega
  | succ N ih =>
    intro a hN ha
    have hr := Nf.en_right ha
    cases a with
    | un => exact ⟨join_un _, join_un _⟩
    | out g p n i =>
      simp only [Nf.wf] at ha
      have hi := ih i (by simp only [Nf.sz] at hN; omega) (Nf.wf_up ha.2.2.2.1 (by omega) (by omega))
      refine ⟨join_un _, ?_⟩
      rw [join_out]
      simp only [Nf.en]
      rw [hi.2]
    | fail A B p n =>
      simp only [Nf.wf] at ha
      have h1 := idn_wf A ha.2.2.1
      have h2 := idn_wf B ha.2.2.2.1
      simp only [Nf.en]
      rw [join_mid_fail (h1.2.2 ha.2.1), join_fail, h1.2.1, h2.2.1]
      exact ⟨rfl, rfl⟩
    | inn i g =>
      simp only [Nf.wf] at ha
      have hi := ih i (by simp only [Nf.sz] at hN; omega) (Nf.wf_up ha.2.2.1 (by omega) (by omega))
      have hk := (Nf.mid_k ha.2.2.1 (Nf.wf0 ha.2.2.1)).1
      simp only [Nf.en] at hr ⊢
      have h1 := idn_wf i.en.1 hr.1
      rw [join_mid_inn (h1.2.2 hk), hi.1, idn_un, join_inn_un]
      exact ⟨rfl, rfl⟩
    | base k =>
      simp only [Nf.wf] at ha
      simp only [Nf.en]
      rw [idn_base (by omega), join_base]
      exact ⟨rfl, rfl⟩
    | two k x y =>
      simp only [Nf.wf] at ha
      have hx := ih x (by simp only [Nf.sz] at hN; omega) ha.2.1
      have hy := ih y (by simp only [Nf.sz] at hN; omega) ha.2.2
      by_cases h3 : k = 3
      · subst h3
        rw [Nf.en_fn, idn_two, idn_two, join_fn, join_fn, hx.1, hx.2, hy.1, hy.2]
        exact ⟨rfl, rfl⟩
      · rw [Nf.en_two h3, idn_two, idn_two, join_two h3, join_two h3, hx.1, hx.2, hy.1, hy.2]
        exact ⟨rfl, rfl⟩
theorem join_idl {a : Nf} {A : Ty} (ha : a.wf 2) (h : a.en.1 = A) : join A.idn a = a := by rw [← h]; exact (join_idn _ a (Nat.le_refl _) ha).1
theorem join_idr {a : Nf} {A : Ty} (ha : a.wf 2) (h : a.en.2 = A) : join a A.idn = a := by rw [← h]; exact (join_idn _ a (Nat.le_refl _) ha).2

/-! ### how high, how great -/
def ghi (g : Int) : Int := (gty g).high
theorem ghi_le (g : Int) : 1 ≤ ghi g ∧ ghi g ≤ 2 := by
  unfold ghi gty
  split <;> simp [Ty.high, Ty.highL, Ty.un, maxI]
def Nf.hi : Nf → Int
  | .un => 1
  | .out g _ _ i => maxI (ghi g) i.hi
  | .fail .. => 1
  | .inn i g => maxI i.hi (ghi g)
  | .base _ => 1
  | .two _ a b => maxI a.hi b.hi + 1
end Go.Proofs.Ytopgmopdjiahmaa.Lg

/- Normal forms and coercions: the normal form of a coercion; when a normal form is neither too great nor too deep. Conditions: none; plain definitions and lemmas. -/
set_option linter.unusedVariables false
set_option linter.unusedSimpArgs false
set_option maxRecDepth 100000
namespace Go.Proofs.Ytopgmopdjiahmaa.Lg
open Go Go.RowKit Go.Proofs

def Cn.kd : Cn → Int
  | .mk k _ _ _ _ _ => k
/-! ### how great, how deep, in plain numbers -/
mutual
def Cn.cnt : Cn → Int
  | .mk k ty to _ _ ks => 1 + (if leafF k = true then (ty.nodes : Int) else 0) + (if k = 1 then (to.nodes : Int) else 0) + Cn.cntL ks
def Cn.cntL : List Cn → Int
  | [] => 0
  | c :: r => c.cnt + Cn.cntL r
end
mutual
theorem Cn.cnt_pos : ∀ c : Cn, 1 ≤ c.cnt
  | .mk k ty to _ _ ks => by simp only [Cn.cnt]; have := Cn.cntL_pos ks; split <;> split <;> omega
theorem Cn.cntL_pos : ∀ ks : List Cn, 0 ≤ Cn.cntL ks
  | [] => by simp [Cn.cntL]
  | c :: r => by simp only [Cn.cntL]; have := Cn.cnt_pos c; have := Cn.cntL_pos r; omega
end
mutual
theorem Cn.down_cnt : ∀ (c : Cn) (n : Int), 0 ≤ n → (c.down n ≤ 8192 ∨ n + c.cnt ≤ 8192) → c.down n = n + c.cnt
  | .mk k ty to lab neg ks, n, hn, h => by
    simp only [Cn.down, Cn.cnt] at h ⊢
    have h1 := nodesF_le ty.nodes
    have h2 := nodesF_le to.nodes
    have hp := Cn.cntL_pos ks
    have hg : Cn.downL ks (n + headN k ty to) ≤ 8192 → n + headN k ty to ≤ 8192 := fun hd => by
      by_cases hgt : n + headN k ty to > 8192
      · rw [Cn.downL_gt _ _ hgt] at hd; omega
      · omega
    have e : Cn.downL ks (n + headN k ty to) = n + headN k ty to + Cn.cntL ks := by
      refine Cn.downL_cnt ks _ (by have := headN_le k ty to; omega) ?_
      rcases h with h | h
      · exact .inl h
      · refine .inr ?_
        unfold headN
        split at h <;> split at h <;> simp_all <;> omega
    rw [e] at h hg ⊢
    unfold headN at *
    split <;> split <;> simp_all <;> omega
theorem Cn.downL_cnt : ∀ (ks : List Cn) (m : Int), 0 ≤ m → (Cn.downL ks m ≤ 8192 ∨ m + Cn.cntL ks ≤ 8192) → Cn.downL ks m = m + Cn.cntL ks
  | [], m, hm0, h => by simp [Cn.downL, Cn.cntL]
  | c :: r, m, hm0, h => by
    simp only [Cn.downL, Cn.cntL] at h ⊢
    have p1 := Cn.cnt_pos c
    have p2 := Cn.cntL_pos r
    have hm : ¬ m > 8192 := by
      rcases h with h | h
      · intro hc; rw [if_pos hc] at h; omega
      · omega
    rw [if_neg hm] at h ⊢
    have e1 : c.down m = m + c.cnt := by
      refine Cn.down_cnt c m hm0 ?_
      rcases h with h | h
      · refine .inl ?_
        by_cases hgt : c.down m > 8192
        · rw [Cn.downL_gt _ _ hgt] at h; omega
        · omega
      · exact .inr (by omega)
    rw [e1] at h ⊢
    rw [Cn.downL_cnt r (m + c.cnt) (by omega) (by rcases h with h | h; exact .inl h; exact .inr (by omega))]
    omega
end
theorem few_iff (c : Cn) : c.few = true ↔ c.cnt ≤ 8192 := by
  unfold Cn.few
  rw [decide_eq_true_eq]
  constructor
  · intro h; have := Cn.down_cnt c 0 (by omega) (.inl h); omega
  · intro h; have := Cn.down_cnt c 0 (by omega) (.inr (by omega)); omega

def dp0 (k : Int) (ty to : Ty) : Int := if k = 1 then maxI ty.high to.high else if leafF k = true then ty.high else 0
mutual
def Cn.dp : Cn → Int
  | .mk k ty to _ _ ks => Cn.dpL ks (dp0 k ty to) + 1
def Cn.dpL : List Cn → Int → Int
  | [], d => d
  | c :: r, d => Cn.dpL r (maxI d c.dp)
end
theorem Cn.dpL_ge : ∀ (ks : List Cn) (d : Int), d ≤ Cn.dpL ks d
  | [], d => by simp [Cn.dpL]
  | c :: r, d => by
    simp only [Cn.dpL]
    have := Cn.dpL_ge r (maxI d c.dp)
    have := (le_maxI (a := d) (b := c.dp)).1
    omega
theorem dp0_ge (k : Int) (ty to : Ty) : 0 ≤ dp0 k ty to := by
  have := Ty.high_pos ty
  have := Ty.high_pos to
  have := le_maxI (a := ty.high) (b := to.high)
  unfold dp0; split
  · omega
  · split <;> omega
theorem Cn.dp_pos : ∀ c : Cn, 1 ≤ c.dp
  | .mk k ty to _ _ ks => by simp only [Cn.dp]; have := Cn.dpL_ge ks (dp0 k ty to); have := dp0_ge k ty to; omega
theorem depth_min {t : Ty} (h : t.nodes ≤ 8192) : t.depth = minI 201 t.high := by
  rw [Ty.depth, if_pos h, Ty.deep_min t 201 (by omega)]
mutual
theorem Cn.deep_dp : ∀ (c : Cn) (n : Int), 1 ≤ n → n ≤ 201 → c.cnt ≤ 8192 → c.deep n = minI n c.dp
  | .mk k ty to lab neg ks, n, h, h', hc => by
    simp only [Cn.deep, Cn.dp]
    have hg := Cn.dpL_ge ks (dp0 k ty to)
    have hg0 := dp0_ge k ty to
    simp only [Cn.cnt] at hc
    have hp := Cn.cntL_pos ks
    by_cases h1 : n = 1
    · rw [if_pos h1]; unfold minI; split <;> omega
    rw [if_neg h1]
    have hcl : Cn.cntL ks ≤ 8192 := by split at hc <;> split at hc <;> omega
    have e0 : minI (n - 1) (deep0 k ty to) = minI (n - 1) (dp0 k ty to) := by
      unfold deep0 dp0
      by_cases hk : k = 1
      · rw [if_pos hk, if_pos hk]
        have hl : leafF k = true := by rw [hk]; rfl
        rw [if_pos hl, if_pos hk] at hc
        rw [depth_min (t := ty) (by omega), depth_min (t := to) (by omega)]
        unfold minI maxI; (repeat' split) <;> omega
      · rw [if_neg hk, if_neg hk]
        split
        · rename_i hl
          rw [if_pos hl, if_neg hk] at hc
          rw [depth_min (t := ty) (by omega)]
          unfold minI; (repeat' split) <;> omega
        · rfl
    have := Cn.deepL_dp ks (n - 1) (deep0 k ty to) (dp0 k ty to) (by omega) (by omega) hcl e0
    unfold minI at this ⊢
    (repeat' split) <;> (repeat' split at this) <;> omega
theorem Cn.deepL_dp : ∀ (ks : List Cn) (n d d' : Int), 1 ≤ n → n ≤ 201 → Cn.cntL ks ≤ 8192 → minI n d = minI n d' → minI n (Cn.deepL ks n d) = minI n (Cn.dpL ks d')
  | [], n, d, d', h, h', hc, he => by simpa [Cn.deepL, Cn.dpL] using he
  | c :: r, n, d, d', h, h', hc, he => by
    simp only [Cn.deepL, Cn.dpL]
    simp only [Cn.cntL] at hc
    have p1 := Cn.cnt_pos c
    have p2 := Cn.cntL_pos r
    refine Cn.deepL_dp r n _ _ h h' (by omega) ?_
    rw [Cn.deep_dp c n h h' (by omega)]
    unfold minI maxI at *
    (repeat' split) <;> (repeat' split at he) <;> omega
end
theorem deep_iff {c : Cn} (h : c.cnt ≤ 8192) : c.deep 201 > 200 ↔ c.dp > 200 := by
  rw [Cn.deep_dp c 201 (by omega) (by omega) h]
  unfold minI; split <;> omega

/-! ### types -/
mutual
theorem eqv_eq : ∀ a b : Ty, a.right = true → b.right = true → a.eqv b = true → a = b
  | .mk k ts, .mk k' us, ha, hb, h => by
    simp only [Ty.eqv, Bool.and_eq_true, beq_iff_eq] at h
    obtain ⟨rfl, h⟩ := h
    have ra := Ty.right_kids ha
    have rb := Ty.right_kids hb
    rw [eqvL_eq ts us ra.2 rb.2 (by have := ra.1; have := rb.1; omega) h]
theorem eqvL_eq : ∀ ts us : List Ty, Ty.rightL ts = true → Ty.rightL us = true → ts.length = us.length → Ty.eqvL ts us = true → ts = us
  | [], [], _, _, _, _ => rfl
  | [], _ :: _, _, _, hl, _ => by simp at hl
  | _ :: _, [], _, _, hl, _ => by simp at hl
  | t :: r, u :: s, h1, h2, hl, h => by
    simp only [Ty.eqvL, Ty.rightL, Bool.and_eq_true] at *
    rw [eqv_eq t u h1.1 h2.1 h.1, eqvL_eq r s h1.2 h2.2 (by simpa using hl) h.2]
end
theorem same_iff {a b : Ty} : a.same b = true ↔ a.check = 0 ∧ a = b := by
  constructor
  · intro h
    simp only [Ty.same, Bool.and_eq_true, beq_iff_eq] at h
    exact ⟨h.1.1, eqv_eq a b (check_iff.1 h.1.1).2.2 (check_iff.1 h.1.2).2.2 h.2⟩
  · rintro ⟨h, rfl⟩; exact Ty.same_refl h
theorem isG_gty {t : Ty} (h : t.isG = true) : okG t.k ∧ t = gty t.k := by
  simp only [Ty.isG, Bool.and_eq_true] at h
  obtain ⟨h1, h2⟩ := h
  obtain ⟨hc, he⟩ := same_iff.1 h2
  obtain ⟨k, ts⟩ := t
  have hk : k ≠ 0 := by
    intro hk
    subst hk
    simp [Ty.ground, Ty.k] at h1
  rcases right_shape (check_iff.1 hc).2.2 with ⟨rfl, hk2⟩ | ⟨a, b, rfl, hk2, _, _⟩
  · refine ⟨⟨by simp only [Ty.k]; omega, by simp only [Ty.k]; omega⟩, ?_⟩
    show Ty.mk k [] = gty k
    unfold gty
    rw [if_pos (by omega)]
  · rw [ground_pair hc hk] at he
    refine ⟨⟨by simp only [Ty.k]; omega, by simp only [Ty.k]; omega⟩, ?_⟩
    show Ty.mk k [a, b] = gty k
    unfold gty
    rw [if_neg (by omega), he]
theorem gty_check {g : Int} (h : okG g) : (gty g).check = 0 := by
  unfold okG at h
  have : g = 1 ∨ g = 2 ∨ g = 3 ∨ g = 4 ∨ g = 5 := by omega
  refine check_iff.2 ⟨?_, ?_, ?_⟩
  · unfold gty; split <;> simp [Ty.nodes, Ty.nodesL, Ty.un]
  · unfold gty; split <;> simp [Ty.high, Ty.highL, Ty.un, maxI]
  · rcases this with rfl | rfl | rfl | rfl | rfl <;> simp [gty, Ty.right, Ty.rightL, partsF, un_right]
theorem gty_isG {g : Int} (h : okG g) : (gty g).isG = true := by
  have hc := gty_check h
  unfold okG at h
  have hk : g ≠ 0 := by omega
  unfold gty at hc ⊢
  split
  · rename_i h1
    rw [if_pos h1] at hc
    have := ground_of hc hk
    rw [ground_base hc hk] at this
    exact this.2.1
  · rename_i h1
    rw [if_neg h1] at hc
    have := ground_of hc hk
    rw [ground_pair hc hk] at this
    exact this.2.1

/-! ### the normal form -/
def nfK (k : Int) (ty to : Ty) (lab : Int) (neg : Bool) (l : List Nf) : Nf :=
  if k = 0 then ty.idn else if k = 1 then .fail ty to lab neg else if k = 2 then .inn ty.idn ty.k else if k = 3 then .out ty.k lab neg ty.idn else
  match l with
  | [a, b] => if k = 7 then join a b else .two (k - 1) a b
  | _ => .un
mutual
def Cn.nf : Cn → Nf
  | .mk k ty to lab neg ks => nfK k ty to lab neg (Cn.nfL ks)
def Cn.nfL : List Cn → List Nf
  | [] => []
  | c :: r => c.nf :: Cn.nfL r
end
theorem nf_seq (ty to : Ty) (lab : Int) (neg : Bool) (a b : Cn) : (Cn.mk 7 ty to lab neg [a, b]).nf = join a.nf b.nf := by simp [Cn.nf, Cn.nfL, nfK]
theorem nf_two {k : Int} (hk : k = 4 ∨ k = 5 ∨ k = 6) (ty to : Ty) (lab : Int) (neg : Bool) (a b : Cn) : (Cn.mk k ty to lab neg [a, b]).nf = .two (k - 1) a.nf b.nf := by
  simp only [Cn.nf, Cn.nfL, nfK]
  rw [if_neg (by omega), if_neg (by omega), if_neg (by omega), if_neg (by omega), if_neg (by omega)]

/-- what the ends of one of two say -/
theorem ends_two {k : Int} {ty to : Ty} {lab : Int} {neg : Bool} {a b : Cn} (hk : k = 4 ∨ k = 5 ∨ k = 6 ∨ k = 7) (h : (Cn.mk k ty to lab neg [a, b]).ends.2.2 = true) :
    a.ends.2.2 = true ∧ b.ends.2.2 = true ∧ (k = 4 → (Cn.mk k ty to lab neg [a, b]).ends = (.mk 3 [a.ends.2.1, b.ends.1], .mk 3 [a.ends.1, b.ends.2.1], true)) ∧
      (k = 5 ∨ k = 6 → (Cn.mk k ty to lab neg [a, b]).ends = (.mk (k - 1) [a.ends.1, b.ends.1], .mk (k - 1) [a.ends.2.1, b.ends.2.1], true)) ∧
      (k = 7 → (Cn.mk k ty to lab neg [a, b]).ends = (a.ends.1, b.ends.2.1, true) ∧ a.ends.2.1.check = 0 ∧ a.ends.2.1 = b.ends.1) := by
  have hl : leafF k = false := by simp only [leafF, Bool.or_eq_false_iff, beq_eq_false_iff_ne]; omega
  have e0 : (Cn.mk k ty to lab neg [a, b]).ends = partsE k a.ends b.ends := by simp [Cn.ends, Cn.endsL, partsL, hl]
  rw [e0] at h ⊢
  unfold partsE at h ⊢
  split at h
  · simp [noE] at h
  · rename_i hab
    rw [if_neg hab]
    simp only [Bool.not_eq_false, Bool.and_eq_true] at hab
    refine ⟨hab.1, hab.2, ?_, ?_, ?_⟩
    · rintro rfl; simp
    · rintro (rfl | rfl) <;> simp
    · rintro rfl
      simp only [show ¬ ((7 : Int) = 4) by omega, show ¬ ((7 : Int) = 5) by omega, show ¬ ((7 : Int) = 6) by omega, if_false, if_true] at h ⊢
      have := same_iff.1 h
      exact ⟨by rw [h], this⟩
theorem ends_leaf {k : Int} {ty to : Ty} {lab : Int} {neg : Bool} (hk : k = 0 ∨ k = 1 ∨ k = 2 ∨ k = 3) (h : (Cn.mk k ty to lab neg []).ends.2.2 = true) :
    ty.check = 0 ∧ (k = 0 → (Cn.mk k ty to lab neg []).ends = (ty, ty, true)) ∧ (k = 1 → (Cn.mk k ty to lab neg []).ends = (ty, to, true) ∧ labOk lab = true ∧ ty.k ≠ 0 ∧ to.check = 0) ∧
      (k = 2 → (Cn.mk k ty to lab neg []).ends = (ty, .un, true) ∧ ty.isG = true) ∧ (k = 3 → (Cn.mk k ty to lab neg []).ends = (.un, ty, true) ∧ ty.isG = true ∧ labOk lab = true) := by
  have hl : leafF k = true := by simp only [leafF, Bool.or_eq_true, beq_iff_eq]; omega
  have e0 : (Cn.mk k ty to lab neg []).ends = leafE k ty to lab true := by simp [Cn.ends, hl]
  rw [e0] at h ⊢
  unfold leafE at h ⊢
  split at h
  · simp [noE] at h
  · rename_i hc
    rw [if_neg hc]
    simp only [not_or, Decidable.not_not] at hc
    refine ⟨hc.2, ?_, ?_, ?_, ?_⟩
    · rintro rfl; simp
    · rintro rfl
      simp only [show ¬ ((1 : Int) = 0) by omega, show ¬ ((1 : Int) = 2) by omega, show ¬ ((1 : Int) = 3) by omega, if_false] at h ⊢
      simp only [Bool.and_eq_true, bne_iff_ne, beq_iff_eq] at h
      simp [h]
    · rintro rfl
      simp only [show ¬ ((2 : Int) = 0) by omega, if_false, if_true] at h ⊢
      simp [h]
    · rintro rfl
      simp only [show ¬ ((3 : Int) = 0) by omega, show ¬ ((3 : Int) = 2) by omega, if_false, if_true] at h ⊢
      simp only [Bool.and_eq_true] at h
      simp [h]

theorem nf_wf : ∀ c : Cn, c.ends.2.2 = true → c.nf.wf 2 ∧ c.nf.en = (c.ends.1, c.ends.2.1) := by
  refine Cn.ind fun k ty to lab neg ks ih he => ?_
  rcases ends_shape he with ⟨rfl, hk, _⟩ | ⟨a, b, rfl, hk, ha, hb⟩
  · obtain ⟨hc, e0, e1, e2, e3⟩ := ends_leaf hk he
    have hr := (check_iff.1 hc).2.2
    obtain ⟨i1, i2, i3⟩ := idn_wf ty hr
    rcases hk with rfl | rfl | rfl | rfl
    · rw [e0 rfl]; simp [Cn.nf, nfK, i1, i2]
    · obtain ⟨e, h1, h2, h3⟩ := e1 rfl
      rw [e]
      simp only [Cn.nf, nfK, show ¬ ((1 : Int) = 0) by omega, if_false, if_true]
      exact ⟨⟨by omega, h2, hr, (check_iff.1 h3).2.2, h1⟩, rfl⟩
    · obtain ⟨e, h1⟩ := e2 rfl
      obtain ⟨g1, g2⟩ := isG_gty h1
      rw [e]
      simp only [Cn.nf, nfK, show ¬ ((2 : Int) = 0) by omega, show ¬ ((2 : Int) = 1) by omega, if_false, if_true]
      refine ⟨⟨by omega, g1, Nf.wf_mid i1 (i3 (by unfold okG at g1; omega)), ?_⟩, ?_⟩
      · rw [i2]; exact g2
      · simp only [Nf.en, i2]
    · obtain ⟨e, h1, h2⟩ := e3 rfl
      obtain ⟨g1, g2⟩ := isG_gty h1
      rw [e]
      simp only [Cn.nf, nfK, show ¬ ((3 : Int) = 0) by omega, show ¬ ((3 : Int) = 1) by omega, show ¬ ((3 : Int) = 2) by omega, if_false, if_true]
      refine ⟨⟨rfl, g1, h2, Nf.wf_mid i1 (i3 (by unfold okG at g1; omega)), ?_⟩, ?_⟩
      · rw [i2]; exact g2
      · simp only [Nf.en, i2]
  · obtain ⟨a1, a2⟩ := ih a (by simp) ha
    obtain ⟨b1, b2⟩ := ih b (by simp) hb
    obtain ⟨_, _, e4, e56, e7⟩ := ends_two hk he
    rcases hk with rfl | rfl | rfl | rfl
    · rw [nf_two (by omega), e4 rfl]
      exact ⟨⟨by omega, a1, b1⟩, by simp [Nf.en, a2, b2]⟩
    · rw [nf_two (by omega), e56 (by omega)]
      exact ⟨⟨by omega, a1, b1⟩, by simp [Nf.en, a2, b2]⟩
    · rw [nf_two (by omega), e56 (by omega)]
      exact ⟨⟨by omega, a1, b1⟩, by simp [Nf.en, a2, b2]⟩
    · obtain ⟨e, h1, h2⟩ := e7 rfl
      rw [nf_seq, e]
      have := join_ok a1 b1 (by rw [a2, b2]; exact h2)
      rw [a2, b2] at this
      exact this

/-! ### a normal form that is neither too great nor too deep is a coercion -/
theorem cnt_part (k : Int) (a b : Cn) (hk : 4 ≤ k) : (part k a b).cnt = 1 + a.cnt + b.cnt := by
  have hl : leafF k = false := by simp only [leafF, Bool.or_eq_false_iff, beq_eq_false_iff_ne]; omega
  simp only [part, Cn.cnt, hl, Cn.cntL]
  rw [if_neg (by simp), if_neg (by omega)]; omega
theorem dp_part (k : Int) (a b : Cn) (hk : 4 ≤ k) : (part k a b).dp = maxI a.dp b.dp + 1 := by
  have hl : leafF k = false := by simp only [leafF, Bool.or_eq_false_iff, beq_eq_false_iff_ne]; omega
  have := Cn.dp_pos a
  simp only [part, Cn.dp, Cn.dpL, dp0, hl]
  rw [if_neg (by omega), if_neg (by simp)]
  congr 1
  unfold maxI; (repeat' split) <;> omega
theorem nodes_two (k : Int) (a b : Ty) : (Ty.mk k [a, b]).nodes = 1 + (a.nodes + b.nodes) := by simp [Ty.nodes, Ty.nodesL]
theorem high_two (k : Int) (a b : Ty) : (Ty.mk k [a, b]).high = maxI a.high b.high + 1 := by
  have := Ty.high_pos a
  simp only [Ty.high, Ty.highL]
  congr 1
  unfold maxI; (repeat' split) <;> omega
theorem Ty.nodes_pos : ∀ t : Ty, 1 ≤ t.nodes
  | .mk k ts => by simp only [Ty.nodes]; omega
theorem un_nodes : Ty.un.nodes = 1 := rfl
theorem un_high : Ty.un.high = 1 := rfl
/-- the ends are smaller than it -/
theorem en_small : ∀ {a : Nf} {l : Nat}, a.wf l → ((a.en.1.nodes : Int) + 1 ≤ a.cn.cnt ∧ (a.en.2.nodes : Int) + 1 ≤ a.cn.cnt) ∧ a.en.1.high + 1 ≤ a.cn.dp ∧ a.en.2.high + 1 ≤ a.cn.dp
  | .un, l, h => by
    simp [Nf.en, Nf.cn, Cn.cnt, Cn.cntL, Cn.dp, Cn.dpL, dp0, leafF, Ty.un, Ty.nodes, Ty.nodesL, Ty.high, Ty.highL]
  | .out g p n i, l, h => by
    simp only [Nf.wf] at h
    have := en_small h.2.2.2.1
    have hm := le_maxI (a := (Cn.mk 3 (gty g) .un p n []).dp) (b := i.cn.dp)
    have c1 := Cn.cnt_pos (Cn.mk 3 (gty g) .un p n [])
    have c2 := Cn.dp_pos (Cn.mk 3 (gty g) .un p n [])
    have p1 := Cn.cnt_pos i.cn
    simp only [Nf.cn, cnt_part 7 _ _ (by omega), dp_part 7 _ _ (by omega), Nf.en]
    rw [un_nodes, un_high]
    omega
  | .fail A B p n, l, h => by
    have := le_maxI (a := A.high) (b := B.high)
    simp [Nf.en, Nf.cn, Cn.cnt, Cn.cntL, Cn.dp, Cn.dpL, dp0, leafF]
    omega
  | .inn i g, l, h => by
    simp only [Nf.wf] at h
    have := en_small h.2.2.1
    have hm := le_maxI (a := i.cn.dp) (b := (Cn.mk 2 (gty g) .un 0 false []).dp)
    have c1 := Cn.cnt_pos (Cn.mk 2 (gty g) .un 0 false [])
    have c2 := Cn.dp_pos (Cn.mk 2 (gty g) .un 0 false [])
    have p1 := Cn.cnt_pos i.cn
    simp only [Nf.cn, cnt_part 7 _ _ (by omega), dp_part 7 _ _ (by omega), Nf.en]
    rw [un_nodes, un_high]
    omega
  | .base k, l, h => by
    simp [Nf.en, Nf.cn, Cn.cnt, Cn.cntL, Cn.dp, Cn.dpL, dp0, leafF, Ty.nodes, Ty.nodesL, Ty.high, Ty.highL]
  | .two k a b, l, h => by
    simp only [Nf.wf] at h
    have h1 := en_small h.2.1
    have h2 := en_small h.2.2
    have hm := le_maxI (a := a.cn.dp) (b := b.cn.dp)
    simp only [Nf.cn, cnt_part (k + 1) _ _ (by omega), dp_part (k + 1) _ _ (by omega)]
    by_cases h3 : k = 3
    · subst h3
      simp only [Nf.en_fn, nodes_two, high_two]
      have q1 := maxI_le (a := a.en.2.high) (b := b.en.1.high) (c := maxI a.cn.dp b.cn.dp - 1) (by omega) (by omega)
      have q2 := maxI_le (a := a.en.1.high) (b := b.en.2.high) (c := maxI a.cn.dp b.cn.dp - 1) (by omega) (by omega)
      omega
    · simp only [Nf.en_two h3, nodes_two, high_two]
      have q1 := maxI_le (a := a.en.1.high) (b := b.en.1.high) (c := maxI a.cn.dp b.cn.dp - 1) (by omega) (by omega)
      have q2 := maxI_le (a := a.en.2.high) (b := b.en.2.high) (c := maxI a.cn.dp b.cn.dp - 1) (by omega) (by omega)
      omega
theorem ends_part {k : Int} {a b : Cn} (hk : k = 4 ∨ k = 5 ∨ k = 6 ∨ k = 7) : (part k a b).ends = partsE k a.ends b.ends := by
  have hl : leafF k = false := by simp only [leafF, Bool.or_eq_false_iff, beq_eq_false_iff_ne]; omega
  simp [part, Cn.ends, Cn.endsL, partsL, hl]
theorem nf_ends : ∀ {a : Nf} {l : Nat}, a.wf l → a.cn.cnt ≤ 8192 → a.cn.dp ≤ 200 → a.cn.ends = (a.en.1, a.en.2, true)
  | .un, l, h, hc, hd => by simp [Nf.cn, Cn.ends, leafF, leafE, un_check, Nf.en]
  | .out g p n i, l, h, hc, hd => by
    simp only [Nf.wf] at h
    have c1 := Cn.cnt_pos (Cn.mk 3 (gty g) .un p n [])
    have hm := le_maxI (a := (Cn.mk 3 (gty g) .un p n []).dp) (b := i.cn.dp)
    simp only [Nf.cn, cnt_part 7 _ _ (by omega), dp_part 7 _ _ (by omega)] at hc hd ⊢
    have e := nf_ends h.2.2.2.1 (by omega) (by omega)
    rw [ends_part (by omega), e]
    have e2 : (Cn.mk 3 (gty g) .un p n []).ends = (.un, gty g, true) := by simp [Cn.ends, leafF, leafE, gty_check h.2.1, gty_isG h.2.1, h.2.2.1]
    rw [e2]
    simp [partsE, Nf.en, h.2.2.2.2, Ty.same_refl (gty_check h.2.1)]
  | .fail A B p n, l, h, hc, hd => by
    simp only [Nf.wf] at h
    have hs := en_small (a := .fail A B p n) (l := l) h
    simp only [Nf.en] at hs
    have cA : A.check = 0 := check_iff.2 ⟨by omega, by omega, h.2.2.1⟩
    have cB : B.check = 0 := check_iff.2 ⟨by omega, by omega, h.2.2.2.1⟩
    simp [Nf.cn, Cn.ends, leafF, leafE, cA, cB, h.2.2.2.2, h.2.1, Nf.en]
  | .inn i g, l, h, hc, hd => by
    simp only [Nf.wf] at h
    have c1 := Cn.cnt_pos (Cn.mk 2 (gty g) .un 0 false [])
    have hm := le_maxI (a := i.cn.dp) (b := (Cn.mk 2 (gty g) .un 0 false []).dp)
    simp only [Nf.cn, cnt_part 7 _ _ (by omega), dp_part 7 _ _ (by omega)] at hc hd ⊢
    have e := nf_ends h.2.2.1 (by omega) (by omega)
    rw [ends_part (by omega), e]
    have e2 : (Cn.mk 2 (gty g) .un 0 false []).ends = (gty g, .un, true) := by simp [Cn.ends, leafF, leafE, gty_check h.2.1, gty_isG h.2.1]
    rw [e2]
    simp [partsE, Nf.en, h.2.2.2, Ty.same_refl (gty_check h.2.1)]
  | .base k, l, h, hc, hd => by
    simp only [Nf.wf] at h
    have : (Ty.mk k []).check = 0 := check_iff.2 ⟨by simp [Ty.nodes, Ty.nodesL], by simp [Ty.high, Ty.highL], by rcases h with rfl | rfl <;> simp [Ty.right, Ty.rightL, partsF]⟩
    simp [Nf.cn, Cn.ends, leafF, leafE, this, Nf.en]
  | .two k a b, l, h, hc, hd => by
    simp only [Nf.wf] at h
    have hm := le_maxI (a := a.cn.dp) (b := b.cn.dp)
    have p1 := Cn.cnt_pos a.cn
    have p2 := Cn.cnt_pos b.cn
    simp only [Nf.cn, cnt_part (k + 1) _ _ (by omega), dp_part (k + 1) _ _ (by omega)] at hc hd ⊢
    have e1 := nf_ends h.2.1 (by omega) (by omega)
    have e2 := nf_ends h.2.2 (by omega) (by omega)
    rw [ends_part (by omega), e1, e2]
    rcases h.1 with rfl | rfl | rfl
    · simp [partsE, Nf.en]
    · simp [partsE, Nf.en]
    · simp [partsE, Nf.en]
theorem nf_ok {a : Nf} {l : Nat} (h : a.wf l) (hc : a.cn.cnt ≤ 8192) (hd : a.cn.dp ≤ 200) : a.cn.chk = (a.en.1, a.en.2, 0) := by
  have e := nf_ends h hc hd
  have hs := en_small h
  have hr := Nf.en_right h
  have c1 : a.en.1.check = 0 := check_iff.2 ⟨by omega, by omega, hr.1⟩
  have c2 : a.en.2.check = 0 := check_iff.2 ⟨by omega, by omega, hr.2⟩
  unfold Cn.chk
  have hf := (few_iff a.cn).2 hc
  rw [if_neg (by simp [hf]), if_neg (by rw [deep_iff hc]; omega), e]
  simp [c1, c2]
theorem nf_chk {a : Nf} {l : Nat} (h : a.wf l) : a.cn.chk = (.un, .un, 32) ∨ a.cn.chk = (.un, .un, 31) ∨ a.cn.chk = (a.en.1, a.en.2, 0) := by
  by_cases hc : a.cn.cnt ≤ 8192
  · by_cases hd : a.cn.dp ≤ 200
    · exact .inr (.inr (nf_ok h hc hd))
    · refine .inr (.inl ?_)
      unfold Cn.chk
      rw [if_neg (by simp [(few_iff a.cn).2 hc]), if_pos (by rw [deep_iff hc]; omega)]
  · refine .inl ?_
    unfold Cn.chk
    have : a.cn.few = false := by
      cases hf : a.cn.few with
      | false => rfl
      | true => exact absurd ((few_iff _).1 hf) hc
    rw [if_pos this]

/-! ### it is its own normal form -/
theorem nf_cn : ∀ {a : Nf} {l : Nat}, a.wf l → a.cn.nf = a
  | .un, l, h => rfl
  | .out g p n i, l, h => by
    simp only [Nf.wf] at h
    have e := nf_cn h.2.2.2.1
    simp only [Nf.cn, part, nf_seq, e]
    have : (Cn.mk 3 (gty g) .un p n []).nf = .out g p n (gty g).idn := by simp [Cn.nf, nfK, gty_k]
    rw [this, join_out, join_idl (Nf.wf_up h.2.2.2.1 (by omega) (by omega)) h.2.2.2.2]
  | .fail A B p n, l, h => by simp [Nf.cn, Cn.nf, nfK]
  | .inn i g, l, h => by
    simp only [Nf.wf] at h
    have e := nf_cn h.2.2.1
    simp only [Nf.cn, part, nf_seq, e]
    have : (Cn.mk 2 (gty g) .un 0 false []).nf = .inn (gty g).idn g := by simp [Cn.nf, nfK, gty_k]
    rw [this, join_mid_inn (Nf.wf0 h.2.2.1), join_idr (Nf.wf_up h.2.2.1 (by omega) (by omega)) h.2.2.2]
  | .base k, l, h => by
    simp only [Nf.wf] at h
    simp only [Nf.cn, Cn.nf, nfK, if_true]
    exact idn_base (by omega)
  | .two k a b, l, h => by
    simp only [Nf.wf] at h
    have e1 := nf_cn h.2.1
    have e2 := nf_cn h.2.2
    simp only [Nf.cn, part]
    rw [nf_two (by omega), e1, e2, show k + 1 - 1 = k by omega]
end Go.Proofs.Ytopgmopdjiahmaa.Lg
