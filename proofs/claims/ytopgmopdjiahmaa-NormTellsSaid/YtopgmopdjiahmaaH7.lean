/- Texts of one proof, joined by program (gen/tells.py): Mc Ni Nk Nl. Conditions: none; plain definitions and lemmas. -/
import Derived.Test.YtopgmopdjiahmaaH4
import Derived.Test.YtopgmopdjiahmaaProg
import Derived.Test.YtopgmopdjiahmaaH6
/- MADE BY PROGRAM (gen/mk.py): the code of functions, as the logic sees it. Conditions: none; plain definitions and lemmas. -/
set_option linter.unusedVariables false
set_option linter.defProp false
set_option maxRecDepth 100000
namespace Go.Proofs.Ytopgmopdjiahmaa.Lg
open Go Go.RowKit Go.Proofs
variable {Q : AEx → St → Prop} {σ : St}

end Go.Proofs.Ytopgmopdjiahmaa.Lg

/- Coercions: heights, sizes. Conditions: none; plain definitions and lemmas. -/
set_option linter.unusedVariables false
set_option linter.unusedSimpArgs false
set_option maxRecDepth 100000
set_option maxHeartbeats 1000000
namespace Go.Proofs.Ytopgmopdjiahmaa.Lg
open Go Go.RowKit Go.Proofs

mutual
def Ty.high : Ty → Int
  | .mk _ ts => Ty.highL ts 0 + 1
def Ty.highL : List Ty → Int → Int
  | [], d => d
  | t :: r, d => Ty.highL r (maxI d t.high)
end
mutual
theorem Ty.high_pos : ∀ t : Ty, 1 ≤ t.high
  | .mk _ ts => by
    simp only [Ty.high]
    have := Ty.highL_ge ts 0
    omega
theorem Ty.highL_ge : ∀ (ts : List Ty) (d : Int), d ≤ Ty.highL ts d
  | [], d => by simp [Ty.highL]
  | t :: r, d => by
    simp only [Ty.highL]
    have := Ty.highL_ge r (maxI d t.high)
    have := (le_maxI (a := d) (b := t.high)).1
    omega
end
theorem Ty.highL_mem : ∀ {ts : List Ty} (d : Int), ∀ t ∈ ts, t.high ≤ Ty.highL ts d
  | a :: r, d, t, ht => by
    simp only [Ty.highL]
    rcases List.mem_cons.1 ht with rfl | ht
    · have := Ty.highL_ge r (maxI d t.high)
      have := (le_maxI (a := d) (b := t.high)).2
      omega
    · exact Ty.highL_mem _ t ht
mutual
theorem Ty.deep_min : ∀ (t : Ty) (n : Int), 1 ≤ n → t.deep n = minI n t.high
  | .mk k ts, n, h => by
    simp only [Ty.deep, Ty.high]
    have h0 := Ty.highL_ge ts 0
    split
    · unfold minI; split <;> omega
    · have := Ty.deepL_min ts (n - 1) 0 (by omega) (by omega)
      have e : minI (n - 1) 0 = 0 := by unfold minI; split <;> omega
      rw [e] at this
      rw [this]
      unfold minI; split <;> split <;> omega
theorem Ty.deepL_min : ∀ (ts : List Ty) (n d : Int), 1 ≤ n → 0 ≤ d → Ty.deepL ts n (minI n d) = minI n (Ty.highL ts d)
  | [], n, d, h, h' => rfl
  | t :: r, n, d, h, h' => by
    simp only [Ty.deepL, Ty.highL]
    have ht := Ty.high_pos t
    rw [Ty.deep_min t n h]
    have e : (if minI n t.high > minI n d then minI n t.high else minI n d) = minI n (maxI d t.high) := by
      unfold minI maxI; (repeat' split) <;> omega
    rw [e]
    exact Ty.deepL_min r n _ h (by unfold maxI; split <;> omega)
end
theorem high_of_check {t : Ty} (h : t.check = 0) : t.high ≤ 200 := by
  obtain ⟨h1, h2, _⟩ := check_zero h
  unfold Ty.depth at h2
  rw [if_pos h1, Ty.deep_min t 201 (by omega)] at h2
  unfold minI at h2
  split at h2 <;> omega

/-! ### a coercion that is one: its shape -/
theorem ends_shape {k : Int} {ty to : Ty} {lab : Int} {neg : Bool} {ks : List Cn} (h : (Cn.mk k ty to lab neg ks).ends.2.2 = true) :
    (ks = [] ∧ (k = 0 ∨ k = 1 ∨ k = 2 ∨ k = 3) ∧ ty.check = 0) ∨ ∃ a b, ks = [a, b] ∧ (k = 4 ∨ k = 5 ∨ k = 6 ∨ k = 7) ∧ a.ends.2.2 = true ∧ b.ends.2.2 = true := by
  simp only [Cn.ends] at h
  split at h
  · rename_i hl
    refine .inl ?_
    unfold leafE at h
    split at h
    · simp [noE] at h
    · rename_i hc
      simp only [not_or, Bool.not_eq_false, Decidable.not_not] at hc
      refine ⟨by simpa using hc.1, ?_, hc.2⟩
      simp only [leafF, Bool.or_eq_true, beq_iff_eq] at hl
      omega
  · refine .inr ?_
    match ks, h with
    | [], h => simp [Cn.endsL, partsL, noE] at h
    | [a], h => simp [Cn.endsL, partsL, noE] at h
    | [a, b], h =>
      simp only [Cn.endsL, partsL, partsE] at h
      refine ⟨a, b, rfl, ?_⟩
      split at h
      · simp [noE] at h
      · rename_i hab
        simp only [Bool.not_eq_false, Bool.and_eq_true] at hab
        refine ⟨?_, hab⟩
        repeat' split at h
        all_goals first | omega | (simp [noE] at h)
    | a :: b :: c :: r, h => simp [Cn.endsL, partsL, noE] at h

mutual
def Cn.size : Cn → Int
  | .mk k _ _ _ _ ks => if k = 0 ∨ k = 1 ∨ k = 2 ∨ k = 3 then 1 else if k = 7 then Cn.sizeL ks else Cn.sizeL ks + 1
def Cn.sizeL : List Cn → Int
  | [] => 0
  | c :: r => c.size + Cn.sizeL r
end
mutual
def Cn.height : Cn → Int
  | .mk k ty _ _ _ ks => if k = 0 ∨ k = 1 then 1 else if k = 2 ∨ k = 3 then ty.high else if k = 7 then Cn.heightL ks else Cn.heightL ks + 1
def Cn.heightL : List Cn → Int
  | [] => 0
  | [c] => c.height
  | c :: r => maxI c.height (Cn.heightL r)
end
mutual
def Cn.num : Cn → Int
  | .mk _ _ _ _ _ ks => 1 + Cn.numL ks
def Cn.numL : List Cn → Int
  | [] => 0
  | c :: r => c.num + Cn.numL r
end
mutual
theorem Cn.num_pos : ∀ c : Cn, 1 ≤ c.num
  | .mk _ _ _ _ _ ks => by simp only [Cn.num]; have := Cn.numL_pos ks; omega
theorem Cn.numL_pos : ∀ ks : List Cn, 0 ≤ Cn.numL ks
  | [] => by simp [Cn.numL]
  | c :: r => by simp only [Cn.numL]; have := Cn.num_pos c; have := Cn.numL_pos r; omega
end
mutual
theorem Cn.num_down : ∀ (c : Cn) (n : Int), c.down n ≤ 8192 → n + c.num ≤ c.down n
  | .mk k ty to lab neg ks, n, h => by
    simp only [Cn.down, Cn.num] at h ⊢
    have := headN_le k ty to
    have := Cn.numL_down ks _ h
    omega
theorem Cn.numL_down : ∀ (ks : List Cn) (m : Int), Cn.downL ks m ≤ 8192 → m + Cn.numL ks ≤ Cn.downL ks m
  | [], m, h => by simp [Cn.downL, Cn.numL]
  | c :: r, m, h => by
    simp only [Cn.downL, Cn.numL] at h ⊢
    split at h
    · omega
    · rename_i hm
      rw [if_neg hm]
      have h2 := Cn.numL_down r _ h
      have h3 := Cn.numL_pos r
      have h1 := Cn.num_down c m (by omega)
      omega
end
theorem few_num {c : Cn} (h : c.few = true) : c.num ≤ 8192 := by
  have h := of_decide_eq_true h
  have := Cn.num_down c 0 h
  omega

/-- the check holds -/
def Cn.ok (c : Cn) : Bool := c.chk.2.2 == 0
theorem ok_iff {c : Cn} (h : c.chk.2.2 = 0) : c.few = true ∧ ¬ c.deep 201 > 200 ∧ c.ends.2.2 = true ∧ c.ends.1.check = 0 ∧ c.ends.2.1.check = 0 ∧ c.chk = (c.ends.1, c.ends.2.1, 0) := by
  unfold Cn.chk at h ⊢
  split at h
  · simp at h
  · rename_i h1
    split at h
    · simp at h
    · rename_i h2
      split at h
      · simp at h
      · rename_i h3
        split at h
        · rename_i h4; exact absurd h h4
        · rename_i h4
          split at h
          · rename_i h5; exact absurd h h5
          · rename_i h5
            rw [if_neg h1, if_neg h2, if_neg h3, if_neg h4, if_neg h5]
            exact ⟨by simpa using h1, h2, by simpa using h3, by simpa using h4, by simpa using h5, rfl⟩

def Cn.heightF (c : Cn) : Int := if c.chk.2.2 = 0 then c.height else 0
end Go.Proofs.Ytopgmopdjiahmaa.Lg

/- Coercions: of two types that agree there is one. Conditions: none; plain definitions and lemmas. -/
set_option linter.unusedVariables false
set_option linter.unusedSimpArgs false
set_option maxRecDepth 100000
set_option maxHeartbeats 1000000
namespace Go.Proofs.Ytopgmopdjiahmaa.Lg
open Go Go.RowKit Go.Proofs
/-! ### checked types -/
theorem check_iff {t : Ty} : t.check = 0 ↔ t.nodes ≤ 8192 ∧ t.high ≤ 200 ∧ t.right = true := by
  constructor
  · intro h
    exact ⟨(check_zero h).1, high_of_check h, (check_zero h).2.2⟩
  · rintro ⟨h1, h2, h3⟩
    have hp := Ty.high_pos t
    have hd : t.depth = t.high := by
      rw [Ty.depth, if_pos h1, Ty.deep_min t 201 (by omega), minI, if_pos (by omega)]
    rw [Ty.check, if_pos h1, hd, if_neg (by omega), if_pos h3]
mutual
theorem Ty.right_fits : ∀ t : Ty, t.right = true → t.fits
  | .mk k ts, h => by
    obtain ⟨h1, h2⟩ := Ty.right_kids h
    have := partsF_le k
    exact ⟨by omega, Ty.rightL_fits ts h2⟩
theorem Ty.rightL_fits : ∀ ts : List Ty, Ty.rightL ts = true → Ty.fitsL ts
  | [], _ => trivial
  | t :: r, h => by
    simp only [Ty.rightL, Bool.and_eq_true] at h
    exact ⟨Ty.right_fits t h.1, Ty.rightL_fits r h.2⟩
end
theorem check_pair {k : Int} {a b : Ty} (h : (Ty.mk k [a, b]).check = 0) : a.check = 0 ∧ b.check = 0 ∧ a.high + 1 ≤ (Ty.mk k [a, b]).high ∧ b.high + 1 ≤ (Ty.mk k [a, b]).high := by
  obtain ⟨h1, h2, h3⟩ := check_iff.1 h
  simp only [Ty.nodes, Ty.nodesL] at h1
  have ha := Ty.highL_mem (ts := [a, b]) 0 a (by simp)
  have hb := Ty.highL_mem (ts := [a, b]) 0 b (by simp)
  have hr := (Ty.right_kids h3).2
  simp only [Ty.rightL, Bool.and_eq_true] at hr
  simp only [Ty.high] at h2 ⊢
  exact ⟨check_iff.2 ⟨by omega, by omega, hr.1⟩, check_iff.2 ⟨by omega, by omega, hr.2.1⟩, by omega, by omega⟩
theorem un_check : Ty.un.check = 0 := check_iff.2 ⟨by simp [Ty.un, Ty.nodes, Ty.nodesL], by simp [Ty.un, Ty.high, Ty.highL], by simp [Ty.un, Ty.right, Ty.rightL, partsF]⟩
theorem ground_base {k : Int} (h : (Ty.mk k []).check = 0) (hk : k ≠ 0) : (Ty.mk k []).ground.1 = .mk k [] := by
  have hr := (Ty.right_kids (check_iff.1 h).2.2).1
  simp only [List.length_nil] at hr
  simp [Ty.ground, h, Ty.k, hk, hr]
theorem ground_pair {k : Int} {a b : Ty} (h : (Ty.mk k [a, b]).check = 0) (hk : k ≠ 0) : (Ty.mk k [a, b]).ground.1 = .mk k [.un, .un] := by
  have hr := (Ty.right_kids (check_iff.1 h).2.2).1
  have hr : partsF k = 2 := by simpa using hr
  simp [Ty.ground, h, Ty.k, hk, hr, List.replicate, Ty.un]

inductive OfR (lab : Int) : Bool → Ty → Ty → Cn → Prop
  | id (neg k us) : OfR lab neg (.mk k []) (.mk k us) (.mk 0 (.mk k []) .un 0 false [])
  | inn (neg k ts us c) (hk : k ≠ 0) (hc : (Ty.mk k ts).check = 0) (h : OfR lab neg (.mk k ts) (Ty.mk k ts).ground.1 c) : OfR lab neg (.mk k ts) (.mk 0 us) (part 7 c (.mk 2 (Ty.mk k ts).ground.1 .un 0 false []))
  | out (neg k ts us c) (hk : k ≠ 0) (hc : (Ty.mk k ts).check = 0) (h : OfR lab neg (Ty.mk k ts).ground.1 (.mk k ts) c) : OfR lab neg (.mk 0 us) (.mk k ts) (part 7 (.mk 3 (Ty.mk k ts).ground.1 .un lab neg []) c)
  | fn (neg f0 f1 t0 t1 c d) (h : OfR lab (!neg) t0 f0 c) (h' : OfR lab neg f1 t1 d) : OfR lab neg (.mk 3 [f0, f1]) (.mk 3 [t0, t1]) (part 4 c d)
  | two (neg k f0 f1 t0 t1 c d) (hk : k = 4 ∨ k = 5) (h : OfR lab neg f0 t0 c) (h' : OfR lab neg f1 t1 d) : OfR lab neg (.mk k [f0, f1]) (.mk k [t0, t1]) (part (k + 1) c d)

theorem OfR.does {lab : Int} {neg : Bool} {a b : Ty} {c : Cn} (h : OfR lab neg a b c) : OfD lab neg a b c := by
  induction h with
  | id neg k us => exact of_id lab neg k us
  | inn neg k ts us c hk hc h ih => exact of_in hk (Ty.right_fits _ (check_iff.1 hc).2.2) ih
  | out neg k ts us c hk hc h ih => exact of_out hk (Ty.right_fits _ (check_iff.1 hc).2.2) ih
  | fn neg f0 f1 t0 t1 c d h h' ih ih' => exact of_fun ih ih'
  | two neg k f0 f1 t0 t1 c d hk h h' ih ih' => exact of_two hk ih ih'

def Ty.rank (t : Ty) : Int := if t.k = 0 then 0 else t.high
theorem rank_le (t : Ty) : 0 ≤ t.rank ∧ t.rank ≤ t.high := by
  have := Ty.high_pos t
  unfold Ty.rank; split <;> omega
theorem Ty.levL_two {a b c d : Ty} : Ty.levL [a, b] [c, d] = (a.lev c && b.lev d) := by simp [Ty.levL]
theorem un_lev (a : Ty) : a.lev .un = true ∧ Ty.un.lev a = true := by cases a; simp [Ty.lev, Ty.un]
mutual
theorem Ty.lev_symm : ∀ a b : Ty, a.right = true → b.right = true → a.lev b = true → b.lev a = true
  | .mk k ts, .mk k' us, ha, hb, h => by
    simp only [Ty.lev] at h ⊢
    by_cases h0 : k = 0 ∨ k' = 0
    · rw [if_pos (Or.symm h0)]
    · rw [if_neg h0] at h
      rw [if_neg (fun hc => h0 (Or.symm hc))]
      by_cases h1 : k = k'
      · subst h1
        simp only [ne_eq, not_true_eq_false, if_false] at h ⊢
        have ra := Ty.right_kids ha
        have rb := Ty.right_kids hb
        exact Ty.levL_symm ts us ra.2 rb.2 (by have := ra.1; have := rb.1; omega) h
      · rw [if_pos h1] at h; cases h
theorem Ty.levL_symm : ∀ ts us : List Ty, Ty.rightL ts = true → Ty.rightL us = true → ts.length = us.length → Ty.levL ts us = true → Ty.levL us ts = true
  | [], [], _, _, _, _ => rfl
  | [], _ :: _, _, _, hl, _ => by simp at hl
  | _ :: _, [], _, _, hl, _ => by simp at hl
  | t :: r, u :: s, h1, h2, hl, h => by
    simp only [Ty.levL, Ty.rightL, Bool.and_eq_true] at *
    exact ⟨Ty.lev_symm t u h1.1 h2.1 h.1, Ty.levL_symm r s h1.2 h2.2 (by simpa using hl) h.2⟩
end

theorem un_right : Ty.un.right = true := (check_iff.1 un_check).2.2
theorem unun {k : Int} {a b : Ty} (h : (Ty.mk k [a, b]).check = 0) (hk : k ≠ 0) : (Ty.mk k [.un, .un]).check = 0 ∧ (Ty.mk k [.un, .un]).rank ≤ (Ty.mk k [a, b]).high ∧ (Ty.mk k [.un, .un]).lev (.mk k [a, b]) = true ∧ (Ty.mk k [a, b]).lev (.mk k [.un, .un]) = true := by
  have hr := (Ty.right_kids (check_iff.1 h).2.2).1
  have hr : partsF k = 2 := by simpa using hr
  have hp := Ty.high_pos a
  obtain ⟨_, _, h1, h2⟩ := check_pair h
  have e : (Ty.mk k [.un, .un]).high = 2 := by simp [Ty.high, Ty.highL, Ty.un, maxI]
  refine ⟨check_iff.2 ⟨by simp [Ty.nodes, Ty.nodesL, Ty.un], by omega, by rw [Ty.right, hr]; simp [Ty.rightL, un_right]⟩, ?_, ?_, ?_⟩
  · have := (rank_le (Ty.mk k [.un, .un])).2
    omega
  · simp [Ty.lev, hk, Ty.levL_two, (un_lev a).2, (un_lev b).2]
  · simp [Ty.lev, hk, Ty.levL_two, (un_lev a).1, (un_lev b).1]
theorem of_exists (lab : Int) : ∀ (N : Nat) (neg : Bool) (a b : Ty), a.check = 0 → b.check = 0 → a.lev b = true →
    2 * maxI a.rank b.rank + (if a.k = 0 ∨ b.k = 0 then 1 else 0) ≤ (N : Int) → ∃ c, OfR lab neg a b c := by
  intro N
  induction N using Nat.strongRecOn with
  | _ N ih =>
    intro neg a b ha hb hl hN
    obtain ⟨k, ts⟩ := a
    obtain ⟨k', us⟩ := b
    have sa := right_shape (check_iff.1 ha).2.2
    have sb := right_shape (check_iff.1 hb).2.2
    have ra := rank_le (.mk k ts)
    have rb := rank_le (.mk k' us)
    by_cases hk : k = k'
    · subst hk
      rcases sa with ⟨rfl, _⟩ | ⟨a0, a1, rfl, hka, _⟩
      · exact ⟨_, .id neg k us⟩
      · rcases sb with ⟨rfl, hkb⟩ | ⟨b0, b1, rfl, hkb, _⟩
        · omega
        have h0 : k ≠ 0 := by omega
        have hl2 : Ty.levL [a0, a1] [b0, b1] = true := by simpa [Ty.lev, h0] using hl
        rw [Ty.levL_two, Bool.and_eq_true] at hl2
        obtain ⟨ca0, ca1, ha0, ha1⟩ := check_pair ha
        obtain ⟨cb0, cb1, hb0, hb1⟩ := check_pair hb
        have e1 : (Ty.mk k [a0, a1]).rank = (Ty.mk k [a0, a1]).high := by simp [Ty.rank, Ty.k, h0]
        have e2 : (Ty.mk k [b0, b1]).rank = (Ty.mk k [b0, b1]).high := by simp [Ty.rank, Ty.k, h0]
        have hm := le_maxI (a := (Ty.mk k [a0, a1]).rank) (b := (Ty.mk k [b0, b1]).rank)
        have q0 := rank_le a0
        have q1 := rank_le a1
        have p0 := rank_le b0
        have p1 := rank_le b1
        have hN' : 2 * maxI (Ty.mk k [a0, a1]).rank (Ty.mk k [b0, b1]).rank ≤ (N : Int) := by split at hN <;> omega
        have hN1 : 1 ≤ N := by omega
        have step : ∀ (neg : Bool) (x y : Ty), x.check = 0 → y.check = 0 → x.lev y = true → x.rank + 1 ≤ maxI (Ty.mk k [a0, a1]).rank (Ty.mk k [b0, b1]).rank → y.rank + 1 ≤ maxI (Ty.mk k [a0, a1]).rank (Ty.mk k [b0, b1]).rank → ∃ c, OfR lab neg x y c := by
          intro neg x y cx cy hxy h1 h2
          have h3 : maxI x.rank y.rank + 1 ≤ maxI (Ty.mk k [a0, a1]).rank (Ty.mk k [b0, b1]).rank := by unfold maxI at *; split <;> omega
          exact ih (N - 1) (by omega) neg x y cx cy hxy (by split <;> omega)
        rcases hka with rfl | hka
        · obtain ⟨c, hc⟩ := step (!neg) b0 a0 cb0 ca0 (Ty.lev_symm _ _ (check_iff.1 ca0).2.2 (check_iff.1 cb0).2.2 hl2.1) (by omega) (by omega)
          obtain ⟨d, hd⟩ := step neg a1 b1 ca1 cb1 hl2.2 (by omega) (by omega)
          exact ⟨_, .fn neg a0 a1 b0 b1 c d hc hd⟩
        · obtain ⟨c, hc⟩ := step neg a0 b0 ca0 cb0 hl2.1 (by omega) (by omega)
          obtain ⟨d, hd⟩ := step neg a1 b1 ca1 cb1 hl2.2 (by omega) (by omega)
          exact ⟨_, .two neg k a0 a1 b0 b1 c d hka hc hd⟩
    · -- one of the two is unknown
      have h0 : k = 0 ∨ k' = 0 := by
        apply Decidable.byContradiction
        intro hc
        simp [Ty.lev, hc, hk] at hl
      rcases h0 with rfl | rfl
      · have hk' : k' ≠ 0 := fun h => hk h.symm
        have e2 : (Ty.mk k' us).rank = (Ty.mk k' us).high := by simp [Ty.rank, Ty.k, hk']
        have e1 : (Ty.mk 0 ts).rank = 0 := by simp [Ty.rank, Ty.k]
        have hg : ∃ c, OfR lab neg (Ty.mk k' us).ground.1 (.mk k' us) c := by
          rcases sb with ⟨rfl, _⟩ | ⟨b0, b1, rfl, _, _⟩
          · rw [ground_base hb hk']; exact ⟨_, .id neg k' []⟩
          · rw [ground_pair hb hk']
            obtain ⟨g1, g2, g3, g4⟩ := unun hb hk'
            have hm := le_maxI (a := (Ty.mk 0 ts).rank) (b := (Ty.mk k' [b0, b1]).rank)
            have hN' : 2 * maxI (Ty.mk 0 ts).rank (Ty.mk k' [b0, b1]).rank + 1 ≤ (N : Int) := by simpa [Ty.k] using hN
            have hmm : maxI (Ty.mk k' [.un, .un]).rank (Ty.mk k' [b0, b1]).rank ≤ maxI (Ty.mk 0 ts).rank (Ty.mk k' [b0, b1]).rank := by rw [e2] at hm ⊢; exact maxI_le (by omega) (by omega)
            exact ih (N - 1) (by have := hm.2; omega) neg _ _ g1 hb g3 (by simp only [Ty.k, hk', or_self, if_false]; have := hm.2; omega)
        obtain ⟨c, hc⟩ := hg
        exact ⟨_, .out neg k' us ts c hk' hb hc⟩
      · have e1 : (Ty.mk k ts).rank = (Ty.mk k ts).high := by simp [Ty.rank, Ty.k, hk]
        have hg : ∃ c, OfR lab neg (.mk k ts) (Ty.mk k ts).ground.1 c := by
          rcases sa with ⟨rfl, _⟩ | ⟨b0, b1, rfl, _, _⟩
          · rw [ground_base ha hk]; exact ⟨_, .id neg k []⟩
          · rw [ground_pair ha hk]
            obtain ⟨g1, g2, g3, g4⟩ := unun ha hk
            have hm := le_maxI (a := (Ty.mk k [b0, b1]).rank) (b := (Ty.mk 0 us).rank)
            have hN' : 2 * maxI (Ty.mk k [b0, b1]).rank (Ty.mk 0 us).rank + 1 ≤ (N : Int) := by simpa [Ty.k] using hN
            have hmm : maxI (Ty.mk k [b0, b1]).rank (Ty.mk k [.un, .un]).rank ≤ maxI (Ty.mk k [b0, b1]).rank (Ty.mk 0 us).rank := by rw [e1] at hm ⊢; exact maxI_le (by omega) (by omega)
            exact ih (N - 1) (by have := hm.1; omega) neg _ _ ha g1 g4 (by simp only [Ty.k, hk, or_self, if_false]; have := hm.1; omega)
        obtain ⟨c, hc⟩ := hg
        exact ⟨_, .inn neg k ts us c hk ha hc⟩
end Go.Proofs.Ytopgmopdjiahmaa.Lg

/- Coercions: the coercion of a cast. Conditions: none; plain definitions and lemmas. -/
set_option linter.unusedVariables false
set_option linter.unusedSimpArgs false
set_option maxRecDepth 100000
set_option maxHeartbeats 1000000
namespace Go.Proofs.Ytopgmopdjiahmaa.Lg
open Go Go.RowKit Go.Proofs

theorem zero_cells : Cn.zero.cells = [.int .i8 0, .int .i8 0, .slice [], .int .i8 0, .slice [], .int .i64 0, .bool false, .slice []] := by
  simp [Cn.zero, Cn.cells, Cn.cellsL, Ty.un, Ty.k, Ty.ts, Ty.cellsL]
/-- a label as a number with a side -/
def labN (lab : Int) : Int := if lab < 0 then -lab else lab
def labS (lab : Int) : Bool := decide (lab < 0)
def labIn (lab : Int) : Bool := decide (lab ≠ 0 ∧ -2147483648 ≤ lab ∧ lab ≤ 2147483648)

/-- the answer of coerce.Of: the coercion, the error -/
inductive OfA (a b : Ty) (lab : Int) : Cn → Int → Prop
  | e1 (h : a.check ≠ 0) : OfA a b lab .zero a.check
  | e2 (h : a.check = 0) (h' : b.check ≠ 0) : OfA a b lab .zero b.check
  | e3 (h : a.check = 0) (h' : b.check = 0) (h2 : a.lev b = false ∨ labIn lab = false) : OfA a b lab .zero 150
  | e4 (c : Cn) (h : a.check = 0) (h' : b.check = 0) (h2 : a.lev b = true) (h3 : labIn lab = true) (hc : OfR (labN lab) (labS lab) a b c) (he : c.chk.2.2 ≠ 0) : OfA a b lab .zero c.chk.2.2
  | ok (c : Cn) (h : a.check = 0) (h' : b.check = 0) (h2 : a.lev b = true) (h3 : labIn lab = true) (hc : OfR (labN lab) (labS lab) a b c) (he : c.chk.2.2 = 0) : OfA a b lab c 0

theorem part_fits {k : Int} {a b : Cn} (ha : a.fits) (hb : b.fits) : (part k a b).fits := ⟨un_fits, un_fits, by simp, by omega, ha, hb, trivial⟩
theorem OfR.fits {lab : Int} (hlab : 0 ≤ lab ∧ lab ≤ 2147483648) {neg : Bool} {a b : Ty} {c : Cn} (h : OfR lab neg a b c) : c.fits := by
  induction h with
  | id neg k us => exact ⟨⟨by simp, trivial⟩, un_fits, by simp, by omega, trivial⟩
  | inn neg k ts us c hk hc h ih => exact part_fits ih ⟨ground_fits _, un_fits, by simp, by omega, trivial⟩
  | out neg k ts us c hk hc h ih => exact part_fits ⟨ground_fits _, un_fits, by simp, by omega, trivial⟩ ih
  | fn neg f0 f1 t0 t1 c d h h' ih ih' => exact part_fits ih ih'
  | two neg k f0 f1 t0 t1 c d hk h h' ih ih' => exact part_fits ih ih'

theorem coerceOf_does (a b : Ty) (ha : a.fits) (hb : b.fits) (lab : Int) (hl : -9223372036854775808 ≤ lab ∧ lab ≤ 9223372036854775807) :
    ∃ c e, OfA a b lab c e ∧ Does Try.prog 11 [.imm false (.agg a.cells), .imm false (.agg b.cells), .imm false (.int .i64 lab)] [] (.ret false (.tup [.agg c.cells, .int .i64 e])) [] := by
  have c1 := check_does a ha
  have c2 := check_does b hb
  have g := agree_does a b ha hb
  simp only [Ty.cells_eq] at c1 c2 g
  by_cases h1 : a.check ≠ 0
  · refine ⟨_, _, .e1 h1, ?_⟩
    rw [zero_cells]
    simp only [Ty.cells_eq]
    refine does11 (by rfl) (by rfl) ?_
    (try simp (implicitDefEqProofs := false) only [go_sem, ↓reduceIte, Nat.reduceEqDiff, reduceCtorEq, Nat.reduceAdd, Nat.reduceSub, Nat.reduceLeDiff, Nat.reduceLT, Nat.reduceMul, Int.reduceToNat, Int.reduceLT, Int.reduceLE])
    refine CallK_do c1 ?_
    (try simp (implicitDefEqProofs := false) only [go_sem, ↓reduceIte, Nat.reduceEqDiff, reduceCtorEq, Nat.reduceAdd, Nat.reduceSub, Nat.reduceLeDiff, Nat.reduceLT, Nat.reduceMul, Int.reduceToNat, Int.reduceLT, Int.reduceLE, show (a.check != 0) = true from by simpa using h1])
  have h1 : a.check = 0 := Decidable.not_not.1 h1
  by_cases h2 : b.check ≠ 0
  · refine ⟨_, _, .e2 h1 h2, ?_⟩
    rw [zero_cells]
    simp only [Ty.cells_eq]
    refine does11 (by rfl) (by rfl) ?_
    (try simp (implicitDefEqProofs := false) only [go_sem, ↓reduceIte, Nat.reduceEqDiff, reduceCtorEq, Nat.reduceAdd, Nat.reduceSub, Nat.reduceLeDiff, Nat.reduceLT, Nat.reduceMul, Int.reduceToNat, Int.reduceLT, Int.reduceLE])
    refine CallK_do c1 ?_
    (try simp (implicitDefEqProofs := false) only [go_sem, ↓reduceIte, Nat.reduceEqDiff, reduceCtorEq, Nat.reduceAdd, Nat.reduceSub, Nat.reduceLeDiff, Nat.reduceLT, Nat.reduceMul, Int.reduceToNat, Int.reduceLT, Int.reduceLE, h1, show ((0 : Int) != 0) = false from rfl])
    refine CallK_do c2 ?_
    (try simp (implicitDefEqProofs := false) only [go_sem, ↓reduceIte, Nat.reduceEqDiff, reduceCtorEq, Nat.reduceAdd, Nat.reduceSub, Nat.reduceLeDiff, Nat.reduceLT, Nat.reduceMul, Int.reduceToNat, Int.reduceLT, Int.reduceLE, show (b.check != 0) = true from by simpa using h2])
  have h2 : b.check = 0 := Decidable.not_not.1 h2
  have hag : a.agree b = a.lev b := by simp [Ty.agree, h1, h2]
  rw [hag] at g
  by_cases h3 : a.lev b = false ∨ labIn lab = false
  · refine ⟨_, _, .e3 h1 h2 h3, ?_⟩
    rw [zero_cells]
    simp only [Ty.cells_eq]
    refine does11 (by rfl) (by rfl) ?_
    (try simp (implicitDefEqProofs := false) only [go_sem, ↓reduceIte, Nat.reduceEqDiff, reduceCtorEq, Nat.reduceAdd, Nat.reduceSub, Nat.reduceLeDiff, Nat.reduceLT, Nat.reduceMul, Int.reduceToNat, Int.reduceLT, Int.reduceLE])
    refine CallK_do c1 ?_
    (try simp (implicitDefEqProofs := false) only [go_sem, ↓reduceIte, Nat.reduceEqDiff, reduceCtorEq, Nat.reduceAdd, Nat.reduceSub, Nat.reduceLeDiff, Nat.reduceLT, Nat.reduceMul, Int.reduceToNat, Int.reduceLT, Int.reduceLE, h1, show ((0 : Int) != 0) = false from rfl])
    refine CallK_do c2 ?_
    (try simp (implicitDefEqProofs := false) only [go_sem, ↓reduceIte, Nat.reduceEqDiff, reduceCtorEq, Nat.reduceAdd, Nat.reduceSub, Nat.reduceLeDiff, Nat.reduceLT, Nat.reduceMul, Int.reduceToNat, Int.reduceLT, Int.reduceLE, h2, show ((0 : Int) != 0) = false from rfl])
    refine CallK_do g ?_
    cases hlv : a.lev b with
    | false => (try simp (implicitDefEqProofs := false) only [go_sem, ↓reduceIte, Nat.reduceEqDiff, reduceCtorEq, Nat.reduceAdd, Nat.reduceSub, Nat.reduceLeDiff, Nat.reduceLT, Nat.reduceMul, Int.reduceToNat, Int.reduceLT, Int.reduceLE])
    | true =>
      have h3 : labIn lab = false := by simpa [hlv] using h3
      by_cases l0 : lab = 0
      · (try simp (implicitDefEqProofs := false) only [go_sem, ↓reduceIte, Nat.reduceEqDiff, reduceCtorEq, Nat.reduceAdd, Nat.reduceSub, Nat.reduceLeDiff, Nat.reduceLT, Nat.reduceMul, Int.reduceToNat, Int.reduceLT, Int.reduceLE, show (lab == 0) = true from by simpa using l0])
      by_cases l1 : lab < -2147483648
      · (try simp (implicitDefEqProofs := false) only [go_sem, ↓reduceIte, Nat.reduceEqDiff, reduceCtorEq, Nat.reduceAdd, Nat.reduceSub, Nat.reduceLeDiff, Nat.reduceLT, Nat.reduceMul, Int.reduceToNat, Int.reduceLT, Int.reduceLE, show (lab == 0) = false from by simpa using l0, decide_eq_true l1])
      have l2 : lab > 2147483648 := by simp [labIn] at h3; omega
      (try simp (implicitDefEqProofs := false) only [go_sem, ↓reduceIte, Nat.reduceEqDiff, reduceCtorEq, Nat.reduceAdd, Nat.reduceSub, Nat.reduceLeDiff, Nat.reduceLT, Nat.reduceMul, Int.reduceToNat, Int.reduceLT, Int.reduceLE, show (lab == 0) = false from by simpa using l0, decide_eq_false l1, decide_eq_true l2])
  have hlv : a.lev b = true := by
    cases h : a.lev b with
    | true => rfl
    | false => exact absurd (.inl h) h3
  have hin : labIn lab = true := by
    cases h : labIn lab with
    | true => rfl
    | false => exact absurd (.inr h) h3
  have hin2 := of_decide_eq_true hin
  have l0 := hin2.1
  have l1 : ¬ lab < -2147483648 := by omega
  have l2 : ¬ lab > 2147483648 := by omega
  have hn : 0 ≤ labN lab ∧ labN lab ≤ 2147483648 := by unfold labN; split <;> omega
  have hra := rank_le a
  have hrb := rank_le b
  obtain ⟨c, hc⟩ := of_exists (labN lab) (2 * maxI a.rank b.rank + 1).toNat (labS lab) a b h1 h2 hlv (by
    have := (le_maxI (a := a.rank) (b := b.rank)).1
    split <;> omega)
  have hd := hc.does
  have hcf := hc.fits hn
  have hck := cchk_does c hcf
  unfold OfD at hd
  by_cases he : c.chk.2.2 = 0
  · refine ⟨c, 0, .ok c h1 h2 hlv hin hc he, ?_⟩
    simp only [Ty.cells_eq] at hd ⊢
    refine does11 (by rfl) (by rfl) ?_
    (try simp (implicitDefEqProofs := false) only [go_sem, ↓reduceIte, Nat.reduceEqDiff, reduceCtorEq, Nat.reduceAdd, Nat.reduceSub, Nat.reduceLeDiff, Nat.reduceLT, Nat.reduceMul, Int.reduceToNat, Int.reduceLT, Int.reduceLE])
    refine CallK_do c1 ?_
    (try simp (implicitDefEqProofs := false) only [go_sem, ↓reduceIte, Nat.reduceEqDiff, reduceCtorEq, Nat.reduceAdd, Nat.reduceSub, Nat.reduceLeDiff, Nat.reduceLT, Nat.reduceMul, Int.reduceToNat, Int.reduceLT, Int.reduceLE, h1, show ((0 : Int) != 0) = false from rfl])
    refine CallK_do c2 ?_
    (try simp (implicitDefEqProofs := false) only [go_sem, ↓reduceIte, Nat.reduceEqDiff, reduceCtorEq, Nat.reduceAdd, Nat.reduceSub, Nat.reduceLeDiff, Nat.reduceLT, Nat.reduceMul, Int.reduceToNat, Int.reduceLT, Int.reduceLE, h2, show ((0 : Int) != 0) = false from rfl])
    refine CallK_do g ?_
    rw [hlv]
    (try simp (implicitDefEqProofs := false) only [go_sem, ↓reduceIte, Nat.reduceEqDiff, reduceCtorEq, Nat.reduceAdd, Nat.reduceSub, Nat.reduceLeDiff, Nat.reduceLT, Nat.reduceMul, Int.reduceToNat, Int.reduceLT, Int.reduceLE, show (lab == 0) = false from by simpa using l0, decide_eq_false l1, decide_eq_false l2])
    have rest : ∀ (f1 f2 : Bool) (t : List (Nat × LV)), (t = [(3, .imm false (.ptr [.int .i8 a.k, .slice (Ty.cellsL a.ts)] 0)), (4, .imm false (.ptr [.int .i8 b.k, .slice (Ty.cellsL b.ts)] 0)), (6, .loc (.own 6) 0), (10, .loc (.own 46) 0)] ∨ t = [(2, .imm false (.int .i64 lab)), (3, .imm false (.ptr [.int .i8 a.k, .slice (Ty.cellsL a.ts)] 0)), (4, .imm false (.ptr [.int .i8 b.k, .slice (Ty.cellsL b.ts)] 0)), (6, .loc (.own 6) 0), (10, .loc (.own 46) 0), (48, .imm true (.bool false))]) → awp Try.prog (.seq r11_12 (.seq (.seq r11_13 (.seq r11_14 (.cond (.t 66) (.seq r11_15 .ret) .skip))) (.seq r11_16 .ret))) (Fin [MR.c 6 (some 8), MR.t 7] (.ret false (.tup [.agg c.cells, .int .i64 0])) [])
        ⟨t,
          [(.own 6, .var [.imm true (.int .i8 0), .imm true (.int .i8 0), .nils, .imm true (.int .i8 0), .nils, .imm true (.int .i64 0), .imm true (.bool false), .nils]), (.own 46, .var [.imm f1 (.int .i64 (labN lab)), .imm f2 (.bool (labS lab))])], []⟩ := by
      intro f1 f2 t ht
      rcases ht with rfl | rfl
      · (try simp (implicitDefEqProofs := false) only [go_sem, ↓reduceIte, Nat.reduceEqDiff, reduceCtorEq, Nat.reduceAdd, Nat.reduceSub, Nat.reduceLeDiff, Nat.reduceLT, Nat.reduceMul, Int.reduceToNat, Int.reduceLT, Int.reduceLE])
        refine CallBK_do hd ?_
        obtain ⟨k, ty, to, lab2, neg2, ks⟩ := c
        simp only [Cn.cells] at hck ⊢
        (try simp (implicitDefEqProofs := false) only [go_sem, ↓reduceIte, Nat.reduceEqDiff, reduceCtorEq, Nat.reduceAdd, Nat.reduceSub, Nat.reduceLeDiff, Nat.reduceLT, Nat.reduceMul, Int.reduceToNat, Int.reduceLT, Int.reduceLE])
        unfold chV at hck
        generalize (Cn.mk k ty to lab2 neg2 ks).chk = e at hck he
        obtain ⟨e1, e2, e3⟩ := e
        simp only [Ty.cells_eq] at hck
        refine CallK_do hck ?_
        have he : e3 = 0 := he
        subst he
        (try simp (implicitDefEqProofs := false) only [go_sem, ↓reduceIte, Nat.reduceEqDiff, reduceCtorEq, Nat.reduceAdd, Nat.reduceSub, Nat.reduceLeDiff, Nat.reduceLT, Nat.reduceMul, Int.reduceToNat, Int.reduceLT, Int.reduceLE, show ((0 : Int) != 0) = false from rfl])
      · (try simp (implicitDefEqProofs := false) only [go_sem, ↓reduceIte, Nat.reduceEqDiff, reduceCtorEq, Nat.reduceAdd, Nat.reduceSub, Nat.reduceLeDiff, Nat.reduceLT, Nat.reduceMul, Int.reduceToNat, Int.reduceLT, Int.reduceLE])
        refine CallBK_do hd ?_
        obtain ⟨k, ty, to, lab2, neg2, ks⟩ := c
        simp only [Cn.cells] at hck ⊢
        (try simp (implicitDefEqProofs := false) only [go_sem, ↓reduceIte, Nat.reduceEqDiff, reduceCtorEq, Nat.reduceAdd, Nat.reduceSub, Nat.reduceLeDiff, Nat.reduceLT, Nat.reduceMul, Int.reduceToNat, Int.reduceLT, Int.reduceLE])
        unfold chV at hck
        generalize (Cn.mk k ty to lab2 neg2 ks).chk = e at hck he
        obtain ⟨e1, e2, e3⟩ := e
        simp only [Ty.cells_eq] at hck
        refine CallK_do hck ?_
        have he : e3 = 0 := he
        subst he
        (try simp (implicitDefEqProofs := false) only [go_sem, ↓reduceIte, Nat.reduceEqDiff, reduceCtorEq, Nat.reduceAdd, Nat.reduceSub, Nat.reduceLeDiff, Nat.reduceLT, Nat.reduceMul, Int.reduceToNat, Int.reduceLT, Int.reduceLE, show ((0 : Int) != 0) = false from rfl])
    by_cases hneg : lab < 0
    · have e1 : labN lab = 0 - lab := by unfold labN; rw [if_pos hneg]; omega
      have e2 : labS lab = true := by simp [labS, hneg]
      have := rest true true _ (.inl rfl)
      rw [e1, e2] at this
      (try simp (implicitDefEqProofs := false) only [go_sem, ↓reduceIte, Nat.reduceEqDiff, reduceCtorEq, Nat.reduceAdd, Nat.reduceSub, Nat.reduceLeDiff, Nat.reduceLT, Nat.reduceMul, Int.reduceToNat, Int.reduceLT, Int.reduceLE] at this)
      (try simp (implicitDefEqProofs := false) only [go_sem, ↓reduceIte, Nat.reduceEqDiff, reduceCtorEq, Nat.reduceAdd, Nat.reduceSub, Nat.reduceLeDiff, Nat.reduceLT, Nat.reduceMul, Int.reduceToNat, Int.reduceLT, Int.reduceLE, decide_eq_true hneg, wrap64 (n := 0 - lab) (by omega) (by omega)])
      exact this
    · have e1 : labN lab = lab := by unfold labN; rw [if_neg hneg]
      have e2 : labS lab = false := by simp [labS, hneg]
      have := rest false true _ (.inr rfl)
      rw [e1, e2] at this
      (try simp (implicitDefEqProofs := false) only [go_sem, ↓reduceIte, Nat.reduceEqDiff, reduceCtorEq, Nat.reduceAdd, Nat.reduceSub, Nat.reduceLeDiff, Nat.reduceLT, Nat.reduceMul, Int.reduceToNat, Int.reduceLT, Int.reduceLE] at this)
      (try simp (implicitDefEqProofs := false) only [go_sem, ↓reduceIte, Nat.reduceEqDiff, reduceCtorEq, Nat.reduceAdd, Nat.reduceSub, Nat.reduceLeDiff, Nat.reduceLT, Nat.reduceMul, Int.reduceToNat, Int.reduceLT, Int.reduceLE, decide_eq_false hneg])
      exact this
  · refine ⟨_, _, .e4 c h1 h2 hlv hin hc he, ?_⟩
    simp only [Ty.cells_eq] at hd ⊢
    refine does11 (by rfl) (by rfl) ?_
    (try simp (implicitDefEqProofs := false) only [go_sem, ↓reduceIte, Nat.reduceEqDiff, reduceCtorEq, Nat.reduceAdd, Nat.reduceSub, Nat.reduceLeDiff, Nat.reduceLT, Nat.reduceMul, Int.reduceToNat, Int.reduceLT, Int.reduceLE])
    refine CallK_do c1 ?_
    (try simp (implicitDefEqProofs := false) only [go_sem, ↓reduceIte, Nat.reduceEqDiff, reduceCtorEq, Nat.reduceAdd, Nat.reduceSub, Nat.reduceLeDiff, Nat.reduceLT, Nat.reduceMul, Int.reduceToNat, Int.reduceLT, Int.reduceLE, h1, show ((0 : Int) != 0) = false from rfl])
    refine CallK_do c2 ?_
    (try simp (implicitDefEqProofs := false) only [go_sem, ↓reduceIte, Nat.reduceEqDiff, reduceCtorEq, Nat.reduceAdd, Nat.reduceSub, Nat.reduceLeDiff, Nat.reduceLT, Nat.reduceMul, Int.reduceToNat, Int.reduceLT, Int.reduceLE, h2, show ((0 : Int) != 0) = false from rfl])
    refine CallK_do g ?_
    rw [hlv]
    (try simp (implicitDefEqProofs := false) only [go_sem, ↓reduceIte, Nat.reduceEqDiff, reduceCtorEq, Nat.reduceAdd, Nat.reduceSub, Nat.reduceLeDiff, Nat.reduceLT, Nat.reduceMul, Int.reduceToNat, Int.reduceLT, Int.reduceLE, show (lab == 0) = false from by simpa using l0, decide_eq_false l1, decide_eq_false l2])
    have rest : ∀ (f1 f2 : Bool) (t : List (Nat × LV)), (t = [(3, .imm false (.ptr [.int .i8 a.k, .slice (Ty.cellsL a.ts)] 0)), (4, .imm false (.ptr [.int .i8 b.k, .slice (Ty.cellsL b.ts)] 0)), (6, .loc (.own 6) 0), (10, .loc (.own 46) 0)] ∨ t = [(2, .imm false (.int .i64 lab)), (3, .imm false (.ptr [.int .i8 a.k, .slice (Ty.cellsL a.ts)] 0)), (4, .imm false (.ptr [.int .i8 b.k, .slice (Ty.cellsL b.ts)] 0)), (6, .loc (.own 6) 0), (10, .loc (.own 46) 0), (48, .imm true (.bool false))]) → awp Try.prog (.seq r11_12 (.seq (.seq r11_13 (.seq r11_14 (.cond (.t 66) (.seq r11_15 .ret) .skip))) (.seq r11_16 .ret))) (Fin [MR.c 6 (some 8), MR.t 7] (.ret false (.tup [.agg Cn.zero.cells, .int .i64 c.chk.2.2])) [])
        ⟨t,
          [(.own 6, .var [.imm true (.int .i8 0), .imm true (.int .i8 0), .nils, .imm true (.int .i8 0), .nils, .imm true (.int .i64 0), .imm true (.bool false), .nils]), (.own 46, .var [.imm f1 (.int .i64 (labN lab)), .imm f2 (.bool (labS lab))])], []⟩ := by
      intro f1 f2 t ht
      rcases ht with rfl | rfl
      · (try simp (implicitDefEqProofs := false) only [go_sem, ↓reduceIte, Nat.reduceEqDiff, reduceCtorEq, Nat.reduceAdd, Nat.reduceSub, Nat.reduceLeDiff, Nat.reduceLT, Nat.reduceMul, Int.reduceToNat, Int.reduceLT, Int.reduceLE])
        refine CallBK_do hd ?_
        unfold chV at hck
        generalize c.chk = e at hck he
        obtain ⟨k, ty, to, lab2, neg2, ks⟩ := c
        simp only [Cn.cells] at hck
        rw [zero_cells]
        simp only [Cn.cells]
        (try simp (implicitDefEqProofs := false) only [go_sem, ↓reduceIte, Nat.reduceEqDiff, reduceCtorEq, Nat.reduceAdd, Nat.reduceSub, Nat.reduceLeDiff, Nat.reduceLT, Nat.reduceMul, Int.reduceToNat, Int.reduceLT, Int.reduceLE])
        obtain ⟨e1, e2, e3⟩ := e
        simp only [Ty.cells_eq] at hck
        refine CallK_do hck ?_
        (try simp (implicitDefEqProofs := false) only [go_sem, ↓reduceIte, Nat.reduceEqDiff, reduceCtorEq, Nat.reduceAdd, Nat.reduceSub, Nat.reduceLeDiff, Nat.reduceLT, Nat.reduceMul, Int.reduceToNat, Int.reduceLT, Int.reduceLE, show (e3 != 0) = true from by simpa using he])
      · (try simp (implicitDefEqProofs := false) only [go_sem, ↓reduceIte, Nat.reduceEqDiff, reduceCtorEq, Nat.reduceAdd, Nat.reduceSub, Nat.reduceLeDiff, Nat.reduceLT, Nat.reduceMul, Int.reduceToNat, Int.reduceLT, Int.reduceLE])
        refine CallBK_do hd ?_
        unfold chV at hck
        generalize c.chk = e at hck he
        obtain ⟨k, ty, to, lab2, neg2, ks⟩ := c
        simp only [Cn.cells] at hck
        rw [zero_cells]
        simp only [Cn.cells]
        (try simp (implicitDefEqProofs := false) only [go_sem, ↓reduceIte, Nat.reduceEqDiff, reduceCtorEq, Nat.reduceAdd, Nat.reduceSub, Nat.reduceLeDiff, Nat.reduceLT, Nat.reduceMul, Int.reduceToNat, Int.reduceLT, Int.reduceLE])
        obtain ⟨e1, e2, e3⟩ := e
        simp only [Ty.cells_eq] at hck
        refine CallK_do hck ?_
        (try simp (implicitDefEqProofs := false) only [go_sem, ↓reduceIte, Nat.reduceEqDiff, reduceCtorEq, Nat.reduceAdd, Nat.reduceSub, Nat.reduceLeDiff, Nat.reduceLT, Nat.reduceMul, Int.reduceToNat, Int.reduceLT, Int.reduceLE, show (e3 != 0) = true from by simpa using he])
    by_cases hneg : lab < 0
    · have e1 : labN lab = 0 - lab := by unfold labN; rw [if_pos hneg]; omega
      have e2 : labS lab = true := by simp [labS, hneg]
      have := rest true true _ (.inl rfl)
      rw [e1, e2] at this
      (try simp (implicitDefEqProofs := false) only [go_sem, ↓reduceIte, Nat.reduceEqDiff, reduceCtorEq, Nat.reduceAdd, Nat.reduceSub, Nat.reduceLeDiff, Nat.reduceLT, Nat.reduceMul, Int.reduceToNat, Int.reduceLT, Int.reduceLE] at this)
      (try simp (implicitDefEqProofs := false) only [go_sem, ↓reduceIte, Nat.reduceEqDiff, reduceCtorEq, Nat.reduceAdd, Nat.reduceSub, Nat.reduceLeDiff, Nat.reduceLT, Nat.reduceMul, Int.reduceToNat, Int.reduceLT, Int.reduceLE, decide_eq_true hneg, wrap64 (n := 0 - lab) (by omega) (by omega)])
      exact this
    · have e1 : labN lab = lab := by unfold labN; rw [if_neg hneg]
      have e2 : labS lab = false := by simp [labS, hneg]
      have := rest false true _ (.inr rfl)
      rw [e1, e2] at this
      (try simp (implicitDefEqProofs := false) only [go_sem, ↓reduceIte, Nat.reduceEqDiff, reduceCtorEq, Nat.reduceAdd, Nat.reduceSub, Nat.reduceLeDiff, Nat.reduceLT, Nat.reduceMul, Int.reduceToNat, Int.reduceLT, Int.reduceLE] at this)
      (try simp (implicitDefEqProofs := false) only [go_sem, ↓reduceIte, Nat.reduceEqDiff, reduceCtorEq, Nat.reduceAdd, Nat.reduceSub, Nat.reduceLeDiff, Nat.reduceLT, Nat.reduceMul, Int.reduceToNat, Int.reduceLT, Int.reduceLE, decide_eq_false hneg])
      exact this
end Go.Proofs.Ytopgmopdjiahmaa.Lg
