/- Coercions: of two types that agree there is one. Conditions: none; plain definitions and lemmas. -/
import Derived.Test.YtopgmopdjiahmaaDoorNi
set_option linter.unusedVariables false
set_option linter.unusedSimpArgs false
set_option maxRecDepth 100000
set_option maxHeartbeats 1000000
namespace Go.Proofs.YtopgmopdjiahmaaDoor.Lg
open Go Go.RowKit Go.Proofs
/-! ### checked types -/
theorem check_iff {t : Ty} : t.check = 0 ↔ t.nodes ≤ 8192 ∧ t.high ≤ 200 ∧ t.right = true := by
  constructor
  · intro h
    exact ⟨(check_zero h).1, high_of_check h, (check_zero h).2.2⟩
  · rintro ⟨h1, h2, h3⟩
    have hp := Ty.high_pos t
    have hd : t.depth = t.high := by
      rw [Ty.depth, if_pos h1, Ty.deep_min t 201 (by omega), minI, if_pos (by omega)]
    rw [Ty.check, if_pos h1, hd, if_neg (by omega), if_pos h3]
mutual
theorem Ty.right_fits : ∀ t : Ty, t.right = true → t.fits
  | .mk k ts, h => by
    obtain ⟨h1, h2⟩ := Ty.right_kids h
    have := partsF_le k
    exact ⟨by omega, Ty.rightL_fits ts h2⟩
theorem Ty.rightL_fits : ∀ ts : List Ty, Ty.rightL ts = true → Ty.fitsL ts
  | [], _ => trivial
  | t :: r, h => by
    simp only [Ty.rightL, Bool.and_eq_true] at h
    exact ⟨Ty.right_fits t h.1, Ty.rightL_fits r h.2⟩
end
theorem check_pair {k : Int} {a b : Ty} (h : (Ty.mk k [a, b]).check = 0) : a.check = 0 ∧ b.check = 0 ∧ a.high + 1 ≤ (Ty.mk k [a, b]).high ∧ b.high + 1 ≤ (Ty.mk k [a, b]).high := by
  obtain ⟨h1, h2, h3⟩ := check_iff.1 h
  simp only [Ty.nodes, Ty.nodesL] at h1
  have ha := Ty.highL_mem (ts := [a, b]) 0 a (by simp)
  have hb := Ty.highL_mem (ts := [a, b]) 0 b (by simp)
  have hr := (Ty.right_kids h3).2
  simp only [Ty.rightL, Bool.and_eq_true] at hr
  simp only [Ty.high] at h2 ⊢
  exact ⟨check_iff.2 ⟨by omega, by omega, hr.1⟩, check_iff.2 ⟨by omega, by omega, hr.2.1⟩, by omega, by omega⟩
theorem un_check : Ty.un.check = 0 := check_iff.2 ⟨by simp [Ty.un, Ty.nodes, Ty.nodesL], by simp [Ty.un, Ty.high, Ty.highL], by simp [Ty.un, Ty.right, Ty.rightL, partsF]⟩
theorem ground_base {k : Int} (h : (Ty.mk k []).check = 0) (hk : k ≠ 0) : (Ty.mk k []).ground.1 = .mk k [] := by
  have hr := (Ty.right_kids (check_iff.1 h).2.2).1
  simp only [List.length_nil] at hr
  simp [Ty.ground, h, Ty.k, hk, hr]
theorem ground_pair {k : Int} {a b : Ty} (h : (Ty.mk k [a, b]).check = 0) (hk : k ≠ 0) : (Ty.mk k [a, b]).ground.1 = .mk k [.un, .un] := by
  have hr := (Ty.right_kids (check_iff.1 h).2.2).1
  have hr : partsF k = 2 := by simpa using hr
  simp [Ty.ground, h, Ty.k, hk, hr, List.replicate, Ty.un]

inductive OfR (lab : Int) : Bool → Ty → Ty → Cn → Prop
  | id (neg k us) : OfR lab neg (.mk k []) (.mk k us) (.mk 0 (.mk k []) .un 0 false [])
  | inn (neg k ts us c) (hk : k ≠ 0) (hc : (Ty.mk k ts).check = 0) (h : OfR lab neg (.mk k ts) (Ty.mk k ts).ground.1 c) : OfR lab neg (.mk k ts) (.mk 0 us) (part 7 c (.mk 2 (Ty.mk k ts).ground.1 .un 0 false []))
  | out (neg k ts us c) (hk : k ≠ 0) (hc : (Ty.mk k ts).check = 0) (h : OfR lab neg (Ty.mk k ts).ground.1 (.mk k ts) c) : OfR lab neg (.mk 0 us) (.mk k ts) (part 7 (.mk 3 (Ty.mk k ts).ground.1 .un lab neg []) c)
  | fn (neg f0 f1 t0 t1 c d) (h : OfR lab (!neg) t0 f0 c) (h' : OfR lab neg f1 t1 d) : OfR lab neg (.mk 3 [f0, f1]) (.mk 3 [t0, t1]) (part 4 c d)
  | two (neg k f0 f1 t0 t1 c d) (hk : k = 4 ∨ k = 5) (h : OfR lab neg f0 t0 c) (h' : OfR lab neg f1 t1 d) : OfR lab neg (.mk k [f0, f1]) (.mk k [t0, t1]) (part (k + 1) c d)

theorem OfR.does {lab : Int} {neg : Bool} {a b : Ty} {c : Cn} (h : OfR lab neg a b c) : OfD lab neg a b c := by
  induction h with
  | id neg k us => exact of_id lab neg k us
  | inn neg k ts us c hk hc h ih => exact of_in hk (Ty.right_fits _ (check_iff.1 hc).2.2) ih
  | out neg k ts us c hk hc h ih => exact of_out hk (Ty.right_fits _ (check_iff.1 hc).2.2) ih
  | fn neg f0 f1 t0 t1 c d h h' ih ih' => exact of_fun ih ih'
  | two neg k f0 f1 t0 t1 c d hk h h' ih ih' => exact of_two hk ih ih'

def Ty.rank (t : Ty) : Int := if t.k = 0 then 0 else t.high
theorem rank_le (t : Ty) : 0 ≤ t.rank ∧ t.rank ≤ t.high := by
  have := Ty.high_pos t
  unfold Ty.rank; split <;> omega
theorem Ty.levL_two {a b c d : Ty} : Ty.levL [a, b] [c, d] = (a.lev c && b.lev d) := by simp [Ty.levL]
theorem un_lev (a : Ty) : a.lev .un = true ∧ Ty.un.lev a = true := by cases a; simp [Ty.lev, Ty.un]
mutual
theorem Ty.lev_symm : ∀ a b : Ty, a.right = true → b.right = true → a.lev b = true → b.lev a = true
  | .mk k ts, .mk k' us, ha, hb, h => by
    simp only [Ty.lev] at h ⊢
    by_cases h0 : k = 0 ∨ k' = 0
    · rw [if_pos (Or.symm h0)]
    · rw [if_neg h0] at h
      rw [if_neg (fun hc => h0 (Or.symm hc))]
      by_cases h1 : k = k'
      · subst h1
        simp only [ne_eq, not_true_eq_false, if_false] at h ⊢
        have ra := Ty.right_kids ha
        have rb := Ty.right_kids hb
        exact Ty.levL_symm ts us ra.2 rb.2 (by have := ra.1; have := rb.1; omega) h
      · rw [if_pos h1] at h; cases h
theorem Ty.levL_symm : ∀ ts us : List Ty, Ty.rightL ts = true → Ty.rightL us = true → ts.length = us.length → Ty.levL ts us = true → Ty.levL us ts = true
  | [], [], _, _, _, _ => rfl
  | [], _ :: _, _, _, hl, _ => by simp at hl
  | _ :: _, [], _, _, hl, _ => by simp at hl
  | t :: r, u :: s, h1, h2, hl, h => by
    simp only [Ty.levL, Ty.rightL, Bool.and_eq_true] at *
    exact ⟨Ty.lev_symm t u h1.1 h2.1 h.1, Ty.levL_symm r s h1.2 h2.2 (by simpa using hl) h.2⟩
end

theorem un_right : Ty.un.right = true := (check_iff.1 un_check).2.2
theorem unun {k : Int} {a b : Ty} (h : (Ty.mk k [a, b]).check = 0) (hk : k ≠ 0) : (Ty.mk k [.un, .un]).check = 0 ∧ (Ty.mk k [.un, .un]).rank ≤ (Ty.mk k [a, b]).high ∧ (Ty.mk k [.un, .un]).lev (.mk k [a, b]) = true ∧ (Ty.mk k [a, b]).lev (.mk k [.un, .un]) = true := by
  have hr := (Ty.right_kids (check_iff.1 h).2.2).1
  have hr : partsF k = 2 := by simpa using hr
  have hp := Ty.high_pos a
  obtain ⟨_, _, h1, h2⟩ := check_pair h
  have e : (Ty.mk k [.un, .un]).high = 2 := by simp [Ty.high, Ty.highL, Ty.un, maxI]
  refine ⟨check_iff.2 ⟨by simp [Ty.nodes, Ty.nodesL, Ty.un], by omega, by rw [Ty.right, hr]; simp [Ty.rightL, un_right]⟩, ?_, ?_, ?_⟩
  · have := (rank_le (Ty.mk k [.un, .un])).2
    omega
  · simp [Ty.lev, hk, Ty.levL_two, (un_lev a).2, (un_lev b).2]
  · simp [Ty.lev, hk, Ty.levL_two, (un_lev a).1, (un_lev b).1]
theorem of_exists (lab : Int) : ∀ (N : Nat) (neg : Bool) (a b : Ty), a.check = 0 → b.check = 0 → a.lev b = true →
    2 * maxI a.rank b.rank + (if a.k = 0 ∨ b.k = 0 then 1 else 0) ≤ (N : Int) → ∃ c, OfR lab neg a b c := by
  intro N
  induction N using Nat.strongRecOn with
  | _ N ih =>
    intro neg a b ha hb hl hN
    obtain ⟨k, ts⟩ := a
    obtain ⟨k', us⟩ := b
    have sa := right_shape (check_iff.1 ha).2.2
    have sb := right_shape (check_iff.1 hb).2.2
    have ra := rank_le (.mk k ts)
    have rb := rank_le (.mk k' us)
    by_cases hk : k = k'
    · subst hk
      rcases sa with ⟨rfl, _⟩ | ⟨a0, a1, rfl, hka, _⟩
      · exact ⟨_, .id neg k us⟩
      · rcases sb with ⟨rfl, hkb⟩ | ⟨b0, b1, rfl, hkb, _⟩
        · omega
        have h0 : k ≠ 0 := by omega
        have hl2 : Ty.levL [a0, a1] [b0, b1] = true := by simpa [Ty.lev, h0] using hl
        rw [Ty.levL_two, Bool.and_eq_true] at hl2
        obtain ⟨ca0, ca1, ha0, ha1⟩ := check_pair ha
        obtain ⟨cb0, cb1, hb0, hb1⟩ := check_pair hb
        have e1 : (Ty.mk k [a0, a1]).rank = (Ty.mk k [a0, a1]).high := by simp [Ty.rank, Ty.k, h0]
        have e2 : (Ty.mk k [b0, b1]).rank = (Ty.mk k [b0, b1]).high := by simp [Ty.rank, Ty.k, h0]
        have hm := le_maxI (a := (Ty.mk k [a0, a1]).rank) (b := (Ty.mk k [b0, b1]).rank)
        have q0 := rank_le a0
        have q1 := rank_le a1
        have p0 := rank_le b0
        have p1 := rank_le b1
        have hN' : 2 * maxI (Ty.mk k [a0, a1]).rank (Ty.mk k [b0, b1]).rank ≤ (N : Int) := by split at hN <;> omega
        have hN1 : 1 ≤ N := by omega
        have step : ∀ (neg : Bool) (x y : Ty), x.check = 0 → y.check = 0 → x.lev y = true → x.rank + 1 ≤ maxI (Ty.mk k [a0, a1]).rank (Ty.mk k [b0, b1]).rank → y.rank + 1 ≤ maxI (Ty.mk k [a0, a1]).rank (Ty.mk k [b0, b1]).rank → ∃ c, OfR lab neg x y c := by
          intro neg x y cx cy hxy h1 h2
          have h3 : maxI x.rank y.rank + 1 ≤ maxI (Ty.mk k [a0, a1]).rank (Ty.mk k [b0, b1]).rank := by unfold maxI at *; split <;> omega
          exact ih (N - 1) (by omega) neg x y cx cy hxy (by split <;> omega)
        rcases hka with rfl | hka
        · obtain ⟨c, hc⟩ := step (!neg) b0 a0 cb0 ca0 (Ty.lev_symm _ _ (check_iff.1 ca0).2.2 (check_iff.1 cb0).2.2 hl2.1) (by omega) (by omega)
          obtain ⟨d, hd⟩ := step neg a1 b1 ca1 cb1 hl2.2 (by omega) (by omega)
          exact ⟨_, .fn neg a0 a1 b0 b1 c d hc hd⟩
        · obtain ⟨c, hc⟩ := step neg a0 b0 ca0 cb0 hl2.1 (by omega) (by omega)
          obtain ⟨d, hd⟩ := step neg a1 b1 ca1 cb1 hl2.2 (by omega) (by omega)
          exact ⟨_, .two neg k a0 a1 b0 b1 c d hka hc hd⟩
    · -- one of the two is unknown
      have h0 : k = 0 ∨ k' = 0 := by
        apply Decidable.byContradiction
        intro hc
        simp [Ty.lev, hc, hk] at hl
      rcases h0 with rfl | rfl
      · have hk' : k' ≠ 0 := fun h => hk h.symm
        have e2 : (Ty.mk k' us).rank = (Ty.mk k' us).high := by simp [Ty.rank, Ty.k, hk']
        have e1 : (Ty.mk 0 ts).rank = 0 := by simp [Ty.rank, Ty.k]
        have hg : ∃ c, OfR lab neg (Ty.mk k' us).ground.1 (.mk k' us) c := by
          rcases sb with ⟨rfl, _⟩ | ⟨b0, b1, rfl, _, _⟩
          · rw [ground_base hb hk']; exact ⟨_, .id neg k' []⟩
          · rw [ground_pair hb hk']
            obtain ⟨g1, g2, g3, g4⟩ := unun hb hk'
            have hm := le_maxI (a := (Ty.mk 0 ts).rank) (b := (Ty.mk k' [b0, b1]).rank)
            have hN' : 2 * maxI (Ty.mk 0 ts).rank (Ty.mk k' [b0, b1]).rank + 1 ≤ (N : Int) := by simpa [Ty.k] using hN
            have hmm : maxI (Ty.mk k' [.un, .un]).rank (Ty.mk k' [b0, b1]).rank ≤ maxI (Ty.mk 0 ts).rank (Ty.mk k' [b0, b1]).rank := by rw [e2] at hm ⊢; exact maxI_le (by omega) (by omega)
            exact ih (N - 1) (by have := hm.2; omega) neg _ _ g1 hb g3 (by simp only [Ty.k, hk', or_self, if_false]; have := hm.2; omega)
        obtain ⟨c, hc⟩ := hg
        exact ⟨_, .out neg k' us ts c hk' hb hc⟩
      · have e1 : (Ty.mk k ts).rank = (Ty.mk k ts).high := by simp [Ty.rank, Ty.k, hk]
        have hg : ∃ c, OfR lab neg (.mk k ts) (Ty.mk k ts).ground.1 c := by
          rcases sa with ⟨rfl, _⟩ | ⟨b0, b1, rfl, _, _⟩
          · rw [ground_base ha hk]; exact ⟨_, .id neg k []⟩
          · rw [ground_pair ha hk]
            obtain ⟨g1, g2, g3, g4⟩ := unun ha hk
            have hm := le_maxI (a := (Ty.mk k [b0, b1]).rank) (b := (Ty.mk 0 us).rank)
            have hN' : 2 * maxI (Ty.mk k [b0, b1]).rank (Ty.mk 0 us).rank + 1 ≤ (N : Int) := by simpa [Ty.k] using hN
            have hmm : maxI (Ty.mk k [b0, b1]).rank (Ty.mk k [.un, .un]).rank ≤ maxI (Ty.mk k [b0, b1]).rank (Ty.mk 0 us).rank := by rw [e1] at hm ⊢; exact maxI_le (by omega) (by omega)
            exact ih (N - 1) (by have := hm.1; omega) neg _ _ ha g1 g4 (by simp only [Ty.k, hk, or_self, if_false]; have := hm.1; omega)
        obtain ⟨c, hc⟩ := hg
        exact ⟨_, .inn neg k ts us c hk ha hc⟩
end Go.Proofs.YtopgmopdjiahmaaDoor.Lg
