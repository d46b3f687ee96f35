/- Coercions of casts: heights, sides, sameness; plain law. Conditions: none; plain lemmas. -/
import Derived.Test.YtopgmopdjiahmaaNo
set_option linter.unusedVariables false
set_option linter.unusedSimpArgs false
set_option maxRecDepth 100000
namespace Go.Proofs.Ytopgmopdjiahmaa.Lg
open Go Go.RowKit Go.Proofs

theorem Cn.same_refl : ∀ c : Cn, c.ends.2.2 = true → c.same c = true := by
  refine Cn.ind fun k ty to lab neg ks ih he => ?_
  rcases ends_shape he with ⟨rfl, hk, hc⟩ | ⟨a, b, rfl, hk, ha, hb⟩
  · have h1 := Ty.same_refl hc
    have h2 : k = 1 → to.same to = true := by
      rintro rfl
      refine Ty.same_refl ?_
      simp only [Cn.ends, leafF, leafE] at he
      simpa [hc] using (by simpa [hc, Bool.and_eq_true] using he : _ ∧ to.check = 0).2
    by_cases k1 : k = 1
    · simp [Cn.same, headSame, h1, h2 k1, Cn.sameL]
    · simp [Cn.same, headSame, h1, k1, Cn.sameL]
  · have h1 := ih a (by simp) ha
    have h2 := ih b (by simp) hb
    have hlk : leafF k = false := by rcases hk with rfl | rfl | rfl | rfl <;> rfl
    have k1 : k ≠ 1 := by omega
    simp [Cn.same, headSame, hlk, k1, Cn.sameL, h1, h2]

theorem ground_high {k : Int} {ts : List Ty} (h : (Ty.mk k ts).check = 0) (hk : k ≠ 0) : (Ty.mk k ts).ground.1.high ≤ (Ty.mk k ts).high := by
  rcases right_shape (check_iff.1 h).2.2 with ⟨rfl, _⟩ | ⟨a, b, rfl, _, _, _⟩
  · rw [ground_base h hk]; omega
  · rw [ground_pair h hk]
    have := (unun h hk).2.1
    have e : (Ty.mk k [.un, .un]).rank = (Ty.mk k [.un, .un]).high := by simp [Ty.rank, Ty.k, hk]
    omega
theorem OfR.height {lab : Int} {neg : Bool} {a b : Ty} {c : Cn} (h : OfR lab neg a b c) : a.check = 0 → b.check = 0 → c.height ≤ maxI a.high b.high := by
  induction h with
  | id neg k us =>
    intro ha hb
    have := Ty.high_pos (.mk k [])
    have := (le_maxI (a := (Ty.mk k []).high) (b := (Ty.mk k us).high)).1
    simp [Cn.height]; omega
  | inn neg k ts us c hk hc h ih =>
    intro ha hb
    have e := ih ha (ground_of hc hk).1
    have g := ground_high hc hk
    have m := (le_maxI (a := (Ty.mk k ts).high) (b := (Ty.mk 0 us).high)).1
    have e2 : maxI (Ty.mk k ts).high (Ty.mk k ts).ground.1.high ≤ (Ty.mk k ts).high := maxI_le (by omega) g
    simp only [part, Cn.height, Cn.heightL]
    simp
    exact maxI_le (by omega) (by omega)
  | out neg k ts us c hk hc h ih =>
    intro ha hb
    have e := ih (ground_of hc hk).1 hb
    have g := ground_high hc hk
    have m := (le_maxI (a := (Ty.mk 0 us).high) (b := (Ty.mk k ts).high)).2
    have e2 : maxI (Ty.mk k ts).ground.1.high (Ty.mk k ts).high ≤ (Ty.mk k ts).high := maxI_le g (by omega)
    simp only [part, Cn.height, Cn.heightL]
    simp
    exact maxI_le (by omega) (by omega)
  | fn neg f0 f1 t0 t1 c d h h' ih ih' =>
    intro ha hb
    obtain ⟨a0, a1, a2, a3⟩ := check_pair ha
    obtain ⟨b0, b1, b2, b3⟩ := check_pair hb
    have e := ih b0 a0
    have e' := ih' a1 b1
    have m := le_maxI (a := (Ty.mk 3 [f0, f1]).high) (b := (Ty.mk 3 [t0, t1]).high)
    have e1 : c.height ≤ maxI (Ty.mk 3 [f0, f1]).high (Ty.mk 3 [t0, t1]).high - 1 := Int.le_trans e (maxI_le (by omega) (by omega))
    have e2 : d.height ≤ maxI (Ty.mk 3 [f0, f1]).high (Ty.mk 3 [t0, t1]).high - 1 := Int.le_trans e' (maxI_le (by omega) (by omega))
    have e3 := maxI_le e1 e2
    simp only [part, Cn.height, Cn.heightL]
    simp
    omega
  | two neg k f0 f1 t0 t1 c d hk h h' ih ih' =>
    intro ha hb
    obtain ⟨a0, a1, a2, a3⟩ := check_pair ha
    obtain ⟨b0, b1, b2, b3⟩ := check_pair hb
    have e := ih a0 b0
    have e' := ih' a1 b1
    have m := le_maxI (a := (Ty.mk k [f0, f1]).high) (b := (Ty.mk k [t0, t1]).high)
    have e1 : c.height ≤ maxI (Ty.mk k [f0, f1]).high (Ty.mk k [t0, t1]).high - 1 := Int.le_trans e (maxI_le (by omega) (by omega))
    have e2 : d.height ≤ maxI (Ty.mk k [f0, f1]).high (Ty.mk k [t0, t1]).high - 1 := Int.le_trans e' (maxI_le (by omega) (by omega))
    have e3 := maxI_le e1 e2
    rcases hk with rfl | rfl
    · simp only [part, Cn.height, Cn.heightL]
      simp
      omega
    · simp only [part, Cn.height, Cn.heightL]
      simp
      omega

theorem OfR.sides {lab : Int} {neg : Bool} {a b : Ty} {c : Cn} (h : OfR lab neg a b c) : OfR lab (!neg) a b c.sides := by
  induction h with
  | id neg k us => simpa [Cn.sides, Cn.sidesL] using OfR.id (lab := lab) (!neg) k us
  | inn neg k ts us c hk hc h ih => simpa [part, Cn.sides, Cn.sidesL] using OfR.inn (!neg) k ts us _ hk hc ih
  | out neg k ts us c hk hc h ih => simpa [part, Cn.sides, Cn.sidesL] using OfR.out (!neg) k ts us _ hk hc ih
  | fn neg f0 f1 t0 t1 c d h h' ih ih' => simpa [part, Cn.sides, Cn.sidesL] using OfR.fn (!neg) f0 f1 t0 t1 _ _ ih ih'
  | two neg k f0 f1 t0 t1 c d hk h h' ih ih' =>
    rcases hk with rfl | rfl
    · simpa [part, Cn.sides, Cn.sidesL] using OfR.two (!neg) 4 f0 f1 t0 t1 _ _ (.inl rfl) ih ih'
    · simpa [part, Cn.sides, Cn.sidesL] using OfR.two (!neg) 5 f0 f1 t0 t1 _ _ (.inr rfl) ih ih'

theorem OfR.straight {lab : Int} {neg : Bool} {a b : Ty} {c : Cn} (h : OfR lab neg a b c) : a = b → c.straight = true := by
  induction h with
  | id neg k us => intro _; simp [Cn.straight, Cn.straightL, crossK]
  | inn neg k ts us c hk hc h ih => intro e; simp only [Ty.mk.injEq] at e; exact absurd e.1 hk
  | out neg k ts us c hk hc h ih => intro e; simp only [Ty.mk.injEq] at e; exact absurd e.1.symm hk
  | fn neg f0 f1 t0 t1 c d h h' ih ih' =>
    intro e
    simp only [Ty.mk.injEq, List.cons.injEq, and_true, true_and] at e
    simp [part, Cn.straight, Cn.straightL, crossK, ih e.1.symm, ih' e.2]
  | two neg k f0 f1 t0 t1 c d hk h h' ih ih' =>
    intro e
    simp only [Ty.mk.injEq, List.cons.injEq, and_true, true_and] at e
    rcases hk with rfl | rfl <;> simp [part, Cn.straight, Cn.straightL, crossK, ih e.1, ih' e.2]
end Go.Proofs.Ytopgmopdjiahmaa.Lg
