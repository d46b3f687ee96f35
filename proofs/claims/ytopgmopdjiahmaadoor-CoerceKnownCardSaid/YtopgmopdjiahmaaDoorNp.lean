/- Coercions of casts: heights, sides, sameness; plain law. Conditions: none; plain lemmas. -/
import Derived.Test.YtopgmopdjiahmaaDoorNo
set_option linter.unusedVariables false
set_option linter.unusedSimpArgs false
set_option maxRecDepth 100000
namespace Go.Proofs.YtopgmopdjiahmaaDoor.Lg
open Go Go.RowKit Go.Proofs
theorem ground_high {k : Int} {ts : List Ty} (h : (Ty.mk k ts).check = 0) (hk : k ≠ 0) : (Ty.mk k ts).ground.1.high ≤ (Ty.mk k ts).high := by
  rcases right_shape (check_iff.1 h).2.2 with ⟨rfl, _⟩ | ⟨a, b, rfl, _, _, _⟩
  · rw [ground_base h hk]; omega
  · rw [ground_pair h hk]
    have := (unun h hk).2.1
    have e : (Ty.mk k [.un, .un]).rank = (Ty.mk k [.un, .un]).high := by simp [Ty.rank, Ty.k, hk]
    omega
theorem OfR.height {lab : Int} {neg : Bool} {a b : Ty} {c : Cn} (h : OfR lab neg a b c) : a.check = 0 → b.check = 0 → c.height ≤ maxI a.high b.high := by
  induction h with
  | id neg k us =>
    intro ha hb
    have := Ty.high_pos (.mk k [])
    have := (le_maxI (a := (Ty.mk k []).high) (b := (Ty.mk k us).high)).1
    simp [Cn.height]; omega
  | inn neg k ts us c hk hc h ih =>
    intro ha hb
    have e := ih ha (ground_of hc hk).1
    have g := ground_high hc hk
    have m := (le_maxI (a := (Ty.mk k ts).high) (b := (Ty.mk 0 us).high)).1
    have e2 : maxI (Ty.mk k ts).high (Ty.mk k ts).ground.1.high ≤ (Ty.mk k ts).high := maxI_le (by omega) g
    simp only [part, Cn.height, Cn.heightL]
    simp
    exact maxI_le (by omega) (by omega)
  | out neg k ts us c hk hc h ih =>
    intro ha hb
    have e := ih (ground_of hc hk).1 hb
    have g := ground_high hc hk
    have m := (le_maxI (a := (Ty.mk 0 us).high) (b := (Ty.mk k ts).high)).2
    have e2 : maxI (Ty.mk k ts).ground.1.high (Ty.mk k ts).high ≤ (Ty.mk k ts).high := maxI_le g (by omega)
    simp only [part, Cn.height, Cn.heightL]
    simp
    exact maxI_le (by omega) (by omega)
  | fn neg f0 f1 t0 t1 c d h h' ih ih' =>
    intro ha hb
    obtain ⟨a0, a1, a2, a3⟩ := check_pair ha
    obtain ⟨b0, b1, b2, b3⟩ := check_pair hb
    have e := ih b0 a0
    have e' := ih' a1 b1
    have m := le_maxI (a := (Ty.mk 3 [f0, f1]).high) (b := (Ty.mk 3 [t0, t1]).high)
    have e1 : c.height ≤ maxI (Ty.mk 3 [f0, f1]).high (Ty.mk 3 [t0, t1]).high - 1 := Int.le_trans e (maxI_le (by omega) (by omega))
    have e2 : d.height ≤ maxI (Ty.mk 3 [f0, f1]).high (Ty.mk 3 [t0, t1]).high - 1 := Int.le_trans e' (maxI_le (by omega) (by omega))
    have e3 := maxI_le e1 e2
    simp only [part, Cn.height, Cn.heightL]
    simp
    omega
  | two neg k f0 f1 t0 t1 c d hk h h' ih ih' =>
    intro ha hb
    obtain ⟨a0, a1, a2, a3⟩ := check_pair ha
    obtain ⟨b0, b1, b2, b3⟩ := check_pair hb
    have e := ih a0 b0
    have e' := ih' a1 b1
    have m := le_maxI (a := (Ty.mk k [f0, f1]).high) (b := (Ty.mk k [t0, t1]).high)
    have e1 : c.height ≤ maxI (Ty.mk k [f0, f1]).high (Ty.mk k [t0, t1]).high - 1 := Int.le_trans e (maxI_le (by omega) (by omega))
    have e2 : d.height ≤ maxI (Ty.mk k [f0, f1]).high (Ty.mk k [t0, t1]).high - 1 := Int.le_trans e' (maxI_le (by omega) (by omega))
    have e3 := maxI_le e1 e2
    rcases hk with rfl | rfl
    · simp only [part, Cn.height, Cn.heightL]
      simp
      omega
    · simp only [part, Cn.height, Cn.heightL]
      simp
      omega
end Go.Proofs.YtopgmopdjiahmaaDoor.Lg
