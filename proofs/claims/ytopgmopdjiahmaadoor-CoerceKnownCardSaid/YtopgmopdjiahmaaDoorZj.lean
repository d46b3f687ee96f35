/- coerce.words of the coercions that CoerceKnown tells. Conditions: none; plain lemmas. -/
import Derived.Test.YtopgmopdjiahmaaDoorZi
set_option linter.unusedVariables false
set_option linter.unusedSimpArgs false
set_option maxRecDepth 100000
namespace Go.Proofs.YtopgmopdjiahmaaDoor.Lg
open Go Go.RowKit Go.Proofs Go.Proofs.YtopgmopdjiahmaaDoor
def cxOf (W : World) : Cx := { w := W, N := fun b => b < W.heap.size, na := 0, m := fun _ => 0, hN := fun _ h => h, hm := fun i hi => absurd hi (Nat.not_lt_zero i) }
theorem inv0 (W : World) : Inv (cxOf W) ⟨[], argS 0 [], []⟩ (fun _ => Option.none) ⟨#[], []⟩ W := Inv.bare rfl rfl rfl rfl rfl (Nat.le_refl _) (fun _ _ => rfl) ⟨Nat.zero_le _, fun b h => h.elim⟩
theorem repN {W : World} {v : IV} {x : Value} {N : Nat → Prop} (h : RepI W N v x) (hN : ∀ b, N b → b < W.heap.size) : RR (cxOf W) (argS 0 []) [] (fun _ => Option.none) W (.imm false v) x :=
  .imm v x (h.mono (fun b hb => ⟨.inl (hN b hb), hN b hb, fun k c hk => by simp [argS, getB] at hk⟩) fun b hb o u hc => hc)
theorem calls_rep {f : FuncId} {ivs : List IV} {fr : Bool} {v : IV} {vals : List Value} {W : World} (h : Does Tryd.prog f (ivs.map (.imm false)) [] (.ret fr v) [])
    (hR : Rows2 (RR (cxOf W) (argS 0 []) [] (fun _ => Option.none) W) (ivs.map (.imm false)) vals) :
    Calls Tryd.prog f vals.toArray W fun e W' => Below W.heap.size W W' ∧ ∃ x N, e = .returned x ∧ RepI W' N v x := by
  refine (h.2.2 (cxOf W) _ vals rfl (inv0 W) hR).mono fun e W' ⟨hI, he⟩ => ⟨⟨hI.os, hI.tape, hI.output, hI.size, fun k hk => hI.frame k hk fun i hi => absurd hi (Nat.not_lt_zero i)⟩, ?_⟩
  obtain ⟨x, rfl, hx⟩ := he
  cases fr with
  | false => cases hx with | imm _ _ h => exact ⟨x, _, rfl, h⟩
  | true => cases hx with | fresh _ _ h => exact ⟨x, _, rfl, h⟩
theorem chk_leaf (k : Int) (hk : k = 1 ∨ k = 2) (A : Option Addr) (cap : Nat) : ChkOk k A cap := by
  intro w1
  have hchk : (Ty.mk k []).check = 0 := by rcases hk with rfl | rfl <;> rfl
  have h := check_does (.mk k []) ⟨by simp, trivial⟩
  rw [hchk] at h
  have hrep : RepI w1 (fun b => b < w1.heap.size) (.agg (Ty.mk k []).cells) (.agg #[.int .i8 k, .slice A 0 cap]) := by
    have := RepI.agg (w := w1) (N := fun b => b < w1.heap.size) (Ty.mk k []).cells [.int .i8 k, .slice A 0 cap] (by simp [Ty.cells]) (fun v hv => by
      simp only [List.mem_cons, List.not_mem_nil, or_false] at hv
      rcases hv with rfl | rfl <;> rfl) (fun j h h' => by
      simp only [Ty.cells, Ty.cellsL] at h ⊢
      match j, h with
      | 0, _ => exact .int .i8 k
      | 1, _ => exact .slice0 A cap)
    exact this
  refine (calls_rep (ivs := [.agg (Ty.mk k []).cells]) (vals := [.agg #[.int .i8 k, .slice A 0 cap]]) h (Rows2.cons (repN hrep fun b hb => hb) Rows2.nil)).mono fun e w2 he => ?_
  obtain ⟨hb, x, N, rfl, hx⟩ := he
  cases hx
  exact ⟨hb, rfl⟩
theorem doesA_id (k : Int) (hk : k = 1 ∨ k = 2) (B : Nat) (hB : B ≤ 900) : DoesA Tryd.prog 9 14 [.ptr (Cn.mk 0 (.mk k []) .un 0 false []).cells 0] [⟨#[105, 100]⟩, ⟨#[123]⟩, leafText k, ⟨#[125]⟩] B := by
  refine doesA_node _ _ _ _ _ _ _ _ fun w va vc ss b o N hrow hss hvb hN hx h0 h1 h2 h5 h6 => ?_
  obtain ⟨A, c, h2⟩ := h2 rfl
  exact words_id w va vc _ b o k hk A c 0 (by omega) h0 h1 h2 h5 h6 hrow hvb (by rw [List.length_map]; omega) (chk_leaf k hk A c)
theorem doesA_in (k : Int) (hk : k = 1 ∨ k = 2) (B : Nat) (hB : B ≤ 900) : DoesA Tryd.prog 9 14 [.ptr (Cn.mk 2 (.mk k []) .un 0 false []).cells 0] [⟨#[123]⟩, leafText k, ⟨#[125]⟩, ⟨#[33]⟩] B := by
  refine doesA_node _ _ _ _ _ _ _ _ fun w va vc ss b o N hrow hss hvb hN hx h0 h1 h2 h5 h6 => ?_
  obtain ⟨A, c, h2⟩ := h2 rfl
  exact words_in w va vc _ b o k hk A c 0 (by omega) h0 h1 h2 h5 h6 hrow hvb (by rw [List.length_map]; omega) (chk_leaf k hk A c)
theorem doesA_out (k : Int) (hk : k = 1 ∨ k = 2) (B : Nat) (hB : B ≤ 900) : DoesA Tryd.prog 9 14 [.ptr (Cn.mk 3 (.mk k []) .un 2 false []).cells 0] [⟨#[123]⟩, leafText k, ⟨#[125]⟩, ⟨#[63]⟩, ⟨#[50]⟩] B := by
  refine doesA_node _ _ _ _ _ _ _ _ fun w va vc ss b o N hrow hss hvb hN hx h0 h1 h2 h5 h6 => ?_
  obtain ⟨A, c, h2⟩ := h2 rfl
  exact words_out w va vc _ b o k hk A c h0 h1 h2 h5 h6 hrow hvb (by rw [List.length_map]; omega) (chk_leaf k hk A c)
theorem doesA_outn (k : Int) (hk : k = 1 ∨ k = 2) (B : Nat) (hB : B ≤ 900) : DoesA Tryd.prog 9 14 [.ptr (Cn.mk 3 (.mk k []) .un 2 true []).cells 0] [⟨#[123]⟩, leafText k, ⟨#[125]⟩, ⟨#[63]⟩, ⟨#[45, 50]⟩] B := by
  refine doesA_node _ _ _ _ _ _ _ _ fun w va vc ss b o N hrow hss hvb hN hx h0 h1 h2 h5 h6 => ?_
  obtain ⟨A, c, h2⟩ := h2 rfl
  exact words_outn w va vc _ b o k hk A c h0 h1 h2 h5 h6 hrow hvb (by rw [List.length_map]; omega) (chk_leaf k hk A c)
def idC (k : Int) : Cn := .mk 0 (.mk k []) .un 0 false []
def inC (k : Int) : Cn := .mk 2 (.mk k []) .un 0 false []
def outC (k : Int) (neg : Bool) : Cn := .mk 3 (.mk k []) .un 2 neg []
/-- the coercions c and d of CoerceKnown -/
def kC : Cn := part 7 (idC 1) (inC 1)
def kD : Cn := part 4 (part 7 (outC 1 true) (idC 1)) (part 7 (outC 2 false) (idC 2))
def kCw : List ByteArray := [⟨#[105, 100]⟩, ⟨#[123]⟩, leafText 1, ⟨#[125]⟩] ++ [⟨#[59]⟩] ++ [⟨#[123]⟩, leafText 1, ⟨#[125]⟩, ⟨#[33]⟩]
def kDw : List ByteArray := [⟨#[40]⟩] ++ ([⟨#[123]⟩, leafText 1, ⟨#[125]⟩, ⟨#[63]⟩, ⟨#[45, 50]⟩] ++ [⟨#[59]⟩] ++ [⟨#[105, 100]⟩, ⟨#[123]⟩, leafText 1, ⟨#[125]⟩]) ++ [⟨#[45, 62]⟩] ++
  ([⟨#[123]⟩, leafText 2, ⟨#[125]⟩, ⟨#[63]⟩, ⟨#[50]⟩] ++ [⟨#[59]⟩] ++ [⟨#[105, 100]⟩, ⟨#[123]⟩, leafText 2, ⟨#[125]⟩]) ++ [⟨#[41]⟩]
theorem doesA_kC : DoesA Tryd.prog 9 14 [.ptr kC.cells 0] kCw 700 :=
  doesA_seq (idC 1) (inC 1) (doesA_id 1 (.inl rfl) 800 (by omega)) (doesA_in 1 (.inl rfl) 800 (by omega)) (by simp)
theorem doesA_kD : DoesA Tryd.prog 9 14 [.ptr kD.cells 0] kDw 600 :=
  doesA_fun _ _ (doesA_seq _ _ (doesA_outn 1 (.inl rfl) 800 (by omega)) (doesA_id 1 (.inl rfl) 800 (by omega)) (by simp))
    (doesA_seq _ _ (doesA_out 2 (.inr rfl) 800 (by omega)) (doesA_id 2 (.inr rfl) 800 (by omega)) (by simp)) (by simp) (by simp)
end Go.Proofs.YtopgmopdjiahmaaDoor.Lg
