/- Texts of one proof, joined by program (gen/tells.py): Yg Yh Yi. Conditions: none; plain definitions and lemmas. -/
import Derived.Test.YtopgmopdjiahmaaH18
import Derived.Test.YtopgmopdjiahmaaH19
import Derived.Test.YtopgmopdjiahmaaH14
import Derived.Test.YtopgmopdjiahmaaH13
/- What is told of a tree in memory, turned to what writing over it asks. Conditions: none; plain lemmas. -/
set_option linter.unusedVariables false
set_option linter.unusedSimpArgs false
set_option maxRecDepth 100000
namespace Go.Proofs.Ytopgmopdjiahmaa
open Go Go.RowKit Go.Proofs Go.Proofs.Ytopgmopdjiahmaa.Lg

def Lg.Cn.sub : Cn → List Cn
  | .mk _ _ _ _ _ ks => ks
def Lg.Cn.t1 : Cn → Ty
  | .mk _ ty _ _ _ _ => ty
def Lg.Cn.t2 : Cn → Ty
  | .mk _ _ to _ _ _ => to
def Lg.Cn.lb : Cn → Int
  | .mk _ _ _ lab _ _ => lab
def Lg.Cn.ng : Cn → Bool
  | .mk _ _ _ _ neg _ => neg
def Lg.Cn.kn : Cn → Int
  | .mk k _ _ _ _ _ => k
theorem Lg.Cn.cells_sub (c : Cn) : c.cells = [.int .i8 c.kn, .int .i8 c.t1.k, .slice (Ty.cellsL c.t1.ts), .int .i8 c.t2.k, .slice (Ty.cellsL c.t2.ts), .int .i64 c.lb, .bool c.ng, .slice (Cn.cellsL c.sub)] := by
  cases c; simp only [Cn.cells, Cn.kn, Cn.t1, Cn.t2, Cn.lb, Cn.ng, Cn.sub]
theorem upto {α : Type} {P : Nat → α → Prop} (hm : ∀ d d' a, d ≤ d' → P d a → P d' a) : ∀ l : List α, (∀ a ∈ l, ∃ d, P d a) → ∃ D, ∀ a ∈ l, P D a
  | [], _ => ⟨0, fun a ha => by simp at ha⟩
  | a :: l, h => by
    obtain ⟨d, hd⟩ := h a (by simp)
    obtain ⟨D, hD⟩ := upto hm l fun b hb => h b (by simp [hb])
    refine ⟨max d D, fun b hb => ?_⟩
    rcases List.mem_cons.1 hb with rfl | hb
    · exact hm d _ _ (Nat.le_max_left _ _) hd
    · exact hm D _ _ (Nat.le_max_right _ _) (hD b hb)
section
variable {w : World} {lo hi : Nat} {N : Nat → Prop} (hN : ∀ b, N b → lo ≤ b ∧ b < hi ∧ ∀ o, w.frozen? ⟨b, o, none⟩ = false)
include hN
theorem t2_of : ∀ t : Ty, ∃ D, ∀ V, RepI w N (.slice (Ty.cellsL t.ts)) V → T2 w lo hi D V := by
  refine Ty.ind fun k ts ih => ?_
  obtain ⟨D, hD⟩ := upto (P := fun D (t : Ty) => ∀ V, RepI w N (.slice (Ty.cellsL t.ts)) V → T2 w lo hi D V) (fun d d' a hd h V hV => (h V hV).le hd) ts ih
  refine ⟨D + 1, fun V hV => ?_⟩
  simp only [Ty.ts] at hV
  generalize hg : Ty.cellsL ts = L at hV
  cases hV with
  | slice0 A c => exact .inl ⟨A, c, rfl⟩
  | slice elems b o sz c vs hNb hsz hm hcap hc h1 hr =>
    subst hg
    obtain ⟨n1, n2, n3⟩ := hN b hNb
    have hl := Ty.cellsL_len ts
    refine .inr ⟨b, o, _, c, rfl, hm, n1, n2, fun i hi => ?_⟩
    have hi' : i < ts.length := by omega
    have hat := Ty.cellsL_at ts i hi'
    have he : (Ty.cellsL ts)[i] = ts[i].cells := (List.getElem?_eq_some_iff.1 hat).2
    have hlen : ((Ty.cellsL ts)[i]).length = 2 := by rw [he, Ty.cells_eq]; rfl
    have hs2 : sz = 2 := by rw [← hsz i hi]; exact hlen
    subst hs2
    have r0 := hr i hi 0 (by omega)
    have r1 := hr i hi 1 (by omega)
    have hc0 := hc (i * 2) (by omega)
    have hc1 := hc (i * 2 + 1) (by omega)
    simp only [he, Ty.cells_eq, List.getElem_cons_zero, List.getElem_cons_succ, Nat.add_zero] at r0 r1
    generalize vs (i * 2) = u0 at r0 hc0
    generalize vs (i * 2 + 1) = u1 at r1 hc1
    cases r0
    exact ⟨_, u1, hc0, hc1, n3 _, n3 _, hD _ (List.getElem_mem hi') u1 r1⟩
omit hN in
theorem T8.le' {d d' : Nat} {V : Value} (hd : d ≤ d') (h : T8 w lo hi d V) : T8 w lo hi d' V := h.le hd
theorem t8_of : ∀ c : Cn, ∃ D, ∀ V, RepI w N (.slice (Cn.cellsL c.sub)) V → T8 w lo hi D V := by
  refine Cn.ind fun k ty to lab neg ks ih => ?_
  obtain ⟨D7, hD7⟩ := upto (P := fun D (c : Cn) => ∀ V, RepI w N (.slice (Cn.cellsL c.sub)) V → T8 w lo hi D V) (fun d d' a hd h V hV => (h V hV).le hd) ks ih
  obtain ⟨D2, hD2⟩ := upto (P := fun D (c : Cn) => ∀ V, RepI w N (.slice (Ty.cellsL c.t1.ts)) V → T2 w lo hi D V) (fun d d' a hd h V hV => (h V hV).le hd) ks fun c _ => t2_of hN c.t1
  obtain ⟨D4, hD4⟩ := upto (P := fun D (c : Cn) => ∀ V, RepI w N (.slice (Ty.cellsL c.t2.ts)) V → T2 w lo hi D V) (fun d d' a hd h V hV => (h V hV).le hd) ks fun c _ => t2_of hN c.t2
  refine ⟨max D7 (max D2 D4) + 1, fun V hV => ?_⟩
  simp only [Cn.sub] at hV
  generalize hg : Cn.cellsL ks = L at hV
  cases hV with
  | slice0 A c => exact .inl ⟨A, c, rfl⟩
  | slice elems b o sz c vs hNb hsz hm hcap hc h1 hr =>
    subst hg
    obtain ⟨n1, n2, n3⟩ := hN b hNb
    have hl := Cn.cellsL_len ks
    refine .inr ⟨b, o, _, c, rfl, hm, n1, n2, fun i hi => ?_⟩
    have hi' : i < ks.length := by omega
    have hat := Cn.cellsL_at ks i hi'
    have he : (Cn.cellsL ks)[i] = ks[i].cells := (List.getElem?_eq_some_iff.1 hat).2
    have hlen : ((Cn.cellsL ks)[i]).length = 8 := by rw [he, Cn.cells_sub]; rfl
    have hs8 : sz = 8 := by rw [← hsz i hi]; exact hlen
    subst hs8
    have hmem := List.getElem_mem hi'
    have r0 := hr i hi 0 (by omega)
    have r1 := hr i hi 1 (by omega)
    have r2 := hr i hi 2 (by omega)
    have r3 := hr i hi 3 (by omega)
    have r4 := hr i hi 4 (by omega)
    have r5 := hr i hi 5 (by omega)
    have r6 := hr i hi 6 (by omega)
    have r7 := hr i hi 7 (by omega)
    have hc0 := hc (i * 8) (by omega)
    have hc1 := hc (i * 8 + 1) (by omega)
    have hc2 := hc (i * 8 + 2) (by omega)
    have hc3 := hc (i * 8 + 3) (by omega)
    have hc4 := hc (i * 8 + 4) (by omega)
    have hc5 := hc (i * 8 + 5) (by omega)
    have hc6 := hc (i * 8 + 6) (by omega)
    have hc7 := hc (i * 8 + 7) (by omega)
    simp only [he, Cn.cells_sub, List.getElem_cons_zero, List.getElem_cons_succ, Nat.add_zero] at r0 r1 r2 r3 r4 r5 r6 r7
    generalize vs (i * 8) = u0 at r0 hc0
    generalize vs (i * 8 + 1) = u1 at r1 hc1
    generalize vs (i * 8 + 2) = u2 at r2 hc2
    generalize vs (i * 8 + 3) = u3 at r3 hc3
    generalize vs (i * 8 + 4) = u4 at r4 hc4
    generalize vs (i * 8 + 5) = u5 at r5 hc5
    generalize vs (i * 8 + 6) = u6 at r6 hc6
    generalize vs (i * 8 + 7) = u7 at r7 hc7
    cases r0
    cases r1
    cases r3
    cases r5
    cases r6
    exact ⟨_, _, _, _, _, u2, u4, u7, ⟨⟨hc0, hc1, hc2, hc3, hc4, hc5, hc6, hc7⟩, fun q _ => n3 _⟩, (hD2 _ hmem u2 r2).le (by omega), (hD4 _ hmem u4 r4).le (by omega), (hD7 _ hmem u7 r7).le (by omega)⟩
end
end Go.Proofs.Ytopgmopdjiahmaa

/- NormTells: up to its first comparison, by the logic; then what has been walked. Conditions: none; plain lemmas. -/
set_option linter.unusedVariables false
set_option linter.unusedSimpArgs false
set_option linter.defProp false
set_option maxRecDepth 100000
set_option maxHeartbeats 4000000
namespace Go.Proofs.Ytopgmopdjiahmaa.Lg
open Go Go.RowKit Go.Proofs
section
variable {Q : AEx → St → Prop} {σ : St}
def r4_0 : MC := .reg [⟨none, (.boxc 1 (.t 0))⟩, ⟨none, (.mv 2 (.c (.imm true (.bool false))))⟩] none (some ([1], []))
def w4_0 := @awpR_no Try.prog Q σ r4_0 _ _ ⟨rfl, rfl⟩
def r4_1 : MC := .reg [⟨none, (.load 11 (.t 1) (some 8))⟩, ⟨none, (.call (some 12) (.c (.fn 20 [])) [(.t 11)])⟩, ⟨none, (.mv 10 (.t 12))⟩, ⟨none, (.ext 13 (.t 10) 0)⟩, ⟨none, (.ext 14 (.t 10) 1)⟩, ⟨none, (.alloc 3 z8)⟩, ⟨none, (.store (.t 3) (.t 13) 8)⟩, ⟨none, (.mv 4 (.t 14))⟩] none (some ([1, 3, 4], [3]))
def w4_1 := @awpR_get Try.prog Q σ r4_1 _ _ [3] ⟨rfl, rfl⟩
def r4_2 : MC := .reg [⟨none, (.load 16 (.t 1) (some 8))⟩, ⟨none, (.call (some 17) (.c (.fn 21 [])) [(.t 16)])⟩, ⟨none, (.mv 15 (.t 17))⟩, ⟨none, (.ext 18 (.t 15) 0)⟩, ⟨none, (.ext 19 (.t 15) 1)⟩, ⟨none, (.alloc 5 z8)⟩, ⟨none, (.store (.t 5) (.t 18) 8)⟩, ⟨none, (.mv 6 (.t 19))⟩] none (some ([1, 3, 4, 5, 6], [3, 5]))
def w4_2 := @awpR_get Try.prog Q σ r4_2 _ _ [5] ⟨rfl, rfl⟩
def r4_3 : MC := .reg [⟨none, (.load 20 (.t 1) (some 8))⟩, ⟨none, (.call (some 21) (.c (.fn 22 [])) [(.t 20)])⟩, ⟨none, (.load 22 (.t 1) (some 8))⟩, ⟨none, (.call (some 23) (.c (.fn 23 [])) [(.t 22)])⟩, ⟨none, (.binb 24 true (.t 21) (.t 23))⟩, ⟨none, (.mv 25 (.t 24))⟩, ⟨(some (25, false)), (.mv 26 (.t 4))⟩, ⟨(some (25, false)), (.mv 27 (.t 6))⟩, ⟨(some (25, false)), (.bin 28 .neq (.t 26) (.t 27))⟩, ⟨none, (.pick 29 (.t 25) (.c (.imm true (.bool true))) (.t 28))⟩, ⟨none, (.mv 30 (.t 29))⟩, ⟨(some (30, false)), (.load 31 (.t 3) (some 8))⟩, ⟨(some (30, false)), (.load 32 (.t 5) (some 8))⟩, ⟨(some (30, false)), (.call (some 33) (.c (.fn 24 [])) [(.t 31), (.t 32)])⟩, ⟨(some (30, false)), (.un 34 .not (.t 33))⟩, ⟨none, (.pick 35 (.t 30) (.c (.imm true (.bool true))) (.t 34))⟩] (some []) (some ([1, 5, 35], [5]))
def w4_3 := @awpD_no Try.prog Q σ r4_3 _ _ _ ⟨rfl, rfl⟩
def r4_4 : MC := .reg [⟨none, (.mv 2 (.c (.imm true (.bool false))))⟩] none (some ([2], []))
def w4_4 := @awpR_no Try.prog Q σ r4_4 _ _ ⟨rfl, rfl⟩
end
attribute [go_sem ↓] w4_0 w4_1 w4_2 w4_3 w4_4
noncomputable def p4 : Nat → Code := match Try.f4.body with
  | some (.seq a (.seq b (.seq c (.seq d _)))) => fun n => match n with
    | 0 => a
    | 1 => b
    | 2 => c
    | _ => d
  | _ => fun _ => .skip
def h4 : Hints := ⟨[1], []⟩
def tb4 : Tb := ⟨[(3, [[], [0], [], [0, 1, 2], [0, 1, 2, 3], [0, 1, 2, 3, 4], [0, 1, 2, 3, 4, 5], [0, 1, 2, 3, 4, 5], [0, 1, 2, 3, 4, 5, 6, 7], [0, 1, 2, 3, 4, 5, 6, 7, 8], [0, 1, 2, 3, 4, 5, 6, 7, 8, 9], [0, 1, 2, 3, 4, 5, 6, 7, 8, 9, 10], [0, 1, 2, 3, 4, 5, 6, 7, 8, 9, 10], [0, 1, 2, 3, 4, 5, 6, 7, 8, 9, 10, 11, 12], [0, 1, 2, 3, 4, 5, 6, 7, 8, 9, 10, 11, 12, 13], [0, 1, 2, 3, 4, 5, 6, 7, 8, 9, 10, 11, 12, 13, 14]], [])],
  [(0, [1], []), (1, [1, 3, 4], [3]), (2, [1, 3, 4, 5, 6], [3, 5]), (3, [1, 5, 35], [5]), (4, [2], []), (5, [1, 5, 37], [5]), (6, [1, 5, 7], [5, 7]), (7, [1, 5, 7, 8], [5, 7, 8]), (8, [5, 7, 8, 48], [5, 7, 8]), (9, [2], []), (10, [5, 8], [5, 8]), (11, [54], []), (12, [2], []), (13, [2], [])]⟩
theorem p4_0 : trC Try.prog h4 tb4 56 (p4 0) = some r4_0 := by kernel_rfl
theorem p4_1 : trC Try.prog h4 tb4 56 (p4 1) = some r4_1 := by kernel_rfl
theorem p4_2 : trC Try.prog h4 tb4 56 (p4 2) = some r4_2 := by kernel_rfl
theorem p4_3 : trC Try.prog h4 tb4 56 (p4 3) = some (.seq r4_3 (.cond (.t 35) (.seq r4_4 .ret) .skip)) := by kernel_rfl
theorem body4 : Try.f4.body = some (.seq (p4 0) (.seq (p4 1) (.seq (p4 2) (.seq (p4 3) tail4)))) := by kernel_rfl

/-- so far and no other way -/
def To (S : St) : AEx → St → Prop := fun e σ => e = .normal ∧ σ = S
theorem To_normal {S σ : St} : To S .normal σ = (σ = S) := by simp [To]
theorem piece {c rest : Code} {mc : MC} (htr : trC Try.prog h4 tb4 56 c = some mc) {S S' : St} (h : awp Try.prog mc (To S') S) {cx : Cx} {M : Pl} {a : Act} {w : World} (hI : Inv cx S M a w) (hn : a.tmps.size = 56) {Q : Exit → Act → World → Prop}
    (hnext : ∀ M a w, Inv cx S' M a w → a.tmps.size = 56 → rest.wp Try.prog Q a w) : (Code.seq c rest).wp Try.prog Q a w := by
  refine wp_seq (awp_sound (cx := cx) mixed c mc htr (To S') _ (fun e σ M a w hq hI hn => ?_) S M a w h hI hn)
  obtain ⟨rfl, rfl⟩ := hq
  exact hnext M a w hI (hn rfl)

theorem head0 (k : Int) (ty to : Ty) (lab : Int) (neg : Bool) (ks : List Cn) : awp Try.prog r4_0 (To ⟨[(1, .imm false (.ptr (Cn.mk k ty to lab neg ks).cells 0))], [], []⟩) ⟨numE 0 [.imm false (.agg (Cn.mk k ty to lab neg ks).cells)], argS 0 [], []⟩ := by
  (try simp (implicitDefEqProofs := false) only [go_sem, ↓reduceIte, Nat.reduceEqDiff, reduceCtorEq, Nat.reduceAdd, Nat.reduceSub, Nat.reduceLeDiff, Nat.reduceLT, Nat.reduceMul, Int.reduceToNat, Int.reduceLT, Int.reduceLE, To_normal, Cn.cells])
theorem head1 (k : Int) (ty to : Ty) (lab : Int) (neg : Bool) (ks : List Cn) (nk : Int) (nty nto : Ty) (nlab : Int) (nneg : Bool) (nks : List Cn) (e : Int)
    (h : Does Try.prog 20 [.imm false (.agg (Cn.mk k ty to lab neg ks).cells)] [] (.ret true (coV (Cn.mk nk nty nto nlab nneg nks, e))) []) :
    awp Try.prog r4_1 (To ⟨[(1, .imm false (.ptr (Cn.mk k ty to lab neg ks).cells 0)), (3, .loc (.own 3) 0), (4, .imm true (.int .i64 e))], [(.own 3, .var [.imm true (.int .i8 nk), .imm true (.int .i8 nty.k), .imm true (.slice (Ty.cellsL nty.ts)), .imm true (.int .i8 nto.k), .imm true (.slice (Ty.cellsL nto.ts)), .imm true (.int .i64 nlab), .imm true (.bool nneg), .imm true (.slice (Cn.cellsL nks))])], []⟩) ⟨[(1, .imm false (.ptr (Cn.mk k ty to lab neg ks).cells 0))], [], []⟩ := by
  simp only [coV, Cn.cells] at h
  (try simp (implicitDefEqProofs := false) only [go_sem, ↓reduceIte, Nat.reduceEqDiff, reduceCtorEq, Nat.reduceAdd, Nat.reduceSub, Nat.reduceLeDiff, Nat.reduceLT, Nat.reduceMul, Int.reduceToNat, Int.reduceLT, Int.reduceLE, Cn.cells])
  refine CallK_do h ?_
  (try simp (implicitDefEqProofs := false) only [go_sem, ↓reduceIte, Nat.reduceEqDiff, reduceCtorEq, Nat.reduceAdd, Nat.reduceSub, Nat.reduceLeDiff, Nat.reduceLT, Nat.reduceMul, Int.reduceToNat, Int.reduceLT, Int.reduceLE, To_normal])
theorem head2 (k : Int) (ty to : Ty) (lab : Int) (neg : Bool) (ks : List Cn) (nk : Int) (nty nto : Ty) (nlab : Int) (nneg : Bool) (nks : List Cn) (e : Int)
    (h : Does Try.prog 21 [.imm false (.agg (Cn.mk k ty to lab neg ks).cells)] [] (.ret false (coV (Cn.mk nk nty nto nlab nneg nks, e))) []) :
    awp Try.prog r4_2 (To ⟨[(1, .imm false (.ptr (Cn.mk k ty to lab neg ks).cells 0)), (3, .loc (.own 3) 0), (4, .imm true (.int .i64 e)), (5, .loc (.own 5) 0), (6, .imm false (.int .i64 e))], [(.own 3, .var [.imm true (.int .i8 nk), .imm true (.int .i8 nty.k), .imm true (.slice (Ty.cellsL nty.ts)), .imm true (.int .i8 nto.k), .imm true (.slice (Ty.cellsL nto.ts)), .imm true (.int .i64 nlab), .imm true (.bool nneg), .imm true (.slice (Cn.cellsL nks))]), (.own 5, .var [.imm false (.int .i8 nk), .imm false (.int .i8 nty.k), .imm false (.slice (Ty.cellsL nty.ts)), .imm false (.int .i8 nto.k), .imm false (.slice (Ty.cellsL nto.ts)), .imm false (.int .i64 nlab), .imm false (.bool nneg), .imm false (.slice (Cn.cellsL nks))])], []⟩)
      ⟨[(1, .imm false (.ptr (Cn.mk k ty to lab neg ks).cells 0)), (3, .loc (.own 3) 0), (4, .imm true (.int .i64 e))], [(.own 3, .var [.imm true (.int .i8 nk), .imm true (.int .i8 nty.k), .imm true (.slice (Ty.cellsL nty.ts)), .imm true (.int .i8 nto.k), .imm true (.slice (Ty.cellsL nto.ts)), .imm true (.int .i64 nlab), .imm true (.bool nneg), .imm true (.slice (Cn.cellsL nks))])], []⟩ := by
  simp only [coV, Cn.cells] at h
  (try simp (implicitDefEqProofs := false) only [go_sem, ↓reduceIte, Nat.reduceEqDiff, reduceCtorEq, Nat.reduceAdd, Nat.reduceSub, Nat.reduceLeDiff, Nat.reduceLT, Nat.reduceMul, Int.reduceToNat, Int.reduceLT, Int.reduceLE, Cn.cells])
  refine CallK_do h ?_
  (try simp (implicitDefEqProofs := false) only [go_sem, ↓reduceIte, Nat.reduceEqDiff, reduceCtorEq, Nat.reduceAdd, Nat.reduceSub, Nat.reduceLeDiff, Nat.reduceLT, Nat.reduceMul, Int.reduceToNat, Int.reduceLT, Int.reduceLE, To_normal])
theorem head3 (k : Int) (ty to : Ty) (lab : Int) (neg : Bool) (ks : List Cn) (nk : Int) (nty nto : Ty) (nlab : Int) (nneg : Bool) (nks : List Cn) (e : Int) (b : Bool)
    (h1 : Does Try.prog 22 [.imm false (.agg (Cn.mk k ty to lab neg ks).cells)] [] (.ret true (.bool b)) []) (h2 : Does Try.prog 23 [.imm false (.agg (Cn.mk k ty to lab neg ks).cells)] [] (.ret true (.bool b)) [])
    (h3 : Does Try.prog 24 [.imm false (.agg (Cn.mk nk nty nto nlab nneg nks).cells), .imm false (.agg (Cn.mk nk nty nto nlab nneg nks).cells)] [] (.ret true (.bool true)) []) :
    awp Try.prog (.seq r4_3 (.cond (.t 35) (.seq r4_4 .ret) .skip)) (To ⟨[(1, .imm false (.ptr (Cn.mk k ty to lab neg ks).cells 0)), (5, .loc (.own 5) 0), (35, .imm true (.bool false))], [(.own 5, .var [.imm false (.int .i8 nk), .imm false (.int .i8 nty.k), .imm false (.slice (Ty.cellsL nty.ts)), .imm false (.int .i8 nto.k), .imm false (.slice (Ty.cellsL nto.ts)), .imm false (.int .i64 nlab), .imm false (.bool nneg), .imm false (.slice (Cn.cellsL nks))])], []⟩)
      ⟨[(1, .imm false (.ptr (Cn.mk k ty to lab neg ks).cells 0)), (3, .loc (.own 3) 0), (4, .imm true (.int .i64 e)), (5, .loc (.own 5) 0), (6, .imm false (.int .i64 e))], [(.own 3, .var [.imm true (.int .i8 nk), .imm true (.int .i8 nty.k), .imm true (.slice (Ty.cellsL nty.ts)), .imm true (.int .i8 nto.k), .imm true (.slice (Ty.cellsL nto.ts)), .imm true (.int .i64 nlab), .imm true (.bool nneg), .imm true (.slice (Cn.cellsL nks))]), (.own 5, .var [.imm false (.int .i8 nk), .imm false (.int .i8 nty.k), .imm false (.slice (Ty.cellsL nty.ts)), .imm false (.int .i8 nto.k), .imm false (.slice (Ty.cellsL nto.ts)), .imm false (.int .i64 nlab), .imm false (.bool nneg), .imm false (.slice (Cn.cellsL nks))])], []⟩ := by
  simp only [Cn.cells] at h1 h2 h3
  (try simp (implicitDefEqProofs := false) only [go_sem, ↓reduceIte, Nat.reduceEqDiff, reduceCtorEq, Nat.reduceAdd, Nat.reduceSub, Nat.reduceLeDiff, Nat.reduceLT, Nat.reduceMul, Int.reduceToNat, Int.reduceLT, Int.reduceLE, Cn.cells])
  refine CallK_do h1 ?_
  (try simp (implicitDefEqProofs := false) only [go_sem, ↓reduceIte, Nat.reduceEqDiff, reduceCtorEq, Nat.reduceAdd, Nat.reduceSub, Nat.reduceLeDiff, Nat.reduceLT, Nat.reduceMul, Int.reduceToNat, Int.reduceLT, Int.reduceLE])
  refine CallK_do h2 ?_
  (try simp (implicitDefEqProofs := false) only [go_sem, ↓reduceIte, Nat.reduceEqDiff, reduceCtorEq, Nat.reduceAdd, Nat.reduceSub, Nat.reduceLeDiff, Nat.reduceLT, Nat.reduceMul, Int.reduceToNat, Int.reduceLT, Int.reduceLE, bne_self_eq_false])
  refine CallK_do h3 ?_
  (try simp (implicitDefEqProofs := false) only [go_sem, ↓reduceIte, Nat.reduceEqDiff, reduceCtorEq, Nat.reduceAdd, Nat.reduceSub, Nat.reduceLeDiff, Nat.reduceLT, Nat.reduceMul, Int.reduceToNat, Int.reduceLT, Int.reduceLE, To_normal, Bool.not_true])
end Go.Proofs.Ytopgmopdjiahmaa.Lg

/- NormTells: the whole of it. Conditions: none; plain lemmas. -/
set_option linter.unusedVariables false
set_option linter.unusedSimpArgs false
set_option maxRecDepth 100000
set_option maxHeartbeats 4000000
namespace Go.Proofs.Ytopgmopdjiahmaa
open Go Go.RowKit Go.Proofs Go.Proofs.Ytopgmopdjiahmaa.Lg

theorem inv_args {W : World} {args : List LV} {vals : List Value} (hR : Rows2 (RR (cxOf W) (argS 0 []) [] (fun _ => Option.none) W) args vals) (n : Nat) :
    Inv (cxOf W) ⟨numE 0 args, argS 0 [], []⟩ (fun _ => Option.none) ⟨vals.toArray ++ Array.replicate (n - vals.toArray.size) undef, []⟩ W := by
  have hI := inv0 W
  have hlen : vals.length = args.length := hR.1
  exact { os := hI.os, tape := hI.tape, output := hI.output, size := hI.size, frame := hI.frame, plc := hI.plc, box := hI.box, own := hI.own, arg := hI.arg, argM := hI.argM, argz := hI.argz, inj := hI.inj, defers := hI.defers
          env := fun t => by
            have hg : getE (numE 0 args) t = args.getD t .undef := by rw [getE_numE]; simp
            show RR (cxOf W) _ _ _ _ (getE (numE 0 args) t) _
            rw [hg]
            by_cases ht : t < args.length
            · have : (vals.toArray ++ Array.replicate (n - vals.toArray.size) undef).getD t undef = vals[t]'(by omega) := by
                rw [Array.getD_eq_getD_getElem?, Array.getElem?_append_left (by simp; omega)]
                simp [hlen, ht]
              rw [this]
              have e : args.getD t .undef = args[t] := by simp [List.getD_eq_getElem?_getD, ht]
              rw [e]
              exact hR.2 t ht (by omega)
            · have e : args.getD t .undef = .undef := by rw [List.getD_eq_getElem?_getD, List.getElem?_eq_none (by omega)]; rfl
              rw [e]; exact .undef _ }
/-- where what a call hands back lies -/
def InR (fr : Bool) (W W' : World) (b : Nat) : Prop := b < W'.heap.size ∧ (fr = true → W.heap.size ≤ b ∧ ∀ o, W'.frozen? ⟨b, o, none⟩ = false)
/-- a call by what the function does: what it hands back -/
theorem calls_rep {f : FuncId} {ivs : List IV} {fr : Bool} {v : IV} {vals : List Value} {W : World} (h : Does Try.prog f (ivs.map (.imm false)) [] (.ret fr v) []) (hR : Rows2 (RR (cxOf W) (argS 0 []) [] (fun _ => Option.none) W) (ivs.map (.imm false)) vals) :
    Calls Try.prog f vals.toArray W fun e W' => Below W.heap.size W W' ∧ ∃ x, e = .returned x ∧ RepI W' (InR fr W W') v x := by
  refine (h.2.2 (cxOf W) _ vals rfl (inv0 W) hR).mono fun e W' ⟨hI, he⟩ => ⟨⟨hI.os, hI.tape, hI.output, hI.size, fun k hk => hI.frame k hk fun i hi => absurd hi (Nat.not_lt_zero i)⟩, ?_⟩
  obtain ⟨x, rfl, hx⟩ := he
  refine ⟨x, rfl, ?_⟩
  have hx := RepL.imm_iff.1 hx
  cases fr
  · exact hx.mono (fun b hb => ⟨hb.2.1, fun h => by cases h⟩) (fun _ _ _ _ h => h)
  · exact hx.mono (fun b hb => ⟨hb.1.2.1, fun _ => hb.2⟩) (fun _ _ _ _ h => h)
theorem rows1 {W : World} {a : IV} {x : Value} {N : Nat → Prop} (h : RepI W N a x) (hN : ∀ b, N b → b < W.heap.size) : Rows2 (RR (cxOf W) (argS 0 []) [] (fun _ => Option.none) W) ([a].map (.imm false)) [x] :=
  Rows2.cons (repN (h.mono hN fun _ _ _ _ h => h)) Rows2.nil
theorem rows2 {W : World} {a b : IV} {x y : Value} {N N' : Nat → Prop} (h : RepI W N a x) (hN : ∀ b, N b → b < W.heap.size) (h' : RepI W N' b y) (hN' : ∀ b, N' b → b < W.heap.size) : Rows2 (RR (cxOf W) (argS 0 []) [] (fun _ => Option.none) W) ([a, b].map (.imm false)) [x, y] :=
  Rows2.cons (repN (h.mono hN fun _ _ _ _ h => h)) (Rows2.cons (repN (h'.mono hN' fun _ _ _ _ h => h)) Rows2.nil)
theorem slice_shape {w : World} {N : Nat → Prop} {L : List (List IV)} {x : Value} (h : RepI w N (.slice L) x) : ∃ a n c, x = .slice a n c := by
  cases h with
  | slice0 A c => exact ⟨A, 0, c, rfl⟩
  | slice elems b o sz c vs hNb hsz hm hcap hc h1 hr => exact ⟨_, _, _, rfl⟩
theorem co_shape {w : World} {N : Nat → Prop} {c : Cn} {x : Value} (h : RepI w N (.agg c.cells) x) : ∃ a2 a4 a7 n2 c2 n4 c4 n7 c7, x = .agg (co8 c.kn c.t1.k c.t2.k c.lb c.ng (.slice a2 n2 c2) (.slice a4 n4 c4) (.slice a7 n7 c7)) ∧
    RepI w N (.slice (Ty.cellsL c.t1.ts)) (.slice a2 n2 c2) ∧ RepI w N (.slice (Ty.cellsL c.t2.ts)) (.slice a4 n4 c4) ∧ RepI w N (.slice (Cn.cellsL c.sub)) (.slice a7 n7 c7) := by
  rw [Cn.cells_sub] at h
  cases h with
  | agg cells vs hl h1 hr =>
    match vs, hl with
    | [v0, v1, v2, v3, v4, v5, v6, v7], _ =>
      have r0 := hr 0 (by simp) (by simp)
      have r1 := hr 1 (by simp) (by simp)
      have r2 := hr 2 (by simp) (by simp)
      have r3 := hr 3 (by simp) (by simp)
      have r4 := hr 4 (by simp) (by simp)
      have r5 := hr 5 (by simp) (by simp)
      have r6 := hr 6 (by simp) (by simp)
      have r7 := hr 7 (by simp) (by simp)
      simp only [List.getElem_cons_zero, List.getElem_cons_succ] at r0 r1 r2 r3 r4 r5 r6 r7
      cases r0
      cases r1
      cases r3
      cases r5
      cases r6
      obtain ⟨a2, n2, c2, rfl⟩ := slice_shape r2
      obtain ⟨a4, n4, c4, rfl⟩ := slice_shape r4
      obtain ⟨a7, n7, c7, rfl⟩ := slice_shape r7
      exact ⟨a2, a4, a7, n2, c2, n4, c4, n7, c7, rfl, r2, r4, r7⟩
theorem rep_below {w w' : World} {N : Nat → Prop} {v : IV} {x : Value} {B : Nat} (h : RepI w N v x) (hb : Below B w w') (hN : ∀ b, N b → b < B) : RepI w' N v x :=
  h.mono (fun _ h => h) fun b hN' o u hu => by rw [cell_heap (hb.block b (hN b hN'))]; exact hu
theorem arr_cons {n : Nat} {l : List Value} (h : l.length = n + 1) : ∃ x r, l = x :: r ∧ r.length = n := by
  cases l with
  | nil => simp at h
  | cons x r => exact ⟨x, r, rfl, by simpa using h⟩
theorem arr56 {t : Array Value} (h : t.size = 56) : ∃ x0 x1 x2 x3 x4 x5 x6 x7 x8 x9 x10 x11 x12 x13 x14 x15 x16 x17 x18 x19 x20 x21 x22 x23 x24 x25 x26 x27 x28 x29 x30 x31 x32 x33 x34 x35 x36 x37 x38 x39 x40 x41 x42 x43 x44 x45 x46 x47 x48 x49 x50 x51 x52 x53 x54 x55, t = #[x0, x1, x2, x3, x4, x5, x6, x7, x8, x9, x10, x11, x12, x13, x14, x15, x16, x17, x18, x19, x20, x21, x22, x23, x24, x25, x26, x27, x28, x29, x30, x31, x32, x33, x34, x35, x36, x37, x38, x39, x40, x41, x42, x43, x44, x45, x46, x47, x48, x49, x50, x51, x52, x53, x54, x55] := by
  obtain ⟨l0⟩ := t
  have h0 : l0.length = 56 := h
  obtain ⟨x0, l1, e0, h1⟩ := arr_cons h0
  obtain ⟨x1, l2, e1, h2⟩ := arr_cons h1
  obtain ⟨x2, l3, e2, h3⟩ := arr_cons h2
  obtain ⟨x3, l4, e3, h4⟩ := arr_cons h3
  obtain ⟨x4, l5, e4, h5⟩ := arr_cons h4
  obtain ⟨x5, l6, e5, h6⟩ := arr_cons h5
  obtain ⟨x6, l7, e6, h7⟩ := arr_cons h6
  obtain ⟨x7, l8, e7, h8⟩ := arr_cons h7
  obtain ⟨x8, l9, e8, h9⟩ := arr_cons h8
  obtain ⟨x9, l10, e9, h10⟩ := arr_cons h9
  obtain ⟨x10, l11, e10, h11⟩ := arr_cons h10
  obtain ⟨x11, l12, e11, h12⟩ := arr_cons h11
  obtain ⟨x12, l13, e12, h13⟩ := arr_cons h12
  obtain ⟨x13, l14, e13, h14⟩ := arr_cons h13
  obtain ⟨x14, l15, e14, h15⟩ := arr_cons h14
  obtain ⟨x15, l16, e15, h16⟩ := arr_cons h15
  obtain ⟨x16, l17, e16, h17⟩ := arr_cons h16
  obtain ⟨x17, l18, e17, h18⟩ := arr_cons h17
  obtain ⟨x18, l19, e18, h19⟩ := arr_cons h18
  obtain ⟨x19, l20, e19, h20⟩ := arr_cons h19
  obtain ⟨x20, l21, e20, h21⟩ := arr_cons h20
  obtain ⟨x21, l22, e21, h22⟩ := arr_cons h21
  obtain ⟨x22, l23, e22, h23⟩ := arr_cons h22
  obtain ⟨x23, l24, e23, h24⟩ := arr_cons h23
  obtain ⟨x24, l25, e24, h25⟩ := arr_cons h24
  obtain ⟨x25, l26, e25, h26⟩ := arr_cons h25
  obtain ⟨x26, l27, e26, h27⟩ := arr_cons h26
  obtain ⟨x27, l28, e27, h28⟩ := arr_cons h27
  obtain ⟨x28, l29, e28, h29⟩ := arr_cons h28
  obtain ⟨x29, l30, e29, h30⟩ := arr_cons h29
  obtain ⟨x30, l31, e30, h31⟩ := arr_cons h30
  obtain ⟨x31, l32, e31, h32⟩ := arr_cons h31
  obtain ⟨x32, l33, e32, h33⟩ := arr_cons h32
  obtain ⟨x33, l34, e33, h34⟩ := arr_cons h33
  obtain ⟨x34, l35, e34, h35⟩ := arr_cons h34
  obtain ⟨x35, l36, e35, h36⟩ := arr_cons h35
  obtain ⟨x36, l37, e36, h37⟩ := arr_cons h36
  obtain ⟨x37, l38, e37, h38⟩ := arr_cons h37
  obtain ⟨x38, l39, e38, h39⟩ := arr_cons h38
  obtain ⟨x39, l40, e39, h40⟩ := arr_cons h39
  obtain ⟨x40, l41, e40, h41⟩ := arr_cons h40
  obtain ⟨x41, l42, e41, h42⟩ := arr_cons h41
  obtain ⟨x42, l43, e42, h43⟩ := arr_cons h42
  obtain ⟨x43, l44, e43, h44⟩ := arr_cons h43
  obtain ⟨x44, l45, e44, h45⟩ := arr_cons h44
  obtain ⟨x45, l46, e45, h46⟩ := arr_cons h45
  obtain ⟨x46, l47, e46, h47⟩ := arr_cons h46
  obtain ⟨x47, l48, e47, h48⟩ := arr_cons h47
  obtain ⟨x48, l49, e48, h49⟩ := arr_cons h48
  obtain ⟨x49, l50, e49, h50⟩ := arr_cons h49
  obtain ⟨x50, l51, e50, h51⟩ := arr_cons h50
  obtain ⟨x51, l52, e51, h52⟩ := arr_cons h51
  obtain ⟨x52, l53, e52, h53⟩ := arr_cons h52
  obtain ⟨x53, l54, e53, h54⟩ := arr_cons h53
  obtain ⟨x54, l55, e54, h55⟩ := arr_cons h54
  obtain ⟨x55, l56, e55, h56⟩ := arr_cons h55
  have e56 := List.eq_nil_of_length_eq_zero h56
  exact ⟨x0, x1, x2, x3, x4, x5, x6, x7, x8, x9, x10, x11, x12, x13, x14, x15, x16, x17, x18, x19, x20, x21, x22, x23, x24, x25, x26, x27, x28, x29, x30, x31, x32, x33, x34, x35, x36, x37, x38, x39, x40, x41, x42, x43, x44, x45, x46, x47, x48, x49, x50, x51, x52, x53, x54, x55, by rw [e0, e1, e2, e3, e4, e5, e6, e7, e8, e9, e10, e11, e12, e13, e14, e15, e16, e17, e18, e19, e20, e21, e22, e23, e24, e25, e26, e27, e28, e29, e30, e31, e32, e33, e34, e35, e36, e37, e38, e39, e40, e41, e42, e43, e44, e45, e46, e47, e48, e49, e50, e51, e52, e53, e54, e55, e56]⟩
theorem rows_agg {cx : Cx} {s : List (Key × Box)} {z : List Key} {M : Pl} {w : World} {ivs : List IV} {vs : List Value} (h : Rows2 (RR cx s z M w) (ivs.map (.imm false)) vs) (h1 : ∀ v ∈ vs, v.oneCell' = true) :
    ∃ NM : Nat → Prop, (∀ b, NM b → b < w.heap.size) ∧ RepI w NM (.agg ivs) (.agg vs.toArray) :=
  ⟨NS cx s z M w, fun b hb => hb.2.1, .agg ivs vs (by simpa using h.1) h1 fun j hj hj' => by
    have := h.2 j (by simpa using hj) hj'
    simp only [List.getElem_map] at this
    exact RepL.imm_iff.1 this⟩
theorem normA_fits (c : Cn) : (normA c).1.fits := by
  have hz : Cn.zero.fits := leaf_fits un_fits un_fits (by omega)
  unfold normA
  split
  · rename_i h
    have hw := nf_wf c (ok_iff h).2.2.1
    unfold tolN
    split
    · exact cn_fits hw.1
    · exact hz
  · exact hz

theorem tells_calls (c : Cn) (hf : c.fits) (W : World) (v : Value) (hv : RepI W (InW W) (.agg c.cells) v) : Calls Try.prog 4 #[v] W fun e W' => Below W.heap.size W W' ∧ e = .returned (.bool true) := by
  have hnf := normA_fits c
  have d20 := normA_does c hf
  have d21 := rnormA_does c hf
  have d22 := is_does c hf
  have d23 := ris_does c hf
  have d24n := like_does _ hnf
  have d24c := like_does c hf
  have d25 := small_does c hf
  have d26 : c.smallB = true → _ := fun h => copied_does c (small_brief h)
  generalize c.smallB = sm at d25 d26
  generalize c.isB = isb at d22 d23
  generalize normA c = p at hnf d20 d21 d24n
  obtain ⟨nn, er⟩ := p
  obtain ⟨k, ty, to, lab, neg, ks⟩ := c
  obtain ⟨nk, nty, nto, nlab, nneg, nks⟩ := nn
  refine calls_of_wp Try.func4 body4 ?_
  have hI0 := inv_args (rows1 hv fun b hb => hb) 56
  refine piece p4_0 (head0 k ty to lab neg ks) hI0 (by simp) fun M a w hI hn => ?_
  clear hI0
  refine piece p4_1 (head1 k ty to lab neg ks nk nty nto nlab nneg nks er d20) hI hn fun M a w hI hn => ?_
  refine piece p4_2 (head2 k ty to lab neg ks nk nty nto nlab nneg nks er d21) hI hn fun M a w hI hn => ?_
  refine piece p4_3 (head3 k ty to lab neg ks nk nty nto nlab nneg nks er isb d22 d23 d24n) hI hn fun M a w hI hn => ?_
  have bel : Below W.heap.size W w := ⟨hI.os, hI.tape, hI.output, hI.size, fun k hk => hI.frame k hk fun i hi => absurd hi (Nat.not_lt_zero i)⟩
  have e1 := hI.env 1
  have e5 := hI.env 5
  obtain ⟨pl, hpl⟩ := hI.plc (.own 5) rfl
  have bx := hI.box (.own 5) _ pl rfl hpl
  have hdf := hI.defers
  obtain ⟨t, df⟩ := a
  simp only at hn e1 e5 hdf
  obtain ⟨x0, x1, x2, x3, x4, x5, x6, x7, x8, x9, x10, x11, x12, x13, x14, x15, x16, x17, x18, x19, x20, x21, x22, x23, x24, x25, x26, x27, x28, x29, x30, x31, x32, x33, x34, x35, x36, x37, x38, x39, x40, x41, x42, x43, x44, x45, x46, x47, x48, x49, x50, x51, x52, x53, x54, x55, rfl⟩ := arr56 hn
  subst hdf
  simp only [getE, getB, if_true] at e1 e5
  have g1 : (#[x0, x1, x2, x3, x4, x5, x6, x7, x8, x9, x10, x11, x12, x13, x14, x15, x16, x17, x18, x19, x20, x21, x22, x23, x24, x25, x26, x27, x28, x29, x30, x31, x32, x33, x34, x35, x36, x37, x38, x39, x40, x41, x42, x43, x44, x45, x46, x47, x48, x49, x50, x51, x52, x53, x54, x55] : Array Value).getD 1 undef = x1 := rfl
  have g5 : (#[x0, x1, x2, x3, x4, x5, x6, x7, x8, x9, x10, x11, x12, x13, x14, x15, x16, x17, x18, x19, x20, x21, x22, x23, x24, x25, x26, x27, x28, x29, x30, x31, x32, x33, x34, x35, x36, x37, x38, x39, x40, x41, x42, x43, x44, x45, x46, x47, x48, x49, x50, x51, x52, x53, x54, x55] : Array Value).getD 5 undef = x5 := rfl
  rw [g1] at e1
  rw [g5] at e5
  clear g1 g5
  simp only [show ¬ ((1 : Nat) = 5) from by omega, if_false] at e5
  have e1 := RepL.imm_iff.1 e1
  simp only [Bool.false_eq_true, if_false] at e1
  obtain ⟨NW, hNlt, e1⟩ : ∃ NW : Nat → Prop, (∀ b, NW b → b < w.heap.size) ∧ RepI w NW (.ptr (Cn.mk k ty to lab neg ks).cells 0) x1 := ⟨_, fun b hb => hb.2.1, e1⟩
  obtain ⟨b1, o1, vs, rfl, hc, hCrep⟩ : ∃ b1 o1, ∃ vs : Nat → Value, x1 = .pointer (some ⟨b1, o1, none⟩) ∧ (∀ j, j < 8 → w.cell? ⟨b1, o1 + j, none⟩ = some (vs j)) ∧ RepI w NW (.agg (Cn.mk k ty to lab neg ks).cells) (.agg #[vs 0, vs 1, vs 2, vs 3, vs 4, vs 5, vs 6, vs 7]) := by
    generalize hcells : (Cn.mk k ty to lab neg ks).cells = CC at e1
    have hl8 : CC.length = 8 := by rw [← hcells]; simp only [Cn.cells, List.length_cons, List.length_nil]
    cases e1 with
    | ptr cells off b o vs hNb hc h1 hr =>
      refine ⟨b, o, vs, rfl, fun j hj => hc j (by omega), RepI.agg CC [vs 0, vs 1, vs 2, vs 3, vs 4, vs 5, vs 6, vs 7] (by rw [hl8]; rfl) ?_ fun j hj hj' => ?_⟩
      · intro v hv
        simp only [List.mem_cons, List.not_mem_nil, or_false] at hv
        rcases hv with rfl | rfl | rfl | rfl | rfl | rfl | rfl | rfl
        all_goals exact h1 _ (by omega)
      · match j, hj' with
        | 0, _ => exact hr 0 hj
        | 1, _ => exact hr 1 hj
        | 2, _ => exact hr 2 hj
        | 3, _ => exact hr 3 hj
        | 4, _ => exact hr 4 hj
        | 5, _ => exact hr 5 hj
        | 6, _ => exact hr 6 hj
        | 7, _ => exact hr 7 hj
  obtain ⟨b5, m0, m1, m2, m3, m4, m5, m6, m7, rfl, hm, hMrep⟩ : ∃ b5 m0 m1 m2 m3 m4 m5 m6 m7, x5 = .pointer (some ⟨b5, 0, none⟩) ∧ (∀ j, w.cell? ⟨b5, j, none⟩ = (#[m0, m1, m2, m3, m4, m5, m6, m7] : Array Value)[j]?) ∧ ∃ NM : Nat → Prop, (∀ b, NM b → b < w.heap.size) ∧ RepI w NM (.agg (Cn.mk nk nty nto nlab nneg nks).cells) (.agg #[m0, m1, m2, m3, m4, m5, m6, m7]) := by
    cases e5 with
    | loc k' off b5 c5 hM =>
      have hM' : M (.own 5) = some (b5, c5) := hM
      rw [hpl] at hM'
      simp only [Option.some.injEq] at hM'
      subst hM'
      obtain ⟨vs5, e, hh, hrow, hone⟩ := bx
      obtain ⟨l5⟩ := vs5
      have hl := hrow.1
      simp only [List.length_cons, List.length_nil] at hl
      match l5, hl with
      | [m0, m1, m2, m3, m4, m5, m6, m7], _ =>
        obtain ⟨NM, q1, q2⟩ := rows_agg (ivs := (Cn.mk nk nty nto nlab nneg nks).cells) (by simp only [Cn.cells, List.map_cons, List.map_nil]; exact hrow) hone
        exact ⟨b5, m0, m1, m2, m3, m4, m5, m6, m7, rfl, fun j => by simp only [World.cell?, hh]; rfl, NM, q1, q2⟩
  obtain ⟨NM, hNM, hMrep⟩ := hMrep
  have hc0 := hc 0 (by omega)
  have hc1 := hc 1 (by omega)
  have hc2 := hc 2 (by omega)
  have hc3 := hc 3 (by omega)
  have hc4 := hc 4 (by omega)
  have hc5 := hc 5 (by omega)
  have hc6 := hc 6 (by omega)
  have hc7 := hc 7 (by omega)
  generalize vs 0 = v0 at hc0 hCrep
  generalize vs 1 = v1 at hc1 hCrep
  generalize vs 2 = v2 at hc2 hCrep
  generalize vs 3 = v3 at hc3 hCrep
  generalize vs 4 = v4 at hc4 hCrep
  generalize vs 5 = v5 at hc5 hCrep
  generalize vs 6 = v6 at hc6 hCrep
  generalize vs 7 = v7 at hc7 hCrep
  clear hc hI bx hpl hn
  refine tells_tail w b1 o1 b5 v0 v1 v2 v3 v4 v5 v6 v7 m0 m1 m2 m3 m4 m5 m6 m7 hc0 hc1 hc2 hc3 hc4 hc5 hc6 hc7 ((hm 0).trans rfl) ((hm 1).trans rfl) ((hm 2).trans rfl) ((hm 3).trans rfl) ((hm 4).trans rfl) ((hm 5).trans rfl) ((hm 6).trans rfl) ((hm 7).trans rfl) sm
    (fun w1 w2 D => RepI w2 (InR true w1 w2) (.agg (Cn.mk k ty to lab neg ks).cells) (.agg D)) (fun w1 w2 w3 w4 Y => RepI w4 (InR true w3 w4) (.agg (Cn.mk nk nty nto nlab nneg nks).cells) (.agg Y))
    ?_ ?_ ?_ ?_ ?_ ?_ ?_ ?_ x0 x2 x3 x4 x6 x7 x8 x9 x10 x11 x12 x13 x14 x15 x16 x17 x18 x19 x20 x21 x22 x23 x24 x25 x26 x27 x28 x29 x30 x31 x32 x33 x34 x35 x36 x37 x38 x39 x40 x41 x42 x43 x44 x45 x46 x47 x48 x49 x50 x51 x52 x53 x54 x55
  · refine (calls_rep (ivs := [.agg (Cn.mk k ty to lab neg ks).cells]) d25 (rows1 hCrep hNlt)).mono fun e w1 ⟨h1, x, he, hx⟩ => ⟨h1, ?_⟩
    cases hx
    exact he
  · intro w1 hsm k1
    refine (calls_rep (ivs := [.agg (Cn.mk k ty to lab neg ks).cells]) (d26 hsm) (rows1 (rep_below hCrep k1 hNlt) fun b hb => Nat.lt_of_lt_of_le (hNlt b hb) k1.size)).mono fun e w2 ⟨h1, x, he, hx⟩ => ⟨h1, ?_⟩
    obtain ⟨a2, a4, a7, n2, c2, n4, c4, n7, c7, rfl, _⟩ := co_shape hx
    exact ⟨_, _, _, _, _, a2, a4, a7, n2, c2, n4, c4, n7, c7, he, hx⟩
  · intro w1 w2 w3 dk0 dk1 dk3 dl dg da2 da4 da7 dn2 dc2 dn4 dc4 dn7 dc7 hG k3
    refine (calls_rep (ivs := [.agg (Cn.mk k ty to lab neg ks).cells]) d20 (rows1 (rep_below hG k3 fun b hb => hb.1) fun b hb => Nat.lt_of_lt_of_le hb.1 k3.size)).mono fun e w4 ⟨h1, x, he, hx⟩ => ⟨h1, ?_⟩
    simp only [coV] at hx
    cases hx with
    | tup cells us hl hr =>
      match us, hl with
      | [u0, u1], _ =>
        have r0 := hr 0 (by simp) (by simp)
        simp only [List.getElem_cons_zero] at r0
        obtain ⟨a2, a4, a7, n2, c2, n4, c4, n7, c7, rfl, _⟩ := co_shape r0
        exact ⟨_, _, _, _, _, a2, a4, a7, n2, c2, n4, c4, n7, c7, u1, he, r0⟩
  · intro w1 w2 w3 dk0 dk1 dk3 dl dg da2 da4 da7 dn2 dc2 dn4 dc4 dn7 dc7 k1 hG k2 k3
    have s1 := k1.size
    have s2 := k2.size
    have s3 := k3.size
    have hC3 := rep_below (rep_below (rep_below hCrep k1 hNlt) k2 fun b hb => Nat.lt_of_lt_of_le (hNlt b hb) s1) k3 fun b hb => Nat.lt_of_lt_of_le (hNlt b hb) (by omega)
    refine (calls_rep (ivs := [.agg (Cn.mk k ty to lab neg ks).cells, .agg (Cn.mk k ty to lab neg ks).cells]) d24c (rows2 (rep_below hG k3 fun b hb => hb.1) (fun b hb => Nat.lt_of_lt_of_le hb.1 s3) hC3 fun b hb => Nat.lt_of_lt_of_le (hNlt b hb) (by omega))).mono fun e w4 ⟨h1, x, he, hx⟩ => ⟨h1, ?_⟩
    cases hx
    exact he
  · intro w1 w2 w3 dk0 dk1 dk3 dl dg da2 da4 da7 dn2 dc2 dn4 dc4 dn7 dc7 hG k2 k3
    have s2 := k2.size
    have s3 := k3.size
    have hD := rep_below hG k3 fun b hb => hb.1
    have hN3 : ∀ b, InR true w1 w2 b → w1.heap.size ≤ b ∧ b < w2.heap.size ∧ ∀ o, w3.frozen? ⟨b, o, none⟩ = false := fun b hb => ⟨(hb.2 rfl).1, hb.1, fun o => by rw [frozen_heap (k3.block b hb.1)]; exact (hb.2 rfl).2 o⟩
    obtain ⟨D2, g2⟩ := t2_of hN3 ty
    obtain ⟨D4, g4⟩ := t2_of hN3 to
    obtain ⟨D8, g8⟩ := t8_of hN3 (.mk k ty to lab neg ks)
    obtain ⟨a2, a4, a7, n2, c2, n4, c4, n7, c7, he, r2, r4, r7⟩ := co_shape hD
    rw [he]
    exact spoil8 w1.heap.size w2.heap.size (max D8 (max D2 D4)) w3 _ _ _ _ _ _ _ _ (by omega) ((g2 _ r2).le (by omega)) ((g4 _ r4).le (by omega)) ((g8 _ r7).le (by omega))
  · intro w1 w2 w3 w4 w5 w6 yk0 yk1 yk3 yl yg ya2 ya4 ya7 yn2 yc2 yn4 yc4 yn7 yc7 k1 k2 k3 k4 hX k5 hE
    have s1 := k1.size
    have s2 := k2.size
    have s3 := k3.size
    have s4 := k4.size
    have s5 := k5.size
    have s6 := hE.size
    have hX5 := rep_below hX k5 fun b hb => hb.1
    have hX6 : RepI w6 (InR true w3 w4) _ _ := hX5.mono (fun _ h => h) fun b hb o u hu => by
      have h1 := hb.1
      have h2 := (hb.2 rfl).1
      rw [cell_heap (hE.far b (by omega) (.inr (by omega)))]; exact hu
    have hM4 := rep_below (rep_below (rep_below (rep_below hMrep k1 hNM) k2 fun b hb => Nat.lt_of_lt_of_le (hNM b hb) s1) k3 fun b hb => Nat.lt_of_lt_of_le (hNM b hb) (by omega)) k4 fun b hb => Nat.lt_of_lt_of_le (hNM b hb) (by omega)
    have hM5 := rep_below hM4 k5 fun b hb => Nat.lt_of_lt_of_le (hNM b hb) (by omega)
    have hM6 : RepI w6 NM _ _ := hM5.mono (fun _ h => h) fun b hb o u hu => by
      have h1 := hNM b hb
      rw [cell_heap (hE.far b (by omega) (.inl (by omega)))]; exact hu
    refine (calls_rep (ivs := [.agg (Cn.mk nk nty nto nlab nneg nks).cells, .agg (Cn.mk nk nty nto nlab nneg nks).cells]) d24n (rows2 hX6 (fun b hb => by have := hb.1; omega) hM6 fun b hb => by have := hNM b hb; omega)).mono fun e w7 ⟨h1, x, he, hx⟩ => ⟨h1, ?_⟩
    cases hx
    exact he
  · intro w'
    refine (calls_rep (ivs := []) wakes_does Rows2.nil).mono fun e w'' ⟨h1, x, he, hx⟩ => ⟨h1, ?_⟩
    cases hx
    exact he
  · intro w' t ht hb
    refine ⟨rfl, .bool true, ?_, bel.trans (hb.mono bel.size), rfl⟩
    have g2 : t.getD 2 undef = .bool true := by rw [Array.getD_eq_getD_getElem?, ht]; rfl
    simp [results, Try.results4, ht]
end Go.Proofs.Ytopgmopdjiahmaa
