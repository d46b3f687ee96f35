/- Texts of one proof, joined by program (gen/merge.py): Wa Mj Wb. Conditions: none; plain definitions and lemmas. -/
import Derived.Test.YtopgmopdjiahmaaG21
import Derived.Test.YtopgmopdjiahmaaG4
import Derived.Test.YtopgmopdjiahmaaProg
/- NormLabels: plain law. Conditions: none; plain definitions and lemmas. -/
set_option linter.unusedVariables false
set_option linter.unusedSimpArgs false
set_option maxRecDepth 100000
namespace Go.Proofs.Ytopgmopdjiahmaa.Lg
open Go Go.RowKit Go.Proofs

mutual
/-- are all labels this one? -/
def Cn.lbd (p : Int) : Cn → Bool
  | .mk k _ _ lab _ ks => if (k == 3 || k == 1) && lab != p then false else Cn.lbdL p ks
def Cn.lbdL (p : Int) : List Cn → Bool
  | [] => true
  | c :: r => c.lbd p && Cn.lbdL p r
end
theorem OfR.lbd {lab : Int} {neg : Bool} {a b : Ty} {c : Cn} (h : OfR lab neg a b c) : c.lbd lab = true := by
  induction h with
  | id neg k us => simp [Cn.lbd, Cn.lbdL]
  | inn neg k ts us c hk hc h ih => simp [part, Cn.lbd, Cn.lbdL, ih]
  | out neg k ts us c hk hc h ih => simp [part, Cn.lbd, Cn.lbdL, ih]
  | fn neg f0 f1 t0 t1 c d h h' ih ih' => simp [part, Cn.lbd, Cn.lbdL, ih, ih']
  | two neg k f0 f1 t0 t1 c d hk h h' ih ih' =>
    have h1 : ¬ k + 1 = 3 := by omega
    have h2 : ¬ k + 1 = 1 := by omega
    simp [part, Cn.lbd, Cn.lbdL, ih, ih', h1, h2]
theorem chk_of {c : Cn} (hc : c.cnt ≤ 8192) (hd : c.dp ≤ 200) (he : c.ends.2.2 = true) (h1 : c.ends.1.check = 0) (h2 : c.ends.2.1.check = 0) : c.chk = (c.ends.1, c.ends.2.1, 0) := by
  have hf := (few_iff c).2 hc
  have hd' : ¬ c.deep 201 > 200 := fun h => by have := (deep_iff hc).1 h; omega
  unfold Cn.chk
  rw [if_neg (by simp [hf]), if_neg hd', if_neg (by simp [he]), if_neg (by simp [h1]), if_neg (by simp [h2])]
theorem norm_id {t : Ty} (h : t.check = 0) (hn : (t.nodes : Int) + 1 ≤ 8192) (hh : t.high + 1 ≤ 200) : normA (.mk 0 t .un 0 false []) = tolN t.idn := by
  have he : (Cn.mk 0 t .un 0 false []).ends = (t, t, true) := by simp [Cn.ends, leafF, leafE, h]
  have hk := chk_of (c := .mk 0 t .un 0 false []) (by simp [Cn.cnt, Cn.cntL, leafF]; omega) (by simp [Cn.dp, Cn.dpL, dp0, leafF]; omega) (by rw [he]) (by rw [he]; exact h) (by rw [he]; exact h)
  unfold normA
  rw [if_pos (by rw [hk]), show (Cn.mk 0 t .un 0 false []).nf = t.idn from by simp [Cn.nf, nfK]]
/-- what a cast tells -/
theorem cast_all {a b : Ty} {lab : Int} {r : Cn × Int} (h : CastA a b lab r) : (r.2 ≠ 0 ∧ r.1 = .zero) ∨
    ∃ N : Nf, N.wf 2 ∧ N.en = (a, b) ∧ r = (N.cn, 0) ∧ N.cn.chk.2.2 = 0 ∧ a.check = 0 ∧ b.check = 0 ∧ N.cn.lbd (labN lab) = true ∧ N.hi ≤ maxI a.high b.high ∧ ((a.nodes : Int) + 1 ≤ 8192 ∧ (b.nodes : Int) + 1 ≤ 8192) ∧ a.high + 1 ≤ 200 ∧ b.high + 1 ≤ 200 := by
  by_cases h0 : r.2 = 0
  · obtain ⟨c, o, hl, ca, cb, w, en, hr, hk⟩ := castA_ok h h0
    obtain ⟨i1, i2, _, _⟩ := o.small (labOk_N hl) ca cb
    have hd := hi_de c.nf
    obtain ⟨hf, hp, _⟩ := ok_iff hk
    have hc := (few_iff _).1 hf
    have hdp : ¬ c.nf.cn.dp > 200 := fun h => hp ((deep_iff hc).2 h)
    have es := en_small w
    rw [en] at es
    refine .inr ⟨c.nf, w, en, hr, hk, ca, cb, by rw [i1]; exact o.lbd, by omega, ⟨by have := es.1.1; simp only at this; omega, by have := es.1.2; simp only at this; omega⟩, by have := es.2.1; simp only at this; omega, by have := es.2.2; simp only at this; omega⟩
  · refine .inl ⟨h0, ?_⟩
    cases h with
    | mk c e hA =>
      by_cases he : e = 0
      · rw [if_pos he] at h0 ⊢
        unfold normA at h0 ⊢
        split at h0 <;> rename_i hc
        · rw [if_pos hc]
          unfold tolN at h0 ⊢
          split at h0
          · exact absurd rfl h0
          · rename_i hz; rw [if_neg hz]
        · rw [if_neg hc]
      · rw [if_neg he]
end Go.Proofs.Ytopgmopdjiahmaa.Lg

/- MADE BY PROGRAM (gen/mk.py): the code of functions, as the logic sees it. Conditions: none; plain definitions and lemmas. -/
set_option linter.unusedVariables false
set_option linter.defProp false
set_option maxRecDepth 100000
namespace Go.Proofs.Ytopgmopdjiahmaa.Lg
open Go Go.RowKit Go.Proofs
variable {Q : AEx → St → Prop} {σ : St}

/-! ### 141: (*lychgate/terms.counter).add -/
def r141_0 : MC := .reg [⟨none, (.mv 4 (.t 0))⟩, ⟨none, (.nilc 5 (.t 4))⟩, ⟨none, (.fad 6 (.t 5) 0)⟩, ⟨none, (.load 7 (.t 6) none)⟩, ⟨none, (.mv 8 (.t 1))⟩, ⟨none, (.bin 9 .add (.t 7) (.t 8))⟩, ⟨none, (.nilc 10 (.t 4))⟩, ⟨none, (.fad 11 (.t 10) 0)⟩, ⟨none, (.store (.t 11) (.t 9) 1)⟩] none (some ([0], []))
def w141_0 := @awpR_no Try.prog Q σ r141_0 _ _ ⟨rfl, rfl⟩
def r141_1 : MC := .reg [⟨none, (.mv 12 (.t 0))⟩, ⟨none, (.nilc 13 (.t 12))⟩, ⟨none, (.fad 14 (.t 13) 0)⟩, ⟨none, (.load 15 (.t 14) none)⟩, ⟨none, (.bin 16 .gtr (.t 15) (.c (.imm true (.int .i64 8192))))⟩] none (some ([16], []))
def w141_1 := @awpR_no Try.prog Q σ r141_1 _ _ ⟨rfl, rfl⟩
def r141_2 : MC := .reg [⟨none, (.build 17 [] [])⟩, ⟨none, (.mkif 18 114 (.t 17))⟩, ⟨none, (.pan (.t 18))⟩] none (some ([], []))
def w141_2 := @awpR_no Try.prog Q σ r141_2 _ _ ⟨rfl, rfl⟩
def my141 : MC := (.seq r141_0 (.seq r141_1 (.cond (.t 16) r141_2 .skip)))
theorem my141_is : trC Try.prog ⟨[], []⟩ ⟨[],
  [(0, [0], []), (1, [16], []), (2, [], [])]⟩ 19 (Try.f141.body.getD .skip) = some my141 := by kernel_rfl
theorem does141 {args : List LV} (hl : args.length.ble 19 = true) {S S' : List (List LV)} (hS : S'.length = S.length) {o : Out} (h : Lt ⟨numE 0 args, argS 0 S, []⟩ (awp Try.prog my141 (Fin [] o S'))) : Does Try.prog 141 args S o S' :=
  does_of_awp mixed Try.func141 (by kernel_rfl) (by kernel_rfl) my141_is (by kernel_rfl) (Nat.le_of_ble_eq_true hl) hS h
attribute [go_sem ↓] w141_0 w141_1 w141_2
attribute [go_sem] my141
/-! ### 128: (*lychgate/terms.counter).term -/
def r128_0 : MC := .reg [⟨none, (.mv 7 (.t 0))⟩, ⟨none, (.callB (some 8) (.c (.fn 141 [])) [(.t 7), (.c (.imm true (.int .i64 1)))] [(.arg 0)])⟩] none (some ([0, 1], []))
def w128_0 := @awpR_no Try.prog Q σ r128_0 _ _ ⟨rfl, rfl⟩
def r128_1 : MC := .reg [⟨none, (.mv 10 (.t 1))⟩, ⟨none, (.nilc 11 (.t 10))⟩, ⟨none, (.fad 12 (.t 11) 0)⟩, ⟨none, (.load 13 (.t 12) none)⟩, ⟨none, (.call (some 14) (.c (.fn 130 [])) [(.t 13)])⟩, ⟨none, (.mv 9 (.t 14))⟩, ⟨none, (.ext 15 (.t 9) 0)⟩, ⟨none, (.ext 16 (.t 9) 1)⟩, ⟨none, (.alloc 4 [(.imm true (.int .i64 0)), (.imm true (.bool false)), (.imm true (.bool false)), (.imm true (.bool false)), (.imm true (.bool false)), (.imm true (.bool false)), (.imm true (.bool false)), (.imm true (.bool false))])⟩, ⟨none, (.store (.t 4) (.t 15) 8)⟩, ⟨none, (.mv 5 (.t 16))⟩] none (some ([0, 1, 4], [4]))
def w128_1 := @awpR_get Try.prog Q σ r128_1 _ _ [4] ⟨rfl, rfl⟩
def r128_2 : MC := .reg [⟨none, (.fad 17 (.t 4) 4)⟩, ⟨none, (.load 18 (.t 17) none)⟩] none (some ([0, 1, 4, 18], [4]))
def w128_2 := @awpR_no Try.prog Q σ r128_2 _ _ ⟨rfl, rfl⟩
def r128_3 : MC := .reg [⟨none, (.mv 19 (.t 0))⟩, ⟨none, (.mv 20 (.t 1))⟩, ⟨none, (.nilc 21 (.t 20))⟩, ⟨none, (.fad 22 (.t 21) 4)⟩, ⟨none, (.load 23 (.t 22) (some 2))⟩, ⟨none, (.call (some 24) (.c (.fn 38 [])) [(.t 23)])⟩, ⟨none, (.callB (some 25) (.c (.fn 141 [])) [(.t 19), (.t 24)] [(.arg 0)])⟩] none (some ([0, 1, 4], [4]))
def w128_3 := @awpR_no Try.prog Q σ r128_3 _ _ ⟨rfl, rfl⟩
def r128_4 : MC := .reg [⟨none, (.fad 26 (.t 4) 5)⟩, ⟨none, (.load 27 (.t 26) none)⟩] none (some ([0, 1, 27], []))
def w128_4 := @awpR_no Try.prog Q σ r128_4 _ _ ⟨rfl, rfl⟩
def r128_5 : MC := .reg [⟨none, (.mv 28 (.t 0))⟩, ⟨none, (.mv 29 (.t 1))⟩, ⟨none, (.nilc 30 (.t 29))⟩, ⟨none, (.fad 31 (.t 30) 6)⟩, ⟨none, (.load 32 (.t 31) (some 2))⟩, ⟨none, (.call (some 33) (.c (.fn 38 [])) [(.t 32)])⟩, ⟨none, (.callB (some 34) (.c (.fn 141 [])) [(.t 28), (.t 33)] [(.arg 0)])⟩] none (some ([0, 1], []))
def w128_5 := @awpR_no Try.prog Q σ r128_5 _ _ ⟨rfl, rfl⟩
def r128_6 : MC := .reg [⟨none, (.mv 35 (.t 1))⟩, ⟨none, (.nilc 36 (.t 35))⟩, ⟨none, (.fad 37 (.t 36) 10)⟩, ⟨none, (.load 38 (.t 37) none)⟩, ⟨none, (.len 39 (.t 38))⟩, ⟨none, (.mv 40 (.c (.imm true (.int .i64 0))))⟩] none (some ([0, 1, 39, 40], []))
def w128_6 := @awpR_no Try.prog Q σ r128_6 _ _ ⟨rfl, rfl⟩
def r128_7 : MC := .reg [⟨none, (.bin 41 .lss (.t 40) (.t 39))⟩] none (some ([0, 1, 39, 40, 41], []))
def w128_7 := @awpR_no Try.prog Q σ r128_7 _ _ ⟨rfl, rfl⟩
def r128_8 : MC := .reg [⟨none, (.mv 42 (.t 40))⟩, ⟨none, (.mv 6 (.t 42))⟩] none (some ([0, 1, 6, 39, 40], []))
def w128_8 := @awpR_no Try.prog Q σ r128_8 _ _ ⟨rfl, rfl⟩
def r128_9 : MC := .reg [⟨none, (.mv 43 (.t 0))⟩, ⟨none, (.mv 44 (.t 1))⟩, ⟨none, (.nilc 45 (.t 44))⟩, ⟨none, (.fad 46 (.t 45) 10)⟩, ⟨none, (.load 47 (.t 46) none)⟩, ⟨none, (.mv 48 (.t 6))⟩, ⟨none, (.iad 49 (.t 47) (.t 48) 11)⟩, ⟨none, (.callB (some 50) (.c (.fn 128 [])) [(.t 43), (.t 49)] [(.arg 0)])⟩] none (some ([0, 1, 39, 40], []))
def w128_9 := @awpR_no Try.prog Q σ r128_9 _ _ ⟨rfl, rfl⟩
def r128_10 : MC := .reg [⟨none, (.bin 51 .add (.t 40) (.c (.imm true (.int .i64 1))))⟩, ⟨none, (.mv 40 (.t 51))⟩] none (some ([0, 1, 39, 40], []))
def w128_10 := @awpR_no Try.prog Q σ r128_10 _ _ ⟨rfl, rfl⟩
def l128_0 : MC := (.seq r128_7 (.seq (.cond (.t 41) .skip (.exit 0)) (.seq (.block 1 (.seq r128_8 r128_9)) r128_10)))
def my128 : MC := (.seq r128_0 (.seq r128_1 (.seq (.seq r128_2 (.cond (.t 18) r128_3 .skip)) (.seq (.seq r128_4 (.cond (.t 27) r128_5 .skip)) (.seq r128_6 (.block 0 (.loop l128_0)))))))
theorem my128_is : trC Try.prog ⟨[], [(8, [.arg 0]), (25, [.arg 0]), (34, [.arg 0]), (50, [.arg 0])]⟩ ⟨[],
  [(0, [0, 1], []), (1, [0, 1, 4], [4]), (2, [0, 1, 4, 18], [4]), (3, [0, 1, 4], [4]), (4, [0, 1, 27], []), (5, [0, 1], []), (6, [0, 1, 39, 40], []), (7, [0, 1, 39, 40, 41], []), (8, [0, 1, 6, 39, 40], []), (9, [0, 1, 39, 40], []), (10, [0, 1, 39, 40], [])]⟩ 52 (Try.f128.body.getD .skip) = some my128 := by kernel_rfl
theorem does128 {args : List LV} (hl : args.length.ble 52 = true) {S S' : List (List LV)} (hS : S'.length = S.length) {o : Out} (h : Lt ⟨numE 0 args, argS 0 S, []⟩ (awp Try.prog my128 (Fin [] o S'))) : Does Try.prog 128 args S o S' :=
  does_of_awp mixed Try.func128 (by kernel_rfl) (by kernel_rfl) my128_is (by kernel_rfl) (Nat.le_of_ble_eq_true hl) hS h
attribute [go_sem ↓] w128_0 w128_1 w128_2 w128_3 w128_4 w128_5 w128_6 w128_7 w128_8 w128_9 w128_10
attribute [go_sem] my128
/-! ### 106: lychgate/terms.Depth -/
def r106_0 : MC := .reg [⟨none, (.boxc 1 (.t 0))⟩, ⟨none, (.mv 2 (.c (.imm true (.int .i64 0))))⟩] none (some ([1], []))
def w106_0 := @awpR_no Try.prog Q σ r106_0 _ _ ⟨rfl, rfl⟩
def r106_1 : MC := .reg [⟨none, (.load 3 (.t 1) (some 11))⟩, ⟨none, (.call (some 4) (.c (.fn 105 [])) [(.t 3)])⟩, ⟨none, (.bin 5 .gtr (.t 4) (.c (.imm true (.int .i64 8192))))⟩] none (some ([1, 5], []))
def w106_1 := @awpR_no Try.prog Q σ r106_1 _ _ ⟨rfl, rfl⟩
def r106_2 : MC := .reg [⟨none, (.mv 2 (.c (.imm true (.int .i64 201))))⟩] none (some ([2], []))
def w106_2 := @awpR_no Try.prog Q σ r106_2 _ _ ⟨rfl, rfl⟩
def r106_3 : MC := .reg [⟨none, (.call (some 6) (.c (.fn 129 [])) [(.t 1), (.c (.imm true (.int .i64 201)))])⟩, ⟨none, (.mv 2 (.t 6))⟩] none (some ([2], []))
def w106_3 := @awpR_no Try.prog Q σ r106_3 _ _ ⟨rfl, rfl⟩
def my106 : MC := (.seq r106_0 (.seq (.seq r106_1 (.cond (.t 5) (.seq r106_2 .ret) .skip)) (.seq r106_3 .ret)))
theorem my106_is : trC Try.prog ⟨[1], []⟩ ⟨[],
  [(0, [1], []), (1, [1, 5], []), (2, [2], []), (3, [2], [])]⟩ 7 (Try.f106.body.getD .skip) = some my106 := by kernel_rfl
theorem does106 {args : List LV} (hl : args.length.ble 7 = true) {S S' : List (List LV)} (hS : S'.length = S.length) {o : Out} (h : Lt ⟨numE 0 args, argS 0 S, []⟩ (awp Try.prog my106 (Fin [(.t 2)] o S'))) : Does Try.prog 106 args S o S' :=
  does_of_awp mixed Try.func106 (by kernel_rfl) (by kernel_rfl) my106_is (by kernel_rfl) (Nat.le_of_ble_eq_true hl) hS h
attribute [go_sem ↓] w106_0 w106_1 w106_2 w106_3
attribute [go_sem] my106
/-! ### 129: lychgate/terms.depth -/
def r129_0 : MC := .reg [⟨none, (.mv 4 (.c (.imm true (.int .i64 0))))⟩] none (some ([0, 1], []))
def w129_0 := @awpR_no Try.prog Q σ r129_0 _ _ ⟨rfl, rfl⟩
def r129_1 : MC := .reg [⟨none, (.mv 9 (.t 1))⟩, ⟨none, (.bin 10 .eql (.t 9) (.c (.imm true (.int .i64 1))))⟩] none (some ([0, 1, 10], []))
def w129_1 := @awpR_no Try.prog Q σ r129_1 _ _ ⟨rfl, rfl⟩
def r129_2 : MC := .reg [⟨none, (.mv 4 (.c (.imm true (.int .i64 1))))⟩] none (some ([4], []))
def w129_2 := @awpR_no Try.prog Q σ r129_2 _ _ ⟨rfl, rfl⟩
def r129_3 : MC := .reg [⟨none, (.mv 5 (.c (.imm true (.int .i64 0))))⟩] none (some ([0, 1, 5], []))
def w129_3 := @awpR_no Try.prog Q σ r129_3 _ _ ⟨rfl, rfl⟩
def r129_4 : MC := .reg [⟨none, (.mv 12 (.t 0))⟩, ⟨none, (.nilc 13 (.t 12))⟩, ⟨none, (.fad 14 (.t 13) 0)⟩, ⟨none, (.load 15 (.t 14) none)⟩, ⟨none, (.call (some 16) (.c (.fn 130 [])) [(.t 15)])⟩, ⟨none, (.mv 11 (.t 16))⟩, ⟨none, (.ext 17 (.t 11) 0)⟩, ⟨none, (.ext 18 (.t 11) 1)⟩, ⟨none, (.alloc 6 [(.imm true (.int .i64 0)), (.imm true (.bool false)), (.imm true (.bool false)), (.imm true (.bool false)), (.imm true (.bool false)), (.imm true (.bool false)), (.imm true (.bool false)), (.imm true (.bool false))])⟩, ⟨none, (.store (.t 6) (.t 17) 8)⟩, ⟨none, (.mv 7 (.t 18))⟩] none (some ([0, 1, 5, 6], [6]))
def w129_4 := @awpR_get Try.prog Q σ r129_4 _ _ [6] ⟨rfl, rfl⟩
def r129_5 : MC := .reg [⟨none, (.fad 19 (.t 6) 4)⟩, ⟨none, (.load 20 (.t 19) none)⟩] none (some ([0, 1, 5, 6, 20], [6]))
def w129_5 := @awpR_no Try.prog Q σ r129_5 _ _ ⟨rfl, rfl⟩
def r129_6 : MC := .reg [⟨none, (.mv 21 (.t 0))⟩, ⟨none, (.nilc 22 (.t 21))⟩, ⟨none, (.fad 23 (.t 22) 4)⟩, ⟨none, (.load 24 (.t 23) (some 2))⟩, ⟨none, (.call (some 25) (.c (.fn 70 [])) [(.t 24)])⟩, ⟨none, (.mv 5 (.t 25))⟩] none (some ([0, 1, 5, 6], [6]))
def w129_6 := @awpR_no Try.prog Q σ r129_6 _ _ ⟨rfl, rfl⟩
def r129_7 : MC := .reg [⟨none, (.fad 26 (.t 6) 5)⟩, ⟨none, (.load 27 (.t 26) none)⟩] none (some ([0, 1, 5, 27], []))
def w129_7 := @awpR_no Try.prog Q σ r129_7 _ _ ⟨rfl, rfl⟩
def r129_8 : MC := .reg [⟨none, (.mv 28 (.t 5))⟩, ⟨none, (.mv 29 (.t 0))⟩, ⟨none, (.nilc 30 (.t 29))⟩, ⟨none, (.fad 31 (.t 30) 6)⟩, ⟨none, (.load 32 (.t 31) (some 2))⟩, ⟨none, (.call (some 33) (.c (.fn 70 [])) [(.t 32)])⟩, ⟨none, (.mx 34 [(.t 28), (.t 33)])⟩, ⟨none, (.mv 5 (.t 34))⟩] none (some ([0, 1, 5], []))
def w129_8 := @awpR_no Try.prog Q σ r129_8 _ _ ⟨rfl, rfl⟩
def r129_9 : MC := .reg [⟨none, (.mv 35 (.t 0))⟩, ⟨none, (.nilc 36 (.t 35))⟩, ⟨none, (.fad 37 (.t 36) 10)⟩, ⟨none, (.load 38 (.t 37) none)⟩, ⟨none, (.len 39 (.t 38))⟩, ⟨none, (.mv 40 (.c (.imm true (.int .i64 0))))⟩] none (some ([0, 1, 5, 39, 40], []))
def w129_9 := @awpR_no Try.prog Q σ r129_9 _ _ ⟨rfl, rfl⟩
def r129_10 : MC := .reg [⟨none, (.bin 41 .lss (.t 40) (.t 39))⟩] none (some ([0, 1, 5, 39, 40, 41], []))
def w129_10 := @awpR_no Try.prog Q σ r129_10 _ _ ⟨rfl, rfl⟩
def r129_11 : MC := .reg [⟨none, (.mv 42 (.t 40))⟩, ⟨none, (.mv 8 (.t 42))⟩] none (some ([0, 1, 5, 8, 39, 40], []))
def w129_11 := @awpR_no Try.prog Q σ r129_11 _ _ ⟨rfl, rfl⟩
def r129_12 : MC := .reg [⟨none, (.mv 43 (.t 5))⟩, ⟨none, (.mv 44 (.t 0))⟩, ⟨none, (.nilc 45 (.t 44))⟩, ⟨none, (.fad 46 (.t 45) 10)⟩, ⟨none, (.load 47 (.t 46) none)⟩, ⟨none, (.mv 48 (.t 8))⟩, ⟨none, (.iad 49 (.t 47) (.t 48) 11)⟩, ⟨none, (.mv 50 (.t 1))⟩, ⟨none, (.bin 51 .sub (.t 50) (.c (.imm true (.int .i64 1))))⟩, ⟨none, (.call (some 52) (.c (.fn 129 [])) [(.t 49), (.t 51)])⟩, ⟨none, (.mx 53 [(.t 43), (.t 52)])⟩, ⟨none, (.mv 5 (.t 53))⟩] none (some ([0, 1, 5, 39, 40], []))
def w129_12 := @awpR_no Try.prog Q σ r129_12 _ _ ⟨rfl, rfl⟩
def r129_13 : MC := .reg [⟨none, (.bin 54 .add (.t 40) (.c (.imm true (.int .i64 1))))⟩, ⟨none, (.mv 40 (.t 54))⟩] none (some ([0, 1, 5, 39, 40], []))
def w129_13 := @awpR_no Try.prog Q σ r129_13 _ _ ⟨rfl, rfl⟩
def l129_0 : MC := (.seq r129_10 (.seq (.cond (.t 41) .skip (.exit 0)) (.seq (.block 1 (.seq r129_11 r129_12)) r129_13)))
def r129_14 : MC := .reg [⟨none, (.mv 55 (.t 5))⟩, ⟨none, (.bin 56 .add (.t 55) (.c (.imm true (.int .i64 1))))⟩, ⟨none, (.mv 57 (.t 1))⟩, ⟨none, (.mn 58 [(.t 56), (.t 57)])⟩, ⟨none, (.mv 4 (.t 58))⟩] none (some ([4], []))
def w129_14 := @awpR_no Try.prog Q σ r129_14 _ _ ⟨rfl, rfl⟩
def my129 : MC := (.seq r129_0 (.seq (.seq r129_1 (.cond (.t 10) (.seq r129_2 .ret) .skip)) (.seq r129_3 (.seq r129_4 (.seq (.seq r129_5 (.cond (.t 20) r129_6 .skip)) (.seq (.seq r129_7 (.cond (.t 27) r129_8 .skip)) (.seq (.seq r129_9 (.block 0 (.loop l129_0))) (.seq r129_14 .ret))))))))
theorem my129_is : trC Try.prog ⟨[], []⟩ ⟨[],
  [(0, [0, 1], []), (1, [0, 1, 10], []), (2, [4], []), (3, [0, 1, 5], []), (4, [0, 1, 5, 6], [6]), (5, [0, 1, 5, 6, 20], [6]), (6, [0, 1, 5, 6], [6]), (7, [0, 1, 5, 27], []), (8, [0, 1, 5], []), (9, [0, 1, 5, 39, 40], []), (10, [0, 1, 5, 39, 40, 41], []), (11, [0, 1, 5, 8, 39, 40], []), (12, [0, 1, 5, 39, 40], []), (13, [0, 1, 5, 39, 40], []), (14, [4], [])]⟩ 59 (Try.f129.body.getD .skip) = some my129 := by kernel_rfl
theorem does129 {args : List LV} (hl : args.length.ble 59 = true) {S S' : List (List LV)} (hS : S'.length = S.length) {o : Out} (h : Lt ⟨numE 0 args, argS 0 S, []⟩ (awp Try.prog my129 (Fin [(.t 4)] o S'))) : Does Try.prog 129 args S o S' :=
  does_of_awp mixed Try.func129 (by kernel_rfl) (by kernel_rfl) my129_is (by kernel_rfl) (Nat.le_of_ble_eq_true hl) hS h
attribute [go_sem ↓] w129_0 w129_1 w129_2 w129_3 w129_4 w129_5 w129_6 w129_7 w129_8 w129_9 w129_10 w129_11 w129_12 w129_13 w129_14
attribute [go_sem] my129
/-! ### 130: lychgate/terms.of -/
def r130_0 : MC := .reg [⟨none, (.alloc 2 [(.imm true (.int .i64 0)), (.imm true (.bool false)), (.imm true (.bool false)), (.imm true (.bool false)), (.imm true (.bool false)), (.imm true (.bool false)), (.imm true (.bool false)), (.imm true (.bool false))])⟩, ⟨none, (.mv 3 (.c (.imm true (.bool false))))⟩] none (some ([0, 2], [2]))
def w130_0 := @awpR_get Try.prog Q σ r130_0 _ _ [2] ⟨rfl, rfl⟩
def r130_1 : MC := .reg [⟨none, (.mv 4 (.t 0))⟩] none (some ([2, 4], [2]))
def w130_1 := @awpR_no Try.prog Q σ r130_1 _ _ ⟨rfl, rfl⟩
def r130_2 : MC := .reg [⟨none, (.bin 6 .eql (.t 4) (.c (.imm true (.int .i8 0))))⟩, ⟨none, (.mv 5 (.t 6))⟩] none (some ([2, 4, 5], [2]))
def w130_2 := @awpR_no Try.prog Q σ r130_2 _ _ ⟨rfl, rfl⟩
def r130_3 : MC := .reg [⟨none, (.build 7 [(.imm true (.int .i64 0)), (.imm true (.bool false)), (.imm true (.bool false)), (.imm true (.bool false)), (.imm true (.bool false)), (.imm true (.bool false)), (.imm true (.bool false)), (.imm true (.bool false))] [(1, (1, (.c (.imm true (.bool true)))))])⟩, ⟨none, (.store (.t 2) (.t 7) 8)⟩, ⟨none, (.mv 3 (.c (.imm true (.bool true))))⟩] none (some ([2, 3], [2]))
def w130_3 := @awpR_no Try.prog Q σ r130_3 _ _ ⟨rfl, rfl⟩
def r130_4 : MC := .reg [⟨none, (.bin 9 .eql (.t 4) (.c (.imm true (.int .i8 1))))⟩, ⟨none, (.mv 8 (.t 9))⟩] none (some ([2, 4, 8], [2]))
def w130_4 := @awpR_no Try.prog Q σ r130_4 _ _ ⟨rfl, rfl⟩
def r130_5 : MC := .reg [⟨none, (.build 10 [(.imm true (.int .i64 0)), (.imm true (.bool false)), (.imm true (.bool false)), (.imm true (.bool false)), (.imm true (.bool false)), (.imm true (.bool false)), (.imm true (.bool false)), (.imm true (.bool false))] [(3, (1, (.c (.imm true (.bool true)))))])⟩, ⟨none, (.store (.t 2) (.t 10) 8)⟩, ⟨none, (.mv 3 (.c (.imm true (.bool true))))⟩] none (some ([2, 3], [2]))
def w130_5 := @awpR_no Try.prog Q σ r130_5 _ _ ⟨rfl, rfl⟩
def r130_6 : MC := .reg [⟨none, (.bin 12 .eql (.t 4) (.c (.imm true (.int .i8 2))))⟩, ⟨none, (.mv 11 (.t 12))⟩] none (some ([2, 4, 11], [2]))
def w130_6 := @awpR_no Try.prog Q σ r130_6 _ _ ⟨rfl, rfl⟩
def r130_7 : MC := .reg [⟨none, (.bin 13 .eql (.t 4) (.c (.imm true (.int .i8 3))))⟩, ⟨none, (.mv 11 (.t 13))⟩] none (some ([2, 4, 11], [2]))
def w130_7 := @awpR_no Try.prog Q σ r130_7 _ _ ⟨rfl, rfl⟩
def r130_8 : MC := .reg [⟨none, (.build 14 [(.imm true (.int .i64 0)), (.imm true (.bool false)), (.imm true (.bool false)), (.imm true (.bool false)), (.imm true (.bool false)), (.imm true (.bool false)), (.imm true (.bool false)), (.imm true (.bool false))] [])⟩, ⟨none, (.store (.t 2) (.t 14) 8)⟩, ⟨none, (.mv 3 (.c (.imm true (.bool true))))⟩] none (some ([2, 3], [2]))
def w130_8 := @awpR_no Try.prog Q σ r130_8 _ _ ⟨rfl, rfl⟩
def r130_9 : MC := .reg [⟨none, (.bin 16 .eql (.t 4) (.c (.imm true (.int .i8 4))))⟩, ⟨none, (.mv 15 (.t 16))⟩] none (some ([2, 4, 15], [2]))
def w130_9 := @awpR_no Try.prog Q σ r130_9 _ _ ⟨rfl, rfl⟩
def r130_10 : MC := .reg [⟨none, (.build 17 [(.imm true (.int .i64 0)), (.imm true (.bool false)), (.imm true (.bool false)), (.imm true (.bool false)), (.imm true (.bool false)), (.imm true (.bool false)), (.imm true (.bool false)), (.imm true (.bool false))] [(0, (1, (.c (.imm true (.int .i64 1))))), (1, (1, (.c (.imm true (.bool true))))), (4, (1, (.c (.imm true (.bool true)))))])⟩, ⟨none, (.store (.t 2) (.t 17) 8)⟩, ⟨none, (.mv 3 (.c (.imm true (.bool true))))⟩] none (some ([2, 3], [2]))
def w130_10 := @awpR_no Try.prog Q σ r130_10 _ _ ⟨rfl, rfl⟩
def r130_11 : MC := .reg [⟨none, (.bin 19 .eql (.t 4) (.c (.imm true (.int .i8 5))))⟩, ⟨none, (.mv 18 (.t 19))⟩] none (some ([2, 4, 18], [2]))
def w130_11 := @awpR_no Try.prog Q σ r130_11 _ _ ⟨rfl, rfl⟩
def r130_12 : MC := .reg [⟨none, (.build 20 [(.imm true (.int .i64 0)), (.imm true (.bool false)), (.imm true (.bool false)), (.imm true (.bool false)), (.imm true (.bool false)), (.imm true (.bool false)), (.imm true (.bool false)), (.imm true (.bool false))] [(0, (1, (.c (.imm true (.int .i64 1))))), (1, (1, (.c (.imm true (.bool true))))), (2, (1, (.c (.imm true (.bool true))))), (4, (1, (.c (.imm true (.bool true))))), (5, (1, (.c (.imm true (.bool true)))))])⟩, ⟨none, (.store (.t 2) (.t 20) 8)⟩, ⟨none, (.mv 3 (.c (.imm true (.bool true))))⟩] none (some ([2, 3], [2]))
def w130_12 := @awpR_no Try.prog Q σ r130_12 _ _ ⟨rfl, rfl⟩
def r130_13 : MC := .reg [⟨none, (.bin 22 .eql (.t 4) (.c (.imm true (.int .i8 6))))⟩, ⟨none, (.mv 21 (.t 22))⟩] none (some ([2, 4, 21], [2]))
def w130_13 := @awpR_no Try.prog Q σ r130_13 _ _ ⟨rfl, rfl⟩
def r130_14 : MC := .reg [⟨none, (.bin 23 .eql (.t 4) (.c (.imm true (.int .i8 9))))⟩, ⟨none, (.mv 21 (.t 23))⟩] none (some ([2, 4, 21], [2]))
def w130_14 := @awpR_no Try.prog Q σ r130_14 _ _ ⟨rfl, rfl⟩
def r130_15 : MC := .reg [⟨none, (.build 24 [(.imm true (.int .i64 0)), (.imm true (.bool false)), (.imm true (.bool false)), (.imm true (.bool false)), (.imm true (.bool false)), (.imm true (.bool false)), (.imm true (.bool false)), (.imm true (.bool false))] [(0, (1, (.c (.imm true (.int .i64 2)))))])⟩, ⟨none, (.store (.t 2) (.t 24) 8)⟩, ⟨none, (.mv 3 (.c (.imm true (.bool true))))⟩] none (some ([2, 3], [2]))
def w130_15 := @awpR_no Try.prog Q σ r130_15 _ _ ⟨rfl, rfl⟩
def r130_16 : MC := .reg [⟨none, (.bin 26 .eql (.t 4) (.c (.imm true (.int .i8 7))))⟩, ⟨none, (.mv 25 (.t 26))⟩] none (some ([2, 4, 25], [2]))
def w130_16 := @awpR_no Try.prog Q σ r130_16 _ _ ⟨rfl, rfl⟩
def r130_17 : MC := .reg [⟨none, (.build 27 [(.imm true (.int .i64 0)), (.imm true (.bool false)), (.imm true (.bool false)), (.imm true (.bool false)), (.imm true (.bool false)), (.imm true (.bool false)), (.imm true (.bool false)), (.imm true (.bool false))] [(0, (1, (.c (.imm true (.int .i64 2))))), (1, (1, (.c (.imm true (.bool true))))), (4, (1, (.c (.imm true (.bool true)))))])⟩, ⟨none, (.store (.t 2) (.t 27) 8)⟩, ⟨none, (.mv 3 (.c (.imm true (.bool true))))⟩] none (some ([2, 3], [2]))
def w130_17 := @awpR_no Try.prog Q σ r130_17 _ _ ⟨rfl, rfl⟩
def r130_18 : MC := .reg [⟨none, (.bin 29 .eql (.t 4) (.c (.imm true (.int .i8 8))))⟩, ⟨none, (.mv 28 (.t 29))⟩] none (some ([2, 4, 28], [2]))
def w130_18 := @awpR_no Try.prog Q σ r130_18 _ _ ⟨rfl, rfl⟩
def r130_19 : MC := .reg [⟨none, (.build 30 [(.imm true (.int .i64 0)), (.imm true (.bool false)), (.imm true (.bool false)), (.imm true (.bool false)), (.imm true (.bool false)), (.imm true (.bool false)), (.imm true (.bool false)), (.imm true (.bool false))] [(0, (1, (.c (.imm true (.int .i64 3)))))])⟩, ⟨none, (.store (.t 2) (.t 30) 8)⟩, ⟨none, (.mv 3 (.c (.imm true (.bool true))))⟩] none (some ([2, 3], [2]))
def w130_19 := @awpR_no Try.prog Q σ r130_19 _ _ ⟨rfl, rfl⟩
def r130_20 : MC := .reg [⟨none, (.bin 32 .eql (.t 4) (.c (.imm true (.int .i8 10))))⟩, ⟨none, (.mv 31 (.t 32))⟩] none (some ([2, 4, 31], [2]))
def w130_20 := @awpR_no Try.prog Q σ r130_20 _ _ ⟨rfl, rfl⟩
def r130_21 : MC := .reg [⟨none, (.bin 33 .eql (.t 4) (.c (.imm true (.int .i8 11))))⟩, ⟨none, (.mv 31 (.t 33))⟩] none (some ([2, 4, 31], [2]))
def w130_21 := @awpR_no Try.prog Q σ r130_21 _ _ ⟨rfl, rfl⟩
def r130_22 : MC := .reg [⟨none, (.build 34 [(.imm true (.int .i64 0)), (.imm true (.bool false)), (.imm true (.bool false)), (.imm true (.bool false)), (.imm true (.bool false)), (.imm true (.bool false)), (.imm true (.bool false)), (.imm true (.bool false))] [(0, (1, (.c (.imm true (.int .i64 1)))))])⟩, ⟨none, (.store (.t 2) (.t 34) 8)⟩, ⟨none, (.mv 3 (.c (.imm true (.bool true))))⟩] none (some ([2, 3], [2]))
def w130_22 := @awpR_no Try.prog Q σ r130_22 _ _ ⟨rfl, rfl⟩
def r130_23 : MC := .reg [⟨none, (.bin 36 .eql (.t 4) (.c (.imm true (.int .i8 12))))⟩, ⟨none, (.mv 35 (.t 36))⟩] none (some ([2, 4, 35], [2]))
def w130_23 := @awpR_no Try.prog Q σ r130_23 _ _ ⟨rfl, rfl⟩
def r130_24 : MC := .reg [⟨none, (.bin 37 .eql (.t 4) (.c (.imm true (.int .i8 13))))⟩, ⟨none, (.mv 35 (.t 37))⟩] none (some ([2, 4, 35], [2]))
def w130_24 := @awpR_no Try.prog Q σ r130_24 _ _ ⟨rfl, rfl⟩
def r130_25 : MC := .reg [⟨none, (.bin 38 .eql (.t 4) (.c (.imm true (.int .i8 16))))⟩, ⟨none, (.mv 35 (.t 38))⟩] none (some ([2, 4, 35], [2]))
def w130_25 := @awpR_no Try.prog Q σ r130_25 _ _ ⟨rfl, rfl⟩
def r130_26 : MC := .reg [⟨none, (.build 39 [(.imm true (.int .i64 0)), (.imm true (.bool false)), (.imm true (.bool false)), (.imm true (.bool false)), (.imm true (.bool false)), (.imm true (.bool false)), (.imm true (.bool false)), (.imm true (.bool false))] [(0, (1, (.c (.imm true (.int .i64 1))))), (4, (1, (.c (.imm true (.bool true)))))])⟩, ⟨none, (.store (.t 2) (.t 39) 8)⟩, ⟨none, (.mv 3 (.c (.imm true (.bool true))))⟩] none (some ([2, 3], [2]))
def w130_26 := @awpR_no Try.prog Q σ r130_26 _ _ ⟨rfl, rfl⟩
def r130_27 : MC := .reg [⟨none, (.bin 41 .eql (.t 4) (.c (.imm true (.int .i8 14))))⟩, ⟨none, (.mv 40 (.t 41))⟩] none (some ([2, 4, 40], [2]))
def w130_27 := @awpR_no Try.prog Q σ r130_27 _ _ ⟨rfl, rfl⟩
def r130_28 : MC := .reg [⟨none, (.build 42 [(.imm true (.int .i64 0)), (.imm true (.bool false)), (.imm true (.bool false)), (.imm true (.bool false)), (.imm true (.bool false)), (.imm true (.bool false)), (.imm true (.bool false)), (.imm true (.bool false))] [(0, (1, (.c (.imm true (.int .i64 3))))), (1, (1, (.c (.imm true (.bool true))))), (2, (1, (.c (.imm true (.bool true)))))])⟩, ⟨none, (.store (.t 2) (.t 42) 8)⟩, ⟨none, (.mv 3 (.c (.imm true (.bool true))))⟩] none (some ([2, 3], [2]))
def w130_28 := @awpR_no Try.prog Q σ r130_28 _ _ ⟨rfl, rfl⟩
def r130_29 : MC := .reg [⟨none, (.bin 44 .eql (.t 4) (.c (.imm true (.int .i8 15))))⟩, ⟨none, (.mv 43 (.t 44))⟩] none (some ([2, 4, 43], [2]))
def w130_29 := @awpR_no Try.prog Q σ r130_29 _ _ ⟨rfl, rfl⟩
def r130_30 : MC := .reg [⟨none, (.build 45 [(.imm true (.int .i64 0)), (.imm true (.bool false)), (.imm true (.bool false)), (.imm true (.bool false)), (.imm true (.bool false)), (.imm true (.bool false)), (.imm true (.bool false)), (.imm true (.bool false))] [(0, (1, (.c (.imm true (.int .i64 2))))), (7, (1, (.c (.imm true (.bool true)))))])⟩, ⟨none, (.store (.t 2) (.t 45) 8)⟩, ⟨none, (.mv 3 (.c (.imm true (.bool true))))⟩] none (some ([2, 3], [2]))
def w130_30 := @awpR_no Try.prog Q σ r130_30 _ _ ⟨rfl, rfl⟩
def r130_31 : MC := .reg [⟨none, (.bin 47 .eql (.t 4) (.c (.imm true (.int .i8 17))))⟩, ⟨none, (.mv 46 (.t 47))⟩] none (some ([2, 46], [2]))
def w130_31 := @awpR_no Try.prog Q σ r130_31 _ _ ⟨rfl, rfl⟩
def r130_32 : MC := .reg [⟨none, (.build 48 [(.imm true (.int .i64 0)), (.imm true (.bool false)), (.imm true (.bool false)), (.imm true (.bool false)), (.imm true (.bool false)), (.imm true (.bool false)), (.imm true (.bool false)), (.imm true (.bool false))] [(0, (1, (.c (.imm true (.int .i64 1))))), (4, (1, (.c (.imm true (.bool true))))), (5, (1, (.c (.imm true (.bool true))))), (6, (1, (.c (.imm true (.bool true)))))])⟩, ⟨none, (.store (.t 2) (.t 48) 8)⟩, ⟨none, (.mv 3 (.c (.imm true (.bool true))))⟩] none (some ([2, 3], [2]))
def w130_32 := @awpR_no Try.prog Q σ r130_32 _ _ ⟨rfl, rfl⟩
def r130_33 : MC := .reg [⟨none, (.build 49 [(.imm true (.int .i64 0)), (.imm true (.bool false)), (.imm true (.bool false)), (.imm true (.bool false)), (.imm true (.bool false)), (.imm true (.bool false)), (.imm true (.bool false)), (.imm true (.bool false))] [])⟩, ⟨none, (.store (.t 2) (.t 49) 8)⟩, ⟨none, (.mv 3 (.c (.imm true (.bool false))))⟩] none (some ([2, 3], [2]))
def w130_33 := @awpR_no Try.prog Q σ r130_33 _ _ ⟨rfl, rfl⟩
def my130 : MC := (.seq r130_0 (.seq (.seq r130_1 (.block 0 (.seq r130_2 (.cond (.t 5) (.seq r130_3 .ret) (.seq r130_4 (.cond (.t 8) (.seq r130_5 .ret) (.seq (.seq r130_6 (.cond (.t 11) .skip r130_7)) (.cond (.t 11) (.seq r130_8 .ret) (.seq r130_9 (.cond (.t 15) (.seq r130_10 .ret) (.seq r130_11 (.cond (.t 18) (.seq r130_12 .ret) (.seq (.seq r130_13 (.cond (.t 21) .skip r130_14)) (.cond (.t 21) (.seq r130_15 .ret) (.seq r130_16 (.cond (.t 25) (.seq r130_17 .ret) (.seq r130_18 (.cond (.t 28) (.seq r130_19 .ret) (.seq (.seq r130_20 (.cond (.t 31) .skip r130_21)) (.cond (.t 31) (.seq r130_22 .ret) (.seq (.seq r130_23 (.cond (.t 35) .skip (.seq r130_24 (.cond (.t 35) .skip r130_25)))) (.cond (.t 35) (.seq r130_26 .ret) (.seq r130_27 (.cond (.t 40) (.seq r130_28 .ret) (.seq r130_29 (.cond (.t 43) (.seq r130_30 .ret) (.seq r130_31 (.cond (.t 46) (.seq r130_32 .ret) .skip)))))))))))))))))))))))))))) (.seq r130_33 .ret)))
theorem my130_is : trC Try.prog ⟨[], []⟩ ⟨[],
  [(0, [0, 2], [2]), (1, [2, 4], [2]), (2, [2, 4, 5], [2]), (3, [2, 3], [2]), (4, [2, 4, 8], [2]), (5, [2, 3], [2]), (6, [2, 4, 11], [2]), (7, [2, 4, 11], [2]), (8, [2, 3], [2]), (9, [2, 4, 15], [2]), (10, [2, 3], [2]), (11, [2, 4, 18], [2]), (12, [2, 3], [2]), (13, [2, 4, 21], [2]), (14, [2, 4, 21], [2]), (15, [2, 3], [2]), (16, [2, 4, 25], [2]), (17, [2, 3], [2]), (18, [2, 4, 28], [2]), (19, [2, 3], [2]), (20, [2, 4, 31], [2]), (21, [2, 4, 31], [2]), (22, [2, 3], [2]), (23, [2, 4, 35], [2]), (24, [2, 4, 35], [2]), (25, [2, 4, 35], [2]), (26, [2, 3], [2]), (27, [2, 4, 40], [2]), (28, [2, 3], [2]), (29, [2, 4, 43], [2]), (30, [2, 3], [2]), (31, [2, 46], [2]), (32, [2, 3], [2]), (33, [2, 3], [2])]⟩ 50 (Try.f130.body.getD .skip) = some my130 := by kernel_rfl
theorem does130 {args : List LV} (hl : args.length.ble 50 = true) {S S' : List (List LV)} (hS : S'.length = S.length) {o : Out} (h : Lt ⟨numE 0 args, argS 0 S, []⟩ (awp Try.prog my130 (Fin [(.c 2 (some 8)), (.t 3)] o S'))) : Does Try.prog 130 args S o S' :=
  does_of_awp mixed Try.func130 (by kernel_rfl) (by kernel_rfl) my130_is (by kernel_rfl) (Nat.le_of_ble_eq_true hl) hS h
attribute [go_sem ↓] w130_0 w130_1 w130_2 w130_3 w130_4 w130_5 w130_6 w130_7 w130_8 w130_9 w130_10 w130_11 w130_12 w130_13 w130_14 w130_15 w130_16 w130_17 w130_18 w130_19 w130_20 w130_21 w130_22 w130_23 w130_24 w130_25 w130_26 w130_27 w130_28 w130_29 w130_30 w130_31 w130_32 w130_33
attribute [go_sem] my130
/-! ### 107: lychgate/terms.right -/
def r107_0 : MC := .reg [⟨none, (.mv 2 (.c (.imm true (.bool false))))⟩] none (some ([0], []))
def w107_0 := @awpR_no Try.prog Q σ r107_0 _ _ ⟨rfl, rfl⟩
def r107_1 : MC := .reg [⟨none, (.mv 7 (.t 0))⟩, ⟨none, (.nilc 8 (.t 7))⟩, ⟨none, (.fad 9 (.t 8) 0)⟩, ⟨none, (.load 10 (.t 9) none)⟩, ⟨none, (.call (some 11) (.c (.fn 130 [])) [(.t 10)])⟩, ⟨none, (.mv 6 (.t 11))⟩, ⟨none, (.ext 12 (.t 6) 0)⟩, ⟨none, (.ext 13 (.t 6) 1)⟩, ⟨none, (.alloc 3 [(.imm true (.int .i64 0)), (.imm true (.bool false)), (.imm true (.bool false)), (.imm true (.bool false)), (.imm true (.bool false)), (.imm true (.bool false)), (.imm true (.bool false)), (.imm true (.bool false))])⟩, ⟨none, (.store (.t 3) (.t 12) 8)⟩, ⟨none, (.mv 4 (.t 13))⟩] none (some ([0, 3, 4], [3]))
def w107_1 := @awpR_get Try.prog Q σ r107_1 _ _ [3] ⟨rfl, rfl⟩
def r107_2 : MC := .reg [⟨none, (.mv 15 (.t 4))⟩, ⟨none, (.un 16 .not (.t 15))⟩, ⟨none, (.mv 14 (.t 16))⟩] none (some ([0, 3, 14], [3]))
def w107_2 := @awpR_no Try.prog Q σ r107_2 _ _ ⟨rfl, rfl⟩
def r107_3 : MC := .reg [⟨none, (.fad 17 (.t 3) 0)⟩, ⟨none, (.load 18 (.t 17) none)⟩, ⟨none, (.mv 19 (.t 0))⟩, ⟨none, (.nilc 20 (.t 19))⟩, ⟨none, (.fad 21 (.t 20) 10)⟩, ⟨none, (.load 22 (.t 21) none)⟩, ⟨none, (.len 23 (.t 22))⟩, ⟨none, (.bin 24 .neq (.t 18) (.t 23))⟩, ⟨none, (.mv 14 (.t 24))⟩] (some []) (some ([0, 3, 14], [3]))
def w107_3 := @awpD_no Try.prog Q σ r107_3 _ _ _ ⟨rfl, rfl⟩
def r107_4 : MC := .reg [⟨none, (.fad 25 (.t 3) 6)⟩, ⟨none, (.load 26 (.t 25) none)⟩, ⟨none, (.mv 27 (.t 26))⟩, ⟨(some (27, true)), (.mv 28 (.t 0))⟩, ⟨(some (27, true)), (.nilc 29 (.t 28))⟩, ⟨(some (27, true)), (.fad 30 (.t 29) 8)⟩, ⟨(some (27, true)), (.load 31 (.t 30) none)⟩, ⟨(some (27, true)), (.bin 32 .eql (.t 31) (.c (.imm true (.int .i64 0))))⟩, ⟨(some (27, true)), (.mv 33 (.t 32))⟩, ⟨(some (33, false)), (.mv 34 (.t 0))⟩, ⟨(some (33, false)), (.nilc 35 (.t 34))⟩, ⟨(some (33, false)), (.fad 36 (.t 35) 8)⟩, ⟨(some (33, false)), (.load 37 (.t 36) none)⟩, ⟨(some (33, false)), (.bin 38 .lss (.t 37) (.c (.imm true (.int .i64 (-2147483648)))))⟩, ⟨(some (27, true)), (.pick 39 (.t 33) (.c (.imm true (.bool true))) (.t 38))⟩, ⟨(some (27, true)), (.mv 40 (.t 39))⟩, ⟨(some (40, false)), (.mv 41 (.t 0))⟩, ⟨(some (40, false)), (.nilc 42 (.t 41))⟩, ⟨(some (40, false)), (.fad 43 (.t 42) 8)⟩, ⟨(some (40, false)), (.load 44 (.t 43) none)⟩, ⟨(some (40, false)), (.bin 45 .gtr (.t 44) (.c (.imm true (.int .i64 2147483648))))⟩, ⟨(some (27, true)), (.pick 46 (.t 40) (.c (.imm true (.bool true))) (.t 45))⟩, ⟨none, (.pick 47 (.t 27) (.t 46) (.c (.imm true (.bool false))))⟩, ⟨none, (.mv 14 (.t 47))⟩] none (some ([0, 3, 14], [3]))
def w107_4 := @awpR_no Try.prog Q σ r107_4 _ _ ⟨rfl, rfl⟩
def r107_5 : MC := .reg [⟨none, (.mv 2 (.c (.imm true (.bool false))))⟩] none (some ([2], []))
def w107_5 := @awpR_no Try.prog Q σ r107_5 _ _ ⟨rfl, rfl⟩
def r107_6 : MC := .reg [⟨none, (.fad 49 (.t 3) 1)⟩, ⟨none, (.load 50 (.t 49) none)⟩, ⟨none, (.mv 51 (.t 50))⟩, ⟨(some (51, true)), (.mv 52 (.t 0))⟩, ⟨(some (51, true)), (.nilc 53 (.t 52))⟩, ⟨(some (51, true)), (.fad 54 (.t 53) 1)⟩, ⟨(some (51, true)), (.load 55 (.t 54) none)⟩, ⟨(some (51, true)), (.call (some 56) (.c (.fn 131 [])) [(.t 55)])⟩, ⟨(some (51, true)), (.un 57 .not (.t 56))⟩, ⟨none, (.pick 58 (.t 51) (.t 57) (.c (.imm true (.bool false))))⟩, ⟨none, (.mv 48 (.t 58))⟩] none (some ([0, 3, 48], [3]))
def w107_6 := @awpR_no Try.prog Q σ r107_6 _ _ ⟨rfl, rfl⟩
def r107_7 : MC := .reg [⟨none, (.fad 59 (.t 3) 2)⟩, ⟨none, (.load 60 (.t 59) none)⟩, ⟨none, (.mv 61 (.t 60))⟩, ⟨(some (61, true)), (.mv 62 (.t 0))⟩, ⟨(some (61, true)), (.nilc 63 (.t 62))⟩, ⟨(some (61, true)), (.fad 64 (.t 63) 2)⟩, ⟨(some (61, true)), (.load 65 (.t 64) none)⟩, ⟨(some (61, true)), (.call (some 66) (.c (.fn 131 [])) [(.t 65)])⟩, ⟨(some (61, true)), (.un 67 .not (.t 66))⟩, ⟨none, (.pick 68 (.t 61) (.t 67) (.c (.imm true (.bool false))))⟩, ⟨none, (.mv 48 (.t 68))⟩] none (some ([0, 3, 48], [3]))
def w107_7 := @awpR_no Try.prog Q σ r107_7 _ _ ⟨rfl, rfl⟩
def r107_8 : MC := .reg [⟨none, (.mv 2 (.c (.imm true (.bool false))))⟩] none (some ([2], []))
def w107_8 := @awpR_no Try.prog Q σ r107_8 _ _ ⟨rfl, rfl⟩
def r107_9 : MC := .reg [⟨none, (.fad 70 (.t 3) 4)⟩, ⟨none, (.load 71 (.t 70) none)⟩, ⟨none, (.mv 72 (.t 71))⟩, ⟨(some (72, true)), (.mv 73 (.t 0))⟩, ⟨(some (72, true)), (.nilc 74 (.t 73))⟩, ⟨(some (72, true)), (.fad 75 (.t 74) 4)⟩, ⟨(some (72, true)), (.load 76 (.t 75) (some 2))⟩, ⟨(some (72, true)), (.call (some 77) (.c (.fn 37 [])) [(.t 76)])⟩, ⟨(some (72, true)), (.bin 78 .neq (.t 77) (.c (.imm true (.int .i64 0))))⟩, ⟨none, (.pick 79 (.t 72) (.t 78) (.c (.imm true (.bool false))))⟩, ⟨none, (.mv 69 (.t 79))⟩] none (some ([0, 3, 69], [3]))
def w107_9 := @awpR_no Try.prog Q σ r107_9 _ _ ⟨rfl, rfl⟩
def r107_10 : MC := .reg [⟨none, (.fad 80 (.t 3) 5)⟩, ⟨none, (.load 81 (.t 80) none)⟩, ⟨none, (.mv 82 (.t 81))⟩, ⟨(some (82, true)), (.mv 83 (.t 0))⟩, ⟨(some (82, true)), (.nilc 84 (.t 83))⟩, ⟨(some (82, true)), (.fad 85 (.t 84) 6)⟩, ⟨(some (82, true)), (.load 86 (.t 85) (some 2))⟩, ⟨(some (82, true)), (.call (some 87) (.c (.fn 37 [])) [(.t 86)])⟩, ⟨(some (82, true)), (.bin 88 .neq (.t 87) (.c (.imm true (.int .i64 0))))⟩, ⟨none, (.pick 89 (.t 82) (.t 88) (.c (.imm true (.bool false))))⟩, ⟨none, (.mv 69 (.t 89))⟩] none (some ([0, 3, 69], [3]))
def w107_10 := @awpR_no Try.prog Q σ r107_10 _ _ ⟨rfl, rfl⟩
def r107_11 : MC := .reg [⟨none, (.mv 2 (.c (.imm true (.bool false))))⟩] none (some ([2], []))
def w107_11 := @awpR_no Try.prog Q σ r107_11 _ _ ⟨rfl, rfl⟩
def r107_12 : MC := .reg [⟨none, (.fad 90 (.t 3) 7)⟩, ⟨none, (.load 91 (.t 90) none)⟩] none (some ([0, 91], []))
def w107_12 := @awpR_no Try.prog Q σ r107_12 _ _ ⟨rfl, rfl⟩
def r107_13 : MC := .reg [⟨none, (.mv 92 (.t 0))⟩, ⟨none, (.nilc 93 (.t 92))⟩, ⟨none, (.fad 94 (.t 93) 1)⟩, ⟨none, (.load 95 (.t 94) none)⟩] none (some ([0, 95], []))
def w107_13 := @awpR_no Try.prog Q σ r107_13 _ _ ⟨rfl, rfl⟩
def r107_14 : MC := .reg [⟨none, (.bin 97 .eql (.t 95) (.c (.imm true (.str ⟨#[43]⟩))))⟩, ⟨none, (.mv 96 (.t 97))⟩] none (some ([0, 95, 96], []))
def w107_14 := @awpR_no Try.prog Q σ r107_14 _ _ ⟨rfl, rfl⟩
def r107_15 : MC := .reg [⟨none, (.bin 98 .eql (.t 95) (.c (.imm true (.str ⟨#[45]⟩))))⟩, ⟨none, (.mv 96 (.t 98))⟩] none (some ([0, 95, 96], []))
def w107_15 := @awpR_no Try.prog Q σ r107_15 _ _ ⟨rfl, rfl⟩
def r107_16 : MC := .reg [⟨none, (.bin 99 .eql (.t 95) (.c (.imm true (.str ⟨#[42]⟩))))⟩, ⟨none, (.mv 96 (.t 99))⟩] none (some ([0, 95, 96], []))
def w107_16 := @awpR_no Try.prog Q σ r107_16 _ _ ⟨rfl, rfl⟩
def r107_17 : MC := .reg [⟨none, (.bin 100 .eql (.t 95) (.c (.imm true (.str ⟨#[47]⟩))))⟩, ⟨none, (.mv 96 (.t 100))⟩] none (some ([0, 95, 96], []))
def w107_17 := @awpR_no Try.prog Q σ r107_17 _ _ ⟨rfl, rfl⟩
def r107_18 : MC := .reg [⟨none, (.bin 101 .eql (.t 95) (.c (.imm true (.str ⟨#[60]⟩))))⟩, ⟨none, (.mv 96 (.t 101))⟩] none (some ([0, 95, 96], []))
def w107_18 := @awpR_no Try.prog Q σ r107_18 _ _ ⟨rfl, rfl⟩
def r107_19 : MC := .reg [⟨none, (.bin 102 .eql (.t 95) (.c (.imm true (.str ⟨#[61]⟩))))⟩, ⟨none, (.mv 96 (.t 102))⟩] none (some ([0, 96], []))
def w107_19 := @awpR_no Try.prog Q σ r107_19 _ _ ⟨rfl, rfl⟩
def r107_20 : MC := .reg [⟨none, (.mv 2 (.c (.imm true (.bool false))))⟩] none (some ([2], []))
def w107_20 := @awpR_no Try.prog Q σ r107_20 _ _ ⟨rfl, rfl⟩
def r107_21 : MC := .reg [⟨none, (.mv 103 (.t 0))⟩, ⟨none, (.nilc 104 (.t 103))⟩, ⟨none, (.fad 105 (.t 104) 10)⟩, ⟨none, (.load 106 (.t 105) none)⟩, ⟨none, (.len 107 (.t 106))⟩, ⟨none, (.mv 108 (.c (.imm true (.int .i64 0))))⟩] none (some ([0, 107, 108], []))
def w107_21 := @awpR_no Try.prog Q σ r107_21 _ _ ⟨rfl, rfl⟩
def r107_22 : MC := .reg [⟨none, (.bin 109 .lss (.t 108) (.t 107))⟩] none (some ([0, 107, 108, 109], []))
def w107_22 := @awpR_no Try.prog Q σ r107_22 _ _ ⟨rfl, rfl⟩
def r107_23 : MC := .reg [⟨none, (.mv 110 (.t 108))⟩, ⟨none, (.mv 5 (.t 110))⟩] none (some ([0, 5, 107, 108], []))
def w107_23 := @awpR_no Try.prog Q σ r107_23 _ _ ⟨rfl, rfl⟩
def r107_24 : MC := .reg [⟨none, (.mv 111 (.t 0))⟩, ⟨none, (.nilc 112 (.t 111))⟩, ⟨none, (.fad 113 (.t 112) 10)⟩, ⟨none, (.load 114 (.t 113) none)⟩, ⟨none, (.mv 115 (.t 5))⟩, ⟨none, (.iad 116 (.t 114) (.t 115) 11)⟩, ⟨none, (.call (some 117) (.c (.fn 107 [])) [(.t 116)])⟩, ⟨none, (.un 118 .not (.t 117))⟩] none (some ([0, 107, 108, 118], []))
def w107_24 := @awpR_no Try.prog Q σ r107_24 _ _ ⟨rfl, rfl⟩
def r107_25 : MC := .reg [⟨none, (.mv 2 (.c (.imm true (.bool false))))⟩] none (some ([2], []))
def w107_25 := @awpR_no Try.prog Q σ r107_25 _ _ ⟨rfl, rfl⟩
def r107_26 : MC := .reg [⟨none, (.bin 119 .add (.t 108) (.c (.imm true (.int .i64 1))))⟩, ⟨none, (.mv 108 (.t 119))⟩] none (some ([0, 107, 108], []))
def w107_26 := @awpR_no Try.prog Q σ r107_26 _ _ ⟨rfl, rfl⟩
def l107_0 : MC := (.seq r107_22 (.seq (.cond (.t 109) .skip (.exit 2)) (.seq (.block 3 (.seq r107_23 (.seq r107_24 (.cond (.t 118) (.seq r107_25 .ret) .skip)))) r107_26)))
def r107_27 : MC := .reg [⟨none, (.mv 2 (.c (.imm true (.bool true))))⟩] none (some ([2], []))
def w107_27 := @awpR_no Try.prog Q σ r107_27 _ _ ⟨rfl, rfl⟩
def my107 : MC := (.seq r107_0 (.seq r107_1 (.seq (.block 0 (.seq (.seq r107_2 (.cond (.t 14) .skip (.seq r107_3 (.cond (.t 14) .skip r107_4)))) (.cond (.t 14) (.seq r107_5 .ret) (.seq (.seq r107_6 (.cond (.t 48) .skip r107_7)) (.cond (.t 48) (.seq r107_8 .ret) (.seq (.seq r107_9 (.cond (.t 69) .skip r107_10)) (.cond (.t 69) (.seq r107_11 .ret) .skip))))))) (.seq (.seq r107_12 (.cond (.t 91) (.seq r107_13 (.block 1 (.seq (.seq r107_14 (.cond (.t 96) .skip (.seq r107_15 (.cond (.t 96) .skip (.seq r107_16 (.cond (.t 96) .skip (.seq r107_17 (.cond (.t 96) .skip (.seq r107_18 (.cond (.t 96) .skip r107_19)))))))))) (.cond (.t 96) .skip (.seq r107_20 .ret))))) .skip)) (.seq (.seq r107_21 (.block 2 (.loop l107_0))) (.seq r107_27 .ret))))))
theorem my107_is : trC Try.prog ⟨[], []⟩ ⟨[(3, [[], [0], [], [2], [2, 3], [2, 3, 4], [2, 3, 4, 5], [0, 1, 2, 3, 4, 5, 6], [0, 1, 2, 3, 4, 5, 6, 7]], [])],
  [(0, [0], []), (1, [0, 3, 4], [3]), (2, [0, 3, 14], [3]), (3, [0, 3, 14], [3]), (4, [0, 3, 14], [3]), (5, [2], []), (6, [0, 3, 48], [3]), (7, [0, 3, 48], [3]), (8, [2], []), (9, [0, 3, 69], [3]), (10, [0, 3, 69], [3]), (11, [2], []), (12, [0, 91], []), (13, [0, 95], []), (15, [0, 95, 96], []), (16, [0, 95, 96], []), (17, [0, 95, 96], []), (18, [0, 95, 96], []), (19, [0, 95, 96], []), (20, [0, 96], []), (14, [2], []), (21, [0, 107, 108], []), (22, [0, 107, 108, 109], []), (23, [0, 5, 107, 108], []), (24, [0, 107, 108, 118], []), (25, [2], []), (26, [0, 107, 108], []), (27, [2], [])]⟩ 120 (Try.f107.body.getD .skip) = some my107 := by kernel_rfl
theorem does107 {args : List LV} (hl : args.length.ble 120 = true) {S S' : List (List LV)} (hS : S'.length = S.length) {o : Out} (h : Lt ⟨numE 0 args, argS 0 S, []⟩ (awp Try.prog my107 (Fin [(.t 2)] o S'))) : Does Try.prog 107 args S o S' :=
  does_of_awp mixed Try.func107 (by kernel_rfl) (by kernel_rfl) my107_is (by kernel_rfl) (Nat.le_of_ble_eq_true hl) hS h
attribute [go_sem ↓] w107_0 w107_1 w107_2 w107_3 w107_4 w107_5 w107_6 w107_7 w107_8 w107_9 w107_10 w107_11 w107_12 w107_13 w107_14 w107_15 w107_16 w107_17 w107_18 w107_19 w107_20 w107_21 w107_22 w107_23 w107_24 w107_25 w107_26 w107_27
attribute [go_sem] my107
/-! ### 68: lychgate/terms.Check -/
def r68_0 : MC := .reg [⟨none, (.boxc 1 (.t 0))⟩, ⟨none, (.mv 2 (.c (.imm true (.int .i64 0))))⟩] none (some ([1], []))
def w68_0 := @awpR_no Try.prog Q σ r68_0 _ _ ⟨rfl, rfl⟩
def r68_1 : MC := .reg [⟨none, (.load 3 (.t 1) (some 11))⟩, ⟨none, (.call (some 4) (.c (.fn 105 [])) [(.t 3)])⟩, ⟨none, (.bin 5 .gtr (.t 4) (.c (.imm true (.int .i64 8192))))⟩] none (some ([1, 5], []))
def w68_1 := @awpR_no Try.prog Q σ r68_1 _ _ ⟨rfl, rfl⟩
def r68_2 : MC := .reg [⟨none, (.mv 2 (.c (.imm true (.int .i64 32))))⟩] none (some ([2], []))
def w68_2 := @awpR_no Try.prog Q σ r68_2 _ _ ⟨rfl, rfl⟩
def r68_3 : MC := .reg [⟨none, (.load 6 (.t 1) (some 11))⟩, ⟨none, (.call (some 7) (.c (.fn 106 [])) [(.t 6)])⟩, ⟨none, (.bin 8 .gtr (.t 7) (.c (.imm true (.int .i64 200))))⟩] none (some ([1, 8], []))
def w68_3 := @awpR_no Try.prog Q σ r68_3 _ _ ⟨rfl, rfl⟩
def r68_4 : MC := .reg [⟨none, (.mv 2 (.c (.imm true (.int .i64 31))))⟩] none (some ([2], []))
def w68_4 := @awpR_no Try.prog Q σ r68_4 _ _ ⟨rfl, rfl⟩
def r68_5 : MC := .reg [⟨none, (.call (some 9) (.c (.fn 107 [])) [(.t 1)])⟩, ⟨none, (.un 10 .not (.t 9))⟩] none (some ([10], []))
def w68_5 := @awpR_no Try.prog Q σ r68_5 _ _ ⟨rfl, rfl⟩
def r68_6 : MC := .reg [⟨none, (.mv 2 (.c (.imm true (.int .i64 30))))⟩] none (some ([2], []))
def w68_6 := @awpR_no Try.prog Q σ r68_6 _ _ ⟨rfl, rfl⟩
def r68_7 : MC := .reg [⟨none, (.mv 2 (.c (.imm true (.int .i64 0))))⟩] none (some ([2], []))
def w68_7 := @awpR_no Try.prog Q σ r68_7 _ _ ⟨rfl, rfl⟩
def my68 : MC := (.seq r68_0 (.seq (.seq r68_1 (.cond (.t 5) (.seq r68_2 .ret) .skip)) (.seq (.seq r68_3 (.cond (.t 8) (.seq r68_4 .ret) .skip)) (.seq (.seq r68_5 (.cond (.t 10) (.seq r68_6 .ret) .skip)) (.seq r68_7 .ret)))))
theorem my68_is : trC Try.prog ⟨[1], []⟩ ⟨[],
  [(0, [1], []), (1, [1, 5], []), (2, [2], []), (3, [1, 8], []), (4, [2], []), (5, [10], []), (6, [2], []), (7, [2], [])]⟩ 11 (Try.f68.body.getD .skip) = some my68 := by kernel_rfl
theorem does68 {args : List LV} (hl : args.length.ble 11 = true) {S S' : List (List LV)} (hS : S'.length = S.length) {o : Out} (h : Lt ⟨numE 0 args, argS 0 S, []⟩ (awp Try.prog my68 (Fin [(.t 2)] o S'))) : Does Try.prog 68 args S o S' :=
  does_of_awp mixed Try.func68 (by kernel_rfl) (by kernel_rfl) my68_is (by kernel_rfl) (Nat.le_of_ble_eq_true hl) hS h
attribute [go_sem ↓] w68_0 w68_1 w68_2 w68_3 w68_4 w68_5 w68_6 w68_7
attribute [go_sem] my68
/-! ### 35: lychgate/casts.Height -/
def r35_0 : MC := .reg [⟨none, (.boxc 1 (.t 0))⟩, ⟨none, (.mv 2 (.c (.imm true (.int .i64 0))))⟩] none (some ([1], []))
def w35_0 := @awpR_no Try.prog Q σ r35_0 _ _ ⟨rfl, rfl⟩
def r35_1 : MC := .reg [⟨none, (.load 3 (.t 1) (some 11))⟩, ⟨none, (.call (some 4) (.c (.fn 68 [])) [(.t 3)])⟩, ⟨none, (.bin 5 .neq (.t 4) (.c (.imm true (.int .i64 0))))⟩] none (some ([1, 5], []))
def w35_1 := @awpR_no Try.prog Q σ r35_1 _ _ ⟨rfl, rfl⟩
def r35_2 : MC := .reg [⟨none, (.mv 2 (.c (.imm true (.int .i64 0))))⟩] none (some ([2], []))
def w35_2 := @awpR_no Try.prog Q σ r35_2 _ _ ⟨rfl, rfl⟩
def r35_3 : MC := .reg [⟨none, (.call (some 6) (.c (.fn 69 [])) [(.t 1)])⟩, ⟨none, (.mv 2 (.t 6))⟩] none (some ([2], []))
def w35_3 := @awpR_no Try.prog Q σ r35_3 _ _ ⟨rfl, rfl⟩
def my35 : MC := (.seq r35_0 (.seq (.seq r35_1 (.cond (.t 5) (.seq r35_2 .ret) .skip)) (.seq r35_3 .ret)))
theorem my35_is : trC Try.prog ⟨[1], []⟩ ⟨[],
  [(0, [1], []), (1, [1, 5], []), (2, [2], []), (3, [2], [])]⟩ 7 (Try.f35.body.getD .skip) = some my35 := by kernel_rfl
theorem does35 {args : List LV} (hl : args.length.ble 7 = true) {S S' : List (List LV)} (hS : S'.length = S.length) {o : Out} (h : Lt ⟨numE 0 args, argS 0 S, []⟩ (awp Try.prog my35 (Fin [(.t 2)] o S'))) : Does Try.prog 35 args S o S' :=
  does_of_awp mixed Try.func35 (by kernel_rfl) (by kernel_rfl) my35_is (by kernel_rfl) (Nat.le_of_ble_eq_true hl) hS h
attribute [go_sem ↓] w35_0 w35_1 w35_2 w35_3
attribute [go_sem] my35
/-! ### 69: lychgate/casts.height -/
def r69_0 : MC := .reg [⟨none, (.mv 2 (.c (.imm true (.int .i64 0))))⟩] none (some ([0], []))
def w69_0 := @awpR_no Try.prog Q σ r69_0 _ _ ⟨rfl, rfl⟩
def r69_1 : MC := .reg [⟨none, (.mv 3 (.c (.imm true (.int .i64 0))))⟩] none (some ([0, 3], []))
def w69_1 := @awpR_no Try.prog Q σ r69_1 _ _ ⟨rfl, rfl⟩
def r69_2 : MC := .reg [⟨none, (.mv 5 (.t 0))⟩, ⟨none, (.nilc 6 (.t 5))⟩, ⟨none, (.fad 7 (.t 6) 0)⟩, ⟨none, (.load 8 (.t 7) none)⟩] none (some ([0, 3, 8], []))
def w69_2 := @awpR_no Try.prog Q σ r69_2 _ _ ⟨rfl, rfl⟩
def r69_3 : MC := .reg [⟨none, (.bin 10 .eql (.t 8) (.c (.imm true (.int .i8 4))))⟩, ⟨none, (.mv 9 (.t 10))⟩] none (some ([0, 3, 8, 9], []))
def w69_3 := @awpR_no Try.prog Q σ r69_3 _ _ ⟨rfl, rfl⟩
def r69_4 : MC := .reg [⟨none, (.bin 11 .eql (.t 8) (.c (.imm true (.int .i8 7))))⟩, ⟨none, (.mv 9 (.t 11))⟩] none (some ([0, 3, 8, 9], []))
def w69_4 := @awpR_no Try.prog Q σ r69_4 _ _ ⟨rfl, rfl⟩
def r69_5 : MC := .reg [⟨none, (.bin 12 .eql (.t 8) (.c (.imm true (.int .i8 12))))⟩, ⟨none, (.mv 9 (.t 12))⟩] none (some ([0, 3, 8, 9], []))
def w69_5 := @awpR_no Try.prog Q σ r69_5 _ _ ⟨rfl, rfl⟩
def r69_6 : MC := .reg [⟨none, (.bin 13 .eql (.t 8) (.c (.imm true (.int .i8 13))))⟩, ⟨none, (.mv 9 (.t 13))⟩] none (some ([0, 3, 8, 9], []))
def w69_6 := @awpR_no Try.prog Q σ r69_6 _ _ ⟨rfl, rfl⟩
def r69_7 : MC := .reg [⟨none, (.bin 14 .eql (.t 8) (.c (.imm true (.int .i8 16))))⟩, ⟨none, (.mv 9 (.t 14))⟩] none (some ([0, 3, 8, 9], []))
def w69_7 := @awpR_no Try.prog Q σ r69_7 _ _ ⟨rfl, rfl⟩
def r69_8 : MC := .reg [⟨none, (.mv 15 (.t 0))⟩, ⟨none, (.nilc 16 (.t 15))⟩, ⟨none, (.fad 17 (.t 16) 4)⟩, ⟨none, (.load 18 (.t 17) (some 2))⟩, ⟨none, (.lit 19 2 [(.t 18)])⟩, ⟨none, (.call (some 20) (.c (.fn 108 [])) [(.t 19)])⟩, ⟨none, (.mv 3 (.t 20))⟩] none (some ([0, 3], []))
def w69_8 := @awpR_no Try.prog Q σ r69_8 _ _ ⟨rfl, rfl⟩
def r69_9 : MC := .reg [⟨none, (.bin 22 .eql (.t 8) (.c (.imm true (.int .i8 5))))⟩, ⟨none, (.mv 21 (.t 22))⟩] none (some ([0, 3, 8, 21], []))
def w69_9 := @awpR_no Try.prog Q σ r69_9 _ _ ⟨rfl, rfl⟩
def r69_10 : MC := .reg [⟨none, (.bin 23 .eql (.t 8) (.c (.imm true (.int .i8 17))))⟩, ⟨none, (.mv 21 (.t 23))⟩] none (some ([0, 3, 21], []))
def w69_10 := @awpR_no Try.prog Q σ r69_10 _ _ ⟨rfl, rfl⟩
def r69_11 : MC := .reg [⟨none, (.mv 24 (.t 0))⟩, ⟨none, (.nilc 25 (.t 24))⟩, ⟨none, (.fad 26 (.t 25) 4)⟩, ⟨none, (.load 27 (.t 26) (some 2))⟩, ⟨none, (.mv 28 (.t 0))⟩, ⟨none, (.nilc 29 (.t 28))⟩, ⟨none, (.fad 30 (.t 29) 6)⟩, ⟨none, (.load 31 (.t 30) (some 2))⟩, ⟨none, (.lit 32 2 [(.t 27), (.t 31)])⟩, ⟨none, (.call (some 33) (.c (.fn 108 [])) [(.t 32)])⟩, ⟨none, (.mv 3 (.t 33))⟩] (some []) (some ([0, 3], []))
def w69_11 := @awpD_no Try.prog Q σ r69_11 _ _ _ ⟨rfl, rfl⟩
def r69_12 : MC := .reg [⟨none, (.mv 34 (.t 0))⟩, ⟨none, (.nilc 35 (.t 34))⟩, ⟨none, (.fad 36 (.t 35) 10)⟩, ⟨none, (.load 37 (.t 36) none)⟩, ⟨none, (.len 38 (.t 37))⟩, ⟨none, (.mv 39 (.c (.imm true (.int .i64 0))))⟩] none (some ([0, 3, 38, 39], []))
def w69_12 := @awpR_no Try.prog Q σ r69_12 _ _ ⟨rfl, rfl⟩
def r69_13 : MC := .reg [⟨none, (.bin 40 .lss (.t 39) (.t 38))⟩] none (some ([0, 3, 38, 39, 40], []))
def w69_13 := @awpR_no Try.prog Q σ r69_13 _ _ ⟨rfl, rfl⟩
def r69_14 : MC := .reg [⟨none, (.mv 41 (.t 39))⟩, ⟨none, (.mv 4 (.t 41))⟩] none (some ([0, 3, 4, 38, 39], []))
def w69_14 := @awpR_no Try.prog Q σ r69_14 _ _ ⟨rfl, rfl⟩
def r69_15 : MC := .reg [⟨none, (.mv 42 (.t 3))⟩, ⟨none, (.mv 43 (.t 0))⟩, ⟨none, (.nilc 44 (.t 43))⟩, ⟨none, (.fad 45 (.t 44) 10)⟩, ⟨none, (.load 46 (.t 45) none)⟩, ⟨none, (.mv 47 (.t 4))⟩, ⟨none, (.iad 48 (.t 46) (.t 47) 11)⟩, ⟨none, (.call (some 49) (.c (.fn 69 [])) [(.t 48)])⟩, ⟨none, (.mx 50 [(.t 42), (.t 49)])⟩, ⟨none, (.mv 3 (.t 50))⟩] none (some ([0, 3, 38, 39], []))
def w69_15 := @awpR_no Try.prog Q σ r69_15 _ _ ⟨rfl, rfl⟩
def r69_16 : MC := .reg [⟨none, (.bin 51 .add (.t 39) (.c (.imm true (.int .i64 1))))⟩, ⟨none, (.mv 39 (.t 51))⟩] none (some ([0, 3, 38, 39], []))
def w69_16 := @awpR_no Try.prog Q σ r69_16 _ _ ⟨rfl, rfl⟩
def l69_0 : MC := (.seq r69_13 (.seq (.cond (.t 40) .skip (.exit 1)) (.seq (.block 2 (.seq r69_14 r69_15)) r69_16)))
def r69_17 : MC := .reg [⟨none, (.mv 52 (.t 3))⟩, ⟨none, (.mv 2 (.t 52))⟩] none (some ([2], []))
def w69_17 := @awpR_no Try.prog Q σ r69_17 _ _ ⟨rfl, rfl⟩
def my69 : MC := (.seq r69_0 (.seq r69_1 (.seq (.seq r69_2 (.block 0 (.seq (.seq r69_3 (.cond (.t 9) .skip (.seq r69_4 (.cond (.t 9) .skip (.seq r69_5 (.cond (.t 9) .skip (.seq r69_6 (.cond (.t 9) .skip r69_7)))))))) (.cond (.t 9) r69_8 (.seq (.seq r69_9 (.cond (.t 21) .skip r69_10)) (.cond (.t 21) r69_11 .skip)))))) (.seq (.seq r69_12 (.block 1 (.loop l69_0))) (.seq r69_17 .ret)))))
theorem my69_is : trC Try.prog ⟨[], []⟩ ⟨[(11, [[], [0], [0, 1], [0, 1, 2], [], [4], [4, 5], [4, 5, 6], [0, 1, 2, 3, 4, 5, 6, 7], [0, 1, 2, 3, 4, 5, 6, 7, 8], [0, 1, 2, 3, 4, 5, 6, 7, 8, 9]], [])],
  [(0, [0], []), (1, [0, 3], []), (2, [0, 3, 8], []), (3, [0, 3, 8, 9], []), (4, [0, 3, 8, 9], []), (5, [0, 3, 8, 9], []), (6, [0, 3, 8, 9], []), (7, [0, 3, 8, 9], []), (8, [0, 3], []), (9, [0, 3, 8, 21], []), (10, [0, 3, 21], []), (11, [0, 3], []), (12, [0, 3, 38, 39], []), (13, [0, 3, 38, 39, 40], []), (14, [0, 3, 4, 38, 39], []), (15, [0, 3, 38, 39], []), (16, [0, 3, 38, 39], []), (17, [2], [])]⟩ 53 (Try.f69.body.getD .skip) = some my69 := by kernel_rfl
theorem does69 {args : List LV} (hl : args.length.ble 53 = true) {S S' : List (List LV)} (hS : S'.length = S.length) {o : Out} (h : Lt ⟨numE 0 args, argS 0 S, []⟩ (awp Try.prog my69 (Fin [(.t 2)] o S'))) : Does Try.prog 69 args S o S' :=
  does_of_awp mixed Try.func69 (by kernel_rfl) (by kernel_rfl) my69_is (by kernel_rfl) (Nat.le_of_ble_eq_true hl) hS h
attribute [go_sem ↓] w69_0 w69_1 w69_2 w69_3 w69_4 w69_5 w69_6 w69_7 w69_8 w69_9 w69_10 w69_11 w69_12 w69_13 w69_14 w69_15 w69_16 w69_17
attribute [go_sem] my69
/-! ### 108: lychgate/casts.high -/
def r108_0 : MC := .reg [⟨none, (.mv 2 (.c (.imm true (.int .i64 0))))⟩] none (some ([0], []))
def w108_0 := @awpR_no Try.prog Q σ r108_0 _ _ ⟨rfl, rfl⟩
def r108_1 : MC := .reg [⟨none, (.mv 3 (.c (.imm true (.int .i64 0))))⟩] none (some ([0, 3], []))
def w108_1 := @awpR_no Try.prog Q σ r108_1 _ _ ⟨rfl, rfl⟩
def r108_2 : MC := .reg [⟨none, (.mv 6 (.t 0))⟩, ⟨none, (.len 7 (.t 6))⟩, ⟨none, (.mv 8 (.c (.imm true (.int .i64 0))))⟩] none (some ([3, 6, 7, 8], []))
def w108_2 := @awpR_no Try.prog Q σ r108_2 _ _ ⟨rfl, rfl⟩
def r108_3 : MC := .reg [⟨none, (.bin 9 .lss (.t 8) (.t 7))⟩] none (some ([3, 6, 7, 8, 9], []))
def w108_3 := @awpR_no Try.prog Q σ r108_3 _ _ ⟨rfl, rfl⟩
def r108_4 : MC := .reg [⟨none, (.iad 10 (.t 6) (.t 8) 2)⟩, ⟨none, (.load 11 (.t 10) (some 2))⟩, ⟨none, (.alloc 5 z2)⟩, ⟨none, (.store (.t 5) (.t 11) 2)⟩] none (some ([3, 5, 6, 7, 8], [5]))
def w108_4 := @awpR_get Try.prog Q σ r108_4 _ _ [5] ⟨rfl, rfl⟩
def r108_5 : MC := .reg [⟨none, (.mv 12 (.t 3))⟩, ⟨none, (.fad 13 (.t 5) 1)⟩, ⟨none, (.load 14 (.t 13) none)⟩, ⟨none, (.call (some 15) (.c (.fn 108 [])) [(.t 14)])⟩, ⟨none, (.bin 16 .add (.c (.imm true (.int .i64 1))) (.t 15))⟩, ⟨none, (.mx 17 [(.t 12), (.t 16)])⟩, ⟨none, (.mv 3 (.t 17))⟩] none (some ([3, 6, 7, 8], []))
def w108_5 := @awpR_no Try.prog Q σ r108_5 _ _ ⟨rfl, rfl⟩
def r108_6 : MC := .reg [⟨none, (.bin 18 .add (.t 8) (.c (.imm true (.int .i64 1))))⟩, ⟨none, (.mv 8 (.t 18))⟩] none (some ([3, 6, 7, 8], []))
def w108_6 := @awpR_no Try.prog Q σ r108_6 _ _ ⟨rfl, rfl⟩
def l108_0 : MC := (.seq r108_3 (.seq (.cond (.t 9) .skip (.exit 0)) (.seq (.block 1 (.seq r108_4 r108_5)) r108_6)))
def r108_7 : MC := .reg [⟨none, (.mv 19 (.t 3))⟩, ⟨none, (.mv 2 (.t 19))⟩] none (some ([2], []))
def w108_7 := @awpR_no Try.prog Q σ r108_7 _ _ ⟨rfl, rfl⟩
def my108 : MC := (.seq r108_0 (.seq r108_1 (.seq (.seq r108_2 (.block 0 (.loop l108_0))) (.seq r108_7 .ret))))
theorem my108_is : trC Try.prog ⟨[], []⟩ ⟨[],
  [(0, [0], []), (1, [0, 3], []), (2, [3, 6, 7, 8], []), (3, [3, 6, 7, 8, 9], []), (4, [3, 5, 6, 7, 8], [5]), (5, [3, 6, 7, 8], []), (6, [3, 6, 7, 8], []), (7, [2], [])]⟩ 20 (Try.f108.body.getD .skip) = some my108 := by kernel_rfl
theorem does108 {args : List LV} (hl : args.length.ble 20 = true) {S S' : List (List LV)} (hS : S'.length = S.length) {o : Out} (h : Lt ⟨numE 0 args, argS 0 S, []⟩ (awp Try.prog my108 (Fin [(.t 2)] o S'))) : Does Try.prog 108 args S o S' :=
  does_of_awp mixed Try.func108 (by kernel_rfl) (by kernel_rfl) my108_is (by kernel_rfl) (Nat.le_of_ble_eq_true hl) hS h
attribute [go_sem ↓] w108_0 w108_1 w108_2 w108_3 w108_4 w108_5 w108_6 w108_7
attribute [go_sem] my108
/-! ### 36: lychgate/lychgatelaw16.labelled -/
def r36_0 : MC := .reg [⟨none, (.boxc 2 (.t 0))⟩, ⟨none, (.mv 4 (.c (.imm true (.bool false))))⟩] none (some ([1, 2], []))
def w36_0 := @awpR_no Try.prog Q σ r36_0 _ _ ⟨rfl, rfl⟩
def r36_1 : MC := .reg [⟨none, (.fad 6 (.t 2) 0)⟩, ⟨none, (.load 7 (.t 6) none)⟩, ⟨none, (.bin 8 .eql (.t 7) (.c (.imm true (.int .i8 3))))⟩, ⟨none, (.mv 9 (.t 8))⟩, ⟨(some (9, false)), (.fad 10 (.t 2) 0)⟩, ⟨(some (9, false)), (.load 11 (.t 10) none)⟩, ⟨(some (9, false)), (.bin 12 .eql (.t 11) (.c (.imm true (.int .i8 1))))⟩, ⟨none, (.pick 13 (.t 9) (.c (.imm true (.bool true))) (.t 12))⟩, ⟨none, (.mv 14 (.t 13))⟩, ⟨(some (14, true)), (.fad 15 (.t 2) 5)⟩, ⟨(some (14, true)), (.load 16 (.t 15) none)⟩, ⟨(some (14, true)), (.mv 17 (.t 1))⟩, ⟨(some (14, true)), (.bin 18 .neq (.t 16) (.t 17))⟩, ⟨none, (.pick 19 (.t 14) (.t 18) (.c (.imm true (.bool false))))⟩] none (some ([1, 2, 19], []))
def w36_1 := @awpR_no Try.prog Q σ r36_1 _ _ ⟨rfl, rfl⟩
def r36_2 : MC := .reg [⟨none, (.mv 4 (.c (.imm true (.bool false))))⟩] none (some ([4], []))
def w36_2 := @awpR_no Try.prog Q σ r36_2 _ _ ⟨rfl, rfl⟩
def r36_3 : MC := .reg [⟨none, (.mv 5 (.c (.imm true (.int .i64 0))))⟩] none (some ([1, 2, 5], []))
def w36_3 := @awpR_no Try.prog Q σ r36_3 _ _ ⟨rfl, rfl⟩
def r36_4 : MC := .reg [⟨none, (.mv 20 (.t 5))⟩, ⟨none, (.fad 21 (.t 2) 7)⟩, ⟨none, (.load 22 (.t 21) none)⟩, ⟨none, (.len 23 (.t 22))⟩, ⟨none, (.bin 24 .lss (.t 20) (.t 23))⟩] none (some ([1, 2, 5, 24], []))
def w36_4 := @awpR_no Try.prog Q σ r36_4 _ _ ⟨rfl, rfl⟩
def r36_5 : MC := .reg [⟨none, (.fad 27 (.t 2) 7)⟩, ⟨none, (.load 28 (.t 27) none)⟩, ⟨none, (.mv 29 (.t 5))⟩, ⟨none, (.iad 30 (.t 28) (.t 29) 8)⟩, ⟨none, (.load 31 (.t 30) (some 8))⟩, ⟨none, (.mv 32 (.t 1))⟩, ⟨none, (.call (some 33) (.c (.fn 36 [])) [(.t 31), (.t 32)])⟩, ⟨none, (.un 34 .not (.t 33))⟩] none (some ([1, 2, 5, 34], []))
def w36_5 := @awpR_no Try.prog Q σ r36_5 _ _ ⟨rfl, rfl⟩
def r36_6 : MC := .reg [⟨none, (.mv 4 (.c (.imm true (.bool false))))⟩] none (some ([4], []))
def w36_6 := @awpR_no Try.prog Q σ r36_6 _ _ ⟨rfl, rfl⟩
def r36_7 : MC := .reg [⟨none, (.mv 25 (.t 5))⟩, ⟨none, (.bin 26 .add (.t 25) (.c (.imm true (.int .i64 1))))⟩, ⟨none, (.mv 5 (.t 26))⟩] none (some ([1, 2, 5], []))
def w36_7 := @awpR_no Try.prog Q σ r36_7 _ _ ⟨rfl, rfl⟩
def l36_0 : MC := (.seq (.seq r36_4 (.cond (.t 24) .skip (.exit 0))) (.seq (.block 1 (.seq r36_5 (.cond (.t 34) (.seq r36_6 .ret) .skip))) r36_7))
def r36_8 : MC := .reg [⟨none, (.mv 4 (.c (.imm true (.bool true))))⟩] none (some ([4], []))
def w36_8 := @awpR_no Try.prog Q σ r36_8 _ _ ⟨rfl, rfl⟩
def my36 : MC := (.seq r36_0 (.seq (.seq r36_1 (.cond (.t 19) (.seq r36_2 .ret) .skip)) (.seq (.seq r36_3 (.block 0 (.loop l36_0))) (.seq r36_8 .ret))))
theorem my36_is : trC Try.prog ⟨[2], []⟩ ⟨[],
  [(0, [1, 2], []), (1, [1, 2, 19], []), (2, [4], []), (3, [1, 2, 5], []), (4, [1, 2, 5, 24], []), (6, [1, 2, 5, 34], []), (7, [4], []), (5, [1, 2, 5], []), (8, [4], [])]⟩ 35 (Try.f36.body.getD .skip) = some my36 := by kernel_rfl
theorem does36 {args : List LV} (hl : args.length.ble 35 = true) {S S' : List (List LV)} (hS : S'.length = S.length) {o : Out} (h : Lt ⟨numE 0 args, argS 0 S, []⟩ (awp Try.prog my36 (Fin [(.t 4)] o S'))) : Does Try.prog 36 args S o S' :=
  does_of_awp mixed Try.func36 (by kernel_rfl) (by kernel_rfl) my36_is (by kernel_rfl) (Nat.le_of_ble_eq_true hl) hS h
attribute [go_sem ↓] w36_0 w36_1 w36_2 w36_3 w36_4 w36_5 w36_6 w36_7 w36_8
attribute [go_sem] my36
/-! ### 9: lychgate/lychgatelaw16.NormLabels -/
def r9_0 : MC := .reg [⟨none, (.boxc 3 (.t 0))⟩, ⟨none, (.boxc 4 (.t 1))⟩, ⟨none, (.mv 6 (.c (.imm true (.bool false))))⟩] none (some ([2, 3, 4], []))
def w9_0 := @awpR_no Try.prog Q σ r9_0 _ _ ⟨rfl, rfl⟩
def r9_1 : MC := .reg [⟨none, (.load 21 (.t 3) (some 2))⟩, ⟨none, (.load 22 (.t 4) (some 2))⟩, ⟨none, (.mv 23 (.t 2))⟩, ⟨none, (.call (some 24) (.c (.fn 29 [])) [(.t 21), (.t 22), (.t 23)])⟩, ⟨none, (.mv 20 (.t 24))⟩, ⟨none, (.ext 25 (.t 20) 0)⟩, ⟨none, (.ext 26 (.t 20) 1)⟩, ⟨none, (.alloc 7 z8)⟩, ⟨none, (.store (.t 7) (.t 25) 8)⟩, ⟨none, (.mv 8 (.t 26))⟩] none (some ([2, 3, 4, 7, 8], [7]))
def w9_1 := @awpR_get Try.prog Q σ r9_1 _ _ [7] ⟨rfl, rfl⟩
def r9_2 : MC := .reg [⟨none, (.mv 27 (.t 8))⟩, ⟨none, (.bin 28 .neq (.t 27) (.c (.imm true (.int .i64 0))))⟩] none (some ([2, 3, 4, 7, 28], [7]))
def w9_2 := @awpR_no Try.prog Q σ r9_2 _ _ ⟨rfl, rfl⟩
def r9_3 : MC := .reg [⟨none, (.fad 29 (.t 7) 7)⟩, ⟨none, (.load 30 (.t 29) none)⟩, ⟨none, (.len 31 (.t 30))⟩, ⟨none, (.bin 32 .eql (.t 31) (.c (.imm true (.int .i64 0))))⟩, ⟨none, (.mv 33 (.t 32))⟩, ⟨(some (33, true)), (.fad 34 (.t 7) 0)⟩, ⟨(some (33, true)), (.load 35 (.t 34) none)⟩, ⟨(some (33, true)), (.bin 36 .eql (.t 35) (.c (.imm true (.int .i8 0))))⟩, ⟨none, (.pick 37 (.t 33) (.t 36) (.c (.imm true (.bool false))))⟩, ⟨none, (.mv 38 (.t 37))⟩, ⟨(some (38, true)), (.call (some 39) (.c (.fn 28 [])) [])⟩, ⟨none, (.pick 40 (.t 38) (.t 39) (.c (.imm true (.bool false))))⟩, ⟨none, (.mv 6 (.t 40))⟩] none (some ([6], []))
def w9_3 := @awpR_no Try.prog Q σ r9_3 _ _ ⟨rfl, rfl⟩
def r9_4 : MC := .reg [⟨none, (.mv 41 (.t 2))⟩, ⟨none, (.mv 9 (.t 41))⟩] none (some ([3, 4, 7, 9], [7]))
def w9_4 := @awpR_no Try.prog Q σ r9_4 _ _ ⟨rfl, rfl⟩
def r9_5 : MC := .reg [⟨none, (.mv 42 (.t 9))⟩, ⟨none, (.bin 43 .lss (.t 42) (.c (.imm true (.int .i64 0))))⟩] none (some ([3, 4, 7, 9, 43], [7]))
def w9_5 := @awpR_no Try.prog Q σ r9_5 _ _ ⟨rfl, rfl⟩
def r9_6 : MC := .reg [⟨none, (.mv 44 (.t 9))⟩, ⟨none, (.un 45 .neg (.t 44))⟩, ⟨none, (.mv 9 (.t 45))⟩] none (some ([3, 4, 7, 9], [7]))
def w9_6 := @awpR_no Try.prog Q σ r9_6 _ _ ⟨rfl, rfl⟩
def r9_7 : MC := .reg [⟨none, (.load 46 (.t 3) (some 2))⟩, ⟨none, (.load 47 (.t 4) (some 2))⟩, ⟨none, (.build 48 [(.imm true (.int .i8 0)), (.imm true (.str ⟨#[]⟩)), (.imm true (.str ⟨#[]⟩)), (.imm true (.int .i64 0)), (.imm true (.int .i8 0)), .nils, (.imm true (.int .i8 0)), .nils, (.imm true (.int .i64 0)), (.imm true (.int .i64 0)), .nils] [(0, (1, (.c (.imm true (.int .i8 2)))))])⟩, ⟨none, (.lit 49 11 [(.t 48)])⟩, ⟨none, (.build 50 [(.imm true (.int .i8 0)), (.imm true (.str ⟨#[]⟩)), (.imm true (.str ⟨#[]⟩)), (.imm true (.int .i64 0)), (.imm true (.int .i8 0)), .nils, (.imm true (.int .i8 0)), .nils, (.imm true (.int .i64 0)), (.imm true (.int .i64 0)), .nils] [(0, (1, (.c (.imm true (.int .i8 5))))), (1, (1, (.c (.imm true (.str ⟨#[102]⟩))))), (2, (1, (.c (.imm true (.str ⟨#[120]⟩))))), (4, (2, (.t 46))), (6, (2, (.t 47))), (10, (1, (.t 49)))])⟩, ⟨none, (.alloc 10 [(.imm true (.int .i8 0)), (.imm true (.str ⟨#[]⟩)), (.imm true (.str ⟨#[]⟩)), (.imm true (.int .i64 0)), (.imm true (.int .i8 0)), .nils, (.imm true (.int .i8 0)), .nils, (.imm true (.int .i64 0)), (.imm true (.int .i64 0)), .nils])⟩, ⟨none, (.store (.t 10) (.t 50) 11)⟩] none (some ([3, 4, 7, 9, 10], [7, 10]))
def w9_7 := @awpR_get Try.prog Q σ r9_7 _ _ [10] ⟨rfl, rfl⟩
def r9_8 : MC := .reg [⟨none, (.load 51 (.t 10) (some 11))⟩, ⟨none, (.call (some 52) (.c (.fn 35 [])) [(.t 51)])⟩, ⟨none, (.mv 11 (.t 52))⟩] none (some ([3, 4, 7, 9, 11], [7]))
def w9_8 := @awpR_no Try.prog Q σ r9_8 _ _ ⟨rfl, rfl⟩
def r9_9 : MC := .reg [⟨none, (.load 53 (.t 7) (some 8))⟩, ⟨none, (.mv 54 (.t 9))⟩, ⟨none, (.call (some 55) (.c (.fn 36 [])) [(.t 53), (.t 54)])⟩, ⟨none, (.un 56 .not (.t 55))⟩, ⟨none, (.mv 57 (.t 56))⟩, ⟨(some (57, false)), (.mv 58 (.t 11))⟩, ⟨(some (57, false)), (.bin 59 .gtr (.t 58) (.c (.imm true (.int .i64 0))))⟩, ⟨(some (57, false)), (.mv 60 (.t 59))⟩, ⟨(some (60, true)), (.load 61 (.t 7) (some 8))⟩, ⟨(some (60, true)), (.call (some 62) (.c (.fn 15 [])) [(.t 61)])⟩, ⟨(some (60, true)), (.mv 63 (.t 11))⟩, ⟨(some (60, true)), (.bin 64 .gtr (.t 62) (.t 63))⟩, ⟨(some (57, false)), (.pick 65 (.t 60) (.t 64) (.c (.imm true (.bool false))))⟩, ⟨none, (.pick 66 (.t 57) (.c (.imm true (.bool true))) (.t 65))⟩] none (some ([3, 4, 7, 66], [7]))
def w9_9 := @awpR_no Try.prog Q σ r9_9 _ _ ⟨rfl, rfl⟩
def r9_10 : MC := .reg [⟨none, (.mv 6 (.c (.imm true (.bool false))))⟩] none (some ([6], []))
def w9_10 := @awpR_no Try.prog Q σ r9_10 _ _ ⟨rfl, rfl⟩
def r9_11 : MC := .reg [⟨none, (.load 68 (.t 3) (some 2))⟩, ⟨none, (.build 69 z8 [(0, (1, (.c (.imm true (.int .i8 0))))), (1, (2, (.t 68)))])⟩, ⟨none, (.call (some 70) (.c (.fn 20 [])) [(.t 69)])⟩, ⟨none, (.mv 67 (.t 70))⟩, ⟨none, (.ext 71 (.t 67) 0)⟩, ⟨none, (.ext 72 (.t 67) 1)⟩, ⟨none, (.alloc 12 z8)⟩, ⟨none, (.store (.t 12) (.t 71) 8)⟩, ⟨none, (.mv 13 (.t 72))⟩] none (some ([4, 7, 12, 13], [7, 12]))
def w9_11 := @awpR_get Try.prog Q σ r9_11 _ _ [12] ⟨rfl, rfl⟩
def r9_12 : MC := .reg [⟨none, (.load 74 (.t 4) (some 2))⟩, ⟨none, (.build 75 z8 [(0, (1, (.c (.imm true (.int .i8 0))))), (1, (2, (.t 74)))])⟩, ⟨none, (.call (some 76) (.c (.fn 20 [])) [(.t 75)])⟩, ⟨none, (.mv 73 (.t 76))⟩, ⟨none, (.ext 77 (.t 73) 0)⟩, ⟨none, (.ext 78 (.t 73) 1)⟩, ⟨none, (.alloc 14 z8)⟩, ⟨none, (.store (.t 14) (.t 77) 8)⟩, ⟨none, (.mv 15 (.t 78))⟩] none (some ([7, 12, 13, 14, 15], [7, 12, 14]))
def w9_12 := @awpR_get Try.prog Q σ r9_12 _ _ [14] ⟨rfl, rfl⟩
def r9_13 : MC := .reg [⟨none, (.mv 79 (.t 13))⟩, ⟨none, (.bin 80 .neq (.t 79) (.c (.imm true (.int .i64 0))))⟩, ⟨none, (.mv 81 (.t 80))⟩, ⟨(some (81, false)), (.mv 82 (.t 15))⟩, ⟨(some (81, false)), (.bin 83 .neq (.t 82) (.c (.imm true (.int .i64 0))))⟩, ⟨none, (.pick 84 (.t 81) (.c (.imm true (.bool true))) (.t 83))⟩] none (some ([7, 12, 13, 14, 15, 84], [7, 12, 14]))
def w9_13 := @awpR_no Try.prog Q σ r9_13 _ _ ⟨rfl, rfl⟩
def r9_14 : MC := .reg [⟨none, (.mv 85 (.t 13))⟩, ⟨none, (.bin 86 .eql (.t 85) (.c (.imm true (.int .i64 0))))⟩, ⟨none, (.mv 87 (.t 86))⟩, ⟨(some (87, false)), (.mv 88 (.t 13))⟩, ⟨(some (87, false)), (.call (some 89) (.c (.fn 33 [])) [(.t 88)])⟩, ⟨none, (.pick 90 (.t 87) (.c (.imm true (.bool true))) (.t 89))⟩, ⟨none, (.mv 91 (.t 90))⟩, ⟨(some (91, true)), (.mv 92 (.t 15))⟩, ⟨(some (91, true)), (.bin 93 .eql (.t 92) (.c (.imm true (.int .i64 0))))⟩, ⟨(some (91, true)), (.mv 94 (.t 93))⟩, ⟨(some (94, false)), (.mv 95 (.t 15))⟩, ⟨(some (94, false)), (.call (some 96) (.c (.fn 33 [])) [(.t 95)])⟩, ⟨(some (91, true)), (.pick 97 (.t 94) (.c (.imm true (.bool true))) (.t 96))⟩, ⟨none, (.pick 98 (.t 91) (.t 97) (.c (.imm true (.bool false))))⟩, ⟨none, (.mv 99 (.t 98))⟩, ⟨(some (99, true)), (.call (some 100) (.c (.fn 28 [])) [])⟩, ⟨none, (.pick 101 (.t 99) (.t 100) (.c (.imm true (.bool false))))⟩, ⟨none, (.mv 6 (.t 101))⟩] none (some ([6], []))
def w9_14 := @awpR_no Try.prog Q σ r9_14 _ _ ⟨rfl, rfl⟩
def r9_15 : MC := .reg [⟨none, (.load 103 (.t 12) (some 8))⟩, ⟨none, (.load 104 (.t 7) (some 8))⟩, ⟨none, (.call (some 105) (.c (.fn 32 [])) [(.t 103), (.t 104)])⟩, ⟨none, (.mv 102 (.t 105))⟩, ⟨none, (.ext 106 (.t 102) 0)⟩, ⟨none, (.ext 107 (.t 102) 1)⟩, ⟨none, (.alloc 16 z8)⟩, ⟨none, (.store (.t 16) (.t 106) 8)⟩, ⟨none, (.mv 17 (.t 107))⟩] none (some ([7, 14, 16, 17], [7, 14, 16]))
def w9_15 := @awpR_get Try.prog Q σ r9_15 _ _ [16] ⟨rfl, rfl⟩
def r9_16 : MC := .reg [⟨none, (.load 109 (.t 7) (some 8))⟩, ⟨none, (.load 110 (.t 14) (some 8))⟩, ⟨none, (.call (some 111) (.c (.fn 32 [])) [(.t 109), (.t 110)])⟩, ⟨none, (.mv 108 (.t 111))⟩, ⟨none, (.ext 112 (.t 108) 0)⟩, ⟨none, (.ext 113 (.t 108) 1)⟩, ⟨none, (.alloc 18 z8)⟩, ⟨none, (.store (.t 18) (.t 112) 8)⟩, ⟨none, (.mv 19 (.t 113))⟩] none (some ([7, 16, 17, 18, 19], [7, 16, 18]))
def w9_16 := @awpR_get Try.prog Q σ r9_16 _ _ [18] ⟨rfl, rfl⟩
def r9_17 : MC := .reg [⟨none, (.mv 114 (.t 17))⟩, ⟨none, (.bin 115 .eql (.t 114) (.c (.imm true (.int .i64 0))))⟩, ⟨none, (.mv 116 (.t 115))⟩, ⟨(some (116, true)), (.mv 117 (.t 19))⟩, ⟨(some (116, true)), (.bin 118 .eql (.t 117) (.c (.imm true (.int .i64 0))))⟩, ⟨none, (.pick 119 (.t 116) (.t 118) (.c (.imm true (.bool false))))⟩, ⟨none, (.mv 120 (.t 119))⟩, ⟨(some (120, true)), (.load 121 (.t 16) (some 8))⟩, ⟨(some (120, true)), (.load 122 (.t 7) (some 8))⟩, ⟨(some (120, true)), (.call (some 123) (.c (.fn 24 [])) [(.t 121), (.t 122)])⟩, ⟨none, (.pick 124 (.t 120) (.t 123) (.c (.imm true (.bool false))))⟩, ⟨none, (.mv 125 (.t 124))⟩, ⟨(some (125, true)), (.load 126 (.t 18) (some 8))⟩, ⟨(some (125, true)), (.load 127 (.t 7) (some 8))⟩, ⟨(some (125, true)), (.call (some 128) (.c (.fn 24 [])) [(.t 126), (.t 127)])⟩, ⟨none, (.pick 129 (.t 125) (.t 128) (.c (.imm true (.bool false))))⟩, ⟨none, (.mv 130 (.t 129))⟩, ⟨(some (130, true)), (.call (some 131) (.c (.fn 28 [])) [])⟩, ⟨none, (.pick 132 (.t 130) (.t 131) (.c (.imm true (.bool false))))⟩, ⟨none, (.mv 6 (.t 132))⟩] none (some ([6], []))
def w9_17 := @awpR_no Try.prog Q σ r9_17 _ _ ⟨rfl, rfl⟩
def my9 : MC := (.seq r9_0 (.seq r9_1 (.seq (.seq r9_2 (.cond (.t 28) (.seq r9_3 .ret) .skip)) (.seq r9_4 (.seq (.seq r9_5 (.cond (.t 43) r9_6 .skip)) (.seq r9_7 (.seq r9_8 (.seq (.seq r9_9 (.cond (.t 66) (.seq r9_10 .ret) .skip)) (.seq r9_11 (.seq r9_12 (.seq (.seq r9_13 (.cond (.t 84) (.seq r9_14 .ret) .skip)) (.seq r9_15 (.seq r9_16 (.seq r9_17 .ret))))))))))))))
theorem my9_is : trC Try.prog ⟨[3, 4], []⟩ ⟨[],
  [(0, [2, 3, 4], []), (1, [2, 3, 4, 7, 8], [7]), (2, [2, 3, 4, 7, 28], [7]), (3, [6], []), (4, [3, 4, 7, 9], [7]), (5, [3, 4, 7, 9, 43], [7]), (6, [3, 4, 7, 9], [7]), (7, [3, 4, 7, 9, 10], [7, 10]), (8, [3, 4, 7, 9, 11], [7]), (9, [3, 4, 7, 66], [7]), (10, [6], []), (11, [4, 7, 12, 13], [7, 12]), (12, [7, 12, 13, 14, 15], [7, 12, 14]), (13, [7, 12, 13, 14, 15, 84], [7, 12, 14]), (14, [6], []), (15, [7, 14, 16, 17], [7, 14, 16]), (16, [7, 16, 17, 18, 19], [7, 16, 18]), (17, [6], [])]⟩ 133 (Try.f9.body.getD .skip) = some my9 := by kernel_rfl
theorem does9 {args : List LV} (hl : args.length.ble 133 = true) {S S' : List (List LV)} (hS : S'.length = S.length) {o : Out} (h : Lt ⟨numE 0 args, argS 0 S, []⟩ (awp Try.prog my9 (Fin [(.t 6)] o S'))) : Does Try.prog 9 args S o S' :=
  does_of_awp mixed Try.func9 (by kernel_rfl) (by kernel_rfl) my9_is (by kernel_rfl) (Nat.le_of_ble_eq_true hl) hS h
attribute [go_sem ↓] w9_0 w9_1 w9_2 w9_3 w9_4 w9_5 w9_6 w9_7 w9_8 w9_9 w9_10 w9_11 w9_12 w9_13 w9_14 w9_15 w9_16 w9_17
attribute [go_sem] my9
end Go.Proofs.Ytopgmopdjiahmaa.Lg

/- NormLabels: labels, heights. Conditions: none; plain lemmas. -/
set_option linter.unusedVariables false
set_option linter.unusedSimpArgs false
set_option maxRecDepth 100000
set_option maxHeartbeats 2000000
namespace Go.Proofs.Ytopgmopdjiahmaa.Lg
open Go Go.RowKit Go.Proofs

theorem labelled_does (p : Int) : ∀ c : Cn, c.fits → Does Try.prog 36 [.imm false (.agg c.cells), .imm false (.int .i64 p)] [] (.ret true (.bool (c.lbd p))) [] := by
  refine Cn.ind fun k ty to lab neg ks ih hf => ?_
  have hfl : ks.length ≤ 9223372036854775807 := hf.2.2.1
  have main : ∀ b1 b2 b3 : Bool, (k == 3) = b1 → (k == 1) = b2 → (lab != p) = b3 → Does Try.prog 36 [.imm false (.agg (Cn.mk k ty to lab neg ks).cells), .imm false (.int .i64 p)] [] (.ret true (.bool (if (b1 || b2) && b3 then false else Cn.lbdL p ks))) [] := by
    intro b1 b2 b3 h1 h2 h3
    refine does36 (by rfl) (by rfl) ?_
    by_cases hb : ((b1 || b2) && b3) = true
    · rw [hb]
      cases b1 <;> cases b2 <;> cases b3 <;> first | (exact absurd hb (by decide)) | (try simp (implicitDefEqProofs := false) only [go_sem, ↓reduceIte, Nat.reduceEqDiff, reduceCtorEq, Nat.reduceAdd, Nat.reduceSub, Nat.reduceLeDiff, Nat.reduceLT, Nat.reduceMul, Int.reduceToNat, Int.reduceLT, Int.reduceLE, Cn.cells, h1, h2, h3])
    · have hb' : ((b1 || b2) && b3) = false := by simpa using hb
      rw [hb']
      have loop : awp Try.prog (MC.seq (.seq r36_3 (.block 0 (.loop l36_0))) (.seq r36_8 .ret)) (Fin [(.t 4)] (.ret true (.bool (Cn.lbdL p ks))) []) ⟨[(1, .imm false (.int .i64 p)), (2, .imm false (.ptr (Cn.mk k ty to lab neg ks).cells 0)), (19, .imm true (.bool false))], [], []⟩ := by
        (try simp (implicitDefEqProofs := false) only [go_sem, ↓reduceIte, Nat.reduceEqDiff, reduceCtorEq, Nat.reduceAdd, Nat.reduceSub, Nat.reduceLeDiff, Nat.reduceLT, Nat.reduceMul, Int.reduceToNat, Int.reduceLT, Int.reduceLE, Cn.cells])
        refine ⟨fun m σ => ∃ (j : Nat), j ≤ ks.length ∧ m = ks.length - j ∧ Cn.lbdL p ks = Cn.lbdL p (ks.drop j) ∧ σ = ⟨[(1, .imm false (.int .i64 p)), (2, .imm false (.ptr (Cn.mk k ty to lab neg ks).cells 0)), (5, .imm true (.int .i64 j))], [], []⟩, ⟨_, 0, by omega, rfl, rfl, by simp only [Cn.cells]; rfl⟩, ?_⟩
        rintro m σ ⟨j, hj, rfl, hl, rfl⟩
        unfold l36_0
        by_cases hlt : j < ks.length
        · obtain ⟨c, hm, hat, hdr, _⟩ := Cn.kid hlt
          have hc := ih _ hm (Cn.fitsL_mem hf.2.2.2.2 _ hm)
          rw [hdr, Cn.lbdL] at hl
          generalize c.lbd p = lb at hc hl
          obtain ⟨k2, ty2, to2, lab2, neg2, ks2⟩ := c
          simp only [Cn.cells] at hat hc
          (try simp (implicitDefEqProofs := false) only [go_sem, ↓reduceIte, Nat.reduceEqDiff, reduceCtorEq, Nat.reduceAdd, Nat.reduceSub, Nat.reduceLeDiff, Nat.reduceLT, Nat.reduceMul, Int.reduceToNat, Int.reduceLT, Int.reduceLE, Cn.cells, Cn.cellsL_len, hat, Int.toNat_natCast, Int.natCast_nonneg, show decide ((j : Int) < (ks.length : Int)) = true from by simpa using hlt])
          refine CallK_do hc ?_
          cases lb with
          | true =>
            (try simp (implicitDefEqProofs := false) only [go_sem, ↓reduceIte, Nat.reduceEqDiff, reduceCtorEq, Nat.reduceAdd, Nat.reduceSub, Nat.reduceLeDiff, Nat.reduceLT, Nat.reduceMul, Int.reduceToNat, Int.reduceLT, Int.reduceLE, Bool.not_true, wrap64 (n := (j : Int) + 1) (by omega) (by omega)])
            exact ⟨_, by omega, j + 1, by omega, rfl, by rw [hl, Bool.true_and], rfl⟩
          | false =>
            rw [Bool.false_and] at hl
            (try simp (implicitDefEqProofs := false) only [go_sem, ↓reduceIte, Nat.reduceEqDiff, reduceCtorEq, Nat.reduceAdd, Nat.reduceSub, Nat.reduceLeDiff, Nat.reduceLT, Nat.reduceMul, Int.reduceToNat, Int.reduceLT, Int.reduceLE, Bool.not_false, hl])
        · have hd : ks.drop j = [] := List.drop_eq_nil_of_le (by omega)
          rw [hd] at hl
          (try simp (implicitDefEqProofs := false) only [go_sem, ↓reduceIte, Nat.reduceEqDiff, reduceCtorEq, Nat.reduceAdd, Nat.reduceSub, Nat.reduceLeDiff, Nat.reduceLT, Nat.reduceMul, Int.reduceToNat, Int.reduceLT, Int.reduceLE, Cn.cells, Cn.cellsL_len, show decide ((j : Int) < (ks.length : Int)) = false from by simpa using hlt, hl, Cn.lbdL])
      obtain ⟨tl, htl⟩ : ∃ b, MC.seq (.seq r36_3 (.block 0 (.loop l36_0))) (.seq r36_8 .ret) = b := ⟨_, rfl⟩
      rw [show my36 = .seq r36_0 (.seq (.seq r36_1 (.cond (.t 19) (.seq r36_2 .ret) .skip)) (.seq (.seq r36_3 (.block 0 (.loop l36_0))) (.seq r36_8 .ret))) from rfl, htl]
      rw [htl] at loop
      simp only [Cn.cells] at loop ⊢
      cases b1 <;> cases b2 <;> cases b3 <;> first | (exact absurd hb' (by decide)) | ((try simp (implicitDefEqProofs := false) only [go_sem, ↓reduceIte, Nat.reduceEqDiff, reduceCtorEq, Nat.reduceAdd, Nat.reduceSub, Nat.reduceLeDiff, Nat.reduceLT, Nat.reduceMul, Int.reduceToNat, Int.reduceLT, Int.reduceLE, h1, h2, h3]); exact loop)
  have := main _ _ _ rfl rfl rfl
  simpa only [Cn.lbd] using this

theorem vhigh_does : ∀ t : Ty, t.fits → t.high ≤ 1000000 → Does Try.prog 108 [.imm false (.slice (Ty.cellsL t.ts))] [] (.ret true (.int .i64 (Ty.highL t.ts 0))) [] := by
  refine Ty.ind fun k ts ih hf hh => ?_
  have hfl : ts.length ≤ 9223372036854775807 := hf.1
  have hhl : Ty.highL ts 0 ≤ 999999 := by simp only [Ty.high] at hh; omega
  simp only [Ty.ts_mk]
  refine does108 (by rfl) (by rfl) ?_
  (try simp (implicitDefEqProofs := false) only [go_sem, ↓reduceIte, Nat.reduceEqDiff, reduceCtorEq, Nat.reduceAdd, Nat.reduceSub, Nat.reduceLeDiff, Nat.reduceLT, Nat.reduceMul, Int.reduceToNat, Int.reduceLT, Int.reduceLE, Ty.cellsL_len])
  refine ⟨fun q σ => ∃ j d, j ≤ ts.length ∧ q = ts.length - j ∧ 0 ≤ d ∧ Ty.highL ts 0 = Ty.highL (ts.drop j) d ∧ σ = ⟨[(3, .imm true (.int .i64 d)), (6, .imm false (.slice (Ty.cellsL ts))), (7, .imm true (.int .i64 ts.length)), (8, .imm true (.int .i64 j))], [], []⟩, ⟨_, 0, 0, by omega, rfl, by omega, rfl, rfl⟩, ?_⟩
  rintro q σ ⟨j, d, hj, rfl, hd0, hs, rfl⟩
  unfold l108_0
  (try simp (implicitDefEqProofs := false) only [go_sem, ↓reduceIte, Nat.reduceEqDiff, reduceCtorEq, Nat.reduceAdd, Nat.reduceSub, Nat.reduceLeDiff, Nat.reduceLT, Nat.reduceMul, Int.reduceToNat, Int.reduceLT, Int.reduceLE, CondOn_imm])
  have hdl : d ≤ 999999 := by have := Ty.highL_ge (ts.drop j) d; omega
  refine ⟨fun hlt => ?_, fun hlt => ?_⟩
  · have hlt : j < ts.length := by simpa using hlt
    obtain ⟨k', ts', hm, hat, hdr, _⟩ := Ty.kid hlt
    rw [hdr, Ty.highL] at hs
    have hkid := Ty.highL_mem (ts := ts) 0 _ hm
    have hk2 : (Ty.mk k' ts').high = 1 + Ty.highL ts' 0 := by simp only [Ty.high]; omega
    have hi := ih _ hm (Ty.fitsL_mem (by simpa [Ty.fits] using hf.2) _ hm) (by omega)
    have hge := Ty.highL_ge ts' 0
    simp only [Ty.ts_mk] at hi
    (try simp (implicitDefEqProofs := false) only [go_sem, ↓reduceIte, Nat.reduceEqDiff, reduceCtorEq, Nat.reduceAdd, Nat.reduceSub, Nat.reduceLeDiff, Nat.reduceLT, Nat.reduceMul, Int.reduceToNat, Int.reduceLT, Int.reduceLE, hat, Int.toNat_natCast, Int.natCast_nonneg])
    refine CallK_do hi ?_
    (try simp (implicitDefEqProofs := false) only [go_sem, ↓reduceIte, Nat.reduceEqDiff, reduceCtorEq, Nat.reduceAdd, Nat.reduceSub, Nat.reduceLeDiff, Nat.reduceLT, Nat.reduceMul, Int.reduceToNat, Int.reduceLT, Int.reduceLE, wrap64 (n := (j : Int) + 1) (by omega) (by omega), wrap64 (n := 1 + Ty.highL ts' 0) (by omega) (by omega)])
    exact ⟨_, by omega, j + 1, maxI d (Ty.mk k' ts').high, by omega, rfl, by have := le_maxI (a := d) (b := (Ty.mk k' ts').high); omega, hs, by rw [hk2]; rfl⟩
  · have hge : j = ts.length := by have : ¬ j < ts.length := by simpa using hlt
                                   omega
    subst hge
    simp only [List.drop_length, Ty.highL] at hs
    (try simp (implicitDefEqProofs := false) only [go_sem, ↓reduceIte, Nat.reduceEqDiff, reduceCtorEq, Nat.reduceAdd, Nat.reduceSub, Nat.reduceLeDiff, Nat.reduceLT, Nat.reduceMul, Int.reduceToNat, Int.reduceLT, Int.reduceLE, hs])
theorem vhigh_two (a b : Ty) (ha : a.check = 0) (hb : b.check = 0) : Does Try.prog 108 [.imm false (.slice [a.cells, b.cells])] [] (.ret true (.int .i64 (maxI a.high b.high))) [] := by
  have h1 := high_of_check ha
  have h2 := high_of_check hb
  have hp := Ty.high_pos a
  have h := high_two 0 a b
  have hm := maxI_le (a := a.high) (b := b.high) (c := 200) (by omega) (by omega)
  have hd := vhigh_does (.mk 0 [a, b]) ⟨by simp, Ty.right_fits _ (check_iff.1 ha).2.2, Ty.right_fits _ (check_iff.1 hb).2.2, trivial⟩ (by omega)
  have e : Ty.highL [a, b] 0 = maxI a.high b.high := by
    have : (Ty.mk 0 [a, b]).high = Ty.highL [a, b] 0 + 1 := rfl
    omega
  rw [Ty.ts_mk, e] at hd
  exact hd
end Go.Proofs.Ytopgmopdjiahmaa.Lg
