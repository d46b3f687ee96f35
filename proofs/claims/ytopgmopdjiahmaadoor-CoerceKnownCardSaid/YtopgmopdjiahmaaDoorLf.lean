/- Each operation, one by one, second part: indexes, numbers, lengths. Conditions: none; plain lemmas. -/
import Derived.Test.YtopgmopdjiahmaaDoorLe
set_option linter.unusedVariables false
set_option linter.unusedSimpArgs false
namespace Go.Proofs.YtopgmopdjiahmaaDoor.Lg
open Go Go.RowKit
section
variable {P : Program} {cx : Cx} {σ : St} {M : Pl} {a : Act} {w : World} {o : Oper} {d : Nat}

theorem intOf_inv {s : List (Key × Box)} {z : List Key} {lv : LV} {n : Int} {x : Value} (hn : intOfLV lv = some n) (h : RR cx s z M w lv x) : ∃ k, x = .int k n := by
  unfold intOfLV at hn
  split at hn
  · simp only [Option.some.injEq] at hn; subst hn
    exact ⟨_, h.int_inv⟩
  · cases hn

theorem run_sizeOf' {e : TypeId} {n : Nat} (h : szOf P e = some n) : (Go.sizeOf e).run P w = .ok n w := by
  obtain ⟨i, hi, rfl⟩ := Option.map_eq_some_iff.1 h
  simp [Go.sizeOf, typeInfo, hi]

theorem goes_iad (h : Inv cx σ M a w) (ho : o.dst = some d) (hd : d < a.tmps.size) {x i : Operand} {x' i' : Opd} {t e : TypeId} {sz : Nat} (hop : o.op = .indexAddr t x i) (hx : trX x = some x') (hi : trX i = some i')
    (hu : P.underlying t = some (.slice e)) (hn : szOf P e = some sz)
    {E : Eff} (ha : aop σ (.iad d x' i' sz) = some E) : OpGoes P cx o a w M (σ.app E) := by
  have hR := trX_rep h hx
  have hI := trX_rep h hi
  simp only [aop] at ha
  split at ha
  · rename_i f es n hev hin
    obtain ⟨k, hk⟩ := intOf_inv hin hI
    split at ha
    · rename_i h0
      split at ha
      · rename_i cs hcs
        split at ha
        · rename_i hlen
          rw [val_eff ha]
          rw [hev] at hR
          have hR := RepL.imm_iff.1 hR
          obtain ⟨hlt, rfl⟩ := List.getElem?_eq_some_iff.1 hcs
          generalize hg : a.eval x = u at *
          cases hR with
          | slice0 A c => simp at hlt
          | slice elems b o' sz' c vs hN hsz hm hcap hc h1 hr =>
            have hszz : sz' = sz := by rw [← hlen, hsz _ hlt]
            subst hszz
            have hin' : 0 ≤ n ∧ n < (es.length : Int) := ⟨h0, by omega⟩
            have hbound : ∀ j, j < sz' → n.toNat * sz' + j < es.length * sz' := by
              intro j hj
              have : (n.toNat + 1) * sz' ≤ es.length * sz' := Nat.mul_le_mul_right _ hlt
              rw [Nat.add_mul] at this; omega
            refine goes_val h ho hd (v := .pointer (some ⟨b, o' + n.toNat * sz', none⟩)) ?_ (RepL.imm_iff.2 ?_)
            · simp [execOp, hop, hg, hk, Instr.indexAt, asIntOf, run_underlying hu, hin', run_sizeOf' hn, add_flat]
            · have := RepI.ptr (w := w) (N := (if f = true then NF cx σ.s σ.z M w else NS cx σ.s σ.z M w)) es[n.toNat] 0 b (o' + n.toNat * sz') (fun j => vs (n.toNat * sz' + j)) hN
                (fun j hj => by rw [Nat.add_assoc]; exact hc _ (hbound j (by omega))) (fun j hj => h1 _ (hbound j (by omega))) (fun j hj => hr _ hlt j hj)
              simpa using this
        · cases ha
      · cases ha
    · cases ha
  · rename_i k m n hev hin
    obtain ⟨kk, hk⟩ := intOf_inv hin hI
    split at ha
    · rename_i h0
      rw [val_eff ha]
      rw [hev] at hR
      generalize hg : a.eval x = u at *
      cases hR with
      | row k m b c hM =>
        refine goes_val h ho hd (v := .pointer (some ⟨b, n.toNat * sz, none⟩)) ?_ (.loc k _ b c hM)
        simp [execOp, hop, hg, hk, Instr.indexAt, asIntOf, run_underlying hu, h0, run_sizeOf' hn, add_flat]
    · cases ha
  · cases ha

theorem goes_aad (h : Inv cx σ M a w) (ho : o.dst = some d) (hd : d < a.tmps.size) {x i : Operand} {x' i' : Opd} {t e : TypeId} {len sz : Nat} (hop : o.op = .indexAddr t x i) (hx : trX x = some x') (hi : trX i = some i')
    (hu : P.underlying t = some (.array len e)) (hn : szOf P e = some sz)
    {E : Eff} (ha : aop σ (.aad d x' i' len sz) = some E) : OpGoes P cx o a w M (σ.app E) := by
  have hR := trX_rep h hx
  have hI := trX_rep h hi
  simp only [aop] at ha
  split at ha
  · rename_i f cs off n hev hin
    obtain ⟨k, hk⟩ := intOf_inv hin hI
    split at ha
    · rename_i h0
      rw [val_eff ha]
      rw [hev] at hR
      have hR := RepL.imm_iff.1 hR
      generalize hg : a.eval x = u at *
      cases hR with
      | ptr cells off b o' vs hN hc h1 hr =>
        refine goes_val h ho hd (v := .pointer (some ⟨b, o' + (off + n.toNat * sz), none⟩)) ?_ (RepL.imm_iff.2 (.ptr cs _ b o' vs hN hc h1 hr))
        simp [execOp, hop, hg, hk, Instr.indexAt, asIntOf, run_underlying hu, Instr.sureAddr, h0, run_sizeOf' hn, add_flat, Nat.add_assoc]
    · cases ha
  · rename_i k off n hev hin
    obtain ⟨kk, hk⟩ := intOf_inv hin hI
    split at ha
    · rename_i h0
      rw [val_eff ha]
      rw [hev] at hR
      generalize hg : a.eval x = u at *
      cases hR with
      | loc k off b c hM =>
        refine goes_val h ho hd (v := .pointer (some ⟨b, off + n.toNat * sz, none⟩)) ?_ (.loc k _ b c hM)
        simp [execOp, hop, hg, hk, Instr.indexAt, asIntOf, run_underlying hu, Instr.sureAddr, h0, run_sizeOf' hn, add_flat]
    · cases ha
  · cases ha

theorem goes_idx (h : Inv cx σ M a w) (ho : o.dst = some d) (hd : d < a.tmps.size) {x i : Operand} {x' i' : Opd} {t e : TypeId} {len sz : Nat} {n : Option Nat} (hop : o.op = .index t x i) (hx : trX x = some x') (hi : trX i = some i')
    (hu : P.underlying t = some (.array len e)) (hsz : szOf P e = some sz) (hn : nOf P e = some n)
    {E : Eff} (ha : aop σ (.idx d x' i' len sz n) = some E) : OpGoes P cx o a w M (σ.app E) := by
  have hR := trX_rep h hx
  have hI := trX_rep h hi
  simp only [aop] at ha
  split at ha
  · rename_i cs m hcs hin
    obtain ⟨k, hk⟩ := intOf_inv hin hI
    split at ha
    · rename_i h0
      split at ha
      · rename_i lv hp
        rw [val_eff ha]
        obtain ⟨vs, hc, hrows, h1⟩ := hR.acells hcs
        obtain ⟨v, hv, hRv⟩ := part_sound (P := P) (w := w) (fun cs vs h1 h2 => RR.agg cs vs h1 h2) hn hrows h1 hp
        refine goes_val h ho hd (v := v) ?_ hRv
        simp [execOp, hop, hc, hk, Instr.index, asIntOf, run_underlying hu, h0, run_sizeOf' hsz, hv]
      · cases ha
    · cases ha
  · cases ha

theorem abin_sound {op : BinOp} {x y r : IV} {vx vy : Value} {N N' : Nat → Prop} (h : abin op x y = some r) (hx : RepI w N x vx) (hy : RepI w N' y vy) (t : TypeId) (ox oy : Operand) :
    ∃ v, (binOp op t vx vy).run P w = .ok v w ∧ (eqGuard op t ox oy vx vy).run P w = .ok () w ∧ (∀ N, RepI w N r v) := by
  unfold abin at h
  split at h
  · rename_i k a k' b
    cases hx; cases hy
    have hg : (eqGuard op t ox oy (.int k a) (.int k' b)).run P w = .ok () w := by
      unfold eqGuard
      split <;> rfl
    split at h
    · split at h
      · cases h
      · rename_i hb
        simp only [Option.some.injEq] at h; subst h
        exact ⟨_, by simp [binOp, Op.shift, hb], hg, fun N => .int _ _⟩
    · cases h
    · rename_i hns hnr
      split at h
      · rename_i hk
        subst hk
        have hb0 : binOp op t (.int k a) (.int k b) = match op with
            | .add | .sub | .mul => Op.intArith op k a b
            | .quo | .rem => Op.intDiv op k a b
            | .and | .or | .xor | .andNot => Op.intBits op k a b
            | _ => Op.intCmp op a b := by
          cases op <;> first | rfl | exact absurd rfl hns | exact absurd rfl hnr | simp [binOp]
        rw [hb0]
        cases op <;> simp only [reduceCtorEq] at h <;> try (first | (simp only [Option.some.injEq] at h; subst h))
        all_goals first
          | exact ⟨_, by simp [Op.intArith], hg, fun N => .int _ _⟩
          | exact ⟨_, by simp [Op.intCmp], hg, fun N => .bool _⟩
          | (split at h
             · cases h
             · rename_i hb
               simp only [Option.some.injEq] at h; subst h
               exact ⟨_, by simp [Op.intDiv, hb], hg, fun N => .int _ _⟩)
      · cases h
  · rename_i a b
    cases hx; cases hy
    have hg : (eqGuard op t ox oy (.string a) (.string b)).run P w = .ok () w := by
      unfold eqGuard
      split <;> rfl
    split at h <;> first | (simp only [Option.some.injEq] at h; subst h; exact ⟨_, by simp [binOp, Op.stringOp], hg, fun N => .bool _⟩) | cases h
  · cases h

theorem goes_bin (h : Inv cx σ M a w) (ho : o.dst = some d) (hd : d < a.tmps.size) {x y : Operand} {x' y' : Opd} {op : BinOp} {t u : TypeId} (hop : o.op = .binOp op t x y u) (hx : trX x = some x') (hy : trX y = some y')
    {E : Eff} (ha : aop σ (.bin d op x' y') = some E) : OpGoes P cx o a w M (σ.app E) := by
  have hR := trX_rep h hx
  have hS := trX_rep h hy
  simp only [aop] at ha
  split at ha
  · rename_i f1 v1 f2 v2 e1 e2
    split at ha
    · rename_i r hr
      rw [val_eff ha]
      rw [e1] at hR; rw [e2] at hS
      obtain ⟨v, h1, h2, h3⟩ := abin_sound (P := P) hr (RepL.imm_iff.1 hR) (RepL.imm_iff.1 hS) t x y
      refine goes_val h ho hd (v := v) ?_ (RepL.imm_iff.2 (h3 _))
      simp [execOp, hop, h1, h2]
    · cases ha
  · cases ha

theorem run_equalIn_bool {t : TypeId} (hu : P.underlying t = some .bool) (n : Nat) (x y : Bool) : (Op.equalIn (n + 1) t (.bool x) (.bool y)).run P w = .ok (x == y) w := by
  simp [Op.equalIn, run_underlying hu]
theorem run_eql_bool {t : TypeId} (hu : P.underlying t = some .bool) (x y : Bool) : (binOp .eql t (.bool x) (.bool y)).run P w = .ok (.bool (x == y)) w := by
  have : (Op.equal t (.bool x) (.bool y)).run P w = .ok (x == y) w := run_equalIn_bool hu 9999 x y
  rw [binOp, Sem.run_bind, this]
  all_goals first | rfl | (intros; simp_all)
theorem run_neq_bool {t : TypeId} (hu : P.underlying t = some .bool) (x y : Bool) : (binOp .neq t (.bool x) (.bool y)).run P w = .ok (.bool (!(x == y))) w := by
  have : (Op.equal t (.bool x) (.bool y)).run P w = .ok (x == y) w := run_equalIn_bool hu 9999 x y
  rw [binOp, Sem.run_bind, this]
  all_goals first | rfl | (intros; simp_all)
theorem run_eqGuard_bool {t : TypeId} (op : BinOp) (ox oy : Operand) (x y : Bool) : (eqGuard op t ox oy (.bool x) (.bool y)).run P w = .ok () w := by
  unfold eqGuard
  split <;> rfl

theorem goes_binb (h : Inv cx σ M a w) (ho : o.dst = some d) (hd : d < a.tmps.size) {x y : Operand} {x' y' : Opd} {neg : Bool} {t u : TypeId} (hop : o.op = .binOp (if neg then .neq else .eql) t x y u) (hx : trX x = some x') (hy : trX y = some y')
    (hu : P.underlying t = some .bool) {E : Eff} (ha : aop σ (.binb d neg x' y') = some E) : OpGoes P cx o a w M (σ.app E) := by
  have hR := trX_rep h hx
  have hS := trX_rep h hy
  simp only [aop] at ha
  split at ha
  · rename_i f1 b1 f2 b2 e1 e2
    rw [val_eff ha]
    rw [e1] at hR; rw [e2] at hS
    have hR := hR.bool_inv
    have hS := hS.bool_inv
    cases neg
    · refine goes_val h ho hd (v := .bool (b1 == b2)) ?_ (RepL.imm_iff.2 (.bool _))
      simp only [Bool.false_eq_true, if_false] at hop
      simp [execOp, hop, hR, hS, run_eqGuard_bool, run_eql_bool hu]
    · refine goes_val h ho hd (v := .bool (!(b1 == b2))) ?_ (RepL.imm_iff.2 (.bool _))
      simp only [if_true] at hop
      simp [execOp, hop, hR, hS, run_eqGuard_bool, run_neq_bool hu]
  · cases ha

theorem goes_un (h : Inv cx σ M a w) (ho : o.dst = some d) (hd : d < a.tmps.size) {x : Operand} {x' : Opd} {op : UnOp} {t : TypeId} (hop : o.op = .unOp op t x) (hx : trX x = some x')
    {E : Eff} (ha : aop σ (.un d op x') = some E) : OpGoes P cx o a w M (σ.app E) := by
  have hR := trX_rep h hx
  simp only [aop] at ha
  split at ha
  · rename_i f1 v1 e1
    split at ha
    · rename_i r hr
      rw [val_eff ha]
      rw [e1] at hR
      unfold aun at hr
      split at hr
      · split at hr
        · simp only [Option.some.injEq] at hr; subst hr
          refine goes_val h ho hd (v := .bool (!_)) ?_ (RepL.imm_iff.2 (.bool _))
          simp [execOp, hop, hR.bool_inv, Op.unary]
        · cases hr
      · split at hr
        · simp only [Option.some.injEq] at hr; subst hr
          refine goes_val h ho hd (v := .int _ _) ?_ (RepL.imm_iff.2 (.int _ _))
          simp [execOp, hop, hR.int_inv, Op.unary, Op.intArith]
        · cases hr
      · cases hr
    · cases ha
  · cases ha

theorem goes_conv (h : Inv cx σ M a w) (ho : o.dst = some d) (hd : d < a.tmps.size) {x : Operand} {x' : Opd} {s t : TypeId} {k j : IntKind} (hop : o.op = .convert s t x) (hx : trX x = some x') (hs : P.underlying s = some (.int j)) (ht : P.underlying t = some (.int k))
    {E : Eff} (ha : aop σ (.conv d k x') = some E) : OpGoes P cx o a w M (σ.app E) := by
  have hR := trX_rep h hx
  simp only [aop] at ha
  split at ha
  · rename_i f1 k1 n e1
    rw [val_eff ha]
    rw [e1] at hR
    refine goes_val h ho hd (v := .int k (k.wrap n)) ?_ (RepL.imm_iff.2 (.int _ _))
    simp [execOp, hop, hR.int_inv, convert, run_underlying hs, run_underlying ht, Conv.intToInt]
  · cases ha

theorem goes_len (h : Inv cx σ M a w) (ho : o.dst = some d) (hd : d < a.tmps.size) {x : Operand} {x' : Opd} {c : Call} {t e : TypeId} (hop : o.op = .call c) (hc : c.callee = .builtin .len) (hargs : c.args.toList = [x]) (hty : c.argTypes.toList = [t])
    (hx : trX x = some x') (hu : P.underlying t = some (.slice e)) {E : Eff} (ha : aop σ (.len d x') = some E) : OpGoes P cx o a w M (σ.app E) := by
  have hR := trX_rep h hx
  obtain ⟨callee, args, argTypes⟩ := c
  have ha1 : args = #[x] := by apply Array.toList_inj.1; simpa using hargs
  have ha2 : argTypes = #[t] := by apply Array.toList_inj.1; simpa using hty
  simp only at hc; subst hc; subst ha1; subst ha2
  have main : ∀ (n : Nat) A k, a.eval x = .slice A n k → (execOp a.eval o).run P w = .ok (.value (.int .i64 n)) w := by
    intro n A k hv
    simp [execOp, hop, resolve, invoke, builtin, Builtin.len_, hv, run_underlying hu, goInt]
  simp only [aop] at ha
  split at ha
  · rename_i f es hev
    rw [val_eff ha]
    rw [hev] at hR
    have hR := RepL.imm_iff.1 hR
    have : ∃ A k, a.eval x = .slice A es.length k := by
      generalize a.eval x = u at *
      cases hR with
      | slice0 A c => exact ⟨A, c, rfl⟩
      | slice elems b o' sz c vs => exact ⟨_, c, rfl⟩
    obtain ⟨A, k, hv⟩ := this
    exact goes_val h ho hd (v := .int .i64 es.length) (main es.length A k hv) (RepL.imm_iff.2 (.int _ _))
  · rename_i hev
    rw [val_eff ha]
    rw [hev] at hR
    have : a.eval x = .slice none 0 0 := by
      generalize a.eval x = u at *
      cases hR; rfl
    exact goes_val h ho hd (v := .int .i64 0) (main 0 _ _ this) (RepL.imm_iff.2 (.int _ _))
  · rename_i k n hev
    rw [val_eff ha]
    rw [hev] at hR
    have : ∃ A k, a.eval x = .slice A n k := by
      generalize a.eval x = u at *
      cases hR
      exact ⟨_, _, rfl⟩
    obtain ⟨A, k, hv⟩ := this
    exact goes_val h ho hd (v := .int .i64 n) (main n A k hv) (RepL.imm_iff.2 (.int _ _))
  · cases ha
theorem goes_slen (h : Inv cx σ M a w) (ho : o.dst = some d) (hd : d < a.tmps.size) {x : Operand} {x' : Opd} {c : Call} {t : TypeId} (hop : o.op = .call c) (hc : c.callee = .builtin .len) (hargs : c.args.toList = [x]) (hty : c.argTypes.toList = [t])
    (hx : trX x = some x') (hu : P.underlying t = some .string) {E : Eff} (ha : aop σ (.slen d x') = some E) : OpGoes P cx o a w M (σ.app E) := by
  have hR := trX_rep h hx
  obtain ⟨callee, args, argTypes⟩ := c
  have ha1 : args = #[x] := by apply Array.toList_inj.1; simpa using hargs
  have ha2 : argTypes = #[t] := by apply Array.toList_inj.1; simpa using hty
  simp only at hc; subst hc; subst ha1; subst ha2
  simp only [aop] at ha
  split at ha
  · rename_i f s hev
    rw [val_eff ha]
    rw [hev] at hR
    refine goes_val h ho hd (v := .int .i64 s.size) ?_ (RepL.imm_iff.2 (.int _ _))
    simp [execOp, hop, resolve, invoke, builtin, Builtin.len_, hR.str_inv, run_underlying hu, goInt]
  · cases ha
theorem goes_mkif (h : Inv cx σ M a w) (ho : o.dst = some d) (hd : d < a.tmps.size) {x : Operand} {x' : Opd} {t : TypeId} {fs : Array Field} (hop : o.op = .makeInterface t x) (hx : trX x = some x') (hu : P.underlying t = some (.struct fs))
    {E : Eff} (ha : aop σ (.mkif d t x') = some E) : OpGoes P cx o a w M (σ.app E) := by
  have hR := trX_rep h hx
  simp only [aop] at ha
  split at ha
  · rename_i hc
    rw [val_eff ha]
    obtain ⟨vs, hv, hrows, _⟩ := hR.acells hc
    have hl := hrows.1
    have : vs = #[] := Array.eq_empty_of_size_eq_zero (by simpa using hl)
    subst this
    refine goes_val h ho hd (v := .iface t (.agg #[])) ?_ (.unitI t)
    simp [execOp, hop, hv, Instr.makeInterface, run_underlying hu]
  · cases ha

theorem maxL_sound {k : IntKind} {s : List (Key × Box)} {z : List Key} : ∀ {r : List LV} {m : Int} {lv : LV} {vs : List Value}, maxL k m r = some lv → Rows2 (RR cx s z M w) r vs →
    ∃ v, (vs.foldlM Builtin.max2 (.int k m)).run P w = .ok v w ∧ RR cx s z M w lv v
  | [], m, lv, vs, h, hr => by
    simp only [maxL, Option.some.injEq] at h; subst h
    have : vs = [] := List.eq_nil_of_length_eq_zero hr.1
    subst this
    exact ⟨_, rfl, RepL.imm_iff.2 (.int _ _)⟩
  | x :: r, m, lv, vs, h, hr => by
    unfold maxL at h
    split at h
    · cases ‹x :: r = []›
    · rename_i heq
      obtain ⟨rfl, rfl⟩ := List.cons.inj heq
      cases vs with
      | nil => have := hr.1; simp at this
      | cons v vs =>
        obtain ⟨h1, h2⟩ := hr.of_cons
        obtain ⟨u, hu, hR⟩ := maxL_sound h h2
        refine ⟨u, ?_, hR⟩
        rw [h1.int_inv]
        simp [List.foldlM_cons, Builtin.max2, hu]
    · cases h
theorem minL_sound {k : IntKind} {s : List (Key × Box)} {z : List Key} : ∀ {r : List LV} {m : Int} {lv : LV} {vs : List Value}, minL k m r = some lv → Rows2 (RR cx s z M w) r vs →
    ∃ v, (vs.foldlM Builtin.min2 (.int k m)).run P w = .ok v w ∧ RR cx s z M w lv v
  | [], m, lv, vs, h, hr => by
    simp only [minL, Option.some.injEq] at h; subst h
    have : vs = [] := List.eq_nil_of_length_eq_zero hr.1
    subst this
    exact ⟨_, rfl, RepL.imm_iff.2 (.int _ _)⟩
  | x :: r, m, lv, vs, h, hr => by
    unfold minL at h
    split at h
    · cases ‹x :: r = []›
    · rename_i heq
      obtain ⟨rfl, rfl⟩ := List.cons.inj heq
      cases vs with
      | nil => have := hr.1; simp at this
      | cons v vs =>
        obtain ⟨h1, h2⟩ := hr.of_cons
        obtain ⟨u, hu, hR⟩ := minL_sound h h2
        refine ⟨u, ?_, hR⟩
        rw [h1.int_inv]
        simp [List.foldlM_cons, Builtin.min2, hu]
    · cases h

theorem goes_mx (h : Inv cx σ M a w) (ho : o.dst = some d) (hd : d < a.tmps.size) {c : Call} {xs : List Opd} (hop : o.op = .call c) (hc : c.callee = .builtin .max) (hx : trXs c.args.toList = some xs)
    {E : Eff} (ha : aop σ (.mx d xs) = some E) : OpGoes P cx o a w M (σ.app E) := by
  have hR := trXs_rep h hx
  simp only [aop] at ha
  split at ha
  · rename_i f k m r hev
    split at ha
    · rename_i lv hlv
      rw [val_eff ha]
      rw [hev] at hR
      cases hl : c.args.toList.map a.eval with
      | nil => rw [hl] at hR; have := hR.1; simp at this
      | cons v vs =>
        rw [hl] at hR
        obtain ⟨h1, h2⟩ := hR.of_cons
        obtain ⟨u, hu, hRu⟩ := maxL_sound (P := P) hlv h2
        refine goes_val h ho hd (v := u) ?_ hRu
        have hargs : (c.args.map a.eval).toList = .int k m :: vs := by simpa [h1.int_inv] using hl
        simp [execOp, hop, resolve, hc, invoke, builtin, Builtin.max_, hl, h1.int_inv, hu]
    · cases ha
  · cases ha
theorem goes_mn (h : Inv cx σ M a w) (ho : o.dst = some d) (hd : d < a.tmps.size) {c : Call} {xs : List Opd} (hop : o.op = .call c) (hc : c.callee = .builtin .min) (hx : trXs c.args.toList = some xs)
    {E : Eff} (ha : aop σ (.mn d xs) = some E) : OpGoes P cx o a w M (σ.app E) := by
  have hR := trXs_rep h hx
  simp only [aop] at ha
  split at ha
  · rename_i f k m r hev
    split at ha
    · rename_i lv hlv
      rw [val_eff ha]
      rw [hev] at hR
      cases hl : c.args.toList.map a.eval with
      | nil => rw [hl] at hR; have := hR.1; simp at this
      | cons v vs =>
        rw [hl] at hR
        obtain ⟨h1, h2⟩ := hR.of_cons
        obtain ⟨u, hu, hRu⟩ := minL_sound (P := P) hlv h2
        refine goes_val h ho hd (v := u) ?_ hRu
        simp [execOp, hop, resolve, hc, invoke, builtin, Builtin.min_, hl, h1.int_inv, hu]
    · cases ha
  · cases ha

theorem goes_mkfn (h : Inv cx σ M a w) (ho : o.dst = some d) (hd : d < a.tmps.size) {f : FuncId} {fs caps : Array Operand} {xs : List Opd} (hop : o.op = .makeFunc (.func f) fs caps) (hfs : fs.size = 0) (hx : trXs caps.toList = some xs)
    {E : Eff} (ha : aop σ (.mkfn d f xs) = some E) : OpGoes P cx o a w M (σ.app E) := by
  have hR := trXs_rep h hx
  simp only [aop] at ha
  rw [val_eff ha]
  have hfs' : fs = #[] := Array.eq_empty_of_size_eq_zero hfs
  subst hfs'
  refine goes_val h ho hd (v := .func (.func f) #[] ((caps.toList.map a.eval).toArray)) ?_ (RepL.fn f _ _ hR.1 hR.2)
  simp [execOp, hop, Instr.makeFunc]
  apply Array.toList_inj.1; simp

theorem goes_cut (h : Inv cx σ M a w) (ho : o.dst = some d) (hd : d < a.tmps.size) {x : Operand} {lo hi : Option Operand} {x' : Opd} {lo' hi' : Option Opd} {t e : TypeId} (hop : o.op = .slice t x lo hi none) (hx : trX x = some x')
    (hu : P.underlying t = some (.slice e)) (hlo : match lo, lo' with | none, none => True | some l, some l' => trX l = some l' | _, _ => False) (hhi : match hi, hi' with | none, none => True | some l, some l' => trX l = some l' | _, _ => False)
    {n : Nat} (hn : szOf P e = some n)
    {E : Eff} (ha : aop σ (.cut d x' lo' hi' n) = some E) : OpGoes P cx o a w M (σ.app E) := by
  have hR := trX_rep h hx
  simp only [aop] at ha
  split at ha
  · rename_i f es hev
    split at ha
    · rename_i l r hl hr
      split at ha
      · rename_i hle0
        obtain ⟨hle, hall⟩ := hle0
        rw [val_eff ha]
        rw [hev] at hR
        have hR := RepL.imm_iff.1 hR
        have hL : ∃ vl : Option Value, lo.map a.eval = vl ∧ ((vl = none ∧ l = 0) ∨ ∃ k, vl = some (.int k l)) := by
          refine ⟨_, rfl, ?_⟩
          cases lo with
          | none => cases lo' with
            | none => exact .inl ⟨rfl, by simpa using hl.symm⟩
            | some l' => exact hlo.elim
          | some lx => cases lo' with
            | none => exact hlo.elim
            | some l' =>
              obtain ⟨k, hk⟩ := intOf_inv hl (trX_rep h hlo)
              exact .inr ⟨k, by simp [hk]⟩
        have hH : ∃ vh : Option Value, hi.map a.eval = vh ∧ ((vh = none ∧ r = es.length) ∨ ∃ k, vh = some (.int k r)) := by
          refine ⟨_, rfl, ?_⟩
          cases hi with
          | none => cases hi' with
            | none => exact .inl ⟨rfl, by simpa using hr.symm⟩
            | some l' => exact hhi.elim
          | some lx => cases hi' with
            | none => exact hhi.elim
            | some l' =>
              obtain ⟨k, hk⟩ := intOf_inv hr (trX_rep h hhi)
              exact .inr ⟨k, by simp [hk]⟩
        obtain ⟨vl, hvl, hL⟩ := hL
        obtain ⟨vh, hvh, hH⟩ := hH
        -- the bounds
        have hb : ∀ cap : Nat, es.length ≤ cap → (Instr.sliceBounds true es.length cap vl vh none).run P w = .ok (l.toNat, r.toNat, cap) w := by
          intro cap hcap
          have c1 : 0 ≤ r ∧ r ≤ (cap : Int) := by omega
          have c2 : 0 ≤ l ∧ l ≤ (r.toNat : Int) := by omega
          have c2' : 0 ≤ l ∧ l ≤ r := by omega
          rcases hL with ⟨rfl, rfl⟩ | ⟨k, rfl⟩ <;> rcases hH with ⟨rfl, rfl⟩ | ⟨k', rfl⟩ <;>
            simp [Instr.sliceBounds, Instr.sliceBound, asIntOf, c1, c2, c2'] <;> omega
        generalize hg : a.eval x = u at *
        have hlen : ((es.drop l.toNat).take (r - l).toNat).length = (r - l).toNat := by simp; omega
        cases hR with
        | slice0 A c =>
          have h1 : l = 0 := by simp at hle; omega
          have h2 : r = 0 := by simp at hle; omega
          subst h1; subst h2
          have := hb c (by simp)
          refine goes_val h ho hd (v := .slice (if c = 0 then A else A.map (·.add (0 * n))) 0 (c - 0)) ?_ (RepL.imm_iff.2 (by simpa using RepI.slice0 _ _))
          simp at this
          simp [execOp, hop, hg, Instr.sliceAt, Instr.slice, run_underlying hu, hvl, hvh, this, run_sizeOf' hn]
        | slice elems b o' sz c vs hN hsz hm hcap hc h1 hr' =>
          have := hb c hcap
          by_cases hz : r - l = 0
          · have e1 : ((es.drop l.toNat).take (r - l).toNat) = [] := by rw [hz]; rfl
            rw [e1]
            refine goes_val h ho hd (v := .slice (if c = l.toNat then some ⟨b, o', none⟩ else some ((⟨b, o', none⟩ : Addr).add (l.toNat * n))) (r.toNat - l.toNat) (c - l.toNat)) ?_ (RepL.imm_iff.2 ?_)
            · simp [execOp, hop, hg, Instr.sliceAt, Instr.slice, run_underlying hu, hvl, hvh, this, run_sizeOf' hn]
            · rw [show r.toNat - l.toNat = 0 by omega]; exact .slice0 _ _
          · have hszn : sz = n := by
              have h0 : 0 < es.length := by omega
              have := List.all_eq_true.1 hall es[0] (List.getElem_mem h0)
              rw [← hsz 0 h0]; simpa using this
            subst hszn
            have hcl : ¬ c = l.toNat := by omega
            refine goes_val h ho hd (v := .slice (some ⟨b, o' + l.toNat * sz, none⟩) (r.toNat - l.toNat) (c - l.toNat)) ?_ (RepL.imm_iff.2 ?_)
            · simp [execOp, hop, hg, Instr.sliceAt, Instr.slice, run_underlying hu, hvl, hvh, this, run_sizeOf' hn, hcl, add_flat]
            · have hlen2 : r.toNat - l.toNat = ((es.drop l.toNat).take (r - l).toNat).length := by rw [hlen]; omega
              rw [hlen2]
              have key : ∀ j, j < ((es.drop l.toNat).take (r - l).toNat).length * sz → l.toNat * sz + j < es.length * sz := by
                intro j hj
                rw [hlen] at hj
                have : (l.toNat + (r - l).toNat) * sz ≤ es.length * sz := Nat.mul_le_mul_right _ (by omega)
                rw [Nat.add_mul] at this; omega
              refine RepI.slice _ b (o' + l.toNat * sz) sz _ (fun j => vs (l.toNat * sz + j)) hN (fun i hi => ?_) (by rw [hlen]; omega) (by rw [hlen]; omega) (fun j hj => by rw [Nat.add_assoc]; exact hc _ (key j hj)) (fun j hj => h1 _ (key j hj)) (fun i hi j hj => ?_)
              · simp only [List.getElem_take, List.getElem_drop]; exact hsz _ _
              · simp only [List.getElem_take, List.getElem_drop] at hj ⊢
                have := hr' (l.toNat + i) (by rw [hlen] at hi; omega) j hj
                rw [Nat.add_mul, Nat.add_assoc] at this
                exact this
      · cases ha
    · cases ha
  · cases ha

end
end Go.Proofs.YtopgmopdjiahmaaDoor.Lg
