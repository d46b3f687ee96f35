/- Rules for working a text out. Conditions: none; plain definitions and lemmas. -/
import Derived.Test.YtopgmopdjiahmaaDoorLq
set_option linter.unusedVariables false
namespace Go.Proofs.YtopgmopdjiahmaaDoor.Lg
open Go Go.RowKit

/-- A step that asks for something. -/
def Get {α : Type} (x : Option α) (K : α → Prop) : Prop := match x with
  | some a => K a
  | none => False
/-- A step that waits for its state to be worked out. -/
def Lt (σ : St) (K : St → Prop) : Prop := K σ
theorem Lt_mk {e : List (Nat × LV)} {s : List (Key × Box)} {z : List Key} {K : St → Prop} : Lt ⟨e, s, z⟩ K = K ⟨e, s, z⟩ := rfl
theorem Get_some {α : Type} {a : α} {K : α → Prop} : Get (some a) K = K a := rfl

section
variable {P : Program} {Q : AEx → St → Prop} {σ : St}
theorem awp_skip : awp P .skip Q σ = Q .normal σ := rfl
theorem awp_seq {a b : MC} : awp P (.seq a b) Q σ = awp P a (Then (awp P b Q) Q) σ := rfl
theorem awp_block {id : Nat} {b : MC} : awp P (.block id b) Q σ = awp P b (InB id Q) σ := rfl
theorem awp_exit {id : Nat} : awp P (.exit id) Q σ = Q (.exit id) σ := rfl
theorem awp_ret : awp P .ret Q σ = Q .ret σ := rfl
def CondR (P : Program) (v : LV) (x y : MC) (Q : AEx → St → Prop) (σ : St) : Prop := match v with
  | .imm _ (.bool t) => (t = true → awp P x Q σ) ∧ (t = false → awp P y Q σ)
  | _ => False
theorem CondOn_imm {f t : Bool} {x y : MC} : CondR P (.imm f (.bool t)) x y Q σ = ((t = true → awp P x Q σ) ∧ (t = false → awp P y Q σ)) := rfl
theorem CondOn_true {f : Bool} {x y : MC} : CondR P (.imm f (.bool true)) x y Q σ = awp P x Q σ := by simp [CondR]
theorem CondOn_false {f : Bool} {x y : MC} : CondR P (.imm f (.bool false)) x y Q σ = awp P y Q σ := by simp [CondR]
theorem CondR_split {f t : Bool} {x y : MC} (h : t = true → awp P x Q σ) (h' : t = false → awp P y Q σ) : CondR P (.imm f (.bool t)) x y Q σ := ⟨h, h'⟩
theorem awp_cond {t : Nat} {x y : MC} : awp P (.cond (.t t) x y) Q σ = CondR P (getE σ.e t) x y Q σ := rfl
theorem Then_normal {K : St → Prop} : Then K Q .normal σ = K σ := rfl
theorem Then_exit {K : St → Prop} {id : Nat} : Then K Q (.exit id) σ = Q (.exit id) σ := rfl
theorem Then_ret {K : St → Prop} : Then K Q .ret σ = Q .ret σ := rfl
theorem Then_pan {K : St → Prop} {t : TypeId} : Then K Q (.pan t) σ = Q (.pan t) σ := rfl
theorem InB_normal {id : Nat} : InB id Q .normal σ = Q .normal σ := rfl
theorem InB_exit {id j : Nat} : InB id Q (.exit j) σ = if j = id then Q .normal σ else Q (.exit j) σ := rfl
theorem InB_ret {id : Nat} : InB id Q .ret σ = Q .ret σ := rfl
theorem InB_pan {id : Nat} {t : TypeId} : InB id Q (.pan t) σ = Q (.pan t) σ := rfl
theorem KReg_eq {kp : Option (List Nat × List Nat)} {es : List Eff} : KReg kp Q σ es = Lt (σ.keep kp) (Q .normal) := rfl
theorem KDraw_eq {pr : List (Nat × Nat)} {kp : Option (List Nat × List Nat)} {es : List Eff} : KDraw pr kp Q σ es = (dynOk es pr = true ∧ Lt (σ.keep kp) (Q .normal)) := rfl
theorem KPan_eq {t : TypeId} : KPan Q t σ = Q (.pan t) σ := rfl
theorem Fin_ret {rs : List MR} {o : Out} {S' : List (List LV)} : Fin rs o S' .ret σ = (FinV o (finV σ rs) ∧ storeOut σ.s S'.length 0 S'.length = some S') := rfl
theorem Fin_normal {rs : List MR} {o : Out} {S' : List (List LV)} : Fin rs o S' .normal σ = (FinV o (finV σ rs) ∧ storeOut σ.s S'.length 0 S'.length = some S') := rfl
theorem Fin_pan {rs : List MR} {o : Out} {S' : List (List LV)} {t : TypeId} : Fin rs o S' (.pan t) σ = (o = .pan t ∧ storeOut σ.s S'.length 0 S'.length = some S') := rfl
theorem FinV_ret {f f' : Bool} {v v' : IV} : FinV (.ret f v) (some (f', v')) = (v = v' ∧ (f = true → f' = true)) := rfl
end

def putO (e : List (Nat × LV)) : Option (Nat × LV) → List (Nat × LV)
  | some (t, v) => putE e t v
  | none => e
section
variable {P : Program} {e : List (Nat × LV)} {s : List (Key × Box)} {z : List Key}
theorem keep_eq {l k : List Nat} : St.keep ⟨e, s, z⟩ (some (l, k)) = ⟨keepE e l, keepS s k, keepZ z k⟩ := rfl
theorem ev_t {t : Nat} : St.ev ⟨e, s, z⟩ (.t t) = getE e t := rfl
theorem ev_c {v : LV} : St.ev ⟨e, s, z⟩ (.c v) = v := rfl
theorem app_eq {d : Option (Nat × LV)} {u : List (Key × Option Box)} {zz r : List Key} : St.app ⟨e, s, z⟩ ⟨d, u, zz, r⟩ = ⟨putO e d, appU u s, addZ zz z⟩ := by
  cases d <;> rfl
theorem box_eq {k : Key} : St.box ⟨e, s, z⟩ k = getB s k := rfl
theorem get_eq {t : Nat} : St.get ⟨e, s, z⟩ t = getE e t := rfl
theorem prep_cons {d : Nat} {D : List Nat} : St.prep (d :: D) ⟨e, s, z⟩ = match renS (d :: D) s with | some s => some ⟨renE (d :: D) e, s, renZ (d :: D) z⟩ | none => none := rfl
end
theorem getE_nil {n : Nat} : getE [] n = .undef := rfl
theorem getE_cons {t n : Nat} {v : LV} {r : List (Nat × LV)} : getE ((t, v) :: r) n = if t = n then v else getE r n := rfl
theorem putE_nil {n : Nat} {v : LV} : putE [] n v = [(n, v)] := rfl
theorem putE_cons {t n : Nat} {u v : LV} {r : List (Nat × LV)} : putE ((t, u) :: r) n v = if t = n then (t, v) :: r else (t, u) :: putE r n v := rfl
theorem putO_some {e : List (Nat × LV)} {t : Nat} {v : LV} : putO e (some (t, v)) = putE e t v := rfl
theorem putO_none {e : List (Nat × LV)} : putO e none = e := rfl
theorem keepE_nil {e : List (Nat × LV)} : keepE e [] = [] := rfl
theorem keepE_cons {e : List (Nat × LV)} {n : Nat} {r : List Nat} : keepE e (n :: r) = (n, getE e n) :: keepE e r := rfl
theorem prep_nil {σ : St} : σ.prep [] = some σ := rfl

theorem ncast2 : ((2 : Nat) : Int) = 2 := rfl
theorem ncast6 : ((6 : Nat) : Int) = 6 := rfl
theorem ncast1 : ((1 : Nat) : Int) = 1 := rfl
theorem ncast0 : ((0 : Nat) : Int) = 0 := rfl
theorem plain_int {k : IntKind} {n : Int} : (IV.int k n).plain = true := rfl
theorem plain_bool {b : Bool} : (IV.bool b).plain = true := rfl
theorem plain_str {b : ByteArray} : (IV.str b).plain = true := rfl
theorem plain_nilp : IV.nilp.plain = true := rfl
theorem plain_agg {l : List IV} : (IV.agg l).plain = false := rfl
theorem plain_ptr {l : List IV} {o : Nat} : (IV.ptr l o).plain = false := rfl
theorem plain_tup {l : List IV} : (IV.tup l).plain = false := rfl
theorem plain_slice {l : List (List IV)} : (IV.slice l).plain = false := rfl

/-! values handed on -/
section
variable {s : List (Key × Box)} {n : Nat} {f : Bool}
theorem res_imm {v : IV} : res s (n + 1) (.imm f v) = some (f || v.plain, v) := rfl
theorem res_nils : res s (n + 1) .nils = some (true, .slice []) := rfl
theorem res_agg {cs : List LV} : res s (n + 1) (.agg cs) = match resL (res s n) cs with | some (f, vs) => some (f, .agg vs) | none => none := rfl
theorem res_tup {cs : List LV} : res s (n + 1) (.tup cs) = match resL (res s n) cs with | some (f, vs) => some (f, .tup vs) | none => none := rfl
theorem res_own {t off : Nat} : res s (n + 1) (.loc (.own t) off) = match getB s (.own t) with
    | some (.var cells) => match resL (res s n) cells with
      | some (f, vs) => some (f, IV.ptr vs off)
      | none => none
    | _ => none := by
  simp only [res, Key.isOwn, if_true]; generalize getB s (Key.own t) = r; rcases r with _ | ⟨_ | _⟩ <;> rfl
theorem res_row {t m : Nat} : res s (n + 1) (.row (.own t) m) = match getB s (.own t) with
    | some (.row _ _ elems) => if elems.length = m then match resLL (res s n) elems with
      | some (f, vs) => some (f, .slice vs)
      | none => none else none
    | _ => none := rfl
theorem keys_imm {v : IV} : keys s (n + 1) (.imm f v) = [] := rfl
theorem keys_nils : keys s (n + 1) .nils = [] := rfl
theorem keys_agg {cs : List LV} : keys s (n + 1) (.agg cs) = keysL (keys s n) cs := rfl
theorem keys_tup {cs : List LV} : keys s (n + 1) (.tup cs) = keysL (keys s n) cs := rfl
theorem keys_loc {k : Key} {off : Nat} : keys s (n + 1) (.loc k off) = match getB s k with | some (.var cells) => k :: keysL (keys s n) cells | _ => [k] := rfl
theorem keys_row {k : Key} {m : Nat} : keys s (n + 1) (.row k m) = match getB s k with | some (.row _ _ elems) => k :: keysLL (keys s n) elems | _ => [k] := rfl
end
theorem settle_imm {s : List (Key × Box)} {na n : Nat} {f : Bool} {v : IV} : settle s na (n + 1) (.imm f v) = some (.imm false v) := rfl
theorem settle_nils {s : List (Key × Box)} {na n : Nat} : settle s na (n + 1) .nils = some .nils := rfl
theorem settle_arg {s : List (Key × Box)} {na n i off : Nat} : settle s na (n + 1) (.loc (.arg i) off) = if i < na then some (.loc (.arg i) off) else none := rfl
theorem settle_own {s : List (Key × Box)} {na n i off : Nat} : settle s na (n + 1) (.loc (.own i) off) = match res s depth0 (.loc (.own i) off) with | some (_, v) => some (.imm false v) | none => none := rfl
theorem settle_row {s : List (Key × Box)} {na n i : Nat} {k : Key} : settle s na (n + 1) (.row k i) = match res s depth0 (.row k i) with | some (_, v) => some (.imm false v) | none => none := rfl
theorem settle_fn {s : List (Key × Box)} {na n : Nat} {f : FuncId} {caps : List LV} : settle s na (n + 1) (.fn f caps) = match lendL (settle s na n) caps with | some l => some (.fn f l) | none => none := rfl
theorem cells_agg {cs : List LV} : (LV.agg cs).cells = some cs := rfl
theorem cells_iagg {f : Bool} {cs : List IV} : (LV.imm f (.agg cs)).cells = some (cs.map (.imm f)) := rfl
theorem cells_int {f : Bool} {k : IntKind} {n : Int} : (LV.imm f (.int k n)).cells = some [.imm f (.int k n)] := rfl
theorem cells_bool {f : Bool} {b : Bool} : (LV.imm f (.bool b)).cells = some [.imm f (.bool b)] := rfl
theorem cells_str {f : Bool} {b : ByteArray} : (LV.imm f (.str b)).cells = some [.imm f (.str b)] := rfl
theorem cells_nilp {f : Bool} : (LV.imm f .nilp).cells = some [.imm f .nilp] := rfl
theorem cells_ptr {f : Bool} {l : List IV} {o : Nat} : (LV.imm f (.ptr l o)).cells = some [.imm f (.ptr l o)] := rfl
theorem cells_slice {f : Bool} {l : List (List IV)} : (LV.imm f (.slice l)).cells = some [.imm f (.slice l)] := rfl
theorem cells_nils : LV.nils.cells = some [.nils] := rfl
theorem cells_loc {k : Key} {o : Nat} : (LV.loc k o).cells = some [.loc k o] := rfl
theorem cells_row {k : Key} {o : Nat} : (LV.row k o).cells = some [.row k o] := rfl
theorem cells_fn {f : FuncId} {l : List LV} : (LV.fn f l).cells = some [.fn f l] := rfl
theorem acells_agg {cs : List LV} : (LV.agg cs).acells = some cs := rfl
theorem acells_iagg {f : Bool} {cs : List IV} : (LV.imm f (.agg cs)).acells = some (cs.map (.imm f)) := rfl
section
variable {D : List Nat} {n : Nat}
theorem renV_undef : renV D (n + 1) .undef = some .undef := rfl
theorem renV_imm {f : Bool} {v : IV} : renV D (n + 1) (.imm f v) = some (.imm f v) := rfl
theorem renV_nils : renV D (n + 1) .nils = some .nils := rfl
theorem renV_loc {k : Key} {o : Nat} : renV D (n + 1) (.loc k o) = match renK D k with | some k => some (.loc k o) | none => none := rfl
theorem renV_row {k : Key} {o : Nat} : renV D (n + 1) (.row k o) = match renK D k with | some k => some (.row k o) | none => none := rfl
theorem renV_agg {l : List LV} : renV D (n + 1) (.agg l) = match renL (renV D n) l with | some l => some (.agg l) | none => none := rfl
theorem renV_tup {l : List LV} : renV D (n + 1) (.tup l) = match renL (renV D n) l with | some l => some (.tup l) | none => none := rfl
theorem renV_fn {f : FuncId} {l : List LV} : renV D (n + 1) (.fn f l) = match renL (renV D n) l with | some l => some (.fn f l) | none => none := rfl
theorem renK_arg {i : Nat} : renK D (.arg i) = some (.arg i) := rfl
theorem renK_own {t : Nat} : renK D (.own t) = if t ∈ D then some (.own (t + 1000)) else if 1000 ≤ t ∧ (t - 1000) ∈ D then none else some (.own t) := rfl
end

/-! one operation -/
section
variable {P : Program} {σ : St} {K : Eff → Prop} {Kp : TypeId → Eff → Prop}
theorem s_mv {d : Nat} {x : Opd} : stepM P σ (.mv d x) K Kp = Get (aop σ (.mv d x)) K := by
  simp only [stepM]; generalize aop σ (.mv d x) = r; cases r <;> rfl
theorem s_pick {d : Nat} {c : Opd} {a : Opd} {b : Opd} : stepM P σ (.pick d c a b) K Kp = Get (aop σ (.pick d c a b)) K := by
  simp only [stepM]; generalize aop σ (.pick d c a b) = r; cases r <;> rfl
theorem s_box {d : Nat} {x : Opd} : stepM P σ (.box d x) K Kp = Get (aop σ (.box d x)) K := by
  simp only [stepM]; generalize aop σ (.box d x) = r; cases r <;> rfl
theorem s_boxc {d : Nat} {x : Opd} : stepM P σ (.boxc d x) K Kp = Get (aop σ (.boxc d x)) K := by
  simp only [stepM]; generalize aop σ (.boxc d x) = r; cases r <;> rfl
theorem s_alloc {d : Nat} {zs : List LV} : stepM P σ (.alloc d zs) K Kp = Get (aop σ (.alloc d zs)) K := by
  simp only [stepM]; generalize aop σ (.alloc d zs) = r; cases r <;> rfl
theorem s_build {d : Nat} {zs : List LV} {ps : List (Nat × Nat × Opd)} : stepM P σ (.build d zs ps) K Kp = Get (aop σ (.build d zs ps)) K := by
  simp only [stepM]; generalize aop σ (.build d zs ps) = r; cases r <;> rfl
theorem s_lit {d : Nat} {sz : Nat} {ps : List Opd} : stepM P σ (.lit d sz ps) K Kp = Get (aop σ (.lit d sz ps)) K := by
  simp only [stepM]; generalize aop σ (.lit d sz ps) = r; cases r <;> rfl
theorem s_load {d : Nat} {x : Opd} {n : Option Nat} : stepM P σ (.load d x n) K Kp = Get (aop σ (.load d x n)) K := by
  simp only [stepM]; generalize aop σ (.load d x n) = r; cases r <;> rfl
theorem s_store {x : Opd} {y : Opd} {n : Nat} : stepM P σ (.store x y n) K Kp = Get (aop σ (.store x y n)) K := by
  simp only [stepM]; generalize aop σ (.store x y n) = r; cases r <;> rfl
theorem s_nilc {d : Nat} {x : Opd} : stepM P σ (.nilc d x) K Kp = Get (aop σ (.nilc d x)) K := by
  simp only [stepM]; generalize aop σ (.nilc d x) = r; cases r <;> rfl
theorem s_fad {d : Nat} {x : Opd} {off : Nat} : stepM P σ (.fad d x off) K Kp = Get (aop σ (.fad d x off)) K := by
  simp only [stepM]; generalize aop σ (.fad d x off) = r; cases r <;> rfl
theorem s_fld {d : Nat} {x : Opd} {off : Nat} {n : Option Nat} : stepM P σ (.fld d x off n) K Kp = Get (aop σ (.fld d x off n)) K := by
  simp only [stepM]; generalize aop σ (.fld d x off n) = r; cases r <;> rfl
theorem s_iad {d : Nat} {x : Opd} {i : Opd} {sz : Nat} : stepM P σ (.iad d x i sz) K Kp = Get (aop σ (.iad d x i sz)) K := by
  simp only [stepM]; generalize aop σ (.iad d x i sz) = r; cases r <;> rfl
theorem s_aad {d : Nat} {x : Opd} {i : Opd} {len : Nat} {sz : Nat} : stepM P σ (.aad d x i len sz) K Kp = Get (aop σ (.aad d x i len sz)) K := by
  simp only [stepM]; generalize aop σ (.aad d x i len sz) = r; cases r <;> rfl
theorem s_idx {d : Nat} {x : Opd} {i : Opd} {len : Nat} {sz : Nat} {n : Option Nat} : stepM P σ (.idx d x i len sz n) K Kp = Get (aop σ (.idx d x i len sz n)) K := by
  simp only [stepM]; generalize aop σ (.idx d x i len sz n) = r; cases r <;> rfl
theorem s_ext {d : Nat} {x : Opd} {i : Nat} : stepM P σ (.ext d x i) K Kp = Get (aop σ (.ext d x i)) K := by
  simp only [stepM]; generalize aop σ (.ext d x i) = r; cases r <;> rfl
theorem s_bin {d : Nat} {op : BinOp} {x : Opd} {y : Opd} : stepM P σ (.bin d op x y) K Kp = Get (aop σ (.bin d op x y)) K := by
  simp only [stepM]; generalize aop σ (.bin d op x y) = r; cases r <;> rfl
theorem s_binb {d : Nat} {neg : Bool} {x : Opd} {y : Opd} : stepM P σ (.binb d neg x y) K Kp = Get (aop σ (.binb d neg x y)) K := by
  simp only [stepM]; generalize aop σ (.binb d neg x y) = r; cases r <;> rfl
theorem s_un {d : Nat} {op : UnOp} {x : Opd} : stepM P σ (.un d op x) K Kp = Get (aop σ (.un d op x)) K := by
  simp only [stepM]; generalize aop σ (.un d op x) = r; cases r <;> rfl
theorem s_conv {d : Nat} {k : IntKind} {x : Opd} : stepM P σ (.conv d k x) K Kp = Get (aop σ (.conv d k x)) K := by
  simp only [stepM]; generalize aop σ (.conv d k x) = r; cases r <;> rfl
theorem s_len {d : Nat} {x : Opd} : stepM P σ (.len d x) K Kp = Get (aop σ (.len d x)) K := by
  simp only [stepM]; generalize aop σ (.len d x) = r; cases r <;> rfl
theorem s_slen {d : Nat} {x : Opd} : stepM P σ (.slen d x) K Kp = Get (aop σ (.slen d x)) K := by
  simp only [stepM]; generalize aop σ (.slen d x) = r; cases r <;> rfl
theorem s_mkif {d : Nat} {t : TypeId} {x : Opd} : stepM P σ (.mkif d t x) K Kp = Get (aop σ (.mkif d t x)) K := by
  simp only [stepM]; generalize aop σ (.mkif d t x) = r; cases r <;> rfl
theorem s_append {d : Nat} {x : Opd} {y : Opd} {e : TypeId} {sz : Nat} {by_ : Nat} : stepM P σ (.append d x y e sz by_) K Kp = Get (aop σ (.append d x y e sz by_)) K := by
  simp only [stepM]; generalize aop σ (.append d x y e sz by_) = r; cases r <;> rfl
theorem s_mx {d : Nat} {xs : List Opd} : stepM P σ (.mx d xs) K Kp = Get (aop σ (.mx d xs)) K := by
  simp only [stepM]; generalize aop σ (.mx d xs) = r; cases r <;> rfl
theorem s_mn {d : Nat} {xs : List Opd} : stepM P σ (.mn d xs) K Kp = Get (aop σ (.mn d xs)) K := by
  simp only [stepM]; generalize aop σ (.mn d xs) = r; cases r <;> rfl
theorem s_mkfn {d : Nat} {f : FuncId} {caps : List Opd} : stepM P σ (.mkfn d f caps) K Kp = Get (aop σ (.mkfn d f caps)) K := by
  simp only [stepM]; generalize aop σ (.mkfn d f caps) = r; cases r <;> rfl
theorem s_mksl {d : Nat} {n : Opd} {zs : List LV} : stepM P σ (.mksl d n zs) K Kp = Get (aop σ (.mksl d n zs)) K := by
  simp only [stepM]; generalize aop σ (.mksl d n zs) = r; cases r <;> rfl
theorem s_mkrow {d : Nat} {n : Opd} {e : TypeId} {sz : Nat} {by_ : Nat} : stepM P σ (.mkrow d n e sz by_) K Kp = Get (aop σ (.mkrow d n e sz by_)) K := by
  simp only [stepM]; generalize aop σ (.mkrow d n e sz by_) = r; cases r <;> rfl
theorem s_cut {d : Nat} {x : Opd} {lo : Option Opd} {hi : Option Opd} {sz : Nat} : stepM P σ (.cut d x lo hi sz) K Kp = Get (aop σ (.cut d x lo hi sz)) K := by
  simp only [stepM]; generalize aop σ (.cut d x lo hi sz) = r; cases r <;> rfl
theorem s_pan {x : Opd} : stepM P σ (.pan x) K Kp = (match σ.ev x with | .unitI t => Kp t { d := none, u := [], z := [], r := [] } | _ => False) := by
  simp only [stepM] <;> (generalize σ.ev x = r; cases r <;> rfl)
/-- a call of a function by name, with what it does known -/
theorem call_step {d : Option Nat} {f : FuncId} {caps : List LV} {xs : List Opd} {fx : Opd} {vs : List IV} {fl fr : Bool} {v : IV} (hf : σ.ev fx = .fn f caps) (hr : resL (res σ.s depth0) (xs.map σ.ev ++ caps) = some (fl, vs)) (hd : Does P f (vs.map (.imm false)) [] (.ret fr v) [])
    (h : K { d := d.map (·, .imm fr v), u := [], z := keysL (keys σ.s depth0) (xs.map σ.ev ++ caps), r := keysL (keys σ.s depth0) (xs.map σ.ev ++ caps) }) : stepM P σ (.call d fx xs) K Kp := by
  unfold stepM
  simp only [hf, hr]
  exact ⟨fr, v, hd, h⟩
def CallK (P : Program) (f : FuncId) (o : Option (Bool × List IV)) (K : Bool → IV → Prop) : Prop := match o with
  | some (_, vs) => ∃ fr v, Does P f (vs.map (.imm false)) [] (.ret fr v) [] ∧ K fr v
  | none => False
def CallV (v : LV) (K : FuncId → List LV → Prop) : Prop := match v with
  | .fn f caps => K f caps
  | _ => False
theorem CallV_fn {f : FuncId} {caps : List LV} {K : FuncId → List LV → Prop} : CallV (.fn f caps) K = K f caps := rfl
theorem s_call {d : Option Nat} {fx : Opd} {xs : List Opd} : stepM P σ (.call d fx xs) K Kp = CallV (σ.ev fx) fun f caps => CallK P f (resL (res σ.s depth0) (xs.map σ.ev ++ caps)) fun fr v => K { d := d.map (·, .imm fr v), u := [], z := keysL (keys σ.s depth0) (xs.map σ.ev ++ caps), r := keysL (keys σ.s depth0) (xs.map σ.ev ++ caps) } := by
  simp only [stepM]
  generalize σ.ev fx = fv
  cases fv <;> first | rfl | skip
def CallBK (P : Program) (f : FuncId) (x : Option (List LV)) (y : Option (List (List LV))) (K : Out → List (List LV) → Prop) : Prop := match x, y with
  | some args, some S => ∃ o' S', Does P f args S o' S' ∧ K o' S'
  | _, _ => False
theorem CallBK_do {f : FuncId} {args : List LV} {S S' : List (List LV)} {o' : Out} {K : Out → List (List LV) → Prop} (hd : Does P f args S o' S') (h : K o' S') : CallBK P f (some args) (some S) K := ⟨o', S', hd, h⟩
def OutK (o : Out) (A : Bool → IV → Prop) (B : TypeId → Prop) : Prop := match o with
  | .ret fr v => A fr v
  | .pan t => B t
theorem OutK_ret {fr : Bool} {v : IV} {A : Bool → IV → Prop} {B : TypeId → Prop} : OutK (.ret fr v) A B = A fr v := rfl
theorem OutK_pan {t : TypeId} {A : Bool → IV → Prop} {B : TypeId → Prop} : OutK (.pan t) A B = B t := rfl
def Dis : List Key → List Key → Prop
  | [], _ => True
  | k :: r, l => k ∉ l ∧ Dis r l
theorem Dis_iff {l : List Key} : ∀ {r : List Key}, (∀ k ∈ r, k ∉ l) = Dis r l
  | [] => by simp [Dis]
  | k :: r => by simp only [List.forall_mem_cons, Dis, Dis_iff (r := r)]
theorem s_callB {d : Option Nat} {fx : Opd} {xs : List Opd} {ρ : List Key} : stepM P σ (.callB d fx xs ρ) K Kp = CallV (σ.ev fx) fun f caps => ρ.Nodup ∧ Dis ρ (giveK σ ρ (xs.map σ.ev ++ caps)) ∧
    CallBK P f (giveL σ ρ (xs.map σ.ev ++ caps)) (lendBoxes σ ρ ρ) fun o' S' => Get (backBoxes ρ ρ S') fun u => OutK o' (fun fr v => K { d := d.map (·, .imm fr v), u := u, z := giveK σ ρ (xs.map σ.ev ++ caps), r := ρ ++ giveK σ ρ (xs.map σ.ev ++ caps) })
      (fun t => Kp t { d := none, u := u, z := giveK σ ρ (xs.map σ.ev ++ caps), r := ρ ++ giveK σ ρ (xs.map σ.ev ++ caps) }) := by
  simp only [stepM]
  generalize σ.ev fx = fv
  cases fv <;> first | rfl | skip
  rename_i f caps
  simp only [CallV, CallBK, Dis_iff]
  generalize giveL σ ρ (xs.map σ.ev ++ caps) = x
  generalize lendBoxes σ ρ ρ = y
  cases x <;> cases y <;> first | rfl | skip
  dsimp only
  refine congrArg _ (congrArg _ (congrArg _ (funext fun o' => congrArg _ (funext fun S' => congrArg _ ?_))))
  simp only [Get]
  generalize backBoxes ρ ρ S' = u
  cases u <;> cases o' <;> rfl
theorem CallK_some {f : FuncId} {b : Bool} {vs : List IV} {K : Bool → IV → Prop} : CallK P f (some (b, vs)) K = ∃ fr v, Does P f (vs.map (.imm false)) [] (.ret fr v) [] ∧ K fr v := rfl
/-- a rule for a callee -/
theorem CallK_do {f : FuncId} {b : Bool} {vs : List IV} {fr : Bool} {v : IV} {K : Bool → IV → Prop} (hd : Does P f (vs.map (.imm false)) [] (.ret fr v) []) (h : K fr v) : CallK P f (some (b, vs)) K := ⟨fr, v, hd, h⟩
theorem awpOps_nil {acc : List Eff} {K : St → List Eff → Prop} {Kp : TypeId → St → Prop} : awpOps P [] σ acc K Kp = K σ acc := rfl
theorem awpOps_plain {o : MO} {r : List MG} {acc : List Eff} {K : St → List Eff → Prop} {Kp : TypeId → St → Prop} : awpOps P (⟨none, o⟩ :: r) σ acc K Kp = stepM P σ o (fun E => Lt (σ.app E) fun σ => awpOps P r σ (acc ++ [E]) K Kp) (fun t E => Lt (σ.app E) (Kp t)) := rfl
def GuardR (P : Program) (v : LV) (b : Bool) (o : MO) (r : List MG) (σ : St) (acc : List Eff) (K : St → List Eff → Prop) (Kp : TypeId → St → Prop) : Prop := match yes v with
  | some c => (c = some b → stepM P σ o (fun E => Lt (σ.app E) fun σ => awpOps P r σ (acc ++ [E]) K Kp) (fun t E => Lt (σ.app E) (Kp t))) ∧ (c ≠ some b → Lt (σ.app (undefEff o)) fun σ => awpOps P r σ (acc ++ [undefEff o]) K Kp)
  | none => False
section
variable {o : MO} {r : List MG} {acc : List Eff} {K : St → List Eff → Prop} {Kp : TypeId → St → Prop} {f : Bool}
theorem GuardOn_tt : GuardR P (.imm f (.bool true)) true o r σ acc K Kp = stepM P σ o (fun E => Lt (σ.app E) fun σ => awpOps P r σ (acc ++ [E]) K Kp) (fun t E => Lt (σ.app E) (Kp t)) := by simp [GuardR, yes]
theorem GuardOn_ff : GuardR P (.imm f (.bool false)) false o r σ acc K Kp = stepM P σ o (fun E => Lt (σ.app E) fun σ => awpOps P r σ (acc ++ [E]) K Kp) (fun t E => Lt (σ.app E) (Kp t)) := by simp [GuardR, yes]
theorem GuardOn_tf : GuardR P (.imm f (.bool true)) false o r σ acc K Kp = Lt (σ.app (undefEff o)) fun σ => awpOps P r σ (acc ++ [undefEff o]) K Kp := by simp [GuardR, yes]
theorem GuardOn_ft : GuardR P (.imm f (.bool false)) true o r σ acc K Kp = Lt (σ.app (undefEff o)) fun σ => awpOps P r σ (acc ++ [undefEff o]) K Kp := by simp [GuardR, yes]
theorem GuardOn_dead {b : Bool} : GuardR P (.imm f (.tup [])) b o r σ acc K Kp = Lt (σ.app (undefEff o)) fun σ => awpOps P r σ (acc ++ [undefEff o]) K Kp := by simp [GuardR, yes]
theorem awpOps_guard {t : Nat} {b : Bool} : awpOps P (⟨some (t, b), o⟩ :: r) σ acc K Kp = GuardR P (σ.get t) b o r σ acc K Kp := rfl
end
end
section
variable {P : Program} {Q : AEx → St → Prop} {σ : St}
theorem awpR_no {m : MC} {ms : List MG} {kp : Option (List Nat × List Nat)} (h : m = .reg ms none kp ∧ newsL ms = []) : awp P m Q σ = awpOps P ms σ [] (KReg kp Q) (KPan Q) := by
  obtain ⟨rfl, h⟩ := h
  simp only [awp, h]; rfl
theorem awpD_no {m : MC} {ms : List MG} {kp : Option (List Nat × List Nat)} {pr : List (Nat × Nat)} (h : m = .reg ms (some pr) kp ∧ newsL ms = []) : awp P m Q σ = awpOps P ms σ [] (KDraw pr kp Q) KNo := by
  obtain ⟨rfl, h⟩ := h
  simp only [awp, h]; rfl
end
section
variable {P : Program} {Q : AEx → St → Prop} {σ : St}
theorem awpR_get {m : MC} {ms : List MG} {kp : Option (List Nat × List Nat)} {D : List Nat} (h : m = .reg ms none kp ∧ newsL ms = D) : awp P m Q σ = Get (σ.prep D) (fun σ => awpOps P ms σ [] (KReg kp Q) (KPan Q)) := by
  obtain ⟨rfl, rfl⟩ := h
  simp only [awp]; generalize σ.prep (newsL ms) = r; cases r <;> rfl
theorem awpD_get {m : MC} {ms : List MG} {kp : Option (List Nat × List Nat)} {pr : List (Nat × Nat)} {D : List Nat} (h : m = .reg ms (some pr) kp ∧ newsL ms = D) : awp P m Q σ = Get (σ.prep D) (fun σ => awpOps P ms σ [] (KDraw pr kp Q) KNo) := by
  obtain ⟨rfl, rfl⟩ := h
  simp only [awp]; generalize σ.prep (newsL ms) = r; cases r <;> rfl
end
section
variable {P : Program}
@[congr] theorem Get_congr {α : Type} {x y : Option α} {K : α → Prop} (h : x = y) : Get x K = Get y K := by rw [h]
@[congr] theorem CondR_congr {v v' : LV} {x y : MC} {Q : AEx → St → Prop} {σ : St} (h : v = v') : CondR P v x y Q σ = CondR P v' x y Q σ := by rw [h]
@[congr] theorem GuardR_congr {v v' : LV} {b : Bool} {o : MO} {r : List MG} {σ : St} {acc : List Eff} {K : St → List Eff → Prop} {Kp : TypeId → St → Prop} (h : v = v') : GuardR P v b o r σ acc K Kp = GuardR P v' b o r σ acc K Kp := by rw [h]
@[congr] theorem CallK_congr {f : FuncId} {x y : Option (Bool × List IV)} {K : Bool → IV → Prop} (h : x = y) : CallK P f x K = CallK P f y K := by rw [h]
@[congr] theorem CallV_congr {v v' : LV} {K : FuncId → List LV → Prop} (h : v = v') : CallV v K = CallV v' K := by rw [h]
@[congr] theorem CallBK_congr {f : FuncId} {x x' : Option (List LV)} {y y' : Option (List (List LV))} {K : Out → List (List LV) → Prop} (h : x = x') (h' : y = y') : CallBK P f x y K = CallBK P f x' y' K := by rw [h, h']
@[congr] theorem Lt_congr {σ σ' : St} {K : St → Prop} (h : σ = σ') : Lt σ K = Lt σ' K := by rw [h]
end
def z8 : List LV := [.imm true (.int .i8 0), .imm true (.int .i8 0), .nils, .imm true (.int .i8 0), .nils, .imm true (.int .i64 0), .imm true (.bool false), .nils]
def z2 : List LV := [.imm true (.int .i8 0), .nils]
attribute [go_sem] z8 z2
attribute [go_sem ↓] awp_seq awp_skip awp_block awp_exit awp_ret awp_cond Then_normal Then_exit Then_ret Then_pan InB_normal InB_exit InB_ret InB_pan KReg_eq KPan_eq KDraw_eq Fin_ret Fin_normal s_mv s_bin s_boxc s_load s_call s_callB Fin_pan s_len s_fad s_iad s_alloc s_store s_un s_mx s_mn s_nilc s_pick s_build s_aad s_idx s_lit s_mksl s_mkrow s_mkif s_pan s_ext s_fld s_conv s_append s_mkfn s_box s_binb awpOps_guard awpOps_nil awpOps_plain
attribute [go_sem] numE argS CondOn_true CondOn_false Get_some FinV_ret eq_self_iff_true Bool.false_eq_true false_implies implies_true true_implies keep_eq ev_t ev_c app_eq box_eq get_eq getE_nil getE_cons putE_nil putE_cons putO_some putO_none keepE_nil keepE_cons prep_nil prep_cons St.get CallV_fn OutK_ret OutK_pan settle_imm settle_nils settle_arg settle_own settle_row settle_fn Nat.lt_one_iff giveL giveK lend lendL findK lendBoxes backBoxes backL back List.nodup_cons Dis not_true_eq_false true_or or_true List.nodup_nil not_false_eq_true GuardOn_tt GuardOn_dead dead GuardOn_tf GuardOn_ft GuardOn_ff fillA resAll maxL minL ne_eq Bool.not_eq_true Bool.not_eq_false undefEff MO.dst aop val appU addZ keepS argsOf ownsOf keepZ abin aun List.nil_append List.append_nil List.cons_append finV resLVs resLV outLV res_imm res_nils res_agg res_tup res_own res_row resL resLL keys_imm keys_nils keys_agg keys_tup keys_loc keys_row keysL keysLL depth0 plain_int plain_bool plain_str plain_nilp plain_agg plain_ptr plain_tup plain_slice List.all_cons List.all_nil beq_self_eq_true Bool.or_self Bool.false_or Bool.false_and Bool.and_false Bool.or_true Bool.true_or Bool.or_false Bool.and_true Bool.true_and storeOut List.length_nil List.length_cons List.map_cons List.map_nil cells_agg cells_iagg cells_int cells_bool cells_nils cells_loc cells_slice cells_fn cells_row cells_ptr cells_nilp cells_str acells_agg acells_iagg partI partOf List.getElem?_cons_zero List.getElem?_cons_succ Option.map_some Option.map_none renS renB renL renLL renZ renE renV_imm renV_nils renV_undef renV_loc renV_row renV_agg renK_own renK_arg List.mem_cons List.not_mem_nil or_false false_or Option.getD_some intOfLV getB setB delB Box.flat setAt List.set_cons_zero List.set_cons_succ List.drop_zero List.drop_succ_cons List.take_succ_cons List.take_zero Key.isOwn Key.own.injEq Key.arg.injEq dynOk keyClash Eff.wr Eff.touch List.any_cons List.any_nil decide_false decide_true Bool.not_false Bool.and_self and_self true_and and_true Bool.not_true and_false false_and List.drop List.take Lt_mk ncast2 ncast6 ncast1 ncast0 Int.toNat_zero Int.toNat_one Nat.zero_mul Nat.mul_one Nat.one_mul Nat.zero_add Nat.add_zero Int.le_refl Nat.le_refl
end Go.Proofs.YtopgmopdjiahmaaDoor.Lg
