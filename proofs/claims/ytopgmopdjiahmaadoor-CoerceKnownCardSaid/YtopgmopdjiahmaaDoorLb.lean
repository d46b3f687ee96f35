/- The operations, abstractly: what an operation of the machine makes of a state whose temporaries stand for trees. Conditions: none; plain definitions. -/
import Derived.Test.YtopgmopdjiahmaaDoorLa
set_option linter.unusedVariables false
set_option linter.unusedSimpArgs false
namespace Go.Proofs.YtopgmopdjiahmaaDoor.Lg
open Go Go.RowKit

/-- A state: temporaries, boxes, the boxes that have been handed on. -/
structure St where
  e : List (Nat × LV)
  s : List (Key × Box)
  z : List Key

def getE : List (Nat × LV) → Nat → LV
  | [], _ => .undef
  | (t, v) :: r, n => if t = n then v else getE r n
def getB : List (Key × Box) → Key → Option Box
  | [], _ => none
  | (t, v) :: r, n => if t = n then some v else getB r n
def delB : List (Key × Box) → Key → List (Key × Box)
  | [], _ => []
  | (t, v) :: r, n => if t = n then delB r n else (t, v) :: delB r n
def setB : List (Key × Box) → Key → Box → List (Key × Box)
  | [], n, b => [(n, b)]
  | (t, v) :: r, n, b => if t = n then (t, b) :: delB r n else (t, v) :: setB r n b
def putE : List (Nat × LV) → Nat → LV → List (Nat × LV)
  | [], n, b => [(n, b)]
  | (t, v) :: r, n, b => if t = n then (t, b) :: r else (t, v) :: putE r n b
def keepE (e : List (Nat × LV)) : List Nat → List (Nat × LV)
  | [] => []
  | n :: r => (n, getE e n) :: keepE e r

def St.get (σ : St) (n : Nat) : LV := getE σ.e n
def St.box (σ : St) (k : Key) : Option Box := getB σ.s k

theorem getE_put (e : List (Nat × LV)) (n : Nat) (v : LV) (m : Nat) : getE (putE e n v) m = if n = m then v else getE e m := by
  induction e with
  | nil => rfl
  | cons x e ih =>
    obtain ⟨t, u⟩ := x
    simp only [putE]
    by_cases h : t = n
    · subst h
      simp only [if_true, getE]
      split <;> rfl
    · simp only [if_neg h, getE, ih]
      by_cases h2 : t = m
      · subst h2; simp [Ne.symm h]
      · simp [h2]
theorem getB_del (s : List (Key × Box)) (k m : Key) : getB (delB s k) m = if k = m then none else getB s m := by
  induction s with
  | nil => simp [delB, getB]
  | cons x s ih =>
    obtain ⟨t, u⟩ := x
    simp only [delB]
    by_cases h : t = k
    · subst h
      simp only [if_true, ih, getB]
      split <;> rfl
    · simp only [if_neg h, getB, ih]
      by_cases h2 : t = m
      · subst h2; simp [Ne.symm h]
      · simp [h2]
theorem getB_set (s : List (Key × Box)) (k : Key) (b : Box) (m : Key) : getB (setB s k b) m = if k = m then some b else getB s m := by
  induction s with
  | nil => rfl
  | cons x s ih =>
    obtain ⟨t, u⟩ := x
    simp only [setB]
    by_cases h : t = k
    · subst h
      simp only [if_true, getB, getB_del]
      split <;> rfl
    · simp only [if_neg h, getB, ih]
      by_cases h2 : t = m
      · subst h2; simp [Ne.symm h]
      · simp [h2]
theorem getE_keep (e : List (Nat × LV)) (l : List Nat) (m : Nat) : getE (keepE e l) m = getE e m ∨ getE (keepE e l) m = .undef := by
  induction l with
  | nil => exact .inr rfl
  | cons n l ih =>
    simp only [keepE, getE]
    split
    · rename_i h; subst h; exact .inl rfl
    · exact ih

/-- What an operation does to a state; r: the boxes that it looked into. -/
structure Eff where
  d : Option (Nat × LV)
  u : List (Key × Option Box)
  z : List Key
  r : List Key

def appU : List (Key × Option Box) → List (Key × Box) → List (Key × Box)
  | [], s => s
  | (k, some b) :: u, s => appU u (setB s k b)
  | (k, none) :: u, s => appU u (delB s k)
def addZ : List Key → List Key → List Key
  | [], z => z
  | k :: r, z => if k ∈ z then addZ r z else k :: addZ r z
def St.app (σ : St) (E : Eff) : St :=
  { e := match E.d with | some (t, v) => putE σ.e t v | none => σ.e, s := appU E.u σ.s, z := addZ E.z σ.z }

theorem mem_addZ (l z : List Key) (k : Key) : k ∈ addZ l z ↔ k ∈ l ∨ k ∈ z := by
  induction l with
  | nil => simp [addZ]
  | cons a l ih =>
    simp only [addZ]
    split
    · rename_i h
      rw [ih]
      constructor
      · rintro (h1 | h1)
        · exact .inl (List.mem_cons_of_mem _ h1)
        · exact .inr h1
      · rintro (h1 | h1)
        · rcases List.mem_cons.1 h1 with rfl | h1
          · exact .inr h
          · exact .inl h1
        · exact .inr h1
    · rw [List.mem_cons, ih, List.mem_cons, or_assoc]

/-! Handing on: a value with all its boxes written out -/
def resL (f : LV → Option (Bool × IV)) : List LV → Option (Bool × List IV)
  | [] => some (true, [])
  | a :: r => match f a with
    | some (b, v) => match resL f r with
      | some (c, vs) => some (b && c, v :: vs)
      | none => none
    | none => none
def resLL (f : LV → Option (Bool × IV)) : List (List LV) → Option (Bool × List (List IV))
  | [] => some (true, [])
  | a :: r => match resL f a with
    | some (b, v) => match resLL f r with
      | some (c, vs) => some (b && c, v :: vs)
      | none => none
    | none => none
def Key.isOwn : Key → Bool
  | .own _ => true
  | .arg _ => false
def res (s : List (Key × Box)) : Nat → LV → Option (Bool × IV)
  | 0, _ => none
  | _ + 1, .imm f v => some (f || v.plain, v)
  | _ + 1, .nils => some (true, .slice [])
  | n + 1, .loc k off => match getB s k with
    | some (.var cells) => match resL (res s n) cells with
      | some (f, vs) => if k.isOwn then some (f, .ptr vs off) else none
      | none => none
    | _ => none
  | n + 1, .row k m => match getB s k with
    | some (.row _ _ elems) => if elems.length = m then match resLL (res s n) elems with
      | some (f, vs) => if k.isOwn then some (f, .slice vs) else none
      | none => none else none
    | _ => none
  | n + 1, .agg cells => match resL (res s n) cells with
    | some (f, vs) => some (f, .agg vs)
    | none => none
  | n + 1, .tup cells => match resL (res s n) cells with
    | some (f, vs) => some (f, .tup vs)
    | none => none
  | _ + 1, _ => none

/-- the boxes that it goes through -/
def keysL (f : LV → List Key) : List LV → List Key
  | [] => []
  | a :: r => f a ++ keysL f r
def keysLL (f : LV → List Key) : List (List LV) → List Key
  | [] => []
  | a :: r => keysL f a ++ keysLL f r
def keys (s : List (Key × Box)) : Nat → LV → List Key
  | 0, _ => []
  | n + 1, .loc k _ => match getB s k with
    | some (.var cells) => k :: keysL (keys s n) cells
    | _ => [k]
  | n + 1, .row k _ => match getB s k with
    | some (.row _ _ elems) => k :: keysLL (keys s n) elems
    | _ => [k]
  | n + 1, .agg cells => keysL (keys s n) cells
  | n + 1, .tup cells => keysL (keys s n) cells
  | _ + 1, _ => []

def depth0 : Nat := 6
def St.res (σ : St) (v : LV) : Option (Bool × IV) := Lg.res σ.s depth0 v
def St.keys (σ : St) (v : LV) : List Key := Lg.keys σ.s depth0 v

/-! Operands, operations -/
inductive Opd where
  | t (n : Nat)
  | c (v : LV)
def St.ev (σ : St) : Opd → LV
  | .t n => σ.get n
  | .c v => v

inductive MO where
  | mv (d : Nat) (x : Opd)
  | pick (d : Nat) (c a b : Opd)
  | box (d : Nat) (x : Opd)
  | boxc (d : Nat) (x : Opd)
  | alloc (d : Nat) (zs : List LV)
  | build (d : Nat) (zs : List LV) (ps : List (Nat × Nat × Opd))
  | lit (d : Nat) (sz : Nat) (ps : List Opd)
  | load (d : Nat) (x : Opd) (n : Option Nat)
  | store (x y : Opd) (n : Nat)
  | nilc (d : Nat) (x : Opd)
  | fad (d : Nat) (x : Opd) (off : Nat)
  | fld (d : Nat) (x : Opd) (off : Nat) (n : Option Nat)
  | iad (d : Nat) (x i : Opd) (sz : Nat)
  | aad (d : Nat) (x i : Opd) (len sz : Nat)
  | idx (d : Nat) (x i : Opd) (len sz : Nat) (n : Option Nat)
  | ext (d : Nat) (x : Opd) (i : Nat)
  | bin (d : Nat) (op : BinOp) (x y : Opd)
  | binb (d : Nat) (neg : Bool) (x y : Opd)
  | un (d : Nat) (op : UnOp) (x : Opd)
  | conv (d : Nat) (k : IntKind) (x : Opd)
  | len (d : Nat) (x : Opd)
  | slen (d : Nat) (x : Opd)
  | mkif (d : Nat) (t : TypeId) (x : Opd)
  | pan (x : Opd)
  | append (d : Nat) (x y : Opd) (e : TypeId) (sz by_ : Nat)
  | mx (d : Nat) (xs : List Opd)
  | mn (d : Nat) (xs : List Opd)
  | mkfn (d : Nat) (f : FuncId) (caps : List Opd)
  | mksl (d : Nat) (n : Opd) (zs : List LV)
  | mkrow (d : Nat) (n : Opd) (e : TypeId) (sz by_ : Nat)
  | cut (d : Nat) (x : Opd) (lo hi : Option Opd) (sz : Nat)
  | call (d : Option Nat) (f : Opd) (xs : List Opd)
  | callB (d : Option Nat) (f : Opd) (xs : List Opd) (ρ : List Key)
  | acall (d : Nat) (f : Opd) (x : Opd) (xs : List Opd)

def MO.dst : MO → Option Nat
  | .mv d _ | .pick d _ _ _ | .box d _ | .boxc d _ | .alloc d _ | .build d _ _ | .lit d _ _ | .load d _ _ | .nilc d _ | .fad d _ _ | .fld d _ _ _
  | .iad d _ _ _ | .aad d _ _ _ _ | .idx d _ _ _ _ _ | .ext d _ _ | .bin d _ _ _ | .binb d _ _ _ | .un d _ _ | .conv d _ _ | .len d _ | .slen d _ | .mkif d _ _ | .append d _ _ _ _ _ | .mx d _ | .mn d _ | .mkfn d _ _ | .mksl d _ _ | .mkrow d _ _ _ _ | .cut d _ _ _ _ | .acall d _ _ _ => some d
  | .store _ _ _ | .pan _ => none
  | .call d _ _ | .callB d _ _ _ => d

def MO.news : MO → Option Nat
  | .box d _ | .alloc d _ | .append d _ _ _ _ _ | .mkrow d _ _ _ _ | .acall d _ _ _ => some d
  | _ => none

def val (d : Nat) (v : LV) : Option Eff := some { d := some (d, v), u := [], z := [], r := [] }

/-- A part of a row of cells: a scalar, or an aggregate of n. -/
def partOf (cs : List LV) (off : Nat) : Option Nat → Option LV
  | none => cs[off]?
  | some n => if off + n ≤ cs.length then some (.agg ((cs.drop off).take n)) else none
/-- Of a row that nobody changes. -/
def partI (f : Bool) (cs : List IV) (off : Nat) : Option Nat → Option LV
  | none => (cs[off]?).map (.imm f)
  | some n => if off + n ≤ cs.length then some (.imm f (.agg ((cs.drop off).take n))) else none

def Box.flat : Box → List LV
  | .var cs => cs
  | .row _ _ es => es.flatten

def setAt : List LV → Nat → List LV → List LV
  | cs, _, [] => cs
  | cs, o, v :: r => setAt (cs.set o v) (o + 1) r

def fillA : List LV → List (Nat × Nat × LV) → Option (List LV)
  | cs, [] => some cs
  | cs, (off, sz, v) :: r => match v.cells with
    | some vs => if vs.length = sz ∧ off + sz ≤ cs.length then fillA (setAt cs off vs) r else none
    | none => none

def abin (op : BinOp) : IV → IV → Option IV
  | .int k a, .int k' b => match op with
    | .shl => if b < 0 then none else some (.int k (k.wrap (a * 2 ^ (min b.toNat k.bits))))
    | .shr => none
    | _ => if k = k' then match op with
      | .add => some (.int k (k.wrap (a + b)))
      | .sub => some (.int k (k.wrap (a - b)))
      | .mul => some (.int k (k.wrap (a * b)))
      | .quo => if b = 0 then none else some (.int k (k.wrap (a.tdiv b)))
      | .rem => if b = 0 then none else some (.int k (a.tmod b))
      | .eql => some (.bool (a == b))
      | .neq => some (.bool (a != b))
      | .lss => some (.bool (a < b))
      | .leq => some (.bool (a ≤ b))
      | .gtr => some (.bool (a > b))
      | .geq => some (.bool (a ≥ b))
      | _ => none else none
  | .str a, .str b => match op with
    | .eql => some (.bool (a.toList == b.toList))
    | .neq => some (.bool (!(a.toList == b.toList)))
    | _ => none
  | _, _ => none

def aun (op : UnOp) : IV → Option IV
  | .bool b => match op with
    | .not => some (.bool !b)
    | _ => none
  | .int k n => match op with
    | .neg => some (.int k (k.wrap (0 - n)))
    | _ => none
  | _ => none

def maxL (k : IntKind) (m : Int) : List LV → Option LV
  | [] => some (.imm true (.int k m))
  | .imm _ (.int _ y) :: r => maxL k (if y > m then y else m) r
  | _ => none
def minL (k : IntKind) (m : Int) : List LV → Option LV
  | [] => some (.imm true (.int k m))
  | .imm _ (.int _ y) :: r => minL k (if y < m then y else m) r
  | _ => none

def resAll (σ : St) : List LV → Option (Bool × List (List IV))
  | [] => some (true, [])
  | a :: r => match a.cells with
    | some cs => match resL (Lg.res σ.s depth0) cs with
      | some (f, v) => match resAll σ r with
        | some (g, vs) => some (f && g, v :: vs)
        | none => none
      | none => none
    | none => none

def intOfLV : LV → Option Int
  | .imm _ (.int _ n) => some n
  | _ => none

/-- The operations but for calls. -/
def aop (σ : St) : MO → Option Eff
  | .mv d x => val d (σ.ev x)
  | .pick d c a b => match σ.ev c with
    | .imm _ (.bool t) => val d (if t then σ.ev a else σ.ev b)
    | _ => none
  | .box d x => match (σ.ev x).cells with
    | some cs => some { d := some (d, .loc (.own d) 0), u := [(.own d, some (.var cs))], z := [], r := [] }
    | none => none
  | .boxc d x => match (σ.ev x).cells with
    | some cs => match resL (Lg.res σ.s depth0) cs with
      | some (f, vs) => some { d := some (d, .imm f (.ptr vs 0)), u := [], z := keysL (Lg.keys σ.s depth0) cs, r := keysL (Lg.keys σ.s depth0) cs }
      | none => none
    | none => none
  | .alloc d zs => some { d := some (d, .loc (.own d) 0), u := [(.own d, some (.var zs))], z := [], r := [] }
  | .build d zs ps => match fillA zs (ps.map fun (o, n, x) => (o, n, σ.ev x)) with
    | some cs => val d (.agg cs)
    | none => none
  | .lit d sz ps => match resAll σ (ps.map σ.ev) with
    | some (f, vs) => if vs.all (fun v => v.length == sz) then
      some { d := some (d, .imm f (.slice vs)), u := [], z := keysL (fun a => keysL (Lg.keys σ.s depth0) (a.cells.getD [])) (ps.map σ.ev), r := keysL (fun a => keysL (Lg.keys σ.s depth0) (a.cells.getD [])) (ps.map σ.ev) } else none
    | none => none
  | .load d x n => match σ.ev x with
    | .imm f (.ptr cs off) => match partI f cs off n with
      | some v => val d v
      | none => none
    | .loc k off => match σ.box k with
      | some b => match partOf b.flat off n with
        | some v => some { d := some (d, v), u := [], z := [], r := [k] }
        | none => none
      | none => none
    | _ => none
  | .store x y n => match σ.ev x with
    | .loc k off => if k ∈ σ.z then none else match σ.box k with
      | some (.var cs) => match (σ.ev y).cells with
        | some vs => if vs.length = n ∧ off + n ≤ cs.length then some { d := none, u := [(k, some (.var (setAt cs off vs)))], z := [], r := [k] } else none
        | none => none
      | _ => none
    | _ => none
  | .nilc d x => match σ.ev x with
    | .imm f (.ptr cs off) => val d (.imm f (.ptr cs off))
    | .loc k off => val d (.loc k off)
    | _ => none
  | .fad d x off => match σ.ev x with
    | .imm f (.ptr cs o) => val d (.imm f (.ptr cs (o + off)))
    | .loc k o => val d (.loc k (o + off))
    | _ => none
  | .fld d x off n => match (σ.ev x).acells with
    | some cs => match partOf cs off n with
      | some v => val d v
      | none => none
    | none => none
  | .iad d x i sz => match σ.ev x, intOfLV (σ.ev i) with
    | .imm f (.slice es), some i => if 0 ≤ i then match es[i.toNat]? with
      | some cs => if cs.length = sz then val d (.imm f (.ptr cs 0)) else none
      | none => none else none
    | .row k n, some i => if 0 ≤ i ∧ i < n then val d (.loc k (i.toNat * sz)) else none
    | _, _ => none
  | .aad d x i len sz => match σ.ev x, intOfLV (σ.ev i) with
    | .imm f (.ptr cs o), some i => if 0 ≤ i ∧ i < len then val d (.imm f (.ptr cs (o + i.toNat * sz))) else none
    | .loc k o, some i => if 0 ≤ i ∧ i < len then val d (.loc k (o + i.toNat * sz)) else none
    | _, _ => none
  | .idx d x i len sz n => match (σ.ev x).acells, intOfLV (σ.ev i) with
    | some cs, some i => if 0 ≤ i ∧ i < len then match partOf cs (i.toNat * sz) n with
      | some v => val d v
      | none => none else none
    | _, _ => none
  | .ext d x i => match σ.ev x with
    | .tup vs => match vs[i]? with
      | some v => val d v
      | none => none
    | .imm f (.tup vs) => match vs[i]? with
      | some v => val d (.imm f v)
      | none => none
    | _ => none
  | .bin d op x y => match σ.ev x, σ.ev y with
    | .imm _ a, .imm _ b => match abin op a b with
      | some v => val d (.imm true v)
      | none => none
    | _, _ => none
  | .binb d neg x y => match σ.ev x, σ.ev y with
    | .imm _ (.bool a), .imm _ (.bool b) => val d (.imm true (.bool (if neg then !(a == b) else (a == b))))
    | _, _ => none
  | .un d op x => match σ.ev x with
    | .imm _ a => match aun op a with
      | some v => val d (.imm true v)
      | none => none
    | _ => none
  | .conv d k x => match σ.ev x with
    | .imm _ (.int _ n) => val d (.imm true (.int k (k.wrap n)))
    | _ => none
  | .len d x => match σ.ev x with
    | .imm _ (.slice es) => val d (.imm true (.int .i64 es.length))
    | .nils => val d (.imm true (.int .i64 0))
    | .row _ n => val d (.imm true (.int .i64 n))
    | _ => none
  | .slen d x => match σ.ev x with
    | .imm _ (.str s) => val d (.imm true (.int .i64 s.size))
    | _ => none
  | .mkif d t x => match (σ.ev x).acells with
    | some [] => val d (.unitI t)
    | _ => none
  | .append d x y e sz by_ => match σ.ev y with
    | .imm f (.slice news) => if news.all (fun v => v.length == sz) && 0 < sz && 0 < by_ && 0 < news.length then match σ.ev x with
      | .nils => if news.length * by_ ≤ 140737488355328 then some { d := some (d, .row (.own d) news.length), u := [(.own d, some (.row e sz (news.map fun v => v.map (.imm f))))], z := [], r := [] } else none
      | .row k n => if k ∈ σ.z then none else match σ.box k with
        | some (.row e' sz' es) => if e' = e ∧ sz' = sz ∧ es.length = n ∧ k.isOwn = true ∧ (n + news.length) * by_ ≤ 140737488355328 then
            some { d := some (d, .row (.own d) (n + news.length)), u := [(k, none), (.own d, some (.row e sz (es ++ news.map fun v => v.map (.imm f))))], z := [], r := [k] } else none
        | _ => none
      | _ => none else none
    | _ => none
  | .mx d xs => match xs.map σ.ev with
    | .imm _ (.int k m) :: r => match maxL k m r with
      | some v => val d v
      | none => none
    | _ => none
  | .mn d xs => match xs.map σ.ev with
    | .imm _ (.int k m) :: r => match minL k m r with
      | some v => val d v
      | none => none
    | _ => none
  | .mkfn d f caps => val d (.fn f (caps.map σ.ev))
  | .mksl d n zs => match intOfLV (σ.ev n) with
    | some n => if 0 ≤ n ∧ n ≤ 1000 then match resL (Lg.res [] 1) zs with
      | some (_, vs) => val d (.imm true (.slice (List.replicate n.toNat vs)))
      | none => none else none
    | none => none
  | .mkrow d n e sz by_ => match intOfLV (σ.ev n) with
    | some n => if 0 ≤ n ∧ n ≤ 1000000 ∧ by_ ≤ 1000 then some { d := some (d, .row (.own d) 0), u := [(.own d, some (.row e sz []))], z := [], r := [] } else none
    | none => none
  | .cut d x lo hi sz => match σ.ev x with
    | .imm f (.slice es) =>
      match (match lo with | none => some 0 | some l => intOfLV (σ.ev l)), (match hi with | none => some (es.length : Int) | some h => intOfLV (σ.ev h)) with
      | some l, some h => if (0 ≤ l ∧ l ≤ h ∧ h ≤ es.length) ∧ es.all (fun v => v.length == sz) = true then val d (.imm f (.slice ((es.drop l.toNat).take (h - l).toNat))) else none
      | _, _ => none
    | _ => none
  | .call .. | .callB .. | .acall .. | .pan _ => none

end Go.Proofs.YtopgmopdjiahmaaDoor.Lg
