/- Coercions: heights, sizes. Conditions: none; plain definitions and lemmas. -/
import Derived.Test.YtopgmopdjiahmaaDoorNh
set_option linter.unusedVariables false
set_option linter.unusedSimpArgs false
set_option maxRecDepth 100000
set_option maxHeartbeats 1000000
namespace Go.Proofs.YtopgmopdjiahmaaDoor.Lg
open Go Go.RowKit Go.Proofs

mutual
def Ty.high : Ty → Int
  | .mk _ ts => Ty.highL ts 0 + 1
def Ty.highL : List Ty → Int → Int
  | [], d => d
  | t :: r, d => Ty.highL r (maxI d t.high)
end
mutual
theorem Ty.high_pos : ∀ t : Ty, 1 ≤ t.high
  | .mk _ ts => by
    simp only [Ty.high]
    have := Ty.highL_ge ts 0
    omega
theorem Ty.highL_ge : ∀ (ts : List Ty) (d : Int), d ≤ Ty.highL ts d
  | [], d => by simp [Ty.highL]
  | t :: r, d => by
    simp only [Ty.highL]
    have := Ty.highL_ge r (maxI d t.high)
    have := (le_maxI (a := d) (b := t.high)).1
    omega
end
theorem Ty.highL_mono : ∀ (ts : List Ty) (d e : Int), d ≤ e → Ty.highL ts d ≤ Ty.highL ts e
  | [], d, e, h => by simpa [Ty.highL] using h
  | t :: r, d, e, h => by
    simp only [Ty.highL]
    exact Ty.highL_mono r _ _ (by unfold maxI; split <;> split <;> omega)
theorem Ty.highL_mem : ∀ {ts : List Ty} (d : Int), ∀ t ∈ ts, t.high ≤ Ty.highL ts d
  | a :: r, d, t, ht => by
    simp only [Ty.highL]
    rcases List.mem_cons.1 ht with rfl | ht
    · have := Ty.highL_ge r (maxI d t.high)
      have := (le_maxI (a := d) (b := t.high)).2
      omega
    · exact Ty.highL_mem _ t ht
mutual
theorem Ty.deep_min : ∀ (t : Ty) (n : Int), 1 ≤ n → t.deep n = minI n t.high
  | .mk k ts, n, h => by
    simp only [Ty.deep, Ty.high]
    have h0 := Ty.highL_ge ts 0
    split
    · unfold minI; split <;> omega
    · have := Ty.deepL_min ts (n - 1) 0 (by omega) (by omega)
      have e : minI (n - 1) 0 = 0 := by unfold minI; split <;> omega
      rw [e] at this
      rw [this]
      unfold minI; split <;> split <;> omega
theorem Ty.deepL_min : ∀ (ts : List Ty) (n d : Int), 1 ≤ n → 0 ≤ d → Ty.deepL ts n (minI n d) = minI n (Ty.highL ts d)
  | [], n, d, h, h' => rfl
  | t :: r, n, d, h, h' => by
    simp only [Ty.deepL, Ty.highL]
    have ht := Ty.high_pos t
    rw [Ty.deep_min t n h]
    have e : (if minI n t.high > minI n d then minI n t.high else minI n d) = minI n (maxI d t.high) := by
      unfold minI maxI; (repeat' split) <;> omega
    rw [e]
    exact Ty.deepL_min r n _ h (by unfold maxI; split <;> omega)
end
theorem high_of_check {t : Ty} (h : t.check = 0) : t.high ≤ 200 := by
  obtain ⟨h1, h2, _⟩ := check_zero h
  unfold Ty.depth at h2
  rw [if_pos h1, Ty.deep_min t 201 (by omega)] at h2
  unfold minI at h2
  split at h2 <;> omega

/-- by pointer, into a greater value -/
theorem high_does : ∀ t : Ty, t.fits → t.high ≤ 1000000 → ∀ (cs : List IV) (off : Nat), cs[off + 1]? = some (.slice (Ty.cellsL t.ts)) → Does Tryd.prog 33 [.imm false (.ptr cs off)] [] (.ret true (.int .i64 t.high)) [] := by
  refine Ty.ind fun k ts ih hf hh cs off hcs => ?_
  have hfl : ts.length ≤ 9223372036854775807 := hf.1
  simp only [Ty.ts] at hcs
  have hhl : Ty.highL ts 0 ≤ 999999 := by simp only [Ty.high] at hh; omega
  refine does33 (by rfl) (by rfl) ?_
  (try simp (implicitDefEqProofs := false) only [go_sem, ↓reduceIte, Nat.reduceEqDiff, reduceCtorEq, Nat.reduceAdd, Nat.reduceSub, Nat.reduceLeDiff, Nat.reduceLT, Nat.reduceMul, Int.reduceToNat, Int.reduceLT, Int.reduceLE, hcs, Ty.cellsL_len])
  refine ⟨fun q σ => ∃ j d, j ≤ ts.length ∧ q = ts.length - j ∧ 0 ≤ d ∧ Ty.highL ts 0 = Ty.highL (ts.drop j) d ∧ σ = ⟨[(0, .imm false (.ptr cs off)), (3, .imm true (.int .i64 d)), (9, .imm true (.int .i64 ts.length)), (10, .imm true (.int .i64 j))], [], []⟩, ⟨_, 0, 0, by omega, rfl, by omega, rfl, rfl⟩, ?_⟩
  rintro q σ ⟨j, d, hj, rfl, hd0, hs, rfl⟩
  unfold l33_0
  (try simp (implicitDefEqProofs := false) only [go_sem, ↓reduceIte, Nat.reduceEqDiff, reduceCtorEq, Nat.reduceAdd, Nat.reduceSub, Nat.reduceLeDiff, Nat.reduceLT, Nat.reduceMul, Int.reduceToNat, Int.reduceLT, Int.reduceLE, CondOn_imm])
  have hdl : d ≤ 999999 := by have := Ty.highL_ge (ts.drop j) d; omega
  refine ⟨fun hlt => ?_, fun hlt => ?_⟩
  · have hlt : j < ts.length := by simpa using hlt
    obtain ⟨k', ts', hm, hat, hdr, _⟩ := Ty.kid hlt
    rw [hdr, Ty.highL] at hs
    have hkid := Ty.highL_mem (ts := ts) 0 _ hm
    (try simp (implicitDefEqProofs := false) only [go_sem, ↓reduceIte, Nat.reduceEqDiff, reduceCtorEq, Nat.reduceAdd, Nat.reduceSub, Nat.reduceLeDiff, Nat.reduceLT, Nat.reduceMul, Int.reduceToNat, Int.reduceLT, Int.reduceLE, hcs, hat, Int.toNat_natCast, Int.natCast_nonneg])
    refine CallK_do (ih _ hm (Ty.fitsL_mem (by simpa [Ty.fits] using hf.2) _ hm) (by omega) _ 0 (by simp [Ty.ts])) ?_
    (try simp (implicitDefEqProofs := false) only [go_sem, ↓reduceIte, Nat.reduceEqDiff, reduceCtorEq, Nat.reduceAdd, Nat.reduceSub, Nat.reduceLeDiff, Nat.reduceLT, Nat.reduceMul, Int.reduceToNat, Int.reduceLT, Int.reduceLE, wrap64 (n := (j : Int) + 1) (by omega) (by omega)])
    exact ⟨_, by omega, j + 1, maxI d (Ty.mk k' ts').high, by omega, rfl, by have := le_maxI (a := d) (b := (Ty.mk k' ts').high); omega, hs, rfl⟩
  · have hge : j = ts.length := by have : ¬ j < ts.length := by simpa using hlt
                                   omega
    subst hge
    simp only [List.drop_length, Ty.highL] at hs
    (try simp (implicitDefEqProofs := false) only [go_sem, ↓reduceIte, Nat.reduceEqDiff, reduceCtorEq, Nat.reduceAdd, Nat.reduceSub, Nat.reduceLeDiff, Nat.reduceLT, Nat.reduceMul, Int.reduceToNat, Int.reduceLT, Int.reduceLE, wrap64 (n := d + 1) (by omega) (by omega), Ty.high, hs])

/-! ### a coercion that is one: its shape -/
theorem ends_shape {k : Int} {ty to : Ty} {lab : Int} {neg : Bool} {ks : List Cn} (h : (Cn.mk k ty to lab neg ks).ends.2.2 = true) :
    (ks = [] ∧ (k = 0 ∨ k = 1 ∨ k = 2 ∨ k = 3) ∧ ty.check = 0) ∨ ∃ a b, ks = [a, b] ∧ (k = 4 ∨ k = 5 ∨ k = 6 ∨ k = 7) ∧ a.ends.2.2 = true ∧ b.ends.2.2 = true := by
  simp only [Cn.ends] at h
  split at h
  · rename_i hl
    refine .inl ?_
    unfold leafE at h
    split at h
    · simp [noE] at h
    · rename_i hc
      simp only [not_or, Bool.not_eq_false, Decidable.not_not] at hc
      refine ⟨by simpa using hc.1, ?_, hc.2⟩
      simp only [leafF, Bool.or_eq_true, beq_iff_eq] at hl
      omega
  · refine .inr ?_
    match ks, h with
    | [], h => simp [Cn.endsL, partsL, noE] at h
    | [a], h => simp [Cn.endsL, partsL, noE] at h
    | [a, b], h =>
      simp only [Cn.endsL, partsL, partsE] at h
      refine ⟨a, b, rfl, ?_⟩
      split at h
      · simp [noE] at h
      · rename_i hab
        simp only [Bool.not_eq_false, Bool.and_eq_true] at hab
        refine ⟨?_, hab⟩
        repeat' split at h
        all_goals first | omega | (simp [noE] at h)
    | a :: b :: c :: r, h => simp [Cn.endsL, partsL, noE] at h

mutual
def Cn.size : Cn → Int
  | .mk k _ _ _ _ ks => if k = 0 ∨ k = 1 ∨ k = 2 ∨ k = 3 then 1 else if k = 7 then Cn.sizeL ks else Cn.sizeL ks + 1
def Cn.sizeL : List Cn → Int
  | [] => 0
  | c :: r => c.size + Cn.sizeL r
end
mutual
def Cn.height : Cn → Int
  | .mk k ty _ _ _ ks => if k = 0 ∨ k = 1 then 1 else if k = 2 ∨ k = 3 then ty.high else if k = 7 then Cn.heightL ks else Cn.heightL ks + 1
def Cn.heightL : List Cn → Int
  | [] => 0
  | [c] => c.height
  | c :: r => maxI c.height (Cn.heightL r)
end
mutual
def Cn.num : Cn → Int
  | .mk _ _ _ _ _ ks => 1 + Cn.numL ks
def Cn.numL : List Cn → Int
  | [] => 0
  | c :: r => c.num + Cn.numL r
end
mutual
theorem Cn.num_pos : ∀ c : Cn, 1 ≤ c.num
  | .mk _ _ _ _ _ ks => by simp only [Cn.num]; have := Cn.numL_pos ks; omega
theorem Cn.numL_pos : ∀ ks : List Cn, 0 ≤ Cn.numL ks
  | [] => by simp [Cn.numL]
  | c :: r => by simp only [Cn.numL]; have := Cn.num_pos c; have := Cn.numL_pos r; omega
end
mutual
theorem Cn.num_down : ∀ (c : Cn) (n : Int), c.down n ≤ 8192 → n + c.num ≤ c.down n
  | .mk k ty to lab neg ks, n, h => by
    simp only [Cn.down, Cn.num] at h ⊢
    have := headN_le k ty to
    have := Cn.numL_down ks _ h
    omega
theorem Cn.numL_down : ∀ (ks : List Cn) (m : Int), Cn.downL ks m ≤ 8192 → m + Cn.numL ks ≤ Cn.downL ks m
  | [], m, h => by simp [Cn.downL, Cn.numL]
  | c :: r, m, h => by
    simp only [Cn.downL, Cn.numL] at h ⊢
    split at h
    · omega
    · rename_i hm
      rw [if_neg hm]
      have h2 := Cn.numL_down r _ h
      have h3 := Cn.numL_pos r
      have h1 := Cn.num_down c m (by omega)
      omega
end
theorem few_num {c : Cn} (h : c.few = true) : c.num ≤ 8192 := by
  have h := of_decide_eq_true h
  have := Cn.num_down c 0 h
  omega

theorem measure_does : ∀ c : Cn, c.fits → c.ends.2.2 = true → c.num ≤ 8192 → (Does Tryd.prog 15 [.imm false (.ptr c.cells 0)] [] (.ret true (.tup [.int .i64 c.size, .int .i64 c.height])) []) ∧ 1 ≤ c.size ∧ c.size ≤ c.num ∧ 1 ≤ c.height ∧ c.height ≤ 200 + c.num := by
  refine Cn.ind fun k ty to lab neg ks ih hf he hn => ?_
  rcases ends_shape he with ⟨rfl, hk, hc⟩ | ⟨a, b, rfl, hk, ha, hb⟩
  · have hh := high_of_check hc
    have hp := Ty.high_pos ty
    refine ⟨?_, ?_⟩
    · have h1 := high_does ty hf.1 (by omega) (Cn.mk k ty to lab neg []).cells 1 (by simp [Cn.cells])
      refine does15 (by rfl) (by rfl) ?_
      simp only [Cn.cells, Cn.cellsL] at h1
      rcases hk with rfl | rfl | rfl | rfl
      · (try simp (implicitDefEqProofs := false) only [go_sem, ↓reduceIte, Nat.reduceEqDiff, reduceCtorEq, Nat.reduceAdd, Nat.reduceSub, Nat.reduceLeDiff, Nat.reduceLT, Nat.reduceMul, Int.reduceToNat, Int.reduceLT, Int.reduceLE, Cn.cells, Cn.cellsL])
        simp [Cn.size, Cn.height]
      · (try simp (implicitDefEqProofs := false) only [go_sem, ↓reduceIte, Nat.reduceEqDiff, reduceCtorEq, Nat.reduceAdd, Nat.reduceSub, Nat.reduceLeDiff, Nat.reduceLT, Nat.reduceMul, Int.reduceToNat, Int.reduceLT, Int.reduceLE, Cn.cells, Cn.cellsL, show ((1 : Int) == 0) = false from rfl])
        simp [Cn.size, Cn.height]
      · (try simp (implicitDefEqProofs := false) only [go_sem, ↓reduceIte, Nat.reduceEqDiff, reduceCtorEq, Nat.reduceAdd, Nat.reduceSub, Nat.reduceLeDiff, Nat.reduceLT, Nat.reduceMul, Int.reduceToNat, Int.reduceLT, Int.reduceLE, Cn.cells, Cn.cellsL, show ((2 : Int) == 0) = false from rfl, show ((2 : Int) == 1) = false from rfl])
        refine CallK_do h1 ?_
        (try simp (implicitDefEqProofs := false) only [go_sem, ↓reduceIte, Nat.reduceEqDiff, reduceCtorEq, Nat.reduceAdd, Nat.reduceSub, Nat.reduceLeDiff, Nat.reduceLT, Nat.reduceMul, Int.reduceToNat, Int.reduceLT, Int.reduceLE])
        simp [Cn.size, Cn.height]
      · (try simp (implicitDefEqProofs := false) only [go_sem, ↓reduceIte, Nat.reduceEqDiff, reduceCtorEq, Nat.reduceAdd, Nat.reduceSub, Nat.reduceLeDiff, Nat.reduceLT, Nat.reduceMul, Int.reduceToNat, Int.reduceLT, Int.reduceLE, Cn.cells, Cn.cellsL, show ((3 : Int) == 0) = false from rfl, show ((3 : Int) == 1) = false from rfl, show ((3 : Int) == 2) = false from rfl])
        refine CallK_do h1 ?_
        (try simp (implicitDefEqProofs := false) only [go_sem, ↓reduceIte, Nat.reduceEqDiff, reduceCtorEq, Nat.reduceAdd, Nat.reduceSub, Nat.reduceLeDiff, Nat.reduceLT, Nat.reduceMul, Int.reduceToNat, Int.reduceLT, Int.reduceLE])
        simp [Cn.size, Cn.height]
    · simp only [Cn.size, Cn.height, Cn.num, Cn.numL]
      rcases hk with rfl | rfl | rfl | rfl <;> simp <;> omega
  · have hk' := hf.2.2.2.2
    have hna := Cn.num_pos a
    have hnb := Cn.num_pos b
    have hn2 : 1 + (a.num + (b.num + 0)) ≤ 8192 := by simpa [Cn.num, Cn.numL] using hn
    obtain ⟨da, a1, a2, a3, a4⟩ := ih a (by simp) hk'.1 ha (by omega)
    obtain ⟨db, b1, b2, b3, b4⟩ := ih b (by simp) hk'.2.1 hb (by omega)
    have hla := Cn.cells_len a
    have hlb := Cn.cells_len b
    refine ⟨?_, ?_⟩
    · refine does15 (by rfl) (by rfl) ?_
      have n0 : (k == 0) = false := by simp; omega
      have n1 : (k == 1) = false := by simp; omega
      have n2 : (k == 2) = false := by simp; omega
      have n3 : (k == 3) = false := by simp; omega
      (try simp (implicitDefEqProofs := false) only [go_sem, ↓reduceIte, Nat.reduceEqDiff, reduceCtorEq, Nat.reduceAdd, Nat.reduceSub, Nat.reduceLeDiff, Nat.reduceLT, Nat.reduceMul, Int.reduceToNat, Int.reduceLT, Int.reduceLE, Cn.cells, Cn.cellsL, n0, n1, n2, n3, hla, hlb])
      refine CallK_do da ?_
      (try simp (implicitDefEqProofs := false) only [go_sem, ↓reduceIte, Nat.reduceEqDiff, reduceCtorEq, Nat.reduceAdd, Nat.reduceSub, Nat.reduceLeDiff, Nat.reduceLT, Nat.reduceMul, Int.reduceToNat, Int.reduceLT, Int.reduceLE, hla, hlb])
      refine CallK_do db ?_
      by_cases k7 : k = 7
      · subst k7
        (try simp (implicitDefEqProofs := false) only [go_sem, ↓reduceIte, Nat.reduceEqDiff, reduceCtorEq, Nat.reduceAdd, Nat.reduceSub, Nat.reduceLeDiff, Nat.reduceLT, Nat.reduceMul, Int.reduceToNat, Int.reduceLT, Int.reduceLE, show ((7 : Int) != 7) = false from rfl, wrap64 (n := a.size + b.size) (by omega) (by omega)])
        simp [Cn.size, Cn.sizeL, Cn.height, Cn.heightL, maxI]
      · have hm : 1 ≤ maxI a.height b.height ∧ maxI a.height b.height ≤ 200 + 8192 := by unfold maxI; split <;> omega
        unfold maxI at hm
        (try simp (implicitDefEqProofs := false) only [go_sem, ↓reduceIte, Nat.reduceEqDiff, reduceCtorEq, Nat.reduceAdd, Nat.reduceSub, Nat.reduceLeDiff, Nat.reduceLT, Nat.reduceMul, Int.reduceToNat, Int.reduceLT, Int.reduceLE, show (k != 7) = true from by simpa using k7, wrap64 (n := a.size + b.size) (by omega) (by omega), wrap64 (n := a.size + b.size + 1) (by omega) (by omega), wrap64 (n := (if b.height > a.height then b.height else a.height) + 1) (by omega) (by omega)])
        have e1 : ¬ (k = 0 ∨ k = 1 ∨ k = 2 ∨ k = 3) := by omega
        have e2 : ¬ (k = 0 ∨ k = 1) := by omega
        have e3 : ¬ (k = 2 ∨ k = 3) := by omega
        simp [Cn.size, Cn.sizeL, Cn.height, Cn.heightL, maxI, e1, e2, e3, k7]
    · have e1 : ¬ (k = 0 ∨ k = 1 ∨ k = 2 ∨ k = 3) := by omega
      have e2 : ¬ (k = 0 ∨ k = 1) := by omega
      have e3 : ¬ (k = 2 ∨ k = 3) := by omega
      have hm := le_maxI (a := a.height) (b := b.height)
      have hm2 : maxI a.height b.height ≤ 200 + (a.num + b.num) := maxI_le (by omega) (by omega)
      simp only [Cn.size, Cn.sizeL, Cn.height, Cn.heightL, Cn.num, Cn.numL, if_neg e1, if_neg e2, if_neg e3]
      split <;> omega

/-- the check holds -/
def Cn.ok (c : Cn) : Bool := c.chk.2.2 == 0
theorem ok_iff {c : Cn} (h : c.chk.2.2 = 0) : c.few = true ∧ ¬ c.deep 201 > 200 ∧ c.ends.2.2 = true ∧ c.ends.1.check = 0 ∧ c.ends.2.1.check = 0 ∧ c.chk = (c.ends.1, c.ends.2.1, 0) := by
  unfold Cn.chk at h ⊢
  split at h
  · simp at h
  · rename_i h1
    split at h
    · simp at h
    · rename_i h2
      split at h
      · simp at h
      · rename_i h3
        split at h
        · rename_i h4; exact absurd h h4
        · rename_i h4
          split at h
          · rename_i h5; exact absurd h h5
          · rename_i h5
            rw [if_neg h1, if_neg h2, if_neg h3, if_neg h4, if_neg h5]
            exact ⟨by simpa using h1, h2, by simpa using h3, by simpa using h4, by simpa using h5, rfl⟩

def Cn.heightF (c : Cn) : Int := if c.chk.2.2 = 0 then c.height else 0
theorem cheight_does (c : Cn) (hf : c.fits) : Does Tryd.prog 8 [.imm false (.agg c.cells)] [] (.ret true (.int .i64 c.heightF)) [] := by
  have h1 := cchk_does c hf
  have h2 : c.chk.2.2 = 0 → _ := fun h => measure_does c hf (ok_iff h).2.2.1 (few_num (ok_iff h).1)
  unfold Cn.heightF chV at *
  generalize c.chk = e at h1 h2
  obtain ⟨e1, e2, e3⟩ := e
  generalize c.size = sz at h2
  generalize c.height = ht at h2
  obtain ⟨k, ty, to, lab, neg, ks⟩ := c
  simp only [Ty.cells_eq] at h1
  refine does8 (by rfl) (by rfl) ?_
  (try simp (implicitDefEqProofs := false) only [go_sem, ↓reduceIte, Nat.reduceEqDiff, reduceCtorEq, Nat.reduceAdd, Nat.reduceSub, Nat.reduceLeDiff, Nat.reduceLT, Nat.reduceMul, Int.reduceToNat, Int.reduceLT, Int.reduceLE, Cn.cells])
  refine CallK_do h1 ?_
  by_cases hz : e3 = 0
  · have h2 := (h2 hz).1
    (try simp (implicitDefEqProofs := false) only [go_sem, ↓reduceIte, Nat.reduceEqDiff, reduceCtorEq, Nat.reduceAdd, Nat.reduceSub, Nat.reduceLeDiff, Nat.reduceLT, Nat.reduceMul, Int.reduceToNat, Int.reduceLT, Int.reduceLE, Ty.cells_eq, hz, show ((0 : Int) != 0) = false from rfl])
    refine CallK_do h2 ?_
    (try simp (implicitDefEqProofs := false) only [go_sem, ↓reduceIte, Nat.reduceEqDiff, reduceCtorEq, Nat.reduceAdd, Nat.reduceSub, Nat.reduceLeDiff, Nat.reduceLT, Nat.reduceMul, Int.reduceToNat, Int.reduceLT, Int.reduceLE])
  · (try simp (implicitDefEqProofs := false) only [go_sem, ↓reduceIte, Nat.reduceEqDiff, reduceCtorEq, Nat.reduceAdd, Nat.reduceSub, Nat.reduceLeDiff, Nat.reduceLT, Nat.reduceMul, Int.reduceToNat, Int.reduceLT, Int.reduceLE, Ty.cells_eq, show (e3 != 0) = true from by simpa using hz])
    simp [hz]
end Go.Proofs.YtopgmopdjiahmaaDoor.Lg
