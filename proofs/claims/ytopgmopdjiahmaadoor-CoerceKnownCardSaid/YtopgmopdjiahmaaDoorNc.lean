/- Types: checks, sameness, agreement, grounds. Conditions: none; plain definitions and lemmas. -/
import Derived.Test.YtopgmopdjiahmaaDoorNb
set_option linter.unusedVariables false
set_option linter.unusedSimpArgs false
set_option maxRecDepth 100000
namespace Go.Proofs.YtopgmopdjiahmaaDoor.Lg
open Go Go.RowKit Go.Proofs

def Ty.k : Ty → Int
  | .mk k _ => k
def Ty.ts : Ty → List Ty
  | .mk _ ts => ts
def Ty.depth (t : Ty) : Int := if t.nodes ≤ 8192 then t.deep 201 else 201
def Ty.check (t : Ty) : Int := if t.nodes ≤ 8192 then if t.depth > 200 then 31 else if t.right then 0 else 20 else 32
mutual
def Ty.eqv : Ty → Ty → Bool
  | .mk k ts, .mk k' us => k == k' && Ty.eqvL ts us
def Ty.eqvL : List Ty → List Ty → Bool
  | [], _ => true
  | _ :: _, [] => false
  | t :: r, u :: s => t.eqv u && Ty.eqvL r s
end
mutual
def Ty.lev : Ty → Ty → Bool
  | .mk k ts, .mk k' us => if k = 0 ∨ k' = 0 then true else if k ≠ k' then false else Ty.levL ts us
def Ty.levL : List Ty → List Ty → Bool
  | [], _ => true
  | _ :: _, [] => false
  | t :: r, u :: s => t.lev u && Ty.levL r s
end
def Ty.same (a b : Ty) : Bool := a.check == 0 && b.check == 0 && a.eqv b
def Ty.agree (a b : Ty) : Bool := a.check == 0 && b.check == 0 && a.lev b

theorem nodesF_gt (n : Nat) : (nodesF n > 8192) ↔ ¬ n ≤ 8192 := by unfold nodesF; split <;> omega

theorem depth_does (t : Ty) (hf : t.fits) : Does Tryd.prog 17 [.imm false (.agg t.cells)] [] (.ret true (.int .i64 t.depth)) [] := by
  obtain ⟨k, ts⟩ := t
  refine does17 (by rfl) (by rfl) ?_
  (try simp (implicitDefEqProofs := false) only [go_sem, ↓reduceIte, Nat.reduceEqDiff, reduceCtorEq, Nat.reduceAdd, Nat.reduceSub, Nat.reduceLeDiff, Nat.reduceLT, Nat.reduceMul, Int.reduceToNat, Int.reduceLT, Int.reduceLE, Ty.cells])
  refine CallK_do (nodes_does _ hf) ?_
  (try simp (implicitDefEqProofs := false) only [go_sem, ↓reduceIte, Nat.reduceEqDiff, reduceCtorEq, Nat.reduceAdd, Nat.reduceSub, Nat.reduceLeDiff, Nat.reduceLT, Nat.reduceMul, Int.reduceToNat, Int.reduceLT, Int.reduceLE, CondOn_imm])
  refine ⟨fun h => ?_, fun h => ?_⟩
  · have h := (nodesF_gt _).1 (of_decide_eq_true h)
    rw [Ty.depth, if_neg h]
  · have h : (Ty.mk k ts).nodes ≤ 8192 := by
      have := of_decide_eq_false h
      rw [nodesF_gt] at this; omega
    refine CallK_do (deep_does _ hf 201 (by omega) (by omega)) ?_
    (try simp (implicitDefEqProofs := false) only [go_sem, ↓reduceIte, Nat.reduceEqDiff, reduceCtorEq, Nat.reduceAdd, Nat.reduceSub, Nat.reduceLeDiff, Nat.reduceLT, Nat.reduceMul, Int.reduceToNat, Int.reduceLT, Int.reduceLE])
    rw [Ty.depth, if_pos h]

theorem check_does (t : Ty) (hf : t.fits) : Does Tryd.prog 9 [.imm false (.agg t.cells)] [] (.ret true (.int .i64 t.check)) [] := by
  obtain ⟨k, ts⟩ := t
  refine does9 (by rfl) (by rfl) ?_
  (try simp (implicitDefEqProofs := false) only [go_sem, ↓reduceIte, Nat.reduceEqDiff, reduceCtorEq, Nat.reduceAdd, Nat.reduceSub, Nat.reduceLeDiff, Nat.reduceLT, Nat.reduceMul, Int.reduceToNat, Int.reduceLT, Int.reduceLE, Ty.cells])
  refine CallK_do (nodes_does _ hf) ?_
  (try simp (implicitDefEqProofs := false) only [go_sem, ↓reduceIte, Nat.reduceEqDiff, reduceCtorEq, Nat.reduceAdd, Nat.reduceSub, Nat.reduceLeDiff, Nat.reduceLT, Nat.reduceMul, Int.reduceToNat, Int.reduceLT, Int.reduceLE, CondOn_imm])
  refine ⟨fun h => ?_, fun h => ?_⟩
  · have h := (nodesF_gt _).1 (of_decide_eq_true h)
    rw [Ty.check, if_neg h]
  have h : (Ty.mk k ts).nodes ≤ 8192 := by
    have := of_decide_eq_false h
    rw [nodesF_gt] at this; omega
  refine CallK_do (depth_does _ hf) ?_
  (try simp (implicitDefEqProofs := false) only [go_sem, ↓reduceIte, Nat.reduceEqDiff, reduceCtorEq, Nat.reduceAdd, Nat.reduceSub, Nat.reduceLeDiff, Nat.reduceLT, Nat.reduceMul, Int.reduceToNat, Int.reduceLT, Int.reduceLE, CondOn_imm])
  refine ⟨fun h2 => ?_, fun h2 => ?_⟩
  · have h2 := of_decide_eq_true h2
    rw [Ty.check, if_pos h, if_pos h2]
  have h2 := of_decide_eq_false h2
  refine CallK_do (right_does _ hf) ?_
  (try simp (implicitDefEqProofs := false) only [go_sem, ↓reduceIte, Nat.reduceEqDiff, reduceCtorEq, Nat.reduceAdd, Nat.reduceSub, Nat.reduceLeDiff, Nat.reduceLT, Nat.reduceMul, Int.reduceToNat, Int.reduceLT, Int.reduceLE, CondOn_imm])
  refine ⟨fun h3 => ?_, fun h3 => ?_⟩
  · rw [Ty.check, if_pos h, if_neg h2, if_neg (by simpa using h3)]
  · rw [Ty.check, if_pos h, if_neg h2, if_pos (by simpa using h3)]

theorem Ty.right_kids {k : Int} {ts : List Ty} (h : (Ty.mk k ts).right = true) : partsF k = ts.length ∧ Ty.rightL ts = true := by
  simp only [Ty.right, Bool.and_eq_true, beq_iff_eq] at h
  exact h
theorem Ty.rightL_mem : ∀ {ts : List Ty}, Ty.rightL ts = true → ∀ t ∈ ts, t.right = true
  | a :: r, h, t, ht => by
    simp only [Ty.rightL, Bool.and_eq_true] at h
    rcases List.mem_cons.1 ht with rfl | ht
    · exact h.1
    · exact Ty.rightL_mem h.2 t ht

theorem equal_does : ∀ a : Ty, a.fits → a.right = true → ∀ b : Ty, b.right = true → Does Tryd.prog 53 [.imm false (.agg a.cells), .imm false (.agg b.cells)] [] (.ret true (.bool (a.eqv b))) [] := by
  refine Ty.ind fun k ts ih hf ha b hb => ?_
  obtain ⟨k2, us⟩ := b
  refine does53 (by rfl) (by rfl) ?_
  (try simp (implicitDefEqProofs := false) only [go_sem, ↓reduceIte, Nat.reduceEqDiff, reduceCtorEq, Nat.reduceAdd, Nat.reduceSub, Nat.reduceLeDiff, Nat.reduceLT, Nat.reduceMul, Int.reduceToNat, Int.reduceLT, Int.reduceLE, Ty.cells, CondOn_imm, Ty.cellsL_len])
  refine ⟨fun h => ?_, fun h => ?_⟩
  · have h : k ≠ k2 := by simpa using h
    simp [Ty.eqv, h]
  have h : k = k2 := by simpa using h
  subst h
  have hpa := Ty.right_kids ha
  have hpb := Ty.right_kids hb
  have hlen : us.length = ts.length := by have := hpa.1; have := hpb.1; omega
  have e0 : (Ty.mk k ts).eqv (.mk k us) = Ty.eqvL ts us := by simp [Ty.eqv]
  refine ⟨fun m σ => ∃ j f g, j ≤ ts.length ∧ m = ts.length - j ∧ Ty.eqvL ts us = Ty.eqvL (ts.drop j) (us.drop j) ∧ σ = ⟨[(2, .imm f (.ptr (Ty.mk k ts).cells 0)), (3, .imm g (.ptr (Ty.mk k us).cells 0)), (13, .imm true (.int .i64 ts.length)), (14, .imm true (.int .i64 j))], [], []⟩, ⟨_, 0, _, _, by omega, rfl, rfl, rfl⟩, ?_⟩
  rintro m σ ⟨j, f, g, hj, rfl, hs, rfl⟩
  unfold l53_0
  (try simp (implicitDefEqProofs := false) only [go_sem, ↓reduceIte, Nat.reduceEqDiff, reduceCtorEq, Nat.reduceAdd, Nat.reduceSub, Nat.reduceLeDiff, Nat.reduceLT, Nat.reduceMul, Int.reduceToNat, Int.reduceLT, Int.reduceLE, CondOn_imm, Ty.cells])
  refine ⟨fun hlt => ?_, fun hlt => ?_⟩
  · have hlt : j < ts.length := by simpa using hlt
    have hfl : ts.length ≤ 9223372036854775807 := hf.1
    obtain ⟨k', ts', hm, hat, hdr, _⟩ := Ty.kid hlt
    obtain ⟨k3, us', hm2, hat2, hdr2, _⟩ := Ty.kid (ts := us) (j := j) (by omega)
    rw [hdr, hdr2, Ty.eqvL] at hs
    (try simp (implicitDefEqProofs := false) only [go_sem, ↓reduceIte, Nat.reduceEqDiff, reduceCtorEq, Nat.reduceAdd, Nat.reduceSub, Nat.reduceLeDiff, Nat.reduceLT, Nat.reduceMul, Int.reduceToNat, Int.reduceLT, Int.reduceLE, hat, hat2, Int.toNat_natCast, Int.natCast_nonneg])
    refine CallK_do (ih _ hm (Ty.fitsL_mem (by simpa [Ty.fits] using hf.2) _ hm) (Ty.rightL_mem hpa.2 _ hm) _ (Ty.rightL_mem hpb.2 _ hm2)) ?_
    (try simp (implicitDefEqProofs := false) only [go_sem, ↓reduceIte, Nat.reduceEqDiff, reduceCtorEq, Nat.reduceAdd, Nat.reduceSub, Nat.reduceLeDiff, Nat.reduceLT, Nat.reduceMul, Int.reduceToNat, Int.reduceLT, Int.reduceLE, CondOn_imm])
    refine ⟨fun hb => ?_, fun hb => ?_⟩
    · have hb : (Ty.mk k' ts').eqv (.mk k3 us') = false := by simpa using hb
      rw [e0, hs, hb]; simp
    · have hb : (Ty.mk k' ts').eqv (.mk k3 us') = true := by simpa using hb
      (try simp (implicitDefEqProofs := false) only [go_sem, ↓reduceIte, Nat.reduceEqDiff, reduceCtorEq, Nat.reduceAdd, Nat.reduceSub, Nat.reduceLeDiff, Nat.reduceLT, Nat.reduceMul, Int.reduceToNat, Int.reduceLT, Int.reduceLE, wrap64 (n := (j : Int) + 1) (by omega) (by omega)])
      exact ⟨_, by omega, j + 1, _, _, by omega, rfl, by rw [hs, hb, Bool.true_and], rfl⟩
  · have hge : j = ts.length := by have : ¬ j < ts.length := by simpa using hlt
                                   omega
    (try simp (implicitDefEqProofs := false) only [go_sem, ↓reduceIte, Nat.reduceEqDiff, reduceCtorEq, Nat.reduceAdd, Nat.reduceSub, Nat.reduceLeDiff, Nat.reduceLT, Nat.reduceMul, Int.reduceToNat, Int.reduceLT, Int.reduceLE])
    subst hge
    rw [e0, hs]; simp [Ty.eqvL]

theorem level_does : ∀ a : Ty, a.fits → a.right = true → ∀ b : Ty, b.right = true → Does Tryd.prog 19 [.imm false (.agg a.cells), .imm false (.agg b.cells)] [] (.ret true (.bool (a.lev b))) [] := by
  refine Ty.ind fun k ts ih hf ha b hb => ?_
  obtain ⟨k2, us⟩ := b
  refine does19 (by rfl) (by rfl) ?_
  (try simp (implicitDefEqProofs := false) only [go_sem, ↓reduceIte, Nat.reduceEqDiff, reduceCtorEq, Nat.reduceAdd, Nat.reduceSub, Nat.reduceLeDiff, Nat.reduceLT, Nat.reduceMul, Int.reduceToNat, Int.reduceLT, Int.reduceLE, Ty.cells, Ty.cellsL_len])
  by_cases h0 : k = 0
  · subst h0
    (try simp (implicitDefEqProofs := false) only [go_sem, ↓reduceIte, Nat.reduceEqDiff, reduceCtorEq, Nat.reduceAdd, Nat.reduceSub, Nat.reduceLeDiff, Nat.reduceLT, Nat.reduceMul, Int.reduceToNat, Int.reduceLT, Int.reduceLE, beq_self_eq_true])
    simp [Ty.lev]
  by_cases h1 : k2 = 0
  · subst h1
    (try simp (implicitDefEqProofs := false) only [go_sem, ↓reduceIte, Nat.reduceEqDiff, reduceCtorEq, Nat.reduceAdd, Nat.reduceSub, Nat.reduceLeDiff, Nat.reduceLT, Nat.reduceMul, Int.reduceToNat, Int.reduceLT, Int.reduceLE, beq_self_eq_true, show (k == 0) = false from by simpa using h0])
    simp [Ty.lev]
  (try simp (implicitDefEqProofs := false) only [go_sem, ↓reduceIte, Nat.reduceEqDiff, reduceCtorEq, Nat.reduceAdd, Nat.reduceSub, Nat.reduceLeDiff, Nat.reduceLT, Nat.reduceMul, Int.reduceToNat, Int.reduceLT, Int.reduceLE, show (k == 0) = false from by simpa using h0, show (k2 == 0) = false from by simpa using h1])
  (try simp (implicitDefEqProofs := false) only [go_sem, ↓reduceIte, Nat.reduceEqDiff, reduceCtorEq, Nat.reduceAdd, Nat.reduceSub, Nat.reduceLeDiff, Nat.reduceLT, Nat.reduceMul, Int.reduceToNat, Int.reduceLT, Int.reduceLE, CondOn_imm, Ty.cellsL_len])
  refine ⟨fun h => ?_, fun h => ?_⟩
  · have h : k ≠ k2 := by simpa using h
    simp [Ty.lev, h, h0, h1]
  have h : k = k2 := by simpa using h
  subst h
  have hpa := Ty.right_kids ha
  have hpb := Ty.right_kids hb
  have hlen : us.length = ts.length := by have := hpa.1; have := hpb.1; omega
  have e0 : (Ty.mk k ts).lev (.mk k us) = Ty.levL ts us := by simp [Ty.lev, h0]
  refine ⟨fun m σ => ∃ j f g, j ≤ ts.length ∧ m = ts.length - j ∧ Ty.levL ts us = Ty.levL (ts.drop j) (us.drop j) ∧ σ = ⟨[(2, .imm f (.ptr (Ty.mk k ts).cells 0)), (3, .imm g (.ptr (Ty.mk k us).cells 0)), (27, .imm true (.int .i64 ts.length)), (28, .imm true (.int .i64 j))], [], []⟩, ⟨_, 0, _, _, by omega, rfl, rfl, rfl⟩, ?_⟩
  rintro m σ ⟨j, f, g, hj, rfl, hs, rfl⟩
  unfold l19_0
  (try simp (implicitDefEqProofs := false) only [go_sem, ↓reduceIte, Nat.reduceEqDiff, reduceCtorEq, Nat.reduceAdd, Nat.reduceSub, Nat.reduceLeDiff, Nat.reduceLT, Nat.reduceMul, Int.reduceToNat, Int.reduceLT, Int.reduceLE, CondOn_imm, Ty.cells])
  refine ⟨fun hlt => ?_, fun hlt => ?_⟩
  · have hlt : j < ts.length := by simpa using hlt
    have hfl : ts.length ≤ 9223372036854775807 := hf.1
    obtain ⟨k', ts', hm, hat, hdr, _⟩ := Ty.kid hlt
    obtain ⟨k3, us', hm2, hat2, hdr2, _⟩ := Ty.kid (ts := us) (j := j) (by omega)
    rw [hdr, hdr2, Ty.levL] at hs
    (try simp (implicitDefEqProofs := false) only [go_sem, ↓reduceIte, Nat.reduceEqDiff, reduceCtorEq, Nat.reduceAdd, Nat.reduceSub, Nat.reduceLeDiff, Nat.reduceLT, Nat.reduceMul, Int.reduceToNat, Int.reduceLT, Int.reduceLE, hat, hat2, Int.toNat_natCast, Int.natCast_nonneg])
    refine CallK_do (ih _ hm (Ty.fitsL_mem (by simpa [Ty.fits] using hf.2) _ hm) (Ty.rightL_mem hpa.2 _ hm) _ (Ty.rightL_mem hpb.2 _ hm2)) ?_
    (try simp (implicitDefEqProofs := false) only [go_sem, ↓reduceIte, Nat.reduceEqDiff, reduceCtorEq, Nat.reduceAdd, Nat.reduceSub, Nat.reduceLeDiff, Nat.reduceLT, Nat.reduceMul, Int.reduceToNat, Int.reduceLT, Int.reduceLE, CondOn_imm])
    refine ⟨fun hb => ?_, fun hb => ?_⟩
    · have hb : (Ty.mk k' ts').lev (.mk k3 us') = false := by simpa using hb
      rw [e0, hs, hb]; simp
    · have hb : (Ty.mk k' ts').lev (.mk k3 us') = true := by simpa using hb
      (try simp (implicitDefEqProofs := false) only [go_sem, ↓reduceIte, Nat.reduceEqDiff, reduceCtorEq, Nat.reduceAdd, Nat.reduceSub, Nat.reduceLeDiff, Nat.reduceLT, Nat.reduceMul, Int.reduceToNat, Int.reduceLT, Int.reduceLE, wrap64 (n := (j : Int) + 1) (by omega) (by omega)])
      exact ⟨_, by omega, j + 1, _, _, by omega, rfl, by rw [hs, hb, Bool.true_and], rfl⟩
  · have hge : j = ts.length := by have : ¬ j < ts.length := by simpa using hlt
                                   omega
    (try simp (implicitDefEqProofs := false) only [go_sem, ↓reduceIte, Nat.reduceEqDiff, reduceCtorEq, Nat.reduceAdd, Nat.reduceSub, Nat.reduceLeDiff, Nat.reduceLT, Nat.reduceMul, Int.reduceToNat, Int.reduceLT, Int.reduceLE])
    subst hge
    rw [e0, hs]; simp [Ty.levL]

theorem check_zero {t : Ty} (h : t.check = 0) : t.nodes ≤ 8192 ∧ t.depth ≤ 200 ∧ t.right = true := by
  unfold Ty.check at h
  split at h
  · split at h
    · omega
    · split at h
      · rename_i h1 h2 h3; exact ⟨h1, by omega, h3⟩
      · omega
  · omega

theorem same_does (a b : Ty) (ha : a.fits) (hb : b.fits) : Does Tryd.prog 47 [.imm false (.agg a.cells), .imm false (.agg b.cells)] [] (.ret true (.bool (a.same b))) [] := by
  obtain ⟨k, ts⟩ := a
  obtain ⟨k2, us⟩ := b
  refine does47 (by rfl) (by rfl) ?_
  (try simp (implicitDefEqProofs := false) only [go_sem, ↓reduceIte, Nat.reduceEqDiff, reduceCtorEq, Nat.reduceAdd, Nat.reduceSub, Nat.reduceLeDiff, Nat.reduceLT, Nat.reduceMul, Int.reduceToNat, Int.reduceLT, Int.reduceLE, Ty.cells])
  refine CallK_do (check_does _ ha) ?_
  by_cases h1 : (Ty.mk k ts).check = 0
  · (try simp (implicitDefEqProofs := false) only [go_sem, ↓reduceIte, Nat.reduceEqDiff, reduceCtorEq, Nat.reduceAdd, Nat.reduceSub, Nat.reduceLeDiff, Nat.reduceLT, Nat.reduceMul, Int.reduceToNat, Int.reduceLT, Int.reduceLE, h1, beq_self_eq_true])
    refine CallK_do (check_does _ hb) ?_
    by_cases h2 : (Ty.mk k2 us).check = 0
    · (try simp (implicitDefEqProofs := false) only [go_sem, ↓reduceIte, Nat.reduceEqDiff, reduceCtorEq, Nat.reduceAdd, Nat.reduceSub, Nat.reduceLeDiff, Nat.reduceLT, Nat.reduceMul, Int.reduceToNat, Int.reduceLT, Int.reduceLE, h2, beq_self_eq_true])
      refine CallK_do (equal_does _ ha (check_zero h1).2.2 _ (check_zero h2).2.2) ?_
      (try simp (implicitDefEqProofs := false) only [go_sem, ↓reduceIte, Nat.reduceEqDiff, reduceCtorEq, Nat.reduceAdd, Nat.reduceSub, Nat.reduceLeDiff, Nat.reduceLT, Nat.reduceMul, Int.reduceToNat, Int.reduceLT, Int.reduceLE])
      simp [Ty.same, h1, h2]
    · (try simp (implicitDefEqProofs := false) only [go_sem, ↓reduceIte, Nat.reduceEqDiff, reduceCtorEq, Nat.reduceAdd, Nat.reduceSub, Nat.reduceLeDiff, Nat.reduceLT, Nat.reduceMul, Int.reduceToNat, Int.reduceLT, Int.reduceLE, show ((Ty.mk k2 us).check == 0) = false from by simpa using h2])
      simp [Ty.same, h1, h2]
  · (try simp (implicitDefEqProofs := false) only [go_sem, ↓reduceIte, Nat.reduceEqDiff, reduceCtorEq, Nat.reduceAdd, Nat.reduceSub, Nat.reduceLeDiff, Nat.reduceLT, Nat.reduceMul, Int.reduceToNat, Int.reduceLT, Int.reduceLE, show ((Ty.mk k ts).check == 0) = false from by simpa using h1])
    simp [Ty.same, h1]
theorem agree_does (a b : Ty) (ha : a.fits) (hb : b.fits) : Does Tryd.prog 10 [.imm false (.agg a.cells), .imm false (.agg b.cells)] [] (.ret true (.bool (a.agree b))) [] := by
  obtain ⟨k, ts⟩ := a
  obtain ⟨k2, us⟩ := b
  refine does10 (by rfl) (by rfl) ?_
  (try simp (implicitDefEqProofs := false) only [go_sem, ↓reduceIte, Nat.reduceEqDiff, reduceCtorEq, Nat.reduceAdd, Nat.reduceSub, Nat.reduceLeDiff, Nat.reduceLT, Nat.reduceMul, Int.reduceToNat, Int.reduceLT, Int.reduceLE, Ty.cells])
  refine CallK_do (check_does _ ha) ?_
  by_cases h1 : (Ty.mk k ts).check = 0
  · (try simp (implicitDefEqProofs := false) only [go_sem, ↓reduceIte, Nat.reduceEqDiff, reduceCtorEq, Nat.reduceAdd, Nat.reduceSub, Nat.reduceLeDiff, Nat.reduceLT, Nat.reduceMul, Int.reduceToNat, Int.reduceLT, Int.reduceLE, h1, beq_self_eq_true])
    refine CallK_do (check_does _ hb) ?_
    by_cases h2 : (Ty.mk k2 us).check = 0
    · (try simp (implicitDefEqProofs := false) only [go_sem, ↓reduceIte, Nat.reduceEqDiff, reduceCtorEq, Nat.reduceAdd, Nat.reduceSub, Nat.reduceLeDiff, Nat.reduceLT, Nat.reduceMul, Int.reduceToNat, Int.reduceLT, Int.reduceLE, h2, beq_self_eq_true])
      refine CallK_do (level_does _ ha (check_zero h1).2.2 _ (check_zero h2).2.2) ?_
      (try simp (implicitDefEqProofs := false) only [go_sem, ↓reduceIte, Nat.reduceEqDiff, reduceCtorEq, Nat.reduceAdd, Nat.reduceSub, Nat.reduceLeDiff, Nat.reduceLT, Nat.reduceMul, Int.reduceToNat, Int.reduceLT, Int.reduceLE])
      simp [Ty.agree, h1, h2]
    · (try simp (implicitDefEqProofs := false) only [go_sem, ↓reduceIte, Nat.reduceEqDiff, reduceCtorEq, Nat.reduceAdd, Nat.reduceSub, Nat.reduceLeDiff, Nat.reduceLT, Nat.reduceMul, Int.reduceToNat, Int.reduceLT, Int.reduceLE, show ((Ty.mk k2 us).check == 0) = false from by simpa using h2])
      simp [Ty.agree, h1, h2]
  · (try simp (implicitDefEqProofs := false) only [go_sem, ↓reduceIte, Nat.reduceEqDiff, reduceCtorEq, Nat.reduceAdd, Nat.reduceSub, Nat.reduceLeDiff, Nat.reduceLT, Nat.reduceMul, Int.reduceToNat, Int.reduceLT, Int.reduceLE, show ((Ty.mk k ts).check == 0) = false from by simpa using h1])
    simp [Ty.agree, h1]

def Ty.ground (t : Ty) : Ty × Bool := if t.check ≠ 0 ∨ t.k = 0 then (.mk 0 [], false) else (.mk t.k (List.replicate (partsF t.k).toNat (.mk 0 [])), true)
theorem cellsL_replicate : ∀ n : Nat, Ty.cellsL (List.replicate n (.mk 0 [])) = List.replicate n [.int .i8 0, .slice []]
  | 0 => rfl
  | n + 1 => by simp [List.replicate_succ, Ty.cellsL, Ty.cells, cellsL_replicate n]
theorem ground_does (t : Ty) (hf : t.fits) : Does Tryd.prog 20 [.imm false (.agg t.cells)] [] (.ret true (.tup [.agg t.ground.1.cells, .bool t.ground.2])) [] := by
  obtain ⟨k, ts⟩ := t
  by_cases h1 : (Ty.mk k ts).check = 0
  · by_cases h2 : k = 0
    · subst h2
      refine does20 (by rfl) (by rfl) ?_
      (try simp (implicitDefEqProofs := false) only [go_sem, ↓reduceIte, Nat.reduceEqDiff, reduceCtorEq, Nat.reduceAdd, Nat.reduceSub, Nat.reduceLeDiff, Nat.reduceLT, Nat.reduceMul, Int.reduceToNat, Int.reduceLT, Int.reduceLE, Ty.cells])
      refine CallK_do (check_does _ hf) ?_
      (try simp (implicitDefEqProofs := false) only [go_sem, ↓reduceIte, Nat.reduceEqDiff, reduceCtorEq, Nat.reduceAdd, Nat.reduceSub, Nat.reduceLeDiff, Nat.reduceLT, Nat.reduceMul, Int.reduceToNat, Int.reduceLT, Int.reduceLE, h1, beq_self_eq_true, bne_self_eq_false])
      simp [Ty.ground, Ty.k, Ty.cells, Ty.cellsL]
    · have hp := Ty.right_kids (check_zero h1).2.2
      have hp2 : partsF k = 0 ∨ partsF k = 2 := by
        have := hp.1
        unfold partsF at this ⊢
        split
        · exact .inl rfl
        · split
          · exact .inr rfl
          · rename_i e1 e2; rw [if_neg e1, if_neg e2] at this; omega
      refine does20 (by rfl) (by rfl) ?_
      (try simp (implicitDefEqProofs := false) only [go_sem, ↓reduceIte, Nat.reduceEqDiff, reduceCtorEq, Nat.reduceAdd, Nat.reduceSub, Nat.reduceLeDiff, Nat.reduceLT, Nat.reduceMul, Int.reduceToNat, Int.reduceLT, Int.reduceLE, Ty.cells])
      refine CallK_do (check_does _ hf) ?_
      (try simp (implicitDefEqProofs := false) only [go_sem, ↓reduceIte, Nat.reduceEqDiff, reduceCtorEq, Nat.reduceAdd, Nat.reduceSub, Nat.reduceLeDiff, Nat.reduceLT, Nat.reduceMul, Int.reduceToNat, Int.reduceLT, Int.reduceLE, h1, beq_self_eq_true, bne_self_eq_false, show (k == 0) = false from by simpa using h2])
      refine CallK_do (parts_does k false) ?_
      rcases hp2 with hp2 | hp2
      · (try simp (implicitDefEqProofs := false) only [go_sem, ↓reduceIte, Nat.reduceEqDiff, reduceCtorEq, Nat.reduceAdd, Nat.reduceSub, Nat.reduceLeDiff, Nat.reduceLT, Nat.reduceMul, Int.reduceToNat, Int.reduceLT, Int.reduceLE, hp2, List.replicate, resL])
        simp [Ty.ground, Ty.k, Ty.cells, h1, h2, hp2, Ty.cellsL]
      · (try simp (implicitDefEqProofs := false) only [go_sem, ↓reduceIte, Nat.reduceEqDiff, reduceCtorEq, Nat.reduceAdd, Nat.reduceSub, Nat.reduceLeDiff, Nat.reduceLT, Nat.reduceMul, Int.reduceToNat, Int.reduceLT, Int.reduceLE, hp2, List.replicate, resL])
        simp [Ty.ground, Ty.k, Ty.cells, h1, h2, hp2, Ty.cellsL, List.replicate]
  · refine does20 (by rfl) (by rfl) ?_
    (try simp (implicitDefEqProofs := false) only [go_sem, ↓reduceIte, Nat.reduceEqDiff, reduceCtorEq, Nat.reduceAdd, Nat.reduceSub, Nat.reduceLeDiff, Nat.reduceLT, Nat.reduceMul, Int.reduceToNat, Int.reduceLT, Int.reduceLE, Ty.cells])
    refine CallK_do (check_does _ hf) ?_
    (try simp (implicitDefEqProofs := false) only [go_sem, ↓reduceIte, Nat.reduceEqDiff, reduceCtorEq, Nat.reduceAdd, Nat.reduceSub, Nat.reduceLeDiff, Nat.reduceLT, Nat.reduceMul, Int.reduceToNat, Int.reduceLT, Int.reduceLE, show ((Ty.mk k ts).check != 0) = true from by simpa using h1])
    simp [Ty.ground, Ty.k, Ty.cells, Ty.cellsL, h1]
end Go.Proofs.YtopgmopdjiahmaaDoor.Lg
