/- Code as a whole. Conditions: none; plain definitions and lemmas. -/
import Derived.Test.YtopgmopdjiahmaaDoorLo
set_option linter.unusedVariables false
set_option linter.unusedSimpArgs false
set_option linter.unusedSectionVars false
namespace Go.Proofs.YtopgmopdjiahmaaDoor.Lg
open Go Go.RowKit

/-! ### What is kept behind a group: temporaries, own boxes -/
def argsOf : List (Key × Box) → List (Key × Box)
  | [] => []
  | (.arg i, b) :: r => (.arg i, b) :: argsOf r
  | (.own _, _) :: r => argsOf r
def ownsOf (s : List (Key × Box)) : List Nat → List (Key × Box)
  | [] => []
  | d :: r => match getB s (.own d) with
    | some b => (.own d, b) :: ownsOf s r
    | none => ownsOf s r
def keepS (s : List (Key × Box)) (l : List Nat) : List (Key × Box) := argsOf s ++ ownsOf s l
def keepZ (z : List Key) : List Nat → List Key
  | [] => []
  | d :: r => if .own d ∈ z then .own d :: keepZ z r else keepZ z r
theorem getB_argsOf (s : List (Key × Box)) (k : Key) : getB (argsOf s) k = match k with | .arg _ => getB s k | .own _ => none := by
  induction s with
  | nil => cases k <;> rfl
  | cons x s ih =>
    obtain ⟨k', b⟩ := x
    cases k' with
    | arg i =>
      cases k with
      | arg j =>
        simp only [argsOf, getB]
        split
        · rfl
        · exact ih
      | own t => simp only [argsOf, getB]; simpa using ih
    | own u =>
      cases k with
      | arg j => simp only [argsOf, getB]; simpa using ih
      | own t => simp only [argsOf]; exact ih
theorem getB_ownsOf (s : List (Key × Box)) : ∀ (l : List Nat) (k : Key) (b : Box), getB (ownsOf s l) k = some b → getB s k = some b ∧ ∃ d ∈ l, k = .own d
  | [], k, b, h => by simp [ownsOf, getB] at h
  | d :: r, k, b, h => by
    simp only [ownsOf] at h
    split at h
    · rename_i b' hb
      simp only [getB] at h
      split at h
      · rename_i he
        simp only [Option.some.injEq] at h; subst h; subst he
        exact ⟨hb, d, List.mem_cons_self, rfl⟩
      · obtain ⟨h1, d', h2, h3⟩ := getB_ownsOf s r k b h
        exact ⟨h1, d', List.mem_cons_of_mem _ h2, h3⟩
    · obtain ⟨h1, d', h2, h3⟩ := getB_ownsOf s r k b h
      exact ⟨h1, d', List.mem_cons_of_mem _ h2, h3⟩
theorem getB_append (s s' : List (Key × Box)) (k : Key) : getB (s ++ s') k = match getB s k with | some b => some b | none => getB s' k := by
  induction s with
  | nil => rfl
  | cons x s ih =>
    obtain ⟨k', b⟩ := x
    simp only [List.cons_append, getB]
    split
    · rfl
    · exact ih
theorem getB_keepS {s : List (Key × Box)} {l : List Nat} {k : Key} {b : Box} (h : getB (keepS s l) k = some b) : getB s k = some b ∧ ((∃ i, k = .arg i) ∨ ∃ d ∈ l, k = .own d) := by
  unfold keepS at h
  rw [getB_append, getB_argsOf] at h
  cases k with
  | arg i =>
    simp only at h
    split at h
    · rename_i b' hb
      simp only [Option.some.injEq] at h; subst h
      exact ⟨hb, .inl ⟨i, rfl⟩⟩
    · obtain ⟨_, d, _, hd⟩ := getB_ownsOf s l _ b h
      cases hd
  | own t =>
    obtain ⟨h1, h2⟩ := getB_ownsOf s l _ b h
    exact ⟨h1, .inr h2⟩
theorem mem_keepZ (z : List Key) : ∀ (l : List Nat) (k : Key), k ∈ keepZ z l ↔ k ∈ z ∧ ∃ d ∈ l, k = .own d
  | [], k => by simp [keepZ]
  | d :: r, k => by
    simp only [keepZ]
    split
    · rename_i h
      rw [List.mem_cons, mem_keepZ z r k]
      constructor
      · rintro (rfl | ⟨h1, d', h2, h3⟩)
        · exact ⟨h, d, List.mem_cons_self, rfl⟩
        · exact ⟨h1, d', List.mem_cons_of_mem _ h2, h3⟩
      · rintro ⟨h1, d', h2, h3⟩
        rcases List.mem_cons.1 h2 with rfl | h2
        · exact .inl h3
        · exact .inr ⟨h1, d', h2, h3⟩
    · rename_i h
      rw [mem_keepZ z r k]
      constructor
      · rintro ⟨h1, d', h2, h3⟩
        exact ⟨h1, d', List.mem_cons_of_mem _ h2, h3⟩
      · rintro ⟨h1, d', h2, h3⟩
        rcases List.mem_cons.1 h2 with rfl | h2
        · subst h3; exact absurd h1 h
        · exact ⟨h1, d', h2, h3⟩
theorem Inv.keepS {cx : Cx} {σ : St} {M : Pl} {a : Act} {w : World} (h : Inv cx σ M a w) (l : List Nat) : Inv cx ⟨σ.e, Lg.keepS σ.s l, keepZ σ.z l⟩ M a w := by
  have live : ∀ k, (getB (Lg.keepS σ.s l) k).isSome = true → (getB σ.s k).isSome = true ∧ ((∃ i, k = .arg i) ∨ ∃ d ∈ l, k = .own d) := fun k hk => by
    obtain ⟨b, hb⟩ := Option.isSome_iff_exists.1 hk
    obtain ⟨h1, h2⟩ := getB_keepS hb
    exact ⟨by simp [h1], h2⟩
  have hN : ∀ b, NS cx σ.s σ.z M w b → NS cx (Lg.keepS σ.s l) (keepZ σ.z l) M w b := fun b hb => ⟨hb.1, hb.2.1, fun k c hk hz hM => by
    obtain ⟨h1, h2⟩ := live k hk
    refine hb.2.2 k c h1 (fun hc => ?_) hM
    rcases h2 with ⟨i, rfl⟩ | h2
    · exact h.argz i hc
    · exact hz ((mem_keepZ _ _ _).2 ⟨hc, h2⟩)⟩
  have up : ∀ v x, RR cx σ.s σ.z M w v x → RR cx (Lg.keepS σ.s l) (keepZ σ.z l) M w v x := fun v x hx => RR.up hN (fun _ _ h => h) (fun _ _ => rfl) hx
  exact { os := h.os, tape := h.tape, output := h.output, size := h.size, frame := h.frame, argM := h.argM, defers := h.defers
          gho := gho_up h.gho (Nat.le_refl _) hN (fun _ _ => rfl)
          plc := fun k hk => h.plc k (live k hk).1
          box := fun k b pl hk hM => (h.box k b pl (getB_keepS hk).1 hM).up up rfl
          own := fun t pl ht hp => h.own t pl (live _ ht).1 hp
          arg := fun i hi => h.arg i (live _ hi).1
          argz := fun i hi => h.argz i ((mem_keepZ _ _ _).1 hi).1
          inj := fun k k' b c c' hk hk' => h.inj k k' b c c' (live _ hk).1 (live _ hk').1
          env := fun t => up _ _ (h.env t) }

inductive MC where
  | skip
  | reg (ms : List MG) (dr : Option (List (Nat × Nat))) (kp : Option (List Nat × List Nat))
  | seq (a b : MC)
  | cond (c : Opd) (x y : MC)
  | block (id : Nat) (b : MC)
  | loop (b : MC)
  | exit (id : Nat)
  | ret

structure Tb where
  anc : List (Nat × List (List Nat) × List (Nat × Nat))
  kp : List (Nat × List Nat × List Nat)

def findT {α : Type} : List (Nat × α) → Nat → Option α
  | [], _ => none
  | (d, l) :: r, n => if d = n then some l else findT r n
def nodupB : List Nat → Bool
  | [] => true
  | a :: r => !(r.contains a) && nodupB r
theorem nodupB_spec : ∀ {l : List Nat}, nodupB l = true → l.Nodup
  | [], _ => List.nodup_nil
  | a :: r, h => by
    simp only [nodupB, Bool.and_eq_true, Bool.not_eq_true'] at h
    refine List.nodup_cons.2 ⟨fun hc => ?_, nodupB_spec h.2⟩
    have := h.1
    simp [hc] at this

def trC (P : Program) (H : Hints) (tb : Tb) (n : Nat) : Code → Option MC
  | .skip => some .skip
  | .region id ops draw => match trGs P H ops n ops.toList with
    | some ms => if nodupB (dsts ms) = true then
        if draw then match findT tb.anc id with
          | some (anc, pr) => if drawOk ops ms anc pr = true then some (.reg ms (some pr) (findT tb.kp id)) else none
          | none => none
        else some (.reg ms none (findT tb.kp id))
      else none
    | none => none
  | .seq a b => match trC P H tb n a, trC P H tb n b with
    | some a, some b => some (.seq a b)
    | _, _ => none
  | .cond c x y => match trX c, trC P H tb n x, trC P H tb n y with
    | some c, some x, some y => some (.cond c x y)
    | _, _, _ => none
  | .block id b => match trC P H tb n b with
    | some b => some (.block id b)
    | none => none
  | .loop b => match trC P H tb n b with
    | some b => some (.loop b)
    | none => none
  | .exit id => some (.exit id)
  | .ret => some .ret
  | _ => none

inductive AEx where
  | normal
  | exit (id : Nat)
  | ret
  | pan (t : TypeId)

def AEx.calm : AEx → Bool
  | .pan _ => false
  | _ => true
def Then (K : St → Prop) (Q : AEx → St → Prop) : AEx → St → Prop
  | .normal, σ => K σ
  | e, σ => Q e σ
def InB (id : Nat) (Q : AEx → St → Prop) : AEx → St → Prop
  | .exit j, σ => if j = id then Q .normal σ else Q (.exit j) σ
  | e, σ => Q e σ
def newsL (ms : List MG) : List Nat := ms.filterMap fun m => m.o.news
def St.keep (σ : St) : Option (List Nat × List Nat) → St
  | none => σ
  | some (l, k) => ⟨keepE σ.e l, keepS σ.s k, keepZ σ.z k⟩
def KReg (kp : Option (List Nat × List Nat)) (Q : AEx → St → Prop) (σ : St) (_ : List Eff) : Prop := Q .normal (σ.keep kp)
def KDraw (pr : List (Nat × Nat)) (kp : Option (List Nat × List Nat)) (Q : AEx → St → Prop) (σ : St) (es : List Eff) : Prop := dynOk es pr = true ∧ Q .normal (σ.keep kp)
def KPan (Q : AEx → St → Prop) (t : TypeId) (σ : St) : Prop := Q (.pan t) σ
def KNo (_ : TypeId) (_ : St) : Prop := False

def awp (P : Program) : MC → (AEx → St → Prop) → St → Prop
  | .skip, Q, σ => Q .normal σ
  | .reg ms dr kp, Q, σ => match σ.prep (newsL ms) with
    | some σ => match dr with
      | none => awpOps P ms σ [] (KReg kp Q) (KPan Q)
      | some pr => awpOps P ms σ [] (KDraw pr kp Q) KNo
    | none => False
  | .seq a b, Q, σ => awp P a (Then (awp P b Q) Q) σ
  | .cond c x y, Q, σ => match σ.ev c with
    | .imm _ (.bool t) => (t = true → awp P x Q σ) ∧ (t = false → awp P y Q σ)
    | _ => False
  | .block id b, Q, σ => awp P b (InB id Q) σ
  | .loop b, Q, σ => ∃ I : Nat → St → Prop, (∃ n, I n σ) ∧ ∀ n σ, I n σ → awp P b (Then (fun σ' => ∃ n', n' < n ∧ I n' σ') Q) σ
  | .exit id, Q, σ => Q (.exit id) σ
  | .ret, Q, σ => Q .ret σ

def toX : AEx → Exit
  | .normal => .normal
  | .exit id => .exit id
  | .ret => .ret
  | .pan t => .panic [{ v := .iface t (.agg #[]), recovered := false }]

section
variable {P : Program} {cx : Cx} {H : Hints} {tb : Tb} {n : Nat}

theorem Chain.at {ms : List MG} {Es : Nat → Eff} : ∀ {l : List Nat} {σ : St}, Chain P ms Es l σ → ∀ i ∈ l, ∃ σ' m, ms[i]? = some m ∧ SatG P σ' m (Es i) none
  | [], _, _, i, hi => by cases hi
  | j :: r, σ, h, i, hi => by
    rcases List.mem_cons.1 hi with rfl | hi
    · obtain ⟨⟨m, hm, hs⟩, _⟩ := h; exact ⟨σ, m, hm, hs⟩
    · exact Chain.at h.2 i hi

theorem reg_sound (hm : P.follows .mixedOrders = true) {id : Nat} {ops : Array Oper} {draw : Bool} {ms : List MG} {dr : Option (List (Nat × Nat))} {kp : Option (List Nat × List Nat)} (hms : trGs P H ops n ops.toList = some ms) (hnd : (dsts ms).Nodup)
    (hdr : (draw = false ∧ dr = none) ∨ ∃ anc pr, draw = true ∧ dr = some pr ∧ drawOk ops ms anc pr = true)
    {Q : AEx → St → Prop} {QA : Exit → Act → World → Prop} (hQ : ∀ e σ M a w, Q e σ → Inv cx σ M a w → (e.calm = true → a.tmps.size = n) → QA (toX e) a w)
    {σ : St} {M : Pl} {a : Act} {w : World} (h : awp P (.reg ms dr kp) Q σ) (hI : Inv cx σ M a w) (hn : a.tmps.size = n) : (Code.region id ops draw).wp P QA a w := by
  obtain ⟨hlen, hspec⟩ := trGs_spec hms
  have hlen' : ms.length = ops.size := by simpa using hlen
  have htr : ∀ (i : Nat) (o : Oper), ops[i]? = some o → ∃ m : MG, ms[i]? = some m ∧ trG P H ops o = some m ∧ m.o.dst = o.dst ∧ ∀ d, o.dst = some d → d < n := by
    intro i o ho
    have hi : i < ops.size := (Array.getElem?_eq_some_iff.1 ho).1
    have hi' : i < ms.length := by omega
    obtain ⟨h1, h2, h3⟩ := hspec i (by simpa using hi) hi'
    have e : ops.toList[i]'(by simpa using hi) = o := by
      have := (Array.getElem?_eq_some_iff.1 ho).2
      simpa using this
    rw [e] at h1 h2 h3
    exact ⟨ms[i], List.getElem?_eq_getElem hi', h1, h3, fun d hd => (h2 d hd).1⟩
  have hlt : ∀ d ∈ newsL ms, d < 1000 := by
    intro d hd
    obtain ⟨m, hmem, hnew⟩ := List.mem_filterMap.1 hd
    obtain ⟨i, hi, rfl⟩ := List.mem_iff_getElem.1 hmem
    obtain ⟨_, h2, h3⟩ := hspec i (by omega) hi
    have := news_dst hnew
    rw [h3] at this
    exact (h2 d this).2
  simp only [awp] at h
  split at h
  · rename_i σ1 hp
    -- the renamed beginning
    have hpre : ∃ M1, Inv cx σ1 M1 a w ∧ ∀ d ∈ newsL ms, M1 (.own d) = none := by
      by_cases hD : newsL ms = []
      · rw [hD] at hp
        simp only [St.prep, Option.some.injEq] at hp
        subst hp
        exact ⟨M, hI, by rw [hD]; intro d hd; cases hd⟩
      · exact ⟨renM (newsL ms) M, hI.prep hlt hp hD, fun d hd => renM_free hd⟩
    obtain ⟨M1, hI1, hfree⟩ := hpre
    have hfree' : ∀ (j : Nat) (m : MG) (d : Nat), ms[j]? = some m → m.o.news = some d → M1 (.own d) = none := fun j m d h1 h2 => hfree d (List.mem_filterMap.2 ⟨m, List.mem_of_getElem? h1, h2⟩)
    have hkeep : ∀ σ' M a w, Inv cx σ' M a w → Inv cx (σ'.keep kp) M a w := fun σ' M a w hI => by
      cases kp with
      | none => exact hI
      | some p => exact (hI.keep p.1).keepS p.2
    rcases hdr with ⟨rfl, rfl⟩ | ⟨anc, pr, rfl, rfl, hdo⟩
    · refine wp_region ?_
      have e : List.range ops.size = List.range' 0 ms.length := by rw [hlen', List.range_eq_range']
      rw [e]
      exact seq_sound htr hlen' hnd (fun σ' es M' a' w' hk hI' hn' => hQ .normal _ M' a' w' hk (hkeep _ _ _ _ hI') fun _ => hn') (fun t σ' M' a' w' hk hI' => hQ (.pan t) σ' M' a' w' hk hI' fun hc => nomatch hc)
        ms 0 σ1 [] M1 a w rfl h hI1 hn (fun j m d _ h1 h2 => hfree' j m d h1 h2)
    · refine wp_region_any hm ?_
      obtain ⟨es, h1, _, hch, hdyn, hK⟩ := chain_of_awp (P := P) (ms := ms) ms 0 σ1 [] rfl rfl h
      have hel : es.length = ops.size := by omega
      have hch' : Chain P ms (fun i => es.getD i (undefEff (.pan (.t 0)))) (List.range ops.size) σ1 := by
        rw [List.range_eq_range', ← hlen']; exact hch
      refine any_sound htr hdo hnd hel hdyn ops.size (List.range ops.size) _ σ1 M1 a _ (by simp) List.pairwise_lt_range (fun i => ?_) (by simp) (fun i o ho hl => ?_) hch' hI1.drew hn (fun i _ m d h1 h2 => hfree' i m d h1 h2) (fun i hi m hm' hw => ?_) (fun σ' M' a' w' hs hI' hn' => ?_)
      · constructor
        · intro hi
          have hi : i < ops.size := List.mem_range.1 hi
          exact ⟨hi, by simp [hi]⟩
        · rintro ⟨hi, _⟩
          exact List.mem_range.2 hi
      · have hi : i < ops.size := (Array.getElem?_eq_some_iff.1 ho).1
        simp [hi] at hl
      · obtain ⟨σ2, m2, hm2, hs2⟩ := hch'.at i hi
        rw [hm'] at hm2
        simp only [Option.some.injEq] at hm2; subst hm2
        exact hs2.wr hw
      · refine hQ .normal _ M' a' w' hK (hkeep _ _ _ _ ?_) fun _ => hn'
        refine hI'.same ?_
        have e : fin (fun j => es.getD j dfltEff) (List.range' 0 ms.length) σ1 = fin (fun i => es.getD i (undefEff (.pan (.t 0)))) (List.range ops.size) σ1 := by
          rw [List.range_eq_range', ← hlen']; rfl
        rw [e]
        exact hs.symm
  · cases h

theorem awp_sound (hm : P.follows .mixedOrders = true) : ∀ (c : Code) (mc : MC), trC P H tb n c = some mc → ∀ (Q : AEx → St → Prop) (QA : Exit → Act → World → Prop), (∀ e σ M a w, Q e σ → Inv cx σ M a w → (e.calm = true → a.tmps.size = n) → QA (toX e) a w) →
    ∀ (σ : St) (M : Pl) (a : Act) (w : World), awp P mc Q σ → Inv cx σ M a w → a.tmps.size = n → c.wp P QA a w := by
  intro c
  induction c with
  | skip =>
    intro mc htr Q QA hQ σ M a w h hI hn
    simp only [trC, Option.some.injEq] at htr; subst htr
    exact wp_skip (hQ .normal σ M a w h hI fun _ => hn)
  | region id ops draw =>
    intro mc htr Q QA hQ σ M a w h hI hn
    simp only [trC] at htr
    split at htr
    · rename_i ms hms
      split at htr
      · rename_i hnd
        split at htr
        · rename_i hdraw
          split at htr
          · rename_i anc pr hf
            split at htr
            · rename_i hdo
              simp only [Option.some.injEq] at htr; subst htr
              exact reg_sound hm hms (nodupB_spec hnd) (.inr ⟨anc, pr, hdraw, rfl, hdo⟩) hQ h hI hn
            · cases htr
          · cases htr
        · rename_i hdraw
          simp only [Option.some.injEq] at htr; subst htr
          exact reg_sound hm hms (nodupB_spec hnd) (.inl ⟨by simpa using hdraw, rfl⟩) hQ h hI hn
      · cases htr
    · cases htr
  | seq x y ihx ihy =>
    intro mc htr Q QA hQ σ M a w h hI hn
    simp only [trC] at htr
    split at htr
    · rename_i mx my hx hy
      simp only [Option.some.injEq] at htr; subst htr
      refine wp_seq (ihx mx hx (Then (awp P my Q) Q) _ (fun e σ' M' a' w' hq hI' hn' => ?_) σ M a w h hI hn)
      cases e with
      | normal => exact ihy my hy Q QA hQ σ' M' a' w' hq hI' (hn' rfl)
      | exit id => exact hQ (.exit id) σ' M' a' w' hq hI' hn'
      | ret => exact hQ .ret σ' M' a' w' hq hI' hn'
      | pan t => exact hQ (.pan t) σ' M' a' w' hq hI' hn'
    · cases htr
  | cond c x y ihx ihy =>
    intro mc htr Q QA hQ σ M a w h hI hn
    simp only [trC] at htr
    split at htr
    · rename_i mo mx my hc hx hy
      simp only [Option.some.injEq] at htr; subst htr
      simp only [awp] at h
      split at h
      · rename_i f t hev
        have hR := trX_rep hI hc
        rw [hev] at hR
        have hv := hR.bool_inv
        exact wp_cond_split hv (fun ht => ihx mx hx Q QA hQ σ M a w (h.1 ht) hI hn) (fun ht => ihy my hy Q QA hQ σ M a w (h.2 ht) hI hn)
      · cases h
    · cases htr
  | block id b ih =>
    intro mc htr Q QA hQ σ M a w h hI hn
    simp only [trC] at htr
    split at htr
    · rename_i mb hb
      simp only [Option.some.injEq] at htr; subst htr
      refine wp_block (ih mb hb (InB id Q) _ (fun e σ' M' a' w' hq hI' hn' => ?_) σ M a w h hI hn)
      cases e with
      | normal => exact hQ .normal σ' M' a' w' hq hI' hn'
      | exit j =>
        simp only [InB] at hq
        simp only [toX, Exit.inBlock]
        split at hq
        · rename_i he
          rw [if_pos he]
          exact hQ .normal σ' M' a' w' hq hI' fun _ => hn' rfl
        · rename_i he
          rw [if_neg he]
          exact hQ (.exit j) σ' M' a' w' hq hI' hn'
      | ret => exact hQ .ret σ' M' a' w' hq hI' hn'
      | pan t => exact hQ (.pan t) σ' M' a' w' hq hI' hn'
    · cases htr
  | loop b ih =>
    intro mc htr Q QA hQ σ M a w h hI hn
    simp only [trC] at htr
    split at htr
    · rename_i mb hb
      simp only [Option.some.injEq] at htr; subst htr
      obtain ⟨I, ⟨k, hk⟩, hround⟩ := h
      refine wp_loop_ghost (fun k a w => ∃ σ M, I k σ ∧ Inv cx σ M a w ∧ a.tmps.size = n) k ⟨σ, M, hk, hI, hn⟩ fun k a w hJ => ?_
      obtain ⟨σ, M, hk, hI, hn⟩ := hJ
      refine ih mb hb _ _ (fun e σ' M' a' w' hq hI' hn' => ?_) σ M a w (hround k σ hk) hI hn
      cases e with
      | normal =>
        obtain ⟨k', hlt, hk'⟩ := hq
        exact ⟨k', hlt, σ', M', hk', hI', hn' rfl⟩
      | exit id => exact hQ (.exit id) σ' M' a' w' hq hI' hn'
      | ret => exact hQ .ret σ' M' a' w' hq hI' hn'
      | pan t => exact hQ (.pan t) σ' M' a' w' hq hI' hn'
    · cases htr
  | exit id =>
    intro mc htr Q QA hQ σ M a w h hI hn
    simp only [trC, Option.some.injEq] at htr; subst htr
    exact wp_exit (hQ (.exit id) σ M a w h hI fun _ => hn)
  | ret =>
    intro mc htr Q QA hQ σ M a w h hI hn
    simp only [trC, Option.some.injEq] at htr; subst htr
    exact wp_ret (hQ .ret σ M a w h hI fun _ => hn)
  | rangeFunc f ps x y _ _ => intro mc htr; simp [trC] at htr
  | scope b _ => intro mc htr; simp [trC] at htr
  | label l => intro mc htr; simp [trC] at htr
  | goto l => intro mc htr; simp [trC] at htr
  | refuse s => intro mc htr; simp [trC] at htr
end
end Go.Proofs.YtopgmopdjiahmaaDoor.Lg
