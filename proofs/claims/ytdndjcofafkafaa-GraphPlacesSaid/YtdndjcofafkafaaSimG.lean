/- Regions that draw their order, the last part: what the text's order shows is what any order asks. Nothing is claimed of the program here; no condition. -/
import Derived.Test.YtdndjcofafkafaaSimF
namespace Go.Proofs.Ytdndjcofafkafaa.Sim
set_option linter.unusedVariables false
set_option linter.unusedSimpArgs false
open Go Go.RowKit

theorem Tr.get_delF {α : Type} (f : Nat) : ∀ (t : Tr α) (n m : Nat), n < f → (Tr.delF f t n).get m = if m = n then none else t.get m := by
  induction f with
  | zero => intro t n m h; omega
  | succ f ih =>
    intro t n m h
    cases t with
    | nil => simp only [Tr.delF, Tr.get]; split <;> rfl
    | node l v r =>
      simp only [Tr.delF]
      rw [Tr.get_eq (.node l v r) m]
      by_cases hn : n = 0
      · subst hn
        rw [Tr.get_eq]
        simp only [Nat.beq, cond_true, Tr.left, Tr.right, Tr.top]
        by_cases hm : m = 0 <;> simp [hm]
      · rw [nbf hn, cond_false, Tr.get_eq]
        have hlt : (n - 1) / 2 < f := by omega
        by_cases hp : n % 2 = 1
        · rw [hp]
          simp only [Nat.beq, cond_true, Tr.left, Tr.right, Tr.top]
          rw [ih _ _ _ hlt]
          by_cases hm : m = 0
          · subst hm; rw [if_pos rfl, if_pos rfl, if_neg (by omega)]
          · rw [if_neg hm, if_neg hm]
            by_cases hq : m % 2 = 1
            · rw [if_pos hq, if_pos hq]
              by_cases he : m = n
              · subst he; simp
              · rw [if_neg he, if_neg (by omega)]
            · rw [if_neg hq, if_neg hq, if_neg (by intro e; subst e; exact hq hp)]
        · rw [nbf hp]
          simp only [cond_false, Tr.left, Tr.right, Tr.top]
          rw [ih _ _ _ hlt]
          by_cases hm : m = 0
          · subst hm; rw [if_pos rfl, if_pos rfl, if_neg (by omega)]
          · rw [if_neg hm, if_neg hm]
            by_cases hq : m % 2 = 1
            · rw [if_pos hq, if_pos hq, if_neg (by intro e; subst e; exact hp hq)]
            · rw [if_neg hq, if_neg hq]
              by_cases he : m = n
              · subst he; simp
              · rw [if_neg he, if_neg (by omega)]

theorem Tr.get_del {α : Type} (t : Tr α) (n m : Nat) : (t.del n).get m = if m = n then none else t.get m := Tr.get_delF _ _ _ _ (Nat.lt_succ_self _)

theorem inL_mem {b : Nat} : ∀ {l : List Nat}, inL b l = true ↔ b ∈ l := by
  intro l
  induction l with
  | nil => simp [inL]
  | cons c l ih =>
    simp only [inL, Bool.or_eq_true, List.mem_cons, ih]
    constructor
    · rintro (h | h)
      · exact .inl (Nat.eq_of_beq_eq_true h)
      · exact .inr h
    · rintro (rfl | h)
      · exact .inl (Nat.beq_refl b)
      · exact .inr h

theorem layL_get (F H : Tr AObj) (b : Nat) : ∀ L : List Nat, (layL F H L).get b = if b ∈ L then F.get b else H.get b := by
  intro L
  induction L with
  | nil => simp [layL]
  | cons c l ih =>
    simp only [layL, List.mem_cons]
    cases hc : F.get c with
    | some o =>
      simp only
      rw [Tr.get_put]
      by_cases h : b = c
      · subst h; rw [if_pos rfl, if_pos (.inl rfl), hc]
      · rw [if_neg h, ih]; simp [h]
    | none =>
      simp only
      rw [Tr.get_del]
      by_cases h : b = c
      · subst h; rw [if_pos rfl, if_pos (.inl rfl), hc]
      · rw [if_neg h, ih]; simp [h]

theorem delL_get (H : Tr AObj) (b : Nat) : ∀ L : List Nat, (delL H L).get b = if b ∈ L then none else H.get b := by
  intro L
  induction L with
  | nil => simp [delL]
  | cons c l ih =>
    simp only [delL, List.mem_cons]
    rw [Tr.get_del]
    by_cases h : b = c
    · subst h; rw [if_pos rfl, if_pos (.inl rfl)]
    · rw [if_neg h, ih]; simp [h]

theorem spanL_mem {b : Nat} : ∀ (n lo : Nat), b ∈ spanL n lo ↔ lo ≤ b ∧ b < lo + n := by
  intro n
  induction n with
  | zero => intro lo; simp [spanL]
  | succ n ih => intro lo; simp only [spanL, List.mem_cons, ih]; omega

theorem csame {a b : Cap} (h : Cap.same a b = true) : a = b := by
  cases a <;> cases b <;> simp only [Cap.same, Bool.and_eq_true, reduceCtorEq] at h
  · rw [Nat.eq_of_beq_eq_true h]
  · rw [Nat.eq_of_beq_eq_true h.1, Nat.eq_of_beq_eq_true h.2]
  · rfl

theorem rsame {a b : Ref} (h : Ref.same a b = true) : a = b := by
  obtain ⟨a1, a2, a3⟩ := a
  obtain ⟨b1, b2, b3⟩ := b
  simp only [Ref.same, Bool.and_eq_true] at h
  rw [Nat.eq_of_beq_eq_true h.1.1, Nat.eq_of_beq_eq_true h.1.2, Nat.eq_of_beq_eq_true h.2]

theorem fsame {a b : AV} (h : sameFlat a b = true) : a = b := by
  cases a <;> cases b <;> simp only [sameFlat, Bool.and_eq_true, reduceCtorEq] at h
  · simp only [beq_iff_eq] at h; rw [h]
  · rw [ksame h.1, of_decide_eq_true h.2]
  · rw [ksame h.1, Nat.eq_of_beq_eq_true h.2]
  · rw [of_decide_eq_true h]
  · rfl
  · rw [rsame h]
  · rfl
  · rw [rsame h.1.1, Nat.eq_of_beq_eq_true h.1.2, csame h.2]
  · rfl
  · rw [Nat.eq_of_beq_eq_true h]
  · rfl
  · rfl

theorem fssame : ∀ {l m : List AV}, sameFlats l m = true → l = m := by
  intro l
  induction l with
  | nil => intro m h; cases m with | nil => rfl | cons => cases h
  | cons a l ih =>
    intro m h
    cases m with
    | nil => cases h
    | cons b m =>
      simp only [sameFlats, Bool.and_eq_true] at h
      rw [fsame h.1, ih h.2]

theorem osame {a b : Option AObj} (h : sameObj a b = true) : a = b := by
  cases a with
  | none => cases b with | none => rfl | some => cases h
  | some x =>
    cases b with
    | none => cases x <;> cases h
    | some y =>
      cases x <;> cases y <;> simp only [sameObj, Bool.and_eq_true, reduceCtorEq] at h
      rw [Nat.eq_of_beq_eq_true h.1, fssame h.2]

theorem sameAt_ok {H H' : Tr AObj} {b : Nat} : ∀ {l : List Nat}, sameAt H H' l = true → b ∈ l → H.get b = H'.get b := by
  intro l
  induction l with
  | nil => intro _ h; cases h
  | cons c l ih =>
    intro h hb
    simp only [sameAt, Bool.and_eq_true] at h
    rcases List.mem_cons.1 hb with rfl | hb
    · exact osame h.1
    · exact ih h.2 hb

theorem hiddenAt_ok {V : Tr AObj} {b : Nat} : ∀ {l : List Nat}, hiddenAt V l = true → b ∈ l → V.get b = none := by
  intro l
  induction l with
  | nil => intro _ h; cases h
  | cons c l ih =>
    intro h hb
    simp only [hiddenAt, Bool.and_eq_true] at h
    rcases List.mem_cons.1 hb with rfl | hb
    · exact Option.isNone_iff_eq_none.1 h.1
    · exact ih h.2 hb

theorem hasAll_ok {V : Tr AObj} {b : Nat} : ∀ {l : List Nat}, hasAll V l = true → b ∈ l → V.get b ≠ none := by
  intro l
  induction l with
  | nil => intro _ h; cases h
  | cons c l ih =>
    intro h hb
    simp only [hasAll, Bool.and_eq_true] at h
    rcases List.mem_cons.1 hb with rfl | hb
    · intro hn; rw [hn] at h; cases h.1
    · exact ih h.2 hb

theorem disj_ok {m : List Nat} {b : Nat} : ∀ {l : List Nat}, disj l m = true → b ∈ l → b ∉ m := by
  intro l
  induction l with
  | nil => intro _ h; cases h
  | cons c l ih =>
    intro h hb
    simp only [disj, Bool.and_eq_true, Bool.not_eq_true'] at h
    rcases List.mem_cons.1 hb with rfl | hb
    · intro hm; rw [inL_mem.2 hm] at h; cases h.1
    · exact ih h.2 hb

theorem outside_ok {lo hi b : Nat} : ∀ {l : List Nat}, outside lo hi l = true → b ∈ l → ¬ (lo ≤ b ∧ b < hi) := by
  intro l
  induction l with
  | nil => intro _ h; cases h
  | cons c l ih =>
    intro h hb
    simp only [outside, Bool.and_eq_true, Bool.not_eq_true'] at h
    rcases List.mem_cons.1 hb with rfl | hb
    · rintro ⟨h1, h2⟩
      rw [Nat.ble_eq_true_of_le h1, show Nat.blt b hi = true from Nat.ble_eq_true_of_le h2] at h
      cases h.1
    · exact ih h.2 hb

section
variable {P : Program} {C : Ctx} {env : Nat → Int}

def CallerSane (call : Caller) : Prop := ∀ f args H nx v H' nx', call f args H nx = some (v, H', nx') → Sane H nx H' nx'

theorem stepA_sane {call : Caller} (hs : CallerSane call) {s : St} {o : Oper} {v : AV} {H' : Tr AObj} {nx' : Nat} (h : stepA P C call s o = some (v, H', nx')) : Sane s.H s.nx H' nx' := by
  unfold stepA at h
  split at h
  · split at h
    · exact hs _ _ _ _ _ _ _ h
    · cases h
  · split at h
    · rename_i h1
      simp only [Option.some.injEq, Prod.mk.injEq] at h
      obtain ⟨rfl, rfl, rfl⟩ := h
      exact (aop_sane h1).1
    · cases h

theorem stepS_of (hC : COk P C env) {call : Caller} (hcall : CallerOk P C env call) {T : Tr AV} {V : Tr AObj} {nx nx' : Nat} {o : Oper} {v : AV} {V' : Tr AObj} (h : stepA P C call ⟨T, V, nx⟩ o = some (v, V', nx')) :
    StepS P env T V.get V'.get nx nx' v o := by
  intro r a w m E hf K Q hK
  exact step_ok hC hcall (s := ⟨T, V, nx⟩) m E (N := nx') hf (Nat.le_refl _) h K Q fun u w' r' g hu => hK u w' r' g.toS hu

/-- What a note says of an operation. -/
def AccOk (t : Tce) (i : Nat) : Acc → Prop
  | .rd bs => (∀ b, t.V i b ≠ none → b ∈ bs) ∧ ∀ b, t.Hs (i + 1) b = t.Hs i b
  | .wr bs lo hi => lo = t.ns i ∧ hi = t.ns (i + 1) ∧ ∀ b, t.V i b ≠ none → b ∈ bs
  | .cl V H H' => t.V i = V.get ∧ t.Hs i = H.get ∧ t.Hs (i + 1) = H'.get

/-- One operation of the region, as its step shows it. -/
theorem drawStep_ok (hC : COk P C env) {call : Caller} (hcall : CallerOk P C env call) (hsane : CallerSane call) {anc : Tr Nat} {j : Nat} {log : List (Nat × Acc)} {s : St} {o : Oper} {v : AV} {H' : Tr AObj} {nx' : Nat} {acc : Acc}
    (h : drawStep P C call anc j log s o = some (v, H', nx', acc)) (hle : s.nx ≤ nx') : ∃ V V' : Mem, StepS P env s.T V V' s.nx nx' v o ∧ (∀ b o, V b = some o → s.H.get b = some o) ∧
      (∀ b, (V b ≠ none ∨ (s.nx ≤ b ∧ b < nx')) → H'.get b = V' b) ∧ (∀ b, V b = none → ¬ (s.nx ≤ b ∧ b < nx') → H'.get b = s.H.get b) ∧
      ∀ t : Tce, t.V j = V → t.Hs j = s.H.get → t.Hs (j + 1) = H'.get → t.ns j = s.nx → t.ns (j + 1) = nx' → AccOk t j acc := by
  unfold drawStep at h
  split at h
  · -- a call
    split at h
    · rename_i v1 H1 nx1 hst
      revert h
      cases ho : outside s.nx nx1 (hiddenL anc j log) <;> intro h
      · cases h
      · simp only [cond_true, Option.some.injEq, Prod.mk.injEq] at h
        obtain ⟨rfl, rfl, rfl, rfl⟩ := h
        have hsn := stepA_sane hsane hst
        refine ⟨(delL s.H (hiddenL anc j log)).get, H1.get, stepS_of hC hcall hst, ?_, ?_, ?_, ?_⟩
        · intro b o hb
          rw [delL_get] at hb
          split at hb
          · cases hb
          · exact hb
        · intro b hb
          rw [layL_get]
          by_cases hm : b ∈ hiddenL anc j log
          · exfalso
            rcases hb with hb | hb
            · rw [delL_get, if_pos hm] at hb; exact hb rfl
            · exact outside_ok ho hm hb
          · rw [if_neg hm]
        · intro b hb hn
          rw [layL_get]
          by_cases hm : b ∈ hiddenL anc j log
          · rw [if_pos hm]
          · rw [if_neg hm]
            rw [delL_get, if_neg hm] at hb
            rw [hb]
            cases h1 : H1.get b with
            | none => rfl
            | some q =>
              exfalso
              rcases hsn.2 b (by rw [h1]; simp) with h | h
              · simp only at h; rw [delL_get, if_neg hm] at h; exact h hb
              · exact hn h
        · intro t h1 h2 h3 h4 h5
          exact ⟨h1, h2, h3⟩
    · cases h
  · -- an operation of its own
    rename_i hcal
    cases hr : isRead o.op with
    | true =>
      rw [hr, cond_true] at h
      split at h
      · rename_i v1 H1 nx1 hst
        simp only [Option.some.injEq, Prod.mk.injEq] at h
        obtain ⟨rfl, rfl, rfl, rfl⟩ := h
        have hsame : H1 = layL s.H .nil (footA s.T o) ∧ nx1 = s.nx := by
          unfold stepA at hst
          rw [hcal] at hst
          simp only at hst
          split at hst
          · rename_i h1
            simp only [Option.some.injEq, Prod.mk.injEq] at hst
            obtain ⟨rfl, rfl, rfl⟩ := hst
            exact (aop_sane h1).2 hr
          · cases hst
        obtain ⟨rfl, rfl⟩ := hsame
        refine ⟨(layL s.H .nil (footA s.T o)).get, (layL s.H .nil (footA s.T o)).get, stepS_of hC hcall hst, ?_, ?_, ?_, ?_⟩
        · intro b o hb
          rw [layL_get] at hb
          split at hb
          · exact hb
          · simp [Tr.get] at hb
        · intro b hb
          rcases hb with hb | hb
          · rw [layL_get] at hb ⊢
            split at hb
            · rename_i hm; rw [if_pos hm]
            · simp [Tr.get] at hb
          · omega
        · intro b _ _; rfl
        · intro t h1 h2 h3 h4 h5
          refine ⟨fun b hb => ?_, fun b => by rw [h2, h3]⟩
          rw [h1, layL_get] at hb
          split at hb
          · assumption
          · simp [Tr.get] at hb
      · cases h
    | false =>
      rw [hr, cond_false] at h
      split at h
      · rename_i v1 H1 nx1 hst
        revert h
        cases hall : hasAll s.H (footA s.T o) <;> intro h
        · cases h
        · simp only [cond_true, Option.some.injEq, Prod.mk.injEq] at h
          obtain ⟨rfl, rfl, rfl, rfl⟩ := h
          have hV : ∀ b, (layL s.H .nil (footA s.T o)).get b ≠ none ↔ b ∈ footA s.T o := by
            intro b
            rw [layL_get]
            constructor
            · intro hb
              split at hb
              · assumption
              · simp [Tr.get] at hb
            · intro hb
              rw [if_pos hb]
              exact hasAll_ok hall hb
          refine ⟨(layL s.H .nil (footA s.T o)).get, H1.get, stepS_of hC hcall hst, ?_, ?_, ?_, ?_⟩
          · intro b o hb
            rw [layL_get] at hb
            split at hb
            · exact hb
            · simp [Tr.get] at hb
          · intro b hb
            rw [layL_get, if_pos]
            rcases hb with hb | hb
            · exact List.mem_append_left _ ((hV b).1 hb)
            · exact List.mem_append_right _ ((spanL_mem _ _).2 ⟨hb.1, by omega⟩)
          · intro b hb hn
            rw [layL_get, if_neg]
            intro hm
            rcases List.mem_append.1 hm with hm | hm
            · exact (hV b).2 hm hb
            · have := (spanL_mem _ _).1 hm
              exact hn ⟨this.1, by omega⟩
          · intro t h1 h2 h3 h4 h5
            exact ⟨h4.symm, h5.symm, fun b hb => (hV b).1 (by rw [← h1]; exact hb)⟩
      · cases h

variable {nt : Nat} {ops : Array Oper} {anc : Tr Nat}

theorem ns_monoN {t : Tce} {n : Nat} (h : TceOk P env nt ops anc t n) : ∀ j, j ≤ n → ∀ i, i ≤ j → t.ns i ≤ t.ns j := by
  intro j
  induction j with
  | zero => intro _ i hi; exact Nat.le_of_eq (by rw [show i = 0 by omega])
  | succ j ih =>
    intro hj i hi
    by_cases h1 : i = j + 1
    · subst h1; exact Nat.le_refl _
    · exact Nat.le_trans (ih (by omega) i (by omega)) (h.le j (by omega))

theorem none_newN {t : Tce} {n M : Nat} (h : TceOk P env nt ops anc t n) (h0 : ∀ b, t.ns 0 ≤ b → b < M → t.Hs 0 b = none) : ∀ i, i ≤ n → ∀ b, t.ns i ≤ b → b < M → t.Hs i b = none := by
  intro i
  induction i with
  | zero => intro _ b h1 h2; exact h0 b h1 h2
  | succ i ih =>
    intro hi b h1 h2
    have hle := h.le i (by omega)
    have h0 := ih (by omega) b (by omega) h2
    have hv : t.V i b = none := by
      cases hh : t.V i b with
      | none => rfl
      | some o => have := h.sub i (by omega) b o hh; rw [h0] at this; cases this
    rw [h.hout i (by omega) b hv (by omega), h0]

/-- Two operations of which the notes go together. -/
theorem okPair_ok {t : Tce} {i j : Nat} (hij : i < j) {a1 a2 : Acc} (h1 : AccOk t i a1) (h2 : AccOk t j a2) (hp : okPair a1 a2 = true)
    (hsub : ∀ b, t.V i b ≠ none → ¬ (t.ns j ≤ b ∧ b < t.ns (j + 1)))
    (oi : ∀ b, t.V i b = none → ¬ (t.ns i ≤ b ∧ b < t.ns (i + 1)) → t.Hs (i + 1) b = t.Hs i b) (oj : ∀ b, t.V j b = none → ¬ (t.ns j ≤ b ∧ b < t.ns (j + 1)) → t.Hs (j + 1) b = t.Hs j b) :
    (∀ b, t.V j b ≠ none → t.Hs (i + 1) b = t.Hs i b) ∧ (∀ b, t.V i b ≠ none → t.Hs (j + 1) b = t.Hs j b) := by
  cases a1 with
  | rd bs =>
    obtain ⟨p1, p2⟩ := h1
    refine ⟨fun b _ => p2 b, fun b hb => ?_⟩
    cases a2 with
    | rd cs => exact h2.2 b
    | wr cs lo hi =>
      obtain ⟨q1, q2, q3⟩ := h2
      refine oj b ?_ (hsub b hb)
      cases hv : t.V j b with
      | none => rfl
      | some o => exact absurd (q3 b (by rw [hv]; simp)) (disj_ok hp (p1 b hb))
    | cl V H H' =>
      obtain ⟨q1, q2, q3⟩ := h2
      rw [q2, q3]
      exact (sameAt_ok hp (p1 b hb)).symm
  | wr bs lo hi =>
    obtain ⟨p1, p2, p3⟩ := h1
    cases a2 with
    | rd cs =>
      simp only [okPair, Bool.and_eq_true] at hp
      refine ⟨fun b hb => ?_, fun b _ => h2.2 b⟩
      have hc := h2.1 b hb
      refine oi b ?_ (by rw [← p1, ← p2]; exact outside_ok hp.2 hc)
      cases hv : t.V i b with
      | none => rfl
      | some o => exact absurd hc (disj_ok hp.1 (p3 b (by rw [hv]; simp)))
    | wr cs lo' hi' =>
      simp only [okPair, Bool.and_eq_true] at hp
      obtain ⟨q1, q2, q3⟩ := h2
      refine ⟨fun b hb => ?_, fun b hb => ?_⟩
      · have hc := q3 b hb
        refine oi b ?_ (by rw [← p1, ← p2]; exact outside_ok hp.2 hc)
        cases hv : t.V i b with
        | none => rfl
        | some o => exact absurd hc (disj_ok hp.1 (p3 b (by rw [hv]; simp)))
      · refine oj b ?_ (hsub b hb)
        cases hv : t.V j b with
        | none => rfl
        | some o => exact absurd (q3 b (by rw [hv]; simp)) (disj_ok hp.1 (p3 b hb))
    | cl V H H' =>
      simp only [okPair, Bool.and_eq_true] at hp
      obtain ⟨q1, q2, q3⟩ := h2
      refine ⟨fun b hb => ?_, fun b hb => ?_⟩
      · rw [q1] at hb
        refine oi b ?_ ?_
        · cases hv : t.V i b with
          | none => rfl
          | some o => exact absurd (hiddenAt_ok hp.1 (p3 b (by rw [hv]; simp))) hb
        · intro hr
          exact hb (hiddenAt_ok hp.2 ((spanL_mem _ _).2 ⟨by omega, by omega⟩))
      · refine oj b ?_ (hsub b hb)
        rw [q1]
        exact hiddenAt_ok hp.1 (p3 b hb)
  | cl V H H' =>
    obtain ⟨p1, p2, p3⟩ := h1
    cases a2 with
    | rd cs =>
      refine ⟨fun b hb => ?_, fun b _ => h2.2 b⟩
      rw [p2, p3]
      exact (sameAt_ok hp (h2.1 b hb)).symm
    | wr cs lo' hi' =>
      simp only [okPair, Bool.and_eq_true] at hp
      obtain ⟨q1, q2, q3⟩ := h2
      refine ⟨fun b hb => ?_, fun b hb => ?_⟩
      · rw [p2, p3]
        exact (sameAt_ok hp.2 (q3 b hb)).symm
      · refine oj b ?_ (hsub b hb)
        cases hv : t.V j b with
        | none => rfl
        | some o =>
          have := hiddenAt_ok hp.1 (q3 b (by rw [hv]; simp))
          rw [p1] at hb
          exact absurd this hb
    | cl V2 H2 H2' => cases hp

/-- The notes say what was done. -/
structure LogOk (t : Tce) (j : Nat) (log : List (Nat × Acc)) : Prop where
  all : ∀ i, i < j → (∃ acc, (i, acc) ∈ log ∧ AccOk t i acc) ∨ ((∀ b, t.V i b = none) ∧ ∀ b, t.Hs (i + 1) b = t.Hs i b)
  lt : ∀ p, p ∈ log → p.1 < j

theorem okLog_mem {anc : Tr Nat} {j : Nat} {acc : Acc} : ∀ {log : List (Nat × Acc)}, okLog anc j acc log = true → ∀ p ∈ log, waits anc j p.1 = true ∨ okPair p.2 acc = true := by
  intro log
  induction log with
  | nil => intro _ p hp; cases hp
  | cons q l ih =>
    intro h p hp
    simp only [okLog, Bool.and_eq_true, Bool.or_eq_true] at h
    rcases List.mem_cons.1 hp with rfl | hp
    · exact h.1
    · exact ih h.2 p hp

theorem drawGo_nx {call : Caller} {D : Tr Tmp} : ∀ {l : List Oper} {j : Nat} {log : List (Nat × Acc)} {s s' : St}, drawGo P C call nt D anc l j log s = some s' → s.nx ≤ s'.nx := by
  intro l
  induction l with
  | nil => intro j log s s' h; simp only [drawGo, Option.some.injEq] at h; subst h; exact Nat.le_refl _
  | cons o l ih =>
    intro j log s s' h
    simp only [drawGo] at h
    split at h
    · split at h
      · rename_i v H nx acc _
        revert h
        cases hb : (Nat.ble s.nx nx && okLog anc j acc log) <;> intro h
        · cases h
        · rw [cond_true, Option.bind_eq_some_iff] at h
          obtain ⟨T, _, h2⟩ := h
          rw [Bool.and_eq_true] at hb
          have h3 := ih h2
          exact Nat.le_trans (Nat.le_of_ble_eq_true hb.1) h3
      · cases h
    · rw [Option.bind_eq_some_iff] at h
      obtain ⟨T, _, h2⟩ := h
      have h3 := ih h2
      exact h3
    · cases h

/-- One operation more. -/
def Tce.add (t : Tce) (j : Nat) (H : Mem) (T : Tr AV) (n : Nat) (V V' : Mem) (v : AV) (d : Bool) : Tce :=
  { Hs := fun k => if k ≤ j then t.Hs k else H
    Ts := fun k => if k ≤ j then t.Ts k else T
    ns := fun k => if k ≤ j then t.ns k else n
    V := fun k => if k < j then t.V k else V
    V' := fun k => if k < j then t.V' k else V'
    v := fun k => if k < j then t.v k else v
    d := fun k => if k < j then t.d k else d }

theorem AccOk.add {t : Tce} {i j : Nat} (hij : i < j) {H : Mem} {T : Tr AV} {n : Nat} {V V' : Mem} {v : AV} {d : Bool} {acc : Acc} (h : AccOk t i acc) : AccOk (t.add j H T n V V' v d) i acc := by
  have e1 : (t.add j H T n V V' v d).Hs i = t.Hs i := if_pos (by omega)
  have e2 : (t.add j H T n V V' v d).Hs (i + 1) = t.Hs (i + 1) := if_pos (by omega)
  have e3 : (t.add j H T n V V' v d).ns i = t.ns i := if_pos (by omega)
  have e4 : (t.add j H T n V V' v d).ns (i + 1) = t.ns (i + 1) := if_pos (by omega)
  have e5 : (t.add j H T n V V' v d).V i = t.V i := if_pos hij
  cases acc <;> simp only [AccOk, e1, e2, e3, e4, e5] at h ⊢ <;> exact h

theorem TceOk.add {t : Tce} {j M : Nat} (h : TceOk P env nt ops anc t j) (h0 : ∀ b, t.ns 0 ≤ b → b < M → t.Hs 0 b = none) {H : Mem} {T : Tr AV} {n : Nat} {V V' : Mem} {v : AV} {d : Bool} {o : Oper} (ho : ops[j]? = some o) (hM : n ≤ M)
    (le : t.ns j ≤ n) (sub : ∀ b o, V b = some o → t.Hs j b = some o) (hin : ∀ b, (V b ≠ none ∨ (t.ns j ≤ b ∧ b < n)) → H b = V' b) (hout : ∀ b, V b = none → ¬ (t.ns j ≤ b ∧ b < n) → H b = t.Hs j b)
    (put : putT nt (t.Ts j) o.dst v = some T) (want : wantedA (t.Ts j) (dstsFrom ops.toList 0 .nil) o = some d) (skip : d = false → (∀ b, V b = none) ∧ n = t.ns j ∧ v = .tup [])
    (step : d = true → StepS P env (t.Ts j) V V' (t.ns j) n v o) {log : List (Nat × Acc)} (hlog : LogOk t j log)
    (hpair : ∀ i acc, (i, acc) ∈ log → waits anc j i = false → AccOk t i acc → (∀ b, t.V i b ≠ none → ¬ (t.ns j ≤ b ∧ b < n)) → (∀ b, V b ≠ none → t.Hs (i + 1) b = t.Hs i b) ∧ (∀ b, t.V i b ≠ none → H b = t.Hs j b)) :
    TceOk P env nt ops anc (t.add j H T n V V' v d) (j + 1) := by
  have eH : ∀ i, i ≤ j → (t.add j H T n V V' v d).Hs i = t.Hs i := fun i hi => if_pos hi
  have eT : ∀ i, i ≤ j → (t.add j H T n V V' v d).Ts i = t.Ts i := fun i hi => if_pos hi
  have en : ∀ i, i ≤ j → (t.add j H T n V V' v d).ns i = t.ns i := fun i hi => if_pos hi
  have eV : ∀ i, i < j → (t.add j H T n V V' v d).V i = t.V i := fun i hi => if_pos hi
  have eV' : ∀ i, i < j → (t.add j H T n V V' v d).V' i = t.V' i := fun i hi => if_pos hi
  have ev : ∀ i, i < j → (t.add j H T n V V' v d).v i = t.v i := fun i hi => if_pos hi
  have ed : ∀ i, i < j → (t.add j H T n V V' v d).d i = t.d i := fun i hi => if_pos hi
  have fH : (t.add j H T n V V' v d).Hs (j + 1) = H := if_neg (by omega)
  have fT : (t.add j H T n V V' v d).Ts (j + 1) = T := if_neg (by omega)
  have fn : (t.add j H T n V V' v d).ns (j + 1) = n := if_neg (by omega)
  have fV : (t.add j H T n V V' v d).V j = V := if_neg (by omega)
  have fV' : (t.add j H T n V V' v d).V' j = V' := if_neg (by omega)
  have fv : (t.add j H T n V V' v d).v j = v := if_neg (by omega)
  have fd : (t.add j H T n V V' v d).d j = d := if_neg (by omega)
  have seen : ∀ i, i < j → ∀ b, t.V i b ≠ none → ¬ (t.ns j ≤ b ∧ b < n) := by
    intro i hi b hb hr
    obtain ⟨q, hq⟩ := Option.ne_none_iff_exists'.1 hb
    have h1 := h.sub i hi b q hq
    have h2 := none_newN h h0 i (by omega) b (Nat.le_trans (ns_monoN h j (Nat.le_refl _) i (by omega)) hr.1) (by omega)
    rw [h2] at h1; cases h1
  have pair : ∀ i, i < j → waits anc j i = false → (∀ b, V b ≠ none → t.Hs (i + 1) b = t.Hs i b) ∧ (∀ b, t.V i b ≠ none → H b = t.Hs j b) := by
    intro i hi hw
    rcases hlog.all i hi with ⟨acc, hm, ha⟩ | ⟨h1, h2⟩
    · exact hpair i acc hm hw ha (seen i hi)
    · exact ⟨fun b _ => h2 b, fun b hb => absurd (h1 b) hb⟩
  refine ⟨?_, ?_, ?_, ?_, ?_, ?_, ?_, ?_, ?_, ?_⟩
  · intro i hi
    by_cases hij : i = j
    · subst hij; rw [en i (Nat.le_refl _), fn]; exact le
    · rw [en i (by omega), en (i + 1) (by omega)]; exact h.le i (by omega)
  · intro i hi b q hq
    by_cases hij : i = j
    · subst hij; rw [fV] at hq; rw [eH i (Nat.le_refl _)]; exact sub b q hq
    · rw [eV i (by omega)] at hq; rw [eH i (by omega)]; exact h.sub i (by omega) b q hq
  · intro i hi b hb
    by_cases hij : i = j
    · subst hij; rw [fV, en i (Nat.le_refl _), fn] at hb; rw [fH, fV']; exact hin b hb
    · rw [eV i (by omega), en i (by omega), en (i + 1) (by omega)] at hb; rw [eH (i + 1) (by omega), eV' i (by omega)]; exact h.hin i (by omega) b hb
  · intro i hi b h1 h2
    by_cases hij : i = j
    · subst hij; rw [fV] at h1; rw [en i (Nat.le_refl _), fn] at h2; rw [fH, eH i (Nat.le_refl _)]; exact hout b h1 h2
    · rw [eV i (by omega)] at h1; rw [en i (by omega), en (i + 1) (by omega)] at h2; rw [eH (i + 1) (by omega), eH i (by omega)]; exact h.hout i (by omega) b h1 h2
  · intro i hi q hq
    by_cases hij : i = j
    · subst hij; rw [ho] at hq; obtain rfl := Option.some.inj hq; rw [eT i (Nat.le_refl _), fT, fv]; exact put
    · rw [eT i (by omega), eT (i + 1) (by omega), ev i (by omega)]; exact h.put i (by omega) q hq
  · intro i hi q hq
    by_cases hij : i = j
    · subst hij; rw [ho] at hq; obtain rfl := Option.some.inj hq; rw [eT i (Nat.le_refl _), fd]; exact want
    · rw [eT i (by omega), ed i (by omega)]; exact h.want i (by omega) q hq
  · intro i hi hd
    by_cases hij : i = j
    · subst hij; rw [fd] at hd; rw [fV, fn, en i (Nat.le_refl _), fv]; exact skip hd
    · rw [ed i (by omega)] at hd; rw [eV i (by omega), en i (by omega), en (i + 1) (by omega), ev i (by omega)]; exact h.skip i (by omega) hd
  · intro i hi q hq hd
    by_cases hij : i = j
    · subst hij; rw [ho] at hq; obtain rfl := Option.some.inj hq; rw [fd] at hd; rw [eT i (Nat.le_refl _), fV, fV', fn, en i (Nat.le_refl _), fv]; exact step hd
    · rw [ed i (by omega)] at hd; rw [eT i (by omega), eV i (by omega), eV' i (by omega), en i (by omega), en (i + 1) (by omega), ev i (by omega)]; exact h.step i (by omega) q hq hd
  · intro i k hik hk hw b hb
    by_cases hkj : k = j
    · subst hkj; rw [fV] at hb; rw [eH (i + 1) (by omega), eH i (by omega)]; exact (pair i hik hw).1 b hb
    · rw [eV k (by omega)] at hb; rw [eH (i + 1) (by omega), eH i (by omega)]; exact h.pairA i k hik (by omega) hw b hb
  · intro i k hik hk hw b hb
    by_cases hkj : k = j
    · subst hkj; rw [eV i hik] at hb; rw [fH, eH k (Nat.le_refl _)]; exact (pair i hik hw).2 b hb
    · rw [eV i (by omega)] at hb; rw [eH (k + 1) (by omega), eH k (by omega)]; exact h.pairB i k hik (by omega) hw b hb

end
end Go.Proofs.Ytdndjcofafkafaa.Sim
