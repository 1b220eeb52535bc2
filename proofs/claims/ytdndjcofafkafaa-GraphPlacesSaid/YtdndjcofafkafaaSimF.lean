/- What the interpreter does to its own memory: it changes what stands, or makes a block with the next number. Nothing is claimed of the program here; no condition. -/
import Derived.Test.YtdndjcofafkafaaSimE
namespace Go.Proofs.Ytdndjcofafkafaa.Sim
set_option linter.unusedVariables false
set_option linter.unusedSimpArgs false
open Go Go.RowKit

/-- Nothing stands behind that did not stand, but for the new numbers. -/
def Sane (H : Tr AObj) (nx : Nat) (H' : Tr AObj) (nx' : Nat) : Prop := nx ≤ nx' ∧ ∀ b, H'.get b ≠ none → H.get b ≠ none ∨ (nx ≤ b ∧ b < nx')

theorem Sane.refl (H : Tr AObj) (nx : Nat) : Sane H nx H nx := ⟨Nat.le_refl _, fun _ h => .inl h⟩

theorem Sane.trans {H H1 H2 : Tr AObj} {nx nx1 nx2 : Nat} (h1 : Sane H nx H1 nx1) (h2 : Sane H1 nx1 H2 nx2) : Sane H nx H2 nx2 := by
  refine ⟨Nat.le_trans h1.1 h2.1, fun b hb => ?_⟩
  have a1 := h1.1
  have a2 := h2.1
  rcases h2.2 b hb with h | h
  · rcases h1.2 b h with h | h
    · exact .inl h
    · exact .inr ⟨h.1, by omega⟩
  · exact .inr ⟨by omega, h.2⟩

theorem Sane.fresh (H : Tr AObj) (nx : Nat) (o : AObj) : Sane H nx (H.put nx o) (nx + 1) := by
  refine ⟨Nat.le_succ _, fun b hb => ?_⟩
  by_cases h : b = nx
  · subst h; exact .inr ⟨Nat.le_refl _, Nat.lt_succ_self _⟩
  · rw [Tr.get_put_ne _ _ _ _ h] at hb; exact .inl hb

theorem Sane.over {H : Tr AObj} {b : Nat} (hb : H.get b ≠ none) (nx : Nat) (o : AObj) : Sane H nx (H.put b o) nx := by
  refine ⟨Nat.le_refl _, fun b' h' => ?_⟩
  by_cases h : b' = b
  · subst h; exact .inl hb
  · rw [Tr.get_put_ne _ _ _ _ h] at h'; exact .inl h'

theorem cellsAt_ne {H : Tr AObj} {a : Ref} {xs : List AV} (h : cellsAt H a = some xs) : H.get a.b ≠ none := by rw [cellsAt_eq h]; simp

theorem storeCells_sane {H H' : Tr AObj} {a : Ref} {vs : List AV} (nx : Nat) (h : storeCellsA H a vs = some H') : Sane H nx H' nx := by
  unfold storeCellsA at h
  rw [Option.bind_eq_some_iff] at h
  obtain ⟨xs, h1, h⟩ := h
  rw [Option.map_eq_some_iff] at h
  obtain ⟨ys, _, rfl⟩ := h
  exact Sane.over (cellsAt_ne h1) nx _

theorem append_sane {H H' : Tr AObj} {nx nx' es bs : Nat} {x y v : AV} (h : appendA H nx es bs x y = some (v, H', nx')) : Sane H nx H' nx' := by
  unfold appendA at h
  split at h
  · cases h
  · rename_i n _
    split at h
    · cases h
    · rename_i new _
      cases hfl : flats new with
      | false => rw [hfl] at h; cases h
      | true =>
        rw [hfl, cond_true] at h
        split at h
        · cases h0 : Nat.beq n 0 with
          | true => rw [h0] at h; simp only [cond_true, Option.some.injEq, Prod.mk.injEq] at h; obtain ⟨_, rfl, rfl⟩ := h; exact Sane.refl _ _
          | false =>
            rw [h0, cond_false] at h
            cases hb2 : Nat.ble (n * (bs + 1)) 4294967296 with
            | false => rw [hb2] at h; cases h
            | true => rw [hb2] at h; simp only [cond_true, Option.some.injEq, Prod.mk.injEq] at h; obtain ⟨_, rfl, rfl⟩ := h; exact Sane.fresh _ _ _
        · rename_i p len cap
          cases h0 : Nat.beq n 0 with
          | true =>
            rw [h0, cond_true] at h
            cases hh : cap.holds len with
            | false => rw [hh] at h; cases h
            | true => rw [hh] at h; simp only [cond_true, Option.some.injEq, Prod.mk.injEq] at h; obtain ⟨_, rfl, rfl⟩ := h; exact Sane.refl _ _
          | false =>
            rw [h0, cond_false] at h
            split at h
            · rename_i cc
              cases hb2 : Nat.ble (len + n) cc with
              | true =>
                rw [hb2, cond_true, Option.map_eq_some_iff] at h
                obtain ⟨H1, h1, h2⟩ := h
                simp only [Prod.mk.injEq] at h2
                obtain ⟨_, rfl, rfl⟩ := h2
                exact storeCells_sane _ h1
              | false =>
                rw [hb2, cond_false] at h
                split at h
                · cases h
                · cases hb3 : Nat.ble ((len + n) * (bs + 1)) 4294967296 with
                  | false => rw [hb3] at h; cases h
                  | true => rw [hb3] at h; simp only [cond_true, Option.some.injEq, Prod.mk.injEq] at h; obtain ⟨_, rfl, rfl⟩ := h; exact Sane.fresh _ _ _
            · rename_i es' lb
              cases hes : Nat.beq es' es with
              | false => rw [hes] at h; cases h
              | true =>
                rw [hes, cond_true] at h
                cases hb2 : Nat.ble (len + n) lb with
                | true =>
                  rw [hb2, cond_true, Option.map_eq_some_iff] at h
                  obtain ⟨H1, h1, h2⟩ := h
                  simp only [Prod.mk.injEq] at h2
                  obtain ⟨_, rfl, rfl⟩ := h2
                  exact storeCells_sane _ h1
                | false =>
                  rw [hb2, cond_false] at h
                  split at h
                  · cases h
                  · cases hb3 : (Nat.ble ((len + n) * (bs + 1)) 4294967296 && (cellsAt H p).isSome) with
                    | false => rw [hb3] at h; cases h
                    | true =>
                      rw [hb3] at h
                      simp only [cond_true, Option.some.injEq, Prod.mk.injEq] at h
                      obtain ⟨_, rfl, rfl⟩ := h
                      rw [Bool.and_eq_true] at hb3
                      obtain ⟨xs, hxs⟩ := Option.isSome_iff_exists.1 hb3.2
                      exact Sane.over (cellsAt_ne hxs) _ _
            · cases h
        · cases h

section
variable {P : Program} {C : Ctx}

theorem builtin_sane {s : St} {b : Builtin} {ts : List TypeId} {args : List AV} {v : AV} {H' : Tr AObj} {nx' : Nat} (h : builtinA P C s b ts args = some (.val v H' nx')) :
    Sane s.H s.nx H' nx' ∧ ((b = .len ∨ b = .min ∨ b = .max) → H' = s.H ∧ nx' = s.nx) := by
  unfold builtinA at h
  split at h
  · split at h <;> first | (simp only [Option.some.injEq, Res.val.injEq] at h; obtain ⟨_, rfl, rfl⟩ := h; exact ⟨Sane.refl _ _, fun _ => ⟨rfl, rfl⟩⟩) | (cases h)
  · split at h
    · split at h
      · rename_i n bs z _ _ _
        revert h
        cases (Nat.beq (cellsOf z).length n && !(Nat.beq n 0) && strOne _ n) <;> intro h
        · cases h
        · rw [cond_true, Option.map_eq_some_iff] at h
          obtain ⟨⟨v', H1, nx1⟩, h1, h2⟩ := h
          simp only [Res.val.injEq] at h2
          obtain ⟨rfl, rfl, rfl⟩ := h2
          exact ⟨append_sane h1, fun h => by rcases h with h | h | h <;> cases h⟩
      · cases h
    · cases h
  · split at h
    · split at h
      · revert h
        cases strOne _ _ <;> intro h
        · cases h
        · rw [cond_true] at h
          split at h
          · rename_i m _ _ _ cs _
            revert h
            cases Nat.beq (Nat.min _ _) 0 <;> intro h
            · rw [cond_false] at h
              revert h
              cases flats cs <;> intro h
              · cases h
              · rw [cond_true, Option.map_eq_some_iff] at h
                obtain ⟨H1, h1, h2⟩ := h
                simp only [Res.val.injEq] at h2
                obtain ⟨_, rfl, rfl⟩ := h2
                exact ⟨storeCells_sane _ h1, fun h => by rcases h with h | h | h <;> cases h⟩
            · simp only [cond_true, Option.some.injEq, Res.val.injEq] at h
              obtain ⟨_, rfl, rfl⟩ := h
              exact ⟨Sane.refl _ _, fun _ => ⟨rfl, rfl⟩⟩
          · cases h
      · cases h
    · cases h
  · split at h
    · simp only [Option.some.injEq, Res.val.injEq] at h; obtain ⟨_, rfl, rfl⟩ := h; exact ⟨Sane.refl _ _, fun _ => ⟨rfl, rfl⟩⟩
    · split at h
      · rename_i z n _ _
        revert h
        cases Nat.beq _ 0 <;> intro h
        · rw [cond_false] at h
          revert h
          cases (Nat.beq (cellsOf z).length n && !(Nat.beq n 0) && flats (rep _ (cellsOf z))) <;> intro h
          · cases h
          · rw [cond_true, Option.map_eq_some_iff] at h
            obtain ⟨H1, h1, h2⟩ := h
            simp only [Res.val.injEq] at h2
            obtain ⟨_, rfl, rfl⟩ := h2
            exact ⟨storeCells_sane _ h1, fun h => by rcases h with h | h | h <;> cases h⟩
        · simp only [cond_true, Option.some.injEq, Res.val.injEq] at h; obtain ⟨_, rfl, rfl⟩ := h; exact ⟨Sane.refl _ _, fun _ => ⟨rfl, rfl⟩⟩
      · cases h
    · cases h
  · rw [Option.map_eq_some_iff] at h
    obtain ⟨q, _, h2⟩ := h
    simp only [Res.val.injEq] at h2
    obtain ⟨_, rfl, rfl⟩ := h2
    exact ⟨Sane.refl _ _, fun _ => ⟨rfl, rfl⟩⟩
  · rw [Option.map_eq_some_iff] at h
    obtain ⟨q, _, h2⟩ := h
    simp only [Res.val.injEq] at h2
    obtain ⟨_, rfl, rfl⟩ := h2
    exact ⟨Sane.refl _ _, fun _ => ⟨rfl, rfl⟩⟩
  · cases h

theorem aop_sane {s : St} {o : Oper} {v : AV} {H' : Tr AObj} {nx' : Nat} (hv : aop P C s o = some (.val v H' nx')) : Sane s.H s.nx H' nx' ∧ (isRead o.op = true → H' = s.H ∧ nx' = s.nx) := by
  have same : ∀ {H' : Tr AObj} {nx' : Nat}, H' = s.H ∧ nx' = s.nx → Sane s.H s.nx H' nx' ∧ (isRead o.op = true → H' = s.H ∧ nx' = s.nx) := by
    intro H' nx' h
    refine ⟨?_, fun _ => h⟩
    obtain ⟨rfl, rfl⟩ := h
    exact Sane.refl _ _
  cases ho : o.op with
  | alloc t =>
    simp only [aop, ho, Option.bind_eq_some_iff] at hv
    obtain ⟨z, hz, hv⟩ := hv
    rw [zero_whole hz] at hv
    simp only [cond_true, Option.some.injEq, Res.val.injEq] at hv
    obtain ⟨_, rfl, rfl⟩ := hv
    exact ⟨Sane.fresh _ _ _, fun h => by cases h⟩
  | box t x =>
    simp only [aop, ho] at hv
    revert hv
    cases wholeA (ev s.T x) <;> intro hv
    · cases hv
    · simp only [cond_true, Option.some.injEq, Res.val.injEq] at hv
      obtain ⟨_, rfl, rfl⟩ := hv
      exact ⟨Sane.fresh _ _ _, fun h => by cases h⟩
  | buildSlice t len ps =>
    simp only [aop, ho] at hv
    revert hv
    cases wholes (partsA s.T ps.toList) <;> intro hv
    · cases hv
    · rw [cond_true, Option.map_eq_some_iff] at hv
      obtain ⟨q, h1, h2⟩ := hv
      simp only [Res.val.injEq] at h2
      obtain ⟨_, rfl, rfl⟩ := h2
      exact ⟨Sane.fresh _ _ _, fun h => by cases h⟩
  | store t x y =>
    simp only [aop, ho] at hv
    split at hv
    · rename_i p hp
      rw [Option.map_eq_some_iff] at hv
      obtain ⟨q, h1, h2⟩ := hv
      simp only [Res.val.injEq] at h2
      obtain ⟨_, rfl, rfl⟩ := h2
      unfold Ctx.store at h1
      split at h1
      · revert h1
        cases (Nat.beq (cellsOf (ev s.T y)).length _ && flats (cellsOf (ev s.T y))) <;> intro h1
        · cases h1
        · exact ⟨storeCells_sane _ h1, fun h => by cases h⟩
      · cases h1
    · cases hv
  | makeSlice t x y =>
    simp only [aop, ho] at hv
    split at hv
    · rename_i e l c _ _ _
      split at hv
      · rename_i n z bs _ _ _
        revert hv
        cases (Nat.ble l c && Nat.ble (c * (bs + 1)) 4294967296 && Nat.beq (cellsOf z).length n && !(Nat.beq n 0)) <;> intro hv
        · cases hv
        · simp only [cond_true, Option.some.injEq, Res.val.injEq] at hv
          obtain ⟨_, rfl, rfl⟩ := hv
          exact ⟨Sane.fresh _ _ _, fun h => by cases h⟩
      · cases hv
    · cases hv
  | call c =>
    simp only [aop, ho] at hv
    cases hc : c.callee with
    | value f => simp only [hc] at hv; cases hv
    | builtin b =>
      simp only [hc] at hv
      obtain ⟨h1, h2⟩ := builtin_sane hv
      refine ⟨h1, fun h => h2 ?_⟩
      simp only [isRead, hc] at h
      cases b <;> first | exact .inl rfl | exact .inr (.inl rfl) | exact .inr (.inr rfl) | cases h
    | invoke x n => simp only [hc] at hv; cases hv
  | convert src dst x =>
    rw [← ho]
    refine same ?_
    simp only [aop, ho] at hv
    split at hv
    · simp only [Option.some.injEq, Res.val.injEq] at hv; exact ⟨hv.2.1.symm, hv.2.2.symm⟩
    · unfold convA at hv
      split at hv
      · simp only [Option.some.injEq, Res.val.injEq] at hv; exact ⟨hv.2.1.symm, hv.2.2.symm⟩
      · rw [Option.map_eq_some_iff] at hv; obtain ⟨q, _, h2⟩ := hv; simp only [Res.val.injEq] at h2; exact ⟨h2.2.1.symm, h2.2.2.symm⟩
      · simp only [Option.some.injEq, Res.val.injEq] at hv; exact ⟨hv.2.1.symm, hv.2.2.symm⟩
      · cases hv
  | build t ps =>
    rw [← ho]
    refine same ?_
    simp only [aop, ho] at hv
    revert hv
    cases wholes (partsA s.T ps.toList) <;> intro hv
    · cases hv
    · rw [cond_true, Option.map_eq_some_iff] at hv
      obtain ⟨q, h1, h2⟩ := hv
      simp only [Res.val.injEq] at h2
      exact ⟨h2.2.1.symm, h2.2.2.symm⟩
  | makeFunc f fs cs =>
    rw [← ho]
    refine same ?_
    cases f with
    | func f => simp only [aop, ho, Option.some.injEq, Res.val.injEq] at hv; exact ⟨hv.2.1.symm, hv.2.2.symm⟩
    | _ => simp [aop, ho] at hv
  | indexAddr t x ix =>
    rw [← ho]
    refine same ?_
    simp only [aop, ho] at hv
    split at hv
    · split at hv
      · revert hv
        cases Nat.blt _ _ <;> intro hv
        · cases hv
        · simp only [cond_true, Option.some.injEq, Res.val.injEq] at hv; exact ⟨hv.2.1.symm, hv.2.2.symm⟩
      · cases hv
    · split at hv
      · revert hv
        cases Nat.blt _ _ <;> intro hv
        · cases hv
        · simp only [cond_true, Option.some.injEq, Res.val.injEq] at hv; exact ⟨hv.2.1.symm, hv.2.2.symm⟩
      · cases hv
    · cases hv
  | index t x ix =>
    rw [← ho]
    refine same ?_
    simp only [aop, ho] at hv
    split at hv
    · split at hv
      · revert hv
        cases Nat.blt _ _ <;> intro hv
        · cases hv
        · rw [cond_true, Option.map_eq_some_iff] at hv; obtain ⟨q, _, h2⟩ := hv; simp only [Res.val.injEq] at h2; exact ⟨h2.2.1.symm, h2.2.2.symm⟩
      · cases hv
    · split at hv
      · simp only [Option.some.injEq, Res.val.injEq] at hv; exact ⟨hv.2.1.symm, hv.2.2.symm⟩
      · cases hv
    · cases hv
  | slice t x lo hi mx =>
    rw [← ho]
    refine same ?_
    simp only [aop, ho] at hv
    split at hv
    · split at hv
      · rw [Option.map_eq_some_iff] at hv; obtain ⟨q, _, h2⟩ := hv; simp only [Res.val.injEq] at h2; exact ⟨h2.2.1.symm, h2.2.2.symm⟩
      · cases hv
    · split at hv
      · split at hv
        · split at hv
          · simp only [Option.some.injEq, Res.val.injEq] at hv; exact ⟨hv.2.1.symm, hv.2.2.symm⟩
          · cases hv
        · cases hv
      · cases hv
    · split at hv
      · rw [Option.map_eq_some_iff] at hv; obtain ⟨q, _, h2⟩ := hv; simp only [Res.val.injEq] at h2; exact ⟨h2.2.1.symm, h2.2.2.symm⟩
      · cases hv
    · split at hv
      · rw [Option.map_eq_some_iff] at hv; obtain ⟨q, _, h2⟩ := hv; simp only [Res.val.injEq] at h2; exact ⟨h2.2.1.symm, h2.2.2.symm⟩
      · cases hv
    · cases hv
  | move x => rw [← ho]; refine same ?_; simp only [aop, ho, Option.some.injEq, Res.val.injEq] at hv; exact ⟨hv.2.1.symm, hv.2.2.symm⟩
  | assign x => rw [← ho]; refine same ?_; simp only [aop, ho, Option.some.injEq, Res.val.injEq] at hv; exact ⟨hv.2.1.symm, hv.2.2.symm⟩
  | pick c x y =>
    rw [← ho]; refine same ?_; simp only [aop, ho] at hv
    split at hv <;> first | (simp only [Option.some.injEq, Res.val.injEq] at hv; exact ⟨hv.2.1.symm, hv.2.2.symm⟩) | cases hv
  | load t x =>
    rw [← ho]; refine same ?_; simp only [aop, ho] at hv
    split at hv
    · rw [Option.map_eq_some_iff] at hv; obtain ⟨q, _, h2⟩ := hv; simp only [Res.val.injEq] at h2; exact ⟨h2.2.1.symm, h2.2.2.symm⟩
    · cases hv
  | nilCheck x =>
    rw [← ho]; refine same ?_; simp only [aop, ho] at hv
    split at hv
    · simp only [Option.some.injEq, Res.val.injEq] at hv; exact ⟨hv.2.1.symm, hv.2.2.symm⟩
    · cases hv
  | binOp op t x y u =>
    rw [← ho]; refine same ?_; simp only [aop, ho, Option.map_eq_some_iff] at hv
    obtain ⟨q, _, h2⟩ := hv; simp only [Res.val.injEq] at h2; exact ⟨h2.2.1.symm, h2.2.2.symm⟩
  | unOp op t x =>
    rw [← ho]; refine same ?_; simp only [aop, ho] at hv
    split at hv
    · rw [Option.map_eq_some_iff] at hv; obtain ⟨q, _, h2⟩ := hv; simp only [Res.val.injEq] at h2; exact ⟨h2.2.1.symm, h2.2.2.symm⟩
    · rw [Option.map_eq_some_iff] at hv; obtain ⟨q, _, h2⟩ := hv; simp only [Res.val.injEq] at h2; exact ⟨h2.2.1.symm, h2.2.2.symm⟩
    · cases hv
  | fieldAddr t x f =>
    rw [← ho]; refine same ?_; simp only [aop, ho] at hv
    split at hv
    · split at hv
      · simp only [Option.some.injEq, Res.val.injEq] at hv; exact ⟨hv.2.1.symm, hv.2.2.symm⟩
      · cases hv
    · cases hv
  | field t x f =>
    rw [← ho]; refine same ?_; simp only [aop, ho] at hv
    split at hv
    · rw [Option.map_eq_some_iff] at hv; obtain ⟨q, _, h2⟩ := hv; simp only [Res.val.injEq] at h2; exact ⟨h2.2.1.symm, h2.2.2.symm⟩
    · cases hv
  | extract x i =>
    rw [← ho]; refine same ?_; simp only [aop, ho] at hv
    split at hv
    · rw [Option.map_eq_some_iff] at hv; obtain ⟨q, _, h2⟩ := hv; simp only [Res.val.injEq] at h2; exact ⟨h2.2.1.symm, h2.2.2.symm⟩
    · cases hv
  | _ => simp [aop, ho] at hv

end
end Go.Proofs.Ytdndjcofafkafaa.Sim
