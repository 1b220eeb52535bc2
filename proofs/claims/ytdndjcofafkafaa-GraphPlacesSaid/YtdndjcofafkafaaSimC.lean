/- Every operation; calls; regions in the text's order; code. Nothing is claimed of the program here; no condition. -/
import Derived.Test.YtdndjcofafkafaaSimB
namespace Go.Proofs.Ytdndjcofafkafaa.Sim
set_option linter.unusedVariables false
set_option linter.unusedSimpArgs false
open Go Go.RowKit

section
variable {P : Program} {C : Ctx} {env : Nat → Int} {r : Rel}

theorem aop_val (hC : COk P C env) {s : St} {a : Act} {w : World} {o : Oper} {N : Nat} {v : AV} {H' : Tr AObj} {nx' : Nat} (m : MR env r s.H.get w) (E : Es env r s.T a o) (hf : Fresh r s.nx N) (hN : nx' ≤ N)
    (hv : aop P C s o = some (.val v H' nx')) : OpS P env a r s.H.get s.nx w o v H'.get nx' := by
  have hv0 := hv
  cases ho : o.op with
  | move x => simp only [aop, ho, Option.some.injEq, Res.val.injEq] at hv; obtain ⟨rfl, rfl, rfl⟩ := hv; exact op_move (.inl ho) m E
  | assign x => simp only [aop, ho, Option.some.injEq, Res.val.injEq] at hv; obtain ⟨rfl, rfl, rfl⟩ := hv; exact op_move (.inr ho) m E
  | pick c x y =>
    simp only [aop, ho] at hv
    split at hv
    · rename_i hc; simp only [Option.some.injEq, Res.val.injEq] at hv; obtain ⟨rfl, rfl, rfl⟩ := hv; exact op_pick ho m E hc
    · rename_i hc; simp only [Option.some.injEq, Res.val.injEq] at hv; obtain ⟨rfl, rfl, rfl⟩ := hv; exact op_pick ho m E hc
    · cases hv
  | alloc t =>
    simp only [aop, ho, Option.bind_eq_some_iff] at hv
    obtain ⟨z, hz, hv⟩ := hv
    rw [zero_whole hz] at hv
    simp only [cond_true, Option.some.injEq, Res.val.injEq] at hv
    obtain ⟨rfl, rfl, rfl⟩ := hv
    exact op_alloc hC ho m hf hN hz (zero_whole hz)
  | box t x =>
    simp only [aop, ho] at hv
    cases hb : wholeA (ev s.T x) with
    | false => rw [hb] at hv; cases hv
    | true =>
      rw [hb] at hv
      simp only [cond_true, Option.some.injEq, Res.val.injEq] at hv
      obtain ⟨rfl, rfl, rfl⟩ := hv
      exact op_box ho m E hf hN hb
  | build t ps =>
    simp only [aop, ho] at hv
    cases hb : wholes (partsA s.T ps.toList) with
    | false => rw [hb] at hv; cases hv
    | true =>
      rw [hb, cond_true, Option.map_eq_some_iff] at hv
      obtain ⟨q, h1, h2⟩ := hv
      simp only [Res.val.injEq] at h2
      obtain ⟨rfl, rfl, rfl⟩ := h2
      exact op_build hC ho m E hb h1
  | buildSlice t len ps =>
    simp only [aop, ho] at hv
    cases hb : wholes (partsA s.T ps.toList) with
    | false => rw [hb] at hv; cases hv
    | true =>
      rw [hb, cond_true, Option.map_eq_some_iff] at hv
      obtain ⟨q, h1, h2⟩ := hv
      simp only [Res.val.injEq] at h2
      obtain ⟨rfl, rfl, rfl⟩ := h2
      exact op_buildSlice hC ho m E hf hN hb h1
  | load t x =>
    simp only [aop, ho] at hv
    split at hv
    · rename_i p hp
      rw [Option.map_eq_some_iff] at hv
      obtain ⟨q, h1, h2⟩ := hv
      simp only [Res.val.injEq] at h2
      obtain ⟨rfl, rfl, rfl⟩ := h2
      exact op_load hC ho m E hp h1
    · cases hv
  | store t x y =>
    simp only [aop, ho] at hv
    split at hv
    · rename_i p hp
      rw [Option.map_eq_some_iff] at hv
      obtain ⟨q, h1, h2⟩ := hv
      simp only [Res.val.injEq] at h2
      obtain ⟨rfl, rfl, rfl⟩ := h2
      exact op_store hC ho m E hp h1
    · cases hv
  | nilCheck x =>
    simp only [aop, ho] at hv
    split at hv
    · rename_i p hp
      simp only [Option.some.injEq, Res.val.injEq] at hv
      obtain ⟨rfl, rfl, rfl⟩ := hv
      exact op_nilCheck ho m E hp
    · cases hv
  | binOp op t x y u =>
    simp only [aop, ho, Option.map_eq_some_iff] at hv
    obtain ⟨q, h1, h2⟩ := hv
    simp only [Res.val.injEq] at h2
    obtain ⟨rfl, rfl, rfl⟩ := h2
    exact op_bin hC ho m E h1
  | unOp op t x =>
    have hx := E x (by simp [ho, Op.operands])
    simp only [aop, ho] at hv
    split at hv
    · rename_i k n hp
      rw [Option.map_eq_some_iff] at hv
      obtain ⟨q, h1, h2⟩ := hv
      simp only [Res.val.injEq] at h2
      obtain ⟨rfl, rfl, rfl⟩ := h2
      rw [hp] at hx
      exact op_un ho m E (inv_int hx) h1
    · rename_i b hp
      rw [Option.map_eq_some_iff] at hv
      obtain ⟨q, h1, h2⟩ := hv
      simp only [Res.val.injEq] at h2
      obtain ⟨rfl, rfl, rfl⟩ := h2
      rw [hp] at hx
      exact op_un ho m E (inv_bool hx) h1
    · cases hv
  | convert src dst x => exact op_convert hC ho m E hv0
  | makeFunc f fs cs =>
    cases f with
    | func f =>
      simp only [aop, ho, Option.some.injEq, Res.val.injEq] at hv
      obtain ⟨rfl, rfl, rfl⟩ := hv
      exact op_makeFunc ho m E
    | _ => simp [aop, ho] at hv
  | makeSlice t x y =>
    simp only [aop, ho] at hv
    split at hv
    · rename_i e l c hu hl hc
      split at hv
      · rename_i n z bs hn hz hb
        cases hk : (Nat.ble l c && Nat.ble (c * (bs + 1)) 4294967296 && Nat.beq (cellsOf z).length n && !(Nat.beq n 0)) with
        | false => rw [hk] at hv; cases hv
        | true =>
          rw [hk] at hv
          simp only [cond_true, Option.some.injEq, Res.val.injEq] at hv
          obtain ⟨rfl, rfl, rfl⟩ := hv
          simp only [Bool.and_eq_true, Bool.not_eq_true'] at hk
          exact op_makeSlice hC ho m E hf hN hu hl hc hn hz hb (Nat.le_of_ble_eq_true hk.1.1.1) (Nat.le_of_ble_eq_true hk.1.1.2) (Nat.eq_of_beq_eq_true hk.1.2) (by intro h; subst h; exact absurd hk.2 (by simp))
      · cases hv
    · cases hv
  | slice t x lo hi mx => exact op_slice hC ho m E hv0
  | fieldAddr t x f =>
    simp only [aop, ho] at hv
    split at hv
    · rename_i p g hp hg
      split at hv
      · rename_i k hk
        simp only [Option.some.injEq, Res.val.injEq] at hv
        obtain ⟨rfl, rfl, rfl⟩ := hv
        exact op_fieldAddr hC ho m E hp hg hk
      · cases hv
    · cases hv
  | field t x f =>
    simp only [aop, ho] at hv
    split at hv
    · rename_i cs g hp hg
      rw [Option.map_eq_some_iff] at hv
      obtain ⟨q, h1, h2⟩ := hv
      simp only [Res.val.injEq] at h2
      obtain ⟨rfl, rfl, rfl⟩ := h2
      exact op_field hC ho m E hp hg h1
    · cases hv
  | indexAddr t x ix =>
    have h3 : H' = s.H ∧ nx' = s.nx := by
      simp only [aop, ho] at hv
      split at hv <;> (try split at hv) <;> first | (cases hv; done) | skip
      all_goals
        rename_i q hs
        revert hv
        cases Nat.blt _ _ <;> simp
        intro _ h1 h2
        exact ⟨h1.symm, h2.symm⟩
    obtain ⟨rfl, rfl⟩ := h3
    exact op_indexAddr hC ho m E hv0
  | index t x ix => exact op_index hC ho m E hv0
  | extract x i =>
    simp only [aop, ho] at hv
    split at hv
    · rename_i vs hp
      rw [Option.map_eq_some_iff] at hv
      obtain ⟨q, h1, h2⟩ := hv
      simp only [Res.val.injEq] at h2
      obtain ⟨rfl, rfl, rfl⟩ := h2
      exact op_extract ho m E hp h1
    · cases hv
  | call c =>
    simp only [aop, ho] at hv
    cases hc : c.callee with
    | value f => simp only [hc] at hv; cases hv
    | builtin b => simp only [hc] at hv; exact op_builtin hC ho hc m E hf hN hv
    | invoke x n => simp only [hc] at hv; cases hv
  | _ => simp [aop, ho] at hv

theorem VRs.append {l1 l2 : List AV} {a1 a2 : Array Value} (h1 : VRs env r l1 a1) (h2 : VRs env r l2 a2) : VRs env r (l1 ++ l2) (a1 ++ a2) := by
  refine ⟨by simp [h1.1, h2.1], fun i x x' hx hx' => ?_⟩
  by_cases hi : i < l1.length
  · rw [List.getElem?_append_left hi] at hx
    rw [Array.getElem?_append_left (by rw [← h1.1]; exact hi)] at hx'
    exact h1.2 i x x' hx hx'
  · rw [List.getElem?_append_right (by omega)] at hx
    rw [Array.getElem?_append_right (by rw [← h1.1]; omega)] at hx'
    rw [← h1.1] at hx'
    exact h2.2 _ x x' hx hx'

/-- What a call's answer says of the model's call. -/
def CallerOk (P : Program) (C : Ctx) (env : Nat → Int) (call : Caller) : Prop :=
  ∀ f args H nx v H' nx', call f args H nx = some (v, H', nx') → (∃ fn, C.funcs.get f = some fn ∧ fn.body.isSome = true) ∧
    ∀ r w args' N, MR env r H.get w → Fresh r nx N → nx' ≤ N → VRs env r args args' → Calls P f args' w fun e w' => ∃ v' r', e = .returned v' ∧ VR env r' v v' ∧ Grow env r H.get nx w r' H'.get nx' w'

/-- One operation. -/
theorem step_ok (hC : COk P C env) {call : Caller} (hcall : CallerOk P C env call) {s : St} {a : Act} {w : World} {o : Oper} {N : Nat} {v : AV} {H' : Tr AObj} {nx' : Nat} (m : MR env r s.H.get w) (E : Es env r s.T a o) (hf : Fresh r s.nx N) (hN : nx' ≤ N)
    (hv : stepA P C call s o = some (v, H', nx')) (K : Act → World → Prop) (Q : Exit → Act → World → Prop)
    (hK : ∀ u w' r', Grow env r s.H.get s.nx w r' H'.get nx' w' → VR env r' v u → K (a.put o.dst u) w') : o.wp P a w K Q := by
  unfold stepA at hv
  split at hv
  · rename_i c x hcal
    have hop : o.op = .call c ∧ c.callee = .value x := by
      unfold calleeOf at hcal
      split at hcal
      · rename_i c' hc'
        split at hcal
        · rename_i f hf'
          simp only [Option.some.injEq, Prod.mk.injEq] at hcal
          obtain ⟨rfl, rfl⟩ := hcal
          exact ⟨hc', hf'⟩
        · cases hcal
      · cases hcal
    obtain ⟨ho, hc⟩ := hop
    cases hx : ev s.T x with
    | fn f fs cs => ?_
    | _ => rw [hx] at hv; cases hv
    rw [hx] at hv
    obtain ⟨⟨fn, hfn, hbody⟩, hcalls⟩ := hcall _ _ _ _ _ _ _ hv
    have hxr := E x (by simp [ho, Op.operands, Call.operands, hc])
    rw [hx] at hxr
    obtain ⟨fs', cs', hu, h2, h3⟩ := inv_fn hxr
    have hargs : VRs env r (evs s.T c.args.toList) (c.args.map a.eval) := by
      refine ⟨by simp [evs], fun i y y' hy hy' => ?_⟩
      simp only [evs, List.getElem?_map, Option.map_eq_some_iff] at hy
      obtain ⟨q, hq, rfl⟩ := hy
      simp only [Array.getElem?_map, Option.map_eq_some_iff] at hy'
      obtain ⟨q', hq', rfl⟩ := hy'
      rw [Array.getElem?_toList] at hq
      rw [hq'] at hq
      obtain rfl := Option.some.inj hq
      exact E _ (by simp only [ho, Op.operands, Call.operands]; exact Array.mem_append.2 (.inr (Array.mem_of_getElem? hq')))
    have hrun : (execOp a.eval o).run P w = .ok (.enter f (fs' ++ c.args.map a.eval ++ cs')) w := by
      have hnm := hC.names f fn hfn hbody
      have hnm' : ¬ fn.name = "runtime.NumGoroutine" := by simpa using hnm
      have hb' : ¬ fn.body = none := by intro h; rw [h] at hbody; cases hbody
      have hnone : fn.body.isNone = false := by cases hb : fn.body <;> simp_all
      simp [execOp, ho, resolve, hc, hu, Deferred.ofValue, invoke, callFunc, hC.funcs f fn hfn, hnm', hb']
    unfold Oper.wp
    rw [hrun, Oper.upon_enter]
    refine (hcalls r w _ N m hf hN ((h2.append hargs).append h3)).mono ?_
    rintro e w' ⟨v', r', rfl, hr, g⟩
    exact hK v' w' r' g hr
  · split at hv
    · rename_i v1 H1 nx1 h1
      simp only [Option.some.injEq, Prod.mk.injEq] at hv
      obtain ⟨rfl, rfl, rfl⟩ := hv
      obtain ⟨u, w', r', hrun, g, hr⟩ := aop_val hC m E hf hN h1
      unfold Oper.wp
      rcases hrun with hrun | ⟨hrun, rfl⟩
      · rw [hrun, Oper.upon_value]; exact hK u w' r' g hr
      · rw [hrun, Oper.upon_skip]; exact hK undef w' r' g hr
    · cases hv


theorem dsts_get : ∀ (l : List Oper) (k : Nat) (t : Tr Tmp) (j : Nat), (dstsFrom l k t).get j = if k ≤ j ∧ j < k + l.length then (match (l[j - k]?).bind (·.dst) with | some d => some d | none => t.get j) else t.get j := by
  intro l
  induction l with
  | nil => intro k t j; simp only [dstsFrom, List.length_nil]; rw [if_neg (by omega)]
  | cons o l ih =>
    intro k t j
    simp only [dstsFrom, List.length_cons]
    rw [ih]
    by_cases h : j = k
    · subst h
      rw [if_neg (by omega), if_pos (by omega), Nat.sub_self]
      simp only [List.getElem?_cons_zero, Option.bind_some]
      cases o.dst with
      | none => rfl
      | some d => simp only [Tr.putO]; rw [Tr.get_put_self]
    · have hk : (t.putO k o.dst).get j = t.get j := by
        cases o.dst with
        | none => rfl
        | some d => exact Tr.get_put_ne _ _ _ _ h
      by_cases h2 : k + 1 ≤ j ∧ j < k + 1 + l.length
      · rw [if_pos h2, if_pos (by omega)]
        obtain ⟨d, hd⟩ : ∃ d, j - k = d + 1 := ⟨j - k - 1, by omega⟩
        rw [hd, show j - (k + 1) = d by omega, List.getElem?_cons_succ, hk]
      · rw [if_neg h2, if_neg (by omega), hk]

theorem dsts_ok {ops : Array Oper} {j : Nat} {d : Tmp} (h : (dstsFrom ops.toList 0 .nil).get j = some d) : (ops[j]?).bind (·.dst) = some d := by
  rw [dsts_get] at h
  split at h
  · simp only [Nat.sub_zero, Array.getElem?_toList] at h
    split at h
    · rename_i d' hd'; simp only [Option.some.injEq] at h; subst h; exact hd'
    · simp [Tr.get] at h
  · simp [Tr.get] at h

theorem undone_rel (r : Rel) : VR env r (.tup []) undef := .tup [] #[] rfl (fun i x x' h => by simp at h)
theorem inv_undone {r : Rel} {v : Value} (h : VR env r (.tup []) v) : v = .tuple #[] := by
  cases h with
  | tup _ cs' hc _ =>
    have h0 : cs' = #[] := Array.eq_empty_of_size_eq_zero (by simpa using hc.symm)
    rw [h0]

/-- Whether an operation is done. -/
theorem wanted_ok {ops : Array Oper} {o : Oper} {T : Tr AV} {tmps : Array Value} {b : Bool} (hT : ∀ j want, o.guard = some (j, want) → ∀ d, (ops[j]?).bind (·.dst) = some d → ∀ x, T.get d = some x → VR env r x (tmps.getD d undef))
    (h : wantedA T (dstsFrom ops.toList 0 .nil) o = some b) : Region.wanted o (yielded ops tmps) = b := by
  unfold wantedA at h
  unfold Region.wanted
  cases hg : o.guard with
  | none => rw [hg] at h; simpa using h
  | some p =>
    obtain ⟨j, want⟩ := p
    rw [hg] at h
    simp only at h ⊢
    split at h
    · rename_i q hq
      rw [Option.bind_eq_some_iff] at hq
      obtain ⟨d, hd, hq⟩ := hq
      have hd' := dsts_ok hd
      have hv := inv_bool (hT j want hg d hd' _ hq)
      have ht : tmps[d]? = some (.bool q) := by
        rw [Array.getD_eq_getD_getElem?] at hv
        cases hx : tmps[d]? with
        | none => rw [hx] at hv; cases hv
        | some y => rw [hx] at hv; simp only [Option.getD_some] at hv; rw [hv]
      simp only [Option.some.injEq] at h
      subst h
      simp [yielded, hd', ht]
    · rename_i hq
      rw [Option.bind_eq_some_iff] at hq
      obtain ⟨d, hd, hq⟩ := hq
      have hd' := dsts_ok hd
      have hv := inv_undone (hT j want hg d hd' _ hq)
      have ht : yielded ops tmps j = none := by
        rw [Array.getD_eq_getD_getElem?] at hv
        cases hx : tmps[d]? with
        | none => simp [yielded, hd', hx]
        | some y => rw [hx] at hv; simp only [Option.getD_some] at hv; rw [hv] at hx; simp [yielded, hd', hx]
      simp only [Option.some.injEq] at h
      subst h
      rw [ht]; rfl
    · cases h

theorem Es.of {nt : Nat} {T : Tr AV} {a : Act} (h : TR env r nt T a.tmps) (o : Oper) : Es env r T a o := fun x _ => ev_rel h x

theorem oneA_nx {call : Caller} {nt : Nat} {s s' : St} {o : Oper} (h : oneA P C call nt s o = some s') : s.nx ≤ s'.nx ∧ ∃ v, stepA P C call s o = some (v, s'.H, s'.nx) ∧ putT nt s.T o.dst v = some s'.T := by
  unfold oneA at h
  split at h
  · rename_i v H nx hs
    cases hb : Nat.ble s.nx nx with
    | false => rw [hb] at h; cases h
    | true =>
      rw [hb, cond_true, Option.map_eq_some_iff] at h
      obtain ⟨T, hp, rfl⟩ := h
      exact ⟨Nat.le_of_ble_eq_true hb, v, hs, hp⟩
  · cases h

theorem opsA_nx {call : Caller} {nt : Nat} {D : Tr Tmp} : ∀ {l : List Oper} {s s' : St}, opsA P C call nt D l s = some s' → s.nx ≤ s'.nx := by
  intro l
  induction l with
  | nil => intro s s' h; simp only [opsA, Option.some.injEq] at h; subst h; exact Nat.le_refl _
  | cons o l ih =>
    intro s s' h
    simp only [opsA] at h
    split at h
    · rw [Option.bind_eq_some_iff] at h
      obtain ⟨s1, h1, h2⟩ := h
      exact Nat.le_trans (oneA_nx h1).1 (ih h2)
    · rw [Option.bind_eq_some_iff] at h
      obtain ⟨T1, _, h2⟩ := h
      have h3 := ih h2
      exact h3
    · cases h

/-- Operations in the text's order. -/
theorem opsA_ok (hC : COk P C env) {call : Caller} (hcall : CallerOk P C env call) {ops : Array Oper} {nt N : Nat} {Q : Exit → Act → World → Prop} : ∀ (l : List Oper) (r : Rel) (s s' : St) (a : Act) (w : World), MR env r s.H.get w → TR env r nt s.T a.tmps → Fresh r s.nx N → s'.nx ≤ N →
    opsA P C call nt (dstsFrom ops.toList 0 .nil) l s = some s' →
    (∀ a' w' r', Grow env r s.H.get s.nx w r' s'.H.get s'.nx w' → TR env r' nt s'.T a'.tmps → a'.defers = a.defers → Q .normal a' w') → wpList P ops Q l a w := by
  intro l
  induction l with
  | nil =>
    intro r s s' a w m hT hf hN h hQ
    simp only [opsA, Option.some.injEq] at h
    subst h
    exact hQ a w r (Grow.refl m) hT rfl
  | cons o l ih =>
    intro r s s' a w m hT hf hN h hQ
    simp only [opsA] at h
    unfold wpList
    split at h
    · rename_i hw
      rw [wanted_ok (env := env) (r := r) (fun _ _ _ d _ x hx => hT.2 d x hx) hw, if_pos rfl]
      rw [Option.bind_eq_some_iff] at h
      obtain ⟨s1, h1, h2⟩ := h
      obtain ⟨h3, v, hst, hp⟩ := oneA_nx h1
      have hmono : s1.nx ≤ s'.nx := opsA_nx h2
      refine .inl (step_ok hC hcall m (Es.of hT o) hf (Nat.le_trans hmono hN) hst _ _ ?_)
      intro u w' r' g hr
      refine ih r' _ s' _ w' g.mr (put_rel (hT.mono g.sub) hr hp) (g.fresh m hf) hN h2 ?_
      intro a' w'' r'' g' hT' hd
      refine hQ a' w'' r'' (g.trans m hf hN g') hT' (hd.trans ?_)
      cases o.dst <;> rfl
    · rename_i hw
      rw [wanted_ok (env := env) (r := r) (fun _ _ _ d _ x hx => hT.2 d x hx) hw]
      rw [if_neg (by simp)]
      rw [Option.bind_eq_some_iff] at h
      obtain ⟨T1, hp, h2⟩ := h
      refine ih r ⟨T1, s.H, s.nx⟩ s' _ w m (put_rel hT (undone_rel _) hp) hf hN h2 ?_
      intro a' w'' r'' g' hT' hd
      refine hQ a' w'' r'' g' hT' (hd.trans ?_)
      cases o.dst <;> rfl
    · cases h

end
end Go.Proofs.Ytdndjcofafkafaa.Sim
