/- Code and calls: a run of the interpreter that comes to a value shows what the model's call does, in every world. Nothing is claimed of the program here; no condition. -/
import Derived.Test.YtdndjcofafkafaaSimH
import Derived.Scope
namespace Go.Proofs.Ytdndjcofafkafaa.Sim
set_option linter.unusedVariables false
set_option linter.unusedSimpArgs false
open Go Go.RowKit

section
variable {P : Program} {C : Ctx} {env : Nat → Int} {nt : Nat}

def exOf : Ex → Exit
  | .norm => .normal
  | .exit id => .exit id
  | .ret => .ret

theorem drawGo_sane (hC : COk P C env) {call : Caller} (hcall : CallerOk P C env call) (hsane : CallerSane call) {anc : Tr Nat} {D : Tr Tmp} : ∀ {l : List Oper} {j : Nat} {log : List (Nat × Acc)} {s s' : St}, drawGo P C call nt D anc l j log s = some s' → Sane s.H s.nx s'.H s'.nx := by
  intro l
  induction l with
  | nil => intro j log s s' h; simp only [drawGo, Option.some.injEq] at h; subst h; exact Sane.refl _ _
  | cons o l ih =>
    intro j log s s' h
    simp only [drawGo] at h
    split at h
    · split at h
      · rename_i v H nx acc hst
        revert h
        cases hb : (Nat.ble s.nx nx && okLog anc j acc log) <;> intro h
        · cases h
        · rw [cond_true, Option.bind_eq_some_iff] at h
          obtain ⟨T, _, h2⟩ := h
          rw [Bool.and_eq_true] at hb
          have hle : s.nx ≤ nx := Nat.le_of_ble_eq_true hb.1
          obtain ⟨V, V', _, d2, d3, d4, _⟩ := drawStep_ok hC hcall hsane hst hle
          have h1 : Sane s.H s.nx H nx := by
            refine ⟨hle, fun b hb => ?_⟩
            by_cases hv : V b = none
            · by_cases hn : s.nx ≤ b ∧ b < nx
              · exact .inr hn
              · rw [d4 b hv hn] at hb; exact .inl hb
            · obtain ⟨q, hq⟩ := Option.ne_none_iff_exists'.1 hv
              exact .inl (by rw [d2 b q hq]; simp)
          exact h1.trans (ih h2)
      · cases h
    · rw [Option.bind_eq_some_iff] at h
      obtain ⟨T, _, h2⟩ := h
      have h3 := ih h2
      exact h3
    · cases h

theorem opsA_sane {call : Caller} (hsane : CallerSane call) {D : Tr Tmp} : ∀ {l : List Oper} {s s' : St}, opsA P C call nt D l s = some s' → Sane s.H s.nx s'.H s'.nx := by
  intro l
  induction l with
  | nil => intro s s' h; simp only [opsA, Option.some.injEq] at h; subst h; exact Sane.refl _ _
  | cons o l ih =>
    intro s s' h
    simp only [opsA] at h
    split at h
    · rw [Option.bind_eq_some_iff] at h
      obtain ⟨s1, h1, h2⟩ := h
      obtain ⟨_, v, hst, _⟩ := oneA_nx h1
      exact (stepA_sane hsane hst).trans (ih h2)
    · rw [Option.bind_eq_some_iff] at h
      obtain ⟨T1, _, h2⟩ := h
      have h3 := ih h2
      exact h3
    · cases h

theorem loopA_sane {f : St → Option (Ex × St)} (hf : ∀ s ex s', f s = some (ex, s') → Sane s.H s.nx s'.H s'.nx) : ∀ {n : Nat} {s : St} {ex : Ex} {s' : St}, loopA f n s = some (ex, s') → Sane s.H s.nx s'.H s'.nx := by
  intro n
  induction n with
  | zero => intro s ex s' h; cases h
  | succ n ih =>
    intro s ex s' h
    simp only [loopA] at h
    split at h
    · rename_i s1 h1
      exact (hf _ _ _ h1).trans (ih h)
    · exact hf _ _ _ h

theorem codeA_sane (hC : COk P C env) {call : Caller} (hcall : CallerOk P C env call) (hsane : CallerSane call) : ∀ (c : Code) (s : St) (ex : Ex) (s' : St), codeA P C call nt c s = some (ex, s') → Sane s.H s.nx s'.H s'.nx := by
  intro c
  induction c with
  | skip => intro s ex s' h; simp only [codeA, Option.some.injEq, Prod.mk.injEq] at h; obtain ⟨_, rfl⟩ := h; exact Sane.refl _ _
  | label l => intro s ex s' h; simp only [codeA, Option.some.injEq, Prod.mk.injEq] at h; obtain ⟨_, rfl⟩ := h; exact Sane.refl _ _
  | region id ops d =>
    intro s ex s' h
    cases d with
    | false =>
      simp only [codeA, Option.map_eq_some_iff] at h
      obtain ⟨s1, h1, h2⟩ := h
      simp only [Prod.mk.injEq] at h2
      obtain ⟨_, rfl⟩ := h2
      exact opsA_sane hsane h1
    | true =>
      simp only [codeA, Option.map_eq_some_iff] at h
      obtain ⟨s1, h1, h2⟩ := h
      simp only [Prod.mk.injEq] at h2
      obtain ⟨_, rfl⟩ := h2
      unfold drawA at h1
      split at h1
      · revert h1
        cases (apartAll ops _ ops.toList 0 && Region.noSelect ops) <;> intro h1
        · cases h1
        · exact drawGo_sane hC hcall hsane h1
      · cases h1
  | seq x y ihx ihy =>
    intro s ex s' h
    simp only [codeA] at h
    split at h
    · rename_i s1 h1
      exact (ihx _ _ _ h1).trans (ihy _ _ _ h)
    · exact ihx _ _ _ h
  | cond c x y ihx ihy =>
    intro s ex s' h
    simp only [codeA] at h
    split at h
    · exact ihx _ _ _ h
    · exact ihy _ _ _ h
    · cases h
  | block id x ih =>
    intro s ex s' h
    simp only [codeA] at h
    split at h
    · rename_i i s1 h1
      revert h
      cases Nat.beq i id <;> intro h
      · simp only [cond_false, Option.some.injEq, Prod.mk.injEq] at h; obtain ⟨_, rfl⟩ := h; exact ih _ _ _ h1
      · simp only [cond_true, Option.some.injEq, Prod.mk.injEq] at h; obtain ⟨_, rfl⟩ := h; exact ih _ _ _ h1
    · exact ih _ _ _ h
  | scope x ih =>
    intro s ex s' h
    simp only [codeA] at h
    exact ih _ _ _ h
  | loop x ih =>
    intro s ex s' h
    simp only [codeA] at h
    exact loopA_sane ih h
  | exit id => intro s ex s' h; simp only [codeA, Option.some.injEq, Prod.mk.injEq] at h; obtain ⟨_, rfl⟩ := h; exact Sane.refl _ _
  | ret => intro s ex s' h; simp only [codeA, Option.some.injEq, Prod.mk.injEq] at h; obtain ⟨_, rfl⟩ := h; exact Sane.refl _ _
  | _ => intro s ex s' h; simp [codeA] at h

/-- A piece of code. -/
def CodeOk (P : Program) (C : Ctx) (env : Nat → Int) (call : Caller) (nt : Nat) (c : Code) : Prop :=
  ∀ (s : St) (ex : Ex) (s' : St), codeA P C call nt c s = some (ex, s') → ∀ (r : Rel) (a : Act) (w : World) (N : Nat), MR env r s.H.get w → TR env r nt s.T a.tmps → Fresh r s.nx N → s'.nx ≤ N → ∀ Q : Exit → Act → World → Prop,
    (∀ a' w' r', Grow env r s.H.get s.nx w r' s'.H.get s'.nx w' → TR env r' nt s'.T a'.tmps → a'.defers = a.defers → Q (exOf ex) a' w') → c.wp P Q a w

theorem loop_ok {call : Caller} (hsn : ∀ (c : Code) (s : St) (ex : Ex) (s' : St), codeA P C call nt c s = some (ex, s') → Sane s.H s.nx s'.H s'.nx) {c : Code} (ih : CodeOk P C env call nt c) : ∀ (n : Nat) (s : St) (ex : Ex) (s' : St), loopA (codeA P C call nt c) n s = some (ex, s') →
    ∀ (r : Rel) (a : Act) (w : World) (N : Nat), MR env r s.H.get w → TR env r nt s.T a.tmps → Fresh r s.nx N → s'.nx ≤ N → ∀ Q : Exit → Act → World → Prop,
    (∀ a' w' r', Grow env r s.H.get s.nx w r' s'.H.get s'.nx w' → TR env r' nt s'.T a'.tmps → a'.defers = a.defers → Q (exOf ex) a' w') →
    ∀ (b : Frame) (k : List Item) (cs : List Frame), ∃ e a' w', Q e a' w' ∧ Arrives P (lone (b.at a (.code c :: .inLoop c :: k)) cs w) b k cs e a' w' := by
  intro n
  induction n with
  | zero => intro s ex s' h; cases h
  | succ n ihn =>
    intro s ex s' h r a w N m hT hf hN Q hQ b k cs
    simp only [loopA] at h
    split at h
    · rename_i s1 h1
      have hle : s1.nx ≤ s'.nx := (loopA_sane (hsn c) h).1
      obtain ⟨e, a1, w1, ⟨rfl, r1, g, hT1, hd⟩, harr⟩ := ih s .norm s1 h1 r a w N m hT hf (by omega)
        (fun e a' w' => e = .normal ∧ ∃ r', Grow env r s.H.get s.nx w r' s1.H.get s1.nx w' ∧ TR env r' nt s1.T a'.tmps ∧ a'.defers = a.defers) (fun a' w' r' g hT' hd => ⟨rfl, r', g, hT', hd⟩) b (.inLoop c :: k) cs
      obtain ⟨e2, a2, w2, hq, harr2⟩ := ihn s1 ex s' h r1 a1 w1 N g.mr hT1 (g.fresh m hf) hN Q (fun a' w' r' g' hT' hd' => hQ a' w' r' (g.trans m hf hN g') hT' (hd'.trans hd)) b k cs
      exact ⟨e2, a2, w2, hq, .of_steps (Steps.trans harr (.one step_inLoop)) harr2⟩
    · rename_i hne
      obtain ⟨e, a1, w1, ⟨rfl, hq⟩, harr⟩ := ih s ex s' h r a w N m hT hf hN (fun e a' w' => e = exOf ex ∧ Q e a' w') (fun a' w' r' g hT' hd => ⟨rfl, hQ a' w' r' g hT' hd⟩) b (.inLoop c :: k) cs
      refine ⟨exOf ex, a1, w1, hq, .pass (x := .inLoop c) rfl (fun _ _ => .inl ?_) harr⟩
      cases ex with
      | norm => exact absurd h (hne s')
      | exit id => intro hh; cases hh
      | ret => intro hh; cases hh

theorem codeA_ok (hC : COk P C env) {call : Caller} (hcall : CallerOk P C env call) (hsane : CallerSane call) (hm : P.follows .mixedOrders = true) : ∀ c : Code, CodeOk P C env call nt c := by
  have hsn := codeA_sane (nt := nt) hC hcall hsane
  intro c
  induction c with
  | skip =>
    intro s ex s' h r a w N m hT hf hN Q hQ
    simp only [codeA, Option.some.injEq, Prod.mk.injEq] at h; obtain ⟨rfl, rfl⟩ := h
    exact wp_skip (hQ a w r (Grow.refl m) hT rfl)
  | label l =>
    intro s ex s' h r a w N m hT hf hN Q hQ
    simp only [codeA, Option.some.injEq, Prod.mk.injEq] at h; obtain ⟨rfl, rfl⟩ := h
    exact wp_label (hQ a w r (Grow.refl m) hT rfl)
  | region id ops d =>
    intro s ex s' h r a w N m hT hf hN Q hQ
    cases d with
    | false =>
      simp only [codeA, Option.map_eq_some_iff] at h
      obtain ⟨s1, h1, h2⟩ := h
      simp only [Prod.mk.injEq] at h2
      obtain ⟨rfl, rfl⟩ := h2
      exact wp_region_list (opsA_ok hC hcall ops.toList r s s1 a w m hT hf hN h1 hQ)
    | true =>
      simp only [codeA, Option.map_eq_some_iff] at h
      obtain ⟨s1, h1, h2⟩ := h
      simp only [Prod.mk.injEq] at h2
      obtain ⟨rfl, rfl⟩ := h2
      exact drawA_ok hC hcall hsane hm m hT hf hN h1 hQ
  | seq x y ihx ihy =>
    intro s ex s' h r a w N m hT hf hN Q hQ
    simp only [codeA] at h
    split at h
    · rename_i s1 h1
      have hle := (hsn y _ _ _ h).1
      refine wp_seq (ihx s .norm s1 h1 r a w N m hT hf (by omega) _ fun a1 w1 r1 g hT1 hd => ?_)
      exact ihy s1 ex s' h r1 a1 w1 N g.mr hT1 (g.fresh m hf) hN Q fun a' w' r' g' hT' hd' => hQ a' w' r' (g.trans m hf hN g') hT' (hd'.trans hd)
    · rename_i hne
      refine wp_seq (ihx s ex s' h r a w N m hT hf hN _ fun a1 w1 r1 g hT1 hd => ?_)
      have hq := hQ a1 w1 r1 g hT1 hd
      cases ex with
      | norm => exact absurd h (hne s')
      | exit id => exact hq
      | ret => exact hq
  | cond c x y ihx ihy =>
    intro s ex s' h r a w N m hT hf hN Q hQ
    simp only [codeA] at h
    split at h
    · rename_i hc
      have := ev_rel hT c
      rw [hc] at this
      exact wp_cond_true (inv_bool this) (ihx s ex s' h r a w N m hT hf hN Q hQ)
    · rename_i hc
      have := ev_rel hT c
      rw [hc] at this
      exact wp_cond_false (inv_bool this) (ihy s ex s' h r a w N m hT hf hN Q hQ)
    · cases h
  | block id x ih =>
    intro s ex s' h r a w N m hT hf hN Q hQ
    simp only [codeA] at h
    split at h
    · rename_i i s1 h1
      revert h
      cases hb : Nat.beq i id <;> intro h
      · simp only [cond_false, Option.some.injEq, Prod.mk.injEq] at h
        obtain ⟨rfl, rfl⟩ := h
        refine wp_block (ih s _ _ h1 r a w N m hT hf hN _ fun a1 w1 r1 g hT1 hd => ?_)
        show Exit.inBlock id Q (.exit i) a1 w1
        simp only [Exit.inBlock]
        rw [if_neg (by intro e; rw [e] at hb; simp at hb)]
        exact hQ a1 w1 r1 g hT1 hd
      · simp only [cond_true, Option.some.injEq, Prod.mk.injEq] at h
        obtain ⟨rfl, rfl⟩ := h
        refine wp_block (ih s _ _ h1 r a w N m hT hf hN _ fun a1 w1 r1 g hT1 hd => ?_)
        show Exit.inBlock id Q (.exit i) a1 w1
        simp only [Exit.inBlock]
        rw [if_pos (Nat.eq_of_beq_eq_true hb)]
        exact hQ a1 w1 r1 g hT1 hd
    · rename_i hne
      refine wp_block (ih s _ _ h r a w N m hT hf hN _ fun a1 w1 r1 g hT1 hd => ?_)
      have hq := hQ a1 w1 r1 g hT1 hd
      cases ex with
      | norm => exact hq
      | exit i => exact absurd h (hne i s')
      | ret => exact hq
  | scope x ih =>
    intro s ex s' h r a w N m hT hf hN Q hQ
    simp only [codeA] at h
    refine wp_scope_straight (ih s _ _ h r a w N m hT hf hN _ fun a1 w1 r1 g hT1 hd => ?_)
    have hq := hQ a1 w1 r1 g hT1 hd
    cases ex with
    | norm => exact hq
    | exit i => exact hq
    | ret => exact hq
  | loop x ih =>
    intro s ex s' h r a w N m hT hf hN Q hQ
    simp only [codeA] at h
    intro b k cs
    obtain ⟨e, a', w', hq, harr⟩ := loop_ok hsn ih _ s ex s' h r a w N m hT hf hN Q hQ b k cs
    exact ⟨e, a', w', hq, .of_steps (.one step_loop) harr⟩
  | exit id =>
    intro s ex s' h r a w N m hT hf hN Q hQ
    simp only [codeA, Option.some.injEq, Prod.mk.injEq] at h; obtain ⟨rfl, rfl⟩ := h
    exact wp_exit (hQ a w r (Grow.refl m) hT rfl)
  | ret =>
    intro s ex s' h r a w N m hT hf hN Q hQ
    simp only [codeA, Option.some.injEq, Prod.mk.injEq] at h; obtain ⟨rfl, rfl⟩ := h
    exact wp_ret (hQ a w r (Grow.refl m) hT rfl)
  | _ => intro s ex s' h; simp [codeA] at h

def resF (tmps : Array Value) : ResultVar → Sem Value
  | .tmp t => pure (tmps.getD t undef)
  | .cell a t => do loadVar t (← asAddr (tmps.getD a undef))

theorem results_eq (fn : Func) (tmps : Array Value) : results fn tmps = (fn.results.mapM (resF tmps) >>= fun vs => pure (if h : vs.size = 1 then vs[0] else .tuple vs)) := rfl

theorem res_ok (hC : COk P C env) {r : Rel} {s : St} {w : World} {tmps : Array Value} (m : MR env r s.H.get w) (hT : TR env r nt s.T tmps) : ∀ {l : List ResultVar} {vs : List AV}, resAs C s l = some vs →
    ∃ us : List Value, (l.mapM (resF tmps)).run P w = .ok us w ∧ vs.length = us.length ∧ ∀ (i : Nat) x u, vs[i]? = some x → us[i]? = some u → VR env r x u := by
  intro l
  induction l with
  | nil => intro vs h; simp only [resAs, Option.some.injEq] at h; subst h; exact ⟨[], rfl, rfl, fun i x u hx => by simp at hx⟩
  | cons q l ih =>
    intro vs h
    simp only [resAs] at h
    split at h
    · rename_i v vs' h1 h2
      simp only [Option.some.injEq] at h
      subst h
      obtain ⟨us, g1, g2, g3⟩ := ih h2
      have hone : ∃ u, (resF tmps q).run P w = .ok u w ∧ VR env r v u := by
        cases q with
        | tmp t =>
          simp only [resA] at h1
          exact ⟨_, rfl, hT.2 t v h1⟩
        | cell a t =>
          simp only [resA] at h1
          split at h1
          · rename_i p hp
            obtain ⟨c, d, n, hu, hr⟩ := inv_ptr (hT.2 a _ hp)
            obtain ⟨u, k1, k2⟩ := load_ok hC m h1 hr
            refine ⟨u, ?_, k2⟩
            simp only [resF, hu, asAddr, Sem.run_bind, Sem.run_pure, Result.andThen_ok, k1]
          · cases h1
      obtain ⟨u, k1, k2⟩ := hone
      refine ⟨u :: us, ?_, by simp [g2], fun i x y hx hy => ?_⟩
      · rw [List.mapM_cons, Sem.run_bind, k1]
        simp only [Result.andThen_ok, Sem.run_bind, g1, Sem.run_pure]
      · cases i with
        | zero => simp only [List.getElem?_cons_zero, Option.some.injEq] at hx hy; subst hx; subst hy; exact k2
        | succ i => exact g3 i x y (by simpa using hx) (by simpa using hy)
    · cases h

theorem results_ok (hC : COk P C env) {r : Rel} {s : St} {w : World} {tmps : Array Value} {fn : Func} (m : MR env r s.H.get w) (hT : TR env r nt s.T tmps) {vs : List AV} (h : resAs C s fn.results.toList = some vs) :
    ∃ v, (results fn tmps).run P w = .ok v w ∧ VR env r (oneOf vs) v := by
  obtain ⟨us, g1, g2, g3⟩ := res_ok (P := P) hC m hT h
  refine ⟨if h : us.toArray.size = 1 then us.toArray[0] else .tuple us.toArray, ?_, ?_⟩
  · rw [results_eq, Array.mapM_eq_mapM_toList]
    simp only [Sem.run_bind, Sem.run_map, g1, Result.andThen_ok, Sem.run_pure]
  · match vs, us, g2, g3 with
    | [x], [u], _, g3 => exact g3 0 x u rfl rfl
    | [], [], _, g3 => exact .tup [] #[] rfl (fun i x x' hx => by simp at hx)
    | x :: y :: l, u :: v :: l', g2, g3 =>
      have : ¬ ((u :: v :: l').toArray.size = 1) := by simp
      rw [dif_neg this]
      exact .tup _ _ (by simpa using g2) (fun i x' u' hx hu => g3 i x' u' hx (by simpa using hu))

/-- A call by its function's body, of which every call goes to the given caller. -/
def bodyA (P : Program) (C : Ctx) (call : Caller) : Caller := fun f args H nx =>
  match C.funcs.get f with
  | none => none
  | some fn => match fn.body with
    | none => none
    | some c => cond (Nat.ble args.length fn.ntmps)
      (match codeA P C call fn.ntmps c ⟨Tr.ofFrom args 0 .nil, H, nx⟩ with
      | some (.norm, s) => (resAs C s fn.results.toList).map fun l => (oneOf l, s.H, s.nx)
      | some (.ret, s) => (resAs C s fn.results.toList).map fun l => (oneOf l, s.H, s.nx)
      | _ => none) none

theorem bodyA_ok (hC : COk P C env) (hm : P.follows .mixedOrders = true) {call : Caller} (ih : CallerOk P C env call ∧ CallerSane call) : CallerOk P C env (bodyA P C call) ∧ CallerSane (bodyA P C call) := by
    have main : ∀ f args H nx v H' nx', bodyA P C call f args H nx = some (v, H', nx') → ∃ fn c s ex vs, C.funcs.get f = some fn ∧ fn.body = some c ∧ args.length ≤ fn.ntmps ∧ codeA P C call fn.ntmps c ⟨Tr.ofFrom args 0 .nil, H, nx⟩ = some (ex, s) ∧ (ex = .norm ∨ ex = .ret) ∧ resAs C s fn.results.toList = some vs ∧ v = oneOf vs ∧ H' = s.H ∧ nx' = s.nx := by
      intro f args H nx v H' nx' h
      simp only [bodyA] at h
      split at h
      · cases h
      · rename_i fn hfn
        split at h
        · cases h
        · rename_i c hc
          revert h
          cases hb : Nat.ble args.length fn.ntmps <;> intro h
          · cases h
          · rw [cond_true] at h
            split at h
            · rename_i s hs
              rw [Option.map_eq_some_iff] at h
              obtain ⟨vs, h1, h2⟩ := h
              simp only [Prod.mk.injEq] at h2
              obtain ⟨rfl, rfl, rfl⟩ := h2
              exact ⟨fn, c, s, .norm, vs, hfn, hc, Nat.le_of_ble_eq_true hb, hs, .inl rfl, h1, rfl, rfl, rfl⟩
            · rename_i s hs
              rw [Option.map_eq_some_iff] at h
              obtain ⟨vs, h1, h2⟩ := h
              simp only [Prod.mk.injEq] at h2
              obtain ⟨rfl, rfl, rfl⟩ := h2
              exact ⟨fn, c, s, .ret, vs, hfn, hc, Nat.le_of_ble_eq_true hb, hs, .inr rfl, h1, rfl, rfl, rfl⟩
            · cases h
    refine ⟨fun f args H nx v H' nx' h => ?_, fun f args H nx v H' nx' h => ?_⟩
    · obtain ⟨fn, c, s, ex, vs, hfn, hc, hlen, hcode, hex, hres, rfl, rfl, rfl⟩ := main f args H nx v H' nx' h
      refine ⟨⟨fn, hfn, by rw [hc]; rfl⟩, fun r w args' N m hf hN hargs => ?_⟩
      refine calls_of_wp (hC.funcs f fn hfn) hc ?_
      have hT : TR env r fn.ntmps (Tr.ofFrom args 0 .nil) (args' ++ Array.replicate (fn.ntmps - args'.size) undef) := by
        have hsz := hargs.1
        refine ⟨by simp; omega, fun t x hx => ?_⟩
        have hx' := ofFrom_get _ _ _ hx
        obtain ⟨u, h1, h2⟩ := hargs.get hx'
        have hlt : t < args'.size := (Array.getElem?_eq_some_iff.1 h1).1
        rw [Array.getD_eq_getD_getElem?, Array.getElem?_append_left hlt, h1]
        exact h2
      refine codeA_ok hC ih.1 ih.2 hm c ⟨Tr.ofFrom args 0 .nil, H, nx⟩ ex s hcode r _ w N m hT hf hN _ fun a' w' r' g hT' hd => ?_
      obtain ⟨u, h1, h2⟩ := results_ok (P := P) (fn := fn) hC g.mr hT' hres
      have : bodyPost P fn (fun e w' => ∃ v' r', e = .returned v' ∧ VR env r' (oneOf vs) v' ∧ Grow env r H.get nx w r' s.H.get s.nx w') .normal a' w' := ⟨hd, u, h1, u, r', rfl, h2, g⟩
      rcases hex with rfl | rfl
      · exact this
      · exact this
    · obtain ⟨fn, c, s, ex, vs, hfn, hc, hlen, hcode, hex, hres, rfl, rfl, rfl⟩ := main f args H nx v H' nx' h
      have := codeA_sane hC ih.1 ih.2 c _ _ _ hcode
      exact this


theorem callA_ok (hC : COk P C env) (hm : P.follows .mixedOrders = true) : ∀ n, CallerOk P C env (callA P C n) ∧ CallerSane (callA P C n) := by
  intro n
  induction n with
  | zero => exact ⟨fun f args H nx v H' nx' h => (nomatch h), fun f args H nx v H' nx' h => (nomatch h)⟩
  | succ n ih => exact bodyA_ok hC hm ih

/-- A CALL: the interpreter's run from an empty memory, of arguments without addresses, shows what the model's call answers in every world; of what stood ahead of it nothing has changed. -/
theorem calls_run (hC : COk P C env) (hm : P.follows .mixedOrders = true) {n : Nat} {f : FuncId} {args : List AV} {args' : Array Value} {v : AV} {H' : Tr AObj} {nx' : Nat} (h : callA P C n f args .nil 0 = some (v, H', nx'))
    (hargs : VRs env (fun _ _ _ _ _ => False) args args') (w : World) : Calls P f args' w fun e w' => ∃ v' r', e = .returned v' ∧ VR env r' v v' ∧ Below w.heap.size w w' := by
  have hN : ∀ b, (Tr.nil : Tr AObj).get b = none := fun b => rfl
  have m : MR env (fun _ _ _ _ _ => False) (Tr.nil : Tr AObj).get w :=
    ⟨fun h => h.elim, fun h => h.elim, fun _ h => h.elim, fun h => (by rw [hN] at h; cases h), fun _ _ h => h.elim⟩
  refine (((callA_ok hC hm n).1 f args .nil 0 v H' nx' h).2 (fun _ _ _ _ _ => False) w args' nx' m (fun _ _ _ _ _ h => h.elim) (Nat.le_refl _) hargs).mono ?_
  rintro e w' ⟨v', r', rfl, hr, g⟩
  exact ⟨v', r', rfl, hr, g.below⟩

/-- Is the answer this one? -/
def askB (b : Bool) : Option (AV × Tr AObj × Nat) → Bool
  | some (.bool c, _, _) => c == b
  | _ => false

theorem calls_bool (hC : COk P C env) (hm : P.follows .mixedOrders = true) {n : Nat} {f : FuncId} {args : List AV} {args' : Array Value} {b : Bool} (h : askB b (callA P C n f args .nil 0) = true)
    (hargs : VRs env (fun _ _ _ _ _ => False) args args') (w : World) : Calls P f args' w fun e w' => e = .returned (.bool b) ∧ Below w.heap.size w w' := by
  unfold askB at h
  split at h
  · rename_i c H' nx' hc
    have hcb : c = b := by simpa using h
    subst hcb
    refine (calls_run hC hm hc hargs w).mono ?_
    rintro e w' ⟨v', r', rfl, hr, g⟩
    rw [inv_bool hr]
    exact ⟨rfl, g⟩
  · cases h

end

/-- The context of a program, its conditions by a look at the program's tables. -/
theorem ctx_ok {P : Program} {facts : List Fact} {env : Nat → Int} (hn : (P.funcs.toList.all fun fn => fn.body.isNone || !(fn.name == "runtime.NumGoroutine")) = true) (hf : ∀ f ∈ facts, FactOk P env f) : COk P (ctxOf P facts) env where
  types t i h := by
    have h1 := ofFrom_get _ _ _ h
    rw [Array.getElem?_toList] at h1
    have hlt : t < P.types.size := (Array.getElem?_eq_some_iff.1 h1).1
    show P.toTables.info? t = some i
    unfold Tables.info?
    rw [if_pos hlt]
    exact h1
  funcs f fn h := by
    have h1 := ofFrom_get _ _ _ h
    rw [Array.getElem?_toList] at h1
    exact h1
  names f fn h hb := by
    have h1 := ofFrom_get _ _ _ h
    have h2 := List.all_eq_true.1 hn fn (List.mem_of_getElem? h1)
    have h3 : fn.body.isNone = false := by cases hx : fn.body <;> simp_all
    rw [h3] at h2
    simpa using h2
  facts := hf


theorem vrs0 {env : Nat → Int} {r : Rel} : VRs env r [] #[] := ⟨rfl, fun i x x' h => by simp at h⟩
theorem vrs1 {env : Nat → Int} {r : Rel} {x : AV} {u : Value} (h : VR env r x u) : VRs env r [x] #[u] := by
  refine ⟨rfl, fun i y y' hy hy' => ?_⟩
  cases i with
  | zero => simp at hy hy'; subst hy; subst hy'; exact h
  | succ i => simp at hy
theorem vrs_cons {env : Nat → Int} {r : Rel} {x : AV} {u : Value} {l : List AV} {l' : List Value} (h : VR env r x u) (hl : VRs env r l l'.toArray) : VRs env r (x :: l) (u :: l').toArray := by
  refine ⟨by have := hl.1; simpa using this, fun i y y' hy hy' => ?_⟩
  cases i with
  | zero => simp at hy hy'; subst hy; subst hy'; exact h
  | succ i => exact hl.2 i y y' (by simpa using hy) (by simpa using hy')

end Go.Proofs.Ytdndjcofafkafaa.Sim
