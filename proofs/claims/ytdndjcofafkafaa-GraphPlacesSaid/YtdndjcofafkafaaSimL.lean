/- The closed run with KNOWN calls: a call whose answer is proved apart (in every world, of what stood ahead nothing changed) is not run again. Nothing is claimed of the program here; no condition. -/
import Derived.Test.YtdndjcofafkafaaSimK
namespace Go.Proofs.Ytdndjcofafkafaa.Sim
set_option linter.unusedVariables false
set_option linter.unusedSimpArgs false
open Go Go.RowKit

/-- A call whose answer is known. -/
structure Known where
  f : FuncId
  args : List AV
  v : AV

def findK (f : FuncId) (args : List AV) : List Known → Option AV
  | [] => none
  | k :: l => cond (Nat.beq k.f f && sameFlats k.args args) (some k.v) (findK f args l)

def knownA (K : List Known) (call : Caller) : Caller := fun f args H nx =>
  match findK f args K with
  | some v => some (v, H, nx)
  | none => call f args H nx

def callK (P : Program) (C : Ctx) (K : List Known) : Nat → Caller
  | 0 => fun _ _ _ _ => none
  | n + 1 => bodyA P C (knownA K (callK P C K n))

section
variable {P : Program} {C : Ctx} {env : Nat → Int}

def KnownOk (P : Program) (C : Ctx) (env : Nat → Int) (k : Known) : Prop :=
  (∃ fn, C.funcs.get k.f = some fn ∧ fn.body.isSome = true) ∧ ∀ (r : Rel) (args' : Array Value) (w : World), VRs env r k.args args' → Calls P k.f args' w fun e w' => ∃ v', e = .returned v' ∧ (∀ r, VR env r k.v v') ∧ Below w.heap.size w w'

theorem or_below {r : Rel} {b : Nat} {w w' : World} {o : AObj} (hb : ∀ b v c d n, r b v c d n → w'.heap[c]? = w.heap[c]?) (h : OR env r b w o) : OR env r b w' o := by
  cases o with
  | cells xs v => obtain ⟨c, d, n, cs, e, h1, h2, h3⟩ := h; exact ⟨c, d, n, cs, e, h1, by rw [hb _ _ _ _ _ h1]; exact h2, h3⟩
  | map es => obtain ⟨c, ms, clock, h1, h2, h3⟩ := h; exact ⟨c, ms, clock, h1, by rw [hb _ _ _ _ _ h1]; exact h2, h3⟩

theorem grow_below {r : Rel} {H : Mem} {nx : Nat} {w w' : World} (m : MR env r H w) (hb : Below w.heap.size w w') : Grow env r H nx w r H nx w' where
  sub _ _ _ _ _ h := h
  mr := by
    refine ⟨m.fn, fun h => Nat.lt_of_lt_of_le (m.lt h) hb.size, m.ver, fun h => ?_, m.inj⟩
    exact or_below (fun b v c d n hr => hb.block _ (m.lt hr)) (m.obj h)
  nxl := Nat.le_refl _
  old b o h := ⟨o, h, Nat.le_refl _⟩
  dom b o h := .inl ⟨o, h⟩
  new b v c d n h := .inl h
  frame c h _ := hb.block c h
  size := hb.size
  os := hb.os
  tape := hb.tape
  output := hb.output

theorem findK_ok {f : FuncId} {args : List AV} {v : AV} : ∀ {K : List Known}, findK f args K = some v → ∃ k ∈ K, k.f = f ∧ sameFlats k.args args = true ∧ k.v = v := by
  intro K
  induction K with
  | nil => intro h; cases h
  | cons k l ih =>
    intro h
    simp only [findK] at h
    cases hb : (Nat.beq k.f f && sameFlats k.args args) with
    | true =>
      rw [hb] at h
      simp only [cond_true, Option.some.injEq] at h
      rw [Bool.and_eq_true] at hb
      exact ⟨k, by simp, Nat.eq_of_beq_eq_true hb.1, hb.2, h⟩
    | false =>
      rw [hb] at h
      obtain ⟨k', h1, h2⟩ := ih h
      exact ⟨k', by simp [h1], h2⟩

theorem knownA_ok {K : List Known} (hK : ∀ k ∈ K, KnownOk P C env k) {call : Caller} (ih : CallerOk P C env call ∧ CallerSane call) : CallerOk P C env (knownA K call) ∧ CallerSane (knownA K call) := by
  refine ⟨fun f args H nx v H' nx' h => ?_, fun f args H nx v H' nx' h => ?_⟩
  · unfold knownA at h
    split at h
    · rename_i v1 hf
      simp only [Option.some.injEq, Prod.mk.injEq] at h
      obtain ⟨rfl, rfl, rfl⟩ := h
      obtain ⟨k, hk, rfl, hsame, rfl⟩ := findK_ok hf
      obtain ⟨hfn, hcall⟩ := hK k hk
      have hargs := fssame hsame
      subst hargs
      refine ⟨hfn, fun r w args' N m hf hN hargs => (hcall r args' w hargs).mono ?_⟩
      rintro e w' ⟨v', rfl, hv, hb⟩
      exact ⟨v', r, rfl, hv r, grow_below m hb⟩
    · exact ih.1 f args H nx v H' nx' h
  · unfold knownA at h
    split at h
    · simp only [Option.some.injEq, Prod.mk.injEq] at h
      obtain ⟨rfl, rfl, rfl⟩ := h
      exact Sane.refl _ _
    · exact ih.2 f args H nx v H' nx' h

theorem callK_ok (hC : COk P C env) (hm : P.follows .mixedOrders = true) {K : List Known} (hK : ∀ k ∈ K, KnownOk P C env k) : ∀ n, CallerOk P C env (callK P C K n) ∧ CallerSane (callK P C K n) := by
  intro n
  induction n with
  | zero => exact ⟨fun f args H nx v H' nx' h => (nomatch h), fun f args H nx v H' nx' h => (nomatch h)⟩
  | succ n ih => exact bodyA_ok hC hm (knownA_ok hK ih)

theorem callsK_bool (hC : COk P C env) (hm : P.follows .mixedOrders = true) {K : List Known} (hK : ∀ k ∈ K, KnownOk P C env k) {n : Nat} {f : FuncId} {args : List AV} {args' : Array Value} {b : Bool} (h : askB b (callK P C K n f args .nil 0) = true)
    (hargs : VRs env (fun _ _ _ _ _ => False) args args') (w : World) : Calls P f args' w fun e w' => e = .returned (.bool b) ∧ Below w.heap.size w w' := by
  unfold askB at h
  split at h
  · rename_i c H' nx' hc
    have hcb : c = b := by simpa using h
    subst hcb
    have hN : ∀ b, (Tr.nil : Tr AObj).get b = none := fun b => rfl
    have m : MR env (fun _ _ _ _ _ => False) (Tr.nil : Tr AObj).get w :=
      ⟨fun h => h.elim, fun h => h.elim, fun _ h => h.elim, fun h => (by rw [hN] at h; cases h), fun _ _ h => h.elim⟩
    refine (((callK_ok hC hm hK n).1 f args .nil 0 _ H' nx' hc).2 (fun _ _ _ _ _ => False) w args' nx' m (fun _ _ _ _ _ h => h.elim) (Nat.le_refl _) hargs).mono ?_
    rintro e w' ⟨v', r', rfl, hr, g⟩
    rw [inv_bool hr]
    exact ⟨rfl, g.below⟩
  · cases h

/-- A function without arguments whose answer is a bool, once shown. -/
theorem known_bool {f : FuncId} {b : Bool} (hf : (match C.funcs.get f with | some fn => fn.body.isSome | none => false) = true) (h : ∀ w, Calls P f #[] w fun e w' => e = .returned (.bool b) ∧ Below w.heap.size w w') : KnownOk P C env ⟨f, [], .bool b⟩ := by
  refine ⟨?_, fun r args' w hargs => ?_⟩
  · cases hg : C.funcs.get f with
    | none => rw [hg] at hf; cases hf
    | some fn => rw [hg] at hf; exact ⟨fn, rfl, hf⟩
  · have h0 : args' = #[] := Array.eq_empty_of_size_eq_zero (by simpa using hargs.1.symm)
    subst h0
    refine (h w).mono ?_
    rintro e w' ⟨rfl, g⟩
    exact ⟨_, rfl, fun r => .bool _, g⟩

end
end Go.Proofs.Ytdndjcofafkafaa.Sim
