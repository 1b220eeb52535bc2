/- Operation by operation, the fourth part: slices, conversions, function values. Nothing is claimed of the program here; no condition. -/
import Derived.Test.YtdndjcofafkafaaSim6
import Derived.Laws.Slices
import Derived.Laws.BytesString
import Derived.IntWalk
namespace Go.Proofs.Ytdndjcofafkafaa.Sim
set_option linter.unusedVariables false
set_option linter.unusedSimpArgs false
open Go Go.RowKit

section
variable {P : Program} {C : Ctx} {env : Nat → Int} {r : Rel}

theorem op_makeFunc {s : St} {a : Act} {w : World} {o : Oper} {f : FuncId} {fs cs : Array Operand} (ho : o.op = .makeFunc (.func f) fs cs) (m : MR env r s.H.get w) (E : Es env r s.T a o) :
    OpS P env a r s.H.get s.nx w o (.fn f (evs s.T fs.toList) (evs s.T cs.toList)) s.H.get s.nx := by
  have key : ∀ l : Array Operand, (∀ x ∈ l, x ∈ o.op.operands) → VRs env r (evs s.T l.toList) (l.map a.eval) := by
    intro l hl
    refine ⟨by simp [evs], fun i x x' hx hx' => ?_⟩
    simp only [evs, List.getElem?_map, Option.map_eq_some_iff] at hx
    obtain ⟨q, hq, rfl⟩ := hx
    simp only [Array.getElem?_map, Option.map_eq_some_iff] at hx'
    obtain ⟨q', hq', rfl⟩ := hx'
    rw [Array.getElem?_toList] at hq
    rw [hq'] at hq
    obtain rfl := Option.some.inj hq
    exact E _ (hl _ (Array.mem_of_getElem? hq'))
  have h1 := key fs (fun x hx => by simp [ho, Op.operands, hx])
  have h2 := key cs (fun x hx => by simp [ho, Op.operands, hx])
  refine OpS.same m (u := .func (.func f) (fs.map a.eval) (cs.map a.eval)) ?_ (.fn f _ _ _ _ h1.1 h2.1 h1.2 h2.2)
  simp [execOp, ho, Instr.makeFunc]

theorem natA_rel {x : AV} {n : Nat} (h : natA x = some n) {u : Value} (hx : VR env r x u) : u = .int .i64 (n : Int) := by
  unfold natA at h
  split at h
  · simp only [Option.some.injEq] at h; subst h; exact inv_int hx
  · cases h

theorem wrap_nat {n : Nat} (h : n ≤ 4294967296) : IntKind.i64.wrap (n : Int) = n := IntWalk.i64_in _ (by omega)

theorem op_makeSlice (hC : COk P C env) {s : St} {a : Act} {w : World} {o : Oper} {t e : TypeId} {l c n bs N : Nat} {x y : Operand} {z : AV} (ho : o.op = .makeSlice t x y) (m : MR env r s.H.get w) (E : Es env r s.T a o) (hf : Fresh r s.nx N) (hN : s.nx + 1 ≤ N)
    (hu : C.und t = some (.slice e)) (hl : natA (ev s.T x) = some l) (hc : natA (ev s.T y) = some c) (hn : C.size e = some n) (hz : C.zero e = some z) (hb : (C.types.get e).map (·.bytes) = some bs)
    (hlc : l ≤ c) (hbig : c * (bs + 1) ≤ 4294967296) (hlen : (cellsOf z).length = n) (hn0 : n ≠ 0) :
    OpS P env a r s.H.get s.nx w o (.sl ⟨s.nx, 0, 0⟩ l (.known c)) (s.H.put s.nx (.cells (rep c (cellsOf z)) 0)).get (s.nx + 1) := by
  have hx := natA_rel hl (E x (by simp [ho, Op.operands]))
  have hy := natA_rel hc (E y (by simp [ho, Op.operands]))
  obtain ⟨i, u, hi, hiz, hzu⟩ := zero_info hC hz
  obtain ⟨i', hi', hn'⟩ := info_ok hC hn
  rw [hi] at hi'
  obtain rfl := Option.some.inj hi'
  rw [Option.map_eq_some_iff] at hb
  obtain ⟨i', hi', hb'⟩ := hb
  have := hC.types _ _ hi'
  rw [hi] at this
  obtain rfl := Option.some.inj this
  have hcz := cells_rel (hzu r) (zero_whole hz)
  have hcn : u.cells.size = n := by rw [← hcz.1, hlen]
  have hcb : c * bs ≤ 4294967296 := Nat.le_trans (Nat.mul_le_mul_left c (Nat.le_succ bs)) hbig
  have hc1 : c ≤ 4294967296 := Nat.le_trans (Nat.le_mul_of_pos_right c (Nat.succ_pos bs)) hbig
  have h1 := wrap_nat hc1
  have h2 := wrap_nat (n := l) (by omega)
  obtain ⟨r', g, hr⟩ := new_block m hf hN e (rep_zeros (n := n) (by omega) hcz c hcn)
  refine ⟨.slice (some ⟨w.heap.size, 0, none⟩) l c, _, r', .inl ?_, g, .slk s.nx 0 0 w.heap.size 0 _ l c hr⟩
  have hbc : ¬ ((281474976710656 : Int) < (bs : Int) * (c : Int)) := by
    have : (bs : Int) * (c : Int) = ((c * bs : Nat) : Int) := by rw [Nat.mul_comm]; simp
    omega
  rcases Nat.eq_zero_or_pos c with h0 | h0
  · subst h0
    have hl0 : l = 0 := by omega
    subst hl0
    simp [execOp, ho, hx, hy, Instr.makeSlice, run_underlying (und_ok hC hu), asInt, asIntOf, typeInfo, hi, hb', h1, run_size hC hn, newRow, IntKind.wrap, IntKind.bits, IntKind.signed]
    rw [Array.range_zero', Array.map_empty, Array.map_empty]
  · have hcn0 : ¬ c * n = 0 := Nat.mul_ne_zero (by omega) hn0
    have hlc' : ¬ ((c : Int) < (l : Int)) := by omega
    have hl0 : ¬ ((l : Int) < 0) := by omega
    have hc0 : ¬ ((c : Int) < 0) := by omega
    simp [hl0, hc0, execOp, ho, hx, hy, Instr.makeSlice, run_underlying (und_ok hC hu), asInt, asIntOf, typeInfo, hi, hb', h1, h2, hbc, hlc', run_size hC hn, hcn0, newRow, zeroValue, hiz]

theorem boundA_rel {x : AV} {y l : Nat} (h : boundA x y = some l) {u : Value} (hx : VR env r x u) : ∃ k, u = .int k (l : Int) ∧ l ≤ y := by
  unfold boundA at h
  split at h
  · rename_i k n
    cases hb : Nat.ble n y with
    | false => rw [hb] at h; cases h
    | true =>
      rw [hb] at h
      simp only [cond_true, Option.some.injEq] at h
      subst h
      exact ⟨_, inv_int hx, Nat.le_of_ble_eq_true hb⟩
  · cases h

theorem bound_run {k : IntKind} {l y : Nat} (h : l ≤ y) (code : BoundsCode) (w : World) : (Instr.sliceBound (.int k (l : Int)) y code).run P w = .ok l w := by
  have := run_sliceBound (P := P) w k (l : Int) y code (by omega) (by omega)
  simpa using this

/-- The bounds of a slice expression, as the model reckons them. -/
theorem bounds_run {isSlice : Bool} {len cap lb : Nat} {low high mx : Option AV} {low' high' mx' : Option Value} (hlow : ∀ x, low = some x → ∃ u, low' = some u ∧ VR env r x u) (hlow0 : low = none → low' = none)
    (hhigh : ∀ x, high = some x → ∃ u, high' = some u ∧ VR env r x u) (hhigh0 : high = none → high' = none) (hmx : ∀ x, mx = some x → ∃ u, mx' = some u ∧ VR env r x u) (hmx0 : mx = none → mx' = none) (hlb : lb ≤ cap)
    {m : Option Nat} {h l : Nat} (h1 : maxOf lb mx = some m)
    (h2 : highOf lb len m high = some h)
    (h3 : lowOf h low = some l) (w : World) :
    (Instr.sliceBounds isSlice len cap low' high' mx').run P w = .ok (l, h, m.getD cap) w ∧ (∀ q, m = some q → q ≤ lb) ∧ (low = none → l = 0) := by
  have hl : ∀ code, (∀ x, low = some x → ∃ u, low' = some u ∧ (Instr.sliceBound u h code).run P w = .ok l w) := by
    intro code x hx
    subst hx
    obtain ⟨u, hu, hr⟩ := hlow x rfl
    obtain ⟨k, hk, hle⟩ := boundA_rel (x := x) h3 hr
    exact ⟨u, hu, by rw [hk]; exact bound_run hle code w⟩
  cases mx with
  | none =>
    simp only [maxOf, Option.some.injEq] at h1
    subst h1
    have hm := hmx0 rfl
    subst hm
    refine ⟨?_, by simp, ?_⟩
    · cases high with
      | none =>
        simp only [highOf, Option.some.injEq] at h2
        subst h2
        have := hhigh0 rfl
        subst this
        cases low with
        | none =>
          simp only [lowOf, Option.some.injEq] at h3
          subst h3
          have := hlow0 rfl
          subst this
          simp [Instr.sliceBounds]
        | some x =>
          obtain ⟨u, hu, hrun⟩ := hl .sliceB x rfl
          subst hu
          simp [Instr.sliceBounds, hrun]
      | some y =>
        obtain ⟨uy, huy, hry⟩ := hhigh y rfl
        subst huy
        obtain ⟨ky, hky, hley⟩ := boundA_rel (x := y) h2 hry
        subst hky
        have hb : ∀ code, (Instr.sliceBound (.int ky (h : Int)) cap code).run P w = .ok h w := fun code => bound_run (by simp at hley; omega) code w
        cases low with
        | none =>
          simp only [lowOf, Option.some.injEq] at h3
          subst h3
          have := hlow0 rfl
          subst this
          simp [Instr.sliceBounds, hb]
        | some x =>
          obtain ⟨u, hu, hrun⟩ := hl .sliceB x rfl
          subst hu
          simp [Instr.sliceBounds, hb, hrun]
    · intro h0; subst h0; simpa [lowOf] using h3.symm
  | some z =>
    simp only [maxOf, Option.map_eq_some_iff] at h1
    obtain ⟨q, hq, rfl⟩ := h1
    obtain ⟨uz, huz, hrz⟩ := hmx z rfl
    subst huz
    obtain ⟨kz, hkz, hlez⟩ := boundA_rel hq hrz
    subst hkz
    have hbz : ∀ code, (Instr.sliceBound (.int kz (q : Int)) cap code).run P w = .ok q w := fun code => bound_run (by omega) code w
    refine ⟨?_, by intro q' hq'; cases hq'; exact hlez, ?_⟩
    · cases high with
      | none => cases h2
      | some y =>
        obtain ⟨uy, huy, hry⟩ := hhigh y rfl
        subst huy
        obtain ⟨ky, hky, hley⟩ := boundA_rel (x := y) h2 hry
        subst hky
        have hb : ∀ code, (Instr.sliceBound (.int ky (h : Int)) q code).run P w = .ok h w := fun code => bound_run (by simpa using hley) code w
        cases low with
        | none =>
          simp only [lowOf, Option.some.injEq] at h3
          subst h3
          have := hlow0 rfl
          subst this
          simp [Instr.sliceBounds, hb, hbz]
        | some x =>
          obtain ⟨u, hu, hrun⟩ := hl .slice3C x rfl
          subst hu
          simp [Instr.sliceBounds, hb, hbz, hrun]
    · intro h0; subst h0; simpa [lowOf] using h3.symm

/-- A slice expression's slice. -/
theorem sliceA_ok {n len : Nat} {p : Ref} {cap : Cap} {low high mx : Option AV} {v : AV} (hv : sliceA n p len cap low high mx = some v) {low' high' mx' : Option Value} (hlow : ∀ x, low = some x → ∃ u, low' = some u ∧ VR env r x u) (hlow0 : low = none → low' = none)
    (hhigh : ∀ x, high = some x → ∃ u, high' = some u ∧ VR env r x u) (hhigh0 : high = none → high' = none) (hmx : ∀ x, mx = some x → ∃ u, mx' = some u ∧ VR env r x u) (hmx0 : mx = none → mx' = none)
    {ad : Addr} {cap' : Nat} (hcap : ∃ c d q, ad = ⟨c, p.o + d, none⟩ ∧ r p.b p.v c d q ∧ (cap = .known cap' ∨ ∃ es lb, cap = .least es lb ∧ lb ≤ cap' ∧ p.o + d + cap' * es ≤ q)) (isSlice : Bool) (w : World) :
    ∃ l h m, (Instr.sliceBounds isSlice len cap' low' high' mx').run P w = .ok (l, h, m) w ∧ VR env r v (.slice (some (if m = l then ad else ad.add (l * n))) (h - l) (m - l)) := by
  obtain ⟨c, d, q, had, hr, hc⟩ := hcap
  subst had
  unfold sliceA at hv
  split at hv
  · cases hv
  · rename_i lb hlb
    have hle : lb ≤ cap' := by
      rcases hc with rfl | ⟨es, lb', rfl, h1, _⟩
      · simp only [Cap.lb, Option.some.injEq] at hlb; omega
      · simp only [Cap.lb, Option.some.injEq] at hlb; omega
    simp only at hv
    split at hv
    · cases hv
    · rename_i m hm
      split at hv
      · cases hv
      · rename_i h hh
        split at hv
        · cases hv
        · rename_i l hl
          obtain ⟨hb, hq, h0⟩ := bounds_run (P := P) (isSlice := isSlice) hlow hlow0 hhigh hhigh0 hmx hmx0 hle hm hh hl w
          refine ⟨l, h, m.getD cap', hb, ?_⟩
          split at hv
          · rename_i m'
            simp only [Option.some.injEq] at hv
            subst hv
            simp only [Option.getD_some]
            cases hbq : Nat.beq m' l with
            | true =>
              have := Nat.eq_of_beq_eq_true hbq
              rw [if_pos this]
              exact .slk _ _ _ c d q _ _ hr
            | false =>
              rw [if_neg (by intro e; rw [e] at hbq; simp at hbq), add_at]
              have := VR.slk (env := env) (r := r) p.b (p.o + l * n) p.v c d q (h - l) (m' - l) hr
              have e1 : p.o + l * n + d = p.o + d + l * n := by omega
              rw [e1] at this
              exact this
          · split at hv
            · rename_i c0
              rcases hc with hc | ⟨_, _, hc, _⟩
              · simp only [Cap.known.injEq] at hc
                subst hc
                simp only [Option.some.injEq] at hv
                subst hv
                simp only [Option.getD_none]
                cases hbq : Nat.beq c0 l with
                | true =>
                  have := Nat.eq_of_beq_eq_true hbq
                  rw [if_pos this]
                  exact .slk _ _ _ c d q _ _ hr
                | false =>
                  rw [if_neg (by intro e; rw [e] at hbq; simp at hbq), add_at]
                  have := VR.slk (env := env) (r := r) p.b (p.o + l * n) p.v c d q (h - l) (c0 - l) hr
                  have e1 : p.o + l * n + d = p.o + d + l * n := by omega
                  rw [e1] at this
                  exact this
              · cases hc
            · rename_i es lb'
              rcases hc with hc | ⟨es', lb2, hc, h1, h2⟩
              · cases hc
              · simp only [Cap.least.injEq] at hc
                obtain ⟨rfl, rfl⟩ := hc
                simp only [Option.getD_none]
                cases hbq : (Nat.beq es n && (Nat.beq l 0 || Nat.blt l lb')) with
                | true =>
                  rw [hbq] at hv
                  simp only [cond_true, Option.some.injEq] at hv
                  subst hv
                  simp only [Bool.and_eq_true, Bool.or_eq_true] at hbq
                  obtain ⟨hes, hl0⟩ := hbq
                  have hes : es = n := Nat.eq_of_beq_eq_true hes
                  subst hes
                  have hlle : l ≤ cap' := by
                    rcases hl0 with h | h
                    · have := Nat.eq_of_beq_eq_true h; omega
                    · have : l < lb' := Nat.le_of_ble_eq_true h; omega
                  have had : (if cap' = l then (⟨c, p.o + d, none⟩ : Addr) else (⟨c, p.o + d, none⟩ : Addr).add (l * es)) = ⟨c, p.o + l * es + d, none⟩ := by
                    rcases hl0 with h | h
                    · have := Nat.eq_of_beq_eq_true h
                      subst this
                      rw [Nat.zero_mul, add_at]; split <;> simp
                    · have : l < lb' := Nat.le_of_ble_eq_true h
                      rw [if_neg (by omega), add_at]
                      congr 1; omega
                  rw [had]
                  refine .sll _ _ _ c d q _ _ _ _ hr (by omega) ?_
                  have : l * es + (cap' - l) * es = cap' * es := by rw [← Nat.add_mul]; congr 1; omega
                  omega
                | false =>
                  rw [hbq] at hv
                  simp only [cond_false] at hv
                  cases hb2 : Nat.beq h l with
                  | false => rw [hb2] at hv; cases hv
                  | true =>
                    rw [hb2] at hv
                    simp only [cond_true, Option.some.injEq] at hv
                    subst hv
                    have := Nat.eq_of_beq_eq_true hb2
                    subst this
                    rw [Nat.sub_self]
                    exact .sld _ _ _
            · rcases hc with hc | ⟨_, _, hc, _⟩ <;> cases hc

end
end Go.Proofs.Ytdndjcofafkafaa.Sim
