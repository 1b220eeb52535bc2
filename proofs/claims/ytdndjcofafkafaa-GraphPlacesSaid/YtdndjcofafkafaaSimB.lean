/- Operation by operation, the last part: the builtins together, and every operation. Nothing is claimed of the program here; no condition. -/
import Derived.Test.YtdndjcofafkafaaSimA
namespace Go.Proofs.Ytdndjcofafkafaa.Sim
set_option linter.unusedVariables false
set_option linter.unusedSimpArgs false
open Go Go.RowKit

section
variable {P : Program} {C : Ctx} {env : Nat → Int} {r : Rel}

theorem copy_run {t u e ty : TypeId} {size m len cap : Nat} (ht : P.underlying t = some (.slice e)) (hs : ∀ w, (sizeOf e).run P w = .ok size w) {ad : Addr} {y : Value} {us : List Value} {w w' : World} (hlen : (Builtin.lenOf y).run P w = .ok m w)
    (hfirst : (Builtin.firstCells size (Nat.min m len) y).run P w = .ok us.toArray w) (hst : (storeCells ad us 0).run P w = .ok () w') :
    (Builtin.copy_ #[t, u] ty #[.slice (some ad) len cap, y]).run P w = .ok (.int .i64 (Nat.min m len : Nat)) w' := by
  simp [Builtin.copy_, run_underlying ht, hs, hlen, hfirst, hst, goInt]

theorem op_builtin (hC : COk P C env) {s : St} {a : Act} {w : World} {o : Oper} {c : Call} {b : Builtin} {N : Nat} {v : AV} {H' : Tr AObj} {nx' : Nat} (ho : o.op = .call c) (hc : c.callee = .builtin b) (m : MR env r s.H.get w) (E : Es env r s.T a o) (hf : Fresh r s.nx N) (hN : nx' ≤ N)
    (hv : builtinA P C s b c.argTypes.toList (evs s.T c.args.toList) = some (.val v H' nx')) : OpS P env a r s.H.get s.nx w o v H'.get nx' := by
  have hargs : VRs env r (evs s.T c.args.toList) (c.args.map a.eval) := by
    refine ⟨by simp [evs], fun i x x' hx hx' => ?_⟩
    simp only [evs, List.getElem?_map, Option.map_eq_some_iff] at hx
    obtain ⟨q, hq, rfl⟩ := hx
    simp only [Array.getElem?_map, Option.map_eq_some_iff] at hx'
    obtain ⟨q', hq', rfl⟩ := hx'
    rw [Array.getElem?_toList] at hq
    rw [hq'] at hq
    obtain rfl := Option.some.inj hq
    exact E _ (by simp only [ho, Op.operands, Call.operands]; exact Array.mem_append.2 (.inr (Array.mem_of_getElem? hq')))
  have one : ∀ x, evs s.T c.args.toList = [x] → ∃ x', c.args.map a.eval = #[x'] ∧ VR env r x x' := by
    intro x hx
    rw [hx] at hargs
    have h1 : (c.args.map a.eval).size = 1 := hargs.1.symm
    obtain ⟨x', h2⟩ := Array.size_eq_one_iff.1 h1
    exact ⟨x', h2, hargs.2 0 x x' rfl (by rw [h2]; rfl)⟩
  have two : ∀ x y, evs s.T c.args.toList = [x, y] → ∃ x' y', c.args.map a.eval = #[x', y'] ∧ VR env r x x' ∧ VR env r y y' := by
    intro x y hx
    rw [hx] at hargs
    have h1 : (c.args.map a.eval).size = 2 := hargs.1.symm
    obtain ⟨x', y', h2⟩ : ∃ x' y', c.args.map a.eval = #[x', y'] := ⟨(c.args.map a.eval)[0], (c.args.map a.eval)[1], by
      apply Array.ext
      · simpa using h1
      · intro i h3 h4
        have : i = 0 ∨ i = 1 := by simp at h4; omega
        rcases this with rfl | rfl <;> rfl⟩
    exact ⟨x', y', h2, hargs.2 0 x x' rfl (by rw [h2]; rfl), hargs.2 1 y y' rfl (by rw [h2]; rfl)⟩
  have tys : ∀ l, c.argTypes.toList = l → c.argTypes = l.toArray := by intro l h; rw [← h]
  have go : ∀ {u' : Value} {w' : World}, (∀ cs, (builtin b c.argTypes o.type cs (c.args.map a.eval)).run P w = .ok (.value u') w') → (execOp a.eval o).run P w = .ok (.value u') w' := by
    intro u' w' h
    simp [execOp, ho, resolve, hc, invoke, h]
  unfold builtinA at hv
  split at hv
  · -- len
    rename_i t x hts hxs
    obtain ⟨x', hx', hx⟩ := one x hxs
    have hty := tys _ hts
    split at hv
    · rename_i z hu
      have := inv_str hx; subst this
      simp only [Option.some.injEq, Res.val.injEq] at hv; obtain ⟨rfl, rfl, rfl⟩ := hv
      exact OpS.same m (u := .int .i64 (z.size : Int)) (go fun cs => by simp [builtin, hx', hty, Builtin.len_, run_underlying (und_ok hC hu), goInt]) (.int _ _)
    · rename_i e p n cap hu
      obtain ⟨_, _, hu', _⟩ := inv_sl hx; subst hu'
      simp only [Option.some.injEq, Res.val.injEq] at hv; obtain ⟨rfl, rfl, rfl⟩ := hv
      exact OpS.same m (u := .int .i64 (n : Int)) (go fun cs => by simp [builtin, hx', hty, Builtin.len_, run_underlying (und_ok hC hu), goInt]) (.int _ _)
    · rename_i e hu
      have := inv_nils hx; subst this
      simp only [Option.some.injEq, Res.val.injEq] at hv; obtain ⟨rfl, rfl, rfl⟩ := hv
      exact OpS.same m (u := .int .i64 0) (go fun cs => by simp [builtin, hx', hty, Builtin.len_, run_underlying (und_ok hC hu), goInt]) (.int _ _)
    · rename_i n e hu
      simp only [Option.some.injEq, Res.val.injEq] at hv; obtain ⟨rfl, rfl, rfl⟩ := hv
      exact OpS.same m (u := .int .i64 (n : Int)) (go fun cs => by simp [builtin, hx', hty, Builtin.len_, run_underlying (und_ok hC hu), goInt]) (.int _ _)
    · cases hv
  · -- append
    rename_i t u x y hts hxs
    obtain ⟨x', y', hx', hx, hy⟩ := two x y hxs
    have hty := tys _ hts
    split at hv
    · rename_i e ht hcu
      have hd : ∃ d, C.und u = some d ∧ notInt d := by
        cases hq : C.und u with
        | none => rw [hq] at hcu; cases hcu
        | some d =>
          rw [hq] at hcu
          cases d <;> first | (exact ⟨_, rfl, .inl ⟨_, rfl⟩⟩) | (exact ⟨_, rfl, .inr rfl⟩) | (simp [isSeq] at hcu)
      obtain ⟨d, hu, hd⟩ := hd
      split at hv
      · rename_i n bs z hn hbs hz
        cases hb : (Nat.beq (cellsOf z).length n && !(Nat.beq n 0) && strOne y n) with
        | false => rw [hb] at hv; cases hv
        | true =>
          rw [hb, cond_true, Option.map_eq_some_iff] at hv
          simp only [Bool.and_eq_true, Bool.not_eq_true'] at hb
          obtain ⟨⟨v', H1, nx1⟩, h1, h2⟩ := hv
          simp only [Res.val.injEq] at h2
          obtain ⟨rfl, rfl, rfl⟩ := h2
          obtain ⟨u', w', r', g1, g2, g3⟩ := append_ok hC (ty := o.type) m hf hN ht hu hd hn hbs hz (Nat.eq_of_beq_eq_true hb.1.1) (by intro h; subst h; exact absurd hb.1.2 (by simp)) hx hy (by intro q hq; subst hq; exact Nat.eq_of_beq_eq_true hb.2) h1
          exact ⟨u', w', r', .inl (go fun cs => by simp [builtin, hx', hty, g1]), g2, g3⟩
      · cases hv
    · cases hv
  · -- copy
    rename_i t t2 x y hts hxs
    obtain ⟨x', y', hx', hx, hy⟩ := two x y hxs
    have hty := tys _ hts
    split at hv
    · rename_i e p len cap hu
      obtain ⟨ad, cap', hx2, hr⟩ := inv_sl hx
      subst hx2
      split at hv
      · rename_i k n hk hn
        cases hst : (strOne y n) with
        | false => rw [hst] at hv; cases hv
        | true =>
          rw [hst, cond_true] at hv
          split at hv
          · rename_i cs hcs
            obtain ⟨us, h1, h2⟩ := firstA_ok (P := P) m hcs hy (by intro q hq; subst hq; exact Nat.eq_of_beq_eq_true hst)
            cases h0 : Nat.beq (Nat.min k len) 0 with
            | true =>
              rw [h0] at hv
              simp only [cond_true, Option.some.injEq, Res.val.injEq] at hv
              obtain ⟨rfl, rfl, rfl⟩ := hv
              have hz := Nat.eq_of_beq_eq_true h0
              have hcs0 : cs = [] := by
                rw [hz] at hcs
                unfold firstA at hcs
                split at hcs
                · simpa using hcs.symm
                · rw [Nat.ble_eq_true_of_le (Nat.zero_le _)] at hcs; simpa using hcs.symm
                · rw [Nat.ble_eq_true_of_le (Nat.zero_le _)] at hcs
                  simp only [cond_true] at hcs
                  obtain ⟨e1, _⟩ := takeL_eq _ _ _ hcs
                  exact List.eq_nil_of_length_eq_zero e1
                · cases hcs
              subst hcs0
              have hus : us = [] := List.eq_nil_of_length_eq_zero (by have := h2.1; simp at this; simpa using this.symm)
              subst hus
              have := copy_run (P := P) (u := t2) (ty := o.type) (cap := cap') (und_ok hC hu) (fun w => run_size hC hn w) (ad := ad) (w' := w) (lenA_rel hk hy w) (h1 w rfl) rfl
              rw [hz] at this
              exact OpS.same m (u := .int .i64 0) (go fun cs => by simp [builtin, hx', hty, this]) (.int _ _)
            | false =>
              rw [h0, cond_false] at hv
              cases hfl : flats cs with
              | false => rw [hfl] at hv; cases hv
              | true =>
                rw [hfl, cond_true, Option.map_eq_some_iff] at hv
                obtain ⟨H1, h3, h4⟩ := hv
                simp only [Res.val.injEq] at h4
                obtain ⟨rfl, rfl, rfl⟩ := h4
                rcases hr with ⟨_, hl0⟩ | ⟨c1, d, q, had, hrr, _⟩
                · subst hl0; simp at h0
                · obtain ⟨w', g1, r', g2, _⟩ := store_ok (P := P) m s.nx h3 hfl hrr h2
                  subst had
                  have := copy_run (P := P) (u := t2) (ty := o.type) (cap := cap') (und_ok hC hu) (fun w => run_size hC hn w) (lenA_rel hk hy w) (h1 w rfl) g1
                  exact ⟨_, w', r', .inl (go fun cs => by simp [builtin, hx', hty, this]), g2, .int _ _⟩
          · cases hv
      · cases hv
    · cases hv
  · -- clear
    rename_i t x hts hxs
    obtain ⟨x', hx', hx⟩ := one x hxs
    have hty := tys _ hts
    split at hv
    · rename_i e hu
      have := inv_nils hx; subst this
      simp only [Option.some.injEq, Res.val.injEq] at hv; obtain ⟨rfl, rfl, rfl⟩ := hv
      exact OpS.same m (u := .tuple #[]) (go fun cs => by simp [builtin, hx', hty, Builtin.clear_, run_underlying (und_ok hC hu)]) (.unk _)
    · rename_i e p len cap hu
      obtain ⟨ad, cap', hx2, hr⟩ := inv_sl hx
      subst hx2
      split at hv
      · rename_i z n hz hn
        cases h0 : Nat.beq len 0 with
        | true =>
          rw [h0] at hv
          simp only [cond_true, Option.some.injEq, Res.val.injEq] at hv; obtain ⟨rfl, rfl, rfl⟩ := hv
          have := Nat.eq_of_beq_eq_true h0; subst this
          exact OpS.same m (u := .tuple #[]) (go fun cs => by simp [builtin, hx', hty, Builtin.clear_, run_underlying (und_ok hC hu)]) (.unk _)
        | false =>
          rw [h0, cond_false] at hv
          cases hb : (Nat.beq (cellsOf z).length n && !(Nat.beq n 0) && flats (rep len (cellsOf z))) with
          | false => rw [hb] at hv; cases hv
          | true =>
            rw [hb, cond_true, Option.map_eq_some_iff] at hv
            simp only [Bool.and_eq_true, Bool.not_eq_true'] at hb
            obtain ⟨H1, h3, h4⟩ := hv
            simp only [Res.val.injEq] at h4
            obtain ⟨rfl, rfl, rfl⟩ := h4
            have hn1 := Nat.eq_of_beq_eq_true hb.1.1
            have hn0 : n ≠ 0 := by intro h; subst h; exact absurd hb.1.2 (by simp)
            obtain ⟨i, zv, hi, hiz, hzu⟩ := zero_info hC hz
            have hcz := cells_rel (hzu r) (zero_whole hz)
            have hcn : zv.cells.size = n := by rw [← hcz.1, hn1]
            have hrep := rep_zeros (n := n) (by omega) hcz len hcn
            have hl0 : len ≠ 0 := by intro h; subst h; cases h0
            rcases hr with ⟨_, h⟩ | ⟨c1, d, q, had, hrr, _⟩
            · exact absurd h hl0
            · subst had
              obtain ⟨w', g1, r', g2, _⟩ := store_ok (P := P) m s.nx (us := ((Array.range (len * n)).map (zv.cells[· % zv.cells.size]!)).toList) h3 hb.2 hrr (by rw [Array.toArray_toList]; exact hrep)
              refine ⟨.tuple #[], w', r', .inl (go fun cs => ?_), g2, .unk _⟩
              have hzc : Builtin.zeroCells zv.cells len = (Array.range (len * n)).map (zv.cells[· % zv.cells.size]!) := by unfold Builtin.zeroCells; rw [hcn]
              have hzr : (zeroValue e).run P w = .ok zv w := by simp [zeroValue, typeInfo, hi, hiz]
              obtain ⟨l', rfl⟩ : ∃ l', len = l' + 1 := ⟨len - 1, by omega⟩
              simp only [builtin, hx', hty, Builtin.clear_, Sem.run_bind, Sem.run_pure, Result.andThen_ok, List.getElem?_toArray, List.getElem?_cons_zero, run_underlying (und_ok hC hu), hzr, hzc, g1]
      · cases hv
    · cases hv
  · -- min
    rename_i x y hxs
    obtain ⟨x', y', hx', hx, hy⟩ := two x y hxs
    rw [Option.map_eq_some_iff] at hv
    obtain ⟨q, h1, h2⟩ := hv
    simp only [Res.val.injEq] at h2
    obtain ⟨rfl, rfl, rfl⟩ := h2
    unfold minA at h1
    split at h1
    · have := inv_int hx; subst this
      have := inv_int hy; subst this
      simp only [Option.some.injEq] at h1
      subst h1
      exact OpS.same m (go fun cs => by simp only [builtin, hx', Sem.run_bind, run_min_int2, Result.andThen_ok, Sem.run_pure]) (.int _ _)
    · split at h1
      · rename_i j mm k nn hm hn
        have ha := numOf_rel hm hx; have hb := numOf_rel hn hy
        subst ha; subst hb
        revert h1
        cases hjk : IntKind.same j k <;> intro h1
        · cases h1
        · have hjk' := ksame hjk
          subst hjk'
          rw [cond_true] at h1
          split at h1
          · rename_i hfa
            have hlt := fact_lss hC w hfa
            simp only [Option.some.injEq] at h1
            subst h1
            exact OpS.same m (go fun cs => by simp only [builtin, hx', Sem.run_bind, run_min_int2, Result.andThen_ok, Sem.run_pure]; rw [if_pos (by simpa using hlt)]) hy
          · rename_i hfa
            have hlt := fact_lss hC w hfa
            simp only [Option.some.injEq] at h1
            subst h1
            exact OpS.same m (go fun cs => by simp only [builtin, hx', Sem.run_bind, run_min_int2, Result.andThen_ok, Sem.run_pure]; rw [if_neg (by simpa using hlt)]) hx
          · cases h1
      · cases h1
  · -- max
    rename_i x y hxs
    obtain ⟨x', y', hx', hx, hy⟩ := two x y hxs
    rw [Option.map_eq_some_iff] at hv
    obtain ⟨q, h1, h2⟩ := hv
    simp only [Res.val.injEq] at h2
    obtain ⟨rfl, rfl, rfl⟩ := h2
    unfold maxA at h1
    split at h1
    · have := inv_int hx; subst this
      have := inv_int hy; subst this
      simp only [Option.some.injEq] at h1
      subst h1
      exact OpS.same m (go fun cs => by simp only [builtin, hx', Sem.run_bind, run_max_int2, Result.andThen_ok, Sem.run_pure]) (.int _ _)
    · split at h1
      · rename_i j mm k nn hm hn
        have ha := numOf_rel hm hx; have hb := numOf_rel hn hy
        subst ha; subst hb
        revert h1
        cases hjk : IntKind.same j k <;> intro h1
        · cases h1
        · have hjk' := ksame hjk
          subst hjk'
          rw [cond_true] at h1
          split at h1
          · rename_i hfa
            have hlt := fact_lss hC w hfa
            simp only [Option.some.injEq] at h1
            subst h1
            exact OpS.same m (go fun cs => by simp only [builtin, hx', Sem.run_bind, run_max_int2, Result.andThen_ok, Sem.run_pure]; rw [if_pos (by simpa using hlt)]) hy
          · rename_i hfa
            have hlt := fact_lss hC w hfa
            simp only [Option.some.injEq] at h1
            subst h1
            exact OpS.same m (go fun cs => by simp only [builtin, hx', Sem.run_bind, run_max_int2, Result.andThen_ok, Sem.run_pure]; rw [if_neg (by simpa using hlt)]) hx
          · cases h1
      · cases h1
  · cases hv

end
end Go.Proofs.Ytdndjcofafkafaa.Sim
