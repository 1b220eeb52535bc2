/- Operation by operation, the fifth part: slice expressions, conversions, builtins. Nothing is claimed of the program here; no condition. -/
import Derived.Test.YtdndjcofafkafaaSim7
namespace Go.Proofs.Ytdndjcofafkafaa.Sim
set_option linter.unusedVariables false
set_option linter.unusedSimpArgs false
open Go Go.RowKit

section
variable {P : Program} {C : Ctx} {env : Nat → Int} {r : Rel}

theorem opt_rel {s : St} {a : Act} {o : Oper} (E : Es env r s.T a o) {q : Option Operand} (h : ∀ x, q = some x → x ∈ o.op.operands) :
    (∀ x, q.map (ev s.T) = some x → ∃ u, q.map a.eval = some u ∧ VR env r x u) ∧ (q.map (ev s.T) = none → q.map a.eval = none) := by
  cases q with
  | none => exact ⟨fun x hx => (nomatch hx), fun _ => rfl⟩
  | some y => exact ⟨fun x hx => (by simp only [Option.map_some, Option.some.injEq] at hx; subst hx; exact ⟨_, rfl, E y (h y rfl)⟩), fun h => (nomatch h)⟩

theorem op_slice (hC : COk P C env) {s : St} {a : Act} {w : World} {o : Oper} {t : TypeId} {x : Operand} {lo hi mx : Option Operand} {v : AV} {H' : Tr AObj} {nx' : Nat} (ho : o.op = .slice t x lo hi mx) (m : MR env r s.H.get w) (E : Es env r s.T a o)
    (hv : aop P C s o = some (.val v H' nx')) : OpS P env a r s.H.get s.nx w o v H'.get nx' := by
  have hx := E x (by simp [ho, Op.operands])
  have hlo := opt_rel E (q := lo) (fun y hy => by subst hy; simp [ho, Op.operands])
  have hhi := opt_rel E (q := hi) (fun y hy => by subst hy; simp [ho, Op.operands])
  have hmx := opt_rel E (q := mx) (fun y hy => by subst hy; simp [ho, Op.operands])
  simp only [aop, ho] at hv
  split at hv
  · rename_i e p len cap hu hp
    rw [hp] at hx
    obtain ⟨ad, cap', hu', hr⟩ := inv_sl hx
    split at hv
    · rename_i n hn
      rw [Option.map_eq_some_iff] at hv
      obtain ⟨y, hy, h⟩ := hv
      simp only [Res.val.injEq] at h
      obtain ⟨rfl, rfl, rfl⟩ := h
      rcases hr with ⟨hd, _⟩ | hr
      · subst hd; simp [sliceA, Cap.lb] at hy
      · obtain ⟨l, h, q, hb, hrel⟩ := sliceA_ok (P := P) hy hlo.1 hlo.2 hhi.1 hhi.2 hmx.1 hmx.2 hr true w
        refine OpS.same m ?_ hrel
        have e1 : (if q = l then some ad else Option.map (fun x => x.add (l * n)) (some ad)) = some (if q = l then ad else ad.add (l * n)) := by split <;> rfl
        simp [execOp, ho, hu', Instr.sliceAt, run_underlying (und_ok hC hu), Instr.slice, hb, run_size hC hn]
        split <;> rfl
    · cases hv
  · rename_i e hu hp
    rw [hp] at hx
    have hu' := inv_nils hx
    split at hv
    · rename_i n q hn hq
      split at hv
      · rename_i h hh
        split at hv
        · rename_i l hl
          simp only [Option.some.injEq, Res.val.injEq] at hv
          obtain ⟨rfl, rfl, rfl⟩ := hv
          obtain ⟨hb, hq0, _⟩ := bounds_run (P := P) (isSlice := true) (len := 0) (cap := 0) (lb := 0) hlo.1 hlo.2 hhi.1 hhi.2 hmx.1 hmx.2 (Nat.le_refl _) hq hh hl w
          refine OpS.same m (u := .slice none 0 0) ?_ .nils
          have hq1 : q.getD 0 = 0 := by
            cases q with
            | none => rfl
            | some z => have := hq0 z rfl; simp; omega
          have hh0 : h = 0 := by
            cases hhi' : hi.map (ev s.T) with
            | none =>
              rw [hhi'] at hh
              simp only [highOf] at hh
              cases q with
              | none => simpa using hh.symm
              | some z => cases hh
            | some z =>
              rw [hhi'] at hh
              obtain ⟨u, _, hu⟩ := hhi.1 z hhi'
              obtain ⟨_, _, h2⟩ := boundA_rel (x := z) hh hu
              rw [hq1] at h2; omega
          simp [execOp, ho, hu', Instr.sliceAt, run_underlying (und_ok hC hu), Instr.slice, hb, run_size hC hn, hq1, hh0]
        · cases hv
      · cases hv
    · cases hv
  · rename_i b hu hp
    rw [hp] at hx
    have hu' := inv_str hx
    split at hv
    · rename_i h hh
      rw [Option.map_eq_some_iff] at hv
      obtain ⟨l, hl, h1⟩ := hv
      simp only [Res.val.injEq] at h1
      obtain ⟨rfl, rfl, rfl⟩ := h1
      obtain ⟨hb, _, _⟩ := bounds_run (P := P) (isSlice := false) (len := b.size) (cap := b.size) (lb := b.size) (mx := none) (mx' := none) hlo.1 hlo.2 hhi.1 hhi.2 (by intro x hx; cases hx) (fun _ => rfl) (Nat.le_refl _) (m := none) rfl hh hl w
      refine OpS.same m (u := .string (b.extract l h)) ?_ (.str _)
      simp [execOp, ho, hu', Instr.sliceAt, run_underlying (und_ok hC hu), Instr.slice, hb]
    · cases hv
  · rename_i k e p hu hp
    rw [hp] at hx
    obtain ⟨c, d, n, hu', hr⟩ := inv_ptr hx
    split at hv
    · rename_i n hn
      rw [Option.map_eq_some_iff] at hv
      obtain ⟨y, hy, h⟩ := hv
      simp only [Res.val.injEq] at h
      obtain ⟨rfl, rfl, rfl⟩ := h
      obtain ⟨l, h, q, hb, hrel⟩ := sliceA_ok (P := P) (cap' := k) hy hlo.1 hlo.2 hhi.1 hhi.2 hmx.1 hmx.2 ⟨c, d, _, rfl, hr, .inl rfl⟩ false w
      refine OpS.same m ?_ hrel
      simp [execOp, ho, hu', Instr.sliceAt, run_underlying (und_ok hC hu), Instr.sureAddr, hb, run_size hC hn]
    · cases hv
  · cases hv

theorem toBytes_ok : ∀ {ys : List AV} {l : List UInt8}, toBytes ys = some l → ∀ {us : List Value}, VRs env r ys us.toArray → ∃ ns : List Int, us = ns.map (Value.int .u8) ∧ ns.map (fun n => UInt8.ofNat n.toNat) = l := by
  intro ys
  induction ys with
  | nil =>
    intro l h us hu
    simp only [toBytes, Option.some.injEq] at h
    subst h
    have : us = [] := List.eq_nil_of_length_eq_zero (by have := hu.1; simp at this; simpa using this.symm)
    subst this
    exact ⟨[], rfl, rfl⟩
  | cons y ys ih =>
    intro l h us hu
    cases us with
    | nil => have := hu.1; simp at this
    | cons u us =>
      have h0 := hu.2 0 y u rfl (by simp)
      have ht : VRs env r ys us.toArray := ⟨by have := hu.1; simpa using this, fun i x x' a b => hu.2 (i + 1) x x' (by simpa using a) (by simpa using b)⟩
      unfold toBytes at h
      split at h
      · rename_i heq; cases heq
      · rename_i n l' heq
        simp only [List.cons.injEq] at heq
        obtain ⟨rfl, rfl⟩ := heq
        rw [Option.map_eq_some_iff] at h
        obtain ⟨l1, h1, rfl⟩ := h
        obtain ⟨ns, rfl, hns⟩ := ih h1 ht
        have := inv_int h0
        subst this
        exact ⟨n :: ns, rfl, by simp [hns]⟩
      · cases h

theorem foldl_push (l : List UInt8) : ∀ s : ByteArray, l.foldl (fun r n => r.push n) s = ⟨s.data ++ l.toArray⟩ := by
  induction l with
  | nil => intro s; cases s; simp
  | cons b l ih => intro s; rw [List.foldl_cons, ih]; cases s; simp [ByteArray.push]

theorem op_convert (hC : COk P C env) {s : St} {a : Act} {w : World} {o : Oper} {src dst : TypeId} {x : Operand} {v : AV} {H' : Tr AObj} {nx' : Nat} (ho : o.op = .convert src dst x) (m : MR env r s.H.get w) (E : Es env r s.T a o)
    (hv : aop P C s o = some (.val v H' nx')) : OpS P env a r s.H.get s.nx w o v H'.get nx' := by
  have hx := E x (by simp [ho, Op.operands])
  simp only [aop, ho] at hv
  split at hv
  · rename_i y hy
    simp only [Option.some.injEq, Res.val.injEq] at hv
    obtain ⟨rfl, rfl, rfl⟩ := hv
    unfold strA at hy
    split at hy
    · rename_i e hs hd hp
      rw [hp] at hx
      have hu' := inv_nils hx
      split at hy
      · rename_i he
        simp only [Option.some.injEq] at hy
        subst hy
        refine OpS.same m (u := .string ⟨#[]⟩) ?_ (.str _)
        have := run_convert_bytes_string (P := P) w src dst e none 0 0 (und_ok hC hs) (und_ok hC he) (und_ok hC hd)
        simp [execOp, ho, hu', this, Conv.bytesToString]
        rfl
      · cases hy
    · rename_i e p len cap hs hd hp
      rw [hp] at hx
      obtain ⟨ad, cap', hu', hr⟩ := inv_sl hx
      split at hy
      · rename_i he
        rw [Option.map_eq_some_iff] at hy
        obtain ⟨l, hl, rfl⟩ := hy
        rw [Option.bind_eq_some_iff] at hl
        obtain ⟨xs, h1, h2⟩ := hl
        rw [Option.bind_eq_some_iff] at h2
        obtain ⟨ys, h2, h3⟩ := h2
        rcases hr with ⟨_, h0⟩ | ⟨c, d, n, had, hr, _⟩
        · subst h0
          obtain ⟨e1, _⟩ := cutL_eq h2
          have : ys = [] := List.eq_nil_of_length_eq_zero e1
          subst this
          simp only [toBytes, Option.some.injEq] at h3
          subst h3
          have hz : (loadCells ad 0).run P w = .ok (([] : List Int).map (Value.int .u8)).toArray w := rfl
          have := run_bytesToString (P := P) w ad 0 cap' [] hz
          refine OpS.same m (u := .string ⟨#[]⟩) ?_ (.str _)
          simp [execOp, ho, hu', run_convert_bytes_string (P := P) w src dst e (some ad) 0 cap' (und_ok hC hs) (und_ok hC he) (und_ok hC hd), this]
          rfl
        · subst had
          obtain ⟨cs, e', hc, _, hxs⟩ := cells_ok m h1 hr
          obtain ⟨us, g1, g2, g3, _⟩ := run_cut (P := P) hc hxs h2
          obtain ⟨ns, rfl, hns⟩ := toBytes_ok h3 g3
          have := run_bytesToString (P := P) w ⟨c, p.o + d, none⟩ len cap' ns g1
          refine OpS.same m (u := .string ⟨⟨l⟩⟩) ?_ (.str _)
          have hfold : ns.foldl (fun r n => r.push (UInt8.ofNat n.toNat)) ByteArray.empty = (⟨⟨l⟩⟩ : ByteArray) := by
            rw [← hns]
            have := foldl_push (ns.map fun n => UInt8.ofNat n.toNat) ByteArray.empty
            rw [List.foldl_map] at this
            rw [this]
            simp [ByteArray.empty, ByteArray.emptyWithCapacity]
            rfl
          simp [execOp, ho, hu', run_convert_bytes_string (P := P) w src dst e (some ⟨c, p.o + d, none⟩) len cap' (und_ok hC hs) (und_ok hC he) (und_ok hC hd), this, hfold]
      · cases hy
    · cases hy
  · unfold convA at hv
    split at hv
    · rename_i d k j n hs hd hp
      rw [hp] at hx
      have hu' := inv_int hx
      simp only [Option.some.injEq, Res.val.injEq] at hv
      obtain ⟨rfl, rfl, rfl⟩ := hv
      refine OpS.same m (u := .int k (k.wrap n)) ?_ (.int _ _)
      simp [execOp, ho, hu', convert, run_underlying (und_ok hC hs), run_underlying (und_ok hC hd), Conv.intToInt]
    · rename_i d k j i hs hd hp
      rw [hp] at hx
      have hu' := inv_sym hx
      rw [Option.map_eq_some_iff] at hv
      obtain ⟨y, hy, h1⟩ := hv
      simp only [Res.val.injEq] at h1
      obtain ⟨rfl, rfl, rfl⟩ := h1
      obtain ⟨u, h1, h2⟩ := fact_run hC hy src w
      refine OpS.same m (u := u) ?_ (h2 r)
      have h3 : (binOp .add src (.int k (env i)) (.int k 0)).run P w = .ok (.int k (k.wrap (env i + 0))) w := by simp [binOp, Op.intArith]
      simp only [numV] at h1
      rw [h3, Int.add_zero] at h1
      simp only [Result.ok.injEq, and_true] at h1
      subst h1
      simp [execOp, ho, hu', convert, run_underlying (und_ok hC hs), run_underlying (und_ok hC hd), Conv.intToInt]
    · rename_i b hs hd hp
      rw [hp] at hx
      have hu' := inv_str hx
      simp only [Option.some.injEq, Res.val.injEq] at hv
      obtain ⟨rfl, rfl, rfl⟩ := hv
      refine OpS.same m (u := .string b) ?_ (.str _)
      simp [execOp, ho, hu', convert, run_underlying (und_ok hC hs), run_underlying (und_ok hC hd)]
    · cases hv

end
end Go.Proofs.Ytdndjcofafkafaa.Sim
