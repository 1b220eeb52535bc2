/- Operation by operation, the second part: memory, parts, slices. Nothing is claimed of the program here; no condition. -/
import Derived.Test.YtdndjcofafkafaaSim4
namespace Go.Proofs.Ytdndjcofafkafaa.Sim
set_option linter.unusedVariables false
set_option linter.unusedSimpArgs false
open Go Go.RowKit

section
variable {P : Program} {C : Ctx} {env : Nat → Int} {r : Rel}

/-- The operands of an operation stand to each other. -/
def Es (env : Nat → Int) (r : Rel) (T : Tr AV) (a : Act) (o : Oper) : Prop := ∀ x, x ∈ o.op.operands → VR env r (ev T x) (a.eval x)

theorem fresh_one {nx N : Nat} (hf : Fresh r nx N) (h : nx + 1 ≤ N) : Fresh r nx (nx + 1) := fun b v c d n hr hb => hf b v c d n hr ⟨hb.1, by omega⟩

theorem op_move {s : St} {a : Act} {w : World} {o : Oper} {x : Operand} (ho : o.op = .move x ∨ o.op = .assign x) (m : MR env r s.H.get w) (E : Es env r s.T a o) : OpS P env a r s.H.get s.nx w o (ev s.T x) s.H.get s.nx := by
  have hx : VR env r (ev s.T x) (a.eval x) := E x (by rcases ho with h | h <;> simp [h, Op.operands])
  exact OpS.same m (u := a.eval x) (by rcases ho with h | h <;> simp [execOp, h]) hx

theorem op_pick {s : St} {a : Act} {w : World} {o : Oper} {c x y : Operand} (ho : o.op = .pick c x y) (m : MR env r s.H.get w) (E : Es env r s.T a o) {b : Bool} (hc : ev s.T c = .bool b) :
    OpS P env a r s.H.get s.nx w o (if b then ev s.T x else ev s.T y) s.H.get s.nx := by
  have h1 := E c (by simp [ho, Op.operands])
  have h2 := E x (by simp [ho, Op.operands])
  have h3 := E y (by simp [ho, Op.operands])
  rw [hc] at h1
  have := inv_bool h1
  refine OpS.same m (u := if b then a.eval x else a.eval y) ?_ (by cases b <;> simpa)
  simp [execOp, ho, this, asBool]

/-- A new block with the cells of a value. -/
theorem new_block {H : Tr AObj} {nx N : Nat} {w : World} (m : MR env r H.get w) (hf : Fresh r nx N) (hN : nx + 1 ≤ N) {xs : List AV} {cs : Array Value} (e : TypeId) (hv : VRs env r xs cs) :
    ∃ r', Grow env r H.get nx w r' (H.put nx (.cells xs 0)).get (nx + 1) (w.alloc (.cells cs e)) ∧ r' nx 0 w.heap.size 0 cs.size := by
  refine ⟨_, grow_alloc m (fresh_one hf hN) (e := e) (cs := cs) rfl rfl rfl rfl fun i x hx => ?_, .inr ⟨rfl, rfl, rfl, rfl, rfl⟩⟩
  exact hv.get hx

theorem op_alloc (hC : COk P C env) {s : St} {a : Act} {w : World} {o : Oper} {t : TypeId} {N : Nat} (ho : o.op = .alloc t) (m : MR env r s.H.get w) (hf : Fresh r s.nx N) (hN : s.nx + 1 ≤ N) {z : AV} (hz : C.zero t = some z) (hw : wholeA z = true) :
    OpS P env a r s.H.get s.nx w o (.ptr ⟨s.nx, 0, 0⟩) (s.H.put s.nx (.cells (cellsOf z) 0)).get (s.nx + 1) := by
  obtain ⟨u, hu, hzu⟩ := run_zero hC hz w
  obtain ⟨r', g, hr⟩ := new_block m hf hN t (cells_rel (hzu r) hw)
  refine ⟨.pointer (some ⟨w.heap.size, 0, none⟩), _, r', .inl ?_, g, .ptr s.nx 0 0 w.heap.size 0 _ hr⟩
  simp [execOp, ho, Instr.alloc, hu, newVar, newRow]

theorem op_box {s : St} {a : Act} {w : World} {o : Oper} {t : TypeId} {x : Operand} {N : Nat} (ho : o.op = .box t x) (m : MR env r s.H.get w) (E : Es env r s.T a o) (hf : Fresh r s.nx N) (hN : s.nx + 1 ≤ N) (hw : wholeA (ev s.T x) = true) :
    OpS P env a r s.H.get s.nx w o (.ptr ⟨s.nx, 0, 0⟩) (s.H.put s.nx (.cells (cellsOf (ev s.T x)) 0)).get (s.nx + 1) := by
  have hx := E x (by simp [ho, Op.operands])
  obtain ⟨r', g, hr⟩ := new_block m hf hN t (cells_rel hx hw)
  refine ⟨.pointer (some ⟨w.heap.size, 0, none⟩), _, r', .inl ?_, g, .ptr s.nx 0 0 w.heap.size 0 _ hr⟩
  simp [execOp, ho, Instr.box, newVar, newRow]

theorem op_load (hC : COk P C env) {s : St} {a : Act} {w : World} {o : Oper} {t : TypeId} {x : Operand} {p : Ref} {v : AV} (ho : o.op = .load t x) (m : MR env r s.H.get w) (E : Es env r s.T a o) (hp : ev s.T x = .ptr p) (hv : C.load s.H t p = some v) :
    OpS P env a r s.H.get s.nx w o v s.H.get s.nx := by
  have hx := E x (by simp [ho, Op.operands])
  rw [hp] at hx
  obtain ⟨c, d, n, hu, hr⟩ := inv_ptr hx
  obtain ⟨u, h1, h2⟩ := load_ok hC m hv hr
  exact OpS.same m (u := u) (by simp [execOp, ho, hu, Instr.loadAt, Instr.sureAddr, h1]) h2

theorem flat_whole {x : AV} (h : flats (cellsOf x) = true) : wholeA x = true := by cases x <;> first | rfl | (simp [cellsOf, flats, flat] at h)

theorem op_store (hC : COk P C env) {s : St} {a : Act} {w : World} {o : Oper} {t : TypeId} {x y : Operand} {p : Ref} {H' : Tr AObj} (ho : o.op = .store t x y) (m : MR env r s.H.get w) (E : Es env r s.T a o) (hp : ev s.T x = .ptr p) (hv : C.store s.H t p (ev s.T y) = some H') :
    OpS P env a r s.H.get s.nx w o .unk H'.get s.nx := by
  have hx := E x (by simp [ho, Op.operands])
  have hy := E y (by simp [ho, Op.operands])
  rw [hp] at hx
  obtain ⟨c, d, n, hu, hr⟩ := inv_ptr hx
  unfold Ctx.store at hv
  split at hv
  · rename_i k hk
    cases hb : (Nat.beq (cellsOf (ev s.T y)).length k && flats (cellsOf (ev s.T y))) with
    | false => rw [hb] at hv; cases hv
    | true =>
      rw [hb, cond_true] at hv
      rw [Bool.and_eq_true] at hb
      have hcells := cells_rel hy (flat_whole hb.2)
      obtain ⟨w', h1, r', g, _⟩ := store_ok (P := P) (us := (a.eval y).cells.toList) m s.nx hv hb.2 hr (by simpa using hcells)
      refine ⟨undef, w', r', .inr ⟨?_, rfl⟩, g, .unk _⟩
      have hsz : (a.eval y).cells.size = k := by rw [← hcells.1]; exact Nat.eq_of_beq_eq_true hb.1
      simp [execOp, ho, hu, Instr.storeAt, Instr.sureAddr, storeVar, run_size hC hk, hsz, h1]
  · cases hv

theorem op_nilCheck {s : St} {a : Act} {w : World} {o : Oper} {x : Operand} {p : Ref} (ho : o.op = .nilCheck x) (m : MR env r s.H.get w) (E : Es env r s.T a o) (hp : ev s.T x = .ptr p) :
    OpS P env a r s.H.get s.nx w o (.ptr p) s.H.get s.nx := by
  have hx := E x (by simp [ho, Op.operands])
  rw [hp] at hx
  obtain ⟨c, d, n, hu, hr⟩ := inv_ptr hx
  refine OpS.same m (u := a.eval x) ?_ (hp ▸ E x (by simp [ho, Op.operands]))
  simp [execOp, ho, hu]

theorem op_bin (hC : COk P C env) {s : St} {a : Act} {w : World} {o : Oper} {op : BinOp} {t u : TypeId} {x y : Operand} {v : AV} (ho : o.op = .binOp op t x y u) (m : MR env r s.H.get w) (E : Es env r s.T a o) (hv : binA P C op t (ev s.T x) (ev s.T y) = some v) :
    OpS P env a r s.H.get s.nx w o v s.H.get s.nx := by
  have hx := E x (by simp [ho, Op.operands])
  have hy := E y (by simp [ho, Op.operands])
  obtain ⟨⟨b, h1, h2⟩, h3, h4⟩ := binA_ok hC hv hx hy w
  refine OpS.same m (u := b) ?_ h2
  simp [execOp, ho, eqGuard_plain op t x y _ _ w h3 h4, h1]

theorem op_un {s : St} {a : Act} {w : World} {o : Oper} {op : UnOp} {t : TypeId} {x : Operand} {q : Value} {v : AV} (ho : o.op = .unOp op t x) (m : MR env r s.H.get w) (E : Es env r s.T a o) (hq : a.eval x = q) (hv : unV (pureRun P (Op.unary op q)) = some v) :
    OpS P env a r s.H.get s.nx w o v s.H.get s.nx := by
  simp only [unV, Option.bind_eq_some_iff] at hv
  obtain ⟨u, h1, h2⟩ := hv
  refine OpS.same m (u := u) ?_ (ofW_rel h2 r)
  simp [execOp, ho, hq, pureRun_run h1 w]

theorem op_fieldAddr (hC : COk P C env) {s : St} {a : Act} {w : World} {o : Oper} {t : TypeId} {f k : Nat} {g : Field} {x : Operand} {p : Ref} (ho : o.op = .fieldAddr t x f) (m : MR env r s.H.get w) (E : Es env r s.T a o) (hp : ev s.T x = .ptr p)
    (hg : fieldA C t f = some g) (hs : C.size g.type = some (k + 1)) : OpS P env a r s.H.get s.nx w o (.ptr ⟨p.b, p.o + g.offset, p.v⟩) s.H.get s.nx := by
  have hx := E x (by simp [ho, Op.operands])
  rw [hp] at hx
  obtain ⟨c, d, n, hu, hr⟩ := inv_ptr hx
  unfold fieldA at hg
  split at hg
  · rename_i fs hfs
    rw [nth_eq, Array.getElem?_toList] at hg
    refine OpS.same m (u := .pointer (some ⟨c, (p.o + g.offset) + d, none⟩)) ?_ (.ptr _ _ _ c d n hr)
    have e : p.o + g.offset + d = p.o + d + g.offset := by omega
    simp [execOp, ho, hu, Instr.fieldAt, run_underlying (und_ok hC hfs), hg, Instr.sureAddr, fieldPlace, run_size hC hs, add_at, e]
  · cases hg

theorem op_field (hC : COk P C env) {s : St} {a : Act} {w : World} {o : Oper} {t : TypeId} {f : Nat} {g : Field} {x : Operand} {cs : List AV} {v : AV} (ho : o.op = .field t x f) (m : MR env r s.H.get w) (E : Es env r s.T a o) (hp : ev s.T x = .agg cs)
    (hg : fieldA C t f = some g) (hv : C.part g.type cs g.offset = some v) : OpS P env a r s.H.get s.nx w o v s.H.get s.nx := by
  have hx := E x (by simp [ho, Op.operands])
  rw [hp] at hx
  obtain ⟨us, hu, hr⟩ := inv_agg hx
  unfold fieldA at hg
  split at hg
  · rename_i fs hfs
    rw [nth_eq, Array.getElem?_toList] at hg
    obtain ⟨u, h1, h2⟩ := part_val hC (w := w) hr hv
    refine OpS.same m (u := u) ?_ h2
    simp [execOp, ho, hu, Instr.field, run_underlying (und_ok hC hfs), hg, asAgg, h1]
  · cases hg

theorem isNat_rel {x : AV} {i : Nat} (h : isNat x = some i) {u : Value} (hx : VR env r x u) : ∃ k, u = .int k (i : Int) := by
  unfold isNat at h
  split at h
  · simp only [Option.some.injEq] at h; subst h; exact ⟨_, inv_int hx⟩
  · cases h

theorem op_indexAddr (hC : COk P C env) {s : St} {a : Act} {w : World} {o : Oper} {t : TypeId} {x ix : Operand} {v : AV} (ho : o.op = .indexAddr t x ix) (m : MR env r s.H.get w) (E : Es env r s.T a o)
    (hv : aop P C s o = some (.val v s.H s.nx)) : OpS P env a r s.H.get s.nx w o v s.H.get s.nx := by
  have hx := E x (by simp [ho, Op.operands])
  have hi := E ix (by simp [ho, Op.operands])
  simp only [aop, ho] at hv
  split at hv
  · rename_i k e p i hu hp hn
    rw [hp] at hx
    obtain ⟨c, d, n, ha, hr⟩ := inv_ptr hx
    obtain ⟨kd, hix⟩ := isNat_rel hn hi
    split at hv
    · rename_i q hs
      cases hb : Nat.blt i k with
      | false => rw [hb] at hv; cases hv
      | true =>
        rw [hb] at hv
        simp only [cond_true, Option.some.injEq, Res.val.injEq, and_true] at hv
        subst hv
        have hlt : i < k := Nat.le_of_ble_eq_true hb
        refine OpS.same m (u := .pointer (some ⟨c, (p.o + i * q) + d, none⟩)) ?_ (.ptr _ _ _ c d n hr)
        have e1 : p.o + i * q + d = p.o + d + i * q := by omega
        simp [execOp, ho, ha, hix, Instr.indexAt, asIntOf, run_underlying (und_ok hC hu), Instr.sureAddr, hlt, run_size hC hs, add_at, e1]
    · cases hv
  · rename_i e p len cap i hu hp hn
    rw [hp] at hx
    obtain ⟨ad, cap', ha, hr⟩ := inv_sl hx
    obtain ⟨kd, hix⟩ := isNat_rel hn hi
    split at hv
    · rename_i q hs
      cases hb : Nat.blt i len with
      | false => rw [hb] at hv; cases hv
      | true =>
        rw [hb] at hv
        simp only [cond_true, Option.some.injEq, Res.val.injEq, and_true] at hv
        subst hv
        have hlt : i < len := Nat.le_of_ble_eq_true hb
        rcases hr with ⟨_, h0⟩ | ⟨c, d, n, had, hr, _⟩
        · omega
        · subst had
          refine OpS.same m (u := .pointer (some ⟨c, (p.o + i * q) + d, none⟩)) ?_ (.ptr _ _ _ c d n hr)
          have e1 : p.o + i * q + d = p.o + d + i * q := by omega
          simp [execOp, ho, ha, hix, Instr.indexAt, asIntOf, run_underlying (und_ok hC hu), hlt, run_size hC hs, add_at, e1]
    · cases hv
  · cases hv

theorem op_index (hC : COk P C env) {s : St} {a : Act} {w : World} {o : Oper} {t : TypeId} {x ix : Operand} {v : AV} {H' : Tr AObj} {nx' : Nat} (ho : o.op = .index t x ix) (m : MR env r s.H.get w) (E : Es env r s.T a o)
    (hv : aop P C s o = some (.val v H' nx')) : OpS P env a r s.H.get s.nx w o v H'.get nx' := by
  have hx := E x (by simp [ho, Op.operands])
  have hi := E ix (by simp [ho, Op.operands])
  simp only [aop, ho] at hv
  split at hv
  · rename_i k e cs i hu hp hn
    rw [hp] at hx
    obtain ⟨us, ha, hr⟩ := inv_agg hx
    obtain ⟨kd, hix⟩ := isNat_rel hn hi
    split at hv
    · rename_i q hs
      cases hb : Nat.blt i k with
      | false => rw [hb] at hv; cases hv
      | true =>
        rw [hb, cond_true, Option.map_eq_some_iff] at hv
        obtain ⟨y, hy, h⟩ := hv
        simp only [Res.val.injEq] at h
        obtain ⟨rfl, rfl, rfl⟩ := h
        have hlt : i < k := Nat.le_of_ble_eq_true hb
        obtain ⟨u, h1, h2⟩ := part_val hC (w := w) hr hy
        refine OpS.same m (u := u) ?_ h2
        simp [execOp, ho, ha, hix, Instr.index, asIntOf, run_underlying (und_ok hC hu), hlt, run_size hC hs, h1]
    · cases hv
  · rename_i b i hu hp hn
    rw [hp] at hx
    have ha := inv_str hx
    obtain ⟨kd, hix⟩ := isNat_rel hn hi
    split at hv
    · rename_i c hc
      simp only [Option.some.injEq, Res.val.injEq] at hv
      obtain ⟨rfl, rfl, rfl⟩ := hv
      rw [nth_eq, Array.getElem?_toList] at hc
      refine OpS.same m (u := .int .u8 (c.toNat : Int)) ?_ (.int _ _)
      have hb : b[i]? = some c := by
        have hlt : i < b.size := (Array.getElem?_eq_some_iff.1 hc).1
        rw [ByteArray.getElem?_lt' _ _ hlt]
        have h2 : b.data[i]? = some c := hc
        have h3 : b.data[i]? = some b.data[i] := Array.getElem?_eq_getElem hlt
        rw [h3] at h2
        exact h2
      simp [execOp, ho, ha, hix, Instr.index, asIntOf, run_underlying (und_ok hC hu), hb]
    · cases hv
  · cases hv

theorem op_extract {s : St} {a : Act} {w : World} {o : Oper} {i : Nat} {x : Operand} {vs : List AV} {v : AV} (ho : o.op = .extract x i) (m : MR env r s.H.get w) (E : Es env r s.T a o) (hp : ev s.T x = .tup vs) (hv : nth vs i = some v) :
    OpS P env a r s.H.get s.nx w o v s.H.get s.nx := by
  have hx := E x (by simp [ho, Op.operands])
  rw [hp] at hx
  obtain ⟨us, ha, hr⟩ := inv_tup hx
  rw [nth_eq] at hv
  obtain ⟨u, h1, h2⟩ := hr.get hv
  refine OpS.same m (u := u) ?_ h2
  simp [execOp, ho, ha, Instr.extract, h1]

end
end Go.Proofs.Ytdndjcofafkafaa.Sim
