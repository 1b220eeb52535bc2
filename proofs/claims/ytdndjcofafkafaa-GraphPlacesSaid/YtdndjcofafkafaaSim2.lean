/- The interpreter's operations are the model's: each answers, in any memory that stands so to the interpreter's, what the interpreter says. Nothing is claimed of the program here; no condition. -/
import Derived.Test.YtdndjcofafkafaaSim1
import Derived.WalkKit
import Derived.Laws.CopyRow
import Derived.Laws.Append
namespace Go.Proofs.Ytdndjcofafkafaa.Sim
set_option linter.unusedVariables false
set_option linter.unusedSimpArgs false
open Go Go.RowKit

def numV (env : Nat → Int) : Num → Int
  | .lit n => n
  | .sym i => env i

def FactOk (P : Program) (env : Nat → Int) (f : Fact) : Prop :=
  ∀ (t : TypeId) (w : World), ∃ v, (binOp f.op t (.int f.k (numV env f.x)) (.int f.k (numV env f.y))).run P w = .ok v w ∧ ∀ r, VR env r f.r v

structure COk (P : Program) (C : Ctx) (env : Nat → Int) : Prop where
  types : ∀ t i, C.types.get t = some i → P.info? t = some i
  funcs : ∀ f fn, C.funcs.get f = some fn → P.funcs[f]? = some fn
  names : ∀ f fn, C.funcs.get f = some fn → fn.body.isSome = true → (fn.name == "runtime.NumGoroutine") = false
  facts : ∀ f ∈ C.facts, FactOk P env f

section
variable {P : Program} {C : Ctx} {env : Nat → Int}

theorem und_ok (hC : COk P C env) {t : TypeId} {d : TypeDesc} (h : C.und t = some d) : P.underlying t = some d := by
  unfold Ctx.und at h
  cases hi : C.types.get t with
  | none => rw [hi] at h; cases h
  | some i =>
    rw [hi] at h
    simp only at h
    have h1 := hC.types _ _ hi
    unfold Program.underlying
    rw [h1]
    obtain ⟨desc, _, _, _, _, _, _, _, _, _⟩ := i
    cases desc <;> simp only at h ⊢ <;> try exact h
    rename_i nm u
    rw [Option.map_eq_some_iff] at h ⊢
    obtain ⟨j, hj, rfl⟩ := h
    exact ⟨j, hC.types _ _ hj, rfl⟩

theorem info_ok (hC : COk P C env) {t : TypeId} {n : Nat} (h : C.size t = some n) : ∃ i, P.info? t = some i ∧ i.size = n := by
  unfold Ctx.size at h
  rw [Option.map_eq_some_iff] at h
  obtain ⟨i, hi, rfl⟩ := h
  exact ⟨i, hC.types _ _ hi, rfl⟩

theorem run_size (hC : COk P C env) {t : TypeId} {n : Nat} (h : C.size t = some n) (w : World) : (sizeOf t).run P w = .ok n w := by
  obtain ⟨i, hi, rfl⟩ := info_ok hC h
  simp [sizeOf, typeInfo, hi]

theorem run_isAgg (hC : COk P C env) {t : TypeId} {b : Bool} (h : C.agg t = some b) (w : World) : (isAgg t).run P w = .ok b w := by
  unfold Ctx.agg at h
  rw [Option.map_eq_some_iff] at h
  obtain ⟨d, hd, rfl⟩ := h
  have := und_ok hC hd
  unfold isAgg
  rw [Sem.run_bind, run_underlying this w]
  cases d <;> simp [isAggB]

theorem ofV_rel {v : Value} {x : AV} (h : ofV v = some x) (r : Rel) : VR env r x v := by
  unfold ofV at h
  split at h <;> first | (simp only [Option.some.injEq] at h; subst h; constructor) | (exact absurd h (by simp))

theorem ofVs_rel (r : Rel) : ∀ {l : List Value} {xs : List AV}, ofVs l = some xs → xs.length = l.length ∧ ∀ (i : Nat) x v, xs[i]? = some x → l[i]? = some v → VR env r x v := by
  intro l
  induction l with
  | nil => intro xs h; simp only [ofVs, Option.some.injEq] at h; subst h; simp
  | cons v l ih =>
    intro xs h
    simp only [ofVs] at h
    split at h
    · rename_i x ys h1 h2
      simp only [Option.some.injEq] at h
      subst h
      obtain ⟨a, b⟩ := ih h2
      refine ⟨by simp [a], fun i y u hy hu => ?_⟩
      cases i with
      | zero => simp only [List.getElem?_cons_zero, Option.some.injEq] at hy hu; subst hy; subst hu; exact ofV_rel h1 r
      | succ i => simp only [List.getElem?_cons_succ] at hy hu; exact b i y u hy hu
    · cases h

theorem ofW_rel {v : Value} {x : AV} (h : ofW v = some x) (r : Rel) : VR env r x v := by
  unfold ofW at h
  split at h
  · rw [Option.map_eq_some_iff] at h
    obtain ⟨xs, h1, rfl⟩ := h
    obtain ⟨a, b⟩ := ofVs_rel (env := env) r h1
    exact .agg _ _ (by simpa using a) fun i x x' h1 h2 => b i x x' h1 (by simpa using h2)
  · rw [Option.map_eq_some_iff] at h
    obtain ⟨xs, h1, rfl⟩ := h
    obtain ⟨a, b⟩ := ofVs_rel (env := env) r h1
    exact .tup _ _ (by simpa using a) fun i x x' h1 h2 => b i x x' h1 (by simpa using h2)
  · exact ofV_rel h r

theorem run_zero (hC : COk P C env) {t : TypeId} {z : AV} (h : C.zero t = some z) (w : World) : ∃ u, (zeroValue t).run P w = .ok u w ∧ ∀ r, VR env r z u := by
  unfold Ctx.zero at h
  rw [Option.bind_eq_some_iff] at h
  obtain ⟨i, hi, h⟩ := h
  rw [Option.bind_eq_some_iff] at h
  obtain ⟨u, hu, h⟩ := h
  rw [Option.bind_eq_some_iff] at h
  obtain ⟨z', hz, h⟩ := h
  cases hb : wholeA z' with
  | false => rw [hb] at h; cases h
  | true =>
    rw [hb] at h
    obtain rfl := Option.some.inj h
    refine ⟨u, ?_, fun r => ofW_rel hz r⟩
    have := hC.types _ _ hi
    simp [zeroValue, typeInfo, this, hu]

theorem zero_whole {t : TypeId} {z : AV} (h : C.zero t = some z) : wholeA z = true := by
  unfold Ctx.zero at h
  rw [Option.bind_eq_some_iff] at h
  obtain ⟨i, hi, h⟩ := h
  rw [Option.bind_eq_some_iff] at h
  obtain ⟨u, hu, h⟩ := h
  rw [Option.bind_eq_some_iff] at h
  obtain ⟨z', hz, h⟩ := h
  cases hb : wholeA z' with
  | false => rw [hb] at h; cases h
  | true =>
    rw [hb] at h
    obtain rfl := Option.some.inj h
    exact hb

/-- How slots stand to each other. -/
def TR (env : Nat → Int) (r : Rel) (nt : Nat) (T : Tr AV) (tmps : Array Value) : Prop := tmps.size = nt ∧ ∀ t x, T.get t = some x → VR env r x (tmps.getD t undef)

theorem TR.mono {r r' : Rel} (hr : ∀ b v c d n, r b v c d n → r' b v c d n) {nt : Nat} {T : Tr AV} {tmps : Array Value} (h : TR env r nt T tmps) : TR env r' nt T tmps :=
  ⟨h.1, fun t x hx => (h.2 t x hx).mono hr⟩

theorem ev_rel {r : Rel} {nt : Nat} {T : Tr AV} {a : Act} (h : TR env r nt T a.tmps) (x : Operand) : VR env r (ev T x) (a.eval x) := by
  cases x with
  | tmp t =>
    simp only [ev, Act.eval]
    cases ht : T.get t with
    | none => exact .unk _
    | some y => exact h.2 t y ht
  | const v =>
    simp only [ev, Act.eval]
    cases ht : ofW v with
    | none => exact .unk _
    | some y => exact ofW_rel ht r
  | global g => exact .unk _
  | func f => exact .fn f [] [] #[] #[] rfl rfl (fun i x x' h => by simp at h) (fun i x x' h => by simp at h)

theorem evs_rel {r : Rel} {nt : Nat} {T : Tr AV} {a : Act} (h : TR env r nt T a.tmps) (l : Array Operand) : VRs env r (evs T l.toList) (l.map a.eval) := by
  refine ⟨by simp [evs], fun i x x' hx hx' => ?_⟩
  simp only [evs, List.getElem?_map, Option.map_eq_some_iff] at hx
  obtain ⟨o, ho, rfl⟩ := hx
  simp only [Array.getElem?_map, Option.map_eq_some_iff] at hx'
  obtain ⟨o', ho', rfl⟩ := hx'
  rw [Array.getElem?_toList] at ho
  rw [ho'] at ho
  obtain rfl := Option.some.inj ho
  exact ev_rel h _

theorem put_rel {r : Rel} {nt : Nat} {T T' : Tr AV} {a : Act} (h : TR env r nt T a.tmps) {d : Option Tmp} {x : AV} {u : Value} (hx : VR env r x u) (hp : putT nt T d x = some T') : TR env r nt T' (a.put d u).tmps := by
  cases d with
  | none => simp only [putT, Option.some.injEq] at hp; subst hp; exact h
  | some d =>
    simp only [putT] at hp
    cases hb : Nat.blt d nt with
    | false => rw [hb] at hp; simp at hp
    | true =>
      rw [hb] at hp
      simp only [cond_true, Option.some.injEq] at hp
      subst hp
      have hd : d < nt := Nat.le_of_ble_eq_true hb
      refine ⟨by simp [Act.put, h.1], fun t y hy => ?_⟩
      rw [Tr.get_put] at hy
      by_cases e : t = d
      · subst e
        rw [if_pos rfl] at hy
        obtain rfl := Option.some.inj hy
        simp only [Act.put]
        rw [Array.getD_eq_getD_getElem?, Array.getElem?_setIfInBounds_self_of_lt (by rw [h.1]; exact hd)]
        exact hx
      · rw [if_neg e] at hy
        have := h.2 t y hy
        simp only [Act.put]
        rw [Array.getD_eq_getD_getElem?, Array.getElem?_setIfInBounds_ne (Ne.symm e), ← Array.getD_eq_getD_getElem?]
        exact this

theorem cellsAt_eq {H : Tr AObj} {a : Ref} {xs : List AV} (h : cellsAt H a = some xs) : H.get a.b = some (.cells xs a.v) := by
  unfold cellsAt at h
  split at h
  · rename_i ys v hv
    cases hb : Nat.beq v a.v with
    | false => rw [hb] at h; simp at h
    | true =>
      rw [hb] at h
      simp only [cond_true, Option.some.injEq] at h
      subst h
      rw [hv, Nat.eq_of_beq_eq_true hb]
  · cases h

/-- The cells of a block that stands. -/
theorem cells_ok {r : Rel} {H : Tr AObj} {w : World} (m : MR env r H.get w) {a : Ref} {xs : List AV} (h : cellsAt H a = some xs) {c d n : Nat} (hr : r a.b a.v c d n) :
    ∃ cs e, w.heap[c]? = some (.cells cs e (0, 0)) ∧ cs.size = n ∧ ∀ (i : Nat) (x : AV), xs[i]? = some x → ∃ u, cs[i + d]? = some u ∧ VR env r x u := by
  obtain ⟨c', d', n', cs, e, h1, h2, h3, h4⟩ := m.obj (cellsAt_eq h)
  obtain ⟨rfl, rfl, rfl⟩ := m.fn h1 hr
  exact ⟨cs, e, h2, h3, h4⟩

theorem add_at (c o i : Nat) : (⟨c, o, none⟩ : Addr).add i = ⟨c, o + i, none⟩ := by
  unfold Addr.add
  split
  · rename_i h; subst h; rfl
  · rfl

/-- A row of cells out of a block: read one by one. -/
theorem run_cut {w : World} {c : Nat} {cs : Array Value} {e : TypeId} (hc : w.heap[c]? = some (.cells cs e (0, 0))) {r : Rel} {xs ys : List AV} {o d m : Nat}
    (hx : ∀ (i : Nat) (x : AV), xs[i]? = some x → ∃ u, cs[i + d]? = some u ∧ VR env r x u) (h : cutL xs o m = some ys) :
    ∃ us : List Value, (loadCells ⟨c, o + d, none⟩ m).run P w = .ok us.toArray w ∧ us.length = m ∧ VRs env r ys us.toArray ∧ ∀ j v, us[j]? = some v → w.cell? ((⟨c, o + d, none⟩ : Addr).add j) = some v := by
  obtain ⟨h1, h2⟩ := cutL_eq h
  have key : ∀ i, i < m → ∃ u, cs[o + i + d]? = some u ∧ ∃ y, ys[i]? = some y ∧ VR env r y u := by
    intro i hi
    have hy : ys[i]? = some ys[i] := List.getElem?_eq_getElem (by omega)
    have := h2 i hi
    rw [hy] at this
    obtain ⟨u, a, b⟩ := hx _ _ this.symm
    exact ⟨u, a, _, hy, b⟩
  let us := (List.range m).map fun i => (cs[o + i + d]?).getD undef
  have hu : ∀ i, i < m → us[i]? = cs[o + i + d]? := by
    intro i hi
    obtain ⟨u, a, _⟩ := key i hi
    simp [us, hi, a]
  have hl : us.length = m := by simp [us]
  have hcell : ∀ j v, us[j]? = some v → w.cell? ((⟨c, o + d, none⟩ : Addr).add j) = some v := by
    intro j v hv
    have hj : j < m := by have := (List.getElem?_eq_some_iff.1 hv).1; omega
    rw [add_at, cell_of_row w c _ cs e (0, 0) hc, ← hv, hu j hj]
    congr 1; omega
  refine ⟨us, ?_, hl, ⟨by simp [hl, h1], fun i x x' hx1 hx2 => ?_⟩, hcell⟩
  · have := run_loadCells_list (P := P) w ⟨c, o + d, none⟩ us hcell
    rw [hl] at this
    exact this
  · have hi : i < m := by have := (List.getElem?_eq_some_iff.1 hx1).1; omega
    obtain ⟨u, a, y, b, v⟩ := key i hi
    rw [b] at hx1
    obtain rfl := Option.some.inj hx1
    simp only [List.getElem?_toArray] at hx2
    rw [hu i hi, a] at hx2
    obtain rfl := Option.some.inj hx2
    exact v

theorem part_load (hC : COk P C env) {w : World} {c : Nat} {cs : Array Value} {e : TypeId} (hc : w.heap[c]? = some (.cells cs e (0, 0))) {r : Rel} {xs : List AV} {o d : Nat} {t : TypeId} {y : AV}
    (hx : ∀ (i : Nat) (x : AV), xs[i]? = some x → ∃ u, cs[i + d]? = some u ∧ VR env r x u) (h : C.part t xs o = some y) :
    ∃ u, (loadVar t ⟨c, o + d, none⟩).run P w = .ok u w ∧ VR env r y u := by
  unfold Ctx.part at h
  split at h
  · rename_i n ha hs
    rw [Option.map_eq_some_iff] at h
    obtain ⟨ys, h1, rfl⟩ := h
    obtain ⟨us, a, b, v, _⟩ := run_cut (P := P) hc hx h1
    refine ⟨.agg us.toArray, ?_, .agg _ _ v.1 v.2⟩
    simp [loadVar, run_isAgg hC ha, run_size hC hs, a]
  · rename_i n ha hs
    rw [nth_eq] at h
    obtain ⟨u, a, b⟩ := hx _ _ h
    refine ⟨u, ?_, b⟩
    have : w.cell? ⟨c, o + d, none⟩ = some u := by rw [cell_of_row w c _ cs e (0, 0) hc]; exact a
    simp [loadVar, run_isAgg hC ha, this]
  · cases h

theorem load_ok (hC : COk P C env) {r : Rel} {H : Tr AObj} {w : World} (m : MR env r H.get w) {a : Ref} {t : TypeId} {y : AV} (h : C.load H t a = some y) {c d n : Nat} (hr : r a.b a.v c d n) :
    ∃ u, (loadVar t ⟨c, a.o + d, none⟩).run P w = .ok u w ∧ VR env r y u := by
  unfold Ctx.load at h
  rw [Option.bind_eq_some_iff] at h
  obtain ⟨xs, h1, h2⟩ := h
  obtain ⟨cs, e, hc, _, hx⟩ := cells_ok m h1 hr
  exact part_load hC hc hx h2

/-- A part of a whole by value. -/
theorem part_val (hC : COk P C env) {w : World} {r : Rel} {xs : List AV} {cs : Array Value} (hx : VRs env r xs cs) {t : TypeId} {o : Nat} {y : AV} (h : C.part t xs o = some y) :
    ∃ u, (part t cs o).run P w = .ok u w ∧ VR env r y u := by
  unfold Ctx.part at h
  split at h
  · rename_i n ha hs
    rw [Option.map_eq_some_iff] at h
    obtain ⟨ys, h1, rfl⟩ := h
    obtain ⟨h1, h2⟩ := cutL_eq h1
    have hb : n = 0 ∨ o + n ≤ cs.size := by
      rcases Nat.eq_zero_or_pos n with h0 | h0
      · exact .inl h0
      · right
        have hy : ys[n - 1]? = some ys[n - 1] := List.getElem?_eq_getElem (by omega)
        rw [h2 _ (by omega)] at hy
        have := (List.getElem?_eq_some_iff.1 hy).1
        rw [← hx.1]; omega
    refine ⟨.agg (cs.extract o (o + n)), ?_, .agg _ _ ?_ fun i x x' a b => ?_⟩
    · simp [part, run_isAgg hC ha, run_size hC hs]
    · rw [h1]
      rcases hb with h0 | h0
      · rw [Array.size_extract]; omega
      · rw [Array.size_extract]; omega
    · have hi : i < n := by have := (List.getElem?_eq_some_iff.1 a).1; omega
      rw [h2 i hi] at a
      refine hx.2 (o + i) x x' a ?_
      rw [Array.getElem?_extract] at b
      split at b
      · exact b
      · cases b
  · rename_i n ha hs
    rw [nth_eq] at h
    obtain ⟨u, a, b⟩ := hx.get h
    refine ⟨u, ?_, b⟩
    simp [part, run_isAgg hC ha, a]
  · cases h

theorem cells_rel {r : Rel} {x : AV} {u : Value} (h : VR env r x u) (hw : wholeA x = true) : VRs env r (cellsOf x) u.cells := by
  have one : (∀ cs, x ≠ .agg cs) → (∀ cs, u ≠ .agg cs) → VRs env r (cellsOf x) u.cells := by
    intro h1 h2
    have e1 : cellsOf x = [x] := by cases x <;> first | rfl | exact absurd rfl (h1 _)
    have e2 : u.cells = #[u] := by cases u <;> first | rfl | exact absurd rfl (h2 _)
    rw [e1, e2]
    refine ⟨rfl, fun i y y' a b => ?_⟩
    cases i with
    | zero => simp at a b; subst a; subst b; exact h
    | succ i => simp at a
  cases h with
  | unk => cases hw
  | tup => cases hw
  | agg cs cs' hc hh => exact ⟨hc, hh⟩
  | _ => exact one (by intro cs e; cases e) (by intro cs e; cases e)

end
end Go.Proofs.Ytdndjcofafkafaa.Sim
