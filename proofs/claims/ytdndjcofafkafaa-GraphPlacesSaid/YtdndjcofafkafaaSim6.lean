/- Operation by operation, the third part: wholes out of parts, slices, conversions. Nothing is claimed of the program here; no condition. -/
import Derived.Test.YtdndjcofafkafaaSim5
import Derived.Great.BuildSlice
namespace Go.Proofs.Ytdndjcofafkafaa.Sim
set_option linter.unusedVariables false
set_option linter.unusedSimpArgs false
open Go Go.RowKit

section
variable {P : Program} {C : Ctx} {env : Nat → Int} {r : Rel}

theorem foldl_set (l : List Value) : ∀ (k off : Nat) (cs : Array Value), off + k + l.length ≤ cs.size →
    ((l.zipIdx k).foldl (fun cs x => cs.setIfInBounds (off + x.2) x.1) cs).size = cs.size ∧
    ∀ i : Nat, ((l.zipIdx k).foldl (fun cs x => cs.setIfInBounds (off + x.2) x.1) cs)[i]? = if off + k ≤ i ∧ i < off + k + l.length then l[i - (off + k)]? else cs[i]? := by
  induction l with
  | nil => intro k off cs h; refine ⟨rfl, fun i => ?_⟩; rw [if_neg (by simp only [List.length_nil]; omega)]; rfl
  | cons v l ih =>
    intro k off cs h
    simp only [List.length_cons] at h
    obtain ⟨h1, h2⟩ := ih (k + 1) off (cs.setIfInBounds (off + k) v) (by rw [Array.size_setIfInBounds]; omega)
    simp only [List.zipIdx_cons, List.foldl_cons]
    refine ⟨by rw [h1, Array.size_setIfInBounds], fun i => ?_⟩
    rw [h2]
    simp only [List.length_cons]
    by_cases hi : i = off + k
    · subst hi
      rw [if_neg (by omega), if_pos (by omega), Array.getElem?_setIfInBounds_self_of_lt (by omega)]
      simp
    · by_cases hj : off + (k + 1) ≤ i ∧ i < off + (k + 1) + l.length
      · rw [if_pos hj, if_pos (by omega)]
        obtain ⟨e, he⟩ : ∃ e, i - (off + k) = e + 1 := ⟨i - (off + k) - 1, by omega⟩
        rw [he, show i - (off + (k + 1)) = e by omega]
        simp
      · rw [if_neg hj, if_neg (by omega), Array.getElem?_setIfInBounds_ne (by omega)]

/-- The parts of a whole. -/
def Ps (env : Nat → Int) (r : Rel) (l : List (Nat × AV)) (l' : List (Nat × Value)) : Prop := l.length = l'.length ∧ ∀ (i : Nat) x y, l[i]? = some x → l'[i]? = some y → x.1 = y.1 ∧ VR env r x.2 y.2

theorem fill_ok (place : Nat → Option (Nat × Nat)) : ∀ (ps : List (Nat × AV)) (ps' : List (Nat × Value)) (xs ys : List AV) (cs : Array Value), Ps env r ps ps' → wholes ps = true → VRs env r xs cs → fillA place xs ps = some ys →
    ∃ cs', Instr.fill place cs ps' = some cs' ∧ VRs env r ys cs' := by
  intro ps
  induction ps with
  | nil =>
    intro ps' xs ys cs hp _ hx h
    have : ps' = [] := List.eq_nil_of_length_eq_zero hp.1.symm
    subst this
    simp only [fillA, Option.some.injEq] at h
    subst h
    exact ⟨cs, rfl, hx⟩
  | cons p ps ih =>
    intro ps' xs ys cs hp hw hx h
    obtain ⟨i, v⟩ := p
    cases ps' with
    | nil => have := hp.1; simp at this
    | cons p' ps' =>
      obtain ⟨i', v'⟩ := p'
      obtain ⟨e1, e2⟩ := hp.2 0 (i, v) (i', v') rfl rfl
      simp only at e1 e2
      subst e1
      simp only [wholes, Bool.and_eq_true] at hw
      have hc := cells_rel e2 hw.1
      simp only [fillA] at h
      cases hpl : place i with
      | none => rw [hpl] at h; cases h
      | some q =>
        obtain ⟨off, size⟩ := q
        rw [hpl] at h
        simp only at h
        cases hb : (Nat.beq (cellsOf v).length size && Nat.ble 1 size) with
        | false => rw [hb] at h; cases h
        | true =>
          rw [hb, cond_true, Option.bind_eq_some_iff] at h
          obtain ⟨zs, hz, h⟩ := h
          rw [Bool.and_eq_true] at hb
          have hs : (cellsOf v).length = size := Nat.eq_of_beq_eq_true hb.1
          have hs1 : 1 ≤ size := Nat.le_of_ble_eq_true hb.2
          obtain ⟨b0, b1, b2⟩ := setsL_eq _ _ _ _ hz
          have hvs : v'.cells.size = size := by rw [← hc.1, hs]
          simp only [Instr.fill, hpl]
          by_cases hbig : off + v'.cells.size > cs.size
          · -- nothing to lay there
            rcases b0 with b0 | b0
            · rw [b0] at hs; simp only [List.length_nil] at hs; omega
            · rw [hx.1] at b0; omega
          · have hfit : off + v'.cells.size ≤ cs.size := by omega
            rw [if_neg (by simp [hvs]; omega)]
            have hf := foldl_set v'.cells.toList 0 off cs (by simp; omega)
            have hfold : v'.cells.zipIdx.foldl (fun cs x => cs.setIfInBounds (off + x.2) x.1) cs = (v'.cells.toList.zipIdx 0).foldl (fun cs x => cs.setIfInBounds (off + x.2) x.1) cs := by
              rw [← Array.foldl_toList, Array.toList_zipIdx]
            refine ih ps' zs ys _ ⟨by have := hp.1; simpa using this, fun j x y a b => hp.2 (j + 1) x y (by simpa using a) (by simpa using b)⟩ hw.2 ⟨?_, ?_⟩ h
            · rw [hfold, hf.1, b1, hx.1]
            · intro j x u hj hu
              rw [hfold, hf.2] at hu
              rw [b2] at hj
              simp only [Nat.add_zero, Array.length_toList] at hu
              rw [← hc.1] at hu
              by_cases hk : off ≤ j ∧ j < off + (cellsOf v).length
              · rw [if_pos hk] at hj hu
                exact hc.2 _ _ _ hj (by simpa using hu)
              · rw [if_neg hk] at hj hu
                exact hx.2 _ _ _ hj hu


theorem parts_rel {s : St} {a : Act} {o : Oper} (E : Es env r s.T a o) (ps : Array (Nat × Operand)) (h : ∀ p ∈ ps.toList, p.2 ∈ o.op.operands) : Ps env r (partsA s.T ps.toList) (ps.map fun (i, x) => (i, a.eval x)).toList := by
  refine ⟨by simp [partsA], fun i x y hx hy => ?_⟩
  simp only [partsA, List.getElem?_map, Option.map_eq_some_iff] at hx
  obtain ⟨p, hp, rfl⟩ := hx
  rw [Array.toList_map, List.getElem?_map, Option.map_eq_some_iff] at hy
  obtain ⟨q, hq, rfl⟩ := hy
  rw [hp] at hq
  obtain rfl := Option.some.inj hq
  exact ⟨rfl, E _ (h p (List.mem_of_getElem? hp))⟩

theorem sizes_ok (hC : COk P C env) : ∀ {fs : List Field} {pl : List (Nat × Nat)}, sizesA C fs = some pl → fs.mapM (fun f => (P.info? f.type).map fun i => (f.offset, i.size)) = some pl := by
  intro fs
  induction fs with
  | nil => intro pl h; simp only [sizesA, Option.some.injEq] at h; subst h; simp
  | cons f fs ih =>
    intro pl h
    simp only [sizesA] at h
    split at h
    · rename_i n rest h1 h2
      simp only [Option.some.injEq] at h
      subst h
      obtain ⟨i, hi, rfl⟩ := info_ok hC h1
      simp [hi, ih h2]
    · cases h

theorem zero_info {t : TypeId} {z : AV} (hC : COk P C env) (h : C.zero t = some z) : ∃ i u, P.info? t = some i ∧ i.zero = some u ∧ ∀ r, VR env r z u := by
  unfold Ctx.zero at h
  rw [Option.bind_eq_some_iff] at h
  obtain ⟨i, hi, h⟩ := h
  rw [Option.bind_eq_some_iff] at h
  obtain ⟨u, hu, h⟩ := h
  rw [Option.bind_eq_some_iff] at h
  obtain ⟨z', hz, h⟩ := h
  cases hb : wholeA z' with
  | false => rw [hb] at h; cases h
  | true =>
    rw [hb] at h
    obtain rfl := Option.some.inj h
    exact ⟨i, u, hC.types _ _ hi, hu, fun r => ofW_rel hz r⟩

theorem op_build (hC : COk P C env) {s : St} {a : Act} {w : World} {o : Oper} {t : TypeId} {ps : Array (Nat × Operand)} {v : AV} (ho : o.op = .build t ps) (m : MR env r s.H.get w) (E : Es env r s.T a o)
    (hw : wholes (partsA s.T ps.toList) = true) (hv : buildA C t (partsA s.T ps.toList) = some v) : OpS P env a r s.H.get s.nx w o v s.H.get s.nx := by
  have hps := parts_rel E ps (fun p hp => by simp only [ho, Op.operands]; simp only [List.mem_toArray, List.mem_map]; exact ⟨p, hp, rfl⟩)
  unfold buildA at hv
  split at hv
  · rename_i z fs hz0 hu
    obtain ⟨i, u, hi, hiz, hzu⟩ := zero_info hC hz0
    split at hv
    · rename_i pl hpl
      rw [Option.map_eq_some_iff] at hv
      obtain ⟨ys, hy, rfl⟩ := hv
      have hnth : nth pl = fun i => pl[i]? := funext (nth_eq pl)
      rw [hnth] at hy
      obtain ⟨cs, h1, h2⟩ := fill_ok _ _ _ _ _ u.cells hps hw (cells_rel (hzu r) (zero_whole hz0)) hy
      refine OpS.same m (u := .agg cs) ?_ (.agg _ _ h2.1 h2.2)
      have := run_build (P := P) w t (ps.map fun (i, x) => (i, a.eval x)) cs (by simp only [Program.built, hi, und_ok hC hu, hiz, sizes_ok hC hpl, List.getElem?_toArray]; exact h1)
      simp [execOp, ho, this]
    · cases hv
  · rename_i z k e hz0 hu
    obtain ⟨i, u, hi, hiz, hzu⟩ := zero_info hC hz0
    split at hv
    · rename_i n hn
      rw [Option.map_eq_some_iff] at hv
      obtain ⟨ys, hy, rfl⟩ := hv
      obtain ⟨ie, hie, rfl⟩ := info_ok hC hn
      obtain ⟨cs, h1, h2⟩ := fill_ok _ _ _ _ _ u.cells hps hw (cells_rel (hzu r) (zero_whole hz0)) hy
      refine OpS.same m (u := .agg cs) ?_ (.agg _ _ h2.1 h2.2)
      have := run_build (P := P) w t (ps.map fun (i, x) => (i, a.eval x)) cs (by simp only [Program.built, hi, und_ok hC hu, hiz, hie]; exact h1)
      simp [execOp, ho, this]
    · cases hv
  · cases hv

theorem rep_zeros {n : Nat} {xs : List AV} {cs : Array Value} (hn : xs.length ≠ 0) (h : VRs env r xs cs) (k : Nat) (hk : cs.size = n) : VRs env r (rep k xs) ((Array.range (k * n)).map (cs[· % cs.size]!)) := by
  subst hk
  refine ⟨by rw [rep_length, h.1]; simp, fun i x u hx hu => ?_⟩
  have hi : i < k * xs.length := by have := (List.getElem?_eq_some_iff.1 hx).1; rw [rep_length] at this; exact this
  rw [rep_get xs hn k i hi] at hx
  have hm : i % xs.length < cs.size := by rw [← h.1]; exact Nat.mod_lt _ (by omega)
  simp only [Array.getElem?_map, Option.map_eq_some_iff] at hu
  obtain ⟨j, hj, rfl⟩ := hu
  have hj' : j = i := by
    rw [Array.getElem?_range] at hj
    split at hj
    · exact (Option.some.inj hj).symm
    · cases hj
  subst hj'
  refine h.2 _ x _ hx ?_
  rw [h.1]
  rw [h.1] at hm
  rw [getElem!_pos cs (j % cs.size) hm]
  exact Array.getElem?_eq_getElem hm

theorem op_buildSlice (hC : COk P C env) {s : St} {a : Act} {w : World} {o : Oper} {t : TypeId} {len N : Nat} {ps : Array (Nat × Operand)} {cs : List AV} (ho : o.op = .buildSlice t len ps) (m : MR env r s.H.get w) (E : Es env r s.T a o) (hf : Fresh r s.nx N) (hN : s.nx + 1 ≤ N)
    (hw : wholes (partsA s.T ps.toList) = true) (hv : buildSliceA C t len (partsA s.T ps.toList) = some cs) :
    OpS P env a r s.H.get s.nx w o (.sl ⟨s.nx, 0, 0⟩ len (.known len)) (s.H.put s.nx (.cells cs 0)).get (s.nx + 1) := by
  have hps := parts_rel E ps (fun p hp => by simp only [ho, Op.operands]; simp only [List.mem_toArray, List.mem_map]; exact ⟨p, hp, rfl⟩)
  unfold buildSliceA at hv
  split at hv
  · rename_i e hu
    split at hv
    · rename_i n z hn hz0
      cases hb : (Nat.beq (cellsOf z).length n && Nat.ble (len * n) 16777216 && !(Nat.beq n 0)) with
      | false => rw [hb] at hv; cases hv
      | true =>
        rw [hb, cond_true] at hv
        simp only [Bool.and_eq_true, Bool.not_eq_true'] at hb
        obtain ⟨⟨hb1, hb2⟩, hb3⟩ := hb
        have hb1 : (cellsOf z).length = n := Nat.eq_of_beq_eq_true hb1
        have hb2 : len * n ≤ 16777216 := Nat.le_of_ble_eq_true hb2
        have hb3 : n ≠ 0 := by intro h; subst h; cases hb3
        obtain ⟨i, u, hi, hiz, hzu⟩ := zero_info hC hz0
        obtain ⟨i', hi', hn'⟩ := info_ok hC hn
        rw [hi] at hi'
        obtain rfl := Option.some.inj hi'
        have hwz : wholeA z = true := zero_whole hz0
        have hcz := cells_rel (hzu r) hwz
        have hcn : u.cells.size = n := by rw [← hcz.1, hb1]
        obtain ⟨us, h1, h2⟩ := fill_ok _ _ _ _ _ _ hps hw (rep_zeros (n := n) (by omega) hcz len hcn) hv
        obtain ⟨r', g, hr⟩ := new_block m hf hN e h2
        refine ⟨.slice (some ⟨w.heap.size, 0, none⟩) len len, _, r', .inl ?_, g, .slk s.nx 0 0 w.heap.size 0 _ len len hr⟩
        rcases Nat.eq_zero_or_pos len with h0 | h0
        · subst h0
          rw [Nat.zero_mul] at h1
          have h1' : Instr.fill (fun i => some (i * n, n)) #[] (ps.map fun (i, x) => (i, a.eval x)).toList = some us := by rw [Array.range_zero', Array.map_empty] at h1; exact h1
          have hps0 : (ps.map fun (i, x) => (i, a.eval x)) = #[] := by
            cases hl : (ps.map fun (i, x) => (i, a.eval x)).toList with
            | nil => exact Array.toList_eq_nil_iff.1 hl
            | cons p l =>
              exfalso
              rw [hl] at h1'
              obtain ⟨i0, v0⟩ := p
              simp only [Instr.fill] at h1'
              split at h1'
              · cases h1'
              · rename_i hh; simp only [Bool.or_eq_true, not_or, bne_iff_ne, ne_eq, decide_eq_true_eq, gt_iff_lt, Nat.not_lt, Array.size_empty, Decidable.not_not] at hh; omega
          have hus : us = #[] := by
            rw [hps0] at h1'
            simp only [Instr.fill, Option.some.injEq] at h1'
            exact h1'.symm
          subst hus
          simp [execOp, ho, Instr.buildSlice, run_underlying (und_ok hC hu), run_size hC hn, hps0, Instr.fill, newRow]
          rw [Array.range_zero', Array.map_empty]
        · have := run_buildSlice (P := P) w t e len (ps.map fun (i, x) => (i, a.eval x)) us i u (und_ok hC hu) hi hiz (by rw [hn']; omega) (by rw [hn']; exact Nat.mul_ne_zero (by omega) hb3) (by rw [hn']; exact h1)
          simp [execOp, ho, this]
    · cases hv
  · cases hv

end
end Go.Proofs.Ytdndjcofafkafaa.Sim
