/- Operation by operation, the sixth part: builtins. Nothing is claimed of the program here; no condition. -/
import Derived.Test.YtdndjcofafkafaaSim8
namespace Go.Proofs.Ytdndjcofafkafaa.Sim
set_option linter.unusedVariables false
set_option linter.unusedSimpArgs false
open Go Go.RowKit

section
variable {P : Program} {C : Ctx} {env : Nat → Int} {r : Rel}

/-- A value of which the length is told. -/
theorem lenA_rel {x : AV} {n : Nat} (h : lenA x = some n) {u : Value} (hx : VR env r x u) (w : World) : (Builtin.lenOf u).run P w = .ok n w := by
  cases x <;> simp only [lenA, Option.some.injEq, reduceCtorEq] at h
  · subst h; rw [inv_str hx]; simp [Builtin.lenOf]
  · subst h; rw [inv_nils hx]; simp [Builtin.lenOf]
  · subst h; obtain ⟨p, c, hu, _⟩ := inv_sl hx; rw [hu]; simp [Builtin.lenOf]

theorem bytesA_get : ∀ (l : List UInt8) (i : Nat), (bytesA l)[i]? = (l[i]?).map fun b => AV.int .u8 (b.toNat : Int) := by
  intro l
  induction l with
  | nil => intro i; simp [bytesA]
  | cons b l ih => intro i; cases i <;> simp [bytesA, ih]

/-- The first cells of a slice or a string. -/
theorem firstA_ok {H : Tr AObj} {w : World} (m : MR env r H.get w) {size n : Nat} {x : AV} {ys : List AV} (h : firstA H size n x = some ys) {u : Value} (hx : VR env r x u) (hs : ∀ b, x = .str b → size = 1) :
    ∃ us : List Value, (∀ w' : World, w'.heap = w.heap → (Builtin.firstCells size n u).run P w' = .ok us.toArray w') ∧ VRs env r ys us.toArray := by
  unfold firstA at h
  split at h
  · have hu := inv_nils hx
    cases hb : Nat.beq n 0 with
    | false => rw [hb] at h; cases h
    | true =>
      rw [hb] at h
      simp only [cond_true, Option.some.injEq] at h
      subst h; subst hu
      exact ⟨[], fun w' _ => by simp [Builtin.firstCells], rfl, fun i x x' a => by simp at a⟩
  · rename_i p len cap
    obtain ⟨ad, cap', hu, hr⟩ := inv_sl hx
    subst hu
    cases hb : Nat.ble n len with
    | false => rw [hb] at h; cases h
    | true =>
      rw [hb, cond_true] at h
      cases hb0 : Nat.beq n 0 with
      | true =>
        rw [hb0] at h
        simp only [cond_true, Option.some.injEq] at h
        subst h
        have := Nat.eq_of_beq_eq_true hb0
        subst this
        refine ⟨[], fun w' _ => ?_, rfl, fun i x x' a => by simp at a⟩
        simp [Builtin.firstCells, loadCells, loadCellsFrom]
      | false =>
        rw [hb0, cond_false, Option.bind_eq_some_iff] at h
        obtain ⟨xs, h1, h2⟩ := h
        rcases hr with ⟨_, h0⟩ | ⟨c, d, k, had, hr, _⟩
        · have := Nat.le_of_ble_eq_true hb
          have : n = 0 := by omega
          subst this
          cases hb0
        · subst had
          obtain ⟨cs, e, hc, _, hxs⟩ := cells_ok m h1 hr
          obtain ⟨us, g1, g2, g3, g4⟩ := run_cut (P := P) hc hxs h2
          refine ⟨us, fun w' hw' => ?_, g3⟩
          have hcell : ∀ j v, us[j]? = some v → w'.cell? ((⟨c, p.o + d, none⟩ : Addr).add j) = some v := by
            intro j v hv
            rw [← g4 j v hv]
            simp [World.cell?, hw']
          have := run_firstCells_some (P := P) w' size n ⟨c, p.o + d, none⟩ len cap' us g2 hcell
          exact this
  · rename_i b
    have hu := inv_str hx
    subst hu
    cases hb : Nat.ble n b.size with
    | false => rw [hb] at h; cases h
    | true =>
      rw [hb, cond_true] at h
      obtain ⟨e1, e2⟩ := takeL_eq _ _ _ h
      have hn : n ≤ b.size := Nat.le_of_ble_eq_true hb
      refine ⟨((b.extract 0 n).data.map fun b => Value.int .u8 b.toNat).toList, fun w' _ => by rw [Array.toArray_toList]; rfl, ?_⟩
      have hsz : (b.extract 0 n).data.size = n := by
        have : (b.extract 0 n).size = n := by rw [ByteArray.size_extract]; omega
        exact this
      refine ⟨by rw [Array.toArray_toList, Array.size_map, hsz, e1], fun i x x' a c => ?_⟩
      have hi : i < n := by have := (List.getElem?_eq_some_iff.1 a).1; omega
      rw [e2 i hi, bytesA_get, Option.map_eq_some_iff] at a
      obtain ⟨q, hq, rfl⟩ := a
      simp only [Array.toArray_toList, Array.getElem?_map, Option.map_eq_some_iff] at c
      obtain ⟨q', hq', rfl⟩ := c
      have : q' = q := by
        rw [ByteArray.data_extract, Array.getElem?_extract] at hq'
        rw [Array.getElem?_toList] at hq
        split at hq'
        · rw [Nat.zero_add, hq] at hq'; exact (Option.some.inj hq').symm
        · cases hq'
      subst this
      exact .int _ _
  · cases h


def notInt (d : TypeDesc) : Prop := (∃ q, d = .slice q) ∨ d = .string

theorem app_room {t u e ty : TypeId} {d : TypeDesc} {size n : Nat} (ht : P.underlying t = some (.slice e)) (hu : P.underlying u = some d) (hd : notInt d) (hs : ∀ w, (sizeOf e).run P w = .ok size w)
    {base : Option Addr} {sLen sCap : Nat} {x : Value} {us : List Value} {w w' : World} (hlen : (Builtin.lenOf x).run P w = .ok n w) (hfirst : (Builtin.firstCells size n x).run P w = .ok us.toArray w) (hroom : sLen + n ≤ sCap)
    (hst : match base with | some a => (storeCells (a.add (sLen * size)) us 0).run P w = .ok () w' | none => w' = w) :
    (Builtin.append_ #[t, u] ty #[.slice base sLen sCap, x]).run P w = .ok (.slice base (sLen + n) sCap) w' := by
  cases base with
  | none =>
    simp only at hst
    subst hst
    rcases hd with ⟨q, rfl⟩ | rfl <;> simp [Builtin.append_, run_underlying ht, run_underlying hu, hs, hlen, hfirst, hroom]
  | some a =>
    simp only at hst
    rcases hd with ⟨q, rfl⟩ | rfl <;> simp [Builtin.append_, run_underlying ht, run_underlying hu, hs, hlen, hfirst, hroom, hst]

theorem app_grow {t u e ty : TypeId} {d : TypeDesc} {n : Nat} {i : TypeInfo} {z : Value} (ht : P.underlying t = some (.slice e)) (hu : P.underlying u = some d) (hd : notInt d) (hi : P.info? e = some i) (hz : i.zero = some z)
    {base : Option Addr} {sLen sCap : Nat} {x : Value} {olds us : List Value} {w : World} (hlen : (Builtin.lenOf x).run P w = .ok n w) (hfirst : (Builtin.firstCells i.size n x).run P w.drew = .ok us.toArray w.drew)
    (hold : (Builtin.firstCells i.size sLen (.slice base sLen sCap)).run P w.drew = .ok olds.toArray w.drew) (hg : sCap < sLen + n) (hbig : (sLen + n) * (i.bytes + 1) ≤ 4294967296) :
    (Builtin.append_ #[t, u] ty #[.slice base sLen sCap, x]).run P w = .ok (.slice (some ⟨w.heap.size, 0, none⟩) (sLen + n) (grownCap w (sLen + n) sCap e))
      (w.drew.alloc (.cells (olds.toArray ++ us.toArray ++ Builtin.zeroCells z.cells (grownCap w (sLen + n) sCap e - (sLen + n))) e)) := by
  have hb1 : (sLen + n) * i.bytes ≤ 4294967296 := Nat.le_trans (Nat.mul_le_mul_left _ (Nat.le_succ _)) hbig
  have hb2 : sLen + n ≤ 4294967296 := Nat.le_trans (Nat.le_mul_of_pos_right _ (Nat.succ_pos _)) hbig
  have hn : ¬ (sLen + n ≤ sCap) := by omega
  have h63' : ¬ (9223372036854775807 < ((sLen : Int) + (n : Int))) := by omega
  have hfit := growslice_fits (need := sLen + n) (old := sCap) (bytes := i.bytes) hg (by omega)
  have h48' : ¬ (281474976710656 < Builtin.nextslicecap (sLen + n) sCap * i.bytes) := by omega
  rcases hd with ⟨q, rfl⟩ | rfl <;> simp [Builtin.append_, run_underlying ht, run_underlying hu, sizeOf, typeInfo, zeroValue, hi, hz, hlen, hn, h63', h48', Question.forced, hfirst, hold, newRow, grownCap]
  all_goals
    congr 2
    apply Array.ext'
    simp [List.append_assoc]

theorem grownCap_ge (w : World) (need old : Nat) (e : TypeId) : need ≤ grownCap w need old e := by
  show need ≤ need + _
  exact Nat.le_add_right _ _

theorem zeroCells_size (z : Array Value) (n : Nat) : (Builtin.zeroCells z n).size = n * z.size := by simp [Builtin.zeroCells]

end
end Go.Proofs.Ytdndjcofafkafaa.Sim
