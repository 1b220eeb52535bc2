/- Changes of memory: a new block, a store, a block that grows: each keeps the relation. Nothing is claimed of the program here; no condition. -/
import Derived.Test.YtdndjcofafkafaaSim2
namespace Go.Proofs.Ytdndjcofafkafaa.Sim
set_option linter.unusedVariables false
set_option linter.unusedSimpArgs false
open Go Go.RowKit

/-- The relation with one pair more. -/
def also (r : Rel) (b v c d n : Nat) : Rel := fun b1 v1 c1 d1 n1 => r b1 v1 c1 d1 n1 ∨ (b1 = b ∧ v1 = v ∧ c1 = c ∧ d1 = d ∧ n1 = n)

theorem also_sub (r : Rel) (b v c d n : Nat) : ∀ b1 v1 c1 d1 n1, r b1 v1 c1 d1 n1 → also r b v c d n b1 v1 c1 d1 n1 := fun _ _ _ _ _ h => .inl h

section
variable {P : Program} {C : Ctx} {env : Nat → Int}

def upd (H : Mem) (b : Nat) (o : AObj) : Mem := fun b' => if b' = b then some o else H b'
theorem upd_at (H : Mem) (b : Nat) (o : AObj) (b' : Nat) : upd H b o b' = if b' = b then some o else H b' := rfl
theorem put_upd (H : Tr AObj) (b : Nat) (o : AObj) : (H.put b o).get = upd H.get b o := by funext b'; rw [Tr.get_put]; rfl

theorem grow_set {r : Rel} {H : Mem} {w w' : World} {nx nx' : Nat} (m : MR env r H w) {b ver c d n : Nat} {ys : List AV} {cs : Array Value} {e : TypeId}
    (hb : (b = nx ∧ nx' = nx + 1 ∧ Fresh r nx (nx + 1)) ∨ ((∃ o, H b = some o ∧ o.ver ≤ ver) ∧ nx' = nx))
    (hc : (c = w.heap.size ∧ w'.heap.size = w.heap.size + 1) ∨ ((∃ o d n, H b = some o ∧ r b o.ver c d n) ∧ w'.heap.size = w.heap.size))
    (hnew : ∀ c1 d1 n1, r b ver c1 d1 n1 → c1 = c ∧ d1 = d ∧ n1 = n)
    (hat : w'.heap[c]? = some (.cells cs e (0, 0))) (hn : cs.size = n)
    (hoth : ∀ k, k < w.heap.size → k ≠ c → w'.heap[k]? = w.heap[k]?)
    (hv : ∀ (i : Nat) (x : AV), ys[i]? = some x → ∃ u, cs[i + d]? = some u ∧ VR env (also r b ver c d n) x u)
    (hos : w'.os = w.os) (htape : w'.tape = w.tape) (hout : w'.output = w.output) :
    Grow env r H nx w (also r b ver c d n) (upd H b (.cells ys ver)) nx' w' := by
  have hclt : c < w'.heap.size := by
    by_cases h : c < w'.heap.size
    · exact h
    · rw [Array.getElem?_eq_none (by omega)] at hat; cases hat
  have hle : w.heap.size ≤ w'.heap.size := by rcases hc with ⟨_, h⟩ | ⟨_, h⟩ <;> omega
  have hne : ∀ {b1 o1 c1 d1 n1}, b1 ≠ b → H b1 = some o1 → r b1 o1.ver c1 d1 n1 → c1 ≠ c := by
    intro b1 o1 c1 d1 n1 hb1 h1 h2 e1
    subst e1
    rcases hc with ⟨h, _⟩ | ⟨⟨o, d0, n0, h3, h4⟩, _⟩
    · have := m.lt h2; omega
    · exact hb1 (m.inj h1 h3 h2 h4)
  have hold : ∀ {b1 v1 c1 d1 n1}, b1 ≠ b → also r b ver c d n b1 v1 c1 d1 n1 → r b1 v1 c1 d1 n1 := by
    intro b1 v1 c1 d1 n1 hb1 h
    rcases h with h | h
    · exact h
    · exact absurd h.1 hb1
  have hself : ∀ {c1 d1 n1}, also r b ver c d n b ver c1 d1 n1 → c1 = c ∧ d1 = d ∧ n1 = n := by
    intro c1 d1 n1 h
    rcases h with h | h
    · exact hnew _ _ _ h
    · exact h.2.2
  refine ⟨also_sub r b ver c d n, ⟨?_, ?_, ?_, ?_, ?_⟩, ?_, ?_, ?_, ?_, ?_, hle, hos, htape, hout⟩
  · intro b1 v1 c1 d1 n1 c2 d2 n2 h1 h2
    rcases h1 with h1 | ⟨rfl, rfl, rfl, rfl, rfl⟩
    · rcases h2 with h2 | ⟨rfl, rfl, rfl, rfl, rfl⟩
      · exact m.fn h1 h2
      · exact hnew _ _ _ h1
    · obtain ⟨a, b, c⟩ := hself h2
      exact ⟨a.symm, b.symm, c.symm⟩
  · intro b1 v1 c1 d1 n1 h1
    rcases h1 with h1 | ⟨rfl, rfl, rfl, rfl, rfl⟩
    · have := m.lt h1; omega
    · exact hclt
  · intro b1 o1 v1 c1 d1 n1 h1 h2
    rw [upd_at] at h1
    by_cases e1 : b1 = b
    · subst e1
      rw [if_pos rfl] at h1
      obtain rfl := Option.some.inj h1
      rcases h2 with h2 | h2
      · rcases hb with ⟨rfl, _, hf⟩ | ⟨⟨o, ho, hv1⟩, _⟩
        · exact absurd ⟨Nat.le_refl _, Nat.lt_succ_self _⟩ (hf _ _ _ _ _ h2)
        · exact Nat.le_trans (m.ver ho h2) hv1
      · exact Nat.le_of_eq h2.2.1
    · rw [if_neg e1] at h1
      exact m.ver h1 (hold e1 h2)
  · intro b1 o1 h1
    rw [upd_at] at h1
    by_cases e1 : b1 = b
    · subst e1
      rw [if_pos rfl] at h1
      obtain rfl := Option.some.inj h1
      exact ⟨c, d, n, cs, e, .inr ⟨rfl, rfl, rfl, rfl, rfl⟩, hat, hn, hv⟩
    · rw [if_neg e1] at h1
      have h := m.obj h1
      cases o1 with
      | cells xs v =>
        obtain ⟨c1, d1, n1, cs1, e2, a1, a2, a3, a4⟩ := h
        refine ⟨c1, d1, n1, cs1, e2, .inl a1, ?_, a3, fun i x hx => ?_⟩
        · rw [hoth c1 (m.lt a1) (hne e1 h1 a1), a2]
        · obtain ⟨u, b1, b2⟩ := a4 i x hx
          exact ⟨u, b1, b2.mono (also_sub r b ver c d n)⟩
      | map es =>
        obtain ⟨c1, ms, clock, a1, a2, a3, a4⟩ := h
        refine ⟨c1, ms, clock, .inl a1, ?_, a3, fun i x y hx hy => ?_⟩
        · rw [hoth c1 (m.lt a1) (hne e1 h1 a1), a2]
        · exact ⟨(a4 i x y hx hy).1.mono (also_sub r b ver c d n), (a4 i x y hx hy).2.mono (also_sub r b ver c d n)⟩
  · intro b1 b2 o1 o2 c1 d1 n1 d2 n2 h1 h2 h3 h4
    rw [upd_at] at h1 h2
    by_cases e1 : b1 = b
    · by_cases e2 : b2 = b
      · omega
      · subst e1
        rw [if_pos rfl] at h1
        rw [if_neg e2] at h2
        obtain rfl := Option.some.inj h1
        obtain ⟨rfl, _, _⟩ := hself h3
        exact absurd rfl (hne e2 h2 (hold e2 h4))
    · rw [if_neg e1] at h1
      by_cases e2 : b2 = b
      · subst e2
        rw [if_pos rfl] at h2
        obtain rfl := Option.some.inj h2
        obtain ⟨rfl, _, _⟩ := hself h4
        exact absurd rfl (hne e1 h1 (hold e1 h3))
      · rw [if_neg e2] at h2
        exact m.inj h1 h2 (hold e1 h3) (hold e2 h4)
  · rcases hb with ⟨_, h, _⟩ | ⟨_, h⟩ <;> omega
  · intro b1 o1 h1
    rw [upd_at]
    by_cases e1 : b1 = b
    · subst e1
      rw [if_pos rfl]
      refine ⟨_, rfl, ?_⟩
      rcases hb with ⟨rfl, _, hf⟩ | ⟨⟨o, ho, hv1⟩, _⟩
      · obtain ⟨_, _, _, h⟩ := (m.obj h1).has
        exact absurd ⟨Nat.le_refl _, Nat.lt_succ_self _⟩ (hf _ _ _ _ _ h)
      · rw [h1] at ho
        obtain rfl := Option.some.inj ho
        exact hv1
    · rw [if_neg e1]
      exact ⟨o1, h1, Nat.le_refl _⟩
  · intro b1 o1 h1
    rw [upd_at] at h1
    by_cases e1 : b1 = b
    · subst e1
      rcases hb with ⟨rfl, h, _⟩ | ⟨⟨o, ho, _⟩, _⟩
      · exact .inr ⟨Nat.le_refl _, by omega⟩
      · exact .inl ⟨o, ho⟩
    · rw [if_neg e1] at h1
      exact .inl ⟨o1, h1⟩
  · intro b1 v1 c1 d1 n1 h
    rcases h with h | ⟨rfl, rfl, rfl, rfl, rfl⟩
    · exact .inl h
    · refine .inr ⟨?_, ?_⟩
      · rcases hb with ⟨rfl, h, _⟩ | ⟨⟨o, ho, _⟩, _⟩
        · exact .inl ⟨Nat.le_refl _, by omega⟩
        · exact .inr ⟨o, ho⟩
      · rcases hc with ⟨h, _⟩ | ⟨⟨o, d0, n0, h3, h4⟩, _⟩
        · exact .inl (by omega)
        · exact .inr ⟨_, o, d0, n0, h3, h4⟩
  · intro k hk hi
    refine hoth k hk ?_
    rintro rfl
    rcases hc with ⟨h, _⟩ | ⟨⟨o, d0, n0, h3, h4⟩, _⟩
    · omega
    · exact hi ⟨_, o, d0, n0, h3, h4⟩

/-- A new block. -/
theorem grow_alloc {r : Rel} {H : Tr AObj} {w : World} {nx : Nat} (m : MR env r H.get w) (hf : Fresh r nx (nx + 1)) {w' : World} {xs : List AV} {cs : Array Value} {e : TypeId}
    (hheap : w'.heap = w.heap.push (.cells cs e)) (hos : w'.os = w.os) (htape : w'.tape = w.tape) (hout : w'.output = w.output)
    (hv : ∀ (i : Nat) (x : AV), xs[i]? = some x → ∃ u, cs[i]? = some u ∧ VR env r x u) :
    Grow env r H.get nx w (also r nx 0 w.heap.size 0 cs.size) (H.put nx (.cells xs 0)).get (nx + 1) w' := by
  rw [put_upd]
  refine grow_set m (cs := cs) (e := e) (.inl ⟨rfl, rfl, hf⟩) (.inl ⟨rfl, by rw [hheap]; simp⟩) ?_ ?_ rfl ?_ ?_ hos htape hout
  · intro c1 d1 n1 h
    exact absurd ⟨Nat.le_refl _, Nat.lt_succ_self _⟩ (hf _ _ _ _ _ h)
  · rw [hheap]; simp
  · intro k hk _
    rw [hheap, Array.getElem?_push, if_neg (by omega)]
  · intro i x hx
    obtain ⟨u, a, b⟩ := hv i x hx
    exact ⟨u, a, b.mono (also_sub _ _ _ _ _ _)⟩

theorem oneCell_of {r : Rel} {x : AV} {u : Value} (h : VR env r x u) (hf : flat x = true) : u.oneCell' = true := by
  cases h <;> first | rfl | cases hf

theorem flats_get : ∀ {l : List AV}, flats l = true → ∀ (i : Nat) (x : AV), l[i]? = some x → flat x = true := by
  intro l
  induction l with
  | nil => intro _ i x h; simp at h
  | cons a l ih =>
    intro h i x hx
    simp only [flats, Bool.and_eq_true] at h
    cases i with
    | zero => simp only [List.getElem?_cons_zero, Option.some.injEq] at hx; subst hx; exact h.1
    | succ i => exact ih h.2 i x (by simpa using hx)

theorem setRow_at (w : World) (g : Nat) (cs cs' : Array Value) (t : TypeId) (h : w.heap[g]? = some (.cells cs t (0, 0))) : (w.setRow g cs').heap[g]? = some (.cells cs' t (0, 0)) := setRow_heap w g cs cs' t (0, 0) h

theorem setRow_other (w : World) (g k : Nat) (cs : Array Value) (h : k ≠ g) : (w.setRow g cs).heap[k]? = w.heap[k]? := by
  simp only [World.setRow, Array.getElem?_modify]
  rw [if_neg (by omega)]

/-- What stands behind a store of cells. -/
theorem stored_get (cs : Array Value) (vs : List Value) (p : Nat) (h : p + vs.length ≤ cs.size) (i : Nat) :
    (cs.toList.take p ++ vs ++ cs.toList.drop (p + vs.length)).toArray[i]? = if p ≤ i ∧ i < p + vs.length then vs[i - p]? else cs[i]? := by
  rw [List.getElem?_toArray]
  have hl : (cs.toList.take p).length = p := by rw [List.length_take, Array.length_toList]; omega
  by_cases h1 : i < p
  · rw [if_neg (by omega), List.append_assoc, List.getElem?_append_left (by omega), List.getElem?_take_of_lt h1, Array.getElem?_toList]
  · by_cases h2 : i < p + vs.length
    · rw [if_pos (by omega), List.getElem?_append_left (by rw [List.length_append]; omega), List.getElem?_append_right (by omega), hl]
    · rw [if_neg (by omega), List.getElem?_append_right (by rw [List.length_append]; omega), List.getElem?_drop, Array.getElem?_toList, List.length_append, hl]
      congr 1; omega

theorem stored_size (cs : Array Value) (vs : List Value) (p : Nat) (h : p + vs.length ≤ cs.size) : (cs.toList.take p ++ vs ++ cs.toList.drop (p + vs.length)).toArray.size = cs.size := by
  simp; omega

/-- A store of cells into a block that stands. -/
theorem store_ok {r : Rel} {H H' : Tr AObj} {w : World} (m : MR env r H.get w) {a : Ref} {ys : List AV} {us : List Value} (nx : Nat) (h : storeCellsA H a ys = some H') (hfl : flats ys = true) {c d n : Nat} (hr : r a.b a.v c d n)
    (hv : VRs env r ys us.toArray) : ∃ w', (storeCells ⟨c, a.o + d, none⟩ us 0).run P w = .ok () w' ∧ ∃ r', Grow env r H.get nx w r' H'.get nx w' ∧ w'.drawn = w.drawn := by
  unfold storeCellsA at h
  rw [Option.bind_eq_some_iff] at h
  obtain ⟨xs, h1, h⟩ := h
  rw [Option.map_eq_some_iff] at h
  obtain ⟨zs, h2, rfl⟩ := h
  obtain ⟨cs, e, hc, hn, hx⟩ := cells_ok m h1 hr
  obtain ⟨b0, b1, b2⟩ := setsL_eq _ _ _ _ h2
  have hlen : us.length = ys.length := by have := hv.1; simp at this; omega
  have hone : ∀ v ∈ us, v.oneCell' = true := by
    intro v hm
    obtain ⟨i, hi, rfl⟩ := List.getElem_of_mem hm
    have hy : ys[i]? = some ys[i] := List.getElem?_eq_getElem (by omega)
    exact oneCell_of (hv.2 i _ _ hy (by simp [hi])) (flats_get hfl i _ hy)
  have hstand := cellsAt_eq h1
  rcases Nat.eq_zero_or_pos us.length with h0 | h0
  · have hu : us = [] := List.eq_nil_of_length_eq_zero h0
    have hy : ys = [] := List.eq_nil_of_length_eq_zero (by omega)
    subst hu; subst hy
    refine ⟨w, rfl, also r a.b a.v c d n, ?_, rfl⟩
    simp only [setsL, Option.some.injEq] at h2
    subst h2
    rw [put_upd]
    refine grow_set m (cs := cs) (e := e) (.inr ⟨⟨_, hstand, Nat.le_refl _⟩, rfl⟩) (.inr ⟨⟨_, d, n, hstand, hr⟩, rfl⟩) (fun c1 d1 n1 h => m.fn h hr) hc hn (fun _ _ _ => rfl) ?_ rfl rfl rfl
    intro i x hx1
    obtain ⟨u, p, q⟩ := hx i x hx1
    exact ⟨u, p, q.mono (also_sub _ _ _ _ _ _)⟩
  · have hfit : a.o + d + us.length ≤ cs.size := by
      rcases b0 with b0 | b0
      · subst b0; simp only [List.length_nil] at hlen; omega
      · have hz : xs[a.o + ys.length - 1]? = some xs[a.o + ys.length - 1] := List.getElem?_eq_getElem (by omega)
        obtain ⟨u, p, _⟩ := hx _ _ hz
        have hlt : a.o + ys.length - 1 + d < cs.size := (Array.getElem?_eq_some_iff.1 p).1
        omega
    refine ⟨_, run_storeCells_at P c (a.o + d) e us 0 cs w hc hfit hone, also r a.b a.v c d n, ?_, rfl⟩
    rw [Nat.add_zero, put_upd]
    refine grow_set m (e := e) (.inr ⟨⟨_, hstand, Nat.le_refl _⟩, rfl⟩) (.inr ⟨⟨_, d, n, hstand, hr⟩, size_setRow w c _⟩) (fun c1 d1 n1 h => m.fn h hr) (setRow_at w c cs _ e hc) (by rw [stored_size _ _ _ hfit, hn]) (fun k _ hk => setRow_other w c k _ hk) ?_ rfl rfl rfl
    intro i x hx1
    rw [b2] at hx1
    rw [stored_get _ _ _ hfit]
    by_cases hi : a.o ≤ i ∧ i < a.o + ys.length
    · rw [if_pos hi] at hx1
      rw [if_pos (by omega), show i + d - (a.o + d) = i - a.o by omega]
      have hu : us[i - a.o]? = some us[i - a.o] := List.getElem?_eq_getElem (by omega)
      exact ⟨_, hu, (hv.2 _ _ _ hx1 (by simp [hu])).mono (also_sub _ _ _ _ _ _)⟩
    · rw [if_neg hi] at hx1
      rw [if_neg (by omega)]
      obtain ⟨u, p, q⟩ := hx i x hx1
      exact ⟨u, p, q.mono (also_sub _ _ _ _ _ _)⟩

end
end Go.Proofs.Ytdndjcofafkafaa.Sim
