/- Regions that draw their order: whatever order the draw gives, they come to what the text's order comes to. Nothing is claimed of the program here; no condition. -/
import Derived.Test.YtdndjcofafkafaaSimC
namespace Go.Proofs.Ytdndjcofafkafaa.Sim
set_option linter.unusedVariables false
set_option linter.unusedSimpArgs false
open Go Go.RowKit

/-- As 'Grow', the new blocks' numbers a set. -/
structure GrowS (env : Nat → Int) (r : Rel) (H : Mem) (S : Nat → Prop) (w : World) (r' : Rel) (H' : Mem) (w' : World) : Prop where
  sub : ∀ b v c d n, r b v c d n → r' b v c d n
  mr : MR env r' H' w'
  old : ∀ b o, H b = some o → ∃ o', H' b = some o' ∧ o.ver ≤ o'.ver
  dom : ∀ (b : Nat) (o : AObj), H' b = some o → (∃ o0, H b = some o0) ∨ S b
  new : ∀ b v c d n, r' b v c d n → r b v c d n ∨ ((S b ∨ ∃ o, H b = some o) ∧ (w.heap.size ≤ c ∨ Img r H c))
  frame : ∀ c, c < w.heap.size → ¬ Img r H c → w'.heap[c]? = w.heap[c]?
  size : w.heap.size ≤ w'.heap.size
  os : w'.os = w.os
  tape : w'.tape = w.tape
  output : w'.output = w.output

def FreshS (r : Rel) (S : Nat → Prop) : Prop := ∀ b v c d n, r b v c d n → ¬ S b

section
variable {env : Nat → Int}

theorem Grow.toS {r r' : Rel} {H H' : Mem} {nx nx' : Nat} {w w' : World} (g : Grow env r H nx w r' H' nx' w') : GrowS env r H (fun b => nx ≤ b ∧ b < nx') w r' H' w' :=
  ⟨g.sub, g.mr, g.old, g.dom, g.new, g.frame, g.size, g.os, g.tape, g.output⟩

theorem GrowS.to {r r' : Rel} {H H' : Mem} {S : Nat → Prop} {nx nx' : Nat} {w w' : World} (g : GrowS env r H S w r' H' w') (hS : ∀ b, S b → nx ≤ b ∧ b < nx') (h : nx ≤ nx') : Grow env r H nx w r' H' nx' w' :=
  ⟨g.sub, g.mr, h, g.old, fun b o ho => (g.dom b o ho).imp id (hS b), fun b v c d n hr => (g.new b v c d n hr).imp id (fun ⟨a, b⟩ => ⟨a.imp (hS _) id, b⟩), g.frame, g.size, g.os, g.tape, g.output⟩

theorem GrowS.refl {r : Rel} {H : Mem} {S : Nat → Prop} {w : World} (h : MR env r H w) : GrowS env r H S w r H w :=
  ⟨fun _ _ _ _ _ h => h, h, fun _ o h => ⟨o, h, Nat.le_refl _⟩, fun _ o h => .inl ⟨o, h⟩, fun _ _ _ _ _ h => .inl h, fun _ _ _ => rfl, Nat.le_refl _, rfl, rfl, rfl⟩

theorem GrowS.img {r r' : Rel} {H H' : Mem} {S : Nat → Prop} {w w' : World} (h : MR env r H w) (g : GrowS env r H S w r' H' w') (hf : FreshS r S) {c : Nat} (hi : Img r' H' c) : w.heap.size ≤ c ∨ Img r H c := by
  obtain ⟨b, o', d, n, ho', hr'⟩ := hi
  rcases g.new _ _ _ _ _ hr' with hr | ⟨_, hc⟩
  · rcases g.dom _ _ ho' with ⟨o, ho⟩ | hb
    · obtain ⟨o1, ho1, hv⟩ := g.old _ _ ho
      rw [ho'] at ho1
      obtain rfl := Option.some.inj ho1
      have := h.ver ho hr
      have e : o.ver = o'.ver := by omega
      exact .inr ⟨b, o, d, n, ho, e ▸ hr⟩
    · exact absurd hb (hf _ _ _ _ _ hr)
  · exact hc

theorem GrowS.trans {r r1 r2 : Rel} {H H1 H2 : Mem} {S1 S2 S : Nat → Prop} {w w1 w2 : World} (h : MR env r H w) (hf : FreshS r S1) (h1S : ∀ b, S1 b → S b) (h2S : ∀ b, S2 b → S b)
    (g1 : GrowS env r H S1 w r1 H1 w1) (g2 : GrowS env r1 H1 S2 w1 r2 H2 w2) : GrowS env r H S w r2 H2 w2 where
  sub b v c d n h := g2.sub _ _ _ _ _ (g1.sub _ _ _ _ _ h)
  mr := g2.mr
  old b o ho := by
    obtain ⟨o1, h1, v1⟩ := g1.old _ _ ho
    obtain ⟨o2, h2, v2⟩ := g2.old _ _ h1
    exact ⟨o2, h2, Nat.le_trans v1 v2⟩
  dom b o ho := by
    rcases g2.dom _ _ ho with ⟨o1, h1⟩ | h1
    · exact (g1.dom _ _ h1).imp id (h1S b)
    · exact .inr (h2S b h1)
  new b v c d n hr := by
    rcases g2.new _ _ _ _ _ hr with h1 | ⟨hb, hc⟩
    · rcases g1.new _ _ _ _ _ h1 with h0 | ⟨hb, hc⟩
      · exact .inl h0
      · exact .inr ⟨hb.imp (h1S b) id, hc⟩
    · refine .inr ⟨?_, ?_⟩
      · rcases hb with hb | ⟨o, ho⟩
        · exact .inl (h2S b hb)
        · exact ((g1.dom _ _ ho).imp id (h1S b)).symm
      · rcases hc with hc | hc
        · exact .inl (Nat.le_trans g1.size hc)
        · exact g1.img h hf hc
  frame c hc hi := by
    rw [g2.frame c (Nat.lt_of_lt_of_le hc g1.size) (fun h1 => (g1.img h hf h1).elim (fun h2 => by omega) hi), g1.frame c hc hi]
  size := Nat.le_trans g1.size g2.size
  os := g2.os.trans g1.os
  tape := g2.tape.trans g1.tape
  output := g2.output.trans g1.output

theorem MR.sub {r : Rel} {H V : Mem} {w : World} (m : MR env r H w) (h : ∀ b o, V b = some o → H b = some o) : MR env r V w :=
  ⟨m.fn, m.lt, fun ho hr => m.ver (h _ _ ho) hr, fun ho => m.obj (h _ _ ho), fun h1 h2 => m.inj (h _ _ h1) (h _ _ h2)⟩

/-- What is done over a part of memory is done over the whole. -/
theorem GrowS.ext {r r' : Rel} {H V V' H' : Mem} {S : Nat → Prop} {w w' : World} (m : MR env r H w) (hf : FreshS r S) (hV : ∀ b o, V b = some o → H b = some o) (g : GrowS env r V S w r' V' w')
    (hin : ∀ b, (V b ≠ none ∨ S b) → H' b = V' b) (hout : ∀ b, V b = none → ¬ S b → H' b = H b) (hS : ∀ b, S b → H b = none) : GrowS env r H S w r' H' w' := by
  have key : ∀ b o, H' b = some o → (V' b = some o ∧ (V b ≠ none ∨ S b)) ∨ (H b = some o ∧ V b = none ∧ ¬ S b) := by
    intro b o ho
    by_cases h : V b ≠ none ∨ S b
    · exact .inl ⟨by rw [← hin b h]; exact ho, h⟩
    · have h1 : V b = none := Classical.byContradiction fun h2 => h (.inl h2)
      have h2 : ¬ S b := fun h2 => h (.inr h2)
      exact .inr ⟨by rw [← hout b h1 h2]; exact ho, h1, h2⟩
  have oldp : ∀ {b v c d n}, V b = none → ¬ S b → r' b v c d n → r b v c d n := by
    intro b v c d n h1 h2 hr
    rcases g.new _ _ _ _ _ hr with h | ⟨h | ⟨o, h⟩, _⟩
    · exact h
    · exact absurd h h2
    · rw [h1] at h; cases h
  have img : ∀ {c}, Img r V c → Img r H c := fun ⟨b, o, d, n, h1, h2⟩ => ⟨b, o, d, n, hV _ _ h1, h2⟩
  refine ⟨g.sub, ⟨g.mr.fn, g.mr.lt, ?_, ?_, ?_⟩, ?_, ?_, ?_, ?_, g.size, g.os, g.tape, g.output⟩
  · intro b o v c d n ho hr
    rcases key b o ho with ⟨h, _⟩ | ⟨h, h1, h2⟩
    · exact g.mr.ver h hr
    · exact m.ver h (oldp h1 h2 hr)
  · intro b o ho
    rcases key b o ho with ⟨h, _⟩ | ⟨h, h1, h2⟩
    · exact g.mr.obj h
    · have hob := m.obj h
      have noimg : ∀ {c d n}, r b o.ver c d n → ¬ Img r V c := by
        intro c d n hr ⟨b2, o2, d2, n2, h3, h4⟩
        have := m.inj h (hV _ _ h3) hr h4
        subst this
        rw [h1] at h3; cases h3
      cases o with
      | cells xs v =>
        obtain ⟨c, d, n, cs, e, a1, a2, a3, a4⟩ := hob
        refine ⟨c, d, n, cs, e, g.sub _ _ _ _ _ a1, ?_, a3, fun i x hx => ?_⟩
        · rw [g.frame c (m.lt a1) (noimg a1), a2]
        · obtain ⟨u, p, q⟩ := a4 i x hx
          exact ⟨u, p, q.mono g.sub⟩
      | map es =>
        obtain ⟨c, ms, clock, a1, a2, a3, a4⟩ := hob
        refine ⟨c, ms, clock, g.sub _ _ _ _ _ a1, ?_, a3, fun i x y hx hy => ?_⟩
        · rw [g.frame c (m.lt a1) (noimg a1), a2]
        · exact ⟨(a4 i x y hx hy).1.mono g.sub, (a4 i x y hx hy).2.mono g.sub⟩
  · intro b1 b2 o1 o2 c d1 n1 d2 n2 h1 h2 hr1 hr2
    rcases key b1 o1 h1 with ⟨p1, q1⟩ | ⟨p1, q1, s1⟩
    · rcases key b2 o2 h2 with ⟨p2, q2⟩ | ⟨p2, q2, s2⟩
      · exact g.mr.inj p1 p2 hr1 hr2
      · have hr2' := oldp q2 s2 hr2
        rcases g.img (m.sub hV) hf ⟨b1, o1, d1, n1, p1, hr1⟩ with h | ⟨b3, o3, d3, n3, h3, h4⟩
        · have := m.lt hr2'; omega
        · have := m.inj (hV _ _ h3) p2 h4 hr2'
          subst this
          rw [q2] at h3; cases h3
    · rcases key b2 o2 h2 with ⟨p2, q2⟩ | ⟨p2, q2, s2⟩
      · have hr1' := oldp q1 s1 hr1
        rcases g.img (m.sub hV) hf ⟨b2, o2, d2, n2, p2, hr2⟩ with h | ⟨b3, o3, d3, n3, h3, h4⟩
        · have := m.lt hr1'; omega
        · have := m.inj (hV _ _ h3) p1 h4 hr1'
          subst this
          rw [q1] at h3; cases h3
      · exact m.inj p1 p2 (oldp q1 s1 hr1) (oldp q2 s2 hr2)
  · intro b o ho
    by_cases h : V b = none
    · by_cases h2 : S b
      · rw [hS b h2] at ho; cases ho
      · exact ⟨o, by rw [hout b h h2]; exact ho, Nat.le_refl _⟩
    · obtain ⟨o1, h1⟩ := Option.ne_none_iff_exists'.1 h
      have := hV _ _ h1
      rw [ho] at this
      obtain rfl := Option.some.inj this
      obtain ⟨o', h3, h4⟩ := g.old _ _ h1
      exact ⟨o', by rw [hin b (.inl h)]; exact h3, h4⟩
  · intro b o ho
    rcases key b o ho with ⟨h, _⟩ | ⟨h, _, _⟩
    · rcases g.dom _ _ h with ⟨o0, h0⟩ | h0
      · exact .inl ⟨o0, hV _ _ h0⟩
      · exact .inr h0
    · exact .inl ⟨o, h⟩
  · intro b v c d n hr
    rcases g.new _ _ _ _ _ hr with h | ⟨h1, h2⟩
    · exact .inl h
    · exact .inr ⟨h1.imp id (fun ⟨o, h⟩ => ⟨o, hV _ _ h⟩), h2.imp id img⟩
  · intro c hc hi
    exact g.frame c hc (fun h => hi (img h))

end

/-- What the text's order did: memory and slots ahead of each operation, what each one sees, makes of it, answers. -/
structure Tce where
  Hs : Nat → Mem
  Ts : Nat → Tr AV
  ns : Nat → Nat
  V : Nat → Mem
  V' : Nat → Mem
  v : Nat → AV
  d : Nat → Bool

/-- One operation, over what it sees. -/
def StepS (P : Program) (env : Nat → Int) (T : Tr AV) (V V' : Mem) (lo hi : Nat) (v : AV) (o : Oper) : Prop :=
  ∀ (r : Rel) (a : Act) (w : World), MR env r V w → Es env r T a o → FreshS r (fun b => lo ≤ b ∧ b < hi) → ∀ (K : Act → World → Prop) (Q : Exit → Act → World → Prop),
    (∀ u w' r', GrowS env r V (fun b => lo ≤ b ∧ b < hi) w r' V' w' → VR env r' v u → K (a.put o.dst u) w') → o.wp P a w K Q

structure TceOk (P : Program) (env : Nat → Int) (nt : Nat) (ops : Array Oper) (anc : Tr Nat) (t : Tce) (n : Nat) : Prop where
  le : ∀ i, i < n → t.ns i ≤ t.ns (i + 1)
  sub : ∀ i, i < n → ∀ b o, t.V i b = some o → t.Hs i b = some o
  hin : ∀ i, i < n → ∀ b, (t.V i b ≠ none ∨ (t.ns i ≤ b ∧ b < t.ns (i + 1))) → t.Hs (i + 1) b = t.V' i b
  hout : ∀ i, i < n → ∀ b, t.V i b = none → ¬ (t.ns i ≤ b ∧ b < t.ns (i + 1)) → t.Hs (i + 1) b = t.Hs i b
  put : ∀ i, i < n → ∀ o, ops[i]? = some o → putT nt (t.Ts i) o.dst (t.v i) = some (t.Ts (i + 1))
  want : ∀ i, i < n → ∀ o, ops[i]? = some o → wantedA (t.Ts i) (dstsFrom ops.toList 0 .nil) o = some (t.d i)
  skip : ∀ i, i < n → t.d i = false → (∀ b, t.V i b = none) ∧ t.ns (i + 1) = t.ns i ∧ t.v i = .tup []
  step : ∀ i, i < n → ∀ o, ops[i]? = some o → t.d i = true → StepS P env (t.Ts i) (t.V i) (t.V' i) (t.ns i) (t.ns (i + 1)) (t.v i) o
  pairA : ∀ i j, i < j → j < n → waits anc j i = false → ∀ b, t.V j b ≠ none → t.Hs (i + 1) b = t.Hs i b
  pairB : ∀ i j, i < j → j < n → waits anc j i = false → ∀ b, t.V i b ≠ none → t.Hs (j + 1) b = t.Hs j b

/-- Memory when some of the operations are done. -/
noncomputable def HD {γ : Type} (Hs : Nat → Nat → Option γ) (D : Nat → Bool) : Nat → Nat → Option γ
  | 0 => Hs 0
  | m + 1 => fun b => open Classical in if D m = true ∧ Hs (m + 1) b ≠ Hs m b then Hs (m + 1) b else HD Hs D m b

theorem HD_at {γ : Type} (Hs : Nat → Nat → Option γ) (D : Nat → Bool) (j b : Nat) : ∀ m, (∀ i, i < m → Hs (i + 1) b ≠ Hs i b → (D i = true ↔ i < j)) → HD Hs D m b = Hs (min m j) b := by
  intro m
  induction m with
  | zero => intro _; simp [HD]
  | succ m ih =>
    intro h
    have ih' := ih fun i hi => h i (by omega)
    simp only [HD]
    by_cases hw : Hs (m + 1) b ≠ Hs m b
    · by_cases hj : m < j
      · rw [if_pos ⟨(h m (by omega) hw).2 hj, hw⟩, show min (m + 1) j = m + 1 by omega]
      · rw [if_neg (fun hh => hj ((h m (by omega) hw).1 hh.1)), ih', show min m j = j by omega, show min (m + 1) j = j by omega]
    · rw [if_neg (fun hh => hw hh.2), ih']
      by_cases hj : m < j
      · rw [show min m j = m by omega, show min (m + 1) j = m + 1 by omega]
        exact (Classical.not_not.1 hw).symm
      · rw [show min m j = j by omega, show min (m + 1) j = j by omega]

theorem HD_congr {γ : Type} (Hs : Nat → Nat → Option γ) (D D' : Nat → Bool) (b : Nat) : ∀ m, (∀ i, i < m → Hs (i + 1) b ≠ Hs i b → D i = D' i) → HD Hs D m b = HD Hs D' m b := by
  intro m
  induction m with
  | zero => intro _; rfl
  | succ m ih =>
    intro h
    have ih' := ih fun i hi => h i (by omega)
    simp only [HD]
    by_cases hw : Hs (m + 1) b ≠ Hs m b
    · rw [h m (by omega) hw, ih']
    · rw [if_neg (fun hh => hw hh.2), if_neg (fun hh => hw hh.2), ih']


/-! ### What the bits say -/

theorem edges_ok : ∀ {l : List Edge} {i : Nat} {t : Tr Nat} {b b' : Nat}, edgesA l i t b = some b' →
    (∀ e ∈ l, Region.binds .any e = true → e.on < i) ∧ ∀ k, b'.testBit k = true → b.testBit k = true ∨ ∃ e ∈ l, Region.binds .any e = true ∧ (k = e.on ∨ ((t.get e.on).getD 0).testBit k = true) := by
  intro l
  induction l with
  | nil => intro i t b b' h; simp only [edgesA, Option.some.injEq] at h; subst h; exact ⟨by simp, fun k hk => .inl hk⟩
  | cons e l ih =>
    intro i t b b' h
    simp only [edgesA] at h
    cases hb : Region.binds .any e with
    | false =>
      rw [hb, cond_false] at h
      obtain ⟨h1, h2⟩ := ih h
      refine ⟨fun e' he' hb' => ?_, fun k hk => ?_⟩
      · rcases List.mem_cons.1 he' with rfl | he'
        · rw [hb] at hb'; cases hb'
        · exact h1 e' he' hb'
      · rcases h2 k hk with h | ⟨e', he', h⟩
        · exact .inl h
        · exact .inr ⟨e', List.mem_cons_of_mem _ he', h⟩
    | true =>
      rw [hb, cond_true] at h
      cases hl : Nat.blt e.on i with
      | false => rw [hl] at h; cases h
      | true =>
        rw [hl, cond_true] at h
        obtain ⟨h1, h2⟩ := ih h
        refine ⟨fun e' he' hb' => ?_, fun k hk => ?_⟩
        · rcases List.mem_cons.1 he' with rfl | he'
          · exact Nat.le_of_ble_eq_true hl
          · exact h1 e' he' hb'
        · rcases h2 k hk with h | ⟨e', he', h⟩
          · rw [Nat.testBit_or, Nat.testBit_or, Bool.or_eq_true, Bool.or_eq_true] at h
            rcases h with (h | h) | h
            · exact .inl h
            · refine .inr ⟨e, List.mem_cons_self, hb, .inl ?_⟩
              rw [Nat.testBit_two_pow] at h
              simpa using (of_decide_eq_true h).symm
            · exact .inr ⟨e, List.mem_cons_self, hb, .inr h⟩
          · exact .inr ⟨e', List.mem_cons_of_mem _ he', h⟩

theorem anc_ok : ∀ {l : List Oper} {i : Nat} {t anc : Tr Nat}, ancA l i t = some anc →
    (∀ j, j < i → anc.get j = t.get j) ∧ ∀ j o, l[j]? = some o → (∀ e ∈ o.after.toList, Region.binds .any e = true → e.on < i + j) ∧
      ∀ k, waits anc (i + j) k = true → ∃ e ∈ o.after.toList, Region.binds .any e = true ∧ (k = e.on ∨ waits anc e.on k = true) := by
  intro l
  induction l with
  | nil => intro i t anc h; simp only [ancA, Option.some.injEq] at h; subst h; exact ⟨fun _ _ => rfl, fun j o h => by simp at h⟩
  | cons o l ih =>
    intro i t anc h
    simp only [ancA] at h
    split at h
    · rename_i b hb
      obtain ⟨h1, h2⟩ := ih h
      obtain ⟨e1, e2⟩ := edges_ok hb
      have hlow : ∀ j, j < i → anc.get j = t.get j := fun j hj => by rw [h1 j (by omega), Tr.get_put_ne _ _ _ _ (by omega)]
      refine ⟨hlow, fun j o' ho' => ?_⟩
      cases j with
      | zero =>
        simp only [List.getElem?_cons_zero, Option.some.injEq] at ho'
        subst ho'
        refine ⟨e1, fun k hk => ?_⟩
        unfold waits at hk
        rw [Nat.add_zero, h1 i (by omega), Tr.get_put_self] at hk
        rcases e2 k hk with h | ⟨e, he, hbd, h⟩
        · simp at h
        · refine ⟨e, he, hbd, h.imp id fun h => ?_⟩
          unfold waits
          rw [hlow e.on (e1 e he hbd)]
          exact h
      | succ j =>
        simp only [List.getElem?_cons_succ] at ho'
        have := h2 j o' ho'
        rw [show i + 1 + j = i + (j + 1) by omega] at this
        exact this
    · cases h

theorem apartRow_ok {ops : Array Oper} {anc : Tr Nat} {oj : Oper} {j : Nat} : ∀ {l : List Oper} {i : Nat}, apartRow ops anc oj j l i = true → ∀ k o, l[k]? = some o → i + k < j → waits anc j (i + k) = false → Oper.apart ops o oj = true := by
  intro l
  induction l with
  | nil => intro i _ k o h; simp at h
  | cons oi l ih =>
    intro i h k o ho hk hw
    simp only [apartRow, Bool.and_eq_true, Bool.or_eq_true] at h
    cases k with
    | zero =>
      simp only [List.getElem?_cons_zero, Option.some.injEq] at ho
      subst ho
      rw [Nat.add_zero] at hk hw
      rcases h.1 with (h | h) | h
      · have := Nat.le_of_ble_eq_true h; omega
      · rw [hw] at h; cases h
      · exact h
    | succ k =>
      have := ih h.2 k o (by simpa using ho) (by omega) (by rw [← hw]; congr 1; omega)
      exact this

theorem apartAll_ok {ops : Array Oper} {anc : Tr Nat} : ∀ {l : List Oper} {j : Nat}, apartAll ops anc l j = true → ∀ k o, l[k]? = some o → apartRow ops anc o (j + k) ops.toList 0 = true := by
  intro l
  induction l with
  | nil => intro i _ k o h; simp at h
  | cons oi l ih =>
    intro j h k o ho
    simp only [apartAll, Bool.and_eq_true] at h
    cases k with
    | zero => simp only [List.getElem?_cons_zero, Option.some.injEq] at ho; subst ho; exact h.1
    | succ k =>
      have := ih h.2 k o (by simpa using ho)
      rw [show j + 1 + k = j + (k + 1) by omega] at this
      exact this

/-! ### Any order -/

section
variable {P : Program} {env : Nat → Int} {nt : Nat} {ops : Array Oper} {anc : Tr Nat} {t : Tce}

/-- The static conditions, and where the region began. -/
structure Base (P : Program) (env : Nat → Int) (nt : Nat) (ops : Array Oper) (anc : Tr Nat) (t : Tce) (r0 : Rel) (w0 : World) : Prop where
  ok : TceOk P env nt ops anc t ops.size
  m0 : MR env r0 (t.Hs 0) w0
  f0 : FreshS r0 (fun b => t.ns 0 ≤ b ∧ b < t.ns ops.size)
  edge : ∀ j o, ops[j]? = some o → ∀ e ∈ o.after, Region.binds .any e = true → e.on < j
  wait : ∀ j o, ops[j]? = some o → ∀ k, waits anc j k = true → ∃ e ∈ o.after, Region.binds .any e = true ∧ (k = e.on ∨ waits anc e.on k = true)
  apart : ∀ i j oi oj, ops[i]? = some oi → ops[j]? = some oj → i < j → waits anc j i = false → Oper.apart ops oi oj = true

def Dn (listed : Array Bool) (i : Nat) : Bool := listed.getD i false

def Tg (t : Tce) : Nat → Nat → Option AV := fun i => (t.Ts i).get

structure Inv (env : Nat → Int) (nt : Nat) (ops : Array Oper) (anc : Tr Nat) (t : Tce) (r0 : Rel) (w0 : World) (a0 : Act) (D : Nat → Bool) (r : Rel) (a : Act) (w : World) : Prop where
  grow : GrowS env r0 (t.Hs 0) (fun b => t.ns 0 ≤ b ∧ b < t.ns ops.size) w0 r (HD t.Hs D ops.size) w
  size : a.tmps.size = nt
  tmps : ∀ k x, HD (Tg t) D ops.size k = some x → VR env r x (a.tmps.getD k undef)
  clo : ∀ i, i < ops.size → D i = true → ∀ k, waits anc i k = true → D k = true
  pend : ∀ b v c d m, r b v c d m → ∀ i, i < ops.size → D i = false → ¬ (t.ns i ≤ b ∧ b < t.ns (i + 1))
  defers : a.defers = a0.defers

theorem ns_mono (h : TceOk P env nt ops anc t ops.size) : ∀ j, j ≤ ops.size → ∀ i, i ≤ j → t.ns i ≤ t.ns j := by
  intro j
  induction j with
  | zero => intro _ i hi; exact Nat.le_of_eq (by rw [show i = 0 by omega])
  | succ j ih =>
    intro hj i hi
    by_cases h1 : i = j + 1
    · subst h1; exact Nat.le_refl _
    · exact Nat.le_trans (ih (by omega) i (by omega)) (h.le j (by omega))

theorem none_new {r0 : Rel} {w0 : World} (B : Base P env nt ops anc t r0 w0) : ∀ i, i ≤ ops.size → ∀ b, t.ns i ≤ b → b < t.ns ops.size → t.Hs i b = none := by
  intro i
  induction i with
  | zero =>
    intro _ b h1 h2
    cases h : t.Hs 0 b with
    | none => rfl
    | some o =>
      obtain ⟨c, d, n, hr⟩ := (B.m0.obj h).has
      exact absurd ⟨h1, h2⟩ (B.f0 _ _ _ _ _ hr)
  | succ i ih =>
    intro hi b h1 h2
    have hle := B.ok.le i (by omega)
    have h0 := ih (by omega) b (by omega) h2
    have hv : t.V i b = none := by
      cases h : t.V i b with
      | none => rfl
      | some o => have := B.ok.sub i (by omega) b o h; rw [h0] at this; cases this
    rw [B.ok.hout i (by omega) b hv (by omega), h0]

/-- A block that none of the operations from here on makes stays away. -/
theorem none_stays (h : TceOk P env nt ops anc t ops.size) {j : Nat} {b : Nat} (hb : b < t.ns (j + 1)) (h0 : t.Hs (j + 1) b = none) : ∀ k, j + 1 ≤ k → k ≤ ops.size → t.Hs k b = none := by
  intro k
  induction k with
  | zero => intro h1; omega
  | succ k ih =>
    intro h1 h2
    by_cases hk : k = j
    · subst hk; exact h0
    · have h3 := ih (by omega) (by omega)
      have hv : t.V k b = none := by
        cases hh : t.V k b with
        | none => rfl
        | some o => have := h.sub k (by omega) b o hh; rw [h3] at this; cases this
      have := ns_mono h k (by omega) (j + 1) (by omega)
      rw [h.hout k (by omega) b hv (by omega), h3]

variable {r0 : Rel} {w0 : World} {a0 : Act} {D : Nat → Bool} {r : Rel} {a : Act} {w : World}

theorem waits_done (B : Base P env nt ops anc t r0 w0) (I : Inv env nt ops anc t r0 w0 a0 D r a w) {j : Nat} {o : Oper} (ho : ops[j]? = some o) (hrdy : ∀ e ∈ o.after, Region.binds .any e = true → D e.on = true) :
    ∀ k, waits anc j k = true → D k = true := by
  intro k hk
  have hj : j < ops.size := (Array.getElem?_eq_some_iff.1 ho).1
  obtain ⟨e, he, hb, h⟩ := B.wait j o ho k hk
  have h1 := hrdy e he hb
  rcases h with rfl | h
  · exact h1
  · exact I.clo e.on (by have := B.edge j o ho e he hb; omega) h1 k h

/-- Of what an operation sees nothing has changed but by those that it waits for. -/
theorem seen_writers (B : Base P env nt ops anc t r0 w0) (I : Inv env nt ops anc t r0 w0 a0 D r a w) {j : Nat} {o : Oper} (ho : ops[j]? = some o) (hD : D j = false) (hw : ∀ k, waits anc j k = true → D k = true)
    {b : Nat} (hb : t.V j b ≠ none) : ∀ i, i < ops.size → t.Hs (i + 1) b ≠ t.Hs i b → i ≠ j → (D i = true ↔ i < j) := by
  intro i hi hwr hij
  have hj : j < ops.size := (Array.getElem?_eq_some_iff.1 ho).1
  constructor
  · intro hd
    by_cases hlt : i < j
    · exact hlt
    · exfalso
      cases hwt : waits anc i j with
      | true => have := I.clo i hi hd j hwt; rw [hD] at this; cases this
      | false => exact hwr (B.ok.pairB j i (by omega) hi hwt b hb)
  · intro hlt
    cases hwt : waits anc j i with
    | true => exact hw i hwt
    | false => exact absurd (B.ok.pairA i j hlt hj hwt b hb) hwr

theorem new_writers (B : Base P env nt ops anc t r0 w0) (I : Inv env nt ops anc t r0 w0 a0 D r a w) {j : Nat} {o : Oper} (ho : ops[j]? = some o) (hD : D j = false)
    {b : Nat} (hb : t.ns j ≤ b ∧ b < t.ns (j + 1)) : ∀ i, i < ops.size → t.Hs (i + 1) b ≠ t.Hs i b → i ≠ j → D i = false ∧ j < i := by
  intro i hi hwr hij
  have hj : j < ops.size := (Array.getElem?_eq_some_iff.1 ho).1
  have hbn : b < t.ns ops.size := Nat.lt_of_lt_of_le hb.2 (ns_mono B.ok ops.size (Nat.le_refl _) (j + 1) (by omega))
  have hij' : j < i := by
    by_cases h : j < i
    · exact h
    · exfalso
      have h1 := ns_mono B.ok j (by omega) (i + 1) (by omega)
      have h2 := ns_mono B.ok j (by omega) i (by omega)
      exact hwr (by rw [none_new B (i + 1) (by omega) b (by omega) hbn, none_new B i (by omega) b (by omega) hbn])
  refine ⟨?_, hij'⟩
  have h1 := ns_mono B.ok i (by omega) (j + 1) (by omega)
  have hV : t.V i b ≠ none := fun hv => hwr (B.ok.hout i hi b hv (by omega))
  cases hwt : waits anc i j with
  | true =>
    cases hd : D i with
    | false => rfl
    | true => have := I.clo i hi hd j hwt; rw [hD] at this; cases this
  | false =>
    exfalso
    have h2 := B.ok.pairA j i hij' hi hwt b hV
    rw [none_new B j (by omega) b hb.1 hbn] at h2
    have h3 := none_stays B.ok hb.2 h2 i (by omega) (by omega)
    obtain ⟨o', ho'⟩ := Option.ne_none_iff_exists'.1 hV
    rw [B.ok.sub i hi b o' ho'] at h3
    cases h3

/-- The slots that an operation looks at. -/
theorem slot_writers (B : Base P env nt ops anc t r0 w0) (I : Inv env nt ops anc t r0 w0 a0 D r a w) {j : Nat} {o : Oper} (ho : ops[j]? = some o) (hD : D j = false) (hw : ∀ k, waits anc j k = true → D k = true)
    {k : Nat} (hk : k ∈ o.looksAt ops ∨ o.dst = some k) : ∀ i, i < ops.size → Tg t (i + 1) k ≠ Tg t i k → i ≠ j → (D i = true ↔ i < j) := by
  intro i hi hwr hij
  have hj : j < ops.size := (Array.getElem?_eq_some_iff.1 ho).1
  obtain ⟨oi, hoi⟩ : ∃ oi, ops[i]? = some oi := ⟨ops[i], Array.getElem?_eq_getElem hi⟩
  have hdst : oi.dst = some k := by
    have hp := B.ok.put i hi oi hoi
    cases hd : oi.dst with
    | none => rw [hd] at hp; simp only [putT, Option.some.injEq] at hp; exact absurd (by unfold Tg; rw [hp]) hwr
    | some d =>
      rw [hd] at hp
      simp only [putT] at hp
      cases hb : Nat.blt d nt with
      | false => rw [hb] at hp; cases hp
      | true =>
        rw [hb] at hp
        simp only [cond_true, Option.some.injEq] at hp
        by_cases e : k = d
        · rw [e]
        · exact absurd (by unfold Tg; rw [← hp, Tr.get_put_ne _ _ _ _ e]) hwr
  constructor
  · intro hd
    by_cases hlt : i < j
    · exact hlt
    · exfalso
      cases hwt : waits anc i j with
      | true => have := I.clo i hi hd j hwt; rw [hD] at this; cases this
      | false =>
        obtain ⟨h1, h2, h3⟩ := Oper.apart_spec (B.apart j i o oi ho hoi (by omega) hwt)
        rcases hk with hk | hk
        · exact h3 k hdst hk
        · exact h2 k hk hdst
  · intro hlt
    cases hwt : waits anc j i with
    | true => exact hw i hwt
    | false =>
      obtain ⟨h1, h2, h3⟩ := Oper.apart_spec (B.apart i j oi o hoi ho hlt hwt)
      rcases hk with hk | hk
      · exact absurd hk (h1 k hdst)
      · exact absurd hk (h2 k hdst)

theorem slot_now (B : Base P env nt ops anc t r0 w0) (I : Inv env nt ops anc t r0 w0 a0 D r a w) {j : Nat} {o : Oper} (ho : ops[j]? = some o) (hD : D j = false) (hw : ∀ k, waits anc j k = true → D k = true)
    {k : Nat} (hk : k ∈ o.looksAt ops) : HD (Tg t) D ops.size k = (t.Ts j).get k := by
  have hj : j < ops.size := (Array.getElem?_eq_some_iff.1 ho).1
  rw [HD_at (Tg t) D j k ops.size ?_, show min ops.size j = j by omega]
  · rfl
  · intro i hi hwr
    by_cases hij : i = j
    · subst hij; simp [hD]
    · exact slot_writers B I ho hD hw (.inl hk) i hi hwr hij

theorem seen_now (B : Base P env nt ops anc t r0 w0) (I : Inv env nt ops anc t r0 w0 a0 D r a w) {j : Nat} {o : Oper} (ho : ops[j]? = some o) (hD : D j = false) (hw : ∀ k, waits anc j k = true → D k = true)
    {b : Nat} (hb : t.V j b ≠ none) : HD t.Hs D ops.size b = t.Hs j b := by
  have hj : j < ops.size := (Array.getElem?_eq_some_iff.1 ho).1
  rw [HD_at t.Hs D j b ops.size ?_, show min ops.size j = j by omega]
  intro i hi hwr
  by_cases hij : i = j
  · subst hij; simp [hD]
  · exact seen_writers B I ho hD hw hb i hi hwr hij

/-- Behind one operation more. -/
theorem inv_step (B : Base P env nt ops anc t r0 w0) (I : Inv env nt ops anc t r0 w0 a0 D r a w) {j : Nat} {o : Oper} (ho : ops[j]? = some o) (hD : D j = false) (hw : ∀ k, waits anc j k = true → D k = true)
    {D' : Nat → Bool} (hD' : ∀ i, D' i = if i = j then true else D i) {u : Value} {r' : Rel} {w' : World}
    (g : GrowS env r (HD t.Hs D ops.size) (fun b => t.ns j ≤ b ∧ b < t.ns (j + 1)) w r' (HD t.Hs D' ops.size) w') (hp : ∀ b v c d m, r' b v c d m → r b v c d m ∨ (t.ns j ≤ b ∧ b < t.ns (j + 1)) ∨ ∃ v0 c0 d0 m0, r b v0 c0 d0 m0)
    (hu : VR env r' (t.v j) u) : Inv env nt ops anc t r0 w0 a0 D' r' (a.put o.dst u) w' := by
  have hj : j < ops.size := (Array.getElem?_eq_some_iff.1 ho).1
  refine ⟨?_, ?_, ?_, ?_, ?_, ?_⟩
  · refine GrowS.trans B.m0 B.f0 (fun _ h => h) (fun b hb => ?_) I.grow g
    have h1 := ns_mono B.ok j (by omega) 0 (by omega)
    have h2 := ns_mono B.ok ops.size (Nat.le_refl _) (j + 1) (by omega)
    omega
  · cases o.dst <;> simp [Act.put, I.size]
  · intro k x hx
    have hput := B.ok.put j hj o ho
    by_cases hk : o.dst = some k
    · have h1 : HD (Tg t) D' ops.size k = (t.Ts (j + 1)).get k := by
        rw [HD_at (Tg t) D' (j + 1) k ops.size ?_, show min ops.size (j + 1) = j + 1 by omega]
        · rfl
        · intro i hi hwr
          rw [hD' i]
          by_cases hij : i = j
          · subst hij; simp
          · rw [if_neg hij]
            have := slot_writers B I ho hD hw (.inr hk) i hi hwr hij
            rw [this]; omega
      rw [h1] at hx
      rw [hk] at hput
      simp only [putT] at hput
      cases hb : Nat.blt k nt with
      | false => rw [hb] at hput; cases hput
      | true =>
        rw [hb] at hput
        simp only [cond_true, Option.some.injEq] at hput
        rw [← hput, Tr.get_put_self] at hx
        obtain rfl := Option.some.inj hx
        have hlt : k < nt := Nat.le_of_ble_eq_true hb
        rw [hk]
        simp only [Act.put]
        rw [Array.getD_eq_getD_getElem?, Array.getElem?_setIfInBounds_self_of_lt (by rw [I.size]; exact hlt)]
        exact hu
    · have h1 : HD (Tg t) D' ops.size k = HD (Tg t) D ops.size k := by
        refine HD_congr _ _ _ _ _ fun i hi hwr => ?_
        rw [hD' i]
        by_cases hij : i = j
        · subst hij
          exfalso
          refine hwr ?_
          unfold Tg
          cases hd : o.dst with
          | none => rw [hd] at hput; simp only [putT, Option.some.injEq] at hput; rw [hput]
          | some d =>
            rw [hd] at hput
            simp only [putT] at hput
            cases hb : Nat.blt d nt with
            | false => rw [hb] at hput; cases hput
            | true =>
              rw [hb] at hput
              simp only [cond_true, Option.some.injEq] at hput
              rw [← hput, Tr.get_put_ne _ _ _ _ (by rintro rfl; exact hk hd)]
        · rw [if_neg hij]
      rw [h1] at hx
      have := (I.tmps k x hx).mono g.sub
      cases hd : o.dst with
      | none => exact this
      | some d =>
        simp only [Act.put]
        rw [Array.getD_eq_getD_getElem?, Array.getElem?_setIfInBounds_ne (by rintro rfl; exact hk hd), ← Array.getD_eq_getD_getElem?]
        exact this
  · intro i hi hd k hk
    rw [hD'] at hd ⊢
    by_cases hkj : k = j
    · rw [if_pos hkj]
    · rw [if_neg hkj]
      by_cases hij : i = j
      · subst hij; exact hw k hk
      · rw [if_neg hij] at hd; exact I.clo i hi hd k hk
  · intro b v c d m hr i hi hdi hb
    rw [hD'] at hdi
    by_cases hij : i = j
    · rw [if_pos hij] at hdi; cases hdi
    · rw [if_neg hij] at hdi
      rcases hp b v c d m hr with h | h | ⟨v0, c0, d0, m0, h⟩
      · exact I.pend b v c d m h i hi hdi hb
      · rcases Nat.lt_or_gt_of_ne hij with h1 | h1
        · have := ns_mono B.ok j (by omega) (i + 1) (by omega); omega
        · have := ns_mono B.ok i (by omega) (j + 1) (by omega); omega
      · exact I.pend b v0 c0 d0 m0 h i hi hdi hb
  · rw [← I.defers]; cases o.dst <;> rfl

end

end Go.Proofs.Ytdndjcofafkafaa.Sim
