/- Code and calls: a run of the interpreter that comes to a value shows what the model's call does, in every world. Nothing is claimed of the program here; no condition. -/
import Derived.Test.YtdndjcofafkafaaSimG
namespace Go.Proofs.Ytdndjcofafkafaa.Sim
set_option linter.unusedVariables false
set_option linter.unusedSimpArgs false
open Go Go.RowKit

section
variable {P : Program} {C : Ctx} {env : Nat → Int} {nt : Nat} {ops : Array Oper} {anc : Tr Nat}

theorem drawGo_ok (hC : COk P C env) {call : Caller} (hcall : CallerOk P C env call) (hsane : CallerSane call) : ∀ (l : List Oper) (j : Nat) (log : List (Nat × Acc)) (s s' : St),
    drawGo P C call nt (dstsFrom ops.toList 0 .nil) anc l j log s = some s' → ops.size = j + l.length → (∀ k o, l[k]? = some o → ops[j + k]? = some o) →
    ∀ t : Tce, TceOk P env nt ops anc t j → t.Hs j = s.H.get → t.Ts j = s.T → t.ns j = s.nx → LogOk t j log → (∀ b, t.ns 0 ≤ b → b < s'.nx → t.Hs 0 b = none) →
    ∃ t' : Tce, TceOk P env nt ops anc t' ops.size ∧ t'.Hs 0 = t.Hs 0 ∧ t'.Ts 0 = t.Ts 0 ∧ t'.ns 0 = t.ns 0 ∧ t'.Hs ops.size = s'.H.get ∧ t'.Ts ops.size = s'.T ∧ t'.ns ops.size = s'.nx := by
  intro l
  induction l with
  | nil =>
    intro j log s s' h hn _ t ht h1 h2 h3 _ _
    simp only [drawGo, Option.some.injEq] at h
    subst h
    simp only [List.length_nil, Nat.add_zero] at hn
    rw [hn]
    exact ⟨t, ht, rfl, rfl, rfl, h1, h2, h3⟩
  | cons o l ih =>
    intro j log s s' h hn hops t ht h1 h2 h3 hlog h0
    have ho : ops[j]? = some o := by have := hops 0 o rfl; simpa using this
    have hn' : ops.size = j + 1 + l.length := by simp only [List.length_cons] at hn; omega
    have hops' : ∀ k o, l[k]? = some o → ops[j + 1 + k]? = some o := by
      intro k q hq
      have := hops (k + 1) q (by simpa using hq)
      rw [← this]; congr 1; omega
    simp only [drawGo] at h
    split at h
    · rename_i hw
      split at h
      · rename_i v H nx acc hst
        revert h
        cases hb : (Nat.ble s.nx nx && okLog anc j acc log) <;> intro h
        · cases h
        · rw [cond_true, Option.bind_eq_some_iff] at h
          obtain ⟨T, hp, hgo⟩ := h
          rw [Bool.and_eq_true] at hb
          have hle : s.nx ≤ nx := Nat.le_of_ble_eq_true hb.1
          have hM : nx ≤ s'.nx := drawGo_nx hgo
          obtain ⟨V, V', d1, d2, d3, d4, d5⟩ := drawStep_ok hC hcall hsane hst hle
          have hacc : ∀ tt : Tce, tt = t.add j H.get T nx V V' v true → AccOk tt j acc := by
            rintro tt rfl
            exact d5 _ (if_neg (by omega)) (by rw [← h1]; exact if_pos (Nat.le_refl _)) (if_neg (by omega)) (by rw [← h3]; exact if_pos (Nat.le_refl _)) (if_neg (by omega))
          have hadd := TceOk.add ht h0 (H := H.get) (T := T) (n := nx) (V := V) (V' := V') (v := v) (d := true) ho hM (by rw [h3]; exact hle) (by rw [h1]; exact d2) (by rw [h3]; exact d3) (by rw [h3, h1]; exact d4)
            (by rw [h2]; exact hp) (by rw [h2]; exact hw) (by intro hh; cases hh) (by intro _; rw [h2, h3]; exact d1) hlog (by
              intro i a hm hwt ha hseen
              have hi := hlog.lt (i, a) hm
              have hok : okPair a acc = true := by
                rcases okLog_mem hb.2 (i, a) hm with hh | hh
                · simp only at hh hi; rw [hwt] at hh; cases hh
                · exact hh
              have e1 : (t.add j H.get T nx V V' v true).Hs (i + 1) = t.Hs (i + 1) := if_pos (by simp only at hi; omega)
              have e2 : (t.add j H.get T nx V V' v true).Hs i = t.Hs i := if_pos (by simp only at hi; omega)
              have e3 : (t.add j H.get T nx V V' v true).Hs (j + 1) = H.get := if_neg (by omega)
              have e4 : (t.add j H.get T nx V V' v true).Hs j = t.Hs j := if_pos (Nat.le_refl _)
              have e5 : (t.add j H.get T nx V V' v true).V i = t.V i := if_pos (by simp only at hi; omega)
              have e6 : (t.add j H.get T nx V V' v true).V j = V := if_neg (by omega)
              have e7 : (t.add j H.get T nx V V' v true).ns j = t.ns j := if_pos (Nat.le_refl _)
              have e8 : (t.add j H.get T nx V V' v true).ns (j + 1) = nx := if_neg (by omega)
              have e9 : (t.add j H.get T nx V V' v true).ns i = t.ns i := if_pos (by simp only at hi; omega)
              have e10 : (t.add j H.get T nx V V' v true).ns (i + 1) = t.ns (i + 1) := if_pos (by simp only at hi; omega)
              have := okPair_ok (t := t.add j H.get T nx V V' v true) (i := i) (j := j) hi (ha.add hi) (hacc _ rfl) hok (by rw [e5, e7, e8]; exact hseen)
                (by rw [e1, e2, e5, e9, e10]; exact ht.hout i hi) (by rw [e3, e4, e6, e7, e8, h1, h3]; exact d4)
              rw [e1, e2, e3, e4, e5, e6] at this
              exact this)
          have hlog' : LogOk (t.add j H.get T nx V V' v true) (j + 1) (noteA j acc log) := by
            have hself := hacc _ rfl
            have hnone : acc = .rd [] → (∀ b, (t.add j H.get T nx V V' v true).V j b = none) ∧ ∀ b, (t.add j H.get T nx V V' v true).Hs (j + 1) b = (t.add j H.get T nx V V' v true).Hs j b := by
              rintro rfl
              refine ⟨fun b => ?_, hself.2⟩
              cases hv : (t.add j H.get T nx V V' v true).V j b with
              | none => rfl
              | some q => have := hself.1 b (by rw [hv]; simp); cases this
            have hold : ∀ i, i < j → (∃ acc, (i, acc) ∈ log ∧ AccOk (t.add j H.get T nx V V' v true) i acc) ∨ ((∀ b, (t.add j H.get T nx V V' v true).V i b = none) ∧ ∀ b, (t.add j H.get T nx V V' v true).Hs (i + 1) b = (t.add j H.get T nx V V' v true).Hs i b) := by
              intro i hi
              have e1 : (t.add j H.get T nx V V' v true).Hs (i + 1) = t.Hs (i + 1) := if_pos (by omega)
              have e2 : (t.add j H.get T nx V V' v true).Hs i = t.Hs i := if_pos (by omega)
              have e5 : (t.add j H.get T nx V V' v true).V i = t.V i := if_pos hi
              rcases hlog.all i hi with ⟨a, hm, ha⟩ | hh
              · exact .inl ⟨a, hm, ha.add hi⟩
              · rw [e1, e2, e5]; exact .inr hh
            have big : LogOk (t.add j H.get T nx V V' v true) (j + 1) ((j, acc) :: log) := by
              refine ⟨fun i hi => ?_, fun p hp => ?_⟩
              · by_cases hij : i = j
                · subst hij; exact .inl ⟨acc, List.mem_cons_self, hself⟩
                · rcases hold i (by omega) with ⟨a, hm, ha⟩ | hh
                  · exact .inl ⟨a, List.mem_cons_of_mem _ hm, ha⟩
                  · exact .inr hh
              · rcases List.mem_cons.1 hp with rfl | hp
                · exact Nat.lt_succ_self _
                · exact Nat.lt_succ_of_lt (hlog.lt p hp)
            unfold noteA
            split
            · refine ⟨fun i hi => ?_, fun p hp => Nat.lt_succ_of_lt (hlog.lt p hp)⟩
              by_cases hij : i = j
              · rw [hij]; exact .inr (hnone rfl)
              · exact hold i (by omega)
            · exact big
          obtain ⟨t', r1, r2, r3, r4, r5, r6, r7⟩ := ih (j + 1) _ _ s' hgo hn' hops' _ hadd (if_neg (by omega)) (if_neg (by omega)) (if_neg (by omega)) hlog' (by
            have e1 : (t.add j H.get T nx V V' v true).ns 0 = t.ns 0 := rfl
            have e2 : (t.add j H.get T nx V V' v true).Hs 0 = t.Hs 0 := rfl
            rw [e1, e2]; exact h0)
          exact ⟨t', r1, r2, r3, r4, r5, r6, r7⟩
      · cases h
    · rename_i hw
      rw [Option.bind_eq_some_iff] at h
      obtain ⟨T, hp, hgo⟩ := h
      have hM0 := drawGo_nx hgo
      have hM : s.nx ≤ s'.nx := hM0
      have hadd := TceOk.add ht h0 (H := s.H.get) (T := T) (n := s.nx) (V := fun _ => none) (V' := fun _ => none) (v := .tup []) (d := false) ho hM (by rw [h3]; exact Nat.le_refl _) (fun b q hq => by cases hq)
        (by intro b hb; rw [h3] at hb; rcases hb with hb | hb <;> first | exact absurd rfl hb | omega) (by intro b _ _; rw [h1]) (by rw [h2]; exact hp) (by rw [h2]; exact hw) (fun _ => ⟨fun _ => rfl, h3.symm, rfl⟩) (by intro hh; cases hh) hlog
        (fun i a _ _ _ _ => ⟨fun b hb => absurd rfl hb, fun b _ => by rw [h1]⟩)
      have hlog' : LogOk (t.add j s.H.get T s.nx (fun _ => none) (fun _ => none) (.tup []) false) (j + 1) log := by
        refine ⟨fun i hi => ?_, fun p hp => Nat.lt_succ_of_lt (hlog.lt p hp)⟩
        by_cases hij : i = j
        · subst hij
          have e1 : (t.add i s.H.get T s.nx (fun _ => none) (fun _ => none) (.tup []) false).Hs (i + 1) = s.H.get := if_neg (by omega)
          have e2 : (t.add i s.H.get T s.nx (fun _ => none) (fun _ => none) (.tup []) false).Hs i = t.Hs i := if_pos (Nat.le_refl _)
          have e5 : (t.add i s.H.get T s.nx (fun _ => none) (fun _ => none) (.tup []) false).V i = fun _ => none := if_neg (by omega)
          rw [e1, e2, e5, h1]
          exact .inr ⟨fun _ => rfl, fun _ => rfl⟩
        · have e1 : (t.add j s.H.get T s.nx (fun _ => none) (fun _ => none) (.tup []) false).Hs (i + 1) = t.Hs (i + 1) := if_pos (by omega)
          have e2 : (t.add j s.H.get T s.nx (fun _ => none) (fun _ => none) (.tup []) false).Hs i = t.Hs i := if_pos (by omega)
          have e5 : (t.add j s.H.get T s.nx (fun _ => none) (fun _ => none) (.tup []) false).V i = t.V i := if_pos (by omega)
          rcases hlog.all i (by omega) with ⟨a, hm, ha⟩ | hh
          · exact .inl ⟨a, hm, ha.add (by omega)⟩
          · rw [e1, e2, e5]; exact .inr hh
      obtain ⟨t', r1, r2, r3, r4, r5, r6, r7⟩ := ih (j + 1) _ _ s' hgo hn' hops' _ hadd (if_neg (by omega)) (if_neg (by omega)) (if_neg (by omega)) hlog' (by
        have e1 : (t.add j s.H.get T s.nx (fun _ => none) (fun _ => none) (.tup []) false).ns 0 = t.ns 0 := rfl
        have e2 : (t.add j s.H.get T s.nx (fun _ => none) (fun _ => none) (.tup []) false).Hs 0 = t.Hs 0 := rfl
        rw [e1, e2]; exact h0)
      exact ⟨t', r1, r2, r3, r4, r5, r6, r7⟩
    · cases h

theorem drawA_nx {call : Caller} {s s' : St} (h : drawA P C call nt ops s = some s') : s.nx ≤ s'.nx := by
  unfold drawA at h
  split at h
  · revert h
    cases (apartAll ops _ ops.toList 0 && Region.noSelect ops) <;> intro h
    · cases h
    · exact drawGo_nx h
  · cases h

/-- A region that draws its order. -/
theorem drawA_ok (hC : COk P C env) {call : Caller} (hcall : CallerOk P C env call) (hsane : CallerSane call) (hm : P.follows .mixedOrders = true) {r : Rel} {s s' : St} {a : Act} {w : World} {id N : Nat} {Q : Exit → Act → World → Prop} (m : MR env r s.H.get w) (hT : TR env r nt s.T a.tmps) (hf : Fresh r s.nx N) (hN : s'.nx ≤ N)
    (h : drawA P C call nt ops s = some s')
    (hQ : ∀ a' w' r', Grow env r s.H.get s.nx w r' s'.H.get s'.nx w' → TR env r' nt s'.T a'.tmps → a'.defers = a.defers → Q .normal a' w') : (Code.region id ops true).wp P Q a w := by
  have hnx := drawA_nx h
  unfold drawA at h
  split at h
  · rename_i anc hanc
    revert h
    cases hap : (apartAll ops anc ops.toList 0 && Region.noSelect ops) <;> intro h
    · cases h
    · rw [cond_true] at h
      rw [Bool.and_eq_true] at hap
      have hfr : ∀ b, s.nx ≤ b → b < s'.nx → s.H.get b = none := by
        intro b h1 h2
        cases hb : s.H.get b with
        | none => rfl
        | some o =>
          obtain ⟨c, d, n, hr⟩ := (m.obj hb).has
          exact absurd ⟨h1, by omega⟩ (hf _ _ _ _ _ hr)
      obtain ⟨t, t1, t2, t3, t4, t5, t6, t7⟩ := drawGo_ok (ops := ops) (anc := anc) hC hcall hsane ops.toList 0 [] s s' h (by simp) (fun k o ho => by simpa using ho)
        { Hs := fun _ => s.H.get, Ts := fun _ => s.T, ns := fun _ => s.nx, V := fun _ _ => none, V' := fun _ _ => none, v := fun _ => .unk, d := fun _ => false }
        ⟨fun i hi => by omega, fun i hi => by omega, fun i hi => by omega, fun i hi => by omega, fun i hi => by omega, fun i hi => by omega, fun i hi => by omega, fun i hi => by omega, fun i j _ hj => by omega, fun i j _ hj => by omega⟩
        rfl rfl rfl ⟨fun i hi => by omega, fun p hp => by cases hp⟩ hfr
      simp only at t2 t3 t4
      have hdrew : MR env r s.H.get { w with drawn := w.drawn + 1 } := by
        refine ⟨m.fn, m.lt, m.ver, fun ho => ?_, m.inj⟩
        have := m.obj ho
        cases ‹AObj› <;> exact this
      refine wp_region_any hm ?_
      obtain ⟨an1, an2⟩ := anc_ok hanc
      have B : Base P env nt ops anc t r { w with drawn := w.drawn + 1 } := by
        refine ⟨t1, by rw [t2]; exact hdrew, ?_, ?_, ?_, ?_⟩
        · intro b v c d n hr hb
          rw [t4, t7] at hb
          exact hf _ _ _ _ _ hr ⟨hb.1, by omega⟩
        · intro j o ho e he hb
          have := (an2 j o (by simpa using ho)).1 e (by simpa using he) hb
          omega
        · intro j o ho k hk
          obtain ⟨e, he, h1, h2⟩ := (an2 j o (by simpa using ho)).2 k (by rw [Nat.zero_add]; exact hk)
          exact ⟨e, by simpa using he, h1, h2⟩
        · intro i j oi oj hi hj hij hw
          have h1 := apartAll_ok hap.1 j oj (by simpa using hj)
          rw [Nat.zero_add] at h1
          exact apartRow_ok h1 i oi (by simpa using hi) (by omega) (by rw [Nat.zero_add]; exact hw)
      refine draw_all (a0 := a) B ?_ ops.size (Array.replicate ops.size false) r a _ (by simp) ?_ ?_
      · intro a' w' r' g hT' hd
        rw [t2, t4, t7, t5] at g
        rw [t6] at hT'
        refine hQ a' w' r' ?_ hT' hd
        have g2 := g.to (nx := s.nx) (nx' := s'.nx) (fun b hb => hb) hnx
        exact ⟨g2.sub, g2.mr, g2.nxl, g2.old, g2.dom, g2.new, g2.frame, g2.size, g2.os, g2.tape, g2.output⟩
      · have hD : ∀ i, Dn (Array.replicate ops.size false) i = false := by
          intro i
          unfold Dn
          rw [Array.getD_eq_getD_getElem?]
          by_cases hi : i < ops.size
          · simp [hi]
          · simp [hi]
        have : ∀ k, cntU (Dn (Array.replicate ops.size false)) k = k := by
          intro k
          induction k with
          | zero => rfl
          | succ k ih => simp only [cntU]; rw [ih, hD k]; simp
        rw [this]
        exact Nat.le_refl _
      · have hD : ∀ i, Dn (Array.replicate ops.size false) i = false := by
          intro i
          unfold Dn
          rw [Array.getD_eq_getD_getElem?]
          by_cases hi : i < ops.size
          · simp [hi]
          · simp [hi]
        have h1 : ∀ {γ : Type} (Hs : Nat → Nat → Option γ), HD Hs (Dn (Array.replicate ops.size false)) ops.size = Hs 0 := by
          intro γ Hs
          funext b
          rw [HD_at Hs _ 0 b ops.size (fun i _ _ => by rw [hD i]; simp), Nat.min_zero]
        refine ⟨?_, hT.1, ?_, ?_, ?_, rfl⟩
        · rw [h1]; exact GrowS.refl (by rw [t2]; exact hdrew)
        · intro k x hx
          rw [h1] at hx
          unfold Tg at hx
          rw [t3] at hx
          exact hT.2 k x hx
        · intro i hi hd; rw [hD i] at hd; cases hd
        · intro b v c d n hr i hi _ hb
          have q1 := ns_mono t1 i (by omega) 0 (by omega)
          have q2 := ns_mono t1 ops.size (Nat.le_refl _) (i + 1) (by omega)
          rw [t4] at q1
          rw [t7] at q2
          exact hf _ _ _ _ _ hr ⟨by omega, by omega⟩
  · cases h

end
end Go.Proofs.Ytdndjcofafkafaa.Sim
