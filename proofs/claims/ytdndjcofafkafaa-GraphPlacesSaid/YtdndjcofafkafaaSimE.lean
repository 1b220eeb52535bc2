/- Regions that draw their order, the second part: the text's order gives what is asked; code; calls. Nothing is claimed of the program here; no condition. -/
import Derived.Test.YtdndjcofafkafaaSimD
namespace Go.Proofs.Ytdndjcofafkafaa.Sim
set_option linter.unusedVariables false
set_option linter.unusedSimpArgs false
open Go Go.RowKit

def cntU (D : Nat → Bool) : Nat → Nat
  | 0 => 0
  | m + 1 => cntU D m + if D m then 0 else 1

theorem cntU_set {D D' : Nat → Bool} {j : Nat} (hD : D j = false) (hD' : ∀ i, D' i = if i = j then true else D i) : ∀ m, (m ≤ j → cntU D' m = cntU D m) ∧ (j < m → cntU D' m + 1 = cntU D m) := by
  intro m
  induction m with
  | zero => exact ⟨fun _ => rfl, fun h => by omega⟩
  | succ m ih =>
    simp only [cntU]
    refine ⟨fun h => ?_, fun h => ?_⟩
    · have hm : D' m = D m := by rw [hD' m, if_neg (by omega)]
      rw [ih.1 (by omega), hm]
    · by_cases hm : m = j
      · subst hm
        have hm : D' m = true := by rw [hD' m, if_pos rfl]
        rw [ih.1 (Nat.le_refl _), hm, hD]
        simp
      · have hm2 : D' m = D m := by rw [hD' m, if_neg hm]
        rw [hm2]
        have := ih.2 (by omega)
        omega

theorem cntU_zero {D : Nat → Bool} : ∀ m, cntU D m = 0 → ∀ i, i < m → D i = true := by
  intro m
  induction m with
  | zero => intro _ i h; omega
  | succ m ih =>
    intro h i hi
    simp only [cntU] at h
    by_cases him : i = m
    · subst him
      cases hd : D i with
      | true => rfl
      | false => rw [hd] at h; simp at h
    · exact ih (by omega) i (by omega)

section
variable {P : Program} {env : Nat → Int} {nt : Nat} {ops : Array Oper} {anc : Tr Nat} {t : Tce} {r0 : Rel} {w0 : World} {a0 : Act} {Q : Exit → Act → World → Prop}

theorem draw_all (B : Base P env nt ops anc t r0 w0)
    (hQ : ∀ a' w' r', GrowS env r0 (t.Hs 0) (fun b => t.ns 0 ≤ b ∧ b < t.ns ops.size) w0 r' (t.Hs ops.size) w' → TR env r' nt (t.Ts ops.size) a'.tmps → a'.defers = a0.defers → Q .normal a' w') :
    ∀ (fuel : Nat) (listed : Array Bool) (r : Rel) (a : Act) (w : World), listed.size = ops.size → cntU (Dn listed) ops.size ≤ fuel → Inv env nt ops anc t r0 w0 a0 (Dn listed) r a w → wpAny P .any ops Q fuel listed a w := by
  have done : ∀ (listed : Array Bool) (r : Rel) (a : Act) (w : World), (∀ i, i < ops.size → Dn listed i = true) → Inv env nt ops anc t r0 w0 a0 (Dn listed) r a w → Q .normal a w := by
    intro listed r a w hall I
    have h1 : HD t.Hs (Dn listed) ops.size = t.Hs ops.size := by
      funext b
      rw [HD_at t.Hs (Dn listed) ops.size b ops.size (fun i hi _ => by simp [hall i hi, hi]), Nat.min_self]
    have h2 : ∀ k, HD (Tg t) (Dn listed) ops.size k = (t.Ts ops.size).get k := by
      intro k
      rw [HD_at (Tg t) (Dn listed) ops.size k ops.size (fun i hi _ => by simp [hall i hi, hi]), Nat.min_self]
      rfl
    have g := I.grow
    rw [h1] at g
    exact hQ a w r g ⟨I.size, fun k x hx => I.tmps k x (by rw [h2]; exact hx)⟩ I.defers
  have rdy : ∀ (listed : Array Bool), listed.size = ops.size → Region.ready .any ops listed = [] → ∀ i, i < ops.size → Dn listed i = true := by
    intro listed hs hr i
    induction i using Nat.strongRecOn with
    | _ i ih =>
      intro hi
      cases hd : Dn listed i with
      | true => rfl
      | false =>
        exfalso
        have hoi : ops[i]? = some ops[i] := Array.getElem?_eq_getElem hi
        have hm : i ∈ Region.ready .any ops listed := by
          rw [mem_ready]
          refine ⟨?_, ops[i], hoi, fun e he hb => ?_⟩
          · unfold Dn at hd
            have : listed[i]? = some listed[i] := Array.getElem?_eq_getElem (by omega)
            rw [Array.getD_eq_getD_getElem?, this] at hd ⊢
            exact hd
          · have := B.edge i _ hoi e he hb
            exact ih e.on this (by omega)
        rw [hr] at hm
        cases hm
  intro fuel
  induction fuel with
  | zero =>
    intro listed r a w hs hc I
    have hall := cntU_zero ops.size (by omega : cntU (Dn listed) ops.size = 0)
    refine ⟨?_, done listed r a w hall I⟩
    cases hr : Region.ready .any ops listed with
    | nil => rfl
    | cons j l =>
      exfalso
      have hm : j ∈ Region.ready .any ops listed := by rw [hr]; exact List.mem_cons_self
      rw [mem_ready] at hm
      obtain ⟨h1, o, ho, _⟩ := hm
      have hj : j < ops.size := (Array.getElem?_eq_some_iff.1 ho).1
      have := hall j hj
      unfold Dn at this
      have hg : listed[j]? = some listed[j] := Array.getElem?_eq_getElem (by omega)
      rw [Array.getD_eq_getD_getElem?, hg] at this h1
      simp only [Option.getD_some] at this h1
      rw [this] at h1; cases h1
  | succ fuel ih =>
    intro listed r a w hs hc I
    refine ⟨fun hr => done listed r a w (rdy listed hs hr) I, fun j hj => ?_⟩
    rw [mem_ready] at hj
    obtain ⟨hl, o, ho, hedge⟩ := hj
    have hjn : j < ops.size := (Array.getElem?_eq_some_iff.1 ho).1
    have hD : Dn listed j = false := by
      unfold Dn
      have hg : listed[j]? = some listed[j] := Array.getElem?_eq_getElem (by omega)
      rw [Array.getD_eq_getD_getElem?, hg] at hl ⊢
      exact hl
    have hw := waits_done B I ho (fun e he hb => hedge e he hb)
    have hD' : ∀ i, Dn (listed.setIfInBounds j true) i = if i = j then true else Dn listed i := by
      intro i
      unfold Dn
      by_cases hij : i = j
      · subst hij
        rw [if_pos rfl, Array.getD_eq_getD_getElem?, Array.getElem?_setIfInBounds_self_of_lt (by omega)]
        rfl
      · rw [if_neg hij, Array.getD_eq_getD_getElem?, Array.getElem?_setIfInBounds_ne (Ne.symm hij), ← Array.getD_eq_getD_getElem?]
    have hcnt : cntU (Dn (listed.setIfInBounds j true)) ops.size ≤ fuel := by
      have := (cntU_set hD hD' ops.size).2 hjn
      omega
    have next : ∀ (u : Value) (r' : Rel) (w' : World), Inv env nt ops anc t r0 w0 a0 (Dn (listed.setIfInBounds j true)) r' (a.put o.dst u) w' → wpAny P .any ops Q fuel (listed.setIfInBounds j true) (a.put o.dst u) w' :=
      fun u r' w' I' => ih _ r' _ w' (by simpa using hs) hcnt I'
    have hT : ∀ k, k ∈ o.looksAt ops → ∀ x, (t.Ts j).get k = some x → VR env r x (a.tmps.getD k undef) := by
      intro k hk x hx
      exact I.tmps k x (by rw [slot_now B I ho hD hw hk]; exact hx)
    have hwant : Region.wanted o (yielded ops a.tmps) = t.d j := by
      refine wanted_ok (env := env) (r := r) (T := t.Ts j) ?_ (B.ok.want j hjn o ho)
      intro g want hg d hd x hx
      refine hT d ?_ x hx
      unfold Oper.looksAt
      rw [hg]
      refine List.mem_append_right _ ?_
      show d ∈ ((ops[g]?).bind (·.dst)).toList
      rw [hd]
      simp
    unfold wpOp
    rw [ho]
    simp only
    rw [hwant]
    cases hdj : t.d j with
    | false =>
      rw [if_neg (by simp)]
      obtain ⟨s1, s2, s3⟩ := B.ok.skip j hjn hdj
      have hsame : HD t.Hs (Dn (listed.setIfInBounds j true)) ops.size = HD t.Hs (Dn listed) ops.size := by
        funext b
        refine HD_congr _ _ _ _ _ fun i hi hwr => ?_
        rw [hD' i]
        by_cases hij : i = j
        · subst hij
          exact absurd (B.ok.hout i hi b (s1 b) (by omega)) hwr
        · rw [if_neg hij]
      refine next undef r w (inv_step B I ho hD hw hD' (u := undef) (r' := r) (w' := w) ?_ (fun _ _ _ _ _ h => .inl h) ?_)
      · rw [hsame]; exact GrowS.refl I.grow.mr
      · rw [s3]; exact undone_rel _
    | true =>
      rw [if_pos rfl]
      left
      have hm : MR env r (t.V j) w := by
        refine I.grow.mr.sub fun b o' ho' => ?_
        rw [seen_now B I ho hD hw (by rw [ho']; simp)]
        exact B.ok.sub j hjn b o' ho'
      have hE : Es env r (t.Ts j) a o := by
        intro x hx
        cases x with
        | tmp k =>
          simp only [ev, Act.eval]
          cases hk : (t.Ts j).get k with
          | none => exact .unk _
          | some y =>
            refine hT k ?_ y hk
            unfold Oper.looksAt
            refine List.mem_append_left _ (List.mem_filterMap.2 ⟨.tmp k, by simpa using hx, rfl⟩)
        | const v =>
          simp only [ev, Act.eval]
          cases hk : ofW v with
          | none => exact .unk _
          | some y => exact ofW_rel hk r
        | global g => exact .unk _
        | func f => exact .fn f [] [] #[] #[] rfl rfl (fun i x x' h => by simp at h) (fun i x x' h => by simp at h)
      have hfr : FreshS r (fun b => t.ns j ≤ b ∧ b < t.ns (j + 1)) := fun b v c d n hr hb => I.pend b v c d n hr j hjn hD hb
      refine B.ok.step j hjn o ho hdj r a w hm hE hfr _ _ ?_
      intro u w' r' g hu
      refine next u r' w' (inv_step B I ho hD hw hD' ?_ ?_ hu)
      · refine GrowS.ext I.grow.mr hfr (fun b o' ho' => ?_) g ?_ ?_ ?_
        · rw [seen_now B I ho hD hw (by rw [ho']; simp)]
          exact B.ok.sub j hjn b o' ho'
        · intro b hb
          rw [← B.ok.hin j hjn b hb]
          rw [HD_at t.Hs (Dn (listed.setIfInBounds j true)) (j + 1) b ops.size ?_, show min ops.size (j + 1) = j + 1 by omega]
          intro i hi hwr
          rw [hD' i]
          by_cases hij : i = j
          · subst hij; simp
          · rw [if_neg hij]
            rcases hb with hb | hb
            · have := seen_writers B I ho hD hw hb i hi hwr hij
              rw [this]; omega
            · obtain ⟨h1, h2⟩ := new_writers B I ho hD hb i hi hwr hij
              rw [h1]; simp; omega
        · intro b h1 h2
          refine HD_congr _ _ _ _ _ fun i hi hwr => ?_
          rw [hD' i]
          by_cases hij : i = j
          · subst hij; exact absurd (B.ok.hout i hi b h1 h2) hwr
          · rw [if_neg hij]
        · intro b hb
          rw [HD_at t.Hs (Dn listed) j b ops.size ?_, show min ops.size j = j by omega]
          · exact none_new B j (by omega) b hb.1 (Nat.lt_of_lt_of_le hb.2 (ns_mono B.ok ops.size (Nat.le_refl _) (j + 1) (by omega)))
          · intro i hi hwr
            by_cases hij : i = j
            · subst hij; simp [hD]
            · obtain ⟨h1, h2⟩ := new_writers B I ho hD hb i hi hwr hij
              rw [h1]; simp; omega
      · intro b v c d n hr
        rcases g.new b v c d n hr with h | ⟨h | ⟨o', h⟩, _⟩
        · exact .inl h
        · exact .inr (.inl h)
        · obtain ⟨c0, d0, m0, h0⟩ := (hm.obj h).has
          exact .inr (.inr ⟨_, c0, d0, m0, h0⟩)

end
end Go.Proofs.Ytdndjcofafkafaa.Sim
