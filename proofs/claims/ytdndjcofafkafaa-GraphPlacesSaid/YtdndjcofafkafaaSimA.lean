/- Operation by operation, the seventh part: append, copy, clear. Nothing is claimed of the program here; no condition. -/
import Derived.Test.YtdndjcofafkafaaSim9
namespace Go.Proofs.Ytdndjcofafkafaa.Sim
set_option linter.unusedVariables false
set_option linter.unusedSimpArgs false
open Go Go.RowKit

section
variable {P : Program} {C : Ctx} {env : Nat → Int} {r : Rel}

theorem cat_rel {r : Rel} {xs ys : List AV} {us vs : List Value} {zs : Array Value} (h1 : VRs env r xs us.toArray) (h2 : VRs env r ys vs.toArray) :
    ∀ (i : Nat) (x : AV), (xs ++ ys)[i]? = some x → ∃ u, (us.toArray ++ vs.toArray ++ zs)[i]? = some u ∧ VR env r x u := by
  have e1 : xs.length = us.length := by simpa using h1.1
  have e2 : ys.length = vs.length := by simpa using h2.1
  intro i x hx
  by_cases hi : i < xs.length
  · rw [List.getElem?_append_left hi] at hx
    obtain ⟨u, a, b⟩ := h1.get hx
    refine ⟨u, ?_, b⟩
    rw [Array.getElem?_append_left (by simp; omega), Array.getElem?_append_left (by simp; omega)]
    exact a
  · rw [List.getElem?_append_right (by omega)] at hx
    obtain ⟨u, a, b⟩ := h2.get hx
    have hlt : i - xs.length < ys.length := (List.getElem?_eq_some_iff.1 hx).1
    refine ⟨u, ?_, b⟩
    rw [Array.getElem?_append_left (by simp; omega), Array.getElem?_append_right (by simp; omega)]
    simp only [List.size_toArray]
    rw [← e1]
    exact a

theorem append_ok (hC : COk P C env) {H H' : Tr AObj} {nx nx' N : Nat} {w : World} (m : MR env r H.get w) (hf : Fresh r nx N) (hN : nx' ≤ N) {t u e ty : TypeId} {d : TypeDesc} {size bs : Nat} {z : AV} {x y v : AV} {x' y' : Value}
    (ht : C.und t = some (.slice e)) (hu : C.und u = some d) (hd : notInt d) (hs : C.size e = some size) (hb : (C.types.get e).map (·.bytes) = some bs) (hz : C.zero e = some z) (hzl : (cellsOf z).length = size) (hs0 : size ≠ 0)
    (hx : VR env r x x') (hy : VR env r y y') (hst : ∀ b, y = .str b → size = 1) (hv : appendA H nx size bs x y = some (v, H', nx')) :
    ∃ u' w' r', (Builtin.append_ #[t, u] ty #[x', y']).run P w = .ok u' w' ∧ Grow env r H.get nx w r' H'.get nx' w' ∧ VR env r' v u' := by
  obtain ⟨i, zv, hi, hiz, hzu⟩ := zero_info hC hz
  obtain ⟨i', hi', hn'⟩ := info_ok hC hs
  rw [hi] at hi'
  obtain rfl := Option.some.inj hi'
  rw [Option.map_eq_some_iff] at hb
  obtain ⟨i', hi', hb'⟩ := hb
  have hi2 := hC.types _ _ hi'
  rw [hi] at hi2
  obtain rfl := Option.some.inj hi2
  have hcz := cells_rel (hzu r) (zero_whole hz)
  have hcn : zv.cells.size = size := by rw [← hcz.1, hzl]
  have hsz : ∀ w, (sizeOf e).run P w = .ok size w := fun w => run_size hC hs w
  unfold appendA at hv
  split at hv
  · cases hv
  · rename_i n hn
    split at hv
    · cases hv
    · rename_i new hnew
      have hlen : ∀ w, (Builtin.lenOf y').run P w = .ok n w := fun w => lenA_rel hn hy w
      obtain ⟨us, hus, hrel⟩ := firstA_ok (P := P) m hnew hy hst
      have husl : us.length = new.length := by have := hrel.1; simp at this; omega
      have hnewl : new.length = n * size := by
        unfold firstA at hnew
        split at hnew
        · simp only [lenA, Option.some.injEq] at hn; subst hn; simp at hnew; subst hnew; simp
        · rename_i p len cap
          simp only [lenA, Option.some.injEq] at hn; subst hn
          have hbl : Nat.ble len len = true := Nat.ble_eq_true_of_le (Nat.le_refl _)
          rw [hbl, cond_true] at hnew
          cases h0 : Nat.beq len 0 with
          | true => rw [h0] at hnew; simp only [cond_true, Option.some.injEq] at hnew; subst hnew; rw [Nat.eq_of_beq_eq_true h0]; simp
          | false =>
            rw [h0, cond_false, Option.bind_eq_some_iff] at hnew
            obtain ⟨_, _, h2⟩ := hnew
            exact (cutL_eq h2).1
        · rename_i b
          have h1 := hst b rfl
          simp only [lenA, Option.some.injEq] at hn; subst hn
          have hbl : Nat.ble b.size b.size = true := Nat.ble_eq_true_of_le (Nat.le_refl _)
          rw [hbl, cond_true] at hnew
          rw [(takeL_eq _ _ _ hnew).1, h1, Nat.mul_one]
        · cases hnew
      cases hfl : flats new with
      | false => rw [hfl] at hv; cases hv
      | true =>
        rw [hfl, cond_true] at hv
        -- a new block with the old cells, the new ones, and noughts
        have grown : ∀ (base : Option Addr) (sLen sCap : Nat) (olds : List Value) (oldA : List AV), VRs env r oldA olds.toArray → olds.length = sLen * size →
            (Builtin.firstCells size sLen (.slice base sLen sCap)).run P w.drew = .ok olds.toArray w.drew → sCap < sLen + n → (sLen + n) * (bs + 1) ≤ 4294967296 →
            ∃ cs, (Builtin.append_ #[t, u] ty #[.slice base sLen sCap, y']).run P w = .ok (.slice (some ⟨w.heap.size, 0, none⟩) (sLen + n) (grownCap w (sLen + n) sCap e)) (w.drew.alloc (.cells cs e)) ∧
              cs.size = grownCap w (sLen + n) sCap e * size ∧ ∀ (i : Nat) (x : AV), (oldA ++ new)[i]? = some x → ∃ u, cs[i]? = some u ∧ VR env r x u := by
          intro base sLen sCap olds oldA ho hol hfo hg hbig
          refine ⟨_, app_grow (und_ok hC ht) (und_ok hC hu) hd hi hiz (hlen w) (by rw [hn']; exact hus w.drew rfl) (by rw [hn']; exact hfo) hg (by rw [hb']; exact hbig), ?_, cat_rel ho hrel⟩
          have hge := grownCap_ge w (sLen + n) sCap e
          have : (sLen + n) * size + (grownCap w (sLen + n) sCap e - (sLen + n)) * size = grownCap w (sLen + n) sCap e * size := by rw [← Nat.add_mul]; congr 1; omega
          rw [Array.size_append, Array.size_append, zeroCells_size, hcn]
          simp only [List.size_toArray]
          rw [hol, husl, hnewl, ← Nat.add_mul]
          exact this
        split at hv
        · -- nil
          have hx' := inv_nils hx
          subst hx'
          cases h0 : Nat.beq n 0 with
          | true =>
            rw [h0] at hv
            simp only [cond_true, Option.some.injEq, Prod.mk.injEq] at hv
            obtain ⟨rfl, rfl, rfl⟩ := hv
            have := Nat.eq_of_beq_eq_true h0
            subst this
            exact ⟨_, w, r, app_room (und_ok hC ht) (und_ok hC hu) hd hsz (hlen w) (hus w rfl) (Nat.le_refl _) rfl, Grow.refl m, .nils⟩
          | false =>
            rw [h0, cond_false] at hv
            cases hb2 : Nat.ble (n * (bs + 1)) 4294967296 with
            | false => rw [hb2] at hv; cases hv
            | true =>
              rw [hb2] at hv
              simp only [cond_true, Option.some.injEq, Prod.mk.injEq] at hv
              obtain ⟨rfl, rfl, rfl⟩ := hv
              have hn0 : n ≠ 0 := by intro h; subst h; cases h0
              obtain ⟨cs, g1, g2, g3⟩ := grown none 0 0 [] [] ⟨rfl, fun i x x' a => by simp at a⟩ (by simp) (by simp [Builtin.firstCells]) (by omega) (by rw [Nat.zero_add]; exact Nat.le_of_ble_eq_true hb2)
              rw [Nat.zero_add] at g1 g2
              have hge := grownCap_ge w n 0 e
              refine ⟨_, _, _, g1, grow_alloc m (fresh_one hf hN) (e := e) (cs := cs) rfl rfl rfl rfl (by simpa using g3), ?_⟩
              exact .sll nx 0 0 w.heap.size 0 cs.size n size n _ (.inr ⟨rfl, rfl, rfl, rfl, rfl⟩) hge (by rw [g2]; omega)
        · -- a slice
          rename_i p len cap
          obtain ⟨ad, cap', hx', hr⟩ := inv_sl hx
          subst hx'
          cases h0 : Nat.beq n 0 with
          | true =>
            rw [h0, cond_true] at hv
            have hn0 := Nat.eq_of_beq_eq_true h0
            subst hn0
            cases hh : cap.holds len with
            | false => rw [hh] at hv; cases hv
            | true =>
              rw [hh] at hv
              simp only [cond_true, Option.some.injEq, Prod.mk.injEq] at hv
              obtain ⟨rfl, rfl, rfl⟩ := hv
              have hle : len + 0 ≤ cap' := by
                rcases hr with ⟨rfl, _⟩ | ⟨_, _, _, _, _, rfl | ⟨es, lb, rfl, hl, _⟩⟩
                · cases hh
                · exact Nat.le_of_ble_eq_true hh
                · have : len ≤ lb := Nat.le_of_ble_eq_true hh; omega
              have hus0 : us = [] := List.eq_nil_of_length_eq_zero (by rw [husl, hnewl]; simp)
              refine ⟨_, w, r, app_room (und_ok hC ht) (und_ok hC hu) hd hsz (hlen w) (hus w rfl) hle ?_, Grow.refl m, hx⟩
              subst hus0
              rfl
          | false =>
            rw [h0, cond_false] at hv
            have hn0 : n ≠ 0 := by intro h; subst h; cases h0
            -- what lies ahead
            have olds : ∀ {oldA : List AV}, firstA H size len (.sl p len cap) = some oldA → ∃ ol : List Value, VRs env r oldA ol.toArray ∧ ol.length = len * size ∧ (Builtin.firstCells size len (.slice (some ad) len cap')).run P w.drew = .ok ol.toArray w.drew := by
              intro oldA ho
              obtain ⟨ol, a1, a2⟩ := firstA_ok (P := P) m ho hx (by intro b hb; cases hb)
              refine ⟨ol, a2, ?_, a1 w.drew rfl⟩
              have e1 : ol.length = oldA.length := by have := a2.1; simp at this; omega
              rw [e1]
              unfold firstA at ho
              simp only at ho
              have hbl : Nat.ble len len = true := Nat.ble_eq_true_of_le (Nat.le_refl _)
              rw [hbl, cond_true] at ho
              cases h0 : Nat.beq len 0 with
              | true => rw [h0] at ho; simp only [cond_true, Option.some.injEq] at ho; subst ho; rw [Nat.eq_of_beq_eq_true h0]; simp
              | false =>
                rw [h0, cond_false, Option.bind_eq_some_iff] at ho
                obtain ⟨_, _, h2⟩ := ho
                exact (cutL_eq h2).1
            -- a store where there is room
            have room : ∀ {c d q : Nat}, ad = ⟨c, p.o + d, none⟩ → r p.b p.v c d q → len + n ≤ cap' → ∀ {H1 : Tr AObj}, storeCellsA H ⟨p.b, p.o + len * size, p.v⟩ new = some H1 →
                ∃ w' r', (Builtin.append_ #[t, u] ty #[.slice (some ad) len cap', y']).run P w = .ok (.slice (some ad) (len + n) cap') w' ∧ Grow env r H.get nx w r' H1.get nx w' := by
              intro c d q had hrr hle H1 h1
              obtain ⟨w', g1, r', g2, _⟩ := store_ok (P := P) m nx (a := ⟨p.b, p.o + len * size, p.v⟩) h1 hfl hrr hrel
              refine ⟨w', r', app_room (und_ok hC ht) (und_ok hC hu) hd hsz (hlen w) (hus w rfl) hle ?_, g2⟩
              subst had
              simp only [add_at]
              have e1 : p.o + d + len * size = p.o + len * size + d := by omega
              rw [e1]
              exact g1
            split at hv
            · -- its capacity is known
              rename_i cc
              rcases hr with ⟨h, _⟩ | ⟨c, d, q, had, hrr, hcap⟩
              · cases h
              · have hcc : cc = cap' := by
                  rcases hcap with h | ⟨_, _, h, _⟩
                  · simpa using h
                  · cases h
                subst hcc
                cases hb2 : Nat.ble (len + n) cc with
                | true =>
                  rw [hb2, cond_true, Option.map_eq_some_iff] at hv
                  obtain ⟨H1, h1, h2⟩ := hv
                  simp only [Prod.mk.injEq] at h2
                  obtain ⟨rfl, rfl, rfl⟩ := h2
                  obtain ⟨w', r', g1, g2⟩ := room had hrr (Nat.le_of_ble_eq_true hb2) h1
                  refine ⟨_, w', r', g1, g2, ?_⟩
                  rw [had]
                  exact .slk _ _ _ c d q _ _ (g2.sub _ _ _ _ _ hrr)
                | false =>
                  rw [hb2, cond_false] at hv
                  split at hv
                  · cases hv
                  · rename_i oldA ho
                    cases hb3 : Nat.ble ((len + n) * (bs + 1)) 4294967296 with
                    | false => rw [hb3] at hv; cases hv
                    | true =>
                      rw [hb3] at hv
                      simp only [cond_true, Option.some.injEq, Prod.mk.injEq] at hv
                      obtain ⟨rfl, rfl, rfl⟩ := hv
                      obtain ⟨ol, a1, a2, a3⟩ := olds ho
                      have hlt : cc < len + n := by
                        have : ¬ (len + n ≤ cc) := fun h => by rw [Nat.ble_eq_true_of_le h] at hb2; cases hb2
                        omega
                      obtain ⟨cs, g1, g2, g3⟩ := grown (some ad) len cc ol oldA a1 a2 a3 hlt (Nat.le_of_ble_eq_true hb3)
                      have hge := grownCap_ge w (len + n) cc e
                      refine ⟨_, _, _, g1, grow_alloc m (fresh_one hf hN) (e := e) (cs := cs) rfl rfl rfl rfl g3, ?_⟩
                      exact .sll nx 0 0 w.heap.size 0 cs.size (len + n) size (len + n) _ (.inr ⟨rfl, rfl, rfl, rfl, rfl⟩) hge (by rw [g2]; omega)
            · -- at least so much
              rename_i es lb
              rcases hr with ⟨h, _⟩ | ⟨c, d, q, had, hrr, hcap⟩
              · cases h
              · cases hes : Nat.beq es size with
                | false => rw [hes] at hv; cases hv
                | true =>
                  have hes := Nat.eq_of_beq_eq_true hes
                  subst hes
                  simp only [Nat.beq_refl, cond_true] at hv
                  rcases hcap with h | ⟨es', lb', h, hlb, hq⟩
                  · cases h
                  · simp only [Cap.least.injEq] at h
                    obtain ⟨rfl, rfl⟩ := h
                    cases hb2 : Nat.ble (len + n) lb with
                    | true =>
                      rw [hb2, cond_true, Option.map_eq_some_iff] at hv
                      obtain ⟨H1, h1, h2⟩ := hv
                      simp only [Prod.mk.injEq] at h2
                      obtain ⟨rfl, rfl, rfl⟩ := h2
                      have := Nat.le_of_ble_eq_true hb2
                      obtain ⟨w', r', g1, g2⟩ := room had hrr (by omega) h1
                      refine ⟨_, w', r', g1, g2, ?_⟩
                      rw [had]
                      exact .sll _ _ _ c d q _ _ _ _ (g2.sub _ _ _ _ _ hrr) hlb hq
                    | false =>
                      rw [hb2, cond_false] at hv
                      split at hv
                      · cases hv
                      · rename_i oldA ho
                        cases hb3 : (Nat.ble ((len + n) * (bs + 1)) 4294967296 && (cellsAt H p).isSome) with
                        | false => rw [hb3] at hv; cases hv
                        | true =>
                          rw [hb3] at hv
                          simp only [cond_true, Option.some.injEq, Prod.mk.injEq] at hv
                          obtain ⟨rfl, rfl, rfl⟩ := hv
                          rw [Bool.and_eq_true] at hb3
                          obtain ⟨xs, hxs⟩ := Option.isSome_iff_exists.1 hb3.2
                          have hstand := cellsAt_eq hxs
                          obtain ⟨ol, a1, a2, a3⟩ := olds ho
                          by_cases hroom : len + n ≤ cap'
                          · -- there was room: the same block, as it stands from here on
                            obtain ⟨cs, e', hc, hcs, hx2⟩ := cells_ok m hxs hrr
                            have hfit : p.o + d + len * es + us.length ≤ cs.size := by
                              rw [husl, hnewl, hcs]
                              have : len * es + n * es = (len + n) * es := by rw [Nat.add_mul]
                              have h2 : (len + n) * es ≤ cap' * es := Nat.mul_le_mul_right _ hroom
                              omega
                            have hone : ∀ v ∈ us, v.oneCell' = true := by
                              intro v hm
                              obtain ⟨i, hi, rfl⟩ := List.getElem_of_mem hm
                              have hy2 : new[i]? = some new[i] := List.getElem?_eq_getElem (by omega)
                              exact oneCell_of (hrel.2 i _ _ hy2 (by simp [hi])) (flats_get hfl i _ hy2)
                            have hrun := run_storeCells_at P c (p.o + d + len * es) e' us 0 cs w hc hfit hone
                            rw [Nat.add_zero] at hrun
                            refine ⟨_, _, also r p.b (p.v + 1) c (d + p.o) q, app_room (und_ok hC ht) (und_ok hC hu) hd hsz (hlen w) (hus w rfl) hroom (by subst had; simp only [add_at]; exact hrun), ?_, ?_⟩
                            · rw [put_upd]
                              refine grow_set m (e := e') (.inr ⟨⟨_, hstand, by simp [AObj.ver]⟩, rfl⟩) (.inr ⟨⟨_, d, q, hstand, hrr⟩, size_setRow w c _⟩) ?_ (setRow_at w c cs _ e' hc) (by rw [stored_size _ _ _ hfit, hcs]) (fun k _ hk => setRow_other w c k _ hk) ?_ rfl rfl rfl
                              · intro c1 d1 n1 h1
                                have := m.ver hstand h1
                                simp only [AObj.ver] at this; omega
                              · intro i x hx1
                                rw [stored_get _ _ _ hfit]
                                have hol : oldA.length = len * es := by have := a1.1; simp at this; omega
                                by_cases hi : i < oldA.length
                                · rw [List.getElem?_append_left hi] at hx1
                                  rw [if_neg (by omega)]
                                  have hcut : ∃ zs, cellsAt H p = some zs ∧ cutL zs p.o (len * es) = some oldA := by
                                    unfold firstA at ho
                                    simp only at ho
                                    have hbl : Nat.ble len len = true := Nat.ble_eq_true_of_le (Nat.le_refl _)
                                    rw [hbl, cond_true] at ho
                                    cases h0 : Nat.beq len 0 with
                                    | true => rw [h0] at ho; simp only [cond_true, Option.some.injEq] at ho; subst ho; simp at hi
                                    | false =>
                                      rw [h0, cond_false, Option.bind_eq_some_iff] at ho
                                      exact ho
                                  obtain ⟨zs, hz1, hz2⟩ := hcut
                                  rw [hxs] at hz1
                                  obtain rfl := Option.some.inj hz1
                                  rw [(cutL_eq hz2).2 i (by omega)] at hx1
                                  obtain ⟨u2, b1, b2⟩ := hx2 _ _ hx1
                                  refine ⟨u2, ?_, b2.mono (also_sub _ _ _ _ _ _)⟩
                                  rw [← b1]; congr 1; omega
                                · rw [List.getElem?_append_right (by omega)] at hx1
                                  have hlt : i - oldA.length < new.length := (List.getElem?_eq_some_iff.1 hx1).1
                                  rw [if_pos (by omega), show i + (d + p.o) - (p.o + d + len * es) = i - oldA.length by omega]
                                  obtain ⟨u2, b1, b2⟩ := hrel.get hx1
                                  exact ⟨u2, by simpa using b1, b2.mono (also_sub _ _ _ _ _ _)⟩
                            · subst had
                              have e1 : p.o + d = 0 + (d + p.o) := by omega
                              rw [e1]
                              refine .sll p.b 0 (p.v + 1) c (d + p.o) q (len + n) es (len + n) cap' (.inr ⟨rfl, rfl, rfl, rfl, rfl⟩) hroom (by omega)
                          · -- there was none: a new block
                            obtain ⟨cs, g1, g2, g3⟩ := grown (some ad) len cap' ol oldA a1 a2 a3 (by omega) (Nat.le_of_ble_eq_true hb3.1)
                            have hge := grownCap_ge w (len + n) cap' e
                            refine ⟨_, _, also r p.b (p.v + 1) w.heap.size 0 cs.size, g1, ?_, ?_⟩
                            · rw [put_upd]
                              refine grow_set m (cs := cs) (e := e) (.inr ⟨⟨_, hstand, by simp [AObj.ver]⟩, rfl⟩) (.inl ⟨rfl, by simp⟩) ?_ ?_ rfl ?_ ?_ rfl rfl rfl
                              · intro c1 d1 n1 h1
                                have := m.ver hstand h1
                                simp only [AObj.ver] at this; omega
                              · exact heap_alloc_new w.drew _
                              · intro k hk _
                                exact Below.heap_alloc w.drew _ k hk
                              · intro i x hx1
                                obtain ⟨u2, b1, b2⟩ := g3 i x hx1
                                exact ⟨u2, b1, b2.mono (also_sub _ _ _ _ _ _)⟩
                            · exact .sll p.b 0 (p.v + 1) w.heap.size 0 cs.size (len + n) es (len + n) _ (.inr ⟨rfl, rfl, rfl, rfl, rfl⟩) hge (by rw [g2]; omega)
            · cases hv
        · cases hv

end
end Go.Proofs.Ytdndjcofafkafaa.Sim
