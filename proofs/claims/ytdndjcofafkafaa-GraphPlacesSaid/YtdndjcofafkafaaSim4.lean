/- Operation by operation: what the interpreter says is what the model does. Nothing is claimed of the program here; no condition. -/
import Derived.Test.YtdndjcofafkafaaSim3
namespace Go.Proofs.Ytdndjcofafkafaa.Sim
set_option linter.unusedVariables false
set_option linter.unusedSimpArgs false
open Go Go.RowKit

section
variable {P : Program} {C : Ctx} {env : Nat → Int} {r : Rel}

theorem inv_int {k : IntKind} {n : Int} {u : Value} (h : VR env r (.int k n) u) : u = .int k n := by cases h; rfl
theorem inv_sym {k : IntKind} {i : Nat} {u : Value} (h : VR env r (.sym k i) u) : u = .int k (env i) := by cases h; rfl
theorem inv_bool {b : Bool} {u : Value} (h : VR env r (.bool b) u) : u = .bool b := by cases h; rfl
theorem inv_str {b : ByteArray} {u : Value} (h : VR env r (.str b) u) : u = .string b := by cases h; rfl
theorem inv_nilp {u : Value} (h : VR env r .nilp u) : u = .pointer none := by cases h; rfl
theorem inv_nils {u : Value} (h : VR env r .nils u) : u = .slice none 0 0 := by cases h; rfl
theorem inv_nilm {u : Value} (h : VR env r .nilm u) : u = .map none := by cases h; rfl
theorem inv_ptr {a : Ref} {u : Value} (h : VR env r (.ptr a) u) : ∃ c d n, u = .pointer (some ⟨c, a.o + d, none⟩) ∧ r a.b a.v c d n := by
  cases h with
  | ptr b o v c d n h => exact ⟨c, d, n, rfl, h⟩
theorem inv_map {b : Nat} {u : Value} (h : VR env r (.map b) u) : ∃ c, u = .map (some c) ∧ r b 0 c 0 0 := by
  cases h with
  | map b c h => exact ⟨c, rfl, h⟩
theorem inv_agg {cs : List AV} {u : Value} (h : VR env r (.agg cs) u) : ∃ us, u = .agg us ∧ VRs env r cs us := by
  cases h with
  | agg cs cs' hc hh => exact ⟨cs', rfl, hc, hh⟩
theorem inv_tup {cs : List AV} {u : Value} (h : VR env r (.tup cs) u) : ∃ us, u = .tuple us ∧ VRs env r cs us := by
  cases h with
  | tup cs cs' hc hh => exact ⟨cs', rfl, hc, hh⟩
theorem inv_fn {f : FuncId} {fs cs : List AV} {u : Value} (h : VR env r (.fn f fs cs) u) : ∃ fs' cs', u = .func (.func f) fs' cs' ∧ VRs env r fs fs' ∧ VRs env r cs cs' := by
  cases h with
  | fn f fs cs fs' cs' hf hc h1 h2 => exact ⟨fs', cs', rfl, ⟨hf, h1⟩, hc, h2⟩
/-- A slice: its length is told; its address, unless it is told that nothing is known of it. -/
theorem inv_sl {a : Ref} {len : Nat} {cap : Cap} {u : Value} (h : VR env r (.sl a len cap) u) :
    ∃ p cap', u = .slice (some p) len cap' ∧ ((cap = .dead ∧ len = 0) ∨ ∃ c d n, p = ⟨c, a.o + d, none⟩ ∧ r a.b a.v c d n ∧ (cap = .known cap' ∨ ∃ es lb, cap = .least es lb ∧ lb ≤ cap' ∧ a.o + d + cap' * es ≤ n)) := by
  cases h with
  | slk b o v c d n len cap h => exact ⟨_, _, rfl, .inr ⟨c, d, n, rfl, h, .inl rfl⟩⟩
  | sll b o v c d n len es lb cap h hl hn => exact ⟨_, _, rfl, .inr ⟨c, d, n, rfl, h, .inr ⟨es, lb, rfl, hl, hn⟩⟩⟩
  | sld a p cap => exact ⟨_, _, rfl, .inl ⟨rfl, rfl⟩⟩

/-- What an operation comes to. -/
def OpS (P : Program) (env : Nat → Int) (a : Act) (r : Rel) (H : Mem) (nx : Nat) (w : World) (o : Oper) (v : AV) (H' : Mem) (nx' : Nat) : Prop :=
  ∃ u w' r', ((execOp a.eval o).run P w = .ok (.value u) w' ∨ ((execOp a.eval o).run P w = .ok .skip w' ∧ u = undef)) ∧ Grow env r H nx w r' H' nx' w' ∧ VR env r' v u

theorem OpS.same {a : Act} {H : Mem} {nx : Nat} {w : World} {o : Oper} {v : AV} (m : MR env r H w) {u : Value} (h : (execOp a.eval o).run P w = .ok (.value u) w) (hv : VR env r v u) : OpS P env a r H nx w o v H nx :=
  ⟨u, w, r, .inl h, Grow.refl m, hv⟩

theorem pureRun_run {s : Sem Value} {v : Value} (h : pureRun P s = some v) (w : World) : s.run P w = .ok v w := by
  induction s with
  | pure a => simp only [pureRun, Option.some.injEq] at h; subst h; rfl
  | program k ih => exact ih P h
  | _ => simp [pureRun] at h

theorem ksame {j k : IntKind} (h : IntKind.same j k = true) : j = k := by cases j <;> cases k <;> first | rfl | cases h

theorem nsame {x y : Num} (h : Num.same x y = true) : x = y := by
  cases x <;> cases y <;> simp only [Num.same] at h
  · simp at h; subst h; rfl
  · cases h
  · cases h
  · rw [Nat.eq_of_beq_eq_true h]

theorem findFact_ok {op : BinOp} {k : IntKind} {x y : Num} {v : AV} : ∀ {l : List Fact}, findFact op k x y l = some v → ∃ f ∈ l, f.op = op ∧ f.k = k ∧ f.x = x ∧ f.y = y ∧ f.r = v := by
  intro l
  induction l with
  | nil => intro h; cases h
  | cons f l ih =>
    intro h
    simp only [findFact] at h
    cases hb : (BinOp.same f.op op && IntKind.same f.k k && Num.same f.x x && Num.same f.y y) with
    | true =>
      rw [hb] at h
      simp only [cond_true, Option.some.injEq] at h
      simp only [Bool.and_eq_true] at hb
      exact ⟨f, by simp, by simpa [BinOp.same] using hb.1.1.1, ksame hb.1.1.2, nsame hb.1.2, nsame hb.2, h⟩
    | false =>
      rw [hb] at h
      obtain ⟨g, hg, h'⟩ := ih h
      exact ⟨g, by simp [hg], h'⟩

theorem fact_run (hC : COk P C env) {op : BinOp} {k : IntKind} {x y : Num} {v : AV} (h : findFact op k x y C.facts = some v) (t : TypeId) (w : World) :
    ∃ u, (binOp op t (.int k (numV env x)) (.int k (numV env y))).run P w = .ok u w ∧ ∀ r, VR env r v u := by
  obtain ⟨f, hf, rfl, rfl, rfl, rfl, rfl⟩ := findFact_ok h
  exact hC.facts f hf t w

theorem fact_lss (hC : COk P C env) (w : World) {k : IntKind} {x y : Num} {q : Bool} (h : findFact .lss k x y C.facts = some (.bool q)) : decide (numV env x < numV env y) = q := by
  obtain ⟨u, h1, h2⟩ := fact_run hC h 0 w
  have h3 := inv_bool (h2 (fun _ _ _ _ _ => False))
  subst h3
  simpa [binOp, Op.intCmp] using h1

theorem numOf_rel {x : AV} {k : IntKind} {m : Num} (h : numOf x = some (k, m)) {u : Value} (hx : VR env r x u) : u = .int k (numV env m) := by
  cases x <;> simp only [numOf, Option.some.injEq, Prod.mk.injEq, reduceCtorEq] at h
  · obtain ⟨rfl, rfl⟩ := h; exact inv_int hx
  · obtain ⟨rfl, rfl⟩ := h; exact inv_sym hx

theorem eqGuard_plain (op : BinOp) (t : TypeId) (x y : Operand) (a b : Value) (w : World) (h1 : ∀ cs, a ≠ .agg cs) (h2 : a ≠ .nilIface) : (eqGuard op t x y a b).run P w = .ok () w := by
  unfold eqGuard
  cases a <;> first | exact absurd rfl h2 | exact absurd rfl (h1 _) | (cases op <;> rfl)

theorem eqIn_sl (d : Nat) {t e : TypeId} {p q : Option Addr} {l c l' c' : Nat} {b : Bool} (hu : P.underlying t = some (.slice e)) (h : (p = none ∧ b = q.isNone) ∨ (q = none ∧ b = p.isNone)) (w : World) :
    (Op.equalIn (d + 1) t (.slice p l c) (.slice q l' c')).run P w = .ok b w := by
  rcases h with ⟨rfl, rfl⟩ | ⟨rfl, rfl⟩
  · simp [Op.equalIn, run_underlying hu]
  · cases p <;> simp [Op.equalIn, run_underlying hu]

theorem eqIn_pt (d : Nat) {t e : TypeId} {p q : Option Addr} {b : Bool} (hu : P.underlying t = some (.pointer e)) (h : (p = none ∧ b = q.isNone) ∨ (q = none ∧ b = p.isNone)) (w : World) :
    (Op.equalIn (d + 1) t (.pointer p) (.pointer q)).run P w = .ok b w := by
  rcases h with ⟨rfl, rfl⟩ | ⟨rfl, rfl⟩
  · simp [Op.equalIn, run_underlying hu]
  · cases p <;> simp [Op.equalIn, run_underlying hu]

theorem eqIn_mp (d : Nat) {t k e : TypeId} {p q : Option Nat} {b : Bool} (hu : P.underlying t = some (.map k e)) (h : (p = none ∧ b = q.isNone) ∨ (q = none ∧ b = p.isNone)) (w : World) :
    (Op.equalIn (d + 1) t (.map p) (.map q)).run P w = .ok b w := by
  rcases h with ⟨rfl, rfl⟩ | ⟨rfl, rfl⟩
  · simp [Op.equalIn, run_underlying hu]
  · cases p <;> simp [Op.equalIn, run_underlying hu]

theorem eql_of {t : TypeId} {x y : Value} {b : Bool} {w : World} (h1 : binOp .eql t x y = (Op.equal t x y >>= fun b => pure (.bool b))) (h : (Op.equalIn (9999 + 1) t x y).run P w = .ok b w) : (binOp .eql t x y).run P w = .ok (.bool b) w := by
  rw [h1, Sem.run_bind]
  show ((Op.equalIn (9999 + 1) t x y).run P w).andThen _ = _
  rw [h]; rfl

theorem neq_of {t : TypeId} {x y : Value} {b : Bool} {w : World} (h1 : binOp .neq t x y = (Op.equal t x y >>= fun b => pure (.bool (!b)))) (h : (Op.equalIn (9999 + 1) t x y).run P w = .ok b w) : (binOp .neq t x y).run P w = .ok (.bool (!b)) w := by
  rw [h1, Sem.run_bind]
  show ((Op.equalIn (9999 + 1) t x y).run P w).andThen _ = _
  rw [h]; rfl

theorem binA_ok (hC : COk P C env) {op : BinOp} {t : TypeId} {x y v : AV} (h : binA P C op t x y = some v) {a b : Value} (hx : VR env r x a) (hy : VR env r y b) (w : World) :
    (∃ u, (binOp op t a b).run P w = .ok u w ∧ VR env r v u) ∧ (∀ cs, a ≠ .agg cs) ∧ a ≠ .nilIface := by
  unfold binA at h
  split at h
  · -- two numbers
    have ha := inv_int hx; have hb := inv_int hy
    subst ha; subst hb
    simp only [unV, Option.bind_eq_some_iff] at h
    obtain ⟨u, h1, h2⟩ := h
    exact ⟨⟨u, pureRun_run h1 w, ofW_rel h2 r⟩, by simp, by simp⟩
  · rename_i k i _
    split at h
    · rename_i j m k' n hj hk
      cases hs : IntKind.same j k' with
      | false => rw [hs] at h; cases h
      | true =>
        rw [hs] at h
        obtain rfl := ksame hs
        have ha := numOf_rel hj hx; have hb := numOf_rel hk hy
        subst ha; subst hb
        obtain ⟨u, a, b⟩ := fact_run hC h t w
        exact ⟨⟨u, a, b r⟩, by simp, by simp⟩
    · cases h
  · rename_i k i _
    split at h
    · rename_i j m k' n hj hk
      cases hs : IntKind.same j k' with
      | false => rw [hs] at h; cases h
      | true =>
        rw [hs] at h
        obtain rfl := ksame hs
        have ha := numOf_rel hj hx; have hb := numOf_rel hk hy
        subst ha; subst hb
        obtain ⟨u, a, b⟩ := fact_run hC h t w
        exact ⟨⟨u, a, b r⟩, by simp, by simp⟩
    · cases h
  · -- bools
    have ha := inv_bool hx; have hb := inv_bool hy
    subst ha; subst hb
    refine ⟨?_, by simp, by simp⟩
    split at h <;> first | cases h | skip
    · rename_i hu; exact ⟨_, run_eql_bool w t _ _ (und_ok hC hu), .bool _⟩
    · rename_i hu; exact ⟨_, run_neq_bool w t _ _ (und_ok hC hu), .bool _⟩
  · -- strings
    have ha := inv_str hx; have hb := inv_str hy
    subst ha; subst hb
    simp only [unV, Option.bind_eq_some_iff] at h
    obtain ⟨u, h1, h2⟩ := h
    refine ⟨⟨u, ?_, ofW_rel h2 r⟩, by simp, by simp⟩
    have := pureRun_run h1 w
    cases op <;> first | exact this | simp [Op.stringOp, pureRun, stuck] at h1
  · have ha := inv_nils hx
    obtain ⟨p, cap, hb, _⟩ := inv_sl hy
    subst ha; subst hb
    refine ⟨?_, by simp, by simp⟩
    split at h <;> first | cases h | skip
    · rename_i hu; exact ⟨_, eql_of rfl (eqIn_sl 9999 (und_ok hC hu) (.inl ⟨rfl, rfl⟩) w), .bool _⟩
    · rename_i hu; exact ⟨_, neq_of rfl (eqIn_sl 9999 (und_ok hC hu) (.inl ⟨rfl, rfl⟩) w), .bool _⟩
  · have hb := inv_nils hy
    obtain ⟨p, cap, ha, _⟩ := inv_sl hx
    subst ha; subst hb
    refine ⟨?_, by simp, by simp⟩
    split at h <;> first | cases h | skip
    · rename_i hu; exact ⟨_, eql_of rfl (eqIn_sl 9999 (und_ok hC hu) (.inr ⟨rfl, rfl⟩) w), .bool _⟩
    · rename_i hu; exact ⟨_, neq_of rfl (eqIn_sl 9999 (und_ok hC hu) (.inr ⟨rfl, rfl⟩) w), .bool _⟩
  · have ha := inv_nils hx; have hb := inv_nils hy
    subst ha; subst hb
    refine ⟨?_, by simp, by simp⟩
    split at h <;> first | cases h | skip
    · rename_i hu; exact ⟨_, eql_of rfl (eqIn_sl 9999 (und_ok hC hu) (.inl ⟨rfl, rfl⟩) w), .bool _⟩
    · rename_i hu; exact ⟨_, neq_of rfl (eqIn_sl 9999 (und_ok hC hu) (.inl ⟨rfl, rfl⟩) w), .bool _⟩
  · have ha := inv_nilp hx
    obtain ⟨c, d, n, hb, _⟩ := inv_ptr hy
    subst ha; subst hb
    refine ⟨?_, by simp, by simp⟩
    split at h <;> first | cases h | skip
    · rename_i hu; exact ⟨_, eql_of rfl (eqIn_pt 9999 (und_ok hC hu) (.inl ⟨rfl, rfl⟩) w), .bool _⟩
    · rename_i hu; exact ⟨_, neq_of rfl (eqIn_pt 9999 (und_ok hC hu) (.inl ⟨rfl, rfl⟩) w), .bool _⟩
  · have hb := inv_nilp hy
    obtain ⟨c, d, n, ha, _⟩ := inv_ptr hx
    subst ha; subst hb
    refine ⟨?_, by simp, by simp⟩
    split at h <;> first | cases h | skip
    · rename_i hu; exact ⟨_, eql_of rfl (eqIn_pt 9999 (und_ok hC hu) (.inr ⟨rfl, rfl⟩) w), .bool _⟩
    · rename_i hu; exact ⟨_, neq_of rfl (eqIn_pt 9999 (und_ok hC hu) (.inr ⟨rfl, rfl⟩) w), .bool _⟩
  · have ha := inv_nilp hx; have hb := inv_nilp hy
    subst ha; subst hb
    refine ⟨?_, by simp, by simp⟩
    split at h <;> first | cases h | skip
    · rename_i hu; exact ⟨_, eql_of rfl (eqIn_pt 9999 (und_ok hC hu) (.inl ⟨rfl, rfl⟩) w), .bool _⟩
    · rename_i hu; exact ⟨_, neq_of rfl (eqIn_pt 9999 (und_ok hC hu) (.inl ⟨rfl, rfl⟩) w), .bool _⟩
  · have ha := inv_nilm hx
    obtain ⟨c, hb, _⟩ := inv_map hy
    subst ha; subst hb
    refine ⟨?_, by simp, by simp⟩
    split at h <;> first | cases h | skip
    · rename_i hu; exact ⟨_, eql_of rfl (eqIn_mp 9999 (und_ok hC hu) (.inl ⟨rfl, rfl⟩) w), .bool _⟩
    · rename_i hu; exact ⟨_, neq_of rfl (eqIn_mp 9999 (und_ok hC hu) (.inl ⟨rfl, rfl⟩) w), .bool _⟩
  · have hb := inv_nilm hy
    obtain ⟨c, ha, _⟩ := inv_map hx
    subst ha; subst hb
    refine ⟨?_, by simp, by simp⟩
    split at h <;> first | cases h | skip
    · rename_i hu; exact ⟨_, eql_of rfl (eqIn_mp 9999 (und_ok hC hu) (.inr ⟨rfl, rfl⟩) w), .bool _⟩
    · rename_i hu; exact ⟨_, neq_of rfl (eqIn_mp 9999 (und_ok hC hu) (.inr ⟨rfl, rfl⟩) w), .bool _⟩
  · have ha := inv_nilm hx; have hb := inv_nilm hy
    subst ha; subst hb
    refine ⟨?_, by simp, by simp⟩
    split at h <;> first | cases h | skip
    · rename_i hu; exact ⟨_, eql_of rfl (eqIn_mp 9999 (und_ok hC hu) (.inl ⟨rfl, rfl⟩) w), .bool _⟩
    · rename_i hu; exact ⟨_, neq_of rfl (eqIn_mp 9999 (und_ok hC hu) (.inl ⟨rfl, rfl⟩) w), .bool _⟩
  · cases h

end
end Go.Proofs.Ytdndjcofafkafaa.Sim
