/- The contract of the Go function of the statement IrPhis: a run by the kernel over symbols for its numbers, which the soundness of the run carries to every world. No further condition. -/
import Derived.Test.YtnehknjkfbjaaaaSimK
import Derived.Test.YtnehknjkfbjaaaaProg
import Derived.KernelRfl
namespace Go.Proofs.Ytnehknjkfbjaaaa.PIrPhis
open Go Go.RowKit Go.Proofs.Ytnehknjkfbjaaaa.Sim
theorem nm : (Try.prog.funcs.toList.all fun fn => fn.body.isNone || !(fn.name == "runtime.NumGoroutine")) = true := by kernel_rfl
theorem mo : Try.prog.follows .mixedOrders = true := by kernel_rfl
/- Each number of ways from two to five by itself, and each of them that is cut. -/
def E (a0 a1 n : Int) : Nat → Int := fun i => match i with | 0 => a0 | 1 => a1 | 2 => a1.tmod n | 3 => a1.tmod n + n | _ => 0
def F (m n k : Int) : List Fact := [⟨.and, .i64, .sym 0, .lit 3, .int .i64 m⟩, ⟨.rem, .i64, .sym 1, .lit n, .sym .i64 2⟩, ⟨.add, .i64, .sym 2, .lit n, .sym .i64 3⟩, ⟨.rem, .i64, .sym 3, .lit n, .int .i64 k⟩]
noncomputable def one (m k : Nat) : Bool := askB true (callA Try.prog (ctxOf Try.prog (F m (m + 2) k)) 100 4 [.sym .i64 0, .sym .i64 1] .nil 0)
set_option maxRecDepth 100000 in
theorem ran0 : (List.range 2).all (one 0) = true := by kernel_rfl
set_option maxRecDepth 100000 in
theorem ran1 : (List.range 3).all (one 1) = true := by kernel_rfl
set_option maxRecDepth 100000 in
theorem ran2 : (List.range 4).all (one 2) = true := by kernel_rfl
set_option maxRecDepth 100000 in
theorem ran3 : (List.range 5).all (one 3) = true := by kernel_rfl
theorem ran : ∀ m : Nat, m ≤ 3 → (List.range (m + 2)).all (one m) = true := by
  intro m hm
  match m, hm with
  | 0, _ => exact ran0
  | 1, _ => exact ran1
  | 2, _ => exact ran2
  | 3, _ => exact ran3
  | _ + 4, h => omega
theorem F_ok (a0 a1 : Int) (m k : Nat) (hm : m = lowBits a0 3) (hk : (k : Int) = (a1.tmod (m + 2) + (m + 2)).tmod (m + 2)) : ∀ f ∈ F m (m + 2) k, FactOk Try.prog (E a0 a1 (m + 2)) f := by
  have hle := lowBits_le a0 3
  have h1 : a1.tmod (m + 2) < m + 2 := Int.tmod_lt_of_pos _ (by omega)
  have h2 : -((m : Int) + 2) < a1.tmod (m + 2) := Int.lt_tmod_of_pos _ (by omega)
  have e2 : E a0 a1 (m + 2) 2 = a1.tmod (m + 2) := rfl
  refine cons_ok (fo_and_lit (n := 3) (by decide) rfl (by rw [hm]; rfl)) (cons_ok (fo_rem (by simp only [numV]; omega) rfl) (cons_ok (fo_add rfl ?_ ?_) (cons_ok (fo_rem_lit (by simp only [numV]; omega) hk) none_ok))) <;> simp only [numV, e2] <;> omega
theorem distafflaw07_IrPhis.calls (a0 : Int) (a1 : Int) (r : Bool) (w : World) (h : r = true) :
    Calls Try.prog 4 #[.int .i64 a0, .int .i64 a1] w fun e w' => e = .returned (.bool r) ∧ Below w.heap.size w w' := by
  subst h
  have hle := lowBits_le a0 3
  obtain ⟨m, hm⟩ : ∃ m, m = lowBits a0 3 := ⟨_, rfl⟩
  have h1 : a1.tmod (m + 2) < m + 2 := Int.tmod_lt_of_pos _ (by omega)
  have h2 : -((m : Int) + 2) < a1.tmod (m + 2) := Int.lt_tmod_of_pos _ (by omega)
  have h3 : 0 ≤ (a1.tmod (m + 2) + (m + 2)).tmod ((m : Int) + 2) := Int.tmod_nonneg _ (by omega)
  have h4 : (a1.tmod (m + 2) + (m + 2)).tmod ((m : Int) + 2) < m + 2 := Int.tmod_lt_of_pos _ (by omega)
  obtain ⟨k, hk⟩ := Int.eq_ofNat_of_zero_le h3
  have vr : VRs (E a0 a1 (m + 2)) (fun _ _ _ _ _ => False) [.sym .i64 0, .sym .i64 1] #[.int .i64 a0, .int .i64 a1] := vrs_cons (.sym .i64 0) (vrs1 (.sym .i64 1))
  exact calls_bool (ctx_ok nm (F_ok a0 a1 m k hm hk.symm)) mo (List.all_eq_true.1 (ran m (by omega)) k (List.mem_range.2 (by omega))) vr w

end Go.Proofs.Ytnehknjkfbjaaaa.PIrPhis
