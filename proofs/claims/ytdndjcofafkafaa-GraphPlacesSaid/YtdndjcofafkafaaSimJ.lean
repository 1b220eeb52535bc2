/- Facts about symbols: comparisons of two numbers whose order is known, and results that have names of their own. Nothing is claimed of the program here; no condition. -/
import Derived.Test.YtdndjcofafkafaaSimI
namespace Go.Proofs.Ytdndjcofafkafaa.Sim
set_option linter.unusedVariables false
set_option linter.unusedSimpArgs false
open Go Go.RowKit

def isLt : Ordering → Bool | .lt => true | _ => false
def isEq : Ordering → Bool | .eq => true | _ => false
def isGt : Ordering → Bool | .gt => true | _ => false

/-- All comparisons of two numbers of which the order is known. -/
def cmpFacts (k : IntKind) (x y : Num) (c : Ordering) : List Fact :=
  [⟨.eql, k, x, y, .bool (isEq c)⟩, ⟨.neq, k, x, y, .bool (!(isEq c))⟩, ⟨.lss, k, x, y, .bool (isLt c)⟩, ⟨.leq, k, x, y, .bool (!(isGt c))⟩, ⟨.gtr, k, x, y, .bool (isGt c)⟩, ⟨.geq, k, x, y, .bool (!(isLt c))⟩,
   ⟨.eql, k, y, x, .bool (isEq c)⟩, ⟨.neq, k, y, x, .bool (!(isEq c))⟩, ⟨.lss, k, y, x, .bool (isGt c)⟩, ⟨.leq, k, y, x, .bool (!(isLt c))⟩, ⟨.gtr, k, y, x, .bool (isLt c)⟩, ⟨.geq, k, y, x, .bool (!(isGt c))⟩]

/-- Two numbers that are not the same. -/
def neFacts (k : IntKind) (x y : Num) : List Fact :=
  [⟨.eql, k, x, y, .bool false⟩, ⟨.neq, k, x, y, .bool true⟩, ⟨.eql, k, y, x, .bool false⟩, ⟨.neq, k, y, x, .bool true⟩]

section
variable {P : Program} {env : Nat → Int} {k : IntKind} {x y : Num}

theorem fo_bool {op : BinOp} {q : Bool} (h : ∀ t w, (binOp op t (.int k (numV env x)) (.int k (numV env y))).run P w = .ok (.bool q) w) : FactOk P env ⟨op, k, x, y, .bool q⟩ :=
  fun t w => ⟨_, h t w, fun _ => .bool _⟩
theorem fo_sym {op : BinOp} {j : Nat} (h : ∀ t w, (binOp op t (.int k (numV env x)) (.int k (numV env y))).run P w = .ok (.int k (env j)) w) : FactOk P env ⟨op, k, x, y, .sym k j⟩ :=
  fun t w => ⟨_, h t w, fun _ => .sym _ _⟩
theorem fo_lit {op : BinOp} {n : Int} (h : ∀ t w, (binOp op t (.int k (numV env x)) (.int k (numV env y))).run P w = .ok (.int k n) w) : FactOk P env ⟨op, k, x, y, .int k n⟩ :=
  fun t w => ⟨_, h t w, fun _ => .int _ _⟩

theorem fo_eql {q : Bool} (h : decide (numV env x = numV env y) = q) : FactOk P env ⟨.eql, k, x, y, .bool q⟩ := fo_bool fun t w => by subst h; simp [binOp, Op.intCmp]; rfl
theorem fo_neq {q : Bool} (h : (!decide (numV env x = numV env y)) = q) : FactOk P env ⟨.neq, k, x, y, .bool q⟩ := fo_bool fun t w => by subst h; simp [binOp, Op.intCmp]; rfl
theorem fo_lss {q : Bool} (h : decide (numV env x < numV env y) = q) : FactOk P env ⟨.lss, k, x, y, .bool q⟩ := fo_bool fun t w => by subst h; simp [binOp, Op.intCmp]
theorem fo_leq {q : Bool} (h : decide (numV env x ≤ numV env y) = q) : FactOk P env ⟨.leq, k, x, y, .bool q⟩ := fo_bool fun t w => by subst h; simp [binOp, Op.intCmp]
theorem fo_gtr {q : Bool} (h : decide (numV env y < numV env x) = q) : FactOk P env ⟨.gtr, k, x, y, .bool q⟩ := fo_bool fun t w => by subst h; simp [binOp, Op.intCmp]
theorem fo_geq {q : Bool} (h : decide (numV env y ≤ numV env x) = q) : FactOk P env ⟨.geq, k, x, y, .bool q⟩ := fo_bool fun t w => by subst h; simp [binOp, Op.intCmp]

theorem cmp_ok {c : Ordering} (h : (c = .lt ∧ numV env x < numV env y) ∨ (c = .eq ∧ numV env x = numV env y) ∨ (c = .gt ∧ numV env y < numV env x)) : ∀ f ∈ cmpFacts k x y c, FactOk P env f := by
  intro f hf
  simp only [cmpFacts, List.mem_cons, List.not_mem_nil, or_false] at hf
  rcases h with ⟨rfl, h⟩ | ⟨rfl, h⟩ | ⟨rfl, h⟩ <;> rcases hf with rfl | rfl | rfl | rfl | rfl | rfl | rfl | rfl | rfl | rfl | rfl | rfl <;>
    first
    | exact fo_eql (by simp [isLt, isEq, isGt]; omega)
    | exact fo_neq (by simp [isLt, isEq, isGt]; omega)
    | exact fo_lss (by simp [isLt, isEq, isGt]; omega)
    | exact fo_leq (by simp [isLt, isEq, isGt]; omega)
    | exact fo_gtr (by simp [isLt, isEq, isGt]; omega)
    | exact fo_geq (by simp [isLt, isEq, isGt]; omega)

theorem ne_ok (h : numV env x ≠ numV env y) : ∀ f ∈ neFacts k x y, FactOk P env f := by
  intro f hf
  simp only [neFacts, List.mem_cons, List.not_mem_nil, or_false] at hf
  rcases hf with rfl | rfl | rfl | rfl <;>
    first
    | exact fo_eql (by simp; omega)
    | exact fo_neq (by simp; omega)

theorem app_ok {l m : List Fact} (h1 : ∀ f ∈ l, FactOk P env f) (h2 : ∀ f ∈ m, FactOk P env f) : ∀ f ∈ l ++ m, FactOk P env f := by
  intro f hf
  rcases List.mem_append.1 hf with h | h
  · exact h1 f h
  · exact h2 f h

theorem cons_ok {f : Fact} {m : List Fact} (h1 : FactOk P env f) (h2 : ∀ f ∈ m, FactOk P env f) : ∀ g ∈ f :: m, FactOk P env g := by
  intro g hg
  rcases List.mem_cons.1 hg with h | h
  · subst h; exact h1
  · exact h2 g h

theorem none_ok : ∀ f ∈ ([] : List Fact), FactOk P env f := fun f hf => absurd hf (by simp)

end
end Go.Proofs.Ytdndjcofafkafaa.Sim
