/- The statement ArithOnes over numbers and lists: the printed law answers true at every input that its kinds allow. No further condition. -/
import Derived.Test.YtoojmpcpbnlkaaaMArithOnesx2
namespace Go.Proofs.Ytoojmpcpbnlkaaa.Pure
open Go.RowKit Go.Proofs.Ytoojmpcpbnlkaaa.PArithOnes Go.Proofs.YtoojmpcpbnlkaaaW.PrintWords Go.Proofs.YtoojmpcpbnlkaaaW.PrintLast Go.Proofs.YtoojmpcpbnlkaaaW.PrintMore

namespace ArithOnes

theorem awake (k : Nat) : distafflaw01_awake.f (k + 1) = some true := by
  kernel_rfl

theorem xor_ones (a : Int) : Go.bits .xor .i64 (-1) a = wrap64 (-1 - a) := by
  show IntKind.i64.wrap ((BitVec.ofInt 64 (-1) ^^^ BitVec.ofInt 64 a).toNat : Int) = _
  rw [show BitVec.ofInt 64 (-1) = BitVec.allOnes 64 by decide, BitVec.allOnes_xor, BitVec.toNat_not, BitVec.toNat_ofInt, IntKind.wrap_i64]
  unfold wrap64
  have h := Int.emod_nonneg a (show ((2 ^ 64 : Nat) : Int) ≠ 0 by decide)
  have h2 := Int.emod_lt_of_pos a (show (0 : Int) < ((2 ^ 64 : Nat) : Int) by decide)
  omega

theorem neg_some (a : Int) : distaffref01_Neg.f a = some (wrap64 (-a)) := by
  unfold distaffref01_Neg.f distaffref01_Not.f distaffref01_Add.f
  simp only [Option.bind_some]
  refine congrArg some ?_
  unfold wrap64; omega

theorem fin (op a n : Int) (ok : Bool) (h1 : arith_One.f op a = some (n, ok)) (h2 : distaffref01_One.f op a = some (n, ok)) (h3 : arith_Unary.f op = some ok) (h4 : ok = true → arith_Binary.f op = some false) :
    distafflaw01_ArithOnes.f 1 op a = some true := by
  unfold distafflaw01_ArithOnes.f
  rw [awake 0, h1, h2, h3]
  cases ok with
  | true => rw [h4 rfl]; simp
  | false => simp

end ArithOnes

open ArithOnes in
theorem ArithOnes : distafflaw01_ArithOnes.Pure := by
  intro op a _ _
  refine ⟨1, ?_⟩
  by_cases h1 : op = 15
  · subst h1
    refine fin 15 a (wrap64 (-a)) true rfl ?_ rfl (fun _ => rfl)
    unfold distaffref01_One.f
    rw [neg_some]; rfl
  · by_cases h2 : op = 16
    · subst h2
      refine fin 16 a (wrap64 (-1 - a)) true ?_ rfl rfl (fun _ => rfl)
      rw [show arith_One.f 16 a = some (Go.bits .xor .i64 (-1) a, true) from rfl, xor_ones]
    · by_cases h3 : op = 24
      · subst h3
        refine fin 24 a (if a = 0 then 1 else 0) true ?_ ?_ rfl (fun _ => rfl)
        · unfold arith_One.f arith_bit.f
          rw [if_neg (by decide), if_neg (by decide), if_pos rfl]
          by_cases c : a = 0 <;> simp [c]
        · unfold distaffref01_One.f distaffref01_one.f
          rw [if_neg (by decide), if_neg (by decide), if_pos rfl]
          by_cases c : a = 0 <;> simp [c]
      · refine fin op a 0 false ?_ ?_ ?_ (fun h => by cases h)
        · unfold arith_One.f
          rw [if_neg h1, if_neg h2, if_neg h3]
        · unfold distaffref01_One.f
          rw [if_neg h1, if_neg h2, if_neg h3]
        · unfold arith_Unary.f
          rw [if_neg h1, if_neg h2]
          simp [h3]


end Go.Proofs.Ytoojmpcpbnlkaaa.Pure
