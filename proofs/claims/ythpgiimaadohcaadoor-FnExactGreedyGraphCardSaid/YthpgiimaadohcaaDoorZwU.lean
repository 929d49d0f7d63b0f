/- Words without sign. -/
import Derived.Test.YthpgiimaadohcaaDoorZvNum
namespace Go.Proofs.YthpgiimaadohcaaDoor.Zv
open Go
theorem shr_u64 {a : Nat} {b : Nat} (hb : b ≤ 64) : ishr .u64 (a : Int) (b : Int) = ((a / 2 ^ b : Nat) : Int) := by
  rw [ishr_eq]
  have e : min (b : Int).toNat IntKind.u64.bits = b := by simp [IntKind.bits]; omega
  rw [e, Int.fdiv_eq_ediv_of_nonneg _ (Int.le_of_lt (by exact_mod_cast Nat.two_pow_pos b))]
  simp
theorem and_u64 {a b : Nat} (ha : a < 2 ^ 64) (hb : b < 2 ^ 64) : iand .u64 (a : Int) (b : Int) = ((a &&& b : Nat) : Int) := by
  rw [iand_eq]
  have h1 : (BitVec.ofInt IntKind.u64.bits (a : Int)).toNat = a := ofInt_nat 64 a ha
  have h2 : (BitVec.ofInt IntKind.u64.bits (b : Int)).toNat = b := ofInt_nat 64 b hb
  rw [BitVec.toNat_and, h1, h2]
  have : a &&& b < 2 ^ 64 := Nat.and_lt_two_pow _ hb
  exact wrapu64 (by omega) (by omega)
end Go.Proofs.YthpgiimaadohcaaDoor.Zv
