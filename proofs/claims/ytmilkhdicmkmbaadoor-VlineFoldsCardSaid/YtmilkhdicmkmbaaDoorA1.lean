/- Plain arithmetic of Go's integers. By an AI agent. -/
import Derived.Test.YtmilkhdicmkmbaaDoorR11
set_option maxRecDepth 4000
set_option linter.unusedVariables false
set_option linter.unusedSimpArgs false
namespace Go.Ab
open Go

theorem wrap_u8 (n : Nat) : IntKind.wrap .u8 (n : Int) = ((n % 256 : Nat) : Int) := by
  simp only [IntKind.wrap, IntKind.bits, IntKind.signed, IntKind.max, IntKind.min]
  simp
theorem wrap_u32 (n : Nat) : IntKind.wrap .u32 (n : Int) = ((n % 4294967296 : Nat) : Int) := by
  simp only [IntKind.wrap, IntKind.bits, IntKind.signed, IntKind.max, IntKind.min]
  simp
theorem wrap_u64 (n : Nat) : IntKind.wrap .u64 (n : Int) = ((n % 18446744073709551616 : Nat) : Int) := by
  simp only [IntKind.wrap, IntKind.bits, IntKind.signed, IntKind.max, IntKind.min]
  simp
theorem wrap_u8_id {n : Int} (h0 : 0 ≤ n) (h : n < 256) : IntKind.wrap .u8 n = n := by
  obtain ⟨m, rfl⟩ := Int.eq_ofNat_of_zero_le h0
  rw [wrap_u8, Nat.mod_eq_of_lt (by omega)]
theorem wrap_u64_id {n : Int} (h0 : 0 ≤ n) (h : n < 18446744073709551616) : IntKind.wrap .u64 n = n := by
  obtain ⟨m, rfl⟩ := Int.eq_ofNat_of_zero_le h0
  rw [wrap_u64, Nat.mod_eq_of_lt (by omega)]
theorem wrap_i64_id {n : Int} (h0 : -9223372036854775808 ≤ n) (h : n < 9223372036854775808) : IntKind.wrap .i64 n = n := by
  rw [IntKind.wrap_i64]; omega
theorem or_nat (k : Nat) (a b : Nat) : (BitVec.ofInt k (a : Int) ||| BitVec.ofInt k (b : Int)).toNat = (a ||| b) % 2 ^ k := by
  rw [BitVec.toNat_or, BitVec.ofInt_natCast, BitVec.ofInt_natCast, BitVec.toNat_ofNat, BitVec.toNat_ofNat, ← Nat.or_mod_two_pow]
theorem and_nat (k : Nat) (a b : Nat) : (BitVec.ofInt k (a : Int) &&& BitVec.ofInt k (b : Int)).toNat = (a &&& b) % 2 ^ k := by
  rw [BitVec.toNat_and, BitVec.ofInt_natCast, BitVec.ofInt_natCast, BitVec.toNat_ofNat, BitVec.toNat_ofNat, ← Nat.and_mod_two_pow]
theorem xor_nat (k : Nat) (a b : Nat) : (BitVec.ofInt k (a : Int) ^^^ BitVec.ofInt k (b : Int)).toNat = (a ^^^ b) % 2 ^ k := by
  rw [BitVec.toNat_xor, BitVec.ofInt_natCast, BitVec.ofInt_natCast, BitVec.toNat_ofNat, BitVec.toNat_ofNat, ← Nat.xor_mod_two_pow]
theorem fdiv_nat (a b : Nat) : ((a : Int).fdiv (b : Int)) = ((a / b : Nat) : Int) := by
  rw [Int.fdiv_eq_ediv_of_nonneg _ (by omega)]; rfl
def ubits : IntKind → Nat
  | .u8 => 8 | .u16 => 16 | .u32 => 32 | _ => 64
def unsig : IntKind → Bool
  | .u8 | .u16 | .u32 | .u64 => true
  | _ => false
theorem wrap_uns {k : IntKind} (h : unsig k = true) (n : Nat) : k.wrap (n : Int) = ((n % 2 ^ ubits k : Nat) : Int) := by
  cases k <;> simp [unsig] at h <;> (simp only [IntKind.wrap, IntKind.bits, IntKind.signed, ubits]; simp)
theorem bits_uns (k : IntKind) (h : unsig k = true) : k.bits = ubits k := by cases k <;> simp [unsig] at h <;> rfl
theorem orI_nat {k : IntKind} (h : unsig k = true) (a b : Nat) : orI k a b = (((a ||| b) % 2 ^ ubits k : Nat) : Int) := by
  unfold orI
  rw [or_nat, wrap_uns h, bits_uns k h, Nat.mod_mod]
theorem andI_nat {k : IntKind} (h : unsig k = true) (a b : Nat) : andI k a b = (((a &&& b) % 2 ^ ubits k : Nat) : Int) := by
  unfold andI
  rw [and_nat, wrap_uns h, bits_uns k h, Nat.mod_mod]
theorem xorI_nat {k : IntKind} (h : unsig k = true) (a b : Nat) : xorI k a b = (((a ^^^ b) % 2 ^ ubits k : Nat) : Int) := by
  unfold xorI
  rw [xor_nat, wrap_uns h, bits_uns k h, Nat.mod_mod]
theorem shrI_nat (k : IntKind) (a b : Nat) (hb : b ≤ k.bits) : shrI k a b = ((a / 2 ^ b : Nat) : Int) := by
  unfold shrI
  rw [Int.toNat_natCast, Nat.min_eq_left hb, ← fdiv_nat, Int.natCast_pow]; rfl
theorem shlI_nat {k : IntKind} (h : unsig k = true) (a b : Nat) (hb : b ≤ k.bits) : shlI k a b = ((a * 2 ^ b % 2 ^ ubits k : Nat) : Int) := by
  unfold shlI
  rw [Int.toNat_natCast, Nat.min_eq_left hb, ← wrap_uns h, Int.natCast_mul, Int.natCast_pow]
  rfl
theorem or_128 {x : Nat} (h : x < 256) : x ||| 128 = x % 128 + 128 := by
  have : ∀ x : Fin 256, x.val ||| 128 = x.val % 128 + 128 := by decide
  exact this ⟨x, h⟩
theorem u8_nat (n : Nat) : (UInt8.ofNat n).toNat = n % 256 := by simp
end Go.Ab
