/- Plain words of the wire's encoding: varints, zigzag. No program in sight. -/
import Derived.Laws.Bits64
import Derived.Laws.BitsAllLaws
import Derived.IntWalk
import Derived.Tactics
import Derived.RowKit
namespace Go.Proofs.Ytleomgkogbenaaa.WirePlain
open Go Go.RowKit

/-- The varint of a number. -/
def encU (n : Nat) : List Int := if n < 128 then [(n : Int)] else ((n % 128 + 128 : Nat) : Int) :: encU (n / 128)
  termination_by n
  decreasing_by omega

theorem encU_small {n : Nat} (h : n < 128) : encU n = [(n : Int)] := by rw [encU, if_pos h]
theorem encU_big {n : Nat} (h : ¬ n < 128) : encU n = ((n % 128 + 128 : Nat) : Int) :: encU (n / 128) := by rw [encU, if_neg h]
theorem encU_pos (n : Nat) : 1 ≤ (encU n).length := by
  by_cases h : n < 128
  · rw [encU_small h]; simp
  · rw [encU_big h]; simp

/-- The number of a signed one. -/
def zig (n : Int) : Nat := if 0 ≤ n then (2 * n).toNat else (-2 * n - 1).toNat
def encI (n : Int) : List Int := encU (zig n)
def encB (b : Bool) : List Int := encU (if b then 1 else 0)
def encRaw (l : List Int) : List Int := encU l.length ++ l
def encList : List Int → List Int
  | [] => []
  | x :: r => encI x ++ encList r
def encInts (l : List Int) : List Int := encU l.length ++ encList l

set_option maxRecDepth 100000 in
theorem or_more : ∀ x : Nat, x < 256 → Go.bits .or .u8 (x : Int) 128 = ((x % 128 + 128 : Nat) : Int) := by decide

theorem xor_ones (a : Nat) (h : a < 18446744073709551616) : a ^^^ 18446744073709551615 = 18446744073709551615 - a := by
  have e : (18446744073709551615 : Nat) = 2 ^ 64 - 1 := by decide
  rw [e]
  apply Nat.eq_of_testBit_eq
  intro i
  rw [Nat.testBit_xor, Nat.testBit_two_pow_sub_one, show 2 ^ 64 - 1 - a = 2 ^ 64 - (a + 1) by omega, Nat.testBit_two_pow_sub_succ (by omega)]
  by_cases hi : i < 64
  · simp [hi]
  · have hf : a.testBit i = false := Nat.testBit_lt_two_pow (Nat.lt_of_lt_of_le (show a < 2 ^ 64 by omega) (Nat.pow_le_pow_right (by omega) (by omega)))
    simp [hi, hf]

theorem zig_go (n : Int) (h1 : -9223372036854775808 ≤ n) (h2 : n < 9223372036854775808) : Go.bits .xor .u64 (IntKind.u64.wrap ((IntKind.u64.wrap n) * 2)) (IntKind.u64.wrap (n / 9223372036854775808)) = (zig n : Int) := by
  unfold zig
  by_cases h : 0 ≤ n
  · rw [if_pos h]
    have e1 : IntKind.u64.wrap ((IntKind.u64.wrap n) * 2) = ((2 * n).toNat : Int) := by rw [IntKind.wrap_u64, IntKind.wrap_u64]; omega
    have e2 : IntKind.u64.wrap (n / 9223372036854775808) = ((0 : Nat) : Int) := by rw [IntKind.wrap_u64]; omega
    rw [e1, e2, u64_xor_nat _ _ (by omega) (by omega), Nat.xor_zero]
  · rw [if_neg h]
    have e1 : IntKind.u64.wrap ((IntKind.u64.wrap n) * 2) = ((2 * n + 18446744073709551616).toNat : Int) := by rw [IntKind.wrap_u64, IntKind.wrap_u64]; omega
    have e2 : IntKind.u64.wrap (n / 9223372036854775808) = ((18446744073709551615 : Nat) : Int) := by rw [IntKind.wrap_u64]; omega
    rw [e1, e2, u64_xor_nat _ _ (by omega) (by omega), xor_ones _ (by omega)]
    omega

/-- The signed number of a zigzag form. -/
def unzig (z : Nat) : Int := if z % 2 = 0 then ((z / 2 : Nat) : Int) else -((z / 2 : Nat) : Int) - 1
theorem unzig_go (z : Nat) (h : z < 18446744073709551616) : Go.bits .xor .i64 (wrap64 ((z : Int) / 2)) (wrap64 (-(wrap64 (Go.bits .and .u64 (z : Int) 1)))) = unzig z := by
  have ha : Go.bits .and .u64 (z : Int) 1 = ((z % 2 : Nat) : Int) := by rw [show (1 : Int) = ((1 : Nat) : Int) from rfl, u64_and_nat _ _ h (by omega), nat_mask1]
  have h2 : wrap64 ((z : Int) / 2) = ((z / 2 : Nat) : Int) := by unfold wrap64; omega
  rw [ha, h2]
  unfold unzig
  show IntKind.i64.wrap ((BitVec.ofInt 64 _ ^^^ BitVec.ofInt 64 _).toNat : Int) = _
  rw [BitVec.toNat_xor, ofInt_u64 _ (by omega), IntKind.wrap_i64]
  by_cases e : z % 2 = 0
  · rw [if_pos e, e, show wrap64 (-(wrap64 ((0 : Nat) : Int))) = ((0 : Nat) : Int) by unfold wrap64; omega, ofInt_u64 _ (by omega), Nat.xor_zero]
    omega
  · rw [if_neg e, show z % 2 = 1 by omega, show wrap64 (-(wrap64 ((1 : Nat) : Int))) = -1 by unfold wrap64; omega, show (BitVec.ofInt 64 (-1)).toNat = 18446744073709551615 by decide, xor_ones _ (by omega)]
    omega
theorem unzig_zig (n : Int) : unzig (zig n) = n := by
  unfold zig unzig
  split <;> split <;> omega
theorem zig_unzig (z : Nat) : zig (unzig z) = z := by
  unfold zig unzig
  split <;> split <;> omega
end Go.Proofs.Ytleomgkogbenaaa.WirePlain
