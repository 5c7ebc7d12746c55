/- Plain words of the wire's reading: the state of a reader, the decoding of a varint. No program in sight. -/
import Derived.Test.YtleomgkogbenaaaWirePlain
namespace Go.Proofs.Ytleomgkogbenaaa.WirePlain
open Go Go.RowKit

/-- A reader's state: the bytes that are left, or the recorded error. -/
inductive St where
  | ok (bs : List Int)
  | err (e : Int)
inductive Dec where
  | bad (e : Int)
  | val (n : Nat) (rest : List Int)
/-- A varint from its byte i on. -/
def decU : Nat → List Int → Dec
  | _, [] => .bad 3
  | i, c :: r => if (i = 9 ∧ 1 < c) ∨ (0 < i ∧ c = 0) then .bad 2 else if c < 128 then .val c.toNat r else
    match decU (i + 1) r with
    | .bad e => .bad e
    | .val n r' => .val ((c - 128).toNat + 128 * n) r'
def finU (acc : Nat) (i : Nat) : Dec → Nat × St
  | .bad e => (0, .err e)
  | .val n r => (acc + 128 ^ i * n, .ok r)
def nextS : St → Int × St
  | .ok [] => (0, .err 3)
  | .ok (c :: r) => (c, .ok r)
  | .err e => (0, .err e)
def failS (k : Int) : St → St
  | .ok _ => .err k
  | .err e => .err e
def uintS : St → Nat × St
  | .ok bs => finU 0 0 (decU 0 bs)
  | .err e => (0, .err e)
def intS (s : St) : Int × St := (unzig (uintS s).1, (uintS s).2)
def boolS : St → Bool × St
  | .ok [] => (false, .err 3)
  | .ok (c :: r) => if 1 < c then (false, .err 2) else (c == 1, .ok r)
  | .err e => (false, .err e)
def endS : St → Int
  | .ok [] => 0
  | .ok (_ :: _) => 2
  | .err e => e
/-- A length: the number, if so many bytes are left. -/
def lenS (s : St) : Nat × St :=
  match uintS s with
  | (n, .ok bs) => if bs.length < n then (0, .err 3) else (n, .ok bs)
  | (_, .err e) => (0, .err e)
def rawS (s : St) : List Int × St :=
  match lenS s with
  | (n, .ok bs) => (bs.take n, .ok (bs.drop n))
  | (_, .err e) => ([], .err e)
def intsN : Nat → List Int → St → List Int × St
  | 0, acc, s => (acc, s)
  | n + 1, acc, .ok bs => intsN n (acc ++ [(intS (.ok bs)).1]) (intS (.ok bs)).2
  | _ + 1, _, .err e => ([], .err e)
def intsS (s : St) : List Int × St :=
  match lenS s with
  | (n, .ok bs) =>
    match intsN n [] (.ok bs) with
    | (l, .ok r) => (l, .ok r)
    | (_, .err e) => ([], .err e)
  | (_, .err e) => ([], .err e)

theorem finU_step (acc i c : Nat) (d : Dec) : finU acc i (match d with | .bad e => .bad e | .val n r' => .val (c + 128 * n) r') = finU (acc + 128 ^ i * c) (i + 1) d := by
  cases d with
  | bad e => rfl
  | val n r => simp only [finU, Nat.pow_succ, Nat.mul_add, Nat.mul_assoc, Nat.add_assoc]
theorem shl_or (acc c i : Nat) (h : acc < 2 ^ (7 * i)) (h2 : c * 2 ^ (7 * i) < 18446744073709551616) (h3 : acc < 18446744073709551616) : Go.bits .or .u64 (acc : Int) (IntKind.u64.wrap ((c : Int) * 2 ^ (7 * i))) = ((acc + 2 ^ (7 * i) * c : Nat) : Int) := by
  have e : ((c : Int) * 2 ^ (7 * i)) = ((c * 2 ^ (7 * i) : Nat) : Int) := by rw [Int.natCast_mul]; norm_cast
  rw [e, IntKind.wrap_u64, Int.emod_eq_of_lt (by omega) (by omega), u64_or_nat _ _ h3 h2, Nat.or_comm, nat_join (7 * i) _ _ (by rw [Nat.mul_mod_left]) h, Nat.mul_comm, Nat.add_comm]
theorem andnot128 : ∀ c : Nat, c < 256 → Go.bits .andNot .u8 (c : Int) 128 = ((c % 128 : Nat) : Int) := by
  intro c h
  rw [show (128 : Int) = ((128 : Nat) : Int) from rfl, u8_andNot_nat _ _ h (by omega), show 255 - 128 = 127 from rfl, nat_mask7]
theorem pow128 (i : Nat) : 2 ^ (7 * i) = 128 ^ i := by rw [Nat.pow_mul]
theorem fit_shl (j c : Nat) (hj : j ≤ 9) (hc : c < 128) (h9 : j = 9 → c ≤ 1) : c * 2 ^ (7 * j) < 18446744073709551616 := by
  match j, hj, h9 with
  | 0, _, _ => simp only [Nat.reduceMul, Nat.reducePow]; omega
  | 1, _, _ => simp only [Nat.reduceMul, Nat.reducePow]; omega
  | 2, _, _ => simp only [Nat.reduceMul, Nat.reducePow]; omega
  | 3, _, _ => simp only [Nat.reduceMul, Nat.reducePow]; omega
  | 4, _, _ => simp only [Nat.reduceMul, Nat.reducePow]; omega
  | 5, _, _ => simp only [Nat.reduceMul, Nat.reducePow]; omega
  | 6, _, _ => simp only [Nat.reduceMul, Nat.reducePow]; omega
  | 7, _, _ => simp only [Nat.reduceMul, Nat.reducePow]; omega
  | 8, _, _ => simp only [Nat.reduceMul, Nat.reducePow]; omega
  | 9, _, h => have := h rfl; simp only [Nat.reduceMul, Nat.reducePow]; omega
theorem acc_lt (j a : Nat) (hj : j ≤ 9) (h : a < 128 ^ j) : a < 18446744073709551616 := by
  have : 128 ^ j ≤ 128 ^ 9 := Nat.pow_le_pow_right (by omega) hj
  have e : 128 ^ 9 = 9223372036854775808 := by rfl
  omega
theorem acc_next (j a m : Nat) (h : a < 128 ^ j) (hm : m < 128) : a + 128 ^ j * m < 128 ^ (j + 1) := by
  rw [Nat.pow_succ]
  have : 128 ^ j * (m + 1) ≤ 128 ^ j * 128 := Nat.mul_le_mul_left _ (by omega)
  rw [Nat.mul_add] at this
  omega
end Go.Proofs.Ytleomgkogbenaaa.WirePlain
