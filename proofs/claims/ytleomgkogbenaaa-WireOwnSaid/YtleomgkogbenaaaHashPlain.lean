/- Plain facts on the 64-bit hash: little-endian words of a list of bytes, the absorbing step, the sum. No program in sight. -/
import Derived.Laws.Bits64
import Derived.Laws.BitsAllLaws
import Derived.IntWalk
import Derived.Tactics
namespace Go.Proofs.Ytleomgkogbenaaa.HashPlain
open Go

def hword : List Int → Int
  | [] => 0
  | b :: r => b + 256 * hword r

def Byte (x : Int) : Prop := 0 ≤ x ∧ x < 256
def U64 (x : Int) : Prop := 0 ≤ x ∧ x < 18446744073709551616

theorem hword_range : ∀ (l : List Int), (∀ x ∈ l, Byte x) → 0 ≤ hword l ∧ hword l < (256 : Int) ^ l.length
  | [], _ => by simp [hword]
  | b :: r, h => by
    have h1 := hword_range r (fun x hx => h x (List.mem_cons_of_mem _ hx))
    have h2 : Byte b := h b List.mem_cons_self
    unfold Byte at h2
    simp only [hword, List.length_cons, Int.pow_succ]
    omega

theorem hword_snoc : ∀ (l : List Int) (b : Int), hword (l ++ [b]) = hword l + (256 : Int) ^ l.length * b
  | [], b => by simp [hword]
  | a :: r, b => by
    simp only [List.cons_append, hword, hword_snoc r b, List.length_cons, Int.pow_succ]
    have e : (256 : Int) ^ r.length * 256 * b = 256 * ((256 : Int) ^ r.length * b) := by
      rw [Int.mul_comm ((256 : Int) ^ r.length) 256, Int.mul_assoc]
    omega

theorem pow256_le (j : Nat) (hj : j < 8) : (256 : Int) ^ j ≤ 72057594037927936 := by
  match j, hj with
  | 0, _ => decide
  | 1, _ => decide
  | 2, _ => decide
  | 3, _ => decide
  | 4, _ => decide
  | 5, _ => decide
  | 6, _ => decide
  | 7, _ => decide

theorem pow256_two (j : Nat) : (2 : Int) ^ (8 * j) = (256 : Int) ^ j := by
  rw [Int.pow_mul]; rfl

theorem pow256_cast (j : Nat) : ((256 : Int) ^ j) = ((2 ^ (8 * j) : Nat) : Int) := by
  rw [← pow256_two]; simp

/-- One step of the little-endian word, as the walk spells it. -/
theorem or_step (w b : Int) (j : Nat) (hj : j < 8) (hb : Byte b) (hw0 : 0 ≤ w) (hw : w < (256 : Int) ^ j) :
    bits .or .u64 w (IntKind.u64.wrap (IntKind.u64.wrap b * 2 ^ (8 * j))) = w + (256 : Int) ^ j * b := by
  unfold Byte at hb
  have hp := pow256_le j hj
  have hp0 : (0 : Int) < (256 : Int) ^ j := Int.pow_pos (by decide)
  obtain ⟨B, hB⟩ : ∃ B : Nat, b = (B : Int) := ⟨b.toNat, by omega⟩
  obtain ⟨X, hX⟩ : ∃ X : Nat, w = (X : Int) := ⟨w.toNat, by omega⟩
  subst hB hX
  have e1 : IntKind.u64.wrap ((B : Int)) = (B : Int) := IntWalk.u64_in _ ⟨by omega, by omega⟩
  have hm : (256 : Int) ^ j * (B : Int) ≤ 72057594037927936 * 255 := by
    have h1 : (256 : Int) ^ j * (B : Int) ≤ 72057594037927936 * (B : Int) := Int.mul_le_mul_of_nonneg_right hp (by omega)
    omega
  have hm0 : 0 ≤ (256 : Int) ^ j * (B : Int) := Int.mul_nonneg (by omega) (by omega)
  rw [e1, pow256_two, Int.mul_comm (B : Int), IntWalk.u64_in _ ⟨hm0, by omega⟩]
  rw [pow256_cast] at hw hm ⊢
  have e2 : ((2 ^ (8 * j) : Nat) : Int) * (B : Int) = ((2 ^ (8 * j) * B : Nat) : Int) := by simp
  have hX2 : X < 2 ^ (8 * j) := by omega
  rw [e2] at hm ⊢
  have hXle : (X : Int) < 72057594037927936 := by rw [← pow256_cast] at hw; omega
  rw [u64_or_nat X _ (by omega) (by omega)]
  rw [Nat.or_comm, ← Nat.two_pow_add_eq_or_of_lt hX2]
  omega

/-- The words of a list of bytes: eight bytes a word, the last one shorter. -/
def hwords : List Int → List Int
  | [] => []
  | b :: r => hword ((b :: r).take 8) :: hwords ((b :: r).drop 8)
  termination_by l => l.length
  decreasing_by simp only [List.drop_succ_cons, List.length_drop, List.length_cons]; omega

theorem hwords_step (l : List Int) (h : l ≠ []) : hwords l = hword (l.take 8) :: hwords (l.drop 8) := by
  cases l with
  | nil => exact absurd rfl h
  | cons b r => rw [hwords]

theorem hwords_nil : hwords [] = [] := by rw [hwords]

/-- How many words: one for every eight bytes begun. -/
theorem hwords_length (l : List Int) : (hwords l).length = (l.length + 7) / 8 := by
  induction hn : l.length using Nat.strongRecOn generalizing l with
  | _ n ih =>
    by_cases h : l = []
    · subst h; simp at hn; subst hn; simp [hwords_nil]
    · have hp : 0 < l.length := List.length_pos_iff.2 h
      rw [hwords_step l h, List.length_cons, ih (l.drop 8).length (by rw [List.length_drop]; omega) (l.drop 8) rfl, List.length_drop]
      omega

theorem hword_u64 (l : List Int) (hl : l.length ≤ 8) (h : ∀ x ∈ l, Byte x) : U64 (hword l) := by
  obtain ⟨h0, h1⟩ := hword_range l h
  refine ⟨h0, Int.lt_of_lt_of_le h1 ?_⟩
  have hp : (256 : Int) ^ l.length ≤ (256 : Int) ^ 8 := by
    have := Nat.pow_le_pow_right (n := 256) (by decide) hl
    have e : ∀ k : Nat, (256 : Int) ^ k = ((256 ^ k : Nat) : Int) := fun k => by simp
    rw [e, e]; omega
  have : (256 : Int) ^ 8 = 18446744073709551616 := by decide
  omega

theorem hwords_u64 (l : List Int) (h : ∀ x ∈ l, Byte x) : ∀ x ∈ hwords l, U64 x := by
  induction hn : l.length using Nat.strongRecOn generalizing l with
  | _ n ih =>
    by_cases hne : l = []
    · subst hne; simp [hwords_nil]
    · have hp : 0 < l.length := List.length_pos_iff.2 hne
      rw [hwords_step l hne]
      intro x hx
      rcases List.mem_cons.1 hx with rfl | hx
      · exact hword_u64 _ (by simp; omega) (fun y hy => h y (List.mem_of_mem_take hy))
      · exact ih (l.drop 8).length (by rw [List.length_drop]; omega) (l.drop 8) (fun y hy => h y (List.mem_of_mem_drop hy)) rfl x hx

theorem take_ne_nil {α : Type} (l : List α) (n : Nat) (h : 0 < l.length) (hn : 0 < n) : l.take n ≠ [] := fun e => by
  have h1 : (l.take n).length = 0 := by rw [e]; rfl
  rw [List.length_take] at h1
  omega

/-- The words of the first 8k bytes, then one word more. -/
theorem hwords_take_succ (l : List Int) (k : Nat) (h : 8 * k < l.length) :
    hwords (l.take (8 * k + 8)) = hwords (l.take (8 * k)) ++ [hword ((l.drop (8 * k)).take 8)] := by
  induction k generalizing l with
  | zero =>
    have hne : l.take 8 ≠ [] := take_ne_nil l 8 (by omega) (by omega)
    simp only [Nat.mul_zero, Nat.zero_add, List.take_zero, List.drop_zero, hwords_nil, List.nil_append]
    rw [hwords_step _ hne]
    have e1 : (l.take 8).take 8 = l.take 8 := by rw [List.take_take]; simp
    have e2 : (l.take 8).drop 8 = [] := List.drop_eq_nil_of_le (by simp; omega)
    rw [e1, e2, hwords_nil]
  | succ k ih =>
    have hne1 : l.take (8 * (k + 1) + 8) ≠ [] := take_ne_nil l _ (by omega) (by omega)
    have hne2 : l.take (8 * (k + 1)) ≠ [] := take_ne_nil l _ (by omega) (by omega)
    rw [hwords_step _ hne1, hwords_step _ hne2]
    have e1 : (l.take (8 * (k + 1) + 8)).take 8 = l.take 8 := by rw [List.take_take, Nat.min_eq_left (by omega)]
    have e2 : (l.take (8 * (k + 1))).take 8 = l.take 8 := by rw [List.take_take, Nat.min_eq_left (by omega)]
    have e3 : (l.take (8 * (k + 1) + 8)).drop 8 = (l.drop 8).take (8 * k + 8) := by rw [List.drop_take]; congr 1
    have e4 : (l.take (8 * (k + 1))).drop 8 = (l.drop 8).take (8 * k) := by rw [List.drop_take]; congr 1
    have e5 : l.drop (8 * (k + 1)) = (l.drop 8).drop (8 * k) := by rw [List.drop_drop]; congr 1; omega
    rw [e1, e2, e3, e4, ih (l.drop 8) (by rw [List.length_drop]; omega), e5, List.cons_append]

theorem hwords_take_prefix (l : List Int) (k : Nat) : hwords (l.take (8 * k)) <+: hwords l := by
  induction k generalizing l with
  | zero => simp [hwords_nil]
  | succ k ih =>
    by_cases h : l = []
    · subst h; simp
    · have hp : 0 < l.length := List.length_pos_iff.2 h
      rw [hwords_step _ (take_ne_nil l _ hp (by omega)), hwords_step l h]
      have e2 : (l.take (8 * (k + 1))).take 8 = l.take 8 := by rw [List.take_take, Nat.min_eq_left (by omega)]
      have e4 : (l.take (8 * (k + 1))).drop 8 = (l.drop 8).take (8 * k) := by rw [List.drop_take]; congr 1
      rw [e2, e4]
      exact List.cons_prefix_cons.2 ⟨rfl, ih _⟩

/-- The absorbing step. -/
def hmix (s w : Int) : Int :=
  bits .xor .u64 (IntKind.u64.wrap (bits .xor .u64 s w * 11400714819323198485)) (IntKind.u64.wrap (bits .xor .u64 s w * 11400714819323198485) / 4294967296)

/-- What Sum computes: the label's words, its length, the number of integers, the integers, a zero. -/
def hsum (b : List Int) (l : List Int) : Int :=
  hmix (l.foldl (fun s n => hmix s (IntKind.u64.wrap n)) (hmix (hmix ((hwords b).foldl hmix 0) (b.length : Int)) (l.length : Int))) 0

end Go.Proofs.Ytleomgkogbenaaa.HashPlain
