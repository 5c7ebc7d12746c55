/- What the laws on the hash share: the small helpers' answers, the documented examples, the sums. Plain, over the printed functions. -/
import Derived.Test.YtjekglbodhlfcaaPAx
import Derived.Test.YtjekglbodhlfcaaHashInj
import Derived.OpenShut
namespace Go.Proofs.Ytjekglbodhlfcaa.Pure
open Go Go.RowKit Go.Proofs.Ytjekglbodhlfcaa.PA Go.Proofs.YtjekglbodhlfcaaW.PrintWords Go.Proofs.YtjekglbodhlfcaaW.PrintLast Go.Proofs.YtjekglbodhlfcaaW.PrintMore Go.Proofs.Ytjekglbodhlfcaa.HashPlain
set_option linter.unusedSimpArgs false

/-- The bind of a known value, by an equation (the kernel need not evaluate what stands around it). -/
theorem bsome {α β : Type} (a : α) (f : α → Option β) : (some a).bind f = f a := (Option.bind_some a f).trans (Eq.refl _)

theorem short_f (a : ByteArray) (n : Int) (hn : 0 ≤ n) : ∃ s, refuterref01_Short.f a n = some s ∧ (s.size : Int) ≤ n := by
  unfold refuterref01_Short.f
  by_cases h : (a.size : Int) > n
  · rw [if_pos h, if_pos hn, if_pos (by omega)]
    exact ⟨_, rfl, by rw [ByteArray.size_extract]; omega⟩
  · rw [if_neg h]
    exact ⟨_, rfl, by omega⟩

theorem ints_f (l : List Int) (n : Int) (hn : 0 ≤ n) (hn2 : n ≤ 1000) : refuterref01_Ints.f l n = some (l.take n.toNat) := by
  unfold refuterref01_Ints.f
  have h1 : 0 ≤ mn (l.length : Int) n := by unfold mn; split <;> omega
  have h2 : mn (l.length : Int) n ≤ (l.length : Int) := by unfold mn; split <;> omega
  have h3 : l.take (mn (l.length : Int) n).toNat = l.take n.toNat := by
    unfold mn
    split
    · rfl
    · rw [List.take_of_length_le (by omega), List.take_of_length_le (by omega)]
  rw [if_pos h1, if_pos h2, h3, if_pos (by simp; omega)]
  rfl

theorem few_f (l : List Int) (n : Int) (hn : 0 ≤ n) (hn2 : n ≤ 1000) : refuterref01_Few.f l n = some (l.take n.toNat) := by
  unfold refuterref01_Few.f
  have h1 : 0 ≤ mn (l.length : Int) n := by unfold mn; split <;> omega
  have h2 : mn (l.length : Int) n ≤ (l.length : Int) := by unfold mn; split <;> omega
  have h3 : l.take (mn (l.length : Int) n).toNat = l.take n.toNat := by
    unfold mn
    split
    · rfl
    · rw [List.take_of_length_le (by omega), List.take_of_length_le (by omega)]
  rw [if_pos h1, if_pos h2, h3, if_pos (by simp; omega)]
  rfl

theorem sum_f (s : ByteArray) (l : List Int) (hs : s.size ≤ 17592186044000) (hl : l.length ≤ 140737488351232) : hash_Sum.f s l = some (hsum (bytesOf s) l) := by
  unfold hash_Sum.f
  rw [if_pos (by omega), if_pos hl]

theorem bytes_f (s : ByteArray) (l : List Int) (hs : s.size ≤ 17592186044000) (hl : l.length ≤ 17592186044000) (hb : ∀ x ∈ l, Byte x) : hash_Bytes.f s l = some (hsum (bytesOf s) ((hwords l).map wrap64 ++ [(l.length : Int)])) := by
  unfold hash_Bytes.f
  rw [if_pos (by omega), if_pos hl, if_pos (List.all_eq_true.2 fun x hx => decide_eq_true (by have := hb x hx; exact this))]
  rfl

theorem pair_f (a b : Int) : hash_Pair.f a b = some (hsum [112, 97, 105, 114] [wrap64 a, wrap64 b]) := by
  unfold hash_Pair.f
  rw [sum_f _ _ (by decide) (by simp)]
  rfl

theorem wrapu_wrap64' (x : Int) (hx : U64 x) : IntKind.u64.wrap (wrap64 x) = x := by unfold wrap64; exact wrapu_wrap64 x hx

theorem hwords_one (l : List Int) (h : l ≠ []) (h8 : l.length ≤ 8) : hwords l = [hword l] := by
  rw [hwords_step l h, List.take_of_length_le h8, List.drop_eq_nil_of_le h8, hwords_nil]

theorem lives_f : refuterlaw01_lives.f = some true := by
  unfold refuterlaw01_lives.f
  rw [sum_f _ _ (by decide) (by simp), sum_f _ _ (by decide) (by simp), sum_f _ _ (by decide) (by simp), bytes_f _ _ (by decide) (by simp) (by intro x hx; simp at hx; rcases hx with rfl | rfl <;> (unfold Byte; omega)), pair_f, pair_f]
  have e1 : hwords (bytesOf (⟨#[97]⟩ : ByteArray)) = [97] := hwords_one _ (by decide) (by decide)
  have e2 : hwords [1, 2] = [513] := hwords_one _ (by decide) (by decide)
  have e3 : hwords [112, 97, 105, 114] = [1919508848] := hwords_one _ (by decide) (by decide)
  simp only [bsome]
  unfold hsum
  rw [e1, e2, e3]
  decide +kernel

theorem around_f (n most : Int) (h1 : 1 ≤ most) (hw : (Lit.int .i64 n).wf = true) : ∃ k, refuterref01_Around.f n most = some k ∧ 0 ≤ k ∧ k < most := by
  have hn : -9223372036854775808 ≤ n ∧ n ≤ 9223372036854775807 := bounds_i64 hw
  unfold refuterref01_Around.f
  by_cases h : n < 0
  · rw [if_pos h, if_neg (by omega)]
    refine ⟨_, rfl, ?_⟩
    have e1 : wrap64 (n + 1) = n + 1 := by unfold wrap64; omega
    have e2 : wrap64 (-(n + 1)) = -(n + 1) := by unfold wrap64; omega
    rw [e1, e2, Int.tmod_eq_emod_of_nonneg (by omega)]
    exact ⟨Int.emod_nonneg _ (by omega), Int.emod_lt_of_pos _ (by omega)⟩
  · rw [if_neg h, if_neg (by omega)]
    refine ⟨_, rfl, ?_⟩
    rw [Int.tmod_eq_emod_of_nonneg (by omega)]
    exact ⟨Int.emod_nonneg _ (by omega), Int.emod_lt_of_pos _ (by omega)⟩

theorem byte_wf {x : Int} (h : (Lit.int .u8 x).wf = true) : Byte x := by have := bounds_u8 h; unfold Byte; omega
theorem bytes_wf {l : List Int} (h : ∀ x ∈ l, (Lit.int .u8 x).wf = true) : ∀ x ∈ l, Byte x := fun x hx => byte_wf (h x hx)
theorem take_mem {P : Int → Prop} {l : List Int} {n : Nat} (h : ∀ x ∈ l, P x) : ∀ x ∈ l.take n, P x := fun x hx => h x (List.mem_of_mem_take hx)

theorem sameBytes_l0 (l : List Int) (hl : l.length ≤ 1000) : ∀ (d i : Nat), l.length - i ≤ d → i ≤ l.length → refuterref01_SameBytes.l0 (d + 1) l l (i : Int) = some true := by
  intro d
  induction d with
  | zero => intro i h1 h2; simp only [refuterref01_SameBytes.l0]; rw [if_neg (by omega)]
  | succ d ih =>
    intro i h1 h2
    by_cases hlt : i < l.length
    · have hr := ih (i + 1) (by omega) (by omega)
      generalize d + 1 = d1 at hr
      simp only [refuterref01_SameBytes.l0]
      rw [if_pos (by omega), if_pos (by omega), if_pos (by omega), if_pos trivial, show wrap64 ((i : Int) + 1) = ((i + 1 : Nat) : Int) by unfold wrap64; omega]
      exact hr
    · generalize d + 1 = d1
      simp only [refuterref01_SameBytes.l0]; rw [if_neg (by omega)]

theorem sameBytes_self (l : List Int) (hl : l.length ≤ 1000) (k : Nat) (hk : 1002 ≤ k) : refuterref01_SameBytes.f k l l = some true := by
  unfold refuterref01_SameBytes.f
  rw [if_pos rfl]
  have h := sameBytes_l0 l hl (k - 1) 0 (by omega) (by omega)
  rw [show k - 1 + 1 = k by omega] at h
  exact h
theorem sameInts_l0 (l : List Int) (hl : l.length ≤ 1000) : ∀ (d i : Nat), l.length - i ≤ d → i ≤ l.length → refuterref01_SameInts.l0 (d + 1) l l (i : Int) = some true := by
  intro d
  induction d with
  | zero => intro i h1 h2; simp only [refuterref01_SameInts.l0]; rw [if_neg (by omega)]
  | succ d ih =>
    intro i h1 h2
    by_cases hlt : i < l.length
    · have hr := ih (i + 1) (by omega) (by omega)
      generalize d + 1 = d1 at hr
      simp only [refuterref01_SameInts.l0]
      rw [if_pos (by omega), if_pos (by omega), if_pos (by omega), if_pos trivial, show wrap64 ((i : Int) + 1) = ((i + 1 : Nat) : Int) by unfold wrap64; omega]
      exact hr
    · generalize d + 1 = d1
      simp only [refuterref01_SameInts.l0]; rw [if_neg (by omega)]

theorem sameInts_self (l : List Int) (hl : l.length ≤ 1000) (k : Nat) (hk : 1002 ≤ k) : refuterref01_SameInts.f k l l = some true := by
  unfold refuterref01_SameInts.f
  rw [if_pos rfl]
  have h := sameInts_l0 l hl (k - 1) 0 (by omega) (by omega)
  rw [show k - 1 + 1 = k by omega] at h
  exact h

theorem refsum_f (s : ByteArray) (l : List Int) (hs : s.size ≤ 17592186044000) (hl : l.length ≤ 140737488351232) : refuterref01_Sum.f s l = some (hsum (bytesOf s) l) := by
  unfold refuterref01_Sum.f
  rw [if_pos (by omega), if_pos hl]

end Go.Proofs.Ytjekglbodhlfcaa.Pure
