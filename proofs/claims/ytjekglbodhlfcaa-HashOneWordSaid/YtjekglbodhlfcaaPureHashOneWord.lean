/- For every label and every list of integers (no condition), the law HashOneWord of package hash returns true: one element replaced changes the sum just where the element changes. -/
import Derived.Test.YtjekglbodhlfcaaHashLaw
namespace Go.Proofs.Ytjekglbodhlfcaa.Pure
open Go Go.RowKit Go.Proofs.Ytjekglbodhlfcaa.PA Go.Proofs.YtjekglbodhlfcaaW.PrintWords Go.Proofs.YtjekglbodhlfcaaW.PrintLast Go.Proofs.YtjekglbodhlfcaaW.PrintMore Go.Proofs.Ytjekglbodhlfcaa.HashPlain

theorem HashOneWord : refuterlaw01_HashOneWord.Pure := by
  intro a l at_ v _ _ _ hl hat hv
  unfold refuterlaw01_HashOneWord.f
  obtain ⟨s, hs, hs2⟩ := short_f a 20 (by omega)
  have hlen : (l.take (9 : Int).toNat).length ≤ 9 := by rw [List.length_take]; exact Nat.min_le_left _ _
  rw [hs, ints_f l 9 (by omega) (by omega)]
  simp only [bsome]
  rw [if_pos (by omega)]
  have hwf : ∀ x ∈ l.take (9 : Int).toNat ++ [7], -9223372036854775808 ≤ x ∧ x ≤ 9223372036854775807 := by
    intro x hx
    rcases List.mem_append.1 hx with hx | hx
    · exact bounds_i64 (hl x (List.mem_of_mem_take hx))
    · simp at hx; subst hx; omega
  have hm1 : (l.take (9 : Int).toNat ++ [7]).length ≤ 10 := by rw [List.length_append]; simp only [List.length_cons, List.length_nil]; omega
  have hm0 : 1 ≤ (l.take (9 : Int).toNat ++ [7]).length := by rw [List.length_append]; simp only [List.length_cons, List.length_nil]; omega
  generalize l.take (9 : Int).toNat ++ [7] = m at hwf hm1 hm0
  rw [ints_f m 10 (by omega) (by omega), List.take_of_length_le (by omega)]
  simp only [bsome]
  obtain ⟨k, hk, hk0, hk1⟩ := around_f at_ (m.length : Int) (by omega) hat
  rw [hk]
  simp only [bsome]
  rw [if_pos hk0, if_pos hk1, sum_f s m (by omega) (by omega), sum_f s _ (by omega) (by rw [List.length_set]; omega)]
  simp only [bsome]
  obtain ⟨j, rfl⟩ : ∃ j : Nat, k = (j : Int) := ⟨k.toNat, by omega⟩
  have hj : j < m.length := by omega
  have hr : rd m (j : Int) = m[j] := by unfold rd; simp [hj]
  rw [hr, if_pos hk1]
  have hvb := bounds_i64 hv
  have hmb := hwf _ (List.getElem_mem hj)
  have heq : (hsum (bytesOf s) m == hsum (bytesOf s) (m.set ((j : Int)).toNat v)) = (m[j] == v) := by
    rw [Int.toNat_natCast]
    by_cases h : m[j] = v
    · rw [← h, List.set_getElem_self]; simp
    · have hne : hsum (bytesOf s) m ≠ hsum (bytesOf s) (m.set j v) := fun e => by
        have e1 : m = m.take j ++ m[j] :: m.drop (j + 1) := by simp
        have e2 : m.set j v = m.take j ++ v :: m.drop (j + 1) := List.set_eq_take_append_cons_drop ▸ by simp [hj]
        rw [e2] at e
        have e3 : hsum (bytesOf s) (m.take j ++ m[j] :: m.drop (j + 1)) = hsum (bytesOf s) (m.take j ++ v :: m.drop (j + 1)) := by rw [← e1]; exact e
        have hlen2 : (m.take j ++ m[j] :: m.drop (j + 1)).length < 18446744073709551616 := by rw [← e1]; omega
        have := hsum_word (bytesOf s) (HashIter.bytesOf_byte s) (by rw [bytesOf_length]; omega) (m.take j) m[j] v (m.drop (j + 1)) hlen2 e3
        exact h (wrapu_i64_inj _ _ hmb hvb this)
      rw [beq_eq_false_iff_ne.2 hne, beq_eq_false_iff_ne.2 h]
  rw [heq, if_pos (by simp), lives_f, bsome]
end Go.Proofs.Ytjekglbodhlfcaa.Pure
