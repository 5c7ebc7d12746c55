/- For every label and every byte slice (no condition), the law HashGroups of package hash returns true: Bytes is the sum of the words and the length, and a zero byte appended to an open group changes the hash. -/
import Derived.Test.YtjekglbodhlfcaaHashLaw
namespace Go.Proofs.Ytjekglbodhlfcaa.Pure
open Go Go.RowKit Go.Proofs.Ytjekglbodhlfcaa.PA Go.Proofs.YtjekglbodhlfcaaW.PrintWords Go.Proofs.YtjekglbodhlfcaaW.PrintLast Go.Proofs.YtjekglbodhlfcaaW.PrintMore Go.Proofs.Ytjekglbodhlfcaa.HashPlain
theorem groups_end (s : ByteArray) (c : List Int) (hs : s.size ≤ 100) (hc : c.length ≤ 60) (hB : ∀ x ∈ c, Byte x) (k : Nat) :
    refuterlaw01_HashGroups.l0 (k + 1) s c (hwords c) ((hwords c).map wrap64) ((hwords c).length : Int) = some true := by
  have hwl := hwords_length c
  simp only [refuterlaw01_HashGroups.l0]
  rw [if_neg (by omega), bytes_f s c (by omega) (by omega) hB]
  simp only [bsome]
  rw [if_pos (by simp; omega), sum_f s _ (by omega) (by simp; omega)]
  simp only [bsome]
  rw [if_pos trivial, few_f c 60 (by omega) (by omega), List.take_of_length_le (by omega)]
  simp only [bsome]
  rw [if_pos (by omega), lives_f]
  simp only [bsome]
  by_cases h8 : (c.length : Int) % 8 = 0
  · rw [if_pos h8]
  · rw [if_neg h8]
    have hB0 : ∀ x ∈ c ++ [0], Byte x := by
      intro x hx
      rcases List.mem_append.1 hx with hx | hx
      · exact hB x hx
      · simp at hx; subst hx; unfold Byte; omega
    rw [bytes_f s (c ++ [0]) (by omega) (by simp; omega) hB0]
    simp only [bsome]
    rw [if_neg]
    rw [hwords_zero c (by omega)]
    intro e
    have hl0 : (c ++ [0]).length = c.length + 1 := by rw [List.length_append]; rfl
    rw [hl0] at e
    generalize hX : ((c.length + 1 : Nat) : Int) = X at e
    generalize hY : (c.length : Int) = Y at e
    have hlen : ((hwords c).map wrap64 ++ [X]).length < 18446744073709551616 := by rw [List.length_append, List.length_map]; simp only [List.length_cons, List.length_nil]; omega
    have h3 := hsum_word (bytesOf s) (HashIter.bytesOf_byte s) (by rw [bytesOf_length]; omega) ((hwords c).map wrap64) X Y [] hlen e
    rw [IntWalk.u64_in _ ⟨by omega, by omega⟩, IntWalk.u64_in _ ⟨by omega, by omega⟩] at h3
    omega
theorem groups_l0 (s : ByteArray) (c : List Int) (hs : s.size ≤ 100) (hc : c.length ≤ 60) (hB : ∀ x ∈ c, Byte x) : ∀ (d i : Nat), (hwords c).length - i ≤ d → i ≤ (hwords c).length →
    refuterlaw01_HashGroups.l0 (d + 1) s c (hwords c) (((hwords c).take i).map wrap64) (i : Int) = some true := by
  intro d
  have hwl := hwords_length c
  induction d with
  | zero =>
    intro i h1 h2
    have hi : i = (hwords c).length := by omega
    rw [hi, List.take_length]
    exact groups_end s c hs hc hB 0
  | succ d ih =>
    intro i h1 h2
    by_cases hlt : i < (hwords c).length
    · have hr := ih (i + 1) (by omega) (by omega)
      generalize d + 1 = d1 at hr
      simp only [refuterlaw01_HashGroups.l0]
      rw [if_pos (by omega), if_pos (by omega), if_pos (by simp; omega), show wrap64 ((i : Int) + 1) = ((i + 1 : Nat) : Int) by unfold wrap64; omega]
      have hx : rd (hwords c) (i : Int) = (hwords c)[i] := by unfold rd; simp [hlt]
      have e : ((hwords c).take i).map wrap64 ++ [wrap64 (rd (hwords c) (i : Int))] = ((hwords c).take (i + 1)).map wrap64 := by
        rw [hx, List.take_succ_eq_append_getElem hlt, List.map_append]; rfl
      rw [e]
      exact hr
    · have hi : i = (hwords c).length := by omega
      rw [hi, List.take_length]
      exact groups_end s c hs hc hB (d + 1)
theorem HashGroups : refuterlaw01_HashGroups.Pure := by
  intro a l _ _ _ hl
  obtain ⟨s, hs, hs2⟩ := short_f a 20 (by omega)
  have hc : (l.take (60 : Int).toNat).length ≤ 60 := by rw [List.length_take]; exact Nat.min_le_left _ _
  have hB := take_mem (n := (60 : Int).toNat) (bytes_wf hl)
  generalize hm : l.take (60 : Int).toNat = m at hc hB
  obtain ⟨K, hK⟩ := ref_Words_words m hB (by omega)
  have hwl := hwords_length m
  refine ⟨K + 100, ?_⟩
  unfold refuterlaw01_HashGroups.f
  rw [hs, few_f l 60 (by omega) (by omega), hm]
  simp only [bsome]
  rw [at_rounds (g := fun k => refuterref01_Words.f k m) (refuterref01_Words.mono m) (by omega : K ≤ K + 100) hK]
  simp only [bsome]
  exact groups_l0 s m (by omega) (by omega) hB (K + 99) 0 (by omega) (by omega)
end Go.Proofs.Ytjekglbodhlfcaa.Pure
