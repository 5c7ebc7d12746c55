/- For every label and every byte slice, and for all pairs of hashes (no condition), the law HashBytes of package hash returns true: Bytes and Pair agree with the reference. -/
import Derived.Test.YtjekglbodhlfcaaHashLaw
namespace Go.Proofs.Ytjekglbodhlfcaa.Pure
open Go Go.RowKit Go.Proofs.Ytjekglbodhlfcaa.PA Go.Proofs.YtjekglbodhlfcaaW.PrintWords Go.Proofs.YtjekglbodhlfcaaW.PrintLast Go.Proofs.YtjekglbodhlfcaaW.PrintMore Go.Proofs.Ytjekglbodhlfcaa.HashPlain
theorem refBytes_l0 (s : ByteArray) (b ws : List Int) (hs : s.size ≤ 100) (hw : ws.length ≤ 1000) : ∀ (d i : Nat), ws.length - i ≤ d → i ≤ ws.length →
    refuterref01_Bytes.l0 (d + 1) s b ws ((ws.take i).map wrap64) (i : Int) = some (hsum (bytesOf s) (ws.map wrap64 ++ [(b.length : Int)])) := by
  intro d
  induction d with
  | zero =>
    intro i h1 h2
    simp only [refuterref01_Bytes.l0]
    rw [if_neg (by omega), if_pos (by simp; omega), List.take_of_length_le (by omega), refsum_f s _ (by omega) (by simp; omega)]
    rfl
  | succ d ih =>
    intro i h1 h2
    by_cases hlt : i < ws.length
    · have hr := ih (i + 1) (by omega) (by omega)
      generalize d + 1 = d1 at hr
      simp only [refuterref01_Bytes.l0]
      rw [if_pos (by omega), if_pos (by omega), if_pos (by simp; omega), show wrap64 ((i : Int) + 1) = ((i + 1 : Nat) : Int) by unfold wrap64; omega]
      have hx : rd ws (i : Int) = ws[i] := by unfold rd; simp [hlt]
      have e : (ws.take i).map wrap64 ++ [wrap64 (rd ws (i : Int))] = (ws.take (i + 1)).map wrap64 := by
        rw [hx, List.take_succ_eq_append_getElem hlt, List.map_append]; rfl
      rw [e]
      exact hr
    · generalize d + 1 = d1
      simp only [refuterref01_Bytes.l0]
      rw [if_neg (by omega), if_pos (by simp; omega), List.take_of_length_le (by omega), refsum_f s _ (by omega) (by simp; omega)]
      rfl
theorem refBytes_f (s : ByteArray) (b : List Int) (hs : s.size ≤ 100) (hb : b.length ≤ 100) (hB : ∀ x ∈ b, Byte x) : ∃ K, ∀ k, K ≤ k → refuterref01_Bytes.f k s b = some (hsum (bytesOf s) ((hwords b).map wrap64 ++ [(b.length : Int)])) := by
  obtain ⟨K, hK⟩ := ref_Words_words b hB (by omega)
  have hwl := hwords_length b
  refine ⟨K + 1000, fun k hk => ?_⟩
  unfold refuterref01_Bytes.f
  rw [at_rounds (g := fun k => refuterref01_Words.f k b) (refuterref01_Words.mono b) (by omega : K ≤ k) hK]
  simp only [bsome]
  have h := refBytes_l0 s b (hwords b) hs (by omega) (k - 1) 0 (by omega) (by omega)
  rw [show k - 1 + 1 = k by omega] at h
  exact h
theorem refpair_f (a b : Int) : refuterref01_Pair.f a b = some (hsum [112, 97, 105, 114] [wrap64 a, wrap64 b]) := by
  unfold refuterref01_Pair.f
  rw [refsum_f _ _ (by decide) (by simp)]
  rfl
theorem HashBytes : refuterlaw01_HashBytes.Pure := by
  intro a l x y _ _ _ hl _ _
  obtain ⟨s, hs, hs2⟩ := short_f a 20 (by omega)
  have hc : (l.take (60 : Int).toNat).length ≤ 60 := by rw [List.length_take]; exact Nat.min_le_left _ _
  have hB := take_mem (n := (60 : Int).toNat) (bytes_wf hl)
  generalize hm : l.take (60 : Int).toNat = m at hc hB
  obtain ⟨K, hK⟩ := refBytes_f s m (by omega) (by omega) hB
  refine ⟨K, ?_⟩
  unfold refuterlaw01_HashBytes.f
  rw [hs, few_f l 60 (by omega) (by omega), hm]
  simp only [bsome]
  rw [bytes_f s m (by omega) (by omega) hB, hK K (Nat.le_refl _)]
  simp only [bsome]
  rw [if_pos trivial, pair_f, refpair_f]
  simp only [bsome]
  rw [if_pos trivial, lives_f, bsome]
end Go.Proofs.Ytjekglbodhlfcaa.Pure
