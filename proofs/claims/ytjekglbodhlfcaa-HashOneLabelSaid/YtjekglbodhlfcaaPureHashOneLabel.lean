/- For every list of integers and every label (no condition), the law HashOneLabel of package hash returns true: one byte of the label changed changes the sum. -/
import Derived.Test.YtjekglbodhlfcaaHashLaw
namespace Go.Proofs.Ytjekglbodhlfcaa.Pure
open Go Go.RowKit Go.Proofs.Ytjekglbodhlfcaa.PA Go.Proofs.YtjekglbodhlfcaaW.PrintWords Go.Proofs.YtjekglbodhlfcaaW.PrintLast Go.Proofs.YtjekglbodhlfcaaW.PrintMore Go.Proofs.Ytjekglbodhlfcaa.HashPlain
theorem bytesOf_strOfNums (zs : List Int) (hz : ∀ z ∈ zs, Byte z) : bytesOf (strOfNums zs) = zs := by
  unfold bytesOf strOfNums
  simp only [List.map_map]
  conv => rhs; rw [← List.map_id zs]
  refine List.map_congr_left fun z h => ?_
  have := hz z h
  unfold Byte at this
  simp only [Function.comp_apply, id_eq, UInt8.toNat_ofNat']
  omega
theorem label_set (xs wl : List Int) (hx : ∀ z ∈ xs, Byte z) (hl : xs.length ≤ 100) (hw : wl.length ≤ 100) (j : Nat) (hj : j < xs.length) (v : Int) (hv : Byte v) (hne : xs[j] ≠ v) : hsum xs wl ≠ hsum (xs.set j v) wl := by
  intro h
  have hy : ∀ z ∈ xs.set j v, Byte z := fun z hz => by
    rcases List.mem_or_eq_of_mem_set hz with h | rfl
    · exact hx z h
    · exact hv
  have wx := hwords_at xs (j / 8) (by omega)
  have wy := hwords_at (xs.set j v) (j / 8) (by rw [List.length_set]; omega)
  have t1 : (xs.set j v).take (8 * (j / 8)) = xs.take (8 * (j / 8)) := by rw [List.take_set, List.set_eq_of_length_le (by rw [List.length_take]; omega)]
  have t2 : (xs.set j v).drop (8 * (j / 8) + 8) = xs.drop (8 * (j / 8) + 8) := List.drop_set_of_lt (by omega)
  rw [t1, t2] at wy
  have h1 := hsum_label xs (xs.set j v) hx hy (by rw [List.length_set]) (by omega) wl (by omega) _ _ _ _ wx wy h
  have gx : ∀ z ∈ (xs.drop (8 * (j / 8))).take 8, Byte z := fun z hz => hx z (List.mem_of_mem_drop (List.mem_of_mem_take hz))
  have gy : ∀ z ∈ ((xs.set j v).drop (8 * (j / 8))).take 8, Byte z := fun z hz => hy z (List.mem_of_mem_drop (List.mem_of_mem_take hz))
  have h2 := hword_inj _ _ (by rw [List.length_take, List.length_take, List.length_drop, List.length_drop, List.length_set]) gx gy h1
  have h3 := congrArg (fun l => l[j - 8 * (j / 8)]?) h2
  simp only [List.getElem?_take, List.getElem?_drop] at h3
  rw [if_pos (by omega), if_pos (by omega), show 8 * (j / 8) + (j - 8 * (j / 8)) = j by omega, List.getElem?_set_self hj, List.getElem?_eq_getElem hj] at h3
  exact hne (Option.some.inj h3)
theorem xor_byte' (a b : Int) (ha : Byte a) (hb : Byte b) : Byte (Go.bits .xor .u8 a b) ∧ (Go.bits .xor .u8 a b = a ↔ b = 0) := by
  unfold Byte at ha hb
  obtain ⟨A, rfl⟩ : ∃ A : Nat, a = (A : Int) := ⟨a.toNat, by omega⟩
  obtain ⟨B, rfl⟩ : ∃ B : Nat, b = (B : Int) := ⟨b.toNat, by omega⟩
  rw [u8_xor_nat A B (by omega) (by omega)]
  have h8 : A ^^^ B < 2 ^ 8 := Nat.xor_lt_two_pow (by omega) (by omega)
  refine ⟨by unfold Byte; omega, ⟨fun h => ?_, fun h => ?_⟩⟩
  · have h1 : A ^^^ B = A := by omega
    have h2 : A ^^^ (A ^^^ B) = A ^^^ A := by rw [h1]
    rw [← Nat.xor_assoc, Nat.xor_self, Nat.zero_xor] at h2
    omega
  · have : B = 0 := by omega
    subst this
    simp
theorem HashOneLabel : refuterlaw01_HashOneLabel.Pure := by
  intro a l at_ by_ hat hby
  obtain ⟨s, hs, hs2⟩ := short_f a 29 (by omega)
  have hx1 : (bytesOf (s ++ ⟨#[120]⟩)).length = s.size + 1 := by rw [bytesOf_length, ByteArray.size_append]; rfl
  obtain ⟨k, hk, hk0, hk1⟩ := around_f at_ ((s.size : Int) + 1) (by omega) hat
  obtain ⟨j, rfl⟩ : ∃ j : Nat, k = (j : Int) := ⟨k.toNat, by omega⟩
  have hw : (l.take (6 : Int).toNat).length ≤ 6 := by rw [List.length_take]; exact Nat.min_le_left _ _
  have hxb := HashIter.bytesOf_byte (s ++ ⟨#[120]⟩)
  refine ⟨l.take (6 : Int).toNat, s, j, ints_f l 6 (by omega) (by omega), hw, hs, by omega, ?_, by omega, hk, ?_, lives_f⟩
  · rw [few_f _ 30 (by omega) (by omega), List.take_of_length_le (by omega)]
  · generalize bytesOf (s ++ ⟨#[120]⟩) = xs at hx1 hxb
    generalize l.take (6 : Int).toNat = wl at hw
    have hj : j < xs.length := by omega
    have hr : rdOf 0 xs (j : Int) = xs[j] := by unfold rdOf; simp [hj]
    have hxj := hxb _ (List.getElem_mem hj)
    obtain ⟨hv, hiff⟩ := xor_byte' xs[j] by_ hxj (byte_wf hby)
    rw [hr]
    generalize Go.bits .xor .u8 xs[j] by_ = v at hv hiff
    have hyb : ∀ z ∈ xs.set j v, Byte z := fun z hz => by
      rcases List.mem_or_eq_of_mem_set hz with h | rfl
      · exact hxb z h
      · exact hv
    rw [bytesOf_strOfNums xs hxb, bytesOf_strOfNums _ hyb]
    by_cases h0 : by_ = 0
    · have h1 := hiff.2 h0
      rw [h1, List.set_getElem_self, h0]
      simp
    · have hne : xs[j] ≠ v := fun e => h0 (hiff.1 e.symm)
      have := label_set xs wl hxb (by omega) (by omega) j hj v hv hne
      rw [beq_eq_false_iff_ne.2 this, beq_eq_false_iff_ne.2 h0]
      rfl
end Go.Proofs.Ytjekglbodhlfcaa.Pure
