/- For every label and every byte slice (no condition), the law HashOneGroup of package hash returns true: bytes changed within one group of eight change the hash just where the slice changes. -/
import Derived.Test.YtjekglbodhlfcaaHashLaw
namespace Go.Proofs.Ytjekglbodhlfcaa.Pure
open Go Go.RowKit Go.Proofs.Ytjekglbodhlfcaa.PA Go.Proofs.YtjekglbodhlfcaaW.PrintWords Go.Proofs.YtjekglbodhlfcaaW.PrintLast Go.Proofs.YtjekglbodhlfcaaW.PrintMore Go.Proofs.Ytjekglbodhlfcaa.HashPlain
theorem sameBytes_two (x y : List Int) (hxy : x.length = y.length) (hl : x.length ≤ 1000) : ∀ (d i : Nat), x.length - i ≤ d → i ≤ x.length → refuterref01_SameBytes.l0 (d + 1) x y (i : Int) = some (decide (x.drop i = y.drop i)) := by
  intro d
  induction d with
  | zero =>
    intro i h1 h2
    simp only [refuterref01_SameBytes.l0]
    rw [if_neg (by omega), List.drop_eq_nil_of_le (by omega), List.drop_eq_nil_of_le (by omega)]
    simp
  | succ d ih =>
    intro i h1 h2
    by_cases hlt : i < x.length
    · have hr := ih (i + 1) (by omega) (by omega)
      generalize d + 1 = d1 at hr
      have hlt2 : i < y.length := by omega
      have rx : rd x (i : Int) = x[i] := by unfold rd; simp [hlt]
      have ry : rd y (i : Int) = y[i] := by unfold rd; simp [hlt2]
      simp only [refuterref01_SameBytes.l0]
      rw [if_pos (by omega), if_pos (by omega), if_pos (by omega), rx, ry, show wrap64 ((i : Int) + 1) = ((i + 1 : Nat) : Int) by unfold wrap64; omega, List.drop_eq_getElem_cons hlt, List.drop_eq_getElem_cons hlt2]
      by_cases he : x[i] = y[i]
      · rw [if_pos he, hr, he]
        exact congrArg some (decide_eq_decide.2 ⟨fun e => by rw [e], fun e => (List.cons.inj e).2⟩)
      · rw [if_neg he, decide_eq_false (fun e => he (List.cons.inj e).1)]
    · generalize d + 1 = d1
      simp only [refuterref01_SameBytes.l0]
      rw [if_neg (by omega), List.drop_eq_nil_of_le (by omega), List.drop_eq_nil_of_le (by omega)]
      simp
theorem sameBytes_f (x y : List Int) (hxy : x.length = y.length) (hl : x.length ≤ 1000) (k : Nat) (hk : 1002 ≤ k) : refuterref01_SameBytes.f k x y = some (decide (x = y)) := by
  unfold refuterref01_SameBytes.f
  rw [if_pos (by omega)]
  have h := sameBytes_two x y hxy hl (k - 1) 0 (by omega) (by omega)
  rw [show k - 1 + 1 = k by omega] at h
  exact h
/-- Two slices that agree outside one group: the hashes are equal just where the slices are. -/
theorem hbytes_group (b x y : List Int) (hb : ∀ z ∈ b, Byte z) (hbl : b.length ≤ 1000) (hx : ∀ z ∈ x, Byte z) (hy : ∀ z ∈ y, Byte z) (hxy : x.length = y.length) (hl : x.length ≤ 1000) (g : Nat) (hg : 8 * g < x.length)
    (ht : x.take (8 * g) = y.take (8 * g)) (hd : x.drop (8 * g + 8) = y.drop (8 * g + 8)) :
    (hsum b ((hwords x).map wrap64 ++ [(x.length : Int)]) == hsum b ((hwords y).map wrap64 ++ [(y.length : Int)])) = decide (x = y) := by
  by_cases he : x = y
  · subst he; simp
  · rw [decide_eq_false he]
    apply beq_eq_false_iff_ne.2
    intro h
    apply he
    have wx := hwords_at x g hg
    have wy := hwords_at y g (by omega)
    rw [← ht, ← hd] at wy
    have hlw := hwords_length x
    have lx : (hwords (x.take (8 * g))).length ≤ 1000 ∧ (hwords (x.drop (8 * g + 8))).length ≤ 1000 := by
      rw [hwords_length, hwords_length, List.length_take, List.length_drop]; omega
    rw [wx, wy, ← hxy, List.map_append, List.map_append, List.map_cons, List.map_cons, List.append_assoc, List.append_assoc, List.cons_append, List.cons_append] at h
    have hlen : ((hwords (x.take (8 * g))).map wrap64 ++ wrap64 (hword ((x.drop (8 * g)).take 8)) :: ((hwords (x.drop (8 * g + 8))).map wrap64 ++ [(x.length : Int)])).length < 18446744073709551616 := by
      rw [List.length_append, List.length_cons, List.length_append, List.length_map, List.length_map]
      simp only [List.length_cons, List.length_nil]
      omega
    have h1 := hsum_word b hb (by omega) _ _ _ _ hlen h
    have gx : ∀ z ∈ (x.drop (8 * g)).take 8, Byte z := fun z hz => hx z (List.mem_of_mem_drop (List.mem_of_mem_take hz))
    have gy : ∀ z ∈ (y.drop (8 * g)).take 8, Byte z := fun z hz => hy z (List.mem_of_mem_drop (List.mem_of_mem_take hz))
    rw [wrapu_wrap64' _ (hword_u64 _ (by rw [List.length_take]; omega) gx), wrapu_wrap64' _ (hword_u64 _ (by rw [List.length_take]; omega) gy)] at h1
    have h2 := hword_inj _ _ (by rw [List.length_take, List.length_take, List.length_drop, List.length_drop, hxy]) gx gy h1
    have ex : x = x.take (8 * g) ++ ((x.drop (8 * g)).take 8 ++ x.drop (8 * g + 8)) := by
      rw [← List.drop_drop, List.take_append_drop, List.take_append_drop]
    have ey : y = y.take (8 * g) ++ ((y.drop (8 * g)).take 8 ++ y.drop (8 * g + 8)) := by
      rw [← List.drop_drop, List.take_append_drop, List.take_append_drop]
    rw [ex, ey, ht, h2, hd]
theorem take_set_far (l : List Int) (i n : Nat) (v : Int) (h : n ≤ i) : (l.set i v).take n = l.take n := by
  rw [List.take_set, List.set_eq_of_length_le (by rw [List.length_take]; omega)]
theorem drop_set_far (l : List Int) (i n : Nat) (v : Int) (h : i < n) : (l.set i v).drop n = l.drop n := List.drop_set_of_lt h
theorem set_bytes (l : List Int) (i : Nat) (v : Int) (hl : ∀ z ∈ l, Byte z) (hv : Byte v) : ∀ z ∈ l.set i v, Byte z := fun z hz => by
  rcases List.mem_or_eq_of_mem_set hz with h | rfl
  · exact hl z h
  · exact hv
theorem xor_byte (a b : Int) (ha : Byte a) (hb : Byte b) : Byte (Go.bits .xor .u8 a b) := by
  unfold Byte at ha hb
  rw [u8_xor a b ha.1 ha.2 hb.1 hb.2]
  have : a.toNat ^^^ b.toNat < 2 ^ 8 := Nat.xor_lt_two_pow (by omega) (by omega)
  unfold Byte; omega
theorem rd_byte (l : List Int) (i : Int) (hl : ∀ z ∈ l, Byte z) : Byte (rd l i) := by
  unfold rd
  rw [List.getD_eq_getElem?_getD]
  by_cases h : i.toNat < l.length
  · rw [List.getElem?_eq_getElem h]; exact hl _ (List.getElem_mem h)
  · rw [List.getElem?_eq_none (by omega)]; unfold Byte; simp
theorem group_j1 (k : Nat) (hk : 1002 ≤ k) (s : ByteArray) (x y : List Int) (hs : s.size ≤ 100) (hx : ∀ z ∈ x, Byte z) (hy : ∀ z ∈ y, Byte z) (hxy : x.length = y.length) (hl : x.length ≤ 1000) (g : Nat) (hg : 8 * g < x.length)
    (ht : x.take (8 * g) = y.take (8 * g)) (hd : x.drop (8 * g + 8) = y.drop (8 * g + 8)) : refuterlaw01_HashOneGroup.j1 (k + 1) s x y = some true := by
  simp only [refuterlaw01_HashOneGroup.j1]
  rw [bytes_f s x (by omega) (by omega) hx, bsome, bytes_f s y (by omega) (by omega) hy, bsome, sameBytes_f x y hxy hl k hk, bsome]
  rw [hbytes_group (bytesOf s) x y (HashIter.bytesOf_byte s) (by rw [bytesOf_length]; omega) hx hy hxy hl g hg ht hd, if_pos (by simp), lives_f, bsome]
theorem HashOneGroup : refuterlaw01_HashOneGroup.Pure := by
  intro a l at_ one two _ _ _ hl hat h1 h2
  obtain ⟨s, hs, hs2⟩ := short_f a 20 (by omega)
  have hlen : (l.take (39 : Int).toNat).length ≤ 39 := by rw [List.length_take]; exact Nat.min_le_left _ _
  refine ⟨2004, ?_⟩
  unfold refuterlaw01_HashOneGroup.f
  rw [hs, bsome, few_f l 39 (by omega) (by omega), bsome, if_pos (by omega), bsome]
  have hB : ∀ x ∈ l.take (39 : Int).toNat ++ [65], Byte x := by
    intro x hx
    rcases List.mem_append.1 hx with hx | hx
    · exact bytes_wf hl x (List.mem_of_mem_take hx)
    · simp at hx; subst hx; unfold Byte; omega
  have hm1 : (l.take (39 : Int).toNat ++ [65]).length ≤ 40 := by rw [List.length_append]; simp only [List.length_cons, List.length_nil]; omega
  have hm0 : 1 ≤ (l.take (39 : Int).toNat ++ [65]).length := by rw [List.length_append]; simp only [List.length_cons, List.length_nil]; omega
  generalize l.take (39 : Int).toNat ++ [65] = m at hB hm1 hm0
  rw [few_f m 40 (by omega) (by omega), List.take_of_length_le (by omega), bsome]
  obtain ⟨k, hk, hk0, hk1⟩ := around_f at_ (m.length : Int) (by omega) hat
  rw [hk, bsome, if_pos hk0, if_pos hk1, bsome]
  obtain ⟨j, rfl⟩ : ∃ j : Nat, k = (j : Int) := ⟨k.toNat, by omega⟩
  have hw : wrap64 ((j : Int) + 1) = ((j + 1 : Nat) : Int) := by unfold wrap64; omega
  have hv1 := xor_byte (rd m (j : Int)) one (rd_byte m _ hB) (byte_wf h1)
  generalize Go.bits .xor .u8 (rd m (j : Int)) one = v1 at hv1
  rw [hw, Int.toNat_natCast]
  have hY := set_bytes m j v1 hB hv1
  have ht : m.take (8 * (j / 8)) = (m.set j v1).take (8 * (j / 8)) := (take_set_far m j _ v1 (by omega)).symm
  have hd : m.drop (8 * (j / 8) + 8) = (m.set j v1).drop (8 * (j / 8) + 8) := (drop_set_far m j _ v1 (by omega)).symm
  have one_end : refuterlaw01_HashOneGroup.j0 2004 two s m (m.set j v1) (j : Int) false = some true := by
    simp only [refuterlaw01_HashOneGroup.j0]
    rw [if_neg (by simp)]
    exact group_j1 2002 (by omega) s m _ (by omega) hB hY (by rw [List.length_set]) (by omega) (j / 8) (by omega) ht hd
  by_cases hj : ((j + 1 : Nat) : Int) < ((m.set j v1).length : Int)
  · rw [if_pos (by rw [List.length_set] at hj; exact hj)]
    have hmod : Int.tmod ((j + 1 : Nat) : Int) 8 = (((j + 1) % 8 : Nat) : Int) := by rw [Int.tmod_eq_emod_of_nonneg (by omega)]; omega
    rw [hmod]
    by_cases h8 : (j + 1) % 8 = 0
    · rw [h8]
      exact one_end
    · have hne : ((((j + 1) % 8 : Nat) : Int) != 0) = true := by rw [bne_iff_ne]; omega
      rw [hne]
      simp only [refuterlaw01_HashOneGroup.j0]
      rw [if_pos trivial, hw, if_pos (by omega), if_pos hj, Int.toNat_natCast]
      have hv2 := xor_byte (rd (m.set j v1) ((j + 1 : Nat) : Int)) two (rd_byte _ _ hY) (byte_wf h2)
      generalize Go.bits .xor .u8 (rd (m.set j v1) ((j + 1 : Nat) : Int)) two = v2 at hv2
      exact group_j1 2002 (by omega) s m _ (by omega) hB (set_bytes _ _ _ hY hv2) (by rw [List.length_set, List.length_set]) (by omega) (j / 8) (by omega)
        (by rw [take_set_far _ _ _ _ (by omega)]; exact ht) (by rw [drop_set_far _ _ _ _ (by omega)]; exact hd)
  · rw [if_neg (by rw [List.length_set] at hj; exact hj)]
    exact one_end
end Go.Proofs.Ytjekglbodhlfcaa.Pure
