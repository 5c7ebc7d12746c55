/- Plain words of the hash: bytes changed within one group. No program in sight. -/
import Derived.Test.YtleomgkogbenaaaHashInj
namespace Go.Proofs.Ytleomgkogbenaaa.HashPlain
open Go Go.RowKit
theorem wrapu_wrap64_ (x : Int) (hx : U64 x) : IntKind.u64.wrap (wrap64 x) = x := by unfold wrap64; exact wrapu_wrap64 x hx
/-- Two slices that agree outside one group: the hashes are equal just where the slices are. -/
theorem hbytes_group2 (b x y : List Int) (hb : ∀ z ∈ b, Byte z) (hbl : b.length ≤ 1000) (hx : ∀ z ∈ x, Byte z) (hy : ∀ z ∈ y, Byte z) (hxy : x.length = y.length) (hl : x.length ≤ 1000) (g : Nat) (hg : 8 * g < x.length)
    (ht : x.take (8 * g) = y.take (8 * g)) (hd : x.drop (8 * g + 8) = y.drop (8 * g + 8)) :
    (hsum b ((hwords x).map wrap64 ++ [(x.length : Int)]) == hsum b ((hwords y).map wrap64 ++ [(y.length : Int)])) = decide (x = y) := by
  by_cases he : x = y
  · subst he; simp
  · rw [decide_eq_false he]
    apply beq_eq_false_iff_ne.2
    intro h
    apply he
    have wx := hwords_at x g hg
    have wy := hwords_at y g (by omega)
    rw [← ht, ← hd] at wy
    have hlw := hwords_length x
    have lx : (hwords (x.take (8 * g))).length ≤ 1000 ∧ (hwords (x.drop (8 * g + 8))).length ≤ 1000 := by
      rw [hwords_length, hwords_length, List.length_take, List.length_drop]; omega
    rw [wx, wy, ← hxy, List.map_append, List.map_append, List.map_cons, List.map_cons, List.append_assoc, List.append_assoc, List.cons_append, List.cons_append] at h
    have hlen : ((hwords (x.take (8 * g))).map wrap64 ++ wrap64 (hword ((x.drop (8 * g)).take 8)) :: ((hwords (x.drop (8 * g + 8))).map wrap64 ++ [(x.length : Int)])).length < 18446744073709551616 := by
      rw [List.length_append, List.length_cons, List.length_append, List.length_map, List.length_map]
      simp only [List.length_cons, List.length_nil]
      omega
    have h1 := hsum_word b hb (by omega) _ _ _ _ hlen h
    have gx : ∀ z ∈ (x.drop (8 * g)).take 8, Byte z := fun z hz => hx z (List.mem_of_mem_drop (List.mem_of_mem_take hz))
    have gy : ∀ z ∈ (y.drop (8 * g)).take 8, Byte z := fun z hz => hy z (List.mem_of_mem_drop (List.mem_of_mem_take hz))
    rw [wrapu_wrap64_ _ (hword_u64 _ (by rw [List.length_take]; omega) gx), wrapu_wrap64_ _ (hword_u64 _ (by rw [List.length_take]; omega) gy)] at h1
    have h2 := hword_inj _ _ (by rw [List.length_take, List.length_take, List.length_drop, List.length_drop, hxy]) gx gy h1
    have ex : x = x.take (8 * g) ++ ((x.drop (8 * g)).take 8 ++ x.drop (8 * g + 8)) := by
      rw [← List.drop_drop, List.take_append_drop, List.take_append_drop]
    have ey : y = y.take (8 * g) ++ ((y.drop (8 * g)).take 8 ++ y.drop (8 * g + 8)) := by
      rw [← List.drop_drop, List.take_append_drop, List.take_append_drop]
    rw [ex, ey, ht, h2, hd]
theorem hbytes_small (b x y : List Int) (hb : ∀ z ∈ b, Byte z) (hbl : b.length ≤ 1000) (hx : ∀ z ∈ x, Byte z) (hy : ∀ z ∈ y, Byte z) (hxy : x.length = y.length) (hl : x.length ≤ 8) (h0 : 0 < x.length) :
    (hsum b ((hwords x).map wrap64 ++ [(x.length : Int)]) == hsum b ((hwords y).map wrap64 ++ [(y.length : Int)])) = decide (x = y) :=
  hbytes_group2 b x y hb hbl hx hy hxy (by omega) 0 (by omega) rfl (by rw [List.drop_eq_nil_of_le (by omega), List.drop_eq_nil_of_le (by omega)])
end Go.Proofs.Ytleomgkogbenaaa.HashPlain
