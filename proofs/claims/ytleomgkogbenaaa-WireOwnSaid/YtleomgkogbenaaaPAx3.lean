/- Written by a program of this session (pw.py, over the kit's printer): contracts, with their walks, of the Go functions that a law reaches; a text named ..Law.. proves the given statement of that law, with no condition of its own. -/
import Derived.Test.YtleomgkogbenaaaPAx0
import Derived.Test.YtleomgkogbenaaaPAx1
import Derived.Test.YtleomgkogbenaaaPAx2
namespace Go.Proofs.Ytleomgkogbenaaa.PA
open Go.Proofs.Ytleomgkogbenaaa.HashPlain
open Go.Proofs.Ytleomgkogbenaaa.WirePlain
open Go.Proofs.Ytleomgkogbenaaa.WireWr
open Go.Proofs.Ytleomgkogbenaaa.WireRd
open Go.Proofs.Ytleomgkogbenaaa.Pw
open Go.RowKit Go.Proofs.YtleomgkogbenaaaW.PrintWords Go.Proofs.YtleomgkogbenaaaW.PrintLast Go.Proofs.YtleomgkogbenaaaW.PrintMore
attribute [local go_sem] max2_int min2_int max_two min_two max_three min_three max_four min_four   -- for this text's walks alone
set_option linter.unusedVariables false
set_option linter.unusedSimpArgs false

/-! ### refuterref02_Vals: function 19 -/
/-- The encoding of a value. -/
def encV (x : S47) : List Int := if x.f0 = 0 then encU x.f1.toNat else if x.f0 = 1 then encI x.f2 else if x.f0 = 2 then encB (x.f2 == 1) else if x.f0 = 3 ∨ x.f0 = 4 then encRaw x.f3 else encInts x.f4
/-- A value in its bounds. -/
def CanV (x : S47) : Prop := (0 ≤ x.f1 ∧ x.f1 < 18446744073709551616) ∧ (-9223372036854775808 ≤ x.f2 ∧ x.f2 < 9223372036854775808) ∧ (∀ y ∈ x.f3, 0 ≤ y ∧ y < 256) ∧ InR x.f4 ∧ x.f3.length ≤ 5000 ∧ x.f4.length ≤ 5000
def encVs (l : List S47) : List Int := l.flatMap encV
theorem encVs_snoc (l : List S47) (x : S47) : encVs (l ++ [x]) = encVs l ++ encV x := by simp [encVs]
theorem encV_len (x : S47) (h : CanV x) : (encV x).length ≤ 60000 := by
  obtain ⟨⟨u0, u1⟩, ⟨n0, n1⟩, hby, hin, hl3, hl4⟩ := h
  unfold encV
  split
  · have := encU_ten x.f1.toNat (by omega); omega
  split
  · have := encU_ten (zig x.f2) (zig_lt x.f2 n0 n1); unfold encI; omega
  split
  · unfold encB; have := encU_ten (if (x.f2 == 1) = true then 1 else 0) (by split <;> omega); omega
  split
  · unfold encRaw; have := encU_ten x.f3.length (by omega); rw [List.length_append]; omega
  · unfold encInts; have := encU_ten x.f4.length (by omega); have := encList_len x.f4 hin; rw [List.length_append]; omega
theorem encVs_len : ∀ (l : List S47), (∀ x ∈ l, CanV x) → (encVs l).length ≤ 60000 * l.length
  | [], _ => by simp [encVs]
  | x :: l, h => by
    have h1 := encV_len x (h x List.mem_cons_self)
    have h2 := encVs_len l (fun y hy => h y (List.mem_cons_of_mem _ hy))
    unfold encVs at h2 ⊢
    rw [List.flatMap_cons, List.length_append, List.length_cons]
    omega
theorem rd_T_mem (l : List S47) (k : Nat) (h : k < l.length) : rd_T47 l (k : Int) = l[k] := by
  unfold rd_T47
  rw [Int.toNat_natCast, List.getD_eq_getElem?_getD, List.getElem?_eq_getElem h]; rfl
/-- What 'Vals' makes: a value of one of the six kinds, in its bounds; what its kind does not use is zero. -/
def GenV (x : S47) : Prop := (x.f0 = 0 ∧ 0 ≤ x.f1 ∧ x.f1 < 18446744073709551616 ∧ x.f2 = 0 ∧ x.f3 = [] ∧ x.f4 = []) ∨ (x.f0 = 1 ∧ x.f1 = 0 ∧ -9223372036854775808 ≤ x.f2 ∧ x.f2 < 9223372036854775808 ∧ x.f3 = [] ∧ x.f4 = []) ∨
  (x.f0 = 2 ∧ x.f1 = 0 ∧ (x.f2 = 0 ∨ x.f2 = 1) ∧ x.f3 = [] ∧ x.f4 = []) ∨ ((x.f0 = 3 ∨ x.f0 = 4) ∧ x.f1 = 0 ∧ x.f2 = 0 ∧ (∀ y ∈ x.f3, 0 ≤ y ∧ y < 256) ∧ x.f3.length ≤ 10 ∧ x.f4 = []) ∨ (x.f0 = 5 ∧ x.f1 = 0 ∧ x.f2 = 0 ∧ x.f3 = [] ∧ InR x.f4 ∧ x.f4.length ≤ 10)
theorem canV_of_gen {x : S47} (h : GenV x) : CanV x := by
  obtain ⟨k, u, n, b, l⟩ := x
  unfold GenV at h
  unfold CanV
  simp only at h ⊢
  rcases h with ⟨rfl, h1, h2, rfl, rfl, rfl⟩ | ⟨rfl, rfl, h1, h2, rfl, rfl⟩ | ⟨rfl, rfl, h1, rfl, rfl⟩ | ⟨h0, rfl, rfl, h1, h2, rfl⟩ | ⟨rfl, rfl, rfl, rfl, h1, h2⟩
  · exact ⟨⟨h1, h2⟩, by omega, by simp, (fun y hy => (nomatch hy)), by simp, by simp⟩
  · exact ⟨by omega, ⟨h1, h2⟩, by simp, (fun y hy => (nomatch hy)), by simp, by simp⟩
  · exact ⟨by omega, by omega, by simp, (fun y hy => (nomatch hy)), by simp, by simp⟩
  · exact ⟨by omega, by omega, h1, (fun y hy => (nomatch hy)), Nat.le_trans h2 (by decide), by simp⟩
  · exact ⟨by omega, by omega, by simp, h1, by simp, Nat.le_trans h2 (by decide)⟩
theorem encV_small (x : S47) (h : GenV x) : (encV x).length ≤ 200 := by
  obtain ⟨k, u, n, b, l⟩ := x
  unfold GenV at h
  unfold encV
  simp only at h ⊢
  rcases h with ⟨rfl, h1, h2, rfl, rfl, rfl⟩ | ⟨rfl, rfl, h1, h2, rfl, rfl⟩ | ⟨rfl, rfl, h1, rfl, rfl⟩ | ⟨h0, rfl, rfl, h1, h2, rfl⟩ | ⟨rfl, rfl, rfl, rfl, h1, h2⟩
  · rw [if_pos rfl]; have := encU_ten u.toNat (by omega); omega
  · rw [if_neg (by decide), if_pos rfl]; have := encU_ten (zig n) (zig_lt n h1 h2); unfold encI; omega
  · rw [if_neg (by decide), if_neg (by decide), if_pos rfl, encB_eq]; simp
  · rw [if_neg (by omega), if_neg (by omega), if_neg (by omega), if_pos h0]; have := encU_ten b.length (by omega); unfold encRaw; rw [List.length_append]; omega
  · rw [if_neg (by decide), if_neg (by decide), if_neg (by decide), if_neg (by decide)]; have := encU_ten l.length (by omega); have := encList_len l h1; unfold encInts; rw [List.length_append]; omega
theorem encVs_small : ∀ (l : List S47), (∀ x ∈ l, GenV x) → (encVs l).length ≤ 200 * l.length
  | [], _ => by simp [encVs]
  | x :: l, h => by
    have h1 := encV_small x (h x List.mem_cons_self)
    have h2 := encVs_small l (fun y hy => h y (List.mem_cons_of_mem _ hy))
    unfold encVs at h2 ⊢
    rw [List.flatMap_cons, List.length_append, List.length_cons]
    omega
theorem encV_byte (x : S47) (h : CanV x) : ∀ y ∈ encV x, 0 ≤ y ∧ y < 256 := by
  intro y hy
  unfold encV at hy
  by_cases e0 : x.f0 = 0
  · rw [if_pos e0] at hy; exact encU_byte _ _ (Nat.le_refl _) y hy
  rw [if_neg e0] at hy
  by_cases e1 : x.f0 = 1
  · rw [if_pos e1] at hy; exact encU_byte _ _ (Nat.le_refl _) y hy
  rw [if_neg e1] at hy
  by_cases e2 : x.f0 = 2
  · rw [if_pos e2] at hy; exact encU_byte _ _ (Nat.le_refl _) y hy
  rw [if_neg e2] at hy
  by_cases e3 : x.f0 = 3 ∨ x.f0 = 4
  · rw [if_pos e3] at hy; exact encRaw_byte x.f3 h.2.2.1 y hy
  · rw [if_neg e3] at hy; exact encInts_byte x.f4 y hy
theorem encVs_byte (l : List S47) (h : ∀ x ∈ l, CanV x) : ∀ y ∈ encVs l, 0 ≤ y ∧ y < 256 := by
  intro y hy
  obtain ⟨x, hx, hy⟩ := List.mem_flatMap.mp hy
  exact encV_byte x (h x hx) y hy
theorem encVs_cons (x : S47) (l : List S47) : encVs (x :: l) = encV x ++ encVs l := by simp [encVs]
theorem bsome_ {α β : Type} (a : α) (f : α → Option β) : (some a).bind f = f a := rfl
theorem refUint_l0 : ∀ (d n : Nat) (acc : List Int), n ≤ d → n < 18446744073709551616 → acc.length + (encU n).length < 140737488355328 → ∃ K, refuterref02_Uint.l0 K (n : Int) acc = some (acc ++ encU n) := by
  intro d
  induction d with
  | zero =>
    intro n acc hd hn hl
    obtain rfl : n = 0 := by omega
    refine ⟨1, ?_⟩
    rw [encU_small (by omega)] at hl ⊢
    simp only [refuterref02_Uint.l0]
    rw [if_neg (by omega), if_pos (by simp only [List.length_singleton] at hl; omega)]
    rfl
  | succ d ih =>
    intro n acc hd hn hl
    by_cases c : n < 128
    · refine ⟨1, ?_⟩
      rw [encU_small c] at hl ⊢
      simp only [refuterref02_Uint.l0]
      rw [if_neg (by omega), if_pos (by simp only [List.length_singleton] at hl; omega), show (n : Int) % 256 = (n : Int) by omega]
    · rw [encU_big c] at hl ⊢
      rw [List.length_cons] at hl
      obtain ⟨K, hK⟩ := ih (n / 128) (acc ++ [((n % 128 + 128 : Nat) : Int)]) (by omega) (by omega) (by rw [List.length_append, List.length_singleton]; omega)
      refine ⟨K + 1, ?_⟩
      simp only [refuterref02_Uint.l0]
      rw [if_pos (by omega), if_pos (by omega)]
      have e1 : IntKind.u64.wrap (Int.tdiv (n : Int) 128) = ((n / 128 : Nat) : Int) := by rw [Int.tdiv_eq_ediv_of_nonneg (by omega), IntKind.wrap_u64]; omega
      have e2 : (IntKind.u64.wrap (128 + (Int.tmod (n : Int) 128))) % 256 = ((n % 128 + 128 : Nat) : Int) := by rw [Int.tmod_eq_emod_of_nonneg (by omega), IntKind.wrap_u64]; omega
      rw [e1, e2, hK, List.append_assoc, List.singleton_append]
theorem refUint (n : Nat) (hn : n < 18446744073709551616) : ∃ K, ∀ k, K ≤ k → refuterref02_Uint.f k (n : Int) = some (encU n) := by
  obtain ⟨K, hK⟩ := refUint_l0 n n [] (Nat.le_refl _) hn (by have := encU_ten n hn; simp only [List.length_nil]; omega)
  obtain ⟨K', hK'⟩ := Ev.of (g := fun k => refuterref02_Uint.f k (n : Int)) (fun k => refuterref02_Uint.mono _ k) (k := K) (show refuterref02_Uint.f K (n : Int) = some (encU n) by unfold refuterref02_Uint.f; rw [hK, List.nil_append])
  exact ⟨K', fun k hk => hK' k hk⟩
theorem refZigzag (n : Int) (h1 : -9223372036854775808 ≤ n) (h2 : n < 9223372036854775808) : refuterref02_Zigzag.f n = some (zig n : Int) := by
  unfold refuterref02_Zigzag.f zig
  by_cases h : n < 0
  · rw [if_pos h, if_neg (by omega), show wrap64 (-(wrap64 (n + 1))) = -(n + 1) by unfold wrap64; omega]
    congr 1
    simp only [IntKind.wrap_u64]
    omega
  · rw [if_neg h, if_pos (by omega)]
    congr 1
    simp only [IntKind.wrap_u64]
    omega
theorem refInt (n : Int) (h1 : -9223372036854775808 ≤ n) (h2 : n < 9223372036854775808) : ∃ K, ∀ k, K ≤ k → refuterref02_Int.f k n = some (encI n) := by
  obtain ⟨K, hK⟩ := refUint (zig n) (zig_lt n h1 h2)
  refine ⟨K, fun k hk => ?_⟩
  unfold refuterref02_Int.f
  rw [refZigzag n h1 h2, bsome_, hK k hk, bsome_]
  rfl
theorem refBool (b : Bool) : refuterref02_Bool.f b = some (encB b) := by
  unfold refuterref02_Bool.f
  rw [encB_eq]
  cases b <;> rfl
theorem refRaw (l : List Int) (hl : l.length ≤ 5000) : ∃ K, ∀ k, K ≤ k → refuterref02_Raw.f k l = some (encRaw l) := by
  obtain ⟨K, hK⟩ := refUint l.length (by omega)
  refine ⟨K, fun k hk => ?_⟩
  unfold refuterref02_Raw.f
  rw [show IntKind.u64.wrap (l.length : Int) = (l.length : Int) by rw [IntKind.wrap_u64]; omega, hK k hk, bsome_, if_pos (by have := encU_ten l.length (by omega); omega)]
  rfl
theorem refInts_l0 (l : List Int) (hR : InR l) (hl : l.length ≤ 5000) : ∀ (d j : Nat) (acc : List Int), l.length - j ≤ d → j ≤ l.length → acc.length ≤ 100 + 10 * j → ∃ K, ∀ k, K ≤ k → refuterref02_Ints.l0 k l acc (j : Int) = some (acc ++ encList (l.drop j)) := by
  intro d
  induction d with
  | zero =>
    intro j acc hd hj ha
    refine ⟨1, fun k hk => ?_⟩
    obtain ⟨k, rfl⟩ : ∃ m, k = m + 1 := ⟨k - 1, by omega⟩
    simp only [refuterref02_Ints.l0]
    rw [if_neg (by omega), List.drop_eq_nil_of_le (by omega)]
    simp [encList]
  | succ d ih =>
    intro j acc hd hj ha
    by_cases c : j < l.length
    · have hx := hR l[j] (List.getElem_mem c)
      have h10 := encU_ten (zig l[j]) (zig_lt _ hx.1 hx.2)
      obtain ⟨K1, h1⟩ := refInt l[j] hx.1 hx.2
      obtain ⟨K2, h2⟩ := ih (j + 1) (acc ++ encI l[j]) (by omega) (by omega) (by rw [List.length_append]; unfold encI; omega)
      refine ⟨K1 + K2 + 1, fun k hk => ?_⟩
      obtain ⟨k, rfl⟩ : ∃ m, k = m + 1 := ⟨k - 1, by omega⟩
      simp only [refuterref02_Ints.l0]
      have hr : rd l (j : Int) = l[j] := by unfold rd; simp [c]
      rw [if_pos (by omega), if_pos (by omega), hr, h1 k (by omega), bsome_, if_pos (by unfold encI; omega), show wrap64 ((j : Int) + 1) = ((j + 1 : Nat) : Int) by unfold wrap64; omega, h2 k (by omega), List.drop_eq_getElem_cons c, encList, List.append_assoc]
    · refine ⟨1, fun k hk => ?_⟩
      obtain ⟨k, rfl⟩ : ∃ m, k = m + 1 := ⟨k - 1, by omega⟩
      simp only [refuterref02_Ints.l0]
      rw [if_neg (by omega), List.drop_eq_nil_of_le (by omega)]
      simp [encList]
theorem refInts (l : List Int) (hR : InR l) (hl : l.length ≤ 5000) : ∃ K, ∀ k, K ≤ k → refuterref02_Ints.f k l = some (encInts l) := by
  obtain ⟨K1, h1⟩ := refUint l.length (by omega)
  obtain ⟨K2, h2⟩ := refInts_l0 l hR hl l.length 0 (encU l.length) (by omega) (by omega) (by have := encU_ten l.length (by omega); omega)
  refine ⟨K1 + K2, fun k hk => ?_⟩
  unfold refuterref02_Ints.f
  rw [show IntKind.u64.wrap (l.length : Int) = (l.length : Int) by rw [IntKind.wrap_u64]; omega, h1 k (by omega), bsome_]
  have := h2 k (by omega)
  simpa [encInts] using this
theorem refEncode_l0 (l : List S47) (hC : ∀ x ∈ l, CanV x) (hl : l.length ≤ 100) : ∀ (d j : Nat) (acc : List Int), l.length - j ≤ d → j ≤ l.length → acc.length ≤ 60000 * j → ∃ K, ∀ k, K ≤ k → refuterref02_Encode.l0 k l acc (j : Int) = some (acc ++ encVs (l.drop j)) := by
  intro d
  induction d with
  | zero =>
    intro j acc hd hj ha
    refine ⟨1, fun k hk => ?_⟩
    obtain ⟨k, rfl⟩ : ∃ m, k = m + 1 := ⟨k - 1, by omega⟩
    simp only [refuterref02_Encode.l0]
    rw [if_neg (by omega), List.drop_eq_nil_of_le (by omega)]
    simp [encVs]
  | succ d ih =>
    intro j acc hd hj ha
    by_cases c : j < l.length
    · have hx := hC l[j] (List.getElem_mem c)
      have hlen := encV_len l[j] hx
      obtain ⟨K2, h2⟩ := ih (j + 1) (acc ++ encV l[j]) (by omega) (by omega) (by rw [List.length_append]; omega)
      have hr := rd_T_mem l j c
      have hw : wrap64 ((j : Int) + 1) = ((j + 1 : Nat) : Int) := by unfold wrap64; omega
      have hend : acc ++ encV l[j] ++ encVs (l.drop (j + 1)) = acc ++ encVs (l.drop j) := by
        rw [List.drop_eq_getElem_cons c]; unfold encVs; rw [List.flatMap_cons, List.append_assoc]
      rw [hend] at h2
      have hlt : acc.length + (encV l[j]).length < 140737488355328 := by omega
      obtain ⟨⟨u0, u1⟩, ⟨n0, n1⟩, hby, hin, hl3, hl4⟩ := hx
      generalize l[j] = x at h2 hlen hr u0 u1 n0 n1 hby hin hl3 hl4 hlt
      by_cases e0 : x.f0 = 0
      · obtain ⟨K1, h1⟩ := refUint x.f1.toNat (by omega)
        have ev : encV x = encU x.f1.toNat := by simp [encV, e0]
        rw [ev] at h2 hlt
        refine ⟨K1 + K2 + 1, fun k hk => ?_⟩
        obtain ⟨k, rfl⟩ : ∃ m, k = m + 1 := ⟨k - 1, by omega⟩
        have h1k := h1 k (by omega)
        rw [Int.toNat_of_nonneg u0] at h1k
        simp only [refuterref02_Encode.l0]
        rw [if_pos (by omega), if_pos (by omega), hr, if_pos e0, h1k, bsome_, if_pos hlt, hw, h2 k (by omega)]
      by_cases e1 : x.f0 = 1
      · obtain ⟨K1, h1⟩ := refInt x.f2 n0 n1
        have ev : encV x = encI x.f2 := by simp [encV, e1]
        rw [ev] at h2 hlt
        refine ⟨K1 + K2 + 1, fun k hk => ?_⟩
        obtain ⟨k, rfl⟩ : ∃ m, k = m + 1 := ⟨k - 1, by omega⟩
        simp only [refuterref02_Encode.l0]
        rw [if_pos (by omega), if_pos (by omega), hr, if_neg e0, if_pos e1, h1 k (by omega), bsome_, if_pos hlt, hw, h2 k (by omega)]
      by_cases e2 : x.f0 = 2
      · have ev : encV x = encB (x.f2 == 1) := by simp [encV, e2]
        rw [ev] at h2 hlt
        refine ⟨K2 + 1, fun k hk => ?_⟩
        obtain ⟨k, rfl⟩ : ∃ m, k = m + 1 := ⟨k - 1, by omega⟩
        simp only [refuterref02_Encode.l0]
        rw [if_pos (by omega), if_pos (by omega), hr, if_neg e0, if_neg e1, if_pos e2, refBool, bsome_, if_pos hlt, hw, h2 k (by omega)]
      by_cases e34 : x.f0 = 3 ∨ x.f0 = 4
      · obtain ⟨K1, h1⟩ := refRaw x.f3 hl3
        have ev : encV x = encRaw x.f3 := by simp [encV, e0, e1, e2, e34]
        rw [ev] at h2 hlt
        refine ⟨K1 + K2 + 2, fun k hk => ?_⟩
        obtain ⟨k, rfl⟩ : ∃ m, k = m + 2 := ⟨k - 2, by omega⟩
        simp only [refuterref02_Encode.l0]
        rw [if_pos (by omega), if_pos (by omega), hr, if_neg e0, if_neg e1, if_neg e2]
        have hj1 : refuterref02_Encode.j1 (k + 1) l acc (j : Int) true = some (acc ++ encVs (l.drop j)) := by
          simp only [refuterref02_Encode.j1]
          rw [if_pos trivial, if_pos (by omega), if_pos (by omega), hr, h1 k (by omega), bsome_, if_pos hlt, hw, h2 k (by omega)]
        by_cases e3 : x.f0 = 3
        · rw [if_pos e3, show (x.f0 == 3) = true by rw [e3]; rfl]; exact hj1
        · have e4 : x.f0 = 4 := by omega
          rw [if_neg e3, show (x.f0 == 4) = true by rw [e4]; rfl]; exact hj1
      · obtain ⟨K1, h1⟩ := refInts x.f4 hin hl4
        have ev : encV x = encInts x.f4 := by simp [encV, e0, e1, e2, e34]
        rw [ev] at h2 hlt
        refine ⟨K1 + K2 + 2, fun k hk => ?_⟩
        obtain ⟨k, rfl⟩ : ∃ m, k = m + 2 := ⟨k - 2, by omega⟩
        simp only [refuterref02_Encode.l0]
        rw [if_pos (by omega), if_pos (by omega), hr, if_neg e0, if_neg e1, if_neg e2, if_neg (show ¬ x.f0 = 3 by omega), show (x.f0 == 4) = false by simp only [beq_eq_false_iff_ne]; omega]
        simp only [refuterref02_Encode.j1]
        rw [if_neg (by decide), if_pos (by omega), if_pos (by omega), hr, h1 k (by omega), bsome_, if_pos hlt, hw, h2 k (by omega)]
    · refine ⟨1, fun k hk => ?_⟩
      obtain ⟨k, rfl⟩ : ∃ m, k = m + 1 := ⟨k - 1, by omega⟩
      simp only [refuterref02_Encode.l0]
      rw [if_neg (by omega), List.drop_eq_nil_of_le (by omega)]
      simp [encVs]
theorem refEncode (l : List S47) (hC : ∀ x ∈ l, CanV x) (hl : l.length ≤ 100) : ∃ K, refuterref02_Encode.f K l = some (encVs l) := by
  obtain ⟨K, hK⟩ := refEncode_l0 l hC hl l.length 0 [] (by omega) (by omega) (by simp)
  refine ⟨K, ?_⟩
  unfold refuterref02_Encode.f
  have := hK K (Nat.le_refl _)
  simpa using this
theorem infoV : (Try.prog.info? 47).map (fun i => (i.zero, i.size, i.bytes)) = some (some (.agg #[(.int .i64 0), (.int .u64 0), (.int .i64 0), (.slice none 0 0), (.slice none 0 0)]), 5, 72) := by kernel_rfl
theorem aroundV (a n : Int) (hn : 0 < n) (ha : -9223372036854775808 ≤ a ∧ a ≤ 9223372036854775807) : ∃ s : Nat, (s : Int) < n ∧ refuterref01_Around.f a n = some (s : Int) := by
  have key : ∀ x : Int, 0 ≤ x → ∃ s : Nat, (s : Int) < n ∧ Int.tmod x n = (s : Int) := fun x h0 => by
    rw [Int.tmod_eq_emod_of_nonneg h0]
    have h1 := Int.emod_nonneg x (show n ≠ 0 by omega)
    have h2 := Int.emod_lt_of_pos x hn
    exact ⟨(x % n).toNat, by omega, by omega⟩
  unfold refuterref01_Around.f
  have hn0 : ¬ n = 0 := by omega
  rw [if_neg hn0, if_neg hn0]
  by_cases h : a < 0
  · rw [if_pos h, show wrap64 (-(wrap64 (a + 1))) = -(a + 1) by unfold wrap64; omega]
    obtain ⟨s, h1, h2⟩ := key (-(a + 1)) (by omega)
    exact ⟨s, h1, by rw [h2]⟩
  · rw [if_neg h]
    obtain ⟨s, h1, h2⟩ := key a (by omega)
    exact ⟨s, h1, by rw [h2]⟩
section
variable {ops : Array Oper} {rest : List Oper} {o : Oper} {a : Act} {Q : Exit → Act → World → Prop}
/-- append(out, v), behind 'at_builtin'. -/
theorem appV (base : Nat) (wr : World) (hgd : o.guard = none) (s x : Operand) (ho : o.op = .call { callee := .builtin .append, args := #[s, x], argTypes := #[35, 35] })
    (v : Value) (xs : List S47) (p : S47) (v3 v4 : Value) (hs : a.eval s = v) (hx : a.eval x = .slice (some ⟨wr.heap.size, 0, none⟩) 1 1)
    (h3 : (Kd.int .u8).R 5 wr base (fun _ => True) v3 p.f3) (h4 : (Kd.int .i64).R 3 wr base (fun _ => True) v4 p.f4)
    (hR : Kd.R k47 47 wr base (fun _ => True) v xs) (hB : base ≤ wr.heap.size) (hl : (xs.length + 1) * 72 ≤ 140737488355328)
    (h : ∀ v1 w1, Aside0 (Kd.R k47 47 w1 base (fun _ => True) v1 (xs ++ [p])) → Aside0 (Below base wr w1) → wpList Try.prog ops Q rest (a.put o.dst v1) w1) :
    wpList Try.prog ops Q (o :: rest) a (wr.alloc (.cells #[.int .i64 p.f0, .int .u64 p.f1, .int .i64 p.f2, v3, v4] 47)) := by
  refine Kd.R_append k47 (w0 := wr) base hgd s x 35 47 (.agg #[(.int .i64 0), (.int .u64 0), (.int .i64 0), (.slice none 0 0), (.slice none 0 0)]) 72 ho Try.underlying35 infoV rfl (by decide) (by omega) v xs p [.int .i64 p.f0, .int .u64 p.f1, .int .i64 p.f2, v3, v4] (fun _ => True) (fun k => True ∧ some k ≠ v.ownBlock) hs hx
    (k47_mkM wr base _ p (Kd.R_apartR h3 hR (fun q hq => by simp [Kd.int, Kd.scalar] at hq; subst hq; decide)) (Kd.R_apartR h4 hR (fun q hq => by simp [Kd.int, Kd.scalar] at hq; subst hq; decide))) (fun k hk => hk)
    (fun k hk => trivial) hR (Below.refl _ _) hB hl ?_
  intro v1 w1 hown hbw hgr hat
  exact h v1 w1 ⟨hown⟩ ⟨hbw⟩
end
theorem five_cells {w1 : World} {n T : Nat} {v0 v1 v2 v3 v4 : Value} (h : w1.heap[n]? = some (.cells #[v0, v1, v2, v3, v4] T (0, 0))) :
    (w1.cell? ⟨n, 0, none⟩ = some v0 ∧ w1.cell? ⟨n, 1, none⟩ = some v1 ∧ w1.cell? ⟨n, 2, none⟩ = some v2 ∧ w1.cell? ⟨n, 3, none⟩ = some v3 ∧ w1.cell? ⟨n, 4, none⟩ = some v4) ∧
    (w1.frozen? ⟨n, 0, none⟩ = false ∧ w1.frozen? ⟨n, 1, none⟩ = false ∧ w1.frozen? ⟨n, 2, none⟩ = false ∧ w1.frozen? ⟨n, 3, none⟩ = false ∧ w1.frozen? ⟨n, 4, none⟩ = false) :=
  ⟨⟨(blk_cell h 0).trans rfl, (blk_cell h 1).trans rfl, (blk_cell h 2).trans rfl, (blk_cell h 3).trans rfl, (blk_cell h 4).trans rfl⟩, blk_frozen h 0, blk_frozen h 1, blk_frozen h 2, blk_frozen h 3, blk_frozen h 4⟩
section
variable {ops : Array Oper} {rest : List Oper} {o : Oper} {a : Act} {Q : Exit → Act → World → Prop}
theorem litVs (R : S47 → List Value → Prop) (W : World) (ys : List S47) (inner : List Value) (hrep : Reps R 5 ys inner) (hm : ys.length ≤ 1000) : ReadsRow R 5 (W.alloc (.cells inner.toArray 47)) (some ⟨W.heap.size, 0, none⟩) ys.length ys := by
  have hs : inner.toArray.size = ys.length * 5 := by rw [List.size_toArray]; exact hrep.1
  have h := World.ownsRow_lit (base := 0) (e := 47) (size := 5) W inner.toArray ys.length (Nat.zero_le _) (by simp only [maxLen]; omega) hs
  obtain ⟨A, c, he, hr⟩ := own_reads_row (R := R) h (by simpa using hrep) rfl
  injection he with h1 h2 h3
  rw [h1]
  exact hr
/-- append(out, v, ..), behind 'at_builtin'. -/
theorem appVs (base : Nat) (W : World) (hgd : o.guard = none) (s x : Operand) (ho : o.op = .call { callee := .builtin .append, args := #[s, x], argTypes := #[35, 35] })
    (v : Value) (xs ys : List S47) (inner : List Value) (hs : a.eval s = v) (hx : a.eval x = .slice (some ⟨W.heap.size, 0, none⟩) ys.length ys.length)
    (hrep : Reps (k47.M W base (fun k => True ∧ some k ≠ v.ownBlock)) 5 ys inner) (hR : Kd.R k47 47 W base (fun _ => True) v xs) (hB : base ≤ W.heap.size) (hm : ys.length ≤ 1000) (hl : xs.length ≤ 1000)
    (h : ∀ v1 w1, Aside0 (Kd.R k47 47 w1 base (fun _ => True) v1 (xs ++ ys)) → Aside0 (Below base W w1) → wpList Try.prog ops Q rest (a.put o.dst v1) w1) :
    wpList Try.prog ops Q (o :: rest) a (W.alloc (.cells inner.toArray 47)) := by
  refine Kd.R_append_rows k47 (w0 := W) base hgd s x 35 47 (.agg #[(.int .i64 0), (.int .u64 0), (.int .i64 0), (.slice none 0 0), (.slice none 0 0)]) 72 ho Try.underlying35 infoV rfl (by decide) (by omega) v xs ys (some ⟨W.heap.size, 0, none⟩) ys.length ys.length (fun _ => True) (fun k => True ∧ some k ≠ v.ownBlock) hs hx
    (Kd.R_below hR (below_alloc (Below.refl _ _) _)) (litVs _ W ys inner hrep hm) (fun x cs hk => Kd.M_below hk (below_alloc (Below.refl _ _) _)) (fun k hk => hk) (fun k hk => trivial) ((Below.refl base W).alloc hB _) (by rw [World.size_alloc]; omega) (by omega) ?_
  intro v1 w1 hown hbw hgr hat
  exact h v1 w1 ⟨hown⟩ ⟨hbw⟩
end
section
variable {ops : Array Oper} {o : Oper} {a : Act} {Q : Exit → Act → World → Prop} {Kc : Act → World → Prop}
/-- v.B = append(v.B, x), v.L = append(v.L, x), behind 'at_builtin': v lies at block B0, its field at j. -/
theorem appF (k : IntKind) (t e : TypeId) (by_ : Nat) (base B0 j : Nat) (ws wr : World) (hw : Region.wanted o (yielded ops a.tmps) = true) (s x : Operand) (ho : o.op = .call { callee := .builtin .append, args := #[s, x], argTypes := #[t, t] })
    (ht : Try.prog.underlying t = some (.slice e)) (hinfo : (Try.prog.info? e).map (fun i => (i.zero, i.size, i.bytes)) = some (some (.int k 0), 1, by_)) (hb0 : 0 < by_) (cells : Array Value)
    (u : Value) (row : List Int) (p : Int) (v3 : Value) (xs : List S47) (hs : a.eval s = u) (hx : a.eval x = .slice (some ⟨wr.heap.size, 0, none⟩) 1 1)
    (hbk : wr.heap[B0]? = some (.cells cells 47 (0, 0))) (hcj : cells[j]? = some u) (hR : (Kd.int k).R e wr B0 (fun i => i ≠ B0) u row) (hX : Kd.R k47 47 wr base (fun i => i < B0) v3 xs) (hW : Below B0 ws wr) (hl : (row.length + 1) * by_ ≤ 140737488355328)
    (h : ∀ v1 w1, w1.cell? ⟨B0, j, none⟩ = some u → w1.frozen? ⟨B0, j, none⟩ = false → Aside0 ((w1.setCell ⟨B0, j, none⟩ v1).heap[B0]? = some (.cells (cells.setIfInBounds j v1) 47 (0, 0))) → Aside0 ((Kd.int k).R e (w1.setCell ⟨B0, j, none⟩ v1) B0 (fun i => i ≠ B0) v1 (row ++ [p])) →
      Aside0 (Kd.R k47 47 (w1.setCell ⟨B0, j, none⟩ v1) base (fun i => i < B0) v3 xs) → Aside0 (Below B0 ws (w1.setCell ⟨B0, j, none⟩ v1)) → Kc (a.put o.dst v1) w1) :
    if Region.wanted o (yielded ops a.tmps) = true then Oper.wp Try.prog o a (wr.alloc (.cells #[.int k p] e)).drew Kc Q else Kc (a.put o.dst undef) (wr.alloc (.cells #[.int k p] e)).drew := by
  replace hbk := blk_drew hbk
  replace hR := Kd.R_drew hR
  replace hX := Kd.R_drew hX
  replace hW := below_drew hW
  change if Region.wanted o (yielded ops a.tmps) = true then Oper.wp Try.prog o a (wr.drew.alloc (.cells #[.int k p] e)) Kc Q else Kc (a.put o.dst undef) (wr.drew.alloc (.cells #[.int k p] e))
  replace hx : a.eval x = .slice (some ⟨wr.drew.heap.size, 0, none⟩) 1 1 := hx
  generalize wr.drew = wr at hbk hR hX hW hx ⊢
  have hlt := blk_lt hbk
  refine Kd.R_append_step (Kd.int k) (w0 := wr) B0 hw s x t e (.int k 0) by_ ho ht hinfo rfl (show 0 < 1 by decide) hb0 u row p [.int k p] (fun i => i ≠ B0) (fun _ => False) hs hx rfl (fun _ hk => hk.elim)
    (fun i hi => by omega) hR (Below.refl _ _) (by omega) hl ?_
  intro v1 w1 hown hbw hgr hat
  have hb1 := blk_grown hbk hgr (fun e => hR.1 B0 e.symm rfl)
  have hX1 := Kd.R_grown hX hgr (fun i hi e => by
    have := Kd.R_base2 hR
    rcases this with h0 | ⟨q, hq, hge⟩
    · rw [h0] at e; cases e
    · rw [hq] at e; injection e with e; omega)
  exact h v1 w1 ((blk_cell hb1 j).trans hcj) (blk_frozen hb1 j) ⟨by simpa using blk_set hb1 j v1⟩ ⟨Kd.R_far hown (fun i hi => hi) v1⟩ ⟨Kd.R_far hX1 (fun i hi => by show i ≠ B0; omega) v1⟩ ⟨(hW.trans hbw).setCell (p := ⟨B0, j, none⟩) (Nat.le_refl _) _⟩
end
theorem shr_u64 (x : Int) (s : Nat) : 0 ≤ IntKind.u64.wrap x / 2 ^ s ∧ IntKind.u64.wrap x / 2 ^ s < 18446744073709551616 := by
  have h1 : 0 ≤ IntKind.u64.wrap x ∧ IntKind.u64.wrap x < 18446744073709551616 := by rw [IntKind.wrap_u64]; omega
  have hp : (0 : Int) < 2 ^ s := Int.pow_pos (by omega)
  exact ⟨Int.ediv_nonneg h1.1 (by omega), Int.lt_of_le_of_lt (Int.ediv_le_self _ h1.1) h1.2⟩
theorem shr_i64 (x : Int) (s : Nat) (h1 : -9223372036854775808 ≤ x) (h2 : x ≤ 9223372036854775807) : -9223372036854775808 ≤ x / 2 ^ s ∧ x / 2 ^ s < 9223372036854775808 := by
  have hp : (0 : Int) < 2 ^ s := Int.pow_pos (by omega)
  generalize (2 : Int) ^ s = p at hp
  constructor
  · refine (Int.le_ediv_iff_mul_le hp).mpr ?_
    have := Int.mul_le_mul_of_nonneg_left (show (1 : Int) ≤ p by omega) (show (0 : Int) ≤ 9223372036854775808 by omega)
    omega
  · refine (Int.ediv_lt_iff_lt_mul hp).mpr ?_
    have := Int.mul_le_mul_of_nonneg_left (show (1 : Int) ≤ p by omega) (show (0 : Int) ≤ 9223372036854775808 by omega)
    omega
theorem tdiv_six (x : Int) (h1 : -9223372036854775808 ≤ x) (h2 : x ≤ 9223372036854775807) : -9223372036854775808 ≤ x.tdiv 6 ∧ x.tdiv 6 ≤ 9223372036854775807 := by
  by_cases h : 0 ≤ x
  · rw [Int.tdiv_eq_ediv_of_nonneg h]; omega
  · have e : x.tdiv 6 = -((-x).tdiv 6) := by rw [Int.neg_tdiv, Int.neg_neg]
    rw [e, Int.tdiv_eq_ediv_of_nonneg (by omega)]; omega
set_option maxHeartbeats 8000000 in
set_option maxRecDepth 100000 in
theorem Vals_c (A : Option Addr) (c : Nat) (l : List Int) (w : World) (hR : Kd.C (Kd.int .i64) w A l.length l) (hx : ∀ x ∈ l, -9223372036854775808 ≤ x ∧ x ≤ 9223372036854775807) :
    Calls Try.prog 19 #[.slice A l.length c] w fun e w' => ∃ v xs, e = .returned v ∧ Kd.R k47 47 w' w.heap.size (fun _ => True) v xs ∧ xs.length ≤ 8 ∧ (∀ x ∈ xs, GenV x) ∧ Below w.heap.size w w' := by
  have HR := Aside0.mk hR
  have HX := Aside0.mk hx
  have HB0 : Aside0 (Below w.heap.size w w) := ⟨Below.refl _ _⟩
  have hu := Try.underlying47
  clear hR hx
  go_enter Try.func19, Try.ntmps19
  go_wp2
  go_loopw [3, 4] (fun v3 v4 wr => ∃ (k : Nat) (xs : List S47), v4 = .int .i64 (k : Int) ∧ k ≤ 8 ∧ k ≤ l.length ∧ Aside0 (xs.length = k ∧ ∀ x ∈ xs, GenV x) ∧ Aside0 (Kd.R k47 47 wr w.heap.size (fun _ => True) v3 xs) ∧ Aside0 (Below w.heap.size w wr)) (fun _ v4 _ => 8 - (intOf v4).toNat)
  case atStart => exact ⟨0, [], rfl, by omega, by omega, ⟨rfl, by simp⟩, ⟨Kd.R_nil _ _ _ _ _⟩, HB0⟩
  case round =>
    clear HB0
    obtain ⟨k, xs, rfl, hk8, hkl, HXS, HO, HB⟩ := hrel
    by_cases hlt : k < l.length
    · by_cases h8 : k < 8
      · obtain ⟨ad, rfl, hx⟩ := Kd.at_int (Kd.C_below HR.out HB.out) (k : Int) (by omega) (by omega)
        rw [Int.toNat_natCast] at hx
        have hr : rd l (k : Int) = l[k] := by unfold rd; simp [hlt]
        rw [hr] at hx
        have hxr := HX.out l[k] (List.getElem_mem hlt)
        generalize l[k] = x at hx hxr
        clear hr
        obtain ⟨hx1, hx2⟩ := hxr
        obtain ⟨kd, hkd, hkf⟩ := aroundV x 6 (by omega) ⟨hx1, hx2⟩
        have hq : wrap64 (x.tdiv 6) = x.tdiv 6 := by
          have := tdiv_six x hx1 hx2
          unfold wrap64; omega
        obtain ⟨n, hn, hnf⟩ := aroundV (x.tdiv 6) 63 (by omega) (tdiv_six x hx1 hx2)
        have HKF := Aside0.mk hkf
        have HNF := Aside0.mk hnf
        have hk1 : wrap64 ((k : Int) + 1) = (k : Int) + 1 := by unfold wrap64; omega
        clear hkf hnf
        by_cases e0 : kd = 0
        · subst e0
          have HGEN : Aside0 (GenV (⟨0, IntKind.u64.wrap x / 2 ^ n, 0, [], []⟩ : S47)) := ⟨Or.inl ⟨rfl, (shr_u64 x n).1, (shr_u64 x n).2, rfl, rfl, rfl⟩⟩
          go_wp2_with (first
            | (go_at_call_of 11 (Value.int .i64 6); refine (refuterref01_Around.calls x 6 (((0 : Nat) : Int) : Int) _ HKF.out).mono ?_; rintro e w1 ⟨rfl, hd⟩; have hx_1 := pw_cell_below hd.below hx; have HO1 := Aside0.mk (Kd.R_below HO.out hd.below); have HB1 := Aside0.mk (HB.out.trans (hd.below.mono HB.out.size)); clear hd hx HO HB)
            | (go_at_call_of 11 (Value.int .i64 63); refine (refuterref01_Around.calls (x.tdiv 6) 63 (n : Int) _ HNF.out).mono ?_; rintro e w2 ⟨rfl, hd⟩; have hx := pw_cell_below hd.below hx_1; have HO := Aside0.mk (Kd.R_below HO1.out hd.below); have HB := Aside0.mk (HB1.out.trans (hd.below.mono HB1.out.size)); have hxa : ∀ o, (w2.alloc o).cell? (ad.add k) = some (Value.int .i64 x) := (fun o => (World.cell?_alloc_lt _ _ _ (World.block_lt_of_cell? _ _ hx)).trans hx); clear hd hx_1 HO1 HB1)
            | ((with_reducible refine gate_builtin (b := .append) (xs := #[.tmp 101, .tmp 103]) rfl ?_); at_builtin
               refine appV w.heap.size _ rfl (.tmp 101) (.tmp 103) rfl u3 xs (⟨0, IntKind.u64.wrap x / 2 ^ n, 0, [], []⟩ : S47) (.slice none 0 0) (.slice none 0 0) rfl (by rw [World.size_alloc]; rfl) (Kd.R_nil _ _ _ _ _) (Kd.R_nil _ _ _ _ _) (Kd.R_below HO.out (below_alloc (Below.refl _ _) _)) (by rw [World.size_alloc]; have := HB.out.size; omega) (by have := HXS.out.1; omega) ?_
               intro v1 w3 HO3 HB3))
          exact ⟨⟨k + 1, xs ++ [(⟨0, IntKind.u64.wrap x / 2 ^ n, 0, [], []⟩ : S47)], by first | rfl | (rw [hk1]; rfl), by omega, by omega, ⟨by rw [List.length_append, HXS.out.1]; rfl, fun y hy => by rcases List.mem_append.mp hy with h | h; exact HXS.out.2 y h; rw [List.mem_singleton.mp h]; exact HGEN.out⟩, HO3, ⟨(HB.out.trans (below_alloc (Below.refl _ _) _ |>.mono HB.out.size)).trans HB3.out⟩⟩, by first | (simp only [intOf]; omega) | (rw [hk1]; simp only [intOf]; omega)⟩
        by_cases e1 : kd = 1
        · subst e1
          have HGEN : Aside0 (GenV (⟨1, 0, x / 2 ^ n, [], []⟩ : S47)) := ⟨Or.inr (Or.inl ⟨rfl, rfl, (shr_i64 x n hx1 hx2).1, (shr_i64 x n hx1 hx2).2, rfl, rfl⟩)⟩
          go_wp2_with (first
            | (go_at_call_of 11 (Value.int .i64 6); refine (refuterref01_Around.calls x 6 (((1 : Nat) : Int) : Int) _ HKF.out).mono ?_; rintro e w1 ⟨rfl, hd⟩; have hx_1 := pw_cell_below hd.below hx; have HO1 := Aside0.mk (Kd.R_below HO.out hd.below); have HB1 := Aside0.mk (HB.out.trans (hd.below.mono HB.out.size)); clear hd hx HO HB)
            | (go_at_call_of 11 (Value.int .i64 63); refine (refuterref01_Around.calls (x.tdiv 6) 63 (n : Int) _ HNF.out).mono ?_; rintro e w2 ⟨rfl, hd⟩; have hx := pw_cell_below hd.below hx_1; have HO := Aside0.mk (Kd.R_below HO1.out hd.below); have HB := Aside0.mk (HB1.out.trans (hd.below.mono HB1.out.size)); have hxa : ∀ o, (w2.alloc o).cell? (ad.add k) = some (Value.int .i64 x) := (fun o => (World.cell?_alloc_lt _ _ _ (World.block_lt_of_cell? _ _ hx)).trans hx); clear hd hx_1 HO1 HB1)
            | ((with_reducible refine gate_builtin (b := .append) (xs := #[.tmp 101, .tmp 103]) rfl ?_); at_builtin
               refine appV w.heap.size _ rfl (.tmp 101) (.tmp 103) rfl u3 xs (⟨1, 0, x / 2 ^ n, [], []⟩ : S47) (.slice none 0 0) (.slice none 0 0) rfl (by rw [World.size_alloc]; rfl) (Kd.R_nil _ _ _ _ _) (Kd.R_nil _ _ _ _ _) (Kd.R_below HO.out (below_alloc (Below.refl _ _) _)) (by rw [World.size_alloc]; have := HB.out.size; omega) (by have := HXS.out.1; omega) ?_
               intro v1 w3 HO3 HB3))
          exact ⟨⟨k + 1, xs ++ [(⟨1, 0, x / 2 ^ n, [], []⟩ : S47)], by first | rfl | (rw [hk1]; rfl), by omega, by omega, ⟨by rw [List.length_append, HXS.out.1]; rfl, fun y hy => by rcases List.mem_append.mp hy with h | h; exact HXS.out.2 y h; rw [List.mem_singleton.mp h]; exact HGEN.out⟩, HO3, ⟨(HB.out.trans (below_alloc (Below.refl _ _) _ |>.mono HB.out.size)).trans HB3.out⟩⟩, by first | (simp only [intOf]; omega) | (rw [hk1]; simp only [intOf]; omega)⟩
        by_cases e2 : kd = 2
        · subst e2
          have HGEN : Aside0 (GenV (⟨2, 0, (n : Int) % 2, [], []⟩ : S47)) := ⟨Or.inr (Or.inr (Or.inl ⟨rfl, rfl, by show (n : Int) % 2 = 0 ∨ (n : Int) % 2 = 1; omega, rfl, rfl⟩))⟩
          go_wp2_with (first
            | (go_at_call_of 11 (Value.int .i64 6); refine (refuterref01_Around.calls x 6 (((2 : Nat) : Int) : Int) _ HKF.out).mono ?_; rintro e w1 ⟨rfl, hd⟩; have hx_1 := pw_cell_below hd.below hx; have HO1 := Aside0.mk (Kd.R_below HO.out hd.below); have HB1 := Aside0.mk (HB.out.trans (hd.below.mono HB.out.size)); clear hd hx HO HB)
            | (go_at_call_of 11 (Value.int .i64 63); refine (refuterref01_Around.calls (x.tdiv 6) 63 (n : Int) _ HNF.out).mono ?_; rintro e w2 ⟨rfl, hd⟩; have hx := pw_cell_below hd.below hx_1; have HO := Aside0.mk (Kd.R_below HO1.out hd.below); have HB := Aside0.mk (HB1.out.trans (hd.below.mono HB1.out.size)); have hxa : ∀ o, (w2.alloc o).cell? (ad.add k) = some (Value.int .i64 x) := (fun o => (World.cell?_alloc_lt _ _ _ (World.block_lt_of_cell? _ _ hx)).trans hx); clear hd hx_1 HO1 HB1)
            | ((with_reducible refine gate_builtin (b := .append) (xs := #[.tmp 101, .tmp 103]) rfl ?_); at_builtin
               refine appV w.heap.size _ rfl (.tmp 101) (.tmp 103) rfl u3 xs (⟨2, 0, (n : Int) % 2, [], []⟩ : S47) (.slice none 0 0) (.slice none 0 0) rfl (by rw [World.size_alloc]; rfl) (Kd.R_nil _ _ _ _ _) (Kd.R_nil _ _ _ _ _) (Kd.R_below HO.out (below_alloc (Below.refl _ _) _)) (by rw [World.size_alloc]; have := HB.out.size; omega) (by have := HXS.out.1; omega) ?_
               intro v1 w3 HO3 HB3))
          exact ⟨⟨k + 1, xs ++ [(⟨2, 0, (n : Int) % 2, [], []⟩ : S47)], by first | rfl | (rw [hk1]; rfl), by omega, by omega, ⟨by rw [List.length_append, HXS.out.1]; rfl, fun y hy => by rcases List.mem_append.mp hy with h | h; exact HXS.out.2 y h; rw [List.mem_singleton.mp h]; exact HGEN.out⟩, HO3, ⟨(HB.out.trans (below_alloc (Below.refl _ _) _ |>.mono HB.out.size)).trans HB3.out⟩⟩, by first | (simp only [intOf]; omega) | (rw [hk1]; simp only [intOf]; omega)⟩
        by_cases e3 : kd = 3
        · subst e3
          have hn0 : (0 : Int) ≤ (n : Int) := by omega
          go_wp2_with (first
            | (go_at_call_of 11 (Value.int .i64 6); refine (refuterref01_Around.calls x 6 (((3 : Nat) : Int) : Int) _ HKF.out).mono ?_; rintro e w1 ⟨rfl, hd⟩; have hx_1 := pw_cell_below hd.below hx; have HO1 := Aside0.mk (Kd.R_below HO.out hd.below); have HB1 := Aside0.mk (HB.out.trans (hd.below.mono HB.out.size)); clear hd hx HO HB)
            | (go_at_call_of 11 (Value.int .i64 63); refine (refuterref01_Around.calls (x.tdiv 6) 63 (n : Int) _ HNF.out).mono ?_; rintro e w2 ⟨rfl, hd⟩; have hx := pw_cell_below hd.below hx_1; have HO := Aside0.mk (Kd.R_below HO1.out hd.below); have HB := Aside0.mk (HB1.out.trans (hd.below.mono HB1.out.size)); have hxa : ∀ o, (w2.alloc o).cell? (ad.add k) = some (Value.int .i64 x) := (fun o => (World.cell?_alloc_lt _ _ _ (World.block_lt_of_cell? _ _ hx)).trans hx); clear hd hx_1 HO1 HB1))
          have hHB0 : (w2.alloc (.cells #[.int .i64 3, .int .u64 0, .int .i64 0, .slice none 0 0, .slice none 0 0] 47)).heap[w2.heap.size]? = some (.cells #[.int .i64 3, .int .u64 0, .int .i64 0, .slice none 0 0, .slice none 0 0] 47 (0, 0)) := blk_new w2 _
          have hRB := Kd.R_below (Kd.R_mono (Kd.R_bound HO.out) (fun j hj => hj.2.2.1)) (below_alloc (Below.refl w2.heap.size w2) (.cells #[.int .i64 3, .int .u64 0, .int .i64 0, .slice none 0 0, .slice none 0 0] 47))
          have hBB : Below w.heap.size w (w2.alloc (.cells #[.int .i64 3, .int .u64 0, .int .i64 0, .slice none 0 0, .slice none 0 0] 47)) := HB.out.trans (below_alloc (Below.refl _ _) _ |>.mono HB.out.size)
          go_loopw [8] (fun v8 wr => ∃ (m : Nat) (row : List Int) (u : Value), v8 = .int .i64 (m : Int) ∧ m ≤ n % 10 ∧ Aside0 (row.length = m ∧ ∀ y ∈ row, 0 ≤ y ∧ y < 256) ∧ Aside0 (wr.heap[w2.heap.size]? = some (.cells #[.int .i64 3, .int .u64 0, .int .i64 0, u, .slice none 0 0] 47 (0, 0))) ∧ Aside0 ((Kd.int .u8).R 5 wr w2.heap.size (fun j => j ≠ w2.heap.size) u row) ∧
            Aside0 (Kd.R k47 47 wr w.heap.size (fun j => j < w2.heap.size) u3 xs) ∧ Aside0 (Below w2.heap.size w2 wr)) (fun v8 _ => n % 10 - (intOf v8).toNat)
          case atStart => exact ⟨0, [], .slice none 0 0, rfl, by omega, ⟨rfl, by simp⟩, ⟨hHB0⟩, ⟨Kd.R_nil _ _ _ _ _⟩, ⟨hRB⟩, ⟨below_alloc (Below.refl _ _) _⟩⟩
          case round =>
            clear hHB0 hRB hBB hxa
            obtain ⟨m, row, u, rfl, hm, HROW, HBK, HRU, HRX, HBW⟩ := hrel
            obtain ⟨Au, cu, rfl, -, -⟩ := Kd.R_reads HRU.out
            have hxw := pw_cell_below HBW.out hx
            have hc3 : wr.cell? ⟨w2.heap.size, 3, none⟩ = some (.slice Au row.length cu) := (blk_cell HBK.out 3).trans rfl
            have hf3 := blk_frozen HBK.out 3
            have hm1 : wrap64 ((m : Int) + 1) = (m : Int) + 1 := by unfold wrap64; omega
            clear hx
            by_cases hlm : m < n % 10
            · have hd1 : decide ((m : Int) < (n : Int) % 10) = true := decide_eq_true (by omega)
              go_wp2
              have hcu : ∀ o, (wr.alloc o).cell? ⟨w2.heap.size, 3, none⟩ = some (.slice Au row.length cu) := fun o => (World.cell?_alloc_lt _ _ _ (World.block_lt_of_cell? _ _ hc3)).trans hc3
              have hcx : ∀ o, (wr.alloc o).cell? (ad.add k) = some (.int .i64 x) := fun o => (World.cell?_alloc_lt _ _ _ (World.block_lt_of_cell? _ _ hxw)).trans hxw
              go_region_law ((refine appF .u8 24 5 1 w.heap.size w2.heap.size 3 w2 wr (by rfl) (.tmp 89) (.tmp 98) rfl Try.underlying24 info_u8 (by decide) _ (.slice Au row.length cu) row (IntKind.u8.wrap (x / 2 ^ min (IntKind.u64.wrap (m : Int)).toNat 64)) u3 xs rfl rfl HBK.out rfl HRU.out HRX.out HBW.out (by have := HROW.out.1; omega) ?_; intro v1 w4 hc4 hf4 HBK4 HRU4 HRX4 HBW4; obtain ⟨A1, c1, rfl, -, -⟩ := Kd.R_reads HRU4.out; generalize (row ++ [IntKind.u8.wrap (x / 2 ^ min (IntKind.u64.wrap (m : Int)).toNat 64)]).length = rl at HBK4 HRU4 HRX4 HBW4 ⊢))
              all_goals
                go_wp2
                have hxb : 0 ≤ IntKind.u8.wrap (x / 2 ^ min (IntKind.u64.wrap (m : Int)).toNat 64) ∧ IntKind.u8.wrap (x / 2 ^ min (IntKind.u64.wrap (m : Int)).toNat 64) < 256 := by rw [IntKind.wrap_u8]; exact ⟨Int.emod_nonneg _ (by decide), Int.emod_lt_of_pos _ (by decide)⟩
                exact ⟨⟨m + 1, row ++ [IntKind.u8.wrap (x / 2 ^ min (IntKind.u64.wrap (m : Int)).toNat 64)], .slice A1 rl c1, by first | rfl | (rw [hm1]; rfl), by omega, ⟨by rw [List.length_append, HROW.out.1]; rfl, fun y hy => by rcases List.mem_append.mp hy with h | h; exact HROW.out.2 y h; rw [List.mem_singleton.mp h]; exact hxb⟩, HBK4, HRU4, HRX4, HBW4⟩, by first | (simp only [intOf]; omega) | (rw [hm1]; simp only [intOf]; omega)⟩
            · have hd1 : decide ((m : Int) < (n : Int) % 10) = false := decide_eq_false (by omega)
              have HGEN : Aside0 (GenV (⟨3, 0, 0, row, []⟩ : S47)) := ⟨Or.inr (Or.inr (Or.inr (Or.inl ⟨Or.inl rfl, rfl, rfl, HROW.out.2, by have := HROW.out.1; show row.length ≤ 10; omega, rfl⟩)))⟩
              obtain ⟨⟨c50, c51, c52, c53, c54⟩, f50, f51, f52, f53, f54⟩ := five_cells HBK.out
              clear hc3 hf3 hxw
              go_wp2_with (first
                | ((with_reducible refine gate_builtin (b := .append) (xs := #[.tmp 101, .tmp 103]) rfl ?_); at_builtin
                   refine appV w.heap.size _ rfl (.tmp 101) (.tmp 103) rfl u3 xs (⟨3, 0, 0, row, []⟩ : S47) (.slice Au row.length cu) (.slice none 0 0) rfl rfl (Kd.R_mono (Kd.R_lower HRU.out HB.out.size) (fun _ _ => trivial)) (Kd.R_nil _ _ _ _ _) (Kd.R_mono HRX.out (fun _ _ => trivial)) (Nat.le_trans HB.out.size HBW.out.size) (by have := HXS.out.1; omega) ?_
                   intro v1 w5 HO3 HB3))
              exact ⟨⟨k + 1, xs ++ [(⟨3, 0, 0, row, []⟩ : S47)], by first | rfl | (rw [hk1]; rfl), by omega, by omega, ⟨by rw [List.length_append, HXS.out.1]; rfl, fun y hy => by rcases List.mem_append.mp hy with h | h; exact HXS.out.2 y h; rw [List.mem_singleton.mp h]; exact HGEN.out⟩, HO3, ⟨(HB.out.trans (HBW.out.mono HB.out.size)).trans HB3.out⟩⟩, by first | (simp only [intOf]; omega) | (rw [hk1]; simp only [intOf]; omega)⟩
        by_cases e4 : kd = 4
        · subst e4
          have hn0 : (0 : Int) ≤ (n : Int) := by omega
          go_wp2_with (first
            | (go_at_call_of 11 (Value.int .i64 6); refine (refuterref01_Around.calls x 6 (((4 : Nat) : Int) : Int) _ HKF.out).mono ?_; rintro e w1 ⟨rfl, hd⟩; have hx_1 := pw_cell_below hd.below hx; have HO1 := Aside0.mk (Kd.R_below HO.out hd.below); have HB1 := Aside0.mk (HB.out.trans (hd.below.mono HB.out.size)); clear hd hx HO HB)
            | (go_at_call_of 11 (Value.int .i64 63); refine (refuterref01_Around.calls (x.tdiv 6) 63 (n : Int) _ HNF.out).mono ?_; rintro e w2 ⟨rfl, hd⟩; have hx := pw_cell_below hd.below hx_1; have HO := Aside0.mk (Kd.R_below HO1.out hd.below); have HB := Aside0.mk (HB1.out.trans (hd.below.mono HB1.out.size)); have hxa : ∀ o, (w2.alloc o).cell? (ad.add k) = some (Value.int .i64 x) := (fun o => (World.cell?_alloc_lt _ _ _ (World.block_lt_of_cell? _ _ hx)).trans hx); clear hd hx_1 HO1 HB1))
          have hHB0 : (w2.alloc (.cells #[.int .i64 4, .int .u64 0, .int .i64 0, .slice none 0 0, .slice none 0 0] 47)).heap[w2.heap.size]? = some (.cells #[.int .i64 4, .int .u64 0, .int .i64 0, .slice none 0 0, .slice none 0 0] 47 (0, 0)) := blk_new w2 _
          have hRB := Kd.R_below (Kd.R_mono (Kd.R_bound HO.out) (fun j hj => hj.2.2.1)) (below_alloc (Below.refl w2.heap.size w2) (.cells #[.int .i64 4, .int .u64 0, .int .i64 0, .slice none 0 0, .slice none 0 0] 47))
          have hBB : Below w.heap.size w (w2.alloc (.cells #[.int .i64 4, .int .u64 0, .int .i64 0, .slice none 0 0, .slice none 0 0] 47)) := HB.out.trans (below_alloc (Below.refl _ _) _ |>.mono HB.out.size)
          go_loopw [8] (fun v8 wr => ∃ (m : Nat) (row : List Int) (u : Value), v8 = .int .i64 (m : Int) ∧ m ≤ n % 10 ∧ Aside0 (row.length = m ∧ ∀ y ∈ row, 0 ≤ y ∧ y < 256) ∧ Aside0 (wr.heap[w2.heap.size]? = some (.cells #[.int .i64 4, .int .u64 0, .int .i64 0, u, .slice none 0 0] 47 (0, 0))) ∧ Aside0 ((Kd.int .u8).R 5 wr w2.heap.size (fun j => j ≠ w2.heap.size) u row) ∧
            Aside0 (Kd.R k47 47 wr w.heap.size (fun j => j < w2.heap.size) u3 xs) ∧ Aside0 (Below w2.heap.size w2 wr)) (fun v8 _ => n % 10 - (intOf v8).toNat)
          case atStart => exact ⟨0, [], .slice none 0 0, rfl, by omega, ⟨rfl, by simp⟩, ⟨hHB0⟩, ⟨Kd.R_nil _ _ _ _ _⟩, ⟨hRB⟩, ⟨below_alloc (Below.refl _ _) _⟩⟩
          case round =>
            clear hHB0 hRB hBB hxa
            obtain ⟨m, row, u, rfl, hm, HROW, HBK, HRU, HRX, HBW⟩ := hrel
            obtain ⟨Au, cu, rfl, -, -⟩ := Kd.R_reads HRU.out
            have hxw := pw_cell_below HBW.out hx
            have hc3 : wr.cell? ⟨w2.heap.size, 3, none⟩ = some (.slice Au row.length cu) := (blk_cell HBK.out 3).trans rfl
            have hf3 := blk_frozen HBK.out 3
            have hm1 : wrap64 ((m : Int) + 1) = (m : Int) + 1 := by unfold wrap64; omega
            clear hx
            by_cases hlm : m < n % 10
            · have hd1 : decide ((m : Int) < (n : Int) % 10) = true := decide_eq_true (by omega)
              go_wp2
              have hcu : ∀ o, (wr.alloc o).cell? ⟨w2.heap.size, 3, none⟩ = some (.slice Au row.length cu) := fun o => (World.cell?_alloc_lt _ _ _ (World.block_lt_of_cell? _ _ hc3)).trans hc3
              have hcx : ∀ o, (wr.alloc o).cell? (ad.add k) = some (.int .i64 x) := fun o => (World.cell?_alloc_lt _ _ _ (World.block_lt_of_cell? _ _ hxw)).trans hxw
              go_region_law ((refine appF .u8 24 5 1 w.heap.size w2.heap.size 3 w2 wr (by rfl) (.tmp 89) (.tmp 98) rfl Try.underlying24 info_u8 (by decide) _ (.slice Au row.length cu) row (IntKind.u8.wrap (x / 2 ^ min (IntKind.u64.wrap (m : Int)).toNat 64)) u3 xs rfl rfl HBK.out rfl HRU.out HRX.out HBW.out (by have := HROW.out.1; omega) ?_; intro v1 w4 hc4 hf4 HBK4 HRU4 HRX4 HBW4; obtain ⟨A1, c1, rfl, -, -⟩ := Kd.R_reads HRU4.out; generalize (row ++ [IntKind.u8.wrap (x / 2 ^ min (IntKind.u64.wrap (m : Int)).toNat 64)]).length = rl at HBK4 HRU4 HRX4 HBW4 ⊢))
              all_goals
                go_wp2
                have hxb : 0 ≤ IntKind.u8.wrap (x / 2 ^ min (IntKind.u64.wrap (m : Int)).toNat 64) ∧ IntKind.u8.wrap (x / 2 ^ min (IntKind.u64.wrap (m : Int)).toNat 64) < 256 := by rw [IntKind.wrap_u8]; exact ⟨Int.emod_nonneg _ (by decide), Int.emod_lt_of_pos _ (by decide)⟩
                exact ⟨⟨m + 1, row ++ [IntKind.u8.wrap (x / 2 ^ min (IntKind.u64.wrap (m : Int)).toNat 64)], .slice A1 rl c1, by first | rfl | (rw [hm1]; rfl), by omega, ⟨by rw [List.length_append, HROW.out.1]; rfl, fun y hy => by rcases List.mem_append.mp hy with h | h; exact HROW.out.2 y h; rw [List.mem_singleton.mp h]; exact hxb⟩, HBK4, HRU4, HRX4, HBW4⟩, by first | (simp only [intOf]; omega) | (rw [hm1]; simp only [intOf]; omega)⟩
            · have hd1 : decide ((m : Int) < (n : Int) % 10) = false := decide_eq_false (by omega)
              have HGEN : Aside0 (GenV (⟨4, 0, 0, row, []⟩ : S47)) := ⟨Or.inr (Or.inr (Or.inr (Or.inl ⟨Or.inr rfl, rfl, rfl, HROW.out.2, by have := HROW.out.1; show row.length ≤ 10; omega, rfl⟩)))⟩
              obtain ⟨⟨c50, c51, c52, c53, c54⟩, f50, f51, f52, f53, f54⟩ := five_cells HBK.out
              clear hc3 hf3 hxw
              go_wp2_with (first
                | ((with_reducible refine gate_builtin (b := .append) (xs := #[.tmp 101, .tmp 103]) rfl ?_); at_builtin
                   refine appV w.heap.size _ rfl (.tmp 101) (.tmp 103) rfl u3 xs (⟨4, 0, 0, row, []⟩ : S47) (.slice Au row.length cu) (.slice none 0 0) rfl rfl (Kd.R_mono (Kd.R_lower HRU.out HB.out.size) (fun _ _ => trivial)) (Kd.R_nil _ _ _ _ _) (Kd.R_mono HRX.out (fun _ _ => trivial)) (Nat.le_trans HB.out.size HBW.out.size) (by have := HXS.out.1; omega) ?_
                   intro v1 w5 HO3 HB3))
              exact ⟨⟨k + 1, xs ++ [(⟨4, 0, 0, row, []⟩ : S47)], by first | rfl | (rw [hk1]; rfl), by omega, by omega, ⟨by rw [List.length_append, HXS.out.1]; rfl, fun y hy => by rcases List.mem_append.mp hy with h | h; exact HXS.out.2 y h; rw [List.mem_singleton.mp h]; exact HGEN.out⟩, HO3, ⟨(HB.out.trans (HBW.out.mono HB.out.size)).trans HB3.out⟩⟩, by first | (simp only [intOf]; omega) | (rw [hk1]; simp only [intOf]; omega)⟩
        obtain rfl : kd = 5 := by omega
        · clear e0 e1 e2 e3 e4
          have hn0 : (0 : Int) ≤ (n : Int) := by omega
          go_wp2_with (first
            | (go_at_call_of 11 (Value.int .i64 6); refine (refuterref01_Around.calls x 6 (((5 : Nat) : Int) : Int) _ HKF.out).mono ?_; rintro e w1 ⟨rfl, hd⟩; have hx_1 := pw_cell_below hd.below hx; have HO1 := Aside0.mk (Kd.R_below HO.out hd.below); have HB1 := Aside0.mk (HB.out.trans (hd.below.mono HB.out.size)); clear hd hx HO HB)
            | (go_at_call_of 11 (Value.int .i64 63); refine (refuterref01_Around.calls (x.tdiv 6) 63 (n : Int) _ HNF.out).mono ?_; rintro e w2 ⟨rfl, hd⟩; have hx := pw_cell_below hd.below hx_1; have HO := Aside0.mk (Kd.R_below HO1.out hd.below); have HB := Aside0.mk (HB1.out.trans (hd.below.mono HB1.out.size)); have hxa : ∀ o, (w2.alloc o).cell? (ad.add k) = some (Value.int .i64 x) := (fun o => (World.cell?_alloc_lt _ _ _ (World.block_lt_of_cell? _ _ hx)).trans hx); clear hd hx_1 HO1 HB1))
          have hHB0 : (w2.alloc (.cells #[.int .i64 5, .int .u64 0, .int .i64 0, .slice none 0 0, .slice none 0 0] 47)).heap[w2.heap.size]? = some (.cells #[.int .i64 5, .int .u64 0, .int .i64 0, .slice none 0 0, .slice none 0 0] 47 (0, 0)) := blk_new w2 _
          have hRB := Kd.R_below (Kd.R_mono (Kd.R_bound HO.out) (fun j hj => hj.2.2.1)) (below_alloc (Below.refl w2.heap.size w2) (.cells #[.int .i64 5, .int .u64 0, .int .i64 0, .slice none 0 0, .slice none 0 0] 47))
          have hBB : Below w.heap.size w (w2.alloc (.cells #[.int .i64 5, .int .u64 0, .int .i64 0, .slice none 0 0, .slice none 0 0] 47)) := HB.out.trans (below_alloc (Below.refl _ _) _ |>.mono HB.out.size)
          go_loopw [9] (fun v8 wr => ∃ (m : Nat) (row : List Int) (u : Value), v8 = .int .i64 (m : Int) ∧ m ≤ n % 5 ∧ Aside0 (row.length = m ∧ InR row) ∧ Aside0 (wr.heap[w2.heap.size]? = some (.cells #[.int .i64 5, .int .u64 0, .int .i64 0, .slice none 0 0, u] 47 (0, 0))) ∧ Aside0 ((Kd.int .i64).R 3 wr w2.heap.size (fun j => j ≠ w2.heap.size) u row) ∧
            Aside0 (Kd.R k47 47 wr w.heap.size (fun j => j < w2.heap.size) u3 xs) ∧ Aside0 (Below w2.heap.size w2 wr)) (fun v8 _ => n % 5 - (intOf v8).toNat)
          case atStart => exact ⟨0, [], .slice none 0 0, rfl, by omega, ⟨rfl, fun y hy => by cases hy⟩, ⟨hHB0⟩, ⟨Kd.R_nil _ _ _ _ _⟩, ⟨hRB⟩, ⟨below_alloc (Below.refl _ _) _⟩⟩
          case round =>
            clear hHB0 hRB hBB hxa
            obtain ⟨m, row, u, rfl, hm, HROW, HBK, HRU, HRX, HBW⟩ := hrel
            obtain ⟨Au, cu, rfl, -, -⟩ := Kd.R_reads HRU.out
            have hxw := pw_cell_below HBW.out hx
            have hc3 : wr.cell? ⟨w2.heap.size, 4, none⟩ = some (.slice Au row.length cu) := (blk_cell HBK.out 4).trans rfl
            have hf3 := blk_frozen HBK.out 4
            have hm1 : wrap64 ((m : Int) + 1) = (m : Int) + 1 := by unfold wrap64; omega
            clear hx
            by_cases hlm : m < n % 5
            · have hd1 : decide ((m : Int) < (n : Int) % 5) = true := decide_eq_true (by omega)
              go_wp2
              have hcu : ∀ o, (wr.alloc o).cell? ⟨w2.heap.size, 4, none⟩ = some (.slice Au row.length cu) := fun o => (World.cell?_alloc_lt _ _ _ (World.block_lt_of_cell? _ _ hc3)).trans hc3
              have hcx : ∀ o, (wr.alloc o).cell? (ad.add k) = some (.int .i64 x) := fun o => (World.cell?_alloc_lt _ _ _ (World.block_lt_of_cell? _ _ hxw)).trans hxw
              go_region_law ((refine appF .i64 33 3 8 w.heap.size w2.heap.size 4 w2 wr (by rfl) (.tmp 41) (.tmp 50) rfl Try.underlying33 info_int (by decide) _ (.slice Au row.length cu) row (x / 2 ^ min (IntKind.u64.wrap (IntKind.i64.wrap (13 * (m : Int)))).toNat 64) u3 xs rfl rfl HBK.out rfl HRU.out HRX.out HBW.out (by have := HROW.out.1; omega) ?_; intro v1 w4 hc4 hf4 HBK4 HRU4 HRX4 HBW4; obtain ⟨A1, c1, rfl, -, -⟩ := Kd.R_reads HRU4.out; generalize (row ++ [x / 2 ^ min (IntKind.u64.wrap (IntKind.i64.wrap (13 * (m : Int)))).toNat 64]).length = rl at HBK4 HRU4 HRX4 HBW4 ⊢))
              all_goals
                go_wp2
                have hxb := shr_i64 x (min (IntKind.u64.wrap (IntKind.i64.wrap (13 * (m : Int)))).toNat 64) hx1 hx2
                exact ⟨⟨m + 1, row ++ [x / 2 ^ min (IntKind.u64.wrap (IntKind.i64.wrap (13 * (m : Int)))).toNat 64], .slice A1 rl c1, by first | rfl | (rw [hm1]; rfl), by omega, ⟨by rw [List.length_append, HROW.out.1]; rfl, fun y hy => by rcases List.mem_append.mp hy with h | h; exact HROW.out.2 y h; rw [List.mem_singleton.mp h]; exact hxb⟩, HBK4, HRU4, HRX4, HBW4⟩, by first | (simp only [intOf]; omega) | (rw [hm1]; simp only [intOf]; omega)⟩
            · have hd1 : decide ((m : Int) < (n : Int) % 5) = false := decide_eq_false (by omega)
              have HGEN : Aside0 (GenV (⟨5, 0, 0, [], row⟩ : S47)) := ⟨Or.inr (Or.inr (Or.inr (Or.inr ⟨rfl, rfl, rfl, rfl, HROW.out.2, by have := HROW.out.1; show row.length ≤ 10; omega⟩)))⟩
              obtain ⟨⟨c50, c51, c52, c53, c54⟩, f50, f51, f52, f53, f54⟩ := five_cells HBK.out
              clear hc3 hf3 hxw
              go_wp2_with (first
                | ((with_reducible refine gate_builtin (b := .append) (xs := #[.tmp 101, .tmp 103]) rfl ?_); at_builtin
                   refine appV w.heap.size _ rfl (.tmp 101) (.tmp 103) rfl u3 xs (⟨5, 0, 0, [], row⟩ : S47) (.slice none 0 0) (.slice Au row.length cu) rfl rfl (Kd.R_nil _ _ _ _ _) (Kd.R_mono (Kd.R_lower HRU.out HB.out.size) (fun _ _ => trivial)) (Kd.R_mono HRX.out (fun _ _ => trivial)) (Nat.le_trans HB.out.size HBW.out.size) (by have := HXS.out.1; omega) ?_
                   intro v1 w5 HO3 HB3))
              exact ⟨⟨k + 1, xs ++ [(⟨5, 0, 0, [], row⟩ : S47)], by first | rfl | (rw [hk1]; rfl), by omega, by omega, ⟨by rw [List.length_append, HXS.out.1]; rfl, fun y hy => by rcases List.mem_append.mp hy with h | h; exact HXS.out.2 y h; rw [List.mem_singleton.mp h]; exact HGEN.out⟩, HO3, ⟨(HB.out.trans (HBW.out.mono HB.out.size)).trans HB3.out⟩⟩, by first | (simp only [intOf]; omega) | (rw [hk1]; simp only [intOf]; omega)⟩
      · have hd8 : decide ((k : Int) < 8) = false := decide_eq_false (by omega)
        go_wp2
        go_ret
        exact ⟨_, xs, rfl, HO.out, by have := HXS.out.1; omega, HXS.out.2, HB.out⟩
    · go_wp2
      go_ret
      exact ⟨_, xs, rfl, HO.out, by have := HXS.out.1; omega, HXS.out.2, HB.out⟩

/-! ### refuterref01_Few: function 20 -/
def refuterref01_Few.f (l0 : List Int) (a1 : Int) : Option (List Int) := if 0 ≤ (mn (l0.length : Int) a1) then (if (mn (l0.length : Int) a1) ≤ (l0.length : Int) then (if ([] : List Int).length + (l0.take ((mn (l0.length : Int) a1) : Int).toNat).length < 140737488355328 then (some (([] : List Int) ++ (l0.take ((mn (l0.length : Int) a1) : Int).toNat))) else (none)) else (none)) else (none)
set_option maxHeartbeats 8000000 in
set_option maxRecDepth 100000 in
theorem refuterref01_Few.calls (A0 : Option Addr) (c0 : Nat) (l0 : List Int) (a1 : Int) (r : List Int) (w : World) (hr0 : Kd.C (Kd.int .u8) w A0 l0.length l0) (hc0 : l0.length ≤ c0) (h : refuterref01_Few.f l0 a1 = some r) :
    Calls Try.prog 20 #[.slice A0 l0.length c0, .int .i64 a1] w fun e w' => ∃ v0_ : Value, e = .returned (v0_) ∧ Kd.R (Kd.int .u8) 5 w' w.heap.size (fun _ => True) v0_ r ∧ Below w.heap.size w w' := by
  have HR0 := Aside0.mk hr0
  have HC0 := Aside0.mk hc0
  clear hr0 hc0
  have HB := Aside0.mk (Below.refl w.heap.size w)
  have H : (if 0 ≤ (mn (l0.length : Int) a1) then (if (mn (l0.length : Int) a1) ≤ (l0.length : Int) then (if ([] : List Int).length + (l0.take ((mn (l0.length : Int) a1) : Int).toNat).length < 140737488355328 then (some (([] : List Int) ++ (l0.take ((mn (l0.length : Int) a1) : Int).toNat))) else (none)) else (none)) else (none)) = some r := h
  clear h
  obtain ⟨ji3, hji3⟩ : ∃ j_ : Int, (mn (l0.length : Int) a1) = j_ := ⟨_, rfl⟩
  replace H : (if 0 ≤ (ji3) then (if (ji3) ≤ (l0.length : Int) then (if ([] : List Int).length + (l0.take ((ji3) : Int).toNat).length < 140737488355328 then (some (([] : List Int) ++ (l0.take ((ji3) : Int).toNat))) else (none)) else (none)) else (none)) = some r := by first | (rw [hji3] at H; exact H) | (simp only [hji3] at H ⊢; exact H)
  have hji3_ : (if a1 < (l0.length : Int) then a1 else (l0.length : Int)) = ji3 := hji3
  by_cases c4 : 0 ≤ (ji3)
  · rw [if_pos c4] at H
    have c4b0 := eq_true c4
    have c4b1 : decide (0 ≤ (ji3)) = true := decide_eq_true c4
    clear c4
    by_cases c5 : (ji3) ≤ (l0.length : Int)
    · rw [if_pos c5] at H
      have c5b0 := eq_true c5
      have c5b1 : decide ((ji3) ≤ (l0.length : Int)) = true := decide_eq_true c5
      clear c5
      by_cases c6 : ([] : List Int).length + (l0.take ((ji3) : Int).toNat).length < 140737488355328
      · rw [if_pos c6] at H
        have LMc6 := Aside0.mk c6
        clear c6
        obtain ⟨y176, hy176⟩ : ∃ y_ : List Int, y_ = (([] : List Int) ++ (l0.take ((ji3) : Int).toNat)) := ⟨_, rfl⟩
        replace H : (some y176) = some r := by first | (rw [hy176]; with_reducible exact H) | (have H2_ := (Option.bind_some _ _).symm.trans H; rw [hy176]; with_reducible exact H2_) | (have H2_ := (Option.bind_some _ _).symm.trans H; with_reducible exact H2_) | with_reducible exact H | (rw [hy176]; exact H) | exact H
        have Ny176 := Aside0.mk hy176
        clear hy176
        obtain rfl := Option.some.inj H
        obtain ⟨i07, hi07, _, hsz7, _⟩ := info_parts info5
        obtain ⟨hcut7, hA7, hC7⟩ := print_take_of (P := Try.prog) (Value.int .u8) 0 24 5 .i64 Try.underlying24 hi07 hsz7 A0 c0 l0 (ji3) (of_decide_eq_true (by first | (with_reducible assumption) | assumption)) (of_decide_eq_true (by first | (with_reducible assumption) | assumption)) HC0.out
        have HR175 := Aside0.mk (Kd.C_of_reads (h1 := fun _ => rfl) (hA7 _ (Kd.reads_of_C HR0.out)))
        have HC175 := Aside0.mk hC7
        clear hA7 hC7 hi07 hsz7
        go_enter Try.func20, Try.ntmps20
        go_wp2_with (first | ((with_reducible refine gate_builtin (b := .append) (xs := #[.tmp 6, .tmp 12]) rfl ?_); at_builtin; refine Kd.R_append_rows (Kd.int .u8) (w0 := w) w.heap.size rfl (.tmp 6) (.tmp 12) 24 5 (.int .u8 0) 1 rfl Try.underlying24 info5 rfl (by decide) (by omega) (.slice none 0 0) ([] : List Int) (l0.take ((ji3) : Int).toNat) _ _ _ (fun _ => True) (fun _ => False) rfl rfl ?aO ?aR (fun _ _ h => h) (fun _ h => h.elim) ?aF ?aB ?aS ?aL ?_; (case aR => first | (refine reads_row_len (show (l0.take ((ji3) : Int).toNat).length = (ji3).toNat from (by rw [List.length_take]; have h_ : ((ji3) : Int) ≤ (l0.length : Int) := of_decide_eq_true (by first | (with_reducible assumption) | assumption); omega)) ?_; repeat (first | exact HR175.out | (with_reducible refine Kd.C_alloc ?_ _) | (with_reducible refine Kd.C_drewN ?_ _) | (with_reducible refine Kd.C_drew ?_))) | (repeat (first | exact HR175.out | (with_reducible refine Kd.C_alloc ?_ _) | (with_reducible refine Kd.C_drewN ?_ _) | (with_reducible refine Kd.C_drew ?_)))); (case aB => exact (by repeat (first | (with_reducible first | exact HB.out | apply below_alloc | apply pw_below_drewN | apply below_drew1) | exact HB.out))); (case aF => exact (fun _ _ => trivial)); (case aO => exact ((Kd.R_nil _ _ _ _ (fun _ => True)))); (case aS => exact (below_size (by repeat (first | (with_reducible first | exact HB.out | apply below_alloc | apply pw_below_drewN | apply below_drew1) | exact HB.out)))); (case aL => have := LMc6.out; have hlx_ := (show (l0.take ((ji3) : Int).toNat).length = (ji3).toNat from (by rw [List.length_take]; have h_ : ((ji3) : Int) ≤ (l0.length : Int) := of_decide_eq_true (by first | (with_reducible assumption) | assumption); omega)); omega); intro v177 w8 ho hb hg hat; rw [← Ny176.out] at ho; have n0_ := Aside0.mk (hb); have n1_ := Aside0.mk (ho); clear HB; have HB := n0_; have HO178 := n1_; clear n0_ n1_; clear ho hb hg hat))
        go_ret
        exact ⟨_, by first | rfl | (simp [errW_none, errW_some] <;> rfl) | (simp only [← hji3]; first | rfl | (simp [errW_none, errW_some] <;> rfl)) | (simp [*, errW_none, errW_some] <;> rfl), by (with_reducible repeat (first | apply Kd.R_alloc | apply Kd.R_drewN | apply Kd.R_drew)); exact HO178.out, by repeat (first | (with_reducible first | exact HB.out | apply below_alloc | apply pw_below_drewN | apply below_drew1) | exact HB.out)⟩
      · rw [if_neg c6] at H
        exact absurd H (by simp)
    · rw [if_neg c5] at H
      exact absurd H (by simp)
  · rw [if_neg c4] at H
    exact absurd H (by simp)

/-! ### refuterref01_SameInts: function 32 -/
def refuterref01_SameInts.l0 : Nat → List Int → List Int → Int → Option (Bool)
  | 0, _, _, _ => none
  | k + 1, x0, x1, x5 => if x5 < (x0.length : Int) then (if 0 ≤ x5 then (if x5 < (x1.length : Int) then (if (rd x0 x5) = (rd x1 x5) then (refuterref01_SameInts.l0 k x0 x1 (wrap64 (x5 + 1))) else (some false)) else (none)) else (none)) else (some true)
def refuterref01_SameInts.f (k : Nat) (l0 : List Int) (l1 : List Int) : Option (Bool) := if (l0.length : Int) = (l1.length : Int) then (refuterref01_SameInts.l0 k l0 l1 0) else (some false)
theorem refuterref01_SameInts.mono_l : ∀ k, (∀ y0 y1 y2, LeO (refuterref01_SameInts.l0 k y0 y1 y2) (refuterref01_SameInts.l0 (k + 1) y0 y1 y2))
  | 0 => fun _ _ _ r h => by simp [refuterref01_SameInts.l0] at h
  | k + 1 => by
    have ih0 := refuterref01_SameInts.mono_l k
    · intro y0 y1 y2
      unfold refuterref01_SameInts.l0
      repeat' first
      | (with_reducible exact ih0 _ _ _)
      | (with_reducible exact LeO.refl _)
      | (with_reducible exact LeO.none _)
      | (with_reducible refine LeO.ite ?_ ?_)
      | (with_reducible refine LeO.bind ?_ (fun _ => ?_))
      | exact ih0 _ _ _
      | exact LeO.none _
      | refine LeO.ite ?_ ?_
      | refine LeO.bind ?_ (fun _ => ?_)
theorem refuterref01_SameInts.mono : ∀ a0 a1 k, LeO (refuterref01_SameInts.f k a0 a1) (refuterref01_SameInts.f (k + 1) a0 a1) := by
  intro a0 a1 k
  have ih0 := refuterref01_SameInts.mono_l k
  unfold refuterref01_SameInts.f
  repeat' first
      | (with_reducible exact ih0 _ _ _)
      | (with_reducible exact LeO.refl _)
      | (with_reducible exact LeO.none _)
      | (with_reducible refine LeO.ite ?_ ?_)
      | (with_reducible refine LeO.bind ?_ (fun _ => ?_))
      | exact ih0 _ _ _
      | exact LeO.none _
      | refine LeO.ite ?_ ?_
      | refine LeO.bind ?_ (fun _ => ?_)
set_option maxHeartbeats 8000000 in
set_option maxRecDepth 100000 in
theorem refuterref01_SameInts.calls (k : Nat) (A0 : Option Addr) (c0 : Nat) (l0 : List Int) (A1 : Option Addr) (c1 : Nat) (l1 : List Int) (r : Bool) (w : World) (hr0 : Kd.C (Kd.int .i64) w A0 l0.length l0) (hc0 : l0.length ≤ c0) (hr1 : Kd.C (Kd.int .i64) w A1 l1.length l1) (hc1 : l1.length ≤ c1) (h : refuterref01_SameInts.f k l0 l1 = some r) :
    Calls Try.prog 32 #[.slice A0 l0.length c0, .slice A1 l1.length c1] w fun e w' => e = .returned (.bool r) ∧ Drawn0 w w' := by
  have HR0 := Aside0.mk hr0
  have HC0 := Aside0.mk hc0
  clear hr0 hc0
  have HR1 := Aside0.mk hr1
  have HC1 := Aside0.mk hc1
  clear hr1 hc1
  have H : (if (l0.length : Int) = (l1.length : Int) then (refuterref01_SameInts.l0 k l0 l1 0) else (some false)) = some r := h
  clear h
  by_cases c3 : (l0.length : Int) = (l1.length : Int)
  · rw [if_pos c3] at H
    have c3b0 : ((l0.length : Int) == (l1.length : Int)) = true := beq_iff_eq.mpr c3
    have c3b1 : ((l0.length : Int) != (l1.length : Int)) = false := bne_eq_false_iff_eq.mpr c3
    have c3b2 : (l0.length == l1.length) = true := by first | simpa using c3 | (simp at c3 ⊢; omega)
    clear c3
    have H' := Aside0.mk H
    clear H
    go_enter Try.func32, Try.ntmps32
    go_wp2
    repeat (go_quiet (fail); try go_wp2)
    go_loopg [5] k (fun kq v5 w' => ∃ (x5_1 : Int), v5 = .int .i64 x5_1 ∧ Aside0 (refuterref01_SameInts.l0 kq l0 l1 x5_1 = some r) ∧ Aside0 (kq ≤ k) ∧ Drawn0 w w')
    case atStart => exact ⟨(0), (by first | rfl | (simp; done) | (simp [*]; done)), H', ⟨Nat.le_refl _⟩, by repeat (first | exact Drawn0.refl _ | apply Drawn0.step)⟩
    case round =>
      clear H'
      try clear c1
      try clear p2
      try clear c3
      try clear c3b0
      try clear c3b1
      try clear c3b2
      obtain ⟨x5_1, rfl, HA, HK1, ⟨m1, rfl⟩⟩ := hrel
      cases gk with
      | zero => exact absurd HA.out (by simp [refuterref01_SameInts.l0])
      | succ k1 =>
        have H := HA.out
        clear HA
        simp only [refuterref01_SameInts.l0] at H
        by_cases c4 : x5_1 < (l0.length : Int)
        · rw [if_pos c4] at H
          have c4b0 : decide (x5_1 < (l0.length : Int)) = true := decide_eq_true c4
          clear c4
          by_cases c5 : 0 ≤ x5_1
          · rw [if_pos c5] at H
            have c5b0 : decide (0 ≤ x5_1) = true := decide_eq_true c5
            clear c5
            by_cases c6 : x5_1 < (l1.length : Int)
            · rw [if_pos c6] at H
              have c6b0 : decide (x5_1 < (l1.length : Int)) = true := decide_eq_true c6
              clear c6
              by_cases c7 : (rd l0 x5_1) = (rd l1 x5_1)
              · rw [if_pos c7] at H
                have c7b0 : ((rd l0 x5_1) == (rd l1 x5_1)) = true := beq_iff_eq.mpr c7
                have c7b1 : ((rd l0 x5_1) != (rd l1 x5_1)) = false := bne_eq_false_iff_eq.mpr c7
                clear c7
                have H' := Aside0.mk H
                clear H
                have p179 : 0 ≤ (x5_1 : Int) := of_decide_eq_true (by first | (with_reducible assumption) | assumption)
                have q179 : x5_1 < (l0.length : Int) := of_decide_eq_true (by first | (with_reducible assumption) | assumption)
                obtain ⟨ad179, e179, hx179_0⟩ := Kd.at_int HR0.out x5_1 p179 q179
                cases e179
                replace p179 := eq_true p179
                replace q179 := eq_true q179
                have p180 : 0 ≤ (x5_1 : Int) := of_decide_eq_true (by first | (with_reducible assumption) | assumption)
                have q180 : x5_1 < (l1.length : Int) := of_decide_eq_true (by first | (with_reducible assumption) | assumption)
                obtain ⟨ad180, e180, hx180_0⟩ := Kd.at_int HR1.out x5_1 p180 q180
                cases e180
                replace p180 := eq_true p180
                replace q180 := eq_true q180
                go_wp2
                repeat (go_quiet (fail); try go_wp2)
                go_roundg k1
                case measure => have := HK1.out; omega
                case rel => exact ⟨(wrap64 (x5_1 + 1)), (by first | rfl | (simp; done) | (simp [*]; done)), H', ⟨by have := HK1.out; omega⟩, by repeat (first | exact Drawn0.refl _ | apply Drawn0.step)⟩
              · rw [if_neg c7] at H
                have c7b0 : ((rd l0 x5_1) == (rd l1 x5_1)) = false := beq_eq_false_iff_ne.mpr c7
                have c7b1 : ((rd l0 x5_1) != (rd l1 x5_1)) = true := bne_iff_ne.mpr c7
                obtain rfl := Option.some.inj H
                have p179 : 0 ≤ (x5_1 : Int) := of_decide_eq_true (by first | (with_reducible assumption) | assumption)
                have q179 : x5_1 < (l0.length : Int) := of_decide_eq_true (by first | (with_reducible assumption) | assumption)
                obtain ⟨ad179, e179, hx179_0⟩ := Kd.at_int HR0.out x5_1 p179 q179
                cases e179
                replace p179 := eq_true p179
                replace q179 := eq_true q179
                have p180 : 0 ≤ (x5_1 : Int) := of_decide_eq_true (by first | (with_reducible assumption) | assumption)
                have q180 : x5_1 < (l1.length : Int) := of_decide_eq_true (by first | (with_reducible assumption) | assumption)
                obtain ⟨ad180, e180, hx180_0⟩ := Kd.at_int HR1.out x5_1 p180 q180
                cases e180
                replace p180 := eq_true p180
                replace q180 := eq_true q180
                go_wp2
                repeat (go_quiet (fail); try go_wp2)
                go_ret
                exact ⟨by first | rfl | (simp; done) | (simp [*]; done), by repeat (first | exact Drawn0.refl _ | apply Drawn0.step)⟩
            · rw [if_neg c6] at H
              exact absurd H (by simp)
          · rw [if_neg c5] at H
            exact absurd H (by simp)
        · rw [if_neg c4] at H
          have c4b0 : decide (x5_1 < (l0.length : Int)) = false := decide_eq_false c4
          clear c4
          obtain rfl := Option.some.inj H
          go_wp2
          repeat (go_quiet (fail); try go_wp2)
          go_ret
          exact ⟨by first | rfl | (simp; done) | (simp [*]; done), by repeat (first | exact Drawn0.refl _ | apply Drawn0.step)⟩
  · rw [if_neg c3] at H
    have c3b0 : ((l0.length : Int) == (l1.length : Int)) = false := beq_eq_false_iff_ne.mpr c3
    have c3b1 : ((l0.length : Int) != (l1.length : Int)) = true := bne_iff_ne.mpr c3
    have c3b2 : (l0.length == l1.length) = false := by first | simpa using c3 | (simp at c3 ⊢; omega)
    obtain rfl := Option.some.inj H
    go_enter Try.func32, Try.ntmps32
    go_wp2
    repeat (go_quiet (fail); try go_wp2)
    go_ret
    exact ⟨by first | rfl | (simp; done) | (simp [*]; done), by repeat (first | exact Drawn0.refl _ | apply Drawn0.step)⟩

/-! ### refuterref02_Same: function 22 -/
def refuterref02_Same.f (k : Nat) (a0_0 : Int) (a0_1 : Int) (a0_2 : Int) (l0_3 : List Int) (l0_4 : List Int) (a1_0 : Int) (a1_1 : Int) (a1_2 : Int) (l1_3 : List Int) (l1_4 : List Int) : Option (Bool) := (refuterref01_SameBytes.f k l0_3 l1_3).bind fun t183 => ((refuterref01_SameInts.f k l0_4 l1_4).bind fun t184 => (if a0_0 = a1_0 then (if a0_1 = a1_1 then (if a0_2 = a1_2 then (if t183 = true then (some t184) else (some false)) else (some false)) else (some false)) else (some false)))
theorem refuterref02_Same.mono : ∀ a0 a1 a2 a3 a4 a5 a6 a7 a8 a9 k, LeO (refuterref02_Same.f k a0 a1 a2 a3 a4 a5 a6 a7 a8 a9) (refuterref02_Same.f (k + 1) a0 a1 a2 a3 a4 a5 a6 a7 a8 a9) := by
  intro a0 a1 a2 a3 a4 a5 a6 a7 a8 a9 k
  unfold refuterref02_Same.f
  repeat' first
      | (with_reducible exact refuterref01_SameBytes.mono _ _ _)
      | (with_reducible exact refuterref01_SameInts.mono _ _ _)
      | (with_reducible exact LeO.refl _)
      | (with_reducible exact LeO.none _)
      | (with_reducible refine LeO.ite ?_ ?_)
      | (with_reducible refine LeO.bind ?_ (fun _ => ?_))
      | exact refuterref01_SameBytes.mono _ _ _
      | exact refuterref01_SameInts.mono _ _ _
      | exact LeO.none _
      | refine LeO.ite ?_ ?_
      | refine LeO.bind ?_ (fun _ => ?_)
set_option maxHeartbeats 8000000 in
set_option maxRecDepth 100000 in
theorem refuterref02_Same.calls (k : Nat) (a0_0 : Int) (a0_1 : Int) (a0_2 : Int) (A0_3 : Option Addr) (c0_3 : Nat) (l0_3 : List Int) (A0_4 : Option Addr) (c0_4 : Nat) (l0_4 : List Int) (a1_0 : Int) (a1_1 : Int) (a1_2 : Int) (A1_3 : Option Addr) (c1_3 : Nat) (l1_3 : List Int) (A1_4 : Option Addr) (c1_4 : Nat) (l1_4 : List Int) (r : Bool) (w : World) (hr0_3 : Kd.C (Kd.int .u8) w A0_3 l0_3.length l0_3) (hc0_3 : l0_3.length ≤ c0_3) (hr0_4 : Kd.C (Kd.int .i64) w A0_4 l0_4.length l0_4) (hc0_4 : l0_4.length ≤ c0_4) (hr1_3 : Kd.C (Kd.int .u8) w A1_3 l1_3.length l1_3) (hc1_3 : l1_3.length ≤ c1_3) (hr1_4 : Kd.C (Kd.int .i64) w A1_4 l1_4.length l1_4) (hc1_4 : l1_4.length ≤ c1_4) (h : refuterref02_Same.f k a0_0 a0_1 a0_2 l0_3 l0_4 a1_0 a1_1 a1_2 l1_3 l1_4 = some r) :
    Calls Try.prog 22 #[.agg #[.int .i64 a0_0, .int .u64 a0_1, .int .i64 a0_2, .slice A0_3 l0_3.length c0_3, .slice A0_4 l0_4.length c0_4], .agg #[.int .i64 a1_0, .int .u64 a1_1, .int .i64 a1_2, .slice A1_3 l1_3.length c1_3, .slice A1_4 l1_4.length c1_4]] w fun e w' => e = .returned (.bool r) ∧ Below w.heap.size w w' := by
  have hu47 := Try.underlying47
  have HR0_3 := Aside0.mk hr0_3
  have HC0_3 := Aside0.mk hc0_3
  clear hr0_3 hc0_3
  have HR0_4 := Aside0.mk hr0_4
  have HC0_4 := Aside0.mk hc0_4
  clear hr0_4 hc0_4
  have HR1_3 := Aside0.mk hr1_3
  have HC1_3 := Aside0.mk hc1_3
  clear hr1_3 hc1_3
  have HR1_4 := Aside0.mk hr1_4
  have HC1_4 := Aside0.mk hc1_4
  clear hr1_4 hc1_4
  have HB := Aside0.mk (Below.refl w.heap.size w)
  have H : ((refuterref01_SameBytes.f k l0_3 l1_3).bind fun t183 => ((refuterref01_SameInts.f k l0_4 l1_4).bind fun t184 => (if a0_0 = a1_0 then (if a0_1 = a1_1 then (if a0_2 = a1_2 then (if t183 = true then (some t184) else (some false)) else (some false)) else (some false)) else (some false)))) = some r := h
  clear h
  replace H := Option.bind_eq_some_iff.mp H
  obtain ⟨t183, A30, H⟩ := H
  replace H : ((refuterref01_SameInts.f k l0_4 l1_4).bind fun t184 => (if a0_0 = a1_0 then (if a0_1 = a1_1 then (if a0_2 = a1_2 then (if t183 = true then (some t184) else (some false)) else (some false)) else (some false)) else (some false))) = some r := H
  have A3 := Aside0.mk A30
  clear A30
  replace H := Option.bind_eq_some_iff.mp H
  obtain ⟨t184, A40, H⟩ := H
  replace H : (if a0_0 = a1_0 then (if a0_1 = a1_1 then (if a0_2 = a1_2 then (if t183 = true then (some t184) else (some false)) else (some false)) else (some false)) else (some false)) = some r := H
  have A4 := Aside0.mk A40
  clear A40
  by_cases c5 : a0_0 = a1_0
  · rw [if_pos c5] at H
    have c5b0 : (a0_0 == a1_0) = true := beq_iff_eq.mpr c5
    have c5b1 : (a0_0 != a1_0) = false := bne_eq_false_iff_eq.mpr c5
    clear c5
    by_cases c6 : a0_1 = a1_1
    · rw [if_pos c6] at H
      have c6b0 : (a0_1 == a1_1) = true := beq_iff_eq.mpr c6
      have c6b1 : (a0_1 != a1_1) = false := bne_eq_false_iff_eq.mpr c6
      clear c6
      by_cases c7 : a0_2 = a1_2
      · rw [if_pos c7] at H
        have c7b0 : (a0_2 == a1_2) = true := beq_iff_eq.mpr c7
        have c7b1 : (a0_2 != a1_2) = false := bne_eq_false_iff_eq.mpr c7
        clear c7
        by_cases c8 : t183 = true
        · subst c8
          have H1 : (some t184) = some r := by rw [if_pos rfl] at H; exact H
          clear H
          have H := H1
          clear H1
          obtain rfl := Option.some.inj H
          go_enter Try.func22, Try.ntmps22
          go_wp2_with (first | ((with_reducible refine gate_dst (N := 2) rfl ?_); refine box_event ?hg (N := 2) ?hd (cs := #[.int .i64 a0_0, .int .u64 a0_1, .int .i64 a0_2, .slice A0_3 l0_3.length c0_3, .slice A0_4 l0_4.length c0_4]) (t := 47) ?hr ?_; (case hd => rfl); (case hg => rfl); (case hr => first | (go_simp; done) | (go_simp; rfl)); intro gb181 hg w9 hbox hb; have n0_ := Aside0.mk (below_step (by repeat (first | (with_reducible first | exact HB.out | apply below_alloc | apply pw_below_drewN | apply below_drew1) | exact HB.out)) hb); have n1_ := Aside0.mk (hbox); have n2_ := Aside0.mk ((by rw [hg]; exact (below_size (by repeat (first | (with_reducible first | exact HB.out | apply below_alloc | apply pw_below_drewN | apply below_drew1) | exact HB.out))) : w.heap.size ≤ gb181)); have n3_ := Aside0.mk ((by rw [hg]; exact (below_size (by repeat (first | (with_reducible first | exact HB.out | apply below_alloc | apply pw_below_drewN | apply below_drew1) | exact HB.out))) : w.heap.size ≤ gb181)); clear HB; have HB := n0_; have BK181 := n1_; have GW181 := n2_; have GE181 := n3_; clear n0_ n1_ n2_ n3_; clear hb hbox hg) | ((with_reducible refine gate_dst (N := 3) rfl ?_); refine box_event ?hg (N := 3) ?hd (cs := #[.int .i64 a1_0, .int .u64 a1_1, .int .i64 a1_2, .slice A1_3 l1_3.length c1_3, .slice A1_4 l1_4.length c1_4]) (t := 47) ?hr ?_; (case hd => rfl); (case hg => rfl); (case hr => first | (go_simp; done) | (go_simp; rfl)); intro gb182 hg w10 hbox hb; have n0_ := Aside0.mk (blk_below (g := gb181) (o := .cells #[.int .i64 a0_0, .int .u64 a0_1, .int .i64 a0_2, .slice A0_3 l0_3.length c0_3, .slice A0_4 l0_4.length c0_4] 47 (0, 0)) (by (with_reducible repeat (first | refine blk_drewN ?_ _ | refine blk_drew ?_ | refine blk_alloc ?_ _)); exact BK181.out) hb); have n1_ := Aside0.mk (below_step (by repeat (first | (with_reducible first | exact HB.out | apply below_alloc | apply pw_below_drewN | apply below_drew1 | refine below_set ?_ GE181.out) | exact HB.out)) hb); have n2_ := Aside0.mk (hbox); have n3_ := Aside0.mk ((by rw [hg]; exact (below_size (by repeat (first | (with_reducible first | exact HB.out | apply below_alloc | apply pw_below_drewN | apply below_drew1 | refine below_set ?_ GE181.out) | exact HB.out))) : w.heap.size ≤ gb182)); have n4_ := Aside0.mk ((by rw [hg]; exact (below_size (by repeat (first | (with_reducible first | exact HB.out | apply below_alloc | apply pw_below_drewN | apply below_drew1 | refine below_set ?_ GE181.out) | exact HB.out))) : w.heap.size ≤ gb182)); have n5_ := Aside0.mk ((by rw [hg]; exact Nat.ne_of_lt (blk_lt (g := gb181) (o := .cells #[.int .i64 a0_0, .int .u64 a0_1, .int .i64 a0_2, .slice A0_3 l0_3.length c0_3, .slice A0_4 l0_4.length c0_4] 47 (0, 0)) (by (with_reducible repeat (first | refine blk_drewN ?_ _ | refine blk_drew ?_ | refine blk_alloc ?_ _)); exact BK181.out)) : gb181 ≠ gb182)); have n6_ := Aside0.mk ((by rw [hg]; exact Nat.ne_of_gt (blk_lt (g := gb181) (o := .cells #[.int .i64 a0_0, .int .u64 a0_1, .int .i64 a0_2, .slice A0_3 l0_3.length c0_3, .slice A0_4 l0_4.length c0_4] 47 (0, 0)) (by (with_reducible repeat (first | refine blk_drewN ?_ _ | refine blk_drew ?_ | refine blk_alloc ?_ _)); exact BK181.out)) : gb182 ≠ gb181)); clear BK181; clear HB; have BK181 := n0_; have HB := n1_; have BK182 := n2_; have GW182 := n3_; have GE182 := n4_; have NB181_182 := n5_; have NB182_181 := n6_; clear n0_ n1_ n2_ n3_ n4_ n5_ n6_; clear hb hbox hg; have hnb11 := NB181_182.out; have hnc11 := NB182_181.out; have hcz12_0 : w10.cell? ⟨gb181, 0, none⟩ = some (.int .i64 a0_0) := (blk_cell BK181.out 0).trans rfl; have hcz12_1 : w10.cell? ⟨gb181, 1, none⟩ = some (.int .u64 a0_1) := (blk_cell BK181.out 1).trans rfl; have hcz12_2 : w10.cell? ⟨gb181, 2, none⟩ = some (.int .i64 a0_2) := (blk_cell BK181.out 2).trans rfl; have hcz12_3 : w10.cell? ⟨gb181, 3, none⟩ = some (.slice A0_3 l0_3.length c0_3) := (blk_cell BK181.out 3).trans rfl; have hcz12_4 : w10.cell? ⟨gb181, 4, none⟩ = some (.slice A0_4 l0_4.length c0_4) := (blk_cell BK181.out 4).trans rfl; have hfz12_0 := blk_frozen BK181.out 0; have hfz12_1 := blk_frozen BK181.out 1; have hfz12_2 := blk_frozen BK181.out 2; have hfz12_3 := blk_frozen BK181.out 3; have hfz12_4 := blk_frozen BK181.out 4; have hcz13_0 : w10.cell? ⟨gb182, 0, none⟩ = some (.int .i64 a1_0) := (blk_cell BK182.out 0).trans rfl; have hcz13_1 : w10.cell? ⟨gb182, 1, none⟩ = some (.int .u64 a1_1) := (blk_cell BK182.out 1).trans rfl; have hcz13_2 : w10.cell? ⟨gb182, 2, none⟩ = some (.int .i64 a1_2) := (blk_cell BK182.out 2).trans rfl; have hcz13_3 : w10.cell? ⟨gb182, 3, none⟩ = some (.slice A1_3 l1_3.length c1_3) := (blk_cell BK182.out 3).trans rfl; have hcz13_4 : w10.cell? ⟨gb182, 4, none⟩ = some (.slice A1_4 l1_4.length c1_4) := (blk_cell BK182.out 4).trans rfl; have hfz13_0 := blk_frozen BK182.out 0; have hfz13_1 := blk_frozen BK182.out 1; have hfz13_2 := blk_frozen BK182.out 2; have hfz13_3 := blk_frozen BK182.out 3; have hfz13_4 := blk_frozen BK182.out 4) | ((with_reducible refine gate_callee (f := 30) rfl ?_); refine goesL_ (some 11) rfl rfl Try.func30 (by kernel_rfl) rfl #[.slice A0_3 l0_3.length c0_3, .slice A1_3 l1_3.length c1_3] rfl (by (try simp only [List.map_toArray, List.map_cons, List.map_nil]); first | done | rfl | (simp only [List.length_drop, List.length_take]; rfl)) ?_; (with_reducible refine (refuterref01_SameBytes.calls k _ _ l0_3 _ _ l1_3 true _ ?side1 ?side2 ?side3 ?side4 A3.out).mono ?_); (case side1 => repeat (first | exact (Kd.C_below HR0_3.out HB.out) | (with_reducible refine Kd.C_alloc ?_ _) | (with_reducible refine Kd.C_drewN ?_ _) | (with_reducible refine Kd.C_drew ?_))); (case side2 => exact HC0_3.out); (case side3 => repeat (first | exact (Kd.C_below HR1_3.out HB.out) | (with_reducible refine Kd.C_alloc ?_ _) | (with_reducible refine Kd.C_drewN ?_ _) | (with_reducible refine Kd.C_drew ?_))); (case side4 => exact HC1_3.out); rintro e w' ⟨rfl, ⟨nd, rfl⟩⟩; refine ⟨_, rfl, ?_⟩) | ((with_reducible refine gate_callee (f := 32) rfl ?_); refine goesL_ (some 16) rfl rfl Try.func32 (by kernel_rfl) rfl #[.slice A0_4 l0_4.length c0_4, .slice A1_4 l1_4.length c1_4] rfl (by (try simp only [List.map_toArray, List.map_cons, List.map_nil]); first | done | rfl | (simp only [List.length_drop, List.length_take]; rfl)) ?_; (with_reducible refine (refuterref01_SameInts.calls k _ _ l0_4 _ _ l1_4 t184 _ ?side1 ?side2 ?side3 ?side4 A4.out).mono ?_); (case side1 => repeat (first | exact (Kd.C_below HR0_4.out (by repeat (first | (with_reducible first | exact HB.out | apply below_alloc | apply pw_below_drewN | apply below_drew1 | refine below_set ?_ GE181.out | refine below_set ?_ GE182.out) | exact HB.out))) | (with_reducible refine Kd.C_alloc ?_ _) | (with_reducible refine Kd.C_drewN ?_ _) | (with_reducible refine Kd.C_drew ?_))); (case side2 => exact HC0_4.out); (case side3 => repeat (first | exact (Kd.C_below HR1_4.out (by repeat (first | (with_reducible first | exact HB.out | apply below_alloc | apply pw_below_drewN | apply below_drew1 | refine below_set ?_ GE181.out | refine below_set ?_ GE182.out) | exact HB.out))) | (with_reducible refine Kd.C_alloc ?_ _) | (with_reducible refine Kd.C_drewN ?_ _) | (with_reducible refine Kd.C_drew ?_))); (case side4 => exact HC1_4.out); rintro e w' ⟨rfl, ⟨nd, rfl⟩⟩; refine ⟨_, rfl, ?_⟩))
          go_ret
          exact ⟨by first | rfl | (simp [errW_none, errW_some] <;> rfl) | (simp [*, errW_none, errW_some] <;> rfl), by repeat (first | (with_reducible first | exact HB.out | apply below_alloc | apply pw_below_drewN | apply below_drew1 | refine below_set ?_ GE181.out | refine below_set ?_ GE182.out) | exact HB.out)⟩
        · replace c8 := Bool.eq_false_iff.mpr c8
          subst c8
          have H1 : (some false) = some r := by rw [if_neg (show ¬ (false = true) by decide)] at H; exact H
          clear H
          have H := H1
          clear H1
          obtain rfl := Option.some.inj H
          go_enter Try.func22, Try.ntmps22
          go_wp2_with (first | ((with_reducible refine gate_dst (N := 2) rfl ?_); refine box_event ?hg (N := 2) ?hd (cs := #[.int .i64 a0_0, .int .u64 a0_1, .int .i64 a0_2, .slice A0_3 l0_3.length c0_3, .slice A0_4 l0_4.length c0_4]) (t := 47) ?hr ?_; (case hd => rfl); (case hg => rfl); (case hr => first | (go_simp; done) | (go_simp; rfl)); intro gb181 hg w14 hbox hb; have n0_ := Aside0.mk (below_step (by repeat (first | (with_reducible first | exact HB.out | apply below_alloc | apply pw_below_drewN | apply below_drew1) | exact HB.out)) hb); have n1_ := Aside0.mk (hbox); have n2_ := Aside0.mk ((by rw [hg]; exact (below_size (by repeat (first | (with_reducible first | exact HB.out | apply below_alloc | apply pw_below_drewN | apply below_drew1) | exact HB.out))) : w.heap.size ≤ gb181)); have n3_ := Aside0.mk ((by rw [hg]; exact (below_size (by repeat (first | (with_reducible first | exact HB.out | apply below_alloc | apply pw_below_drewN | apply below_drew1) | exact HB.out))) : w.heap.size ≤ gb181)); clear HB; have HB := n0_; have BK181 := n1_; have GW181 := n2_; have GE181 := n3_; clear n0_ n1_ n2_ n3_; clear hb hbox hg) | ((with_reducible refine gate_dst (N := 3) rfl ?_); refine box_event ?hg (N := 3) ?hd (cs := #[.int .i64 a1_0, .int .u64 a1_1, .int .i64 a1_2, .slice A1_3 l1_3.length c1_3, .slice A1_4 l1_4.length c1_4]) (t := 47) ?hr ?_; (case hd => rfl); (case hg => rfl); (case hr => first | (go_simp; done) | (go_simp; rfl)); intro gb182 hg w15 hbox hb; have n0_ := Aside0.mk (blk_below (g := gb181) (o := .cells #[.int .i64 a0_0, .int .u64 a0_1, .int .i64 a0_2, .slice A0_3 l0_3.length c0_3, .slice A0_4 l0_4.length c0_4] 47 (0, 0)) (by (with_reducible repeat (first | refine blk_drewN ?_ _ | refine blk_drew ?_ | refine blk_alloc ?_ _)); exact BK181.out) hb); have n1_ := Aside0.mk (below_step (by repeat (first | (with_reducible first | exact HB.out | apply below_alloc | apply pw_below_drewN | apply below_drew1 | refine below_set ?_ GE181.out) | exact HB.out)) hb); have n2_ := Aside0.mk (hbox); have n3_ := Aside0.mk ((by rw [hg]; exact (below_size (by repeat (first | (with_reducible first | exact HB.out | apply below_alloc | apply pw_below_drewN | apply below_drew1 | refine below_set ?_ GE181.out) | exact HB.out))) : w.heap.size ≤ gb182)); have n4_ := Aside0.mk ((by rw [hg]; exact (below_size (by repeat (first | (with_reducible first | exact HB.out | apply below_alloc | apply pw_below_drewN | apply below_drew1 | refine below_set ?_ GE181.out) | exact HB.out))) : w.heap.size ≤ gb182)); have n5_ := Aside0.mk ((by rw [hg]; exact Nat.ne_of_lt (blk_lt (g := gb181) (o := .cells #[.int .i64 a0_0, .int .u64 a0_1, .int .i64 a0_2, .slice A0_3 l0_3.length c0_3, .slice A0_4 l0_4.length c0_4] 47 (0, 0)) (by (with_reducible repeat (first | refine blk_drewN ?_ _ | refine blk_drew ?_ | refine blk_alloc ?_ _)); exact BK181.out)) : gb181 ≠ gb182)); have n6_ := Aside0.mk ((by rw [hg]; exact Nat.ne_of_gt (blk_lt (g := gb181) (o := .cells #[.int .i64 a0_0, .int .u64 a0_1, .int .i64 a0_2, .slice A0_3 l0_3.length c0_3, .slice A0_4 l0_4.length c0_4] 47 (0, 0)) (by (with_reducible repeat (first | refine blk_drewN ?_ _ | refine blk_drew ?_ | refine blk_alloc ?_ _)); exact BK181.out)) : gb182 ≠ gb181)); clear BK181; clear HB; have BK181 := n0_; have HB := n1_; have BK182 := n2_; have GW182 := n3_; have GE182 := n4_; have NB181_182 := n5_; have NB182_181 := n6_; clear n0_ n1_ n2_ n3_ n4_ n5_ n6_; clear hb hbox hg; have hnb16 := NB181_182.out; have hnc16 := NB182_181.out; have hcz17_0 : w15.cell? ⟨gb181, 0, none⟩ = some (.int .i64 a0_0) := (blk_cell BK181.out 0).trans rfl; have hcz17_1 : w15.cell? ⟨gb181, 1, none⟩ = some (.int .u64 a0_1) := (blk_cell BK181.out 1).trans rfl; have hcz17_2 : w15.cell? ⟨gb181, 2, none⟩ = some (.int .i64 a0_2) := (blk_cell BK181.out 2).trans rfl; have hcz17_3 : w15.cell? ⟨gb181, 3, none⟩ = some (.slice A0_3 l0_3.length c0_3) := (blk_cell BK181.out 3).trans rfl; have hcz17_4 : w15.cell? ⟨gb181, 4, none⟩ = some (.slice A0_4 l0_4.length c0_4) := (blk_cell BK181.out 4).trans rfl; have hfz17_0 := blk_frozen BK181.out 0; have hfz17_1 := blk_frozen BK181.out 1; have hfz17_2 := blk_frozen BK181.out 2; have hfz17_3 := blk_frozen BK181.out 3; have hfz17_4 := blk_frozen BK181.out 4; have hcz18_0 : w15.cell? ⟨gb182, 0, none⟩ = some (.int .i64 a1_0) := (blk_cell BK182.out 0).trans rfl; have hcz18_1 : w15.cell? ⟨gb182, 1, none⟩ = some (.int .u64 a1_1) := (blk_cell BK182.out 1).trans rfl; have hcz18_2 : w15.cell? ⟨gb182, 2, none⟩ = some (.int .i64 a1_2) := (blk_cell BK182.out 2).trans rfl; have hcz18_3 : w15.cell? ⟨gb182, 3, none⟩ = some (.slice A1_3 l1_3.length c1_3) := (blk_cell BK182.out 3).trans rfl; have hcz18_4 : w15.cell? ⟨gb182, 4, none⟩ = some (.slice A1_4 l1_4.length c1_4) := (blk_cell BK182.out 4).trans rfl; have hfz18_0 := blk_frozen BK182.out 0; have hfz18_1 := blk_frozen BK182.out 1; have hfz18_2 := blk_frozen BK182.out 2; have hfz18_3 := blk_frozen BK182.out 3; have hfz18_4 := blk_frozen BK182.out 4) | ((with_reducible refine gate_callee (f := 30) rfl ?_); refine goesL_ (some 11) rfl rfl Try.func30 (by kernel_rfl) rfl #[.slice A0_3 l0_3.length c0_3, .slice A1_3 l1_3.length c1_3] rfl (by (try simp only [List.map_toArray, List.map_cons, List.map_nil]); first | done | rfl | (simp only [List.length_drop, List.length_take]; rfl)) ?_; (with_reducible refine (refuterref01_SameBytes.calls k _ _ l0_3 _ _ l1_3 false _ ?side1 ?side2 ?side3 ?side4 A3.out).mono ?_); (case side1 => repeat (first | exact (Kd.C_below HR0_3.out HB.out) | (with_reducible refine Kd.C_alloc ?_ _) | (with_reducible refine Kd.C_drewN ?_ _) | (with_reducible refine Kd.C_drew ?_))); (case side2 => exact HC0_3.out); (case side3 => repeat (first | exact (Kd.C_below HR1_3.out HB.out) | (with_reducible refine Kd.C_alloc ?_ _) | (with_reducible refine Kd.C_drewN ?_ _) | (with_reducible refine Kd.C_drew ?_))); (case side4 => exact HC1_3.out); rintro e w' ⟨rfl, ⟨nd, rfl⟩⟩; refine ⟨_, rfl, ?_⟩) | ((with_reducible refine gate_callee (f := 32) rfl ?_); refine goesL_ (some 16) rfl rfl Try.func32 (by kernel_rfl) rfl #[.slice A0_4 l0_4.length c0_4, .slice A1_4 l1_4.length c1_4] rfl (by (try simp only [List.map_toArray, List.map_cons, List.map_nil]); first | done | rfl | (simp only [List.length_drop, List.length_take]; rfl)) ?_; (with_reducible refine (refuterref01_SameInts.calls k _ _ l0_4 _ _ l1_4 t184 _ ?side1 ?side2 ?side3 ?side4 A4.out).mono ?_); (case side1 => repeat (first | exact (Kd.C_below HR0_4.out (by repeat (first | (with_reducible first | exact HB.out | apply below_alloc | apply pw_below_drewN | apply below_drew1 | refine below_set ?_ GE181.out | refine below_set ?_ GE182.out) | exact HB.out))) | (with_reducible refine Kd.C_alloc ?_ _) | (with_reducible refine Kd.C_drewN ?_ _) | (with_reducible refine Kd.C_drew ?_))); (case side2 => exact HC0_4.out); (case side3 => repeat (first | exact (Kd.C_below HR1_4.out (by repeat (first | (with_reducible first | exact HB.out | apply below_alloc | apply pw_below_drewN | apply below_drew1 | refine below_set ?_ GE181.out | refine below_set ?_ GE182.out) | exact HB.out))) | (with_reducible refine Kd.C_alloc ?_ _) | (with_reducible refine Kd.C_drewN ?_ _) | (with_reducible refine Kd.C_drew ?_))); (case side4 => exact HC1_4.out); rintro e w' ⟨rfl, ⟨nd, rfl⟩⟩; refine ⟨_, rfl, ?_⟩))
          go_ret
          exact ⟨by first | rfl | (simp [errW_none, errW_some] <;> rfl) | (simp [*, errW_none, errW_some] <;> rfl), by repeat (first | (with_reducible first | exact HB.out | apply below_alloc | apply pw_below_drewN | apply below_drew1 | refine below_set ?_ GE181.out | refine below_set ?_ GE182.out) | exact HB.out)⟩
      · rw [if_neg c7] at H
        have c7b0 : (a0_2 == a1_2) = false := beq_eq_false_iff_ne.mpr c7
        have c7b1 : (a0_2 != a1_2) = true := bne_iff_ne.mpr c7
        obtain rfl := Option.some.inj H
        go_enter Try.func22, Try.ntmps22
        go_wp2_with (first | ((with_reducible refine gate_dst (N := 2) rfl ?_); refine box_event ?hg (N := 2) ?hd (cs := #[.int .i64 a0_0, .int .u64 a0_1, .int .i64 a0_2, .slice A0_3 l0_3.length c0_3, .slice A0_4 l0_4.length c0_4]) (t := 47) ?hr ?_; (case hd => rfl); (case hg => rfl); (case hr => first | (go_simp; done) | (go_simp; rfl)); intro gb181 hg w19 hbox hb; have n0_ := Aside0.mk (below_step (by repeat (first | (with_reducible first | exact HB.out | apply below_alloc | apply pw_below_drewN | apply below_drew1) | exact HB.out)) hb); have n1_ := Aside0.mk (hbox); have n2_ := Aside0.mk ((by rw [hg]; exact (below_size (by repeat (first | (with_reducible first | exact HB.out | apply below_alloc | apply pw_below_drewN | apply below_drew1) | exact HB.out))) : w.heap.size ≤ gb181)); have n3_ := Aside0.mk ((by rw [hg]; exact (below_size (by repeat (first | (with_reducible first | exact HB.out | apply below_alloc | apply pw_below_drewN | apply below_drew1) | exact HB.out))) : w.heap.size ≤ gb181)); clear HB; have HB := n0_; have BK181 := n1_; have GW181 := n2_; have GE181 := n3_; clear n0_ n1_ n2_ n3_; clear hb hbox hg) | ((with_reducible refine gate_dst (N := 3) rfl ?_); refine box_event ?hg (N := 3) ?hd (cs := #[.int .i64 a1_0, .int .u64 a1_1, .int .i64 a1_2, .slice A1_3 l1_3.length c1_3, .slice A1_4 l1_4.length c1_4]) (t := 47) ?hr ?_; (case hd => rfl); (case hg => rfl); (case hr => first | (go_simp; done) | (go_simp; rfl)); intro gb182 hg w20 hbox hb; have n0_ := Aside0.mk (blk_below (g := gb181) (o := .cells #[.int .i64 a0_0, .int .u64 a0_1, .int .i64 a0_2, .slice A0_3 l0_3.length c0_3, .slice A0_4 l0_4.length c0_4] 47 (0, 0)) (by (with_reducible repeat (first | refine blk_drewN ?_ _ | refine blk_drew ?_ | refine blk_alloc ?_ _)); exact BK181.out) hb); have n1_ := Aside0.mk (below_step (by repeat (first | (with_reducible first | exact HB.out | apply below_alloc | apply pw_below_drewN | apply below_drew1 | refine below_set ?_ GE181.out) | exact HB.out)) hb); have n2_ := Aside0.mk (hbox); have n3_ := Aside0.mk ((by rw [hg]; exact (below_size (by repeat (first | (with_reducible first | exact HB.out | apply below_alloc | apply pw_below_drewN | apply below_drew1 | refine below_set ?_ GE181.out) | exact HB.out))) : w.heap.size ≤ gb182)); have n4_ := Aside0.mk ((by rw [hg]; exact (below_size (by repeat (first | (with_reducible first | exact HB.out | apply below_alloc | apply pw_below_drewN | apply below_drew1 | refine below_set ?_ GE181.out) | exact HB.out))) : w.heap.size ≤ gb182)); have n5_ := Aside0.mk ((by rw [hg]; exact Nat.ne_of_lt (blk_lt (g := gb181) (o := .cells #[.int .i64 a0_0, .int .u64 a0_1, .int .i64 a0_2, .slice A0_3 l0_3.length c0_3, .slice A0_4 l0_4.length c0_4] 47 (0, 0)) (by (with_reducible repeat (first | refine blk_drewN ?_ _ | refine blk_drew ?_ | refine blk_alloc ?_ _)); exact BK181.out)) : gb181 ≠ gb182)); have n6_ := Aside0.mk ((by rw [hg]; exact Nat.ne_of_gt (blk_lt (g := gb181) (o := .cells #[.int .i64 a0_0, .int .u64 a0_1, .int .i64 a0_2, .slice A0_3 l0_3.length c0_3, .slice A0_4 l0_4.length c0_4] 47 (0, 0)) (by (with_reducible repeat (first | refine blk_drewN ?_ _ | refine blk_drew ?_ | refine blk_alloc ?_ _)); exact BK181.out)) : gb182 ≠ gb181)); clear BK181; clear HB; have BK181 := n0_; have HB := n1_; have BK182 := n2_; have GW182 := n3_; have GE182 := n4_; have NB181_182 := n5_; have NB182_181 := n6_; clear n0_ n1_ n2_ n3_ n4_ n5_ n6_; clear hb hbox hg; have hnb21 := NB181_182.out; have hnc21 := NB182_181.out; have hcz22_0 : w20.cell? ⟨gb181, 0, none⟩ = some (.int .i64 a0_0) := (blk_cell BK181.out 0).trans rfl; have hcz22_1 : w20.cell? ⟨gb181, 1, none⟩ = some (.int .u64 a0_1) := (blk_cell BK181.out 1).trans rfl; have hcz22_2 : w20.cell? ⟨gb181, 2, none⟩ = some (.int .i64 a0_2) := (blk_cell BK181.out 2).trans rfl; have hcz22_3 : w20.cell? ⟨gb181, 3, none⟩ = some (.slice A0_3 l0_3.length c0_3) := (blk_cell BK181.out 3).trans rfl; have hcz22_4 : w20.cell? ⟨gb181, 4, none⟩ = some (.slice A0_4 l0_4.length c0_4) := (blk_cell BK181.out 4).trans rfl; have hfz22_0 := blk_frozen BK181.out 0; have hfz22_1 := blk_frozen BK181.out 1; have hfz22_2 := blk_frozen BK181.out 2; have hfz22_3 := blk_frozen BK181.out 3; have hfz22_4 := blk_frozen BK181.out 4; have hcz23_0 : w20.cell? ⟨gb182, 0, none⟩ = some (.int .i64 a1_0) := (blk_cell BK182.out 0).trans rfl; have hcz23_1 : w20.cell? ⟨gb182, 1, none⟩ = some (.int .u64 a1_1) := (blk_cell BK182.out 1).trans rfl; have hcz23_2 : w20.cell? ⟨gb182, 2, none⟩ = some (.int .i64 a1_2) := (blk_cell BK182.out 2).trans rfl; have hcz23_3 : w20.cell? ⟨gb182, 3, none⟩ = some (.slice A1_3 l1_3.length c1_3) := (blk_cell BK182.out 3).trans rfl; have hcz23_4 : w20.cell? ⟨gb182, 4, none⟩ = some (.slice A1_4 l1_4.length c1_4) := (blk_cell BK182.out 4).trans rfl; have hfz23_0 := blk_frozen BK182.out 0; have hfz23_1 := blk_frozen BK182.out 1; have hfz23_2 := blk_frozen BK182.out 2; have hfz23_3 := blk_frozen BK182.out 3; have hfz23_4 := blk_frozen BK182.out 4) | ((with_reducible refine gate_callee (f := 30) rfl ?_); refine goesL_ (some 11) rfl rfl Try.func30 (by kernel_rfl) rfl #[.slice A0_3 l0_3.length c0_3, .slice A1_3 l1_3.length c1_3] rfl (by (try simp only [List.map_toArray, List.map_cons, List.map_nil]); first | done | rfl | (simp only [List.length_drop, List.length_take]; rfl)) ?_; (with_reducible refine (refuterref01_SameBytes.calls k _ _ l0_3 _ _ l1_3 t183 _ ?side1 ?side2 ?side3 ?side4 A3.out).mono ?_); (case side1 => repeat (first | exact (Kd.C_below HR0_3.out HB.out) | (with_reducible refine Kd.C_alloc ?_ _) | (with_reducible refine Kd.C_drewN ?_ _) | (with_reducible refine Kd.C_drew ?_))); (case side2 => exact HC0_3.out); (case side3 => repeat (first | exact (Kd.C_below HR1_3.out HB.out) | (with_reducible refine Kd.C_alloc ?_ _) | (with_reducible refine Kd.C_drewN ?_ _) | (with_reducible refine Kd.C_drew ?_))); (case side4 => exact HC1_3.out); rintro e w' ⟨rfl, ⟨nd, rfl⟩⟩; refine ⟨_, rfl, ?_⟩) | ((with_reducible refine gate_callee (f := 32) rfl ?_); refine goesL_ (some 16) rfl rfl Try.func32 (by kernel_rfl) rfl #[.slice A0_4 l0_4.length c0_4, .slice A1_4 l1_4.length c1_4] rfl (by (try simp only [List.map_toArray, List.map_cons, List.map_nil]); first | done | rfl | (simp only [List.length_drop, List.length_take]; rfl)) ?_; (with_reducible refine (refuterref01_SameInts.calls k _ _ l0_4 _ _ l1_4 t184 _ ?side1 ?side2 ?side3 ?side4 A4.out).mono ?_); (case side1 => repeat (first | exact (Kd.C_below HR0_4.out (by repeat (first | (with_reducible first | exact HB.out | apply below_alloc | apply pw_below_drewN | apply below_drew1 | refine below_set ?_ GE181.out | refine below_set ?_ GE182.out) | exact HB.out))) | (with_reducible refine Kd.C_alloc ?_ _) | (with_reducible refine Kd.C_drewN ?_ _) | (with_reducible refine Kd.C_drew ?_))); (case side2 => exact HC0_4.out); (case side3 => repeat (first | exact (Kd.C_below HR1_4.out (by repeat (first | (with_reducible first | exact HB.out | apply below_alloc | apply pw_below_drewN | apply below_drew1 | refine below_set ?_ GE181.out | refine below_set ?_ GE182.out) | exact HB.out))) | (with_reducible refine Kd.C_alloc ?_ _) | (with_reducible refine Kd.C_drewN ?_ _) | (with_reducible refine Kd.C_drew ?_))); (case side4 => exact HC1_4.out); rintro e w' ⟨rfl, ⟨nd, rfl⟩⟩; refine ⟨_, rfl, ?_⟩))
        go_ret
        exact ⟨by first | rfl | (simp [errW_none, errW_some] <;> rfl) | (simp [*, errW_none, errW_some] <;> rfl), by repeat (first | (with_reducible first | exact HB.out | apply below_alloc | apply pw_below_drewN | apply below_drew1 | refine below_set ?_ GE181.out | refine below_set ?_ GE182.out) | exact HB.out)⟩
    · rw [if_neg c6] at H
      have c6b0 : (a0_1 == a1_1) = false := beq_eq_false_iff_ne.mpr c6
      have c6b1 : (a0_1 != a1_1) = true := bne_iff_ne.mpr c6
      obtain rfl := Option.some.inj H
      go_enter Try.func22, Try.ntmps22
      go_wp2_with (first | ((with_reducible refine gate_dst (N := 2) rfl ?_); refine box_event ?hg (N := 2) ?hd (cs := #[.int .i64 a0_0, .int .u64 a0_1, .int .i64 a0_2, .slice A0_3 l0_3.length c0_3, .slice A0_4 l0_4.length c0_4]) (t := 47) ?hr ?_; (case hd => rfl); (case hg => rfl); (case hr => first | (go_simp; done) | (go_simp; rfl)); intro gb181 hg w24 hbox hb; have n0_ := Aside0.mk (below_step (by repeat (first | (with_reducible first | exact HB.out | apply below_alloc | apply pw_below_drewN | apply below_drew1) | exact HB.out)) hb); have n1_ := Aside0.mk (hbox); have n2_ := Aside0.mk ((by rw [hg]; exact (below_size (by repeat (first | (with_reducible first | exact HB.out | apply below_alloc | apply pw_below_drewN | apply below_drew1) | exact HB.out))) : w.heap.size ≤ gb181)); have n3_ := Aside0.mk ((by rw [hg]; exact (below_size (by repeat (first | (with_reducible first | exact HB.out | apply below_alloc | apply pw_below_drewN | apply below_drew1) | exact HB.out))) : w.heap.size ≤ gb181)); clear HB; have HB := n0_; have BK181 := n1_; have GW181 := n2_; have GE181 := n3_; clear n0_ n1_ n2_ n3_; clear hb hbox hg) | ((with_reducible refine gate_dst (N := 3) rfl ?_); refine box_event ?hg (N := 3) ?hd (cs := #[.int .i64 a1_0, .int .u64 a1_1, .int .i64 a1_2, .slice A1_3 l1_3.length c1_3, .slice A1_4 l1_4.length c1_4]) (t := 47) ?hr ?_; (case hd => rfl); (case hg => rfl); (case hr => first | (go_simp; done) | (go_simp; rfl)); intro gb182 hg w25 hbox hb; have n0_ := Aside0.mk (blk_below (g := gb181) (o := .cells #[.int .i64 a0_0, .int .u64 a0_1, .int .i64 a0_2, .slice A0_3 l0_3.length c0_3, .slice A0_4 l0_4.length c0_4] 47 (0, 0)) (by (with_reducible repeat (first | refine blk_drewN ?_ _ | refine blk_drew ?_ | refine blk_alloc ?_ _)); exact BK181.out) hb); have n1_ := Aside0.mk (below_step (by repeat (first | (with_reducible first | exact HB.out | apply below_alloc | apply pw_below_drewN | apply below_drew1 | refine below_set ?_ GE181.out) | exact HB.out)) hb); have n2_ := Aside0.mk (hbox); have n3_ := Aside0.mk ((by rw [hg]; exact (below_size (by repeat (first | (with_reducible first | exact HB.out | apply below_alloc | apply pw_below_drewN | apply below_drew1 | refine below_set ?_ GE181.out) | exact HB.out))) : w.heap.size ≤ gb182)); have n4_ := Aside0.mk ((by rw [hg]; exact (below_size (by repeat (first | (with_reducible first | exact HB.out | apply below_alloc | apply pw_below_drewN | apply below_drew1 | refine below_set ?_ GE181.out) | exact HB.out))) : w.heap.size ≤ gb182)); have n5_ := Aside0.mk ((by rw [hg]; exact Nat.ne_of_lt (blk_lt (g := gb181) (o := .cells #[.int .i64 a0_0, .int .u64 a0_1, .int .i64 a0_2, .slice A0_3 l0_3.length c0_3, .slice A0_4 l0_4.length c0_4] 47 (0, 0)) (by (with_reducible repeat (first | refine blk_drewN ?_ _ | refine blk_drew ?_ | refine blk_alloc ?_ _)); exact BK181.out)) : gb181 ≠ gb182)); have n6_ := Aside0.mk ((by rw [hg]; exact Nat.ne_of_gt (blk_lt (g := gb181) (o := .cells #[.int .i64 a0_0, .int .u64 a0_1, .int .i64 a0_2, .slice A0_3 l0_3.length c0_3, .slice A0_4 l0_4.length c0_4] 47 (0, 0)) (by (with_reducible repeat (first | refine blk_drewN ?_ _ | refine blk_drew ?_ | refine blk_alloc ?_ _)); exact BK181.out)) : gb182 ≠ gb181)); clear BK181; clear HB; have BK181 := n0_; have HB := n1_; have BK182 := n2_; have GW182 := n3_; have GE182 := n4_; have NB181_182 := n5_; have NB182_181 := n6_; clear n0_ n1_ n2_ n3_ n4_ n5_ n6_; clear hb hbox hg; have hnb26 := NB181_182.out; have hnc26 := NB182_181.out; have hcz27_0 : w25.cell? ⟨gb181, 0, none⟩ = some (.int .i64 a0_0) := (blk_cell BK181.out 0).trans rfl; have hcz27_1 : w25.cell? ⟨gb181, 1, none⟩ = some (.int .u64 a0_1) := (blk_cell BK181.out 1).trans rfl; have hcz27_2 : w25.cell? ⟨gb181, 2, none⟩ = some (.int .i64 a0_2) := (blk_cell BK181.out 2).trans rfl; have hcz27_3 : w25.cell? ⟨gb181, 3, none⟩ = some (.slice A0_3 l0_3.length c0_3) := (blk_cell BK181.out 3).trans rfl; have hcz27_4 : w25.cell? ⟨gb181, 4, none⟩ = some (.slice A0_4 l0_4.length c0_4) := (blk_cell BK181.out 4).trans rfl; have hfz27_0 := blk_frozen BK181.out 0; have hfz27_1 := blk_frozen BK181.out 1; have hfz27_2 := blk_frozen BK181.out 2; have hfz27_3 := blk_frozen BK181.out 3; have hfz27_4 := blk_frozen BK181.out 4; have hcz28_0 : w25.cell? ⟨gb182, 0, none⟩ = some (.int .i64 a1_0) := (blk_cell BK182.out 0).trans rfl; have hcz28_1 : w25.cell? ⟨gb182, 1, none⟩ = some (.int .u64 a1_1) := (blk_cell BK182.out 1).trans rfl; have hcz28_2 : w25.cell? ⟨gb182, 2, none⟩ = some (.int .i64 a1_2) := (blk_cell BK182.out 2).trans rfl; have hcz28_3 : w25.cell? ⟨gb182, 3, none⟩ = some (.slice A1_3 l1_3.length c1_3) := (blk_cell BK182.out 3).trans rfl; have hcz28_4 : w25.cell? ⟨gb182, 4, none⟩ = some (.slice A1_4 l1_4.length c1_4) := (blk_cell BK182.out 4).trans rfl; have hfz28_0 := blk_frozen BK182.out 0; have hfz28_1 := blk_frozen BK182.out 1; have hfz28_2 := blk_frozen BK182.out 2; have hfz28_3 := blk_frozen BK182.out 3; have hfz28_4 := blk_frozen BK182.out 4) | ((with_reducible refine gate_callee (f := 30) rfl ?_); refine goesL_ (some 11) rfl rfl Try.func30 (by kernel_rfl) rfl #[.slice A0_3 l0_3.length c0_3, .slice A1_3 l1_3.length c1_3] rfl (by (try simp only [List.map_toArray, List.map_cons, List.map_nil]); first | done | rfl | (simp only [List.length_drop, List.length_take]; rfl)) ?_; (with_reducible refine (refuterref01_SameBytes.calls k _ _ l0_3 _ _ l1_3 t183 _ ?side1 ?side2 ?side3 ?side4 A3.out).mono ?_); (case side1 => repeat (first | exact (Kd.C_below HR0_3.out HB.out) | (with_reducible refine Kd.C_alloc ?_ _) | (with_reducible refine Kd.C_drewN ?_ _) | (with_reducible refine Kd.C_drew ?_))); (case side2 => exact HC0_3.out); (case side3 => repeat (first | exact (Kd.C_below HR1_3.out HB.out) | (with_reducible refine Kd.C_alloc ?_ _) | (with_reducible refine Kd.C_drewN ?_ _) | (with_reducible refine Kd.C_drew ?_))); (case side4 => exact HC1_3.out); rintro e w' ⟨rfl, ⟨nd, rfl⟩⟩; refine ⟨_, rfl, ?_⟩) | ((with_reducible refine gate_callee (f := 32) rfl ?_); refine goesL_ (some 16) rfl rfl Try.func32 (by kernel_rfl) rfl #[.slice A0_4 l0_4.length c0_4, .slice A1_4 l1_4.length c1_4] rfl (by (try simp only [List.map_toArray, List.map_cons, List.map_nil]); first | done | rfl | (simp only [List.length_drop, List.length_take]; rfl)) ?_; (with_reducible refine (refuterref01_SameInts.calls k _ _ l0_4 _ _ l1_4 t184 _ ?side1 ?side2 ?side3 ?side4 A4.out).mono ?_); (case side1 => repeat (first | exact (Kd.C_below HR0_4.out (by repeat (first | (with_reducible first | exact HB.out | apply below_alloc | apply pw_below_drewN | apply below_drew1 | refine below_set ?_ GE181.out | refine below_set ?_ GE182.out) | exact HB.out))) | (with_reducible refine Kd.C_alloc ?_ _) | (with_reducible refine Kd.C_drewN ?_ _) | (with_reducible refine Kd.C_drew ?_))); (case side2 => exact HC0_4.out); (case side3 => repeat (first | exact (Kd.C_below HR1_4.out (by repeat (first | (with_reducible first | exact HB.out | apply below_alloc | apply pw_below_drewN | apply below_drew1 | refine below_set ?_ GE181.out | refine below_set ?_ GE182.out) | exact HB.out))) | (with_reducible refine Kd.C_alloc ?_ _) | (with_reducible refine Kd.C_drewN ?_ _) | (with_reducible refine Kd.C_drew ?_))); (case side4 => exact HC1_4.out); rintro e w' ⟨rfl, ⟨nd, rfl⟩⟩; refine ⟨_, rfl, ?_⟩))
      go_ret
      exact ⟨by first | rfl | (simp [errW_none, errW_some] <;> rfl) | (simp [*, errW_none, errW_some] <;> rfl), by repeat (first | (with_reducible first | exact HB.out | apply below_alloc | apply pw_below_drewN | apply below_drew1 | refine below_set ?_ GE181.out | refine below_set ?_ GE182.out) | exact HB.out)⟩
  · rw [if_neg c5] at H
    have c5b0 : (a0_0 == a1_0) = false := beq_eq_false_iff_ne.mpr c5
    have c5b1 : (a0_0 != a1_0) = true := bne_iff_ne.mpr c5
    obtain rfl := Option.some.inj H
    go_enter Try.func22, Try.ntmps22
    go_wp2_with (first | ((with_reducible refine gate_dst (N := 2) rfl ?_); refine box_event ?hg (N := 2) ?hd (cs := #[.int .i64 a0_0, .int .u64 a0_1, .int .i64 a0_2, .slice A0_3 l0_3.length c0_3, .slice A0_4 l0_4.length c0_4]) (t := 47) ?hr ?_; (case hd => rfl); (case hg => rfl); (case hr => first | (go_simp; done) | (go_simp; rfl)); intro gb181 hg w29 hbox hb; have n0_ := Aside0.mk (below_step (by repeat (first | (with_reducible first | exact HB.out | apply below_alloc | apply pw_below_drewN | apply below_drew1) | exact HB.out)) hb); have n1_ := Aside0.mk (hbox); have n2_ := Aside0.mk ((by rw [hg]; exact (below_size (by repeat (first | (with_reducible first | exact HB.out | apply below_alloc | apply pw_below_drewN | apply below_drew1) | exact HB.out))) : w.heap.size ≤ gb181)); have n3_ := Aside0.mk ((by rw [hg]; exact (below_size (by repeat (first | (with_reducible first | exact HB.out | apply below_alloc | apply pw_below_drewN | apply below_drew1) | exact HB.out))) : w.heap.size ≤ gb181)); clear HB; have HB := n0_; have BK181 := n1_; have GW181 := n2_; have GE181 := n3_; clear n0_ n1_ n2_ n3_; clear hb hbox hg) | ((with_reducible refine gate_dst (N := 3) rfl ?_); refine box_event ?hg (N := 3) ?hd (cs := #[.int .i64 a1_0, .int .u64 a1_1, .int .i64 a1_2, .slice A1_3 l1_3.length c1_3, .slice A1_4 l1_4.length c1_4]) (t := 47) ?hr ?_; (case hd => rfl); (case hg => rfl); (case hr => first | (go_simp; done) | (go_simp; rfl)); intro gb182 hg w30 hbox hb; have n0_ := Aside0.mk (blk_below (g := gb181) (o := .cells #[.int .i64 a0_0, .int .u64 a0_1, .int .i64 a0_2, .slice A0_3 l0_3.length c0_3, .slice A0_4 l0_4.length c0_4] 47 (0, 0)) (by (with_reducible repeat (first | refine blk_drewN ?_ _ | refine blk_drew ?_ | refine blk_alloc ?_ _)); exact BK181.out) hb); have n1_ := Aside0.mk (below_step (by repeat (first | (with_reducible first | exact HB.out | apply below_alloc | apply pw_below_drewN | apply below_drew1 | refine below_set ?_ GE181.out) | exact HB.out)) hb); have n2_ := Aside0.mk (hbox); have n3_ := Aside0.mk ((by rw [hg]; exact (below_size (by repeat (first | (with_reducible first | exact HB.out | apply below_alloc | apply pw_below_drewN | apply below_drew1 | refine below_set ?_ GE181.out) | exact HB.out))) : w.heap.size ≤ gb182)); have n4_ := Aside0.mk ((by rw [hg]; exact (below_size (by repeat (first | (with_reducible first | exact HB.out | apply below_alloc | apply pw_below_drewN | apply below_drew1 | refine below_set ?_ GE181.out) | exact HB.out))) : w.heap.size ≤ gb182)); have n5_ := Aside0.mk ((by rw [hg]; exact Nat.ne_of_lt (blk_lt (g := gb181) (o := .cells #[.int .i64 a0_0, .int .u64 a0_1, .int .i64 a0_2, .slice A0_3 l0_3.length c0_3, .slice A0_4 l0_4.length c0_4] 47 (0, 0)) (by (with_reducible repeat (first | refine blk_drewN ?_ _ | refine blk_drew ?_ | refine blk_alloc ?_ _)); exact BK181.out)) : gb181 ≠ gb182)); have n6_ := Aside0.mk ((by rw [hg]; exact Nat.ne_of_gt (blk_lt (g := gb181) (o := .cells #[.int .i64 a0_0, .int .u64 a0_1, .int .i64 a0_2, .slice A0_3 l0_3.length c0_3, .slice A0_4 l0_4.length c0_4] 47 (0, 0)) (by (with_reducible repeat (first | refine blk_drewN ?_ _ | refine blk_drew ?_ | refine blk_alloc ?_ _)); exact BK181.out)) : gb182 ≠ gb181)); clear BK181; clear HB; have BK181 := n0_; have HB := n1_; have BK182 := n2_; have GW182 := n3_; have GE182 := n4_; have NB181_182 := n5_; have NB182_181 := n6_; clear n0_ n1_ n2_ n3_ n4_ n5_ n6_; clear hb hbox hg; have hnb31 := NB181_182.out; have hnc31 := NB182_181.out; have hcz32_0 : w30.cell? ⟨gb181, 0, none⟩ = some (.int .i64 a0_0) := (blk_cell BK181.out 0).trans rfl; have hcz32_1 : w30.cell? ⟨gb181, 1, none⟩ = some (.int .u64 a0_1) := (blk_cell BK181.out 1).trans rfl; have hcz32_2 : w30.cell? ⟨gb181, 2, none⟩ = some (.int .i64 a0_2) := (blk_cell BK181.out 2).trans rfl; have hcz32_3 : w30.cell? ⟨gb181, 3, none⟩ = some (.slice A0_3 l0_3.length c0_3) := (blk_cell BK181.out 3).trans rfl; have hcz32_4 : w30.cell? ⟨gb181, 4, none⟩ = some (.slice A0_4 l0_4.length c0_4) := (blk_cell BK181.out 4).trans rfl; have hfz32_0 := blk_frozen BK181.out 0; have hfz32_1 := blk_frozen BK181.out 1; have hfz32_2 := blk_frozen BK181.out 2; have hfz32_3 := blk_frozen BK181.out 3; have hfz32_4 := blk_frozen BK181.out 4; have hcz33_0 : w30.cell? ⟨gb182, 0, none⟩ = some (.int .i64 a1_0) := (blk_cell BK182.out 0).trans rfl; have hcz33_1 : w30.cell? ⟨gb182, 1, none⟩ = some (.int .u64 a1_1) := (blk_cell BK182.out 1).trans rfl; have hcz33_2 : w30.cell? ⟨gb182, 2, none⟩ = some (.int .i64 a1_2) := (blk_cell BK182.out 2).trans rfl; have hcz33_3 : w30.cell? ⟨gb182, 3, none⟩ = some (.slice A1_3 l1_3.length c1_3) := (blk_cell BK182.out 3).trans rfl; have hcz33_4 : w30.cell? ⟨gb182, 4, none⟩ = some (.slice A1_4 l1_4.length c1_4) := (blk_cell BK182.out 4).trans rfl; have hfz33_0 := blk_frozen BK182.out 0; have hfz33_1 := blk_frozen BK182.out 1; have hfz33_2 := blk_frozen BK182.out 2; have hfz33_3 := blk_frozen BK182.out 3; have hfz33_4 := blk_frozen BK182.out 4) | ((with_reducible refine gate_callee (f := 30) rfl ?_); refine goesL_ (some 11) rfl rfl Try.func30 (by kernel_rfl) rfl #[.slice A0_3 l0_3.length c0_3, .slice A1_3 l1_3.length c1_3] rfl (by (try simp only [List.map_toArray, List.map_cons, List.map_nil]); first | done | rfl | (simp only [List.length_drop, List.length_take]; rfl)) ?_; (with_reducible refine (refuterref01_SameBytes.calls k _ _ l0_3 _ _ l1_3 t183 _ ?side1 ?side2 ?side3 ?side4 A3.out).mono ?_); (case side1 => repeat (first | exact (Kd.C_below HR0_3.out HB.out) | (with_reducible refine Kd.C_alloc ?_ _) | (with_reducible refine Kd.C_drewN ?_ _) | (with_reducible refine Kd.C_drew ?_))); (case side2 => exact HC0_3.out); (case side3 => repeat (first | exact (Kd.C_below HR1_3.out HB.out) | (with_reducible refine Kd.C_alloc ?_ _) | (with_reducible refine Kd.C_drewN ?_ _) | (with_reducible refine Kd.C_drew ?_))); (case side4 => exact HC1_3.out); rintro e w' ⟨rfl, ⟨nd, rfl⟩⟩; refine ⟨_, rfl, ?_⟩) | ((with_reducible refine gate_callee (f := 32) rfl ?_); refine goesL_ (some 16) rfl rfl Try.func32 (by kernel_rfl) rfl #[.slice A0_4 l0_4.length c0_4, .slice A1_4 l1_4.length c1_4] rfl (by (try simp only [List.map_toArray, List.map_cons, List.map_nil]); first | done | rfl | (simp only [List.length_drop, List.length_take]; rfl)) ?_; (with_reducible refine (refuterref01_SameInts.calls k _ _ l0_4 _ _ l1_4 t184 _ ?side1 ?side2 ?side3 ?side4 A4.out).mono ?_); (case side1 => repeat (first | exact (Kd.C_below HR0_4.out (by repeat (first | (with_reducible first | exact HB.out | apply below_alloc | apply pw_below_drewN | apply below_drew1 | refine below_set ?_ GE181.out | refine below_set ?_ GE182.out) | exact HB.out))) | (with_reducible refine Kd.C_alloc ?_ _) | (with_reducible refine Kd.C_drewN ?_ _) | (with_reducible refine Kd.C_drew ?_))); (case side2 => exact HC0_4.out); (case side3 => repeat (first | exact (Kd.C_below HR1_4.out (by repeat (first | (with_reducible first | exact HB.out | apply below_alloc | apply pw_below_drewN | apply below_drew1 | refine below_set ?_ GE181.out | refine below_set ?_ GE182.out) | exact HB.out))) | (with_reducible refine Kd.C_alloc ?_ _) | (with_reducible refine Kd.C_drewN ?_ _) | (with_reducible refine Kd.C_drew ?_))); (case side4 => exact HC1_4.out); rintro e w' ⟨rfl, ⟨nd, rfl⟩⟩; refine ⟨_, rfl, ?_⟩))
    go_ret
    exact ⟨by first | rfl | (simp [errW_none, errW_some] <;> rfl) | (simp [*, errW_none, errW_some] <;> rfl), by repeat (first | (with_reducible first | exact HB.out | apply below_alloc | apply pw_below_drewN | apply below_drew1 | refine below_set ?_ GE181.out | refine below_set ?_ GE182.out) | exact HB.out)⟩

-- NOT PRINTED: function 57 (wire_list_int)

-- NOT PRINTED: function 33 (wire_Reader_Ints)

-- NOT PRINTED: function 49 (wire_Reader_Bool)

end Go.Proofs.Ytleomgkogbenaaa.PA
