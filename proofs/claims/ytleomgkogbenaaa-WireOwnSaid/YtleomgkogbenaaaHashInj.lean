/- Plain facts on the hash: the absorbing step is injective in the state and in the word; so is the sum in one word, in one word of the label, in its last integer. -/
import Derived.Test.YtleomgkogbenaaaHashPlain
namespace Go.Proofs.Ytleomgkogbenaaa.HashPlain
open Go

/-- The step over natural numbers. -/
def nmix (s w : Nat) : Nat := ((s ^^^ w) * 11400714819323198485 % 18446744073709551616) ^^^ ((s ^^^ w) * 11400714819323198485 % 18446744073709551616 / 4294967296)

theorem nmix_lt (s w : Nat) : nmix s w < 18446744073709551616 := by
  unfold nmix
  have h1 : (s ^^^ w) * 11400714819323198485 % 18446744073709551616 < 2 ^ 64 := Nat.mod_lt _ (by decide)
  generalize (s ^^^ w) * 11400714819323198485 % 18446744073709551616 = y at h1
  exact Nat.xor_lt_two_pow h1 (by omega)

theorem hmix_nat (s w : Nat) (hs : s < 18446744073709551616) (hw : w < 18446744073709551616) : hmix (s : Int) (w : Int) = (nmix s w : Int) := by
  unfold hmix nmix
  have hx : s ^^^ w < 2 ^ 64 := Nat.xor_lt_two_pow (by omega) (by omega)
  rw [u64_xor_nat s w hs hw]
  generalize s ^^^ w = x at hx
  have e1 : IntKind.u64.wrap ((x : Int) * 11400714819323198485) = ((x * 11400714819323198485 % 18446744073709551616 : Nat) : Int) := by
    rw [IntKind.wrap_u64]; omega
  rw [e1]
  have hy : x * 11400714819323198485 % 18446744073709551616 < 18446744073709551616 := Nat.mod_lt _ (by decide)
  generalize x * 11400714819323198485 % 18446744073709551616 = y at hy
  have e2 : (y : Int) / 4294967296 = ((y / 4294967296 : Nat) : Int) := by omega
  rw [e2, u64_xor_nat y _ hy (by omega)]

theorem odd_inv : 11400714819323198485 * 17428512612931826493 = 1 + 18446744073709551616 * 10771413168148108919 := rfl

theorem odd_key (z c d m k : Nat) (hz : z < m) (h : c * d = 1 + m * k) : (z * c % m) * d % m = z := by
  rw [Nat.mod_mul_mod, Nat.mul_assoc, h, Nat.mul_add, Nat.mul_one, Nat.mul_left_comm, Nat.add_mul_mod_self_left, Nat.mod_eq_of_lt hz]

theorem odd_inj0 (x y c d m k : Nat) (hx : x < m) (hy : y < m) (hk : c * d = 1 + m * k) (h : x * c % m = y * c % m) : x = y := by
  rw [← odd_key x c d m k hx hk, ← odd_key y c d m k hy hk, h]

theorem odd_inj (x y : Nat) (hx : x < 18446744073709551616) (hy : y < 18446744073709551616)
    (h : x * 11400714819323198485 % 18446744073709551616 = y * 11400714819323198485 % 18446744073709551616) : x = y :=
  odd_inj0 x y _ _ _ _ hx hy odd_inv h

theorem shift_inj (x y : Nat) (hx : x < 18446744073709551616) (hy : y < 18446744073709551616)
    (h : x ^^^ x / 4294967296 = y ^^^ y / 4294967296) : x = y := by
  have e : ∀ z, z < 18446744073709551616 → (z ^^^ z / 4294967296) / 4294967296 = z / 4294967296 := by
    intro z hz
    have h1 := Nat.shiftRight_xor_distrib (i := 32) (a := z) (b := z / 4294967296)
    simp only [Nat.shiftRight_eq_div_pow] at h1
    have h2 : z / 4294967296 / 2 ^ 32 = 0 := by omega
    rw [h2, Nat.xor_zero] at h1
    exact h1
  have h3 : x / 4294967296 = y / 4294967296 := by rw [← e x hx, ← e y hy, h]
  have h4 : (x ^^^ x / 4294967296) ^^^ x / 4294967296 = x := by rw [Nat.xor_assoc, Nat.xor_self, Nat.xor_zero]
  have h5 : (y ^^^ y / 4294967296) ^^^ y / 4294967296 = y := by rw [Nat.xor_assoc, Nat.xor_self, Nat.xor_zero]
  rw [← h4, ← h5, h, h3]

theorem nmix_xor (s w s' w' : Nat) (hs : s < 18446744073709551616) (hw : w < 18446744073709551616) (hs' : s' < 18446744073709551616) (hw' : w' < 18446744073709551616)
    (h : nmix s w = nmix s' w') : s ^^^ w = s' ^^^ w' := by
  unfold nmix at h
  have h1 := shift_inj _ _ (Nat.mod_lt _ (by decide)) (Nat.mod_lt _ (by decide)) h
  exact odd_inj _ _ (Nat.xor_lt_two_pow (n := 64) hs hw) (Nat.xor_lt_two_pow (n := 64) hs' hw') h1

theorem nmix_word (s w w' : Nat) (hs : s < 18446744073709551616) (hw : w < 18446744073709551616) (hw' : w' < 18446744073709551616) (h : nmix s w = nmix s w') : w = w' := by
  have h1 := nmix_xor s w s w' hs hw hs hw' h
  have h2 : s ^^^ (s ^^^ w) = s ^^^ (s ^^^ w') := by rw [h1]
  rwa [← Nat.xor_assoc, ← Nat.xor_assoc, Nat.xor_self, Nat.zero_xor, Nat.zero_xor] at h2

theorem nmix_state (s s' w : Nat) (hs : s < 18446744073709551616) (hs' : s' < 18446744073709551616) (hw : w < 18446744073709551616) (h : nmix s w = nmix s' w) : s = s' := by
  have h1 := nmix_xor s w s' w hs hw hs' hw h
  have h2 : (s ^^^ w) ^^^ w = (s' ^^^ w) ^^^ w := by rw [h1]
  rwa [Nat.xor_assoc, Nat.xor_assoc, Nat.xor_self, Nat.xor_zero, Nat.xor_zero] at h2

theorem U64.nat {x : Int} (h : U64 x) : ∃ n : Nat, x = (n : Int) ∧ n < 18446744073709551616 := ⟨x.toNat, by unfold U64 at h; omega, by unfold U64 at h; omega⟩

theorem hmix_u64 {s w : Int} (hs : U64 s) (hw : U64 w) : U64 (hmix s w) := by
  obtain ⟨s, rfl, ks⟩ := hs.nat
  obtain ⟨w, rfl, kw⟩ := hw.nat
  rw [hmix_nat s w ks kw]
  have := nmix_lt s w
  unfold U64; omega

theorem hmix_word {s w w' : Int} (hs : U64 s) (hw : U64 w) (hw' : U64 w') (h : hmix s w = hmix s w') : w = w' := by
  obtain ⟨s, rfl, ks⟩ := hs.nat
  obtain ⟨w, rfl, kw⟩ := hw.nat
  obtain ⟨w', rfl, kw'⟩ := hw'.nat
  rw [hmix_nat s w ks kw, hmix_nat s w' ks kw'] at h
  rw [nmix_word s w w' ks kw kw' (by omega)]

theorem hmix_state {s s' w : Int} (hs : U64 s) (hs' : U64 s') (hw : U64 w) (h : hmix s w = hmix s' w) : s = s' := by
  obtain ⟨s, rfl, ks⟩ := hs.nat
  obtain ⟨w, rfl, kw⟩ := hw.nat
  obtain ⟨s', rfl, ks'⟩ := hs'.nat
  rw [hmix_nat s w ks kw, hmix_nat s' w ks' kw] at h
  rw [nmix_state s s' w ks ks' kw (by omega)]

theorem fold_u64 (l : List Int) : ∀ s, U64 s → (∀ x ∈ l, U64 x) → U64 (l.foldl hmix s) := by
  induction l with
  | nil => exact fun s hs _ => hs
  | cons x l ih => exact fun s hs h => ih _ (hmix_u64 hs (h x List.mem_cons_self)) (fun y hy => h y (List.mem_cons_of_mem _ hy))

theorem fold_state (l : List Int) : ∀ s s', U64 s → U64 s' → (∀ x ∈ l, U64 x) → l.foldl hmix s = l.foldl hmix s' → s = s' := by
  induction l with
  | nil => exact fun s s' _ _ _ h => h
  | cons x l ih => exact fun s s' hs hs' h he => hmix_state hs hs' (h x List.mem_cons_self) (ih _ _ (hmix_u64 hs (h x List.mem_cons_self)) (hmix_u64 hs' (h x List.mem_cons_self)) (fun y hy => h y (List.mem_cons_of_mem _ hy)) he)

/-- One word replaced: the states are equal just where the words are. -/
theorem fold_word (p : List Int) (x y : Int) (q : List Int) (s : Int) (hs : U64 s) (hp : ∀ z ∈ p, U64 z) (hx : U64 x) (hy : U64 y) (hq : ∀ z ∈ q, U64 z) (h : (p ++ x :: q).foldl hmix s = (p ++ y :: q).foldl hmix s) : x = y := by
  rw [List.foldl_append, List.foldl_append, List.foldl_cons, List.foldl_cons] at h
  have hs1 := fold_u64 p s hs hp
  exact hmix_word hs1 hx hy (fold_state q _ _ (hmix_u64 hs1 hx) (hmix_u64 hs1 hy) hq h)

theorem wrapu_u64 (x : Int) : U64 (IntKind.u64.wrap x) := by rw [IntKind.wrap_u64]; unfold U64; omega
theorem zero_u64 : U64 0 := by unfold U64; omega

theorem hsum_eq (b l : List Int) : hsum b l = hmix ((l.map IntKind.u64.wrap).foldl hmix (hmix (hmix ((hwords b).foldl hmix 0) (b.length : Int)) (l.length : Int))) 0 := by
  unfold hsum; rw [List.foldl_map]

theorem map_u64 (l : List Int) : ∀ x ∈ l.map IntKind.u64.wrap, U64 x := by
  intro x hx
  obtain ⟨y, _, rfl⟩ := List.mem_map.1 hx
  exact wrapu_u64 y

theorem label_u64 (b : List Int) (hb : ∀ x ∈ b, Byte x) (hl : b.length < 18446744073709551616) (n : Nat) (hn : n < 18446744073709551616) : U64 (hmix (hmix ((hwords b).foldl hmix 0) (b.length : Int)) (n : Int)) :=
  hmix_u64 (hmix_u64 (fold_u64 _ _ zero_u64 (hwords_u64 b hb)) ⟨by omega, by omega⟩) ⟨by omega, by omega⟩

theorem hsum_u64 (b l : List Int) (hb : ∀ x ∈ b, Byte x) (hl : b.length < 18446744073709551616) (hn : l.length < 18446744073709551616) : U64 (hsum b l) := by
  rw [hsum_eq]
  exact hmix_u64 (fold_u64 _ _ (label_u64 b hb hl _ hn) (map_u64 l)) zero_u64

/-- One integer replaced. -/
theorem hsum_word (b : List Int) (hb : ∀ x ∈ b, Byte x) (hl : b.length < 18446744073709551616) (p : List Int) (x y : Int) (q : List Int) (hn : (p ++ x :: q).length < 18446744073709551616)
    (h : hsum b (p ++ x :: q) = hsum b (p ++ y :: q)) : IntKind.u64.wrap x = IntKind.u64.wrap y := by
  have e : (p ++ y :: q).length = (p ++ x :: q).length := by simp
  rw [hsum_eq, hsum_eq, e] at h
  have hL := label_u64 b hb hl _ hn
  generalize hmix (hmix ((hwords b).foldl hmix 0) (b.length : Int)) ((p ++ x :: q).length : Int) = s at h hL
  rw [List.map_append, List.map_cons, List.map_append, List.map_cons] at h
  have hu : ∀ z, ∀ w ∈ p.map IntKind.u64.wrap ++ IntKind.u64.wrap z :: q.map IntKind.u64.wrap, U64 w := by
    intro z w hw
    rcases List.mem_append.1 hw with hw | hw
    · exact map_u64 p w hw
    · rcases List.mem_cons.1 hw with rfl | hw
      · exact wrapu_u64 z
      · exact map_u64 q w hw
  have h1 := hmix_state (fold_u64 _ _ hL (hu x)) (fold_u64 _ _ hL (hu y)) zero_u64 h
  exact fold_word _ _ _ _ s hL (map_u64 p) (wrapu_u64 x) (wrapu_u64 y) (map_u64 q) h1

/-- One word of the label replaced, its length kept. -/
theorem hsum_label (b b' : List Int) (hb : ∀ x ∈ b, Byte x) (hb' : ∀ x ∈ b', Byte x) (hbl : b'.length = b.length) (hl : b.length < 18446744073709551616) (l : List Int) (hn : l.length < 18446744073709551616)
    (p : List Int) (x y : Int) (q : List Int) (hw : hwords b = p ++ x :: q) (hw' : hwords b' = p ++ y :: q) (h : hsum b l = hsum b' l) : x = y := by
  rw [hsum_eq, hsum_eq, hbl] at h
  have hU := hwords_u64 b hb
  have hU' := hwords_u64 b' hb'
  have hf := fold_u64 _ _ zero_u64 hU
  have hf' := fold_u64 _ _ zero_u64 hU'
  have hbu : U64 (b.length : Int) := ⟨by omega, by omega⟩
  have hnu : U64 (l.length : Int) := ⟨by omega, by omega⟩
  have h1 := hmix_state (fold_u64 _ _ (hmix_u64 (hmix_u64 hf hbu) hnu) (map_u64 l)) (fold_u64 _ _ (hmix_u64 (hmix_u64 hf' hbu) hnu) (map_u64 l)) zero_u64 h
  have h2 := fold_state _ _ _ (hmix_u64 (hmix_u64 hf hbu) hnu) (hmix_u64 (hmix_u64 hf' hbu) hnu) (map_u64 l) h1
  have h3 := hmix_state hf hf' hbu (hmix_state (hmix_u64 hf hbu) (hmix_u64 hf' hbu) hnu h2)
  rw [hw] at h3 hU
  rw [hw'] at h3 hU'
  exact fold_word p x y q 0 zero_u64 (fun z hz => hU z (List.mem_append_left _ hz)) (hU x (List.mem_append_right _ List.mem_cons_self)) (hU' y (List.mem_append_right _ List.mem_cons_self)) (fun z hz => hU z (List.mem_append_right _ (List.mem_cons_of_mem _ hz))) h3

theorem hword_inj : ∀ (l l' : List Int), l.length = l'.length → (∀ x ∈ l, Byte x) → (∀ x ∈ l', Byte x) → hword l = hword l' → l = l'
  | [], [], _, _, _, _ => rfl
  | a :: l, b :: l', hlen, h, h', he => by
    have ha : Byte a := h a List.mem_cons_self
    have hb : Byte b := h' b List.mem_cons_self
    simp only [hword] at he
    unfold Byte at ha hb
    have e1 : a = b := by omega
    have e2 : hword l = hword l' := by omega
    rw [e1, hword_inj l l' (by simpa using hlen) (fun x hx => h x (List.mem_cons_of_mem _ hx)) (fun x hx => h' x (List.mem_cons_of_mem _ hx)) e2]

/-- The words around one group of eight bytes. -/
theorem hwords_at (l : List Int) (j : Nat) (hj : 8 * j < l.length) : hwords l = hwords (l.take (8 * j)) ++ hword ((l.drop (8 * j)).take 8) :: hwords (l.drop (8 * j + 8)) := by
  induction j generalizing l with
  | zero =>
    have hne : l ≠ [] := fun e => by rw [e] at hj; simp at hj
    rw [hwords_step l hne]
    simp [hwords_nil]
  | succ j ih =>
    have hne : l ≠ [] := fun e => by rw [e] at hj; simp at hj
    rw [hwords_step l hne, ih (l.drop 8) (by rw [List.length_drop]; omega), hwords_step _ (take_ne_nil l _ (by omega) (by omega))]
    have e1 : (l.take (8 * (j + 1))).take 8 = l.take 8 := by rw [List.take_take, Nat.min_eq_left (by omega)]
    have e2 : (l.take (8 * (j + 1))).drop 8 = (l.drop 8).take (8 * j) := by rw [List.drop_take]; congr 1
    rw [e1, e2, List.drop_drop, List.drop_drop, show 8 + 8 * j = 8 * (j + 1) by omega, show 8 + (8 * j + 8) = 8 * (j + 1) + 8 by omega]
    rfl

/-- A zero byte behind a list whose length is no multiple of eight does not change the words. -/
theorem hwords_zero (l : List Int) (h : l.length % 8 ≠ 0) : hwords (l ++ [0]) = hwords l := by
  obtain ⟨j, hj⟩ : ∃ j, j = l.length / 8 := ⟨_, rfl⟩
  have h1 : 8 * j < l.length := by omega
  rw [hwords_at l j h1, hwords_at (l ++ [0]) j (by simp; omega)]
  have e1 : (l ++ [0]).take (8 * j) = l.take (8 * j) := by rw [List.take_append_of_le_length (by omega)]
  have e2 : (l ++ [0]).drop (8 * j) = l.drop (8 * j) ++ [0] := by rw [List.drop_append_of_le_length (by omega)]
  have e3 : (l.drop (8 * j)).take 8 = l.drop (8 * j) := List.take_of_length_le (by rw [List.length_drop]; omega)
  have e4 : (l.drop (8 * j) ++ [0]).take 8 = l.drop (8 * j) ++ [0] := List.take_of_length_le (by rw [List.length_append, List.length_drop]; simp; omega)
  have e5 : (l ++ [0]).drop (8 * j + 8) = [] := List.drop_eq_nil_of_le (by simp; omega)
  have e6 : l.drop (8 * j + 8) = [] := List.drop_eq_nil_of_le (by omega)
  rw [e1, e2, e3, e4, e5, e6, hword_snoc]
  simp

theorem wrapu_wrap64 (x : Int) (hx : U64 x) : IntKind.u64.wrap ((x + 9223372036854775808) % 18446744073709551616 - 9223372036854775808) = x := by
  rw [IntKind.wrap_u64]
  unfold U64 at hx
  omega
theorem wrapu_i64_inj (x y : Int) (hx : -9223372036854775808 ≤ x ∧ x ≤ 9223372036854775807) (hy : -9223372036854775808 ≤ y ∧ y ≤ 9223372036854775807) (h : IntKind.u64.wrap x = IntKind.u64.wrap y) : x = y := by
  rw [IntKind.wrap_u64, IntKind.wrap_u64] at h
  omega
end Go.Proofs.Ytleomgkogbenaaa.HashPlain
