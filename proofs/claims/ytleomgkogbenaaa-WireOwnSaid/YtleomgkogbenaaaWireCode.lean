/- Plain words of the wire's encoding and reading: each is the other's inverse. No program in sight. -/
import Derived.Test.YtleomgkogbenaaaWireSt
namespace Go.Proofs.Ytleomgkogbenaaa.WirePlain
open Go Go.RowKit

theorem decU_enc : ∀ (j i n : Nat) (r : List Int), i + j = 9 → n < 2 * 128 ^ j → (0 < i → 0 < n) → decU i (encU n ++ r) = .val n r := by
  intro j
  induction j with
  | zero =>
    intro i n r hi hn h0
    have hn2 : n < 2 := by simpa using hn
    rw [encU_small (by omega), List.singleton_append, decU, if_neg (by omega), if_pos (by omega), Int.toNat_natCast]
  | succ j ih =>
    intro i n r hi hn h0
    by_cases c : n < 128
    · rw [encU_small c, List.singleton_append, decU, if_neg (by omega), if_pos (by omega), Int.toNat_natCast]
    · rw [encU_big c, List.cons_append, decU, if_neg (by omega), if_neg (by omega), ih (i + 1) (n / 128) r (by omega) (by rw [Nat.pow_succ] at hn; omega) (fun _ => by omega)]
      have e : (((n % 128 + 128 : Nat) : Int) - 128).toNat + 128 * (n / 128) = n := by omega
      simp only [e]
theorem decU_prefix : ∀ (j i n : Nat) (p q : List Int), i + j = 9 → n < 2 * 128 ^ j → (0 < i → 0 < n) → p ++ q = encU n → q ≠ [] → decU i p = .bad 3 := by
  intro j
  induction j with
  | zero =>
    intro i n p q hi hn h0 hpq hq
    have hn2 : n < 2 := by simpa using hn
    rw [encU_small (by omega)] at hpq
    cases p with
    | nil => rw [decU]
    | cons a p =>
      rw [List.cons_append] at hpq
      injection hpq with _ h
      exact absurd (List.append_eq_nil_iff.mp h).2 hq
  | succ j ih =>
    intro i n p q hi hn h0 hpq hq
    cases p with
    | nil => rw [decU]
    | cons a p =>
      rw [List.cons_append] at hpq
      by_cases c : n < 128
      · rw [encU_small c] at hpq
        injection hpq with _ h
        exact absurd (List.append_eq_nil_iff.mp h).2 hq
      · rw [encU_big c] at hpq
        injection hpq with h1 h2
        rw [decU, if_neg (by omega), if_neg (by omega), ih (i + 1) (n / 128) p q (by omega) (by rw [Nat.pow_succ] at hn; omega) (fun _ => by omega) h2 hq]
theorem decU_back : ∀ (bs : List Int) (i n : Nat) (r : List Int), (∀ x ∈ bs, 0 ≤ x ∧ x < 256) → i ≤ 9 → decU i bs = .val n r → bs = encU n ++ r ∧ (0 < i → 0 < n) ∧ n < 2 * 128 ^ (9 - i) := by
  intro bs
  induction bs with
  | nil => intro i n r _ _ h; rw [decU] at h; cases h
  | cons c bs ih =>
    intro i n r hx hi h
    have hc := hx c List.mem_cons_self
    rw [decU] at h
    by_cases h1 : (i = 9 ∧ 1 < c) ∨ (0 < i ∧ c = 0)
    · rw [if_pos h1] at h; cases h
    rw [if_neg h1] at h
    by_cases h2 : c < 128
    · rw [if_pos h2] at h
      injection h with hn hr
      subst hn hr
      rw [encU_small (by omega)]
      refine ⟨by rw [Int.toNat_of_nonneg hc.1]; rfl, by omega, ?_⟩
      by_cases h9 : i = 9
      · subst h9; simp; omega
      · obtain ⟨m, hm⟩ : ∃ m, 9 - i = m + 1 := ⟨8 - i, by omega⟩
        rw [hm, Nat.pow_succ]
        have : 1 ≤ 128 ^ m := Nat.one_le_pow _ _ (by omega)
        omega
    · rw [if_neg h2] at h
      have h9 : i ≠ 9 := by omega
      cases hd : decU (i + 1) bs with
      | bad e => rw [hd] at h; cases h
      | val n' r' =>
        rw [hd] at h
        injection h with hn hr
        obtain ⟨e, hp, hb⟩ := ih (i + 1) n' r' (fun x hm => hx x (List.mem_cons_of_mem _ hm)) (by omega) hd
        have hp := hp (by omega)
        subst hn hr
        refine ⟨?_, by omega, ?_⟩
        · rw [encU_big (by omega), e, List.cons_append, show ((c - 128).toNat + 128 * n') / 128 = n' by omega]
          congr 1
          omega
        · rw [show 9 - i = (9 - (i + 1)) + 1 by omega, Nat.pow_succ]
          omega
theorem pow_nine : 2 * 128 ^ 9 = 18446744073709551616 := by rfl
theorem uintS_enc (n : Nat) (r : List Int) (h : n < 18446744073709551616) : uintS (.ok (encU n ++ r)) = (n, .ok r) := by
  show finU 0 0 (decU 0 (encU n ++ r)) = _
  rw [decU_enc 9 0 n r rfl (by rw [pow_nine]; exact h) (by omega)]
  simp [finU]
theorem uintS_prefix (n : Nat) (p q : List Int) (h : n < 18446744073709551616) (hpq : p ++ q = encU n) (hq : q ≠ []) : uintS (.ok p) = (0, .err 3) := by
  show finU 0 0 (decU 0 p) = _
  rw [decU_prefix 9 0 n p q rfl (by rw [pow_nine]; exact h) (by omega) hpq hq]
  rfl
theorem uintS_back (bs r : List Int) (n : Nat) (hx : ∀ x ∈ bs, 0 ≤ x ∧ x < 256) (h : uintS (.ok bs) = (n, .ok r)) : bs = encU n ++ r ∧ n < 18446744073709551616 := by
  replace h : finU 0 0 (decU 0 bs) = (n, .ok r) := h
  cases hd : decU 0 bs with
  | bad e => rw [hd] at h; simp [finU] at h
  | val n' r' =>
    rw [hd] at h
    simp only [finU, Nat.pow_zero, Nat.one_mul, Nat.zero_add, Prod.mk.injEq, St.ok.injEq] at h
    obtain ⟨rfl, rfl⟩ := h
    obtain ⟨e, -, hb⟩ := decU_back bs 0 n' r' hx (by omega) hd
    exact ⟨e, by rw [← pow_nine]; exact hb⟩
theorem unzig_range (z : Nat) (h : z < 18446744073709551616) : -9223372036854775808 ≤ unzig z ∧ unzig z < 9223372036854775808 := by
  unfold unzig; split <;> omega
theorem zig_lt' (n : Int) (h1 : -9223372036854775808 ≤ n) (h2 : n < 9223372036854775808) : zig n < 18446744073709551616 := by
  unfold zig; split <;> omega
theorem intS_enc (n : Int) (r : List Int) (h1 : -9223372036854775808 ≤ n) (h2 : n < 9223372036854775808) : intS (.ok (encI n ++ r)) = (n, .ok r) := by
  unfold intS encI
  rw [uintS_enc _ r (zig_lt' n h1 h2), unzig_zig]
theorem intS_prefix (n : Int) (p q : List Int) (h1 : -9223372036854775808 ≤ n) (h2 : n < 9223372036854775808) (hpq : p ++ q = encI n) (hq : q ≠ []) : intS (.ok p) = (0, .err 3) := by
  unfold intS
  rw [uintS_prefix _ p q (zig_lt' n h1 h2) hpq hq]
  rfl
theorem intS_back (bs r : List Int) (n : Int) (hx : ∀ x ∈ bs, 0 ≤ x ∧ x < 256) (h : intS (.ok bs) = (n, .ok r)) : bs = encI n ++ r ∧ -9223372036854775808 ≤ n ∧ n < 9223372036854775808 := by
  unfold intS at h
  cases hu : uintS (.ok bs) with
  | mk z s =>
    rw [hu] at h
    simp only [Prod.mk.injEq] at h
    obtain ⟨rfl, rfl⟩ := h
    obtain ⟨e, hz⟩ := uintS_back bs r z hx hu
    unfold encI
    rw [zig_unzig]
    exact ⟨e, unzig_range z hz⟩
theorem uintS_of_err (e : Int) : uintS (.err e) = (0, .err e) := rfl
theorem intS_of_err (e : Int) : intS (.err e) = (0, .err e) := by unfold intS; rw [uintS_of_err]; simp [unzig]
theorem encB_eq (b : Bool) : encB b = [if b then 1 else 0] := by
  unfold encB; cases b <;> rw [encU_small (by simp)] <;> rfl
theorem boolS_enc (b : Bool) (r : List Int) : boolS (.ok (encB b ++ r)) = (b, .ok r) := by
  rw [encB_eq, List.singleton_append]; cases b <;> simp [boolS]
theorem boolS_back (bs r : List Int) (b : Bool) (hx : ∀ x ∈ bs, 0 ≤ x ∧ x < 256) (h : boolS (.ok bs) = (b, .ok r)) : bs = encB b ++ r := by
  cases bs with
  | nil => simp [boolS] at h
  | cons c bs =>
    have hc := hx c List.mem_cons_self
    unfold boolS at h
    by_cases c1 : 1 < c
    · simp [c1] at h
    · simp only [c1, if_false, Prod.mk.injEq, St.ok.injEq] at h
      obtain ⟨rfl, rfl⟩ := h
      rw [encB_eq, List.singleton_append]
      congr 1
      by_cases e : c = 1
      · subst e; rfl
      · have : c = 0 := by omega
        subst this; rfl
theorem boolS_prefix (b : Bool) (p q : List Int) (hpq : p ++ q = encB b) (hq : q ≠ []) : boolS (.ok p) = (false, .err 3) := by
  rw [encB_eq] at hpq
  cases p with
  | nil => rfl
  | cons a p =>
    rw [List.cons_append] at hpq
    injection hpq with _ h
    exact absurd (List.append_eq_nil_iff.mp h).2 hq
theorem lenS_enc (n : Nat) (r : List Int) (h : n < 18446744073709551616) (hr : n ≤ r.length) : lenS (.ok (encU n ++ r)) = (n, .ok r) := by
  unfold lenS
  rw [uintS_enc n r h]
  simp only
  rw [if_neg (by omega)]
theorem lenS_back (bs r : List Int) (n : Nat) (hx : ∀ x ∈ bs, 0 ≤ x ∧ x < 256) (h : lenS (.ok bs) = (n, .ok r)) : bs = encU n ++ r ∧ n ≤ r.length ∧ n < 18446744073709551616 := by
  unfold lenS at h
  cases hu : uintS (.ok bs) with
  | mk z s =>
    rw [hu] at h
    cases s with
    | err e => simp at h
    | ok r' =>
      simp only at h
      by_cases c : r'.length < z
      · rw [if_pos c] at h; simp at h
      · rw [if_neg c] at h
        simp only [Prod.mk.injEq, St.ok.injEq] at h
        obtain ⟨rfl, rfl⟩ := h
        obtain ⟨e, hz⟩ := uintS_back bs r' z hx hu
        exact ⟨e, by omega, hz⟩
theorem rawS_enc (l r : List Int) (h : l.length < 18446744073709551616) : rawS (.ok (encRaw l ++ r)) = (l, .ok r) := by
  unfold rawS encRaw
  rw [List.append_assoc, lenS_enc _ _ h (by rw [List.length_append]; omega)]
  simp
theorem rawS_back (bs r l : List Int) (hx : ∀ x ∈ bs, 0 ≤ x ∧ x < 256) (h : rawS (.ok bs) = (l, .ok r)) : bs = encRaw l ++ r := by
  unfold rawS at h
  cases hl : lenS (.ok bs) with
  | mk n s =>
    rw [hl] at h
    cases s with
    | err e => simp at h
    | ok r' =>
      simp only [Prod.mk.injEq, St.ok.injEq] at h
      obtain ⟨rfl, rfl⟩ := h
      obtain ⟨e, hn, -⟩ := lenS_back bs r' n hx hl
      unfold encRaw
      rw [List.length_take, Nat.min_eq_left hn, List.append_assoc, List.take_append_drop]
      exact e
/-- Two splits of one list: the shorter head is the other's beginning. -/
theorem app_split {α : Type} {p q a b : List α} (h : p ++ q = a ++ b) : (∃ c, c ≠ [] ∧ a = p ++ c ∧ q = c ++ b) ∨ (∃ c, p = a ++ c ∧ b = c ++ q) := by
  rcases List.append_eq_append_iff.mp h with ⟨c, h1, h2⟩ | ⟨c, h1, h2⟩
  · by_cases hc : c = []
    · subst hc
      right
      exact ⟨[], by simpa using h1.symm, by simpa using h2.symm⟩
    · left; exact ⟨c, hc, h1, h2⟩
  · right; exact ⟨c, h1, h2⟩
theorem lenS_prefix (n : Nat) (l p q : List Int) (h : n < 18446744073709551616) (hpq : p ++ q = encU n ++ l) (hl : l.length = n) (hq : q ≠ []) : lenS (.ok p) = (0, .err 3) := by
  rcases app_split hpq with ⟨c, hc, h1, h2⟩ | ⟨c, h1, h2⟩
  · unfold lenS; rw [uintS_prefix n p c h h1.symm hc]
  · subst h1
    unfold lenS
    rw [uintS_enc n c h]
    have hlt : c.length < n := by
      rw [← hl, h2, List.length_append]
      have := List.length_pos_iff.mpr hq
      omega
    simp only
    rw [if_pos hlt]
theorem rawS_prefix (l p q : List Int) (h : l.length < 18446744073709551616) (hpq : p ++ q = encRaw l) (hq : q ≠ []) : rawS (.ok p) = ([], .err 3) := by
  unfold rawS
  rw [lenS_prefix l.length l p q h hpq rfl hq]
def InR (l : List Int) : Prop := ∀ x ∈ l, -9223372036854775808 ≤ x ∧ x < 9223372036854775808
theorem intsN_enc : ∀ (l acc r : List Int), InR l → intsN l.length acc (.ok (encList l ++ r)) = (acc ++ l, .ok r) := by
  intro l
  induction l with
  | nil => intro acc r _; simp [intsN, encList]
  | cons a l ih =>
    intro acc r h
    have ha := h a List.mem_cons_self
    rw [List.length_cons, encList, intsN, List.append_assoc, intS_enc a _ ha.1 ha.2]
    simp only
    rw [ih _ _ (fun x hm => h x (List.mem_cons_of_mem _ hm)), List.append_assoc]
    rfl
theorem encI_pos (n : Int) : 1 ≤ (encI n).length := encU_pos _
theorem encList_pos : ∀ l : List Int, l.length ≤ (encList l).length
  | [] => by simp [encList]
  | a :: l => by
    have := encList_pos l
    have := encI_pos a
    rw [encList, List.length_append, List.length_cons]
    omega
theorem intsS_enc (l r : List Int) (h : l.length < 18446744073709551616) (hl : InR l) : intsS (.ok (encInts l ++ r)) = (l, .ok r) := by
  unfold intsS encInts
  rw [List.append_assoc, lenS_enc _ _ h (by rw [List.length_append]; have := encList_pos l; omega)]
  simp only
  rw [intsN_enc l [] r hl]
  simp
theorem intsN_err0 (n : Nat) (acc : List Int) (e : Int) (h : 0 < n) : intsN n acc (.err e) = ([], .err e) := by
  cases n with
  | zero => omega
  | succ n => rw [intsN]
theorem intsN_back : ∀ (n : Nat) (acc bs l r : List Int), (∀ x ∈ bs, 0 ≤ x ∧ x < 256) → intsN n acc (.ok bs) = (l, .ok r) → ∃ m, l = acc ++ m ∧ m.length = n ∧ bs = encList m ++ r ∧ InR m := by
  intro n
  induction n with
  | zero =>
    intro acc bs l r _ h
    simp only [intsN, Prod.mk.injEq, St.ok.injEq] at h
    obtain ⟨rfl, rfl⟩ := h
    exact ⟨[], by simp, rfl, by simp [encList], fun x hm => by cases hm⟩
  | succ n ih =>
    intro acc bs l r hx h
    rw [intsN] at h
    cases hi : intS (.ok bs) with
    | mk z s =>
      rw [hi] at h
      simp only at h
      cases s with
      | err e =>
        cases n with
        | zero => simp [intsN] at h
        | succ n => rw [intsN] at h; simp at h
      | ok r' =>
        obtain ⟨e, h1, h2⟩ := intS_back bs r' z hx hi
        obtain ⟨m, hm, hml, hb, hR⟩ := ih _ r' l r (fun x hm => hx x (by rw [e]; exact List.mem_append_right _ hm)) h
        refine ⟨z :: m, by rw [hm, List.append_assoc]; rfl, by rw [List.length_cons, hml], by rw [encList, List.append_assoc, ← hb]; exact e, ?_⟩
        intro x hx
        rcases List.mem_cons.mp hx with rfl | hx
        · exact ⟨h1, h2⟩
        · exact hR x hx
theorem intsS_back (bs r l : List Int) (hx : ∀ x ∈ bs, 0 ≤ x ∧ x < 256) (h : intsS (.ok bs) = (l, .ok r)) : bs = encInts l ++ r ∧ InR l := by
  unfold intsS at h
  cases hl : lenS (.ok bs) with
  | mk n s =>
    rw [hl] at h
    cases s with
    | err e => simp at h
    | ok r' =>
      simp only at h
      cases hn : intsN n [] (.ok r') with
      | mk l' s' =>
        rw [hn] at h
        cases s' with
        | err e => simp at h
        | ok r'' =>
          simp only [Prod.mk.injEq, St.ok.injEq] at h
          obtain ⟨rfl, rfl⟩ := h
          obtain ⟨e, hle, -⟩ := lenS_back bs r' n hx hl
          obtain ⟨m, hm, hml, hb, hR⟩ := intsN_back n [] r' l' r'' (fun x hm => hx x (by rw [e]; exact List.mem_append_right _ hm)) hn
          rw [List.nil_append] at hm
          subst hm
          unfold encInts
          rw [hml, List.append_assoc, ← hb]
          exact ⟨e, hR⟩
theorem intsN_prefix : ∀ (l acc p q : List Int), InR l → p ++ q = encList l → q ≠ [] → ∃ l', intsN l.length acc (.ok p) = (l', .err 3) := by
  intro l
  induction l with
  | nil => intro acc p q _ h hq; simp [encList] at h; exact absurd h.2 hq
  | cons a l ih =>
    intro acc p q hR h hq
    have ha := hR a List.mem_cons_self
    rw [encList] at h
    rw [List.length_cons, intsN]
    rcases app_split h with ⟨c, hc, h1, h2⟩ | ⟨c, h1, h2⟩
    · rw [intS_prefix a p c ha.1 ha.2 h1.symm hc]
      simp only
      cases l with
      | nil => exact ⟨_, rfl⟩
      | cons b l => rw [List.length_cons, intsN]; exact ⟨_, rfl⟩
    · subst h1
      rw [intS_enc a c ha.1 ha.2]
      exact ih _ c q (fun x hm => hR x (List.mem_cons_of_mem _ hm)) h2.symm hq
theorem intsS_prefix (l p q : List Int) (h : l.length < 18446744073709551616) (hl : InR l) (hpq : p ++ q = encInts l) (hq : q ≠ []) : intsS (.ok p) = ([], .err 3) := by
  unfold encInts at hpq
  rcases app_split hpq with ⟨c, hc, h1, h2⟩ | ⟨c, h1, h2⟩
  · unfold intsS lenS; rw [uintS_prefix l.length p c h h1.symm hc]
  · subst h1
    unfold intsS lenS
    rw [uintS_enc l.length c h]
    simp only
    by_cases hlt : c.length < l.length
    · rw [if_pos hlt]
    · rw [if_neg hlt]
      simp only
      obtain ⟨l', e⟩ := intsN_prefix l [] c q hl h2.symm hq
      rw [e]
theorem encU_byte : ∀ (d n : Nat), n ≤ d → ∀ x ∈ encU n, 0 ≤ x ∧ x < 256 := by
  intro d
  induction d with
  | zero => intro n hn x hx; rw [encU_small (by omega)] at hx; rw [List.mem_singleton.mp hx]; omega
  | succ d ih =>
    intro n hn x hx
    by_cases c : n < 128
    · rw [encU_small c] at hx; rw [List.mem_singleton.mp hx]; omega
    · rw [encU_big c] at hx
      rcases List.mem_cons.mp hx with rfl | h
      · omega
      · exact ih (n / 128) (by omega) x h
theorem encList_byte : ∀ (l : List Int), ∀ x ∈ encList l, 0 ≤ x ∧ x < 256
  | [], x, hx => by simp [encList] at hx
  | a :: l, x, hx => by
    rw [encList] at hx
    rcases List.mem_append.mp hx with h | h
    · exact encU_byte _ _ (Nat.le_refl _) x h
    · exact encList_byte l x h
theorem encRaw_byte (l : List Int) (hl : ∀ x ∈ l, 0 ≤ x ∧ x < 256) : ∀ x ∈ encRaw l, 0 ≤ x ∧ x < 256 := fun x hx => by
  rcases List.mem_append.mp hx with h | h
  · exact encU_byte _ _ (Nat.le_refl _) x h
  · exact hl x h
theorem encInts_byte (l : List Int) : ∀ x ∈ encInts l, 0 ≤ x ∧ x < 256 := fun x hx => by
  rcases List.mem_append.mp hx with h | h
  · exact encU_byte _ _ (Nat.le_refl _) x h
  · exact encList_byte l x h
end Go.Proofs.Ytleomgkogbenaaa.WirePlain
