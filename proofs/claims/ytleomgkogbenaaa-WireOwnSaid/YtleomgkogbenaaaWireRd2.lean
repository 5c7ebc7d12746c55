/- The Reader: its other methods. -/
import Derived.Test.YtleomgkogbenaaaWireRd
namespace Go.Proofs.Ytleomgkogbenaaa.WireRd
open Go.RowKit Go.Proofs.YtleomgkogbenaaaW.PrintWords Go.Proofs.YtleomgkogbenaaaW.PrintLast Go.Proofs.YtleomgkogbenaaaW.PrintMore Go.Proofs.Ytleomgkogbenaaa.WirePlain Go.Proofs.Ytleomgkogbenaaa.WireWr
set_option linter.unusedVariables false

theorem two64 : (2 : Nat) ^ 64 = 18446744073709551616 := by rfl
theorem dec_step (i cc m : Nat) (hi : i ≤ 8) (hcc : cc < 128) (h : m * 128 ^ (i + 1) < 18446744073709551616) : (cc + 128 * m) * 128 ^ i < 18446744073709551616 := by
  have hK : (18446744073709551616 : Nat) = 2 ^ (57 - 7 * i) * 128 ^ (i + 1) := by
    rw [← pow128, ← Nat.pow_add, show 57 - 7 * i + 7 * (i + 1) = 64 by omega, two64]
  rw [hK] at h ⊢
  have hm : m < 2 ^ (57 - 7 * i) := Nat.lt_of_mul_lt_mul_right h
  have h1 : (cc + 128 * m) * 128 ^ i < ((m + 1) * 128) * 128 ^ i := Nat.mul_lt_mul_of_pos_right (by omega) (Nat.pow_pos (by omega))
  refine Nat.lt_of_lt_of_le h1 ?_
  rw [Nat.mul_assoc, Nat.mul_comm 128, ← Nat.pow_succ]
  exact Nat.mul_le_mul_right _ hm
theorem decU_lt : ∀ (l : List Int) (i n : Nat) (r : List Int), i ≤ 9 → (∀ x ∈ l, 0 ≤ x ∧ x < 256) → decU i l = .val n r → n * 128 ^ i < 18446744073709551616
  | [], i, n, r, _, _, h => by cases h
  | c :: l, i, n, r, hi, hx, h => by
    have hc := hx c List.mem_cons_self
    rw [decU] at h
    split at h
    · cases h
    · rename_i hP
      split at h
      · rename_i h128
        injection h with h1 h2
        subst h1
        have := fit_shl i c.toNat hi (by omega) (by omega)
        rw [pow128] at this
        exact this
      · rename_i h128
        split at h
        · cases h
        · rename_i m r' hd
          injection h with h1 h2
          subst h1
          have h9 : i ≠ 9 := by omega
          have := decU_lt l (i + 1) m r' (by omega) (fun x hm => hx x (List.mem_cons_of_mem _ hm)) hd
          have hcc : (c - 128).toNat < 128 := by omega
          generalize (c - 128).toNat = cc at hcc
          exact dec_step i cc m (by omega) hcc this
theorem uintS_lt (bs : List Int) (hx : ∀ x ∈ bs, 0 ≤ x ∧ x < 256) : (uintS (.ok bs)).1 < 18446744073709551616 := by
  show (finU 0 0 (decU 0 bs)).1 < _
  cases h : decU 0 bs with
  | bad e => show (0 : Nat) < _; omega
  | val n r =>
    have := decU_lt bs 0 n r (by omega) hx h
    simp only [finU]
    omega
theorem RdW.bytes {T g : Nat} {w0 : Rb} {W : World} {bs : List Int} (h : RdW T w0 W g (.ok bs)) : (∀ x ∈ bs, 0 ≤ x ∧ x < 256) ∧ bs.length ≤ 17592186044416 := by
  obtain ⟨_, _, A, c, bs, e, hb, _, _, hx, hl, rfl, _⟩ := h
  exact ⟨hx, hl⟩
theorem RdW.uint_lt {T g : Nat} {w0 : Rb} {W : World} {st : St} (h : RdW T w0 W g st) : (uintS st).1 < 18446744073709551616 := by
  cases st with
  | ok bs => exact uintS_lt bs h.bytes.1
  | err e => show 0 < _; omega

set_option maxHeartbeats 8000000 in
set_option maxRecDepth 100000 in
theorem Int_r (w0 : Rb) (g : Nat) (st : St) (w : World) (hI : RdW 79 w0 w g st) :
    Calls Try.prog 42 #[.pointer (some ⟨g, 0, none⟩)] w fun e w' => e = .returned (.int .i64 (intS st).1) ∧ RdW 79 w0 w' g (intS st).2 ∧ Keeps w w' g := by
  have HI := Aside0.mk hI
  have hlt := hI.uint_lt
  have hg := unzig_go _ hlt
  have hun : ∀ W, Calls Try.prog 61 #[.int .u64 ((uintS st).1 : Int)] W fun e w' => e = .returned (.int .i64 (intS st).1) ∧ Drawn0 W w' := fun W => by
    show Calls _ _ _ _ fun e w' => e = .returned (.int .i64 (unzig (uintS st).1)) ∧ _
    rw [← hg, show wrap64 (((uintS st).1 : Int) / 2) = ((uintS st).1 : Int) / 2 by unfold wrap64; omega]
    generalize (uintS st).1 = z at hlt
    clear hg HI hI
    go_enter Try.func61, Try.ntmps61
    go_wp2
    go_ret
    exact ⟨by first | rfl | (simp; done) | (simp [*]; done), by repeat (first | exact Drawn0.refl _ | apply Drawn0.step)⟩
  have HUN := Aside0.mk hun
  clear hI hlt hg hun
  go_enter Try.func42, Try.ntmps42
  go_wp2_with (first
    | (go_at_call 41; refine (Uint_r w0 g st _ HI.out).mono ?_; rintro e w1 ⟨rfl, HW, HKK⟩; have HW1 := Aside0.mk HW; have HK1 := Aside0.mk HKK)
    | (go_at_call 61; refine (HUN.out _).mono ?_; rintro e w2 ⟨rfl, ⟨nd, rfl⟩⟩))
  go_ret
  exact ⟨rfl, HW1.out.drewN nd, HK1.out.drewN nd⟩

set_option maxHeartbeats 8000000 in
set_option maxRecDepth 100000 in
theorem Bool_r (w0 : Rb) (g : Nat) (st : St) (w : World) (hI : RdW 79 w0 w g st) :
    Calls Try.prog 49 #[.pointer (some ⟨g, 0, none⟩)] w fun e w' => e = .returned (.bool (boolS st).1) ∧ RdW 79 w0 w' g (boolS st).2 ∧ Keeps w w' g := by
  have HI := Aside0.mk hI
  have hnx : ∀ W, RdW 79 w0 W g st → Calls Try.prog 56 #[.pointer (some ⟨g, 0, none⟩)] W fun e w' => e = .returned (.int .u8 (nextS st).1) ∧ RdW 79 w0 w' g (nextS st).2 ∧ Keeps W w' g := fun W h => next_r w0 g st W h
  have hfl : ∀ W, RdW 79 w0 W g (nextS st).2 → Calls Try.prog 60 #[.pointer (some ⟨g, 0, none⟩), .int .i64 2] W fun e w' => e = .returned (.tuple #[]) ∧ RdW 79 w0 w' g (failS 2 (nextS st).2) ∧ Keeps W w' g := fun W h => fail_r w0 g _ 2 (by decide) W h
  have HNX := Aside0.mk hnx
  have HFL := Aside0.mk hfl
  have htar : boolS st = if 1 < (nextS st).1 then (false, failS 2 (nextS st).2) else ((nextS st).1 == 1, (nextS st).2) := by
    cases st with
    | err e => simp [boolS, nextS]
    | ok bs =>
      cases bs with
      | nil => simp [boolS, nextS]
      | cons c r =>
        rfl
  clear hnx hfl hI
  generalize (nextS st).1 = c at HNX HFL htar
  generalize (nextS st).2 = s1 at HNX HFL htar
  have HTT := Aside0.mk htar
  clear htar
  by_cases h1 : 1 < c
  · have h1b : (c == 1) = false := by simp only [beq_eq_false_iff_ne]; omega
    go_enter Try.func49, Try.ntmps49
    go_wp2_with (first
      | (go_at_call 56; refine (HNX.out _ HI.out).mono ?_; rintro e w1 ⟨rfl, HW, HKK⟩; have HW1 := Aside0.mk HW; have HK1 := Aside0.mk HKK)
      | (go_at_call 60; refine (HFL.out _ HW1.out).mono ?_; rintro e w2 ⟨rfl, HW, HKK⟩; have HW2 := Aside0.mk HW; have HK2 := Aside0.mk HKK))
    go_ret
    rw [HTT.out, if_pos h1]
    exact ⟨rfl, HW2.out, HK1.out.trans HK2.out⟩
  · go_enter Try.func49, Try.ntmps49
    go_wp2_with (first
      | (go_at_call 56; refine (HNX.out _ HI.out).mono ?_; rintro e w1 ⟨rfl, HW, HKK⟩; have HW1 := Aside0.mk HW; have HK1 := Aside0.mk HKK))
    go_ret
    rw [HTT.out, if_neg (by omega)]
    exact ⟨rfl, HW1.out, HK1.out⟩

set_option maxHeartbeats 8000000 in
set_option maxRecDepth 100000 in
theorem End_r (w0 : Rb) (g : Nat) (st : St) (w : World) (hI : RdW 79 w0 w g st) :
    Calls Try.prog 25 #[.pointer (some ⟨g, 0, none⟩)] w fun e w' => e = .returned (.int .i64 (endS st)) ∧ Drawn0 w w' := by
  obtain ⟨hB, hg, A, c, bs, e, hb, hC, hlc, hx, hll, hst⟩ := hI
  have hc0 : w.cell? ⟨g, 0, none⟩ = some (.slice A bs.length c) := (blk_cell hb 0).trans rfl
  have hc1 : w.cell? ⟨g, 1, none⟩ = some (.int .i64 e) := (blk_cell hb 1).trans rfl
  clear hb hC hlc hx hll hB hg
  match st, hst with
  | .ok [], hst =>
    obtain ⟨rfl, rfl⟩ := hst
    simp only [List.length_nil] at hc0
    go_enter Try.func25, Try.ntmps25
    go_wp2
    go_ret
    exact ⟨rfl, by repeat (first | exact Drawn0.refl _ | apply Drawn0.step)⟩
  | .ok (x :: r), hst =>
    obtain ⟨rfl, rfl⟩ := hst
    have hpos : (0 : Int) < ((x :: r).length : Int) := by simp only [List.length_cons]; omega
    generalize (x :: r).length = n at hc0 hpos
    go_enter Try.func25, Try.ntmps25
    go_wp2
    go_ret
    exact ⟨rfl, by repeat (first | exact Drawn0.refl _ | apply Drawn0.step)⟩
  | .err k, hst =>
    obtain ⟨rfl, hk⟩ := hst
    have hk0 : (e == 0) = false := beq_eq_false_iff_ne.mpr hk
    go_enter Try.func25, Try.ntmps25
    go_wp2
    go_ret
    exact ⟨rfl, by repeat (first | exact Drawn0.refl _ | apply Drawn0.step)⟩
end Go.Proofs.Ytleomgkogbenaaa.WireRd
