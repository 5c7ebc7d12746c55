/- The reference's Reader: its further methods, walked. -/
import Derived.Test.YtleomgkogbenaaaWireRef
namespace Go.Proofs.Ytleomgkogbenaaa.WireRd
open Go.RowKit Go.Proofs.YtleomgkogbenaaaW.PrintWords Go.Proofs.YtleomgkogbenaaaW.PrintLast Go.Proofs.YtleomgkogbenaaaW.PrintMore Go.Proofs.Ytleomgkogbenaaa.WirePlain Go.Proofs.Ytleomgkogbenaaa.WireWr
set_option linter.unusedVariables false

set_option maxHeartbeats 8000000 in
set_option maxRecDepth 100000 in
theorem Int_f (b : Rb) (g : Nat) (st : St) (w : World) (hI : RdW 44 b w g st) :
    Calls Try.prog 51 #[.pointer (some ⟨g, 0, none⟩)] w fun e w' => e = .returned (.int .i64 (intS st).1) ∧ RdW 44 b w' g (intS st).2 ∧ Keeps w w' g := by
  have HI := Aside0.mk hI
  have HLT := Aside0.mk hI.uint_lt
  clear hI
  go_enter Try.func51, Try.ntmps51
  go_wp2_with (first
    | (go_at_call 50; refine (Uint_f b g st _ HI.out).mono ?_; rintro e w1 ⟨rfl, HW, HKK⟩; have HW1 := Aside0.mk HW; have HK1 := Aside0.mk HKK; clear HW HKK)
    | (go_at_call 63; refine (Back_f (uintS st).1 HLT.out _).mono ?_; rintro e w2 ⟨rfl, rfl⟩))
  go_ret
  exact ⟨rfl, HW1.out, HK1.out⟩

set_option maxHeartbeats 8000000 in
set_option maxRecDepth 100000 in
theorem Bool_f (b : Rb) (g : Nat) (st : St) (w : World) (hI : RdW 44 b w g st) :
    Calls Try.prog 52 #[.pointer (some ⟨g, 0, none⟩)] w fun e w' => e = .returned (.bool (boolS st).1) ∧ RdW 44 b w' g (boolS st).2 ∧ Keeps w w' g := by
  match st with
  | .err k =>
    obtain ⟨e, hc1, he⟩ := hI.cells
    have hI' := Aside0.mk hI
    have hne : (e == 0) = false := beq_eq_false_iff_ne.mpr (by rw [he.1]; exact he.2)
    have hne2 : (e != 0) = true := bne_iff_ne.mpr (by rw [he.1]; exact he.2)
    clear he hI
    go_enter Try.func52, Try.ntmps52
    go_wp2
    go_ret
    exact ⟨rfl, hI'.out, Keeps.refl _ _⟩
  | .ok [] =>
    obtain ⟨A, c, hc0, hc1, hf0, hf1, ⟨hbl, hbc⟩, hat, hcut, herr, -⟩ := hI.open2
    have HERR := Aside0.mk (herr 3 (by decide))
    simp only [List.length_nil] at hc0
    clear hat hcut herr hI hbl hbc
    go_enter Try.func52, Try.ntmps52
    go_wp2
    go_ret
    exact ⟨rfl, HERR.out, (Keeps.refl _ _).set_ 1 _⟩
  | .ok (x :: r) =>
    obtain ⟨A, c, hc0, hc1, hf0, hf1, ⟨hbl, hbc⟩, hat, hcut, herr, -⟩ := hI.open2
    obtain ⟨ad, rfl, hx, hx0, hx1⟩ := hat 0 (by simp)
    have hrx : rd (x :: r) ((0 : Nat) : Int) = x := by simp [rd]
    rw [hrx] at hx hx0 hx1
    rw [show ad.add 0 = ad by simp [Addr.add]] at hx
    obtain ⟨A', hrun, hR⟩ := hcut 1 (by simp)
    have HR := Aside0.mk hR
    have HERR := Aside0.mk (herr 2 (by decide))
    have hlen : (((x :: r).length : Int) == 0) = false := by simp only [List.length_cons, beq_eq_false_iff_ne]; omega
    have hpos : (0 : Int) < ((x :: r).length : Int) := by simp only [List.length_cons]; omega
    rw [List.drop_one, List.tail_cons] at hrun HR
    rw [show ((1 : Nat) : Int) = 1 from rfl] at hrun
    generalize (x :: r).length = n at hc0 hrun hlen hpos
    generalize r.length = dl at hrun HR
    generalize c - 1 = dc at hrun HR
    clear hat hcut herr hbl hbc hR hrx hI
    by_cases h1 : 1 < x
    · have HS : Aside0 (boolS (.ok (x :: r)) = (false, .err 2)) := ⟨by simp [boolS, h1]⟩
      rw [HS.out]
      go_enter Try.func52, Try.ntmps52
      go_wp2
      go_ret
      exact ⟨rfl, HERR.out, (Keeps.refl _ _).set_ 1 _⟩
    · have HS : Aside0 (boolS (.ok (x :: r)) = (x == 1, .ok r)) := ⟨by simp [boolS, h1]⟩
      have h1b : decide ((1 : Int) < x) = false := decide_eq_false h1
      rw [HS.out]
      clear h1
      go_enter Try.func52, Try.ntmps52
      go_wp2
      go_ret
      exact ⟨rfl, HR.out, (Keeps.refl _ _).set_ 0 _⟩

set_option maxHeartbeats 8000000 in
set_option maxRecDepth 100000 in
theorem length_f (b : Rb) (g : Nat) (st : St) (w : World) (hI : RdW 44 b w g st) :
    Calls Try.prog 64 #[.pointer (some ⟨g, 0, none⟩)] w fun e w' => e = .returned (.int .i64 ((lenS st).1 : Int)) ∧ RdW 44 b w' g (lenS st).2 ∧ Keeps w w' g := by
  have hU : ∀ W, RdW 44 b W g st → Calls Try.prog 50 #[.pointer (some ⟨g, 0, none⟩)] W fun e w' => e = .returned (.int .u64 ((uintS st).1 : Int)) ∧ RdW 44 b w' g (uintS st).2 ∧ Keeps W w' g := fun W h => Uint_f b g st W h
  have HI := Aside0.mk hI
  have HN := Aside0.mk hI.uint_lt
  clear hI
  unfold lenS
  generalize hun : uintS st = un at hU HN
  obtain ⟨n, st1⟩ := un
  have HU := Aside0.mk hU
  clear hU
  cases st1 with
  | err k =>
    clear hun
    go_enter Try.func64, Try.ntmps64
    go_wp2_with (first
      | (go_at_call 50; refine (HU.out _ HI.out).mono ?_; rintro e w1 ⟨rfl, HW, HKK⟩; have HW1 := Aside0.mk HW; have HK1 := Aside0.mk HKK; obtain ⟨e1, hc1, he⟩ := HW.cells; replace he : e1 = k ∧ k ≠ 0 := he; have hne : (e1 == 0) = false := beq_eq_false_iff_ne.mpr (by rw [he.1]; exact he.2); have hne2 : (e1 != 0) = true := bne_iff_ne.mpr (by rw [he.1]; exact he.2); clear HW HKK he))
    go_ret
    exact ⟨rfl, HW1.out, HK1.out⟩
  | ok bs =>
    clear hun
    have hnl : (n : Int) < 18446744073709551616 := by have := HN.out; omega
    by_cases hlt : bs.length < n
    · have hgt : decide ((bs.length : Int) < (n : Int)) = true := decide_eq_true (by omega)
      have HS : Aside0 ((if bs.length < n then ((0 : Nat), St.err 3) else (n, .ok bs)) = (0, .err 3)) := ⟨by rw [if_pos hlt]⟩
      simp only [HS.out]
      clear HS
      go_enter Try.func64, Try.ntmps64
      go_wp2_with (first
        | (go_at_call 50; refine (HU.out _ HI.out).mono ?_; rintro e w1 ⟨rfl, HW, HKK⟩; have HK1 := Aside0.mk HKK; obtain ⟨A, c, hc0, hc1, hf0, hf1, ⟨hbl, hbc⟩, hat, hcut, herr, -⟩ := RdW.open2 HW; have HERR := Aside0.mk (herr 3 (by decide)); have hwl : IntKind.u64.wrap (bs.length : Int) = (bs.length : Int) := (by rw [IntKind.wrap_u64]; omega); clear HW HKK hat hcut herr hbl hbc))
      go_ret
      exact ⟨rfl, HERR.out, HK1.out.set_ 1 _⟩
    · have hgt : decide ((bs.length : Int) < (n : Int)) = false := decide_eq_false (by omega)
      have HS : Aside0 ((if bs.length < n then ((0 : Nat), St.err 3) else (n, .ok bs)) = (n, .ok bs)) := ⟨by rw [if_neg hlt]⟩
      simp only [HS.out]
      clear HS
      go_enter Try.func64, Try.ntmps64
      go_wp2_with (first
        | (go_at_call 50; refine (HU.out _ HI.out).mono ?_; rintro e w1 ⟨rfl, HW, HKK⟩; have HW1 := Aside0.mk HW; have HK1 := Aside0.mk HKK; obtain ⟨A, c, hc0, hc1, hf0, hf1, ⟨hbl, hbc⟩, hat, hcut, herr, -⟩ := RdW.open2 HW; have hwl : IntKind.u64.wrap (bs.length : Int) = (bs.length : Int) := (by rw [IntKind.wrap_u64]; omega); have hwn : IntKind.i64.wrap (n : Int) = (n : Int) := IntWalk.i64_in _ ⟨by omega, by omega⟩; clear HW HKK hat hcut herr hbl hbc))
      go_ret
      exact ⟨rfl, HW1.out, HK1.out⟩

set_option maxHeartbeats 8000000 in
set_option maxRecDepth 100000 in
theorem Raw_f (b : Rb) (g : Nat) (st : St) (w : World) (hI : RdW 44 b w g st) :
    Calls Try.prog 53 #[.pointer (some ⟨g, 0, none⟩)] w fun e w' => ∃ A c, e = .returned (.slice A (rawS st).1.length c) ∧ (rawS st).1.length ≤ c ∧ (∀ W, b.pres W → Kd.C (Kd.int .u8) W A (rawS st).1.length (rawS st).1) ∧ RdW 44 b w' g (rawS st).2 ∧ Keeps w w' g := by
  have hU : ∀ W, RdW 44 b W g st → Calls Try.prog 64 #[.pointer (some ⟨g, 0, none⟩)] W fun e w' => e = .returned (.int .i64 ((lenS st).1 : Int)) ∧ RdW 44 b w' g (lenS st).2 ∧ Keeps W w' g := fun W h => length_f b g st W h
  have HI := Aside0.mk hI
  clear hI
  have hnl : ∀ n bs, lenS st = (n, .ok bs) → n ≤ bs.length := by
    intro n bs h
    unfold lenS at h
    cases hu : uintS st with
    | mk m s =>
      rw [hu] at h
      cases s with
      | err e => simp at h
      | ok r =>
        simp only at h
        by_cases c : r.length < m
        · rw [if_pos c] at h; simp at h
        · rw [if_neg c] at h
          simp only [Prod.mk.injEq, St.ok.injEq] at h
          obtain ⟨rfl, rfl⟩ := h
          omega
  unfold rawS
  generalize hun : lenS st = un at hU
  obtain ⟨n, st1⟩ := un
  have HU := Aside0.mk hU
  clear hU
  cases st1 with
  | err k =>
    clear hun hnl
    go_enter Try.func53, Try.ntmps53
    go_wp2_with (first
      | (go_at_call 64; refine (HU.out _ HI.out).mono ?_; rintro e w1 ⟨rfl, HW, HKK⟩; have HW1 := Aside0.mk HW; have HK1 := Aside0.mk HKK; obtain ⟨e1, hc1, he⟩ := HW.cells; replace he : e1 = k ∧ k ≠ 0 := he; have hne : (e1 == 0) = false := beq_eq_false_iff_ne.mpr (by rw [he.1]; exact he.2); have hne2 : (e1 != 0) = true := bne_iff_ne.mpr (by rw [he.1]; exact he.2); clear HW HKK he))
    go_ret
    exact ⟨none, 0, rfl, Nat.le_refl _, fun W _ => ⟨rfl, by simp, fun h => absurd h (Nat.lt_irrefl 0)⟩, HW1.out, HK1.out⟩
  | ok bs =>
    have HNL := Aside0.mk (hnl n bs hun)
    clear hun hnl
    go_enter Try.func53, Try.ntmps53
    go_wp2_with (first
      | (go_at_call 64; refine (HU.out _ HI.out).mono ?_; rintro e w1 ⟨rfl, HW, HKK⟩; have HK1 := Aside0.mk HKK; obtain ⟨A, c, hc0, hc1, hf0, hf1, ⟨hbl, hbc⟩, hat, hcut, herr, htk⟩ := RdW.open2 HW; obtain ⟨A', hrun, hR⟩ := hcut n HNL.out; obtain ⟨hrun2, hl2, hC2⟩ := htk n HNL.out; have HR := Aside0.mk hR; have HC2 := Aside0.mk hC2; have HL2 := Aside0.mk hl2; generalize (List.drop n bs).length = dl at hrun HR; generalize c - n = dc at hrun HR; generalize htl : (List.take n bs).length = tl at hrun2 HC2 HL2; have HTL := Aside0.mk htl; clear HW HKK hat hcut herr htk hbl hbc hR hl2 hC2 htl))
    go_ret
    refine ⟨A, c, by rw [HTL.out]; rfl, by rw [HTL.out]; exact HL2.out, ?_, HR.out, HK1.out.set_ 0 _⟩
    rw [HTL.out]
    exact HC2.out

set_option maxHeartbeats 8000000 in
set_option maxRecDepth 100000 in
theorem End_f (b : Rb) (g : Nat) (st : St) (w : World) (hI : RdW 44 b w g st) :
    Calls Try.prog 26 #[.pointer (some ⟨g, 0, none⟩)] w fun e w' => e = .returned (.int .i64 (endS st)) ∧ Drawn0 w w' := by
  obtain ⟨hB, hg, A, c, bs, e, hb, hC, hlc, hx, hll, hst⟩ := hI
  have hc0 : w.cell? ⟨g, 0, none⟩ = some (.slice A bs.length c) := (blk_cell hb 0).trans rfl
  have hc1 : w.cell? ⟨g, 1, none⟩ = some (.int .i64 e) := (blk_cell hb 1).trans rfl
  clear hb hC hlc hx hll hB hg
  match st, hst with
  | .ok [], hst =>
    obtain ⟨rfl, rfl⟩ := hst
    simp only [List.length_nil] at hc0
    go_enter Try.func26, Try.ntmps26
    go_wp2
    go_ret
    exact ⟨rfl, by repeat (first | exact Drawn0.refl _ | apply Drawn0.step)⟩
  | .ok (x :: r), hst =>
    obtain ⟨rfl, rfl⟩ := hst
    have hpos : (0 : Int) < ((x :: r).length : Int) := by simp only [List.length_cons]; omega
    generalize (x :: r).length = n at hc0 hpos
    go_enter Try.func26, Try.ntmps26
    go_wp2
    go_ret
    exact ⟨rfl, by repeat (first | exact Drawn0.refl _ | apply Drawn0.step)⟩
  | .err k, hst =>
    obtain ⟨rfl, hk⟩ := hst
    have hk0 : (e == 0) = false := beq_eq_false_iff_ne.mpr hk
    go_enter Try.func26, Try.ntmps26
    go_wp2
    go_ret
    exact ⟨rfl, by repeat (first | exact Drawn0.refl _ | apply Drawn0.step)⟩
end Go.Proofs.Ytleomgkogbenaaa.WireRd
