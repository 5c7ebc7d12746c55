/- Written by a program of this session (pw.py, over the kit's printer): contracts, with their walks, of the Go functions that a law reaches; a text named ..Law.. proves the given statement of that law, with no condition of its own. -/
import Derived.Test.YtleomgkogbenaaaPAx0
import Derived.Test.YtleomgkogbenaaaPAx1
import Derived.Test.YtleomgkogbenaaaPAx3
import Derived.Test.YtleomgkogbenaaaPAx4
namespace Go.Proofs.Ytleomgkogbenaaa.PA
open Go.Proofs.Ytleomgkogbenaaa.HashPlain
open Go.Proofs.Ytleomgkogbenaaa.WirePlain
open Go.Proofs.Ytleomgkogbenaaa.WireWr
open Go.Proofs.Ytleomgkogbenaaa.WireRd
open Go.Proofs.Ytleomgkogbenaaa.Pw
open Go.RowKit Go.Proofs.YtleomgkogbenaaaW.PrintWords Go.Proofs.YtleomgkogbenaaaW.PrintLast Go.Proofs.YtleomgkogbenaaaW.PrintMore
attribute [local go_sem] max2_int min2_int max_two min_two max_three min_three max_four min_four   -- for this text's walks alone
set_option linter.unusedVariables false
set_option linter.unusedSimpArgs false

/-! ### refuterlaw02_WireHash: function 10 -/
def refuterlaw02_WireHash.Pure : Prop := True
theorem encU_inj (m n : Nat) (h1 : m < 18446744073709551616) (h2 : n < 18446744073709551616) (h : encU m = encU n) : m = n := by
  have a := uintS_enc m [] h1
  have b := uintS_enc n [] h2
  rw [h, b] at a
  exact (Prod.mk.inj a).1.symm
theorem encU_bytes : ∀ (d n : Nat), n ≤ d → ∀ x ∈ encU n, Byte x := by
  intro d
  induction d with
  | zero => intro n hn x hx; rw [encU_small (by omega)] at hx; rw [List.mem_singleton.mp hx]; unfold Byte; omega
  | succ d ih =>
    intro n hn x hx
    by_cases c : n < 128
    · rw [encU_small c] at hx; rw [List.mem_singleton.mp hx]; unfold Byte; omega
    · rw [encU_big c] at hx
      rcases List.mem_cons.mp hx with rfl | h
      · unfold Byte; omega
      · exact ih (n / 128) (by omega) x h
theorem short02 (a : ByteArray) (n : Int) (hn : 0 ≤ n) : ∃ s, refuterref01_Short.f a n = some s ∧ (s.size : Int) ≤ n := by
  unfold refuterref01_Short.f
  by_cases h : (a.size : Int) > n
  · rw [if_pos h, if_pos hn, if_pos (by omega)]
    exact ⟨_, rfl, by rw [ByteArray.size_extract]; omega⟩
  · rw [if_neg h]
    exact ⟨_, rfl, by omega⟩
theorem aroundH (a : Int) (ha : (Lit.int .i64 a).wf = true) : ∃ s : Nat, s < 56 ∧ refuterref01_Around.f a 56 = some (s : Int) := by
  have hb := bounds_i64 ha
  obtain ⟨s, h1, h2⟩ := aroundV a 56 (by omega) (by omega)
  exact ⟨s, by omega, h2⟩
set_option maxHeartbeats 8000000 in
set_option maxRecDepth 100000 in
theorem WireHash_any (a b : Nat) (sh : Int) (lb : ByteArray) (h0 : a < 18446744073709551616) (h1 : b < 18446744073709551616) (h2 : (Lit.int .i64 sh).wf = true) (w : World) :
    Calls Try.prog 10 #[.int .u64 (a : Int), .int .u64 (b : Int), .int .i64 sh, .string lb] w fun e w' => e = .returned (.bool true) ∧ Below w.heap.size w w' := by
  obtain ⟨s, hs, hsf⟩ := aroundH sh h2
  obtain ⟨lab, hlab, hlz⟩ := short02 lb 20 (by omega)
  have HSF := Aside0.mk hsf
  have HLAB := Aside0.mk hlab
  have HLZ := Aside0.mk hlz
  have hw8 : wrap64 (8 + (s : Int)) = 8 + (s : Int) := by unfold wrap64; omega
  clear hsf hlab hlz
  go_enter Try.func10, Try.ntmps10
  go_wp2_with (first
    | (go_at_call 11; refine (refuterref01_Around.calls sh 56 (s : Int) _ HSF.out).mono ?_; rintro e w1 ⟨rfl, hd⟩; have HB1 := Aside0.mk hd.below; clear hd))
  have hka : ((a : Int) / 2 ^ (8 + s)) = ((a / 2 ^ (8 + s) : Nat) : Int) := by rw [Int.natCast_ediv]; norm_cast
  have hkb : ((b : Int) / 2 ^ (8 + s)) = ((b / 2 ^ (8 + s) : Nat) : Int) := by rw [Int.natCast_ediv]; norm_cast
  have small : ∀ x : Nat, x < 18446744073709551616 → x / 2 ^ (8 + s) < 72057594037927936 := fun x hx =>
    Nat.lt_of_le_of_lt (Nat.div_le_div_left (Nat.pow_le_pow_right (by omega) (show 8 ≤ 8 + s by omega)) (by decide)) (by show x / 2 ^ 8 < _; omega)
  have hM := small a h0
  have hN := small b h1
  rw [hka, hkb]
  clear hka hkb small
  generalize a / 2 ^ (8 + s) = M at hM ⊢
  generalize b / 2 ^ (8 + s) = N at hN ⊢
  have HMF : Aside0 ((encU M).length ≤ 8 ∧ 1 ≤ (encU M).length) := ⟨encU_len 8 M (by omega) (by omega), encU_pos M⟩
  have HNF : Aside0 ((encU N).length ≤ 8 ∧ 1 ≤ (encU N).length) := ⟨encU_len 8 N (by omega) (by omega), encU_pos N⟩
  have hM64 : M < 18446744073709551616 := by omega
  have hN64 : N < 18446744073709551616 := by omega
  have HW0 := Aside0.mk (WrW.new w1)
  have HB0 : Aside0 (Below w1.heap.size w1 (w1.alloc (.cells #[.slice none 0 0] 26))) := ⟨below_alloc (Below.refl _ _) _⟩
  go_wp2_with (first
    | (go_at_call_of 12 (Value.pointer (some ⟨w1.heap.size, 0, none⟩)); refine (Uint_w w1.heap.size w1.heap.size [] M _ HW0.out (by have := HMF.out.1; simp only [List.length_nil]; omega) hM64).mono ?_; rintro e w2 ⟨rfl, HW, HB⟩; rw [List.nil_append] at HW; have HWM := Aside0.mk HW; have HB2 := Aside0.mk (HB0.out.trans HB); clear HW HB; have HX0 := Aside0.mk (WrW.new w2))
    | (go_at_call_of 12 (Value.pointer (some ⟨w2.heap.size, 0, none⟩)); refine (Uint_w w2.heap.size w2.heap.size [] N _ HX0.out (by have := HNF.out.1; simp only [List.length_nil]; omega) hN64).mono ?_; rintro e w3 ⟨rfl, HW, HB⟩; rw [List.nil_append] at HW; have HWN := Aside0.mk HW; have HB3 := Aside0.mk ((below_alloc (Below.refl w2.heap.size w2) _).trans HB); clear HW HB))
  have HB03 : Aside0 (Below w.heap.size w w3) := ⟨HB1.out.trans (HB2.out.trans (HB3.out.mono HB2.out.size) |>.mono HB1.out.size)⟩
  have HWM3 := Aside0.mk (HWM.out.kept HB3.out)
  have HBYM : Aside0 (∀ x ∈ encU M, Byte x) := ⟨encU_bytes M M (Nat.le_refl _)⟩
  have HBYN : Aside0 (∀ x ∈ encU N, Byte x) := ⟨encU_bytes N N (Nat.le_refl _)⟩
  have HINJ : Aside0 (encU M = encU N → M = N) := ⟨encU_inj M N hM64 hN64⟩
  generalize hp : encU M = p at HMF HWM3 HBYM HINJ
  generalize hq : encU N = q at HNF HWN HBYN HINJ
  have HPE : Aside0 (M = N → p = q) := ⟨fun e => by rw [← hp, ← hq, e]⟩
  obtain ⟨lp, hlp⟩ : ∃ lp, p.length = lp := ⟨_, rfl⟩
  obtain ⟨lq, hlq⟩ : ∃ lq, q.length = lq := ⟨_, rfl⟩
  have HLP := Aside0.mk hlp
  have HLQ := Aside0.mk hlq
  have hp8 : lp ≤ 8 ∧ 1 ≤ lp := by rw [← hlp]; exact HMF.out
  have hq8 : lq ≤ 8 ∧ 1 ≤ lq := by rw [← hlq]; exact HNF.out
  obtain ⟨hp8, hp1⟩ := hp8
  obtain ⟨hq8, hq1⟩ := hq8
  have hL : ∀ W, Calls Try.prog 17 #[] W fun e w' => e = .returned (.bool true) ∧ Below W.heap.size W w' := fun W => refuterlaw02_lives.calls true W rfl
  have HLV := Aside0.mk hL
  clear HWM HX0 HW0 HB0 HB1 HB2 HB3 HMF HNF hp hq hlp hlq hL
  by_cases he : lp = lq
  · subst he
    have hgt : decide ((8 : Int) < (lp : Int)) = false := decide_eq_false (by omega)
    have HBA : Aside0 (∀ (zs : List Int) (A : Option Addr) (c : Nat) (W : World), zs.length = lp → (∀ x ∈ zs, Byte x) → Kd.C (Kd.int .u8) W A zs.length zs → Calls Try.prog 37 #[.string lab, .slice A lp c] W fun e w' => e = .returned (.int .u64 (HashBytes.hbytes (bytesOf lab) zs)) ∧ Below W.heap.size W w') := ⟨fun zs A c W h1 h2 h3 => by
      have := HashBytes.Bytes_any lab (by have := HLZ.out; omega) A c zs (by omega) h2 W h3
      rw [h1] at this
      exact this⟩
    have HSM : Aside0 ((HashBytes.hbytes (bytesOf lab) p == HashBytes.hbytes (bytesOf lab) q) = decide (p = q)) := ⟨hbytes_small (bytesOf lab) p q (HashIter.bytesOf_byte lab) (by rw [bytesOf_length]; have := HLZ.out; omega) HBYM.out HBYN.out (HLP.out.trans HLQ.out.symm) (by rw [HLP.out]; exact hp8) (by rw [HLP.out]; exact hp1)⟩
    have hfin : ((HashBytes.hbytes (bytesOf lab) p == HashBytes.hbytes (bytesOf lab) q) == ((M : Int) == (N : Int))) = true := by
      rw [HSM.out]
      by_cases e : M = N
      · rw [decide_eq_true (HPE.out e), e]; simp
      · rw [decide_eq_false (fun h => e (HINJ.out h))]; simp only [beq_iff_eq]; symm; simp only [beq_eq_false_iff_ne]; omega
    generalize hr1 : HashBytes.hbytes (bytesOf lab) p = r1 at hfin
    generalize hr2 : HashBytes.hbytes (bytesOf lab) q = r2 at hfin
    have HR1 := Aside0.mk hr1
    have HR2 := Aside0.mk hr2
    clear hr1 hr2 HSM HPE HINJ
    go_wp2_with (first
      | (go_at_call_of 16 (Value.pointer (some ⟨w1.heap.size, 0, none⟩)); refine (Done_w w1.heap.size w1.heap.size _ _ HWM3.out (by rw [HLP.out]; omega)).mono ?_; rintro e w4 ⟨v4, rfl, HO, HB⟩; obtain ⟨A4, c4, rfl, -, -, hC⟩ := C_row HO; have HC4 := Aside0.mk hC; rw [HLP.out]; have HX4 := Aside0.mk (WrW.kept HWN.out HB); have HB4 := Aside0.mk (HB03.out.trans (HB.mono HB03.out.size)); clear HO HB hC)
      | (go_at_call_of 16 (Value.pointer (some ⟨w2.heap.size, 0, none⟩)); refine (Done_w w2.heap.size w2.heap.size _ _ HX4.out (by rw [HLQ.out]; omega)).mono ?_; rintro e w5 ⟨v5, rfl, HO, HB⟩; obtain ⟨A5, c5, rfl, -, -, hC⟩ := C_row HO; have HC5 := Aside0.mk hC; rw [HLQ.out]; have HD4 := Aside0.mk (Kd.C_below HC4.out HB); have HB5 := Aside0.mk (HB4.out.trans (HB.mono HB4.out.size)); clear HO HB hC)
      | (go_at_call 36; refine (refuterref01_Short.calls lb 20 lab _ HLAB.out).mono ?_; rintro e w6 ⟨rfl, hd⟩; have HP6 := Aside0.mk (Kd.C_below HD4.out hd.below); have HQ6 := Aside0.mk (Kd.C_below HC5.out hd.below); have HB6 := Aside0.mk (HB5.out.trans (hd.below.mono HB5.out.size)); clear hd)
      | (go_at_call_of 37 (Value.slice A4 lp c4); refine (HBA.out p A4 c4 _ HLP.out HBYM.out HP6.out).mono ?_; rintro e w7 ⟨rfl, HB⟩; have HQ7 := Aside0.mk (Kd.C_below HQ6.out HB); have HB7 := Aside0.mk (HB6.out.trans (HB.mono HB6.out.size)); rw [HR1.out]; clear HB)
      | (go_at_call_of 37 (Value.slice A5 lp c5); refine (HBA.out q A5 c5 _ HLQ.out HBYN.out HQ7.out).mono ?_; rintro e w8 ⟨rfl, HB⟩; have HB8 := Aside0.mk (HB7.out.trans (HB.mono HB7.out.size)); rw [HR2.out]; clear HB)
      | (go_at_call 17; refine (HLV.out _).mono ?_; rintro e w9 ⟨rfl, HB⟩; have HB9 := Aside0.mk (HB8.out.trans (HB.mono HB8.out.size)); clear HB))
    go_ret
    exact ⟨rfl, HB9.out⟩
  · have hne : ((lp : Int) != (lq : Int)) = true := by rw [bne_iff_ne]; omega
    have hmn : ((M : Int) != (N : Int)) = true := by
      rw [bne_iff_ne]
      intro h
      have h2 := HPE.out (by omega)
      exact he (by rw [← HLP.out, ← HLQ.out, h2])
    clear he HPE HINJ
    go_wp2_with (first
      | (go_at_call_of 16 (Value.pointer (some ⟨w1.heap.size, 0, none⟩)); refine (Done_w w1.heap.size w1.heap.size _ _ HWM3.out (by rw [HLP.out]; omega)).mono ?_; rintro e w4 ⟨v4, rfl, HO, HB⟩; obtain ⟨A4, c4, rfl, -, -, hC⟩ := C_row HO; rw [HLP.out]; have HX4 := Aside0.mk (WrW.kept HWN.out HB); have HB4 := Aside0.mk (HB03.out.trans (HB.mono HB03.out.size)); clear HO HB hC)
      | (go_at_call_of 16 (Value.pointer (some ⟨w2.heap.size, 0, none⟩)); refine (Done_w w2.heap.size w2.heap.size _ _ HX4.out (by rw [HLQ.out]; omega)).mono ?_; rintro e w5 ⟨v5, rfl, HO, HB⟩; obtain ⟨A5, c5, rfl, -, -, hC⟩ := C_row HO; rw [HLQ.out]; have HB5 := Aside0.mk (HB4.out.trans (HB.mono HB4.out.size)); clear HO HB hC)
      | (go_at_call 36; refine (refuterref01_Short.calls lb 20 lab _ HLAB.out).mono ?_; rintro e w6 ⟨rfl, hd⟩; have HB6 := Aside0.mk (HB5.out.trans (hd.below.mono HB5.out.size)); clear hd)
      | (go_at_call 17; refine (HLV.out _).mono ?_; rintro e w9 ⟨rfl, HB⟩; have HB9 := Aside0.mk (HB6.out.trans (HB.mono HB6.out.size)); clear HB))
    go_ret
    exact ⟨rfl, HB9.out⟩
theorem refuterlaw02_WireHash.walk (P : refuterlaw02_WireHash.Pure) (a0 : Int) (a1 : Int) (a2 : Int) (a3 : ByteArray) (w : World) (w0 : (Lit.int .u64 a0).wf = true) (w1 : (Lit.int .u64 a1).wf = true) (w2 : (Lit.int .i64 a2).wf = true) (w3 : a3.size ≤ 140737488351232) :
    Calls Try.prog 10 #[.int .u64 a0, .int .u64 a1, .int .i64 a2, .string a3] w fun e w' => e = .returned (.bool true) ∧ Below w.heap.size w w' := by
  have h := bounds_u64 w0
  have h' := bounds_u64 w1
  obtain ⟨n, rfl⟩ := Int.eq_ofNat_of_zero_le h.1
  obtain ⟨m, rfl⟩ := Int.eq_ofNat_of_zero_le h'.1
  exact WireHash_any n m a2 a3 (by omega) (by omega) w2 w

end Go.Proofs.Ytleomgkogbenaaa.PA
