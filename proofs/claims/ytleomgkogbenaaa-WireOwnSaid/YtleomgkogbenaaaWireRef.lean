/- The reference's Reader: its methods, walked; the same plain functions of a state as the Reader's. -/
import Derived.Test.YtleomgkogbenaaaWireRd4
namespace Go.Proofs.Ytleomgkogbenaaa.WireRd
open Go.RowKit Go.Proofs.YtleomgkogbenaaaW.PrintWords Go.Proofs.YtleomgkogbenaaaW.PrintLast Go.Proofs.YtleomgkogbenaaaW.PrintMore Go.Proofs.Ytleomgkogbenaaa.WirePlain Go.Proofs.Ytleomgkogbenaaa.WireWr
set_option linter.unusedVariables false

/-- What the walk of the reference's reader reads off its block, while no error is recorded. -/
theorem RdW.open2 {T g : Nat} {b : Rb} {W : World} {bs : List Int} (h : RdW T b W g (.ok bs)) : ∃ A c, W.cell? ⟨g, 0, none⟩ = some (.slice A bs.length c) ∧ W.cell? ⟨g, 1, none⟩ = some (.int .i64 0) ∧ W.frozen? ⟨g, 0, none⟩ = false ∧ W.frozen? ⟨g, 1, none⟩ = false ∧
    (bs.length ≤ 17592186044416 ∧ bs.length ≤ c) ∧ (∀ j : Nat, j < bs.length → ∃ ad, A = some ad ∧ W.cell? (ad.add j) = some (.int .u8 (rd bs (j : Int))) ∧ 0 ≤ rd bs (j : Int) ∧ rd bs (j : Int) < 256) ∧
    (∀ j : Nat, j ≤ bs.length → ∃ A', (∀ W' : World, (Instr.slice 24 (.slice A bs.length c) (some (.int .i64 (j : Int))) none none).run Try.prog W' = .ok (.slice A' (bs.drop j).length (c - j)) W') ∧ RdW T b (W.setCell ⟨g, 0, none⟩ (.slice A' (bs.drop j).length (c - j))) g (.ok (bs.drop j))) ∧
    (∀ k : Int, k ≠ 0 → RdW T b (W.setCell ⟨g, 1, none⟩ (.int .i64 k)) g (.err k)) ∧
    (∀ j : Nat, j ≤ bs.length → (∀ W' : World, (Instr.slice 24 (.slice A bs.length c) none (some (.int .i64 (j : Int))) none).run Try.prog W' = .ok (.slice A (bs.take j).length c) W') ∧ (bs.take j).length ≤ c ∧ ∀ W', b.pres W' → Kd.C (Kd.int .u8) W' A (bs.take j).length (bs.take j)) := by
  obtain ⟨hB, hg, A, c, bs', e, hb, hC, hlc, hx, hll, rfl, rfl⟩ := h
  refine ⟨A, c, (blk_cell hb 0).trans rfl, (blk_cell hb 1).trans rfl, blk_frozen hb 0, blk_frozen hb 1, ⟨hll, hlc⟩, fun j hj => ?_, fun j hj => ?_, fun k hk => ?_, fun j hj => ?_⟩
  · obtain ⟨ad, e1, hxc⟩ := Kd.at_int (hC W hB) (j : Int) (by omega) (by omega)
    rw [Int.toNat_natCast] at hxc
    refine ⟨ad, e1, hxc, ?_⟩
    have hr : rd bs (j : Int) = bs[j] := by unfold rd; simp [hj]
    rw [hr]
    exact hx _ (List.getElem_mem hj)
  · obtain ⟨A', hcut, hrd, hlc'⟩ := print_drop_of (P := Try.prog) (Value.int .u8) 0 24 5 .i64 Try.underlying24 (i := (Try.prog.info? 5).get (by rfl)) (by rfl) (by rfl) A c bs (j : Int) (by omega) (by omega) hlc
    rw [Int.toNat_natCast] at hcut hrd hlc'
    refine ⟨A', hcut, ?_⟩
    have hb2 := blk_set hb 0 (.slice A' (bs.drop j).length (c - j))
    exact ⟨Rb.pres_set hB hg 0 _, hg, A', c - j, bs.drop j, 0, by simpa using hb2, fun W' hp => Kd.C_of_reads (d := (0 : Int)) (h1 := fun _ => rfl) (hrd W' (Kd.reads_of_C (d := (0 : Int)) (h1 := fun _ => rfl) (hC W' hp))), hlc', fun y hy => hx y (List.mem_of_mem_drop hy), by rw [List.length_drop]; omega, rfl, rfl⟩
  · have hb2 := blk_set hb 1 (.int .i64 k)
    exact ⟨Rb.pres_set hB hg 1 _, hg, A, c, bs, k, by simpa using hb2, hC, hlc, hx, hll, rfl, hk⟩
  · obtain ⟨hcut, hrd, hlc'⟩ := print_take_of (P := Try.prog) (Value.int .u8) 0 24 5 .i64 Try.underlying24 (i := (Try.prog.info? 5).get (by rfl)) (by rfl) (by rfl) A c bs (j : Int) (by omega) (by omega) hlc
    rw [Int.toNat_natCast] at hcut hrd hlc'
    exact ⟨hcut, hlc', fun W' hp => Kd.C_of_reads (d := (0 : Int)) (h1 := fun _ => rfl) (hrd W' (Kd.reads_of_C (d := (0 : Int)) (h1 := fun _ => rfl) (hC W' hp)))⟩
theorem rd_drop_cons {bs : List Int} {j : Nat} (h : j < bs.length) : bs.drop j = rd bs (j : Int) :: bs.drop (j + 1) := by
  rw [List.drop_eq_getElem_cons h]
  congr 1
  unfold rd
  simp [h]
theorem mul_add_u64 (a c u j : Nat) (hu : u = 128 ^ j) (hj : j ≤ 9) (ha : a < u) (hc : c < 128) (h9 : j = 9 → c ≤ 1) : IntKind.u64.wrap ((a : Int) + IntKind.u64.wrap ((c : Int) * (u : Int))) = ((a + u * c : Nat) : Int) := by
  subst hu
  have h1 := fit_shl j c hj hc h9
  have h2 := acc_next j a c ha hc
  rw [pow128] at h1
  have h3 : a + 128 ^ j * c < 18446744073709551616 := by
    by_cases e : j = 9
    · subst e
      have := h9 rfl
      have e9 : 128 ^ 9 = 9223372036854775808 := by rfl
      rw [e9] at ha h1 ⊢
      omega
    · exact acc_lt (j + 1) _ (by omega) h2
  rw [show ((c : Int) * ((128 ^ j : Nat) : Int)) = ((128 ^ j * c : Nat) : Int) by rw [Int.natCast_mul, Int.mul_comm], IntWalk.u64_in ((128 ^ j * c : Nat) : Int) ⟨by omega, by rw [Nat.mul_comm]; omega⟩, ← Int.natCast_add, IntWalk.u64_in _ ⟨by omega, by omega⟩]
theorem mul_unit (u j : Nat) (hu : u = 128 ^ j) (hj : j ≤ 8) : IntKind.u64.wrap ((u : Int) * 128) = ((128 ^ (j + 1) : Nat) : Int) := by
  subst hu
  have h : 128 ^ (j + 1) ≤ 128 ^ 9 := Nat.pow_le_pow_right (by omega) (by omega)
  have e9 : 128 ^ 9 = 9223372036854775808 := by rfl
  rw [e9, Nat.pow_succ] at h
  rw [Nat.pow_succ, Int.natCast_mul, IntWalk.u64_in _ ⟨by omega, by omega⟩]
  rfl

set_option maxHeartbeats 8000000 in
set_option maxRecDepth 100000 in
theorem Uint_f (b : Rb) (g : Nat) (st : St) (w : World) (hI : RdW 44 b w g st) :
    Calls Try.prog 50 #[.pointer (some ⟨g, 0, none⟩)] w fun e w' => e = .returned (.int .u64 ((uintS st).1 : Int)) ∧ RdW 44 b w' g (uintS st).2 ∧ Keeps w w' g := by
  cases st with
  | err k =>
    obtain ⟨e, hc1, he⟩ := hI.cells
    have hI' := Aside0.mk hI
    have hne : (e == 0) = false := beq_eq_false_iff_ne.mpr (by rw [he.1]; exact he.2)
    clear he hI
    go_enter Try.func50, Try.ntmps50
    go_wp2
    go_loopw [3, 4, 5] (fun v3 v4 v5 wr => v3 = .int .u64 0 ∧ v4 = .int .u64 1 ∧ v5 = .int .i64 0 ∧ wr = w) (fun _ _ _ _ => 0)
    case atStart => exact ⟨rfl, rfl, rfl, rfl⟩
    case round =>
      obtain ⟨rfl, rfl, rfl, rfl⟩ := hrel
      go_wp2
      go_ret
      exact ⟨rfl, hI'.out, Keeps.refl _ _⟩
  | ok bs =>
    obtain ⟨A, c, hc0, hc1, hf0, hf1, ⟨hbl, hbc⟩, hat, hcut, herr, -⟩ := hI.open2
    generalize htar : uintS (.ok bs) = tar
    have HT : Aside0 (finU 0 0 (decU 0 bs) = tar) := ⟨htar⟩
    have HAT := Aside0.mk hat
    have HCUT := Aside0.mk hcut
    have HERR := Aside0.mk herr
    clear htar hat hcut herr hI
    go_enter Try.func50, Try.ntmps50
    go_wp2
    go_loopw [3, 4, 5] (fun v3 v4 v5 wr => ∃ (j a u : Nat), v3 = .int .u64 (a : Int) ∧ v4 = .int .u64 (u : Int) ∧ v5 = .int .i64 (j : Int) ∧ wr = w ∧ j ≤ 9 ∧ Aside0 (j ≤ bs.length ∧ u = 128 ^ j ∧ a < u ∧ finU a j (decU j (bs.drop j)) = tar)) (fun _ _ v5 _ => 20 - (intOf v5).toNat)
    case atStart => exact ⟨0, 0, 1, rfl, rfl, rfl, rfl, by omega, ⟨Nat.zero_le _, rfl, by omega, by simpa using HT.out⟩⟩
    case round =>
      clear HT
      obtain ⟨j, a, u, rfl, rfl, rfl, rfl, hj, HI⟩ := hrel
      by_cases hjl : j < bs.length
      · obtain ⟨ad, rfl, hx, hx0, hx1⟩ := HAT.out j hjl
        have HD := Aside0.mk (rd_drop_cons hjl)
        generalize rd bs (j : Int) = ci at hx hx0 hx1 HD
        obtain ⟨ch, rfl⟩ := Int.eq_ofNat_of_zero_le hx0
        by_cases hP : (j = 9 ∧ (1 : Int) < (ch : Int)) ∨ (0 < j ∧ (ch : Int) = 0)
        · have HTAR : Aside0 ((0, St.err 2) = tar) := ⟨by rw [← HI.out.2.2.2, HD.out, decU, if_pos hP]; rfl⟩
          rcases hP with ⟨h9, h1⟩ | ⟨h0, h1⟩
          · have h9b : ((j : Int) == 9) = true := by simp only [beq_iff_eq]; omega
            clear h9
            go_wp2
            all_goals
              go_ret
              exact ⟨by rw [← HTAR.out]; rfl, by rw [← HTAR.out]; exact HERR.out 2 (by decide), (Keeps.refl _ _).set_ 1 _⟩
          · obtain rfl : ch = 0 := by omega
            have h0b : (0 : Int) < (j : Int) := by omega
            by_cases h9 : j = 9
            · have h9b : ((j : Int) == 9) = true := by simp only [beq_iff_eq]; omega
              clear h9
              go_wp2
              all_goals
                go_ret
                exact ⟨by rw [← HTAR.out]; rfl, by rw [← HTAR.out]; exact HERR.out 2 (by decide), (Keeps.refl _ _).set_ 1 _⟩
            · have h9b : ((j : Int) == 9) = false := by simp only [beq_eq_false_iff_ne]; omega
              clear h9
              go_wp2
              all_goals
                go_ret
                exact ⟨by rw [← HTAR.out]; rfl, by rw [← HTAR.out]; exact HERR.out 2 (by decide), (Keeps.refl _ _).set_ 1 _⟩
        · have hm : ((ch : Int) % 128) = ((ch % 128 : Nat) : Int) := by omega
          have hma : Aside0 (IntKind.u64.wrap ((a : Int) + IntKind.u64.wrap (((ch % 128 : Nat) : Int) * (u : Int))) = ((a + u * (ch % 128) : Nat) : Int)) := ⟨mul_add_u64 a (ch % 128) u j HI.out.2.1 hj HI.out.2.2.1 (by omega) (by omega)⟩
          have hw1 : wrap64 ((j : Int) + 1) = (j : Int) + 1 := by unfold wrap64; omega
          have hge : decide (bs.length ≤ j) = false := decide_eq_false (by omega)
          have HP := Aside0.mk hP
          by_cases h128 : ch < 128
          · obtain ⟨A', hrun, hR⟩ := HCUT.out (j + 1) (by omega)
            have HR := Aside0.mk hR
            have hcc : ch % 128 = ch := by omega
            have HTAR : Aside0 ((a + u * ch, St.ok (bs.drop (j + 1))) = tar) := ⟨by rw [← HI.out.2.2.2, HD.out, decU, if_neg hP, if_pos (by omega), HI.out.2.1]; rfl⟩
            clear hR
            rw [hcc] at hma hm
            have hma2 := hma.out
            rw [show ((j + 1 : Nat) : Int) = (j : Int) + 1 from rfl] at hrun
            generalize (bs.drop (j + 1)).length = dl at hrun HR
            generalize c - (j + 1) = dc at hrun HR
            clear hP hcc hma
            by_cases h9 : j = 9
            · have h9b : ((j : Int) == 9) = true := by simp only [beq_iff_eq]; omega
              have h0b : (0 : Int) < (j : Int) := by omega
              have h1c : decide ((1 : Int) < (ch : Int)) = false := decide_eq_false (by have := HP.out; omega)
              have h0c : ((ch : Int) == 0) = false := by simp only [beq_eq_false_iff_ne]; have := HP.out; omega
              clear h9
              go_wp2
              go_ret
              exact ⟨by rw [← HTAR.out]; simp, by rw [← HTAR.out]; exact HR.out, (Keeps.refl _ _).set_ 0 _⟩
            · have h9b : ((j : Int) == 9) = false := by simp only [beq_eq_false_iff_ne]; omega
              clear h9
              by_cases h0 : j = 0
              · have h0b : decide ((0 : Int) < (j : Int)) = false := decide_eq_false (by omega)
                have h0n : decide (0 < j) = false := decide_eq_false (by omega)
                clear h0
                go_wp2
                go_ret
                exact ⟨by rw [← HTAR.out]; simp, by rw [← HTAR.out]; exact HR.out, (Keeps.refl _ _).set_ 0 _⟩
              · have h0b : (0 : Int) < (j : Int) := by omega
                have h0c : ((ch : Int) == 0) = false := by simp only [beq_eq_false_iff_ne]; have := HP.out; omega
                clear h0
                go_wp2
                go_ret
                exact ⟨by rw [← HTAR.out]; simp, by rw [← HTAR.out]; exact HR.out, (Keeps.refl _ _).set_ 0 _⟩
          · have hj8 : j ≤ 8 := by omega
            have h9b : ((j : Int) == 9) = false := by simp only [beq_eq_false_iff_ne]; omega
            have HTAR : Aside0 (finU (a + u * (ch % 128)) (j + 1) (decU (j + 1) (bs.drop (j + 1))) = tar) := ⟨by
              rw [← HI.out.2.2.2, HD.out, decU, if_neg hP, if_neg (by omega), finU_step, show ((ch : Int) - 128).toNat = ch % 128 by omega, ← HI.out.2.1]⟩
            have hun := mul_unit u j HI.out.2.1 hj8
            have HNX : Aside0 (a + u * (ch % 128) < 128 ^ (j + 1)) := ⟨by rw [HI.out.2.1]; exact acc_next j a _ (by rw [← HI.out.2.1]; exact HI.out.2.2.1) (by omega)⟩
            generalize hmm : ch % 128 = m at hm hma HTAR HNX
            have hma2 := hma.out
            generalize hu2 : 128 ^ (j + 1) = u2_ at hun HNX
            generalize ha2 : a + u * m = a2_ at hma2 HTAR HNX
            have HU2 := Aside0.mk hu2
            have HM := Aside0.mk hmm
            clear hP hma hu2 hmm ha2
            by_cases h0 : j = 0
            · have h0b : decide ((0 : Int) < (j : Int)) = false := decide_eq_false (by omega)
              have h0n : decide (0 < j) = false := decide_eq_false (by omega)
              clear h0
              go_wp2
              exact ⟨⟨j + 1, a2_, u2_, by first | rfl | trivial, by first | rfl | trivial, by first | rfl | trivial, by first | rfl | trivial, by omega, ⟨by omega, HU2.out.symm, by have := HNX.out; omega, HTAR.out⟩⟩, by simp only [intOf]; omega⟩
            · have h0b : (0 : Int) < (j : Int) := by omega
              have h0c : ((ch : Int) == 0) = false := by simp only [beq_eq_false_iff_ne]; omega
              clear h0
              go_wp2
              exact ⟨⟨j + 1, a2_, u2_, by first | rfl | trivial, by first | rfl | trivial, by first | rfl | trivial, by first | rfl | trivial, by omega, ⟨by omega, HU2.out.symm, by have := HNX.out; omega, HTAR.out⟩⟩, by simp only [intOf]; omega⟩
      · have hjn : j = bs.length := by have := HI.out.1; omega
        have HTAR : Aside0 ((0, St.err 3) = tar) := ⟨by rw [← HI.out.2.2.2, List.drop_eq_nil_of_le (by omega), decU]; rfl⟩
        have hge : decide ((bs.length : Int) ≤ (j : Int)) = true := decide_eq_true (by omega)
        clear hjl
        go_wp2
        go_ret
        exact ⟨by rw [← HTAR.out]; rfl, by rw [← HTAR.out]; exact HERR.out 3 (by decide), (Keeps.refl _ _).set_ 1 _⟩

set_option maxHeartbeats 8000000 in
set_option maxRecDepth 100000 in
theorem Back_f (z : Nat) (hz : z < 18446744073709551616) (w : World) : Calls Try.prog 63 #[.int .u64 (z : Int)] w fun e w' => e = .returned (.int .i64 (unzig z)) ∧ w' = w := by
  have h0 : (0 : Int) ≤ (z : Int) := by omega
  have h1 : (z : Int) < 18446744073709551616 := by omega
  have hq : IntKind.i64.wrap ((z : Int) / 2) = (z : Int) / 2 := IntWalk.i64_in _ ⟨by omega, by omega⟩
  by_cases h : z % 2 = 1
  · have hb : ((z : Int) % 2 == 1) = true := by simp only [beq_iff_eq]; omega
    have hu : unzig z = -((z : Int) / 2) - 1 := by unfold unzig; rw [if_neg (by omega)]; omega
    have h2 : wrap64 (wrap64 (-((z : Int) / 2)) - 1) = -((z : Int) / 2) - 1 := by unfold wrap64; omega
    have h3 : wrap64 (-((z : Int) / 2)) = -((z : Int) / 2) := by unfold wrap64; omega
    have HU := Aside0.mk hu
    clear hu h hq
    go_enter Try.func63, Try.ntmps63
    go_wp2
    go_ret
    exact ⟨by rw [HU.out]; rfl, rfl⟩
  · have hb : ((z : Int) % 2 == 1) = false := by simp only [beq_eq_false_iff_ne]; omega
    have hu : unzig z = (z : Int) / 2 := by unfold unzig; rw [if_pos (by omega)]; omega
    have HU := Aside0.mk hu
    clear hu h
    go_enter Try.func63, Try.ntmps63
    go_wp2
    go_ret
    exact ⟨by rw [HU.out]; first | rfl | (congr 1; done), rfl⟩
end Go.Proofs.Ytleomgkogbenaaa.WireRd
