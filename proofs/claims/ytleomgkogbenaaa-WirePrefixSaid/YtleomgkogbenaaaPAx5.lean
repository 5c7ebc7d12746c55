/- Written by a program of this session (pw.py, over the kit's printer): contracts, with their walks, of the Go functions that a law reaches; a text named ..Law.. proves the given statement of that law, with no condition of its own. -/
import Derived.Test.YtleomgkogbenaaaPAx0
import Derived.Test.YtleomgkogbenaaaPAx1
import Derived.Test.YtleomgkogbenaaaPAx3
import Derived.Test.YtleomgkogbenaaaPAx4
namespace Go.Proofs.Ytleomgkogbenaaa.PA
open Go.Proofs.Ytleomgkogbenaaa.HashPlain
open Go.Proofs.Ytleomgkogbenaaa.WirePlain
open Go.Proofs.Ytleomgkogbenaaa.WireWr
open Go.Proofs.Ytleomgkogbenaaa.WireRd
open Go.Proofs.Ytleomgkogbenaaa.Pw
open Go.RowKit Go.Proofs.YtleomgkogbenaaaW.PrintWords Go.Proofs.YtleomgkogbenaaaW.PrintLast Go.Proofs.YtleomgkogbenaaaW.PrintMore
attribute [local go_sem] max2_int min2_int max_two min_two max_three min_three max_four min_four   -- for this text's walks alone
set_option linter.unusedVariables false
set_option linter.unusedSimpArgs false

/-! ### refuterlaw02_WirePrefix: function 9 -/
def refuterlaw02_WirePrefix.Pure : Prop := True
/-- A reader of a proper beginning of the values' bytes, the first k values read. -/
def Pst (xs : List S47) (k : Nat) (st : St) : Prop := (∃ p q, st = .ok p ∧ p ++ q = encVs (xs.drop k) ∧ q ≠ []) ∨ st = .err 3
theorem Pst_step (xs : List S47) (k : Nat) (st : St) (hk : k < xs.length) (hg : GenV xs[k]) (h : Pst xs k st) : Pst xs (k + 1) (readS xs[k].f0 st).2 := by
  rcases h with ⟨p, q, rfl, hpq, hq⟩ | rfl
  · rw [List.drop_eq_getElem_cons hk, encVs_cons] at hpq
    rcases app_split hpq with ⟨c, hc, h1, h2⟩ | ⟨c, h1, h2⟩
    · exact Or.inr (readS_prefix _ hg p c h1.symm hc)
    · subst h1
      rw [readS_enc _ hg]
      exact Or.inl ⟨c, q, rfl, h2.symm, hq⟩
  · rw [readS_err]; exact Or.inr rfl
theorem Pst_end (xs : List S47) (k : Nat) (st : St) (hk : xs.length ≤ k) (h : Pst xs k st) : st = .err 3 := by
  rcases h with ⟨p, q, rfl, hpq, hq⟩ | rfl
  · rw [List.drop_eq_nil_of_le hk] at hpq
    exact absurd (List.append_eq_nil_iff.mp (hpq.trans rfl)).2 hq
  · rfl
theorem few02 (l : List Int) (n : Int) (hn : (l.length : Int) = n) (hl : l.length ≤ 100000000) : refuterref01_Few.f l n = some l := by
  unfold refuterref01_Few.f
  have e : mn (l.length : Int) n = (l.length : Int) := by unfold mn; split <;> omega
  rw [e, if_pos (by omega), if_pos (by omega), Int.toNat_natCast, List.take_of_length_le (Nat.le_refl _), if_pos (by simp only [List.length_nil]; omega)]
  rfl
set_option maxHeartbeats 8000000 in
set_option maxRecDepth 100000 in
theorem WirePrefix_any (A : Option Addr) (c : Nat) (l : List Int) (cut : Int) (cb : Int) (w : World) (hR : Kd.C (Kd.int .i64) w A l.length l) (hx : ∀ x ∈ l, -9223372036854775808 ≤ x ∧ x ≤ 9223372036854775807) (hcut : -9223372036854775808 ≤ cut ∧ cut ≤ 9223372036854775807) (hcb : 0 ≤ cb ∧ cb < 256) :
    Calls Try.prog 9 #[.slice A l.length c, .int .i64 cut, .int .u8 cb] w fun e w' => e = .returned (.bool true) ∧ Below w.heap.size w w' := by
  have HR := Aside0.mk hR
  have HX := Aside0.mk hx
  have hut := Try.underlying47
  have HCUT := Aside0.mk hcut
  have HCB := Aside0.mk hcb
  have HLV := fun W => refuterlaw02_lives.calls true W rfl
  clear hR hx hcut hcb
  go_enter Try.func9, Try.ntmps9
  go_wp2_with (first
    | (go_at_call 19; refine (Vals_c A c l _ HR.out HX.out).mono ?_; rintro e w1 ⟨v1, xs, rfl, hO, hl8, hg, hB⟩; obtain ⟨A1, c1, rfl, -, hC⟩ := Kd.R_reads hO; have HC1 := Aside0.mk hC; have HL8 := Aside0.mk hl8; have HGA := Aside0.mk hg; have HB1 := Aside0.mk hB; clear hO hl8 hg hB hC))
  have HENC : Aside0 (∀ W, Kd.C k47 W A1 xs.length xs → Calls Try.prog 35 #[.slice A1 xs.length c1] W fun e w' => ∃ v, e = .returned v ∧ Kd.R (Kd.int .u8) 5 w' W.heap.size (fun _ => True) v (encVs xs) ∧ Below W.heap.size W w') := ⟨fun W h => encode_c A1 c1 xs W h (fun x hx => canV_of_gen (HGA.out x hx)) (by have := HL8.out; omega)⟩
  have HBY : Aside0 (∀ y ∈ encVs xs, 0 ≤ y ∧ y < 256) := ⟨encVs_byte xs (fun x hx => canV_of_gen (HGA.out x hx))⟩
  have HLEN : Aside0 ((encVs xs).length ≤ 480000) := ⟨by have := encVs_len xs (fun x hx => canV_of_gen (HGA.out x hx)); have := HL8.out; omega⟩
  have HP0 : Aside0 (∀ s : Nat, s < (encVs xs).length → Pst xs 0 (.ok ((encVs xs).take s))) := ⟨fun s hs => Or.inl ⟨(encVs xs).take s, (encVs xs).drop s, rfl, by rw [List.take_append_drop]; rfl, fun h => by have := congrArg List.length h; rw [List.length_drop] at this; simp only [List.length_nil] at this; omega⟩⟩
  have HD0 : Aside0 (encVs (xs.drop 0) = encVs xs) := ⟨rfl⟩
  generalize encVs xs = bs at HENC HBY HLEN HP0 HD0
  by_cases hz : bs = []
  · subst hz
    have HN0 := Aside0.mk (fun W => C_nilW .u8 W)
    go_wp2_with (first
      | (go_at_call 35; refine (HENC.out _ HC1.out).mono ?_; rintro e w2 ⟨v2, rfl, HO, HB⟩; obtain ⟨A2, c2, rfl, hlc2, hn2, hC⟩ := C_row HO; have HB2 := Aside0.mk (HB1.out.trans (HB.mono HB1.out.size)); clear HO HB hC hn2 hlc2)
      | (go_at_call 21; refine (Read_r none 0 [] _ (HN0.out _) (by decide) (fun _ => ⟨rfl, rfl⟩) (fun x hx => nomatch hx)).mono ?_; rintro e w3 ⟨g, b, rfl, hRd, hb, hg, hB⟩; have HRD := Aside0.mk hRd; have HB3 := Aside0.mk (HB2.out.trans (hB.mono HB2.out.size)); clear hRd hb hg hB)
      | (go_at_call 25; refine (End_r' (st := .ok []) (n := 0) rfl _ HRD.out).mono ?_; rintro e w4 ⟨rfl, hd⟩; have HB4 := Aside0.mk (HB3.out.trans (hd.below.mono HB3.out.size)); clear hd)
      | (go_at_call 17; refine (HLV _).mono ?_; rintro e w5 ⟨rfl, HB⟩; have HB5 := Aside0.mk (HB4.out.trans (HB.mono HB4.out.size)); clear HB))
    go_ret
    exact ⟨rfl, HB5.out⟩
  · have hpos : 0 < bs.length := List.length_pos_iff.mpr hz
    have hlen := HLEN.out
    obtain ⟨s, hs, hsf⟩ := aroundV cut (bs.length : Int) (by omega) HCUT.out
    obtain ⟨kd, hkd, hkf⟩ := aroundV cut 6 (by omega) HCUT.out
    have HSF := Aside0.mk hsf
    have HKF := Aside0.mk hkf
    have hzl : ((bs.length : Int) == 0) = false := by simp only [beq_eq_false_iff_ne]; omega
    have hsn : s < bs.length := by omega
    clear hz hsf hkf
    go_wp2_with (first
      | (go_at_call 35; refine (HENC.out _ HC1.out).mono ?_; rintro e w2 ⟨v2, rfl, HO, HB⟩; obtain ⟨A2, c2, rfl, hlc2, hn2, hC⟩ := C_row HO; have HC2 := Aside0.mk hC; have HN2 := Aside0.mk hn2; have HLC2 := Aside0.mk hlc2; have HB12 := Aside0.mk HB
         obtain ⟨hrun, hrd, hlc'⟩ := print_take_of (P := Try.prog) (Value.int .u8) 0 24 5 .i64 Try.underlying24 (i := (Try.prog.info? 5).get (by rfl)) (by rfl) (by rfl) A2 c2 bs (s : Int) (by omega) (by omega) hlc2
         rw [Int.toNat_natCast] at hrun hrd
         have HRT := Aside0.mk hrd
         have HPT := Aside0.mk (HP0.out s hsn)
         have HTL : Aside0 ((bs.take s).length ≤ bs.length ∧ (bs.length = 0 → (bs.take s).length = 0) ∧ ∀ x ∈ bs.take s, 0 ≤ x ∧ x < 256) := ⟨by rw [List.length_take]; omega, fun h => by rw [List.length_take]; omega, fun x hx => HBY.out x (List.mem_of_mem_take hx)⟩
         generalize bs.take s = bt at hrun HRT HPT HTL
         clear HO HB hC hn2 hlc2 hrd hlc' HP0)
      | (go_at_call_of 11 (Value.int .i64 (bs.length : Int)); refine (refuterref01_Around.calls cut (bs.length : Int) (s : Int) _ HSF.out).mono ?_; rintro e w3 ⟨rfl, hd⟩; have HC3 := Aside0.mk (Kd.C_below HC2.out hd.below); have HB13 := Aside0.mk (HB12.out.trans (hd.below.mono HB12.out.size)); clear hd)
      | (go_at_call_of 21 (Value.slice A2 bt.length c2); refine (Read_r A2 c2 bt _ (Kd.C_of_reads (d := (0 : Int)) (h1 := fun _ => rfl) (HRT.out _ (Kd.reads_of_C (d := (0 : Int)) (h1 := fun _ => rfl) HC3.out))) (by have := HTL.out.1; omega) (fun h => ⟨(HN2.out h).1, HTL.out.2.1 (HN2.out h).2⟩) HTL.out.2.2).mono ?_; rintro e w4 ⟨g1, b1, rfl, hRd, hb, hg, hB⟩; have HR1 := Aside0.mk hRd; have Hb1 := Aside0.mk hb; have HG1 := Aside0.mk hg; have HC4 := Aside0.mk (Kd.C_below HC3.out hB); have HB14 := Aside0.mk (HB13.out.trans (hB.mono HB13.out.size)); have HG1' : Aside0 (w1.heap.size ≤ g1) := ⟨Nat.le_trans HB13.out.size hg⟩; clear hRd hb hg hB)
      | (go_at_call 20; refine (refuterref01_Few.calls A2 c2 bs (bs.length : Int) bs _ HC4.out HLC2.out (few02 bs _ rfl (by omega))).mono ?_; rintro e w5 ⟨v5, rfl, hO, hB⟩; have HO5 := Aside0.mk hO; have HB5 := Aside0.mk hB; clear hO hB)
      | ((with_reducible refine gate_builtin (b := .append) (xs := #[.tmp 42, .tmp 44]) rfl ?_); at_builtin
         refine app_own .u8 24 5 1 w4.heap.size w5 rfl (.tmp 42) (.tmp 44) rfl Try.underlying24 info_u8 (by decide) v5 bs cb rfl rfl HO5.out HB5.out.size (by omega) ?_
         intro v6 w6 HO6 HB6
         obtain ⟨A6, c6, rfl, -, hn6, hC6⟩ := C_row HO6.out
         have HB46 := Aside0.mk (HB5.out.trans HB6.out)
         have HB16 := Aside0.mk (HB14.out.trans (HB46.out.mono HB14.out.size))
         have HR1_6 := Aside0.mk (HR1.out.below HB46.out)
         have HL1 := Aside0.mk HR1.out.lt
         have HBC : Aside0 (∀ x ∈ bs ++ [cb], 0 ≤ x ∧ x < 256) := ⟨fun x hx => by rcases List.mem_append.mp hx with h | h; exact HBY.out x h; rw [List.mem_singleton.mp h]; exact HCB.out⟩
         have HLC : Aside0 ((bs ++ [cb]).length ≤ 480001) := ⟨by rw [List.length_append, List.length_singleton]; omega⟩
         have HR2S : Aside0 (bs ++ [cb] = encVs (xs.drop 0) ++ [cb]) := ⟨by rw [HD0.out]⟩
         generalize bs ++ [cb] = bl at HO6 hC6 hn6 HBC HLC HR2S
         have HC6 := Aside0.mk hC6
         have HN6 := Aside0.mk hn6
         clear hC6 hn6 HO5 HO6 HB5 HB6 HC4 HR1)
      | (go_at_call_of 21 (Value.slice A6 bl.length c6); refine (Read_r A6 c6 bl _ HC6.out (by have := HLC.out; omega) HN6.out HBC.out).mono ?_; rintro e w7 ⟨g2, b2, rfl, hRd, hb, hg, hB⟩; have HR2 := Aside0.mk hRd; have Hb2 := Aside0.mk hb; have HG2 := Aside0.mk hg; have HB17 := Aside0.mk (HB16.out.trans (hB.mono HB16.out.size)); have HR1_7 := Aside0.mk (HR1_6.out.below hB); have HB47 := Aside0.mk (HB46.out.trans (hB.mono HB46.out.size)); clear hRd hb hg hB))
    have HNE : Aside0 (g1 ≠ g2 ∧ ¬ b2.P g1 ∧ ¬ b1.P g2) := ⟨by
      have h1 := HL1.out; have h2 := HG2.out; have h3 := HB46.out.size
      refine ⟨by omega, fun h => ?_, fun h => ?_⟩
      · have := (Hb2.out _ h).1; omega
      · have := (Hb1.out _ h).2; omega⟩
    have HG2' : Aside0 (w1.heap.size ≤ g2) := ⟨Nat.le_trans HB16.out.size HG2.out⟩
    have HR2' : Aside0 (RdW 79 b2 w7 g2 (.ok (encVs (xs.drop 0) ++ [cb]))) := ⟨by have := HR2.out; rw [HR2S.out] at this; exact this⟩
    clear HR2 HR2S Hb1 Hb2 HG1 HG2 HB12 HB13 HB14 HB16 HB46 HB47 HC2 HC3 HC6 HN2 HN6 HLC2 HBC HLC HL1 HTL HRT hrun HR1_6 HD0 HBY HENC
    go_loopw [12] (fun v12 wr => ∃ k : Nat, v12 = .int .i64 (k : Int) ∧ k ≤ xs.length ∧ Aside0 (∃ st, Pst xs k st ∧ RdW 79 b1 wr g1 st) ∧ Aside0 (RdW 79 b2 wr g2 (.ok (encVs (xs.drop k) ++ [cb]))) ∧ Aside0 (Below w1.heap.size w1 wr)) (fun v12 _ => xs.length - (intOf v12).toNat)
    case atStart => exact ⟨0, rfl, Nat.zero_le _, ⟨.ok bt, HPT.out, HR1_7.out⟩, HR2', HB17⟩
    case round =>
      clear HR1_7 HR2' HB17 HPT
      obtain ⟨k, rfl, hk, HS1, HR2, HBR⟩ := hrel
      obtain ⟨st, hPs, hR1⟩ := HS1.out
      have HPS := Aside0.mk hPs
      have HR1 := Aside0.mk hR1
      clear HS1 hPs hR1
      by_cases hlt : k < xs.length
      · obtain ⟨ad, A7, c7, A8, c8, e1, hx0, -⟩ := at_T47 HC1.out (k : Int) (by omega) (by omega)
        subst e1
        rw [Int.toNat_natCast, rd_T_mem xs k hlt] at hx0
        have HGX := HGA.out xs[k] (List.getElem_mem hlt)
        have HPN := Aside0.mk (Pst_step xs k st hlt HGX HPS.out)
        have HRS : Aside0 (readS xs[k].f0 (.ok (encVs (xs.drop k) ++ [cb])) = (xs[k], .ok (encVs (xs.drop (k + 1)) ++ [cb]))) := ⟨by rw [List.drop_eq_getElem_cons hlt, encVs_cons, List.append_assoc]; exact readS_enc _ HGX _⟩
        clear HGX
        generalize xs[k] = x at hx0 HPN HRS
        have HF : Aside0 (∀ W, Below w1.heap.size w1 W → W.cell? (ad.add (k * 5)) = some (.int .i64 x.f0)) := ⟨fun W h => pw_cell_below h hx0⟩
        have hcw := HF.out wr HBR.out
        have hk1 : wrap64 ((k : Int) + 1) = (k : Int) + 1 := by have := HL8.out; unfold wrap64; omega
        clear hx0
        go_wp2_with (first
          | (go_at_call_of 23 (Value.pointer (some ⟨g1, 0, none⟩)); refine (read_r b1 g1 st x.f0 _ HR1.out).mono ?_; rintro e w8 ⟨A9, c9, A0, c0, rfl, -, -, -, -, hRd, hK⟩; have HR1' := Aside0.mk hRd; have HR2' := Aside0.mk (HR2.out.other hK HNE.out.1.symm HNE.out.2.1); have HBR' := Aside0.mk (HBR.out.trans (hK.below HBR.out.size HG1'.out)); have hcw' := HF.out _ HBR'.out; clear hRd hK)
          | (go_at_call_of 23 (Value.pointer (some ⟨g2, 0, none⟩)); refine (read_one b2 g2 x.f0 x _ _ HRS.out _ HR2'.out).mono ?_; rintro e w9 ⟨A11, c11, A12, c12, rfl, -, -, -, -, hRd, hK⟩; have HR2'' := Aside0.mk hRd; have HR1'' := Aside0.mk (HR1'.out.other hK HNE.out.1 HNE.out.2.2); have HBR'' := Aside0.mk (HBR'.out.trans (hK.below HBR'.out.size HG2'.out)); clear hRd hK))
        exact ⟨⟨k + 1, by first | (rw [hk1]; rfl) | rfl, by omega, ⟨_, HPN.out, HR1''.out⟩, HR2'', HBR''⟩, by first | (rw [hk1]; simp only [intOf]; omega) | (simp only [intOf]; omega)⟩
      · have hst := Pst_end xs k st (by omega) HPS.out
        have hd : encVs (xs.drop k) ++ [cb] = [cb] := by rw [List.drop_eq_nil_of_le (by omega)]; rfl
        have HR1e : Aside0 (RdW 79 b1 wr g1 (.err 3)) := ⟨by rw [← hst]; exact HR1.out⟩
        have HR2e : Aside0 (RdW 79 b2 wr g2 (.ok [cb])) := ⟨by rw [← hd]; exact HR2.out⟩
        have HRK : Aside0 (readS (kd : Int) (.err 3) = (⟨(kd : Int), 0, 0, [], []⟩, .err 3)) := ⟨readS_err _ _⟩
        clear hst hd HR1 HR2 HPS
        go_wp2_with (first
          | (go_at_call_of 25 (Value.pointer (some ⟨g1, 0, none⟩)); refine (End_r' (st := .err 3) (n := 3) rfl _ HR1e.out).mono ?_; rintro e w8 ⟨rfl, hd⟩; have HR1f := Aside0.mk (HR1e.out.below hd.below); have HR2f := Aside0.mk (HR2e.out.below hd.below); have HBf := Aside0.mk (HBR.out.trans (hd.below.mono HBR.out.size)); clear hd)
          | (go_at_call_of 25 (Value.pointer (some ⟨g2, 0, none⟩)); refine (End_r' (st := .ok [cb]) (n := 2) rfl _ HR2f.out).mono ?_; rintro e w9 ⟨rfl, hd⟩; have HR1g := Aside0.mk (HR1f.out.below hd.below); have HBg := Aside0.mk (HBf.out.trans (hd.below.mono HBf.out.size)); clear hd)
          | (go_at_call_of 11 (Value.int .i64 6); refine (refuterref01_Around.calls cut 6 (kd : Int) _ HKF.out).mono ?_; rintro e w10 ⟨rfl, hd⟩; have HR1h := Aside0.mk (HR1g.out.below hd.below); have HBh := Aside0.mk (HBg.out.trans (hd.below.mono HBg.out.size)); clear hd)
          | (go_at_call 23; refine (read_one b1 g1 (kd : Int) _ _ _ HRK.out _ HR1h.out).mono ?_; rintro e w11 ⟨A9, c9, A10, c10, rfl, l9, l10, h9, h10, hRd, hK⟩; have L9 := Aside0.mk l9; have L10 := Aside0.mk l10; have H9 := Aside0.mk h9; have H10 := Aside0.mk h10; have HR1i := Aside0.mk hRd; have HBi := Aside0.mk (HBh.out.trans (hK.below HBh.out.size HG1'.out)); clear l9 l10 h9 h10 hRd hK)
          | (go_at_call 22; refine (same_c (⟨(kd : Int), 0, 0, [], []⟩ : S47) (by simp) (by simp) A9 c9 A10 c10 none 0 none 0 _ (H9.out _ (NewP.of_below (below_alloc (Below.refl _ _) _))) L9.out (H10.out _ (NewP.of_below (below_alloc (Below.refl _ _) _))) L10.out (C_nilW .u8 _) (Nat.le_refl _) (C_nilW .i64 _) (Nat.le_refl _)).mono ?_; rintro e w12 ⟨rfl, hB⟩; have hba := (below_alloc (Below.refl w11.heap.size w11) (.cells #[.int .i64 (kd : Int), .int .u64 0, .int .i64 0, .slice A9 0 c9, .slice A10 0 c10] 47)).trans (hB.mono (by rw [World.size_alloc]; omega)); have HR1j := Aside0.mk (HR1i.out.below hba); have HBj := Aside0.mk (HBi.out.trans (hba.mono HBi.out.size)); clear hB hba)
          | (go_at_call 25; refine (End_r' (st := .err 3) (n := 3) rfl _ HR1j.out).mono ?_; rintro e w13 ⟨rfl, hd⟩; have HBk := Aside0.mk (HBj.out.trans (hd.below.mono HBj.out.size)); clear hd)
          | (go_at_call 17; refine (HLV _).mono ?_; rintro e w14 ⟨rfl, HB⟩; have HBl := Aside0.mk (HBk.out.trans (HB.mono HBk.out.size)); clear HB))
        go_ret
        exact ⟨rfl, HB1.out.trans (HBl.out.mono HB1.out.size)⟩
theorem refuterlaw02_WirePrefix.walk (P : refuterlaw02_WirePrefix.Pure) (a0 : Option Addr) (len0 cap0 : Nat) (z0 : List Int) (a1 : Int) (a2 : Int) (w : World) (w0 : (a0 = none ∧ len0 = 0 ∧ cap0 = 0 ∧ z0 = []) ∨ ∃ x, a0 = some x ∧ len0 ≤ cap0 ∧ cap0 ≤ maxLen ∧ z0.length = cap0 ∧ (∀ i, i < z0.length → w.cell? (x.add i) = some (.int .i64 (z0.getD i 0))) ∧ ∀ n ∈ z0, (Lit.int .i64 n).wf = true) (_y0 : len0 * 8 ≤ 140737488351232) (w1 : (Lit.int .i64 a1).wf = true) (w2 : (Lit.int .u8 a2).wf = true) :
    Calls Try.prog 9 #[.slice a0 len0 cap0, .int .i64 a1, .int .u8 a2] w fun e w' => e = .returned (.bool true) ∧ Below w.heap.size w w' := by
  obtain ⟨l, rfl, hr0, hm0, hw0, hc0⟩ := ReadsInt.ofRowC w0
  have h := bounds_i64 w1
  have h2 := bounds_u8 w2
  exact WirePrefix_any _ _ l a1 a2 w (Kd.C_of_reads (d := (0 : Int)) (h1 := fun _ => rfl) hr0) (wf_all hw0) (by omega) (by omega)

/-! ### refuterref01_Short: function 36 -/
def refuterref01_Short.f (a0 : ByteArray) (a1 : Int) : Option (ByteArray) := if (a0.size : Int) > a1 then (if 0 ≤ a1 then (if a1 ≤ (a0.size : Int) then (some (a0.extract 0 (a1 : Int).toNat)) else (none)) else (none)) else (some a0)
set_option maxHeartbeats 8000000 in
set_option maxRecDepth 100000 in
theorem refuterref01_Short.calls (a0 : ByteArray) (a1 : Int) (r : ByteArray) (w : World) (h : refuterref01_Short.f a0 a1 = some r) :
    Calls Try.prog 36 #[.string a0, .int .i64 a1] w fun e w' => e = .returned (.string r) ∧ Drawn0 w w' := by
  have H : (if (a0.size : Int) > a1 then (if 0 ≤ a1 then (if a1 ≤ (a0.size : Int) then (some (a0.extract 0 (a1 : Int).toNat)) else (none)) else (none)) else (some a0)) = some r := h
  clear h
  by_cases c3 : (a0.size : Int) > a1
  · rw [if_pos c3] at H
    have c3b0 : decide (a1 < (a0.size : Int)) = true := decide_eq_true c3
    clear c3
    by_cases c4 : 0 ≤ a1
    · rw [if_pos c4] at H
      have c4b0 := eq_true c4
      have c4b1 : decide (0 ≤ a1) = true := decide_eq_true c4
      clear c4
      by_cases c5 : a1 ≤ (a0.size : Int)
      · rw [if_pos c5] at H
        have c5b0 := eq_true c5
        have c5b1 : decide (a1 ≤ (a0.size : Int)) = true := decide_eq_true c5
        clear c5
        obtain rfl := Option.some.inj H
        go_enter Try.func36, Try.ntmps36
        go_wp2
        go_ret
        exact ⟨by first | rfl | (simp; done) | (simp [*]; done), by repeat (first | exact Drawn0.refl _ | apply Drawn0.step)⟩
      · rw [if_neg c5] at H
        exact absurd H (by simp)
    · rw [if_neg c4] at H
      exact absurd H (by simp)
  · rw [if_neg c3] at H
    have c3b0 : decide (a1 < (a0.size : Int)) = false := decide_eq_false c3
    clear c3
    obtain rfl := Option.some.inj H
    go_enter Try.func36, Try.ntmps36
    go_wp2
    go_ret
    exact ⟨by first | rfl | (simp; done) | (simp [*]; done), by repeat (first | exact Drawn0.refl _ | apply Drawn0.step)⟩

-- NOT PRINTED: function 58 (hash_words_byte)

-- NOT PRINTED: function 66 (hash_words_string)

/-! ### hash_mix: function 67 -/
def hash_mix.f (a0 : Int) (a1 : Int) : Option (Int) := some (Go.bits .xor .u64 (IntKind.u64.wrap ((Go.bits .xor .u64 a0 a1) * 11400714819323198485)) ((IntKind.u64.wrap ((Go.bits .xor .u64 a0 a1) * 11400714819323198485)) / 4294967296))
set_option maxHeartbeats 8000000 in
set_option maxRecDepth 100000 in
theorem hash_mix.calls (a0 : Int) (a1 : Int) (r : Int) (w : World) (h : hash_mix.f a0 a1 = some r) :
    Calls Try.prog 67 #[.int .u64 a0, .int .u64 a1] w fun e w' => e = .returned (.int .u64 r) ∧ Drawn0 w w' := by
  have H : (some (Go.bits .xor .u64 (IntKind.u64.wrap ((Go.bits .xor .u64 a0 a1) * 11400714819323198485)) ((IntKind.u64.wrap ((Go.bits .xor .u64 a0 a1) * 11400714819323198485)) / 4294967296))) = some r := h
  clear h
  obtain rfl := Option.some.inj H
  go_enter Try.func67, Try.ntmps67
  go_wp2
  go_ret
  exact ⟨by first | rfl | (simp; done) | (simp [*]; done), by repeat (first | exact Drawn0.refl _ | apply Drawn0.step)⟩

/-! ### hash_Sum: function 59 -/
def hash_Sum.f (a0 : ByteArray) (l1 : List Int) : Option Int := if a0.size ≤ 140737488351232 then (if l1.length ≤ 140737488351232 then some (hsum (bytesOf a0) l1) else none) else none
theorem hash_Sum.calls (a0 : ByteArray) (A1 : Option Addr) (c1 : Nat) (l1 : List Int) (r : Int) (w : World) (hr1 : Kd.C (Kd.int .i64) w A1 l1.length l1) (_hc1 : l1.length ≤ c1) (h : hash_Sum.f a0 l1 = some r) :
    Calls Try.prog 59 #[.string a0, .slice A1 l1.length c1] w fun e w' => e = .returned (.int .u64 r) ∧ Below w.heap.size w w' := by
  unfold hash_Sum.f at h
  split at h
  · split at h
    · obtain rfl := Option.some.inj h
      exact HashSum.Sum_any a0 (by assumption) A1 c1 l1 (by assumption) w hr1
    · cases h
  · cases h

/-! ### hash_Bytes: function 37 -/
def hash_Bytes.f (a0 : ByteArray) (l1 : List Int) : Option Int := if a0.size ≤ 140737488351232 then (if l1.length ≤ 17592186044000 then (if (l1.all fun x => decide (0 ≤ x ∧ x < 256)) = true then some (HashBytes.hbytes (bytesOf a0) l1) else none) else none) else none
theorem hash_Bytes.calls (a0 : ByteArray) (A1 : Option Addr) (c1 : Nat) (l1 : List Int) (r : Int) (w : World) (hr1 : Kd.C (Kd.int .u8) w A1 l1.length l1) (_hc1 : l1.length ≤ c1) (h : hash_Bytes.f a0 l1 = some r) :
    Calls Try.prog 37 #[.string a0, .slice A1 l1.length c1] w fun e w' => e = .returned (.int .u64 r) ∧ Below w.heap.size w w' := by
  unfold hash_Bytes.f at h
  split at h
  · split at h
    · split at h
      · rename_i h3
        obtain rfl := Option.some.inj h
        exact HashBytes.Bytes_any a0 (by assumption) A1 c1 l1 (by assumption) (fun x hx => by have := of_decide_eq_true (List.all_eq_true.1 h3 x hx); exact this) w hr1
      · cases h
    · cases h
  · cases h

/-! ### refuterlaw02_WireHash: function 10 -/
def refuterlaw02_WireHash.Pure : Prop := True
theorem encU_inj (m n : Nat) (h1 : m < 18446744073709551616) (h2 : n < 18446744073709551616) (h : encU m = encU n) : m = n := by
  have a := uintS_enc m [] h1
  have b := uintS_enc n [] h2
  rw [h, b] at a
  exact (Prod.mk.inj a).1.symm
theorem encU_bytes : ∀ (d n : Nat), n ≤ d → ∀ x ∈ encU n, Byte x := by
  intro d
  induction d with
  | zero => intro n hn x hx; rw [encU_small (by omega)] at hx; rw [List.mem_singleton.mp hx]; unfold Byte; omega
  | succ d ih =>
    intro n hn x hx
    by_cases c : n < 128
    · rw [encU_small c] at hx; rw [List.mem_singleton.mp hx]; unfold Byte; omega
    · rw [encU_big c] at hx
      rcases List.mem_cons.mp hx with rfl | h
      · unfold Byte; omega
      · exact ih (n / 128) (by omega) x h
theorem short02 (a : ByteArray) (n : Int) (hn : 0 ≤ n) : ∃ s, refuterref01_Short.f a n = some s ∧ (s.size : Int) ≤ n := by
  unfold refuterref01_Short.f
  by_cases h : (a.size : Int) > n
  · rw [if_pos h, if_pos hn, if_pos (by omega)]
    exact ⟨_, rfl, by rw [ByteArray.size_extract]; omega⟩
  · rw [if_neg h]
    exact ⟨_, rfl, by omega⟩
theorem aroundH (a : Int) (ha : (Lit.int .i64 a).wf = true) : ∃ s : Nat, s < 56 ∧ refuterref01_Around.f a 56 = some (s : Int) := by
  have hb := bounds_i64 ha
  obtain ⟨s, h1, h2⟩ := aroundV a 56 (by omega) (by omega)
  exact ⟨s, by omega, h2⟩
set_option maxHeartbeats 8000000 in
set_option maxRecDepth 100000 in
theorem WireHash_any (a b : Nat) (sh : Int) (lb : ByteArray) (h0 : a < 18446744073709551616) (h1 : b < 18446744073709551616) (h2 : (Lit.int .i64 sh).wf = true) (w : World) :
    Calls Try.prog 10 #[.int .u64 (a : Int), .int .u64 (b : Int), .int .i64 sh, .string lb] w fun e w' => e = .returned (.bool true) ∧ Below w.heap.size w w' := by
  obtain ⟨s, hs, hsf⟩ := aroundH sh h2
  obtain ⟨lab, hlab, hlz⟩ := short02 lb 20 (by omega)
  have HSF := Aside0.mk hsf
  have HLAB := Aside0.mk hlab
  have HLZ := Aside0.mk hlz
  have hw8 : wrap64 (8 + (s : Int)) = 8 + (s : Int) := by unfold wrap64; omega
  clear hsf hlab hlz
  go_enter Try.func10, Try.ntmps10
  go_wp2_with (first
    | (go_at_call 11; refine (refuterref01_Around.calls sh 56 (s : Int) _ HSF.out).mono ?_; rintro e w1 ⟨rfl, hd⟩; have HB1 := Aside0.mk hd.below; clear hd))
  have hka : ((a : Int) / 2 ^ (8 + s)) = ((a / 2 ^ (8 + s) : Nat) : Int) := by rw [Int.natCast_ediv]; norm_cast
  have hkb : ((b : Int) / 2 ^ (8 + s)) = ((b / 2 ^ (8 + s) : Nat) : Int) := by rw [Int.natCast_ediv]; norm_cast
  have small : ∀ x : Nat, x < 18446744073709551616 → x / 2 ^ (8 + s) < 72057594037927936 := fun x hx =>
    Nat.lt_of_le_of_lt (Nat.div_le_div_left (Nat.pow_le_pow_right (by omega) (show 8 ≤ 8 + s by omega)) (by decide)) (by show x / 2 ^ 8 < _; omega)
  have hM := small a h0
  have hN := small b h1
  rw [hka, hkb]
  clear hka hkb small
  generalize a / 2 ^ (8 + s) = M at hM ⊢
  generalize b / 2 ^ (8 + s) = N at hN ⊢
  have HMF : Aside0 ((encU M).length ≤ 8 ∧ 1 ≤ (encU M).length) := ⟨encU_len 8 M (by omega) (by omega), encU_pos M⟩
  have HNF : Aside0 ((encU N).length ≤ 8 ∧ 1 ≤ (encU N).length) := ⟨encU_len 8 N (by omega) (by omega), encU_pos N⟩
  have hM64 : M < 18446744073709551616 := by omega
  have hN64 : N < 18446744073709551616 := by omega
  have HW0 := Aside0.mk (WrW.new w1)
  have HB0 : Aside0 (Below w1.heap.size w1 (w1.alloc (.cells #[.slice none 0 0] 26))) := ⟨below_alloc (Below.refl _ _) _⟩
  go_wp2_with (first
    | (go_at_call_of 12 (Value.pointer (some ⟨w1.heap.size, 0, none⟩)); refine (Uint_w w1.heap.size w1.heap.size [] M _ HW0.out (by have := HMF.out.1; simp only [List.length_nil]; omega) hM64).mono ?_; rintro e w2 ⟨rfl, HW, HB⟩; rw [List.nil_append] at HW; have HWM := Aside0.mk HW; have HB2 := Aside0.mk (HB0.out.trans HB); clear HW HB; have HX0 := Aside0.mk (WrW.new w2))
    | (go_at_call_of 12 (Value.pointer (some ⟨w2.heap.size, 0, none⟩)); refine (Uint_w w2.heap.size w2.heap.size [] N _ HX0.out (by have := HNF.out.1; simp only [List.length_nil]; omega) hN64).mono ?_; rintro e w3 ⟨rfl, HW, HB⟩; rw [List.nil_append] at HW; have HWN := Aside0.mk HW; have HB3 := Aside0.mk ((below_alloc (Below.refl w2.heap.size w2) _).trans HB); clear HW HB))
  have HB03 : Aside0 (Below w.heap.size w w3) := ⟨HB1.out.trans (HB2.out.trans (HB3.out.mono HB2.out.size) |>.mono HB1.out.size)⟩
  have HWM3 := Aside0.mk (HWM.out.kept HB3.out)
  have HBYM : Aside0 (∀ x ∈ encU M, Byte x) := ⟨encU_bytes M M (Nat.le_refl _)⟩
  have HBYN : Aside0 (∀ x ∈ encU N, Byte x) := ⟨encU_bytes N N (Nat.le_refl _)⟩
  have HINJ : Aside0 (encU M = encU N → M = N) := ⟨encU_inj M N hM64 hN64⟩
  generalize hp : encU M = p at HMF HWM3 HBYM HINJ
  generalize hq : encU N = q at HNF HWN HBYN HINJ
  have HPE : Aside0 (M = N → p = q) := ⟨fun e => by rw [← hp, ← hq, e]⟩
  obtain ⟨lp, hlp⟩ : ∃ lp, p.length = lp := ⟨_, rfl⟩
  obtain ⟨lq, hlq⟩ : ∃ lq, q.length = lq := ⟨_, rfl⟩
  have HLP := Aside0.mk hlp
  have HLQ := Aside0.mk hlq
  have hp8 : lp ≤ 8 ∧ 1 ≤ lp := by rw [← hlp]; exact HMF.out
  have hq8 : lq ≤ 8 ∧ 1 ≤ lq := by rw [← hlq]; exact HNF.out
  obtain ⟨hp8, hp1⟩ := hp8
  obtain ⟨hq8, hq1⟩ := hq8
  have hL : ∀ W, Calls Try.prog 17 #[] W fun e w' => e = .returned (.bool true) ∧ Below W.heap.size W w' := fun W => refuterlaw02_lives.calls true W rfl
  have HLV := Aside0.mk hL
  clear HWM HX0 HW0 HB0 HB1 HB2 HB3 HMF HNF hp hq hlp hlq hL
  by_cases he : lp = lq
  · subst he
    have hgt : decide ((8 : Int) < (lp : Int)) = false := decide_eq_false (by omega)
    have HBA : Aside0 (∀ (zs : List Int) (A : Option Addr) (c : Nat) (W : World), zs.length = lp → (∀ x ∈ zs, Byte x) → Kd.C (Kd.int .u8) W A zs.length zs → Calls Try.prog 37 #[.string lab, .slice A lp c] W fun e w' => e = .returned (.int .u64 (HashBytes.hbytes (bytesOf lab) zs)) ∧ Below W.heap.size W w') := ⟨fun zs A c W h1 h2 h3 => by
      have := HashBytes.Bytes_any lab (by have := HLZ.out; omega) A c zs (by omega) h2 W h3
      rw [h1] at this
      exact this⟩
    have HSM : Aside0 ((HashBytes.hbytes (bytesOf lab) p == HashBytes.hbytes (bytesOf lab) q) = decide (p = q)) := ⟨hbytes_small (bytesOf lab) p q (HashIter.bytesOf_byte lab) (by rw [bytesOf_length]; have := HLZ.out; omega) HBYM.out HBYN.out (HLP.out.trans HLQ.out.symm) (by rw [HLP.out]; exact hp8) (by rw [HLP.out]; exact hp1)⟩
    have hfin : ((HashBytes.hbytes (bytesOf lab) p == HashBytes.hbytes (bytesOf lab) q) == ((M : Int) == (N : Int))) = true := by
      rw [HSM.out]
      by_cases e : M = N
      · rw [decide_eq_true (HPE.out e), e]; simp
      · rw [decide_eq_false (fun h => e (HINJ.out h))]; simp only [beq_iff_eq]; symm; simp only [beq_eq_false_iff_ne]; omega
    generalize hr1 : HashBytes.hbytes (bytesOf lab) p = r1 at hfin
    generalize hr2 : HashBytes.hbytes (bytesOf lab) q = r2 at hfin
    have HR1 := Aside0.mk hr1
    have HR2 := Aside0.mk hr2
    clear hr1 hr2 HSM HPE HINJ
    go_wp2_with (first
      | (go_at_call_of 16 (Value.pointer (some ⟨w1.heap.size, 0, none⟩)); refine (Done_w w1.heap.size w1.heap.size _ _ HWM3.out (by rw [HLP.out]; omega)).mono ?_; rintro e w4 ⟨v4, rfl, HO, HB⟩; obtain ⟨A4, c4, rfl, -, -, hC⟩ := C_row HO; have HC4 := Aside0.mk hC; rw [HLP.out]; have HX4 := Aside0.mk (WrW.kept HWN.out HB); have HB4 := Aside0.mk (HB03.out.trans (HB.mono HB03.out.size)); clear HO HB hC)
      | (go_at_call_of 16 (Value.pointer (some ⟨w2.heap.size, 0, none⟩)); refine (Done_w w2.heap.size w2.heap.size _ _ HX4.out (by rw [HLQ.out]; omega)).mono ?_; rintro e w5 ⟨v5, rfl, HO, HB⟩; obtain ⟨A5, c5, rfl, -, -, hC⟩ := C_row HO; have HC5 := Aside0.mk hC; rw [HLQ.out]; have HD4 := Aside0.mk (Kd.C_below HC4.out HB); have HB5 := Aside0.mk (HB4.out.trans (HB.mono HB4.out.size)); clear HO HB hC)
      | (go_at_call 36; refine (refuterref01_Short.calls lb 20 lab _ HLAB.out).mono ?_; rintro e w6 ⟨rfl, hd⟩; have HP6 := Aside0.mk (Kd.C_below HD4.out hd.below); have HQ6 := Aside0.mk (Kd.C_below HC5.out hd.below); have HB6 := Aside0.mk (HB5.out.trans (hd.below.mono HB5.out.size)); clear hd)
      | (go_at_call_of 37 (Value.slice A4 lp c4); refine (HBA.out p A4 c4 _ HLP.out HBYM.out HP6.out).mono ?_; rintro e w7 ⟨rfl, HB⟩; have HQ7 := Aside0.mk (Kd.C_below HQ6.out HB); have HB7 := Aside0.mk (HB6.out.trans (HB.mono HB6.out.size)); rw [HR1.out]; clear HB)
      | (go_at_call_of 37 (Value.slice A5 lp c5); refine (HBA.out q A5 c5 _ HLQ.out HBYN.out HQ7.out).mono ?_; rintro e w8 ⟨rfl, HB⟩; have HB8 := Aside0.mk (HB7.out.trans (HB.mono HB7.out.size)); rw [HR2.out]; clear HB)
      | (go_at_call 17; refine (HLV.out _).mono ?_; rintro e w9 ⟨rfl, HB⟩; have HB9 := Aside0.mk (HB8.out.trans (HB.mono HB8.out.size)); clear HB))
    go_ret
    exact ⟨rfl, HB9.out⟩
  · have hne : ((lp : Int) != (lq : Int)) = true := by rw [bne_iff_ne]; omega
    have hmn : ((M : Int) != (N : Int)) = true := by
      rw [bne_iff_ne]
      intro h
      have h2 := HPE.out (by omega)
      exact he (by rw [← HLP.out, ← HLQ.out, h2])
    clear he HPE HINJ
    go_wp2_with (first
      | (go_at_call_of 16 (Value.pointer (some ⟨w1.heap.size, 0, none⟩)); refine (Done_w w1.heap.size w1.heap.size _ _ HWM3.out (by rw [HLP.out]; omega)).mono ?_; rintro e w4 ⟨v4, rfl, HO, HB⟩; obtain ⟨A4, c4, rfl, -, -, hC⟩ := C_row HO; rw [HLP.out]; have HX4 := Aside0.mk (WrW.kept HWN.out HB); have HB4 := Aside0.mk (HB03.out.trans (HB.mono HB03.out.size)); clear HO HB hC)
      | (go_at_call_of 16 (Value.pointer (some ⟨w2.heap.size, 0, none⟩)); refine (Done_w w2.heap.size w2.heap.size _ _ HX4.out (by rw [HLQ.out]; omega)).mono ?_; rintro e w5 ⟨v5, rfl, HO, HB⟩; obtain ⟨A5, c5, rfl, -, -, hC⟩ := C_row HO; rw [HLQ.out]; have HB5 := Aside0.mk (HB4.out.trans (HB.mono HB4.out.size)); clear HO HB hC)
      | (go_at_call 36; refine (refuterref01_Short.calls lb 20 lab _ HLAB.out).mono ?_; rintro e w6 ⟨rfl, hd⟩; have HB6 := Aside0.mk (HB5.out.trans (hd.below.mono HB5.out.size)); clear hd)
      | (go_at_call 17; refine (HLV.out _).mono ?_; rintro e w9 ⟨rfl, HB⟩; have HB9 := Aside0.mk (HB6.out.trans (HB.mono HB6.out.size)); clear HB))
    go_ret
    exact ⟨rfl, HB9.out⟩
theorem refuterlaw02_WireHash.walk (P : refuterlaw02_WireHash.Pure) (a0 : Int) (a1 : Int) (a2 : Int) (a3 : ByteArray) (w : World) (w0 : (Lit.int .u64 a0).wf = true) (w1 : (Lit.int .u64 a1).wf = true) (w2 : (Lit.int .i64 a2).wf = true) (w3 : a3.size ≤ 140737488351232) :
    Calls Try.prog 10 #[.int .u64 a0, .int .u64 a1, .int .i64 a2, .string a3] w fun e w' => e = .returned (.bool true) ∧ Below w.heap.size w w' := by
  have h := bounds_u64 w0
  have h' := bounds_u64 w1
  obtain ⟨n, rfl⟩ := Int.eq_ofNat_of_zero_le h.1
  obtain ⟨m, rfl⟩ := Int.eq_ofNat_of_zero_le h'.1
  exact WireHash_any n m a2 a3 (by omega) (by omega) w2 w

end Go.Proofs.Ytleomgkogbenaaa.PA
