/- Written by a program of this session (pw.py, over the kit's printer): contracts, with their walks, of the Go functions that a law reaches; a text named ..Law.. proves the given statement of that law, with no condition of its own. -/
import Derived.Test.YtleomgkogbenaaaPAx0
import Derived.Test.YtleomgkogbenaaaPAx1
import Derived.Test.YtleomgkogbenaaaPAx3
import Derived.Test.YtleomgkogbenaaaPAx4
namespace Go.Proofs.Ytleomgkogbenaaa.PA
open Go.Proofs.Ytleomgkogbenaaa.HashPlain
open Go.Proofs.Ytleomgkogbenaaa.WirePlain
open Go.Proofs.Ytleomgkogbenaaa.WireWr
open Go.Proofs.Ytleomgkogbenaaa.WireRd
open Go.Proofs.Ytleomgkogbenaaa.Pw
open Go.RowKit Go.Proofs.YtleomgkogbenaaaW.PrintWords Go.Proofs.YtleomgkogbenaaaW.PrintLast Go.Proofs.YtleomgkogbenaaaW.PrintMore
attribute [local go_sem] max2_int min2_int max_two min_two max_three min_three max_four min_four   -- for this text's walks alone
set_option linter.unusedVariables false
set_option linter.unusedSimpArgs false

/-! ### refuterlaw02_write: function 34 -/
set_option maxHeartbeats 8000000 in
set_option maxRecDepth 100000 in
theorem write_w (base g : Nat) (bs : List Int) (x : S47) (A3 : Option Addr) (c3 : Nat) (A4 : Option Addr) (c4 : Nat) (w : World) (hI : WrW base w g bs) (hb : base ≤ w.heap.size)
    (g3 : ∀ W, Below base w W → Kd.C (Kd.int .u8) W A3 x.f3.length x.f3) (g4 : ∀ W, Below base w W → Kd.C (Kd.int .i64) W A4 x.f4.length x.f4) (hv : CanV x) (hl : bs.length + 100000 ≤ 140737488355328) :
    Calls Try.prog 34 #[.pointer (some ⟨g, 0, none⟩), .agg #[.int .i64 x.f0, .int .u64 x.f1, .int .i64 x.f2, .slice A3 x.f3.length c3, .slice A4 x.f4.length c4]] w fun e w' => e = .returned (.tuple #[]) ∧ WrW base w' g (bs ++ encV x) ∧ Below base w w' := by
  obtain ⟨⟨u0, u1⟩, ⟨n0, n1⟩, hby, hin, hl3, hl4⟩ := hv
  obtain ⟨k, u, n, b, l⟩ := x
  simp only at g3 g4 u0 u1 n0 n1 hby hin hl3 hl4 ⊢
  have hB1 : Below base w (w.alloc (.cells #[.int .i64 k, .int .u64 u, .int .i64 n, .slice A3 b.length c3, .slice A4 l.length c4] 47)) := (below_alloc (Below.refl _ _) _).mono hb
  have hI1 := Aside0.mk (hI.kept (below_alloc (Below.refl _ _) (.cells #[.int .i64 k, .int .u64 u, .int .i64 n, .slice A3 b.length c3, .slice A4 l.length c4] 47)))
  have HB1 := Aside0.mk hB1
  have HL := Aside0.mk hl
  have HL3 := Aside0.mk hl3
  have HL4 := Aside0.mk hl4
  have HC3 := Aside0.mk (g3 _ hB1)
  have HC4 : Aside0 (∀ W, Below base (w.alloc (.cells #[.int .i64 k, .int .u64 u, .int .i64 n, .slice A3 b.length c3, .slice A4 l.length c4] 47)) W → Kd.C (Kd.int .i64) W A4 l.length l) := ⟨fun W h => g4 W (hB1.trans h)⟩
  have hcs := fun W (h : Kd.C (Kd.int .u8) W A3 b.length b) => Kd.C_string (P := Try.prog) Try.underlying24 Try.underlying5 Try.underlying9 (c := c3) h
  have hcv := hcs _ (g3 _ hB1)
  have HBY := Aside0.mk hby
  have HIN := Aside0.mk hin
  have HSZ : Aside0 ((strOfNums b).size = b.length) := ⟨by unfold strOfNums; simp [ByteArray.size]⟩
  have HBS : Aside0 (base ≤ (w.alloc (.cells #[.int .i64 k, .int .u64 u, .int .i64 n, .slice A3 b.length c3, .slice A4 l.length c4] 47)).heap.size) := ⟨by rw [World.size_alloc]; omega⟩
  clear hI hl hl3 hl4 g3 g4 hB1 hby hin hcs
  have hend : ∀ (e : Ending) (w' : World) (bs' : List Int) (en : List Int), encV ⟨k, u, n, b, l⟩ = en → bs' = bs ++ en → e = .returned (.tuple #[]) → WrW base w' g bs' → Below base (w.alloc (.cells #[.int .i64 k, .int .u64 u, .int .i64 n, .slice A3 b.length c3, .slice A4 l.length c4] 47)) w' → e = .returned (.tuple #[]) ∧ WrW base w' g (bs ++ encV ⟨k, u, n, b, l⟩) ∧ Below base w w' := by
    intro e w' bs' en h1 h2 h3 h4 h5
    subst h2
    rw [h1]
    exact ⟨h3, h4, HB1.out.trans h5⟩
  have HEND := Aside0.mk hend
  clear hend
  by_cases e0 : k = 0
  · subst e0
    obtain ⟨u', rfl⟩ := Int.eq_ofNat_of_zero_le u0
    have hten : Aside0 (bs.length + (encU u').length ≤ 140737488355328) := ⟨by have := HL.out; have := encU_ten u' (by omega); omega⟩
    have hu' : u' < 18446744073709551616 := by omega
    go_enter Try.func34, Try.ntmps34
    go_wp2_with (first
      | (go_at_call 12; refine (Uint_w base g bs u' _ hI1.out hten.out hu').mono ?_; rintro e w2 ⟨rfl, HW, HB⟩))
    first | go_end0 | ((try simp only [Exit.inBlock, Exit.then]); refine bodyPost_ret (results_none rfl _ _ _) rfl ?_)
    exact HEND.out _ _ _ (encU u') (by simp [encV]) rfl rfl HW HB
  by_cases e1 : k = 1
  · subst e1
    go_enter Try.func34, Try.ntmps34
    go_wp2_with (first
      | (go_at_call 14; refine (Int_w base g bs n n0 n1 _ hI1.out (by have := HL.out; omega)).mono ?_; rintro e w2 ⟨rfl, HW, HB⟩))
    first | go_end0 | ((try simp only [Exit.inBlock, Exit.then]); refine bodyPost_ret (results_none rfl _ _ _) rfl ?_)
    exact HEND.out _ _ _ (encI n) (by simp [encV]) rfl rfl HW HB
  by_cases e2 : k = 2
  · subst e2
    go_enter Try.func34, Try.ntmps34
    go_wp2_with (first
      | (go_at_call 15; refine (Bool_w base g bs _ _ hI1.out (by have := HL.out; omega)).mono ?_; rintro e w2 ⟨rfl, HW, HB⟩))
    first | go_end0 | ((try simp only [Exit.inBlock, Exit.then]); refine bodyPost_ret (results_none rfl _ _ _) rfl ?_)
    exact HEND.out _ _ _ (encB (n == 1)) (by simp [encV]) rfl rfl HW HB
  have hk0 : (k == 0) = false := beq_eq_false_iff_ne.mpr e0
  have hk1 : (k == 1) = false := beq_eq_false_iff_ne.mpr e1
  have hk2 : (k == 2) = false := beq_eq_false_iff_ne.mpr e2
  by_cases e3 : k = 3
  · subst e3
    go_enter Try.func34, Try.ntmps34
    go_wp2_with (first
      | (go_at_call 40; refine (Text_w base g bs (strOfNums b) _ hI1.out (by have := HL.out; have := HL3.out; rw [HSZ.out]; omega)).mono ?_; rintro e w2 ⟨rfl, HW, HB⟩))
    first | go_end0 | ((try simp only [Exit.inBlock, Exit.then]); refine bodyPost_ret (results_none rfl _ _ _) rfl ?_)
    exact HEND.out _ _ _ (encRaw b) (by simp [encV]) (by rw [bytesOf_strOfNums b HBY.out]) rfl HW HB
  have hk3 : (k == 3) = false := beq_eq_false_iff_ne.mpr e3
  by_cases e4 : k = 4
  · subst e4
    go_enter Try.func34, Try.ntmps34
    go_wp2_with (first
      | (go_at_call 28; refine (Raw_w base g bs A3 c3 b _ hI1.out HC3.out (by have := HL.out; have := HL3.out; omega) HBY.out).mono ?_; rintro e w2 ⟨rfl, HW, HB⟩))
    first | go_end0 | ((try simp only [Exit.inBlock, Exit.then]); refine bodyPost_ret (results_none rfl _ _ _) rfl ?_)
    exact HEND.out _ _ _ (encRaw b) (by simp [encV]) rfl rfl HW HB
  have hk4 : (k == 4) = false := beq_eq_false_iff_ne.mpr e4
  have hen : Aside0 (encV ⟨k, u, n, b, l⟩ = encInts l) := ⟨by simp [encV, e0, e1, e2, e3, e4]⟩
  clear e0 e1 e2 e3 e4
  go_enter Try.func34, Try.ntmps34
  go_wp2_with (first
    | (go_at_call 29; refine (Ints_w base g bs A4 c4 l _ hI1.out HBS.out HC4.out (by have := HL.out; have := HL4.out; omega) HIN.out).mono ?_; rintro e w2 ⟨rfl, HW, HB⟩))
  first | go_end0 | ((try simp only [Exit.inBlock, Exit.then]); refine bodyPost_ret (results_none rfl _ _ _) rfl ?_)
  exact HEND.out _ _ _ (encInts l) hen.out rfl rfl HW HB

-- NOT PRINTED: function 6 (refuterlaw02_WireWrites)

/-! ### refuterlaw02_encode: function 35 -/
set_option maxHeartbeats 8000000 in
set_option maxRecDepth 100000 in
theorem encode_c (A : Option Addr) (c : Nat) (l : List S47) (w : World) (hR : Kd.C k47 w A l.length l) (hv : ∀ x ∈ l, CanV x) (hl : l.length ≤ 100) :
    Calls Try.prog 35 #[.slice A l.length c] w fun e w' => ∃ v, e = .returned v ∧ Kd.R (Kd.int .u8) 5 w' w.heap.size (fun _ => True) v (encVs l) ∧ Below w.heap.size w w' := by
  have HR := Aside0.mk hR
  have HV := Aside0.mk hv
  have HL := Aside0.mk hl
  have HW0 := Aside0.mk (WrW.new w)
  have HB0 : Aside0 (Below w.heap.size w (w.alloc (.cells #[.slice none 0 0] 26))) := ⟨below_alloc (Below.refl _ _) _⟩
  have hu := Try.underlying47
  clear hR hv hl
  go_enter Try.func35, Try.ntmps35
  go_wp2
  go_loopw [4] (fun i wr => ∃ k : Nat, k ≤ l.length ∧ i = .int .i64 k ∧ Aside0 (WrW w.heap.size wr w.heap.size (encVs (l.take k))) ∧ Aside0 (Below w.heap.size w wr)) (fun i _ => l.length - (intOf i).toNat)
  case atStart => exact ⟨0, Nat.zero_le _, rfl, ⟨by simpa [encVs] using HW0.out⟩, HB0⟩
  case round =>
    clear HW0 HB0
    obtain ⟨k, hk, rfl, HW, HB⟩ := hrel
    by_cases hlt : k < l.length
    · obtain ⟨ad, A3, c3, A4, c4, e1, hx0, hx1, hx2, hx3, hx4, l3, g3, l4, g4⟩ := at_T47 HR.out (k : Int) (by omega) (by omega)
      subst e1
      rw [Int.toNat_natCast] at hx0 hx1 hx2 hx3 hx4
      have HT := Aside0.mk (List.take_succ_eq_append_getElem hlt)
      have hr := rd_T_mem l k hlt
      rw [hr] at hx0 hx1 hx2 hx3 hx4 g3 g4
      have HC := Aside0.mk (HV.out l[k] (List.getElem_mem hlt))
      have HLK : Aside0 ((encVs (l.take k)).length + 100000 ≤ 140737488355328) := ⟨by
        have h1 := encVs_len (l.take k) (fun x hm => HV.out x (List.mem_of_mem_take hm)); have := HL.out
        rw [List.length_take] at h1; omega⟩
      clear hr l3 l4
      generalize l[k] = x at hx0 hx1 hx2 hx3 hx4 HT HC g3 g4
      have G3 : Aside0 (∀ W, Below w.heap.size wr W → Kd.C (Kd.int .u8) W A3 x.f3.length x.f3) := ⟨fun W h => Kd.C_below g3 (HB.out.trans h)⟩
      have G4 : Aside0 (∀ W, Below w.heap.size wr W → Kd.C (Kd.int .i64) W A4 x.f4.length x.f4) := ⟨fun W h => Kd.C_below g4 (HB.out.trans h)⟩
      replace hx0 := pw_cell_below HB.out hx0
      replace hx1 := pw_cell_below HB.out hx1
      replace hx2 := pw_cell_below HB.out hx2
      replace hx3 := pw_cell_below HB.out hx3
      replace hx4 := pw_cell_below HB.out hx4
      clear g3 g4
      have hk1 : wrap64 ((k : Int) + 1) = (k : Int) + 1 := by have := HL.out; unfold wrap64; omega
      go_wp2_with (first
        | (go_at_call 34; refine (write_w w.heap.size w.heap.size _ x A3 c3 A4 c4 _ HW.out HB.out.size G3.out G4.out HC.out HLK.out).mono ?_; rintro e w3 ⟨rfl, HW3, HB3⟩; have HW3 := Aside0.mk HW3; have HB3 := Aside0.mk HB3))
      exact ⟨⟨k + 1, by omega, by rw [hk1]; rfl, ⟨by rw [HT.out, encVs_snoc]; exact HW3.out⟩, ⟨HB.out.trans HB3.out⟩⟩, by rw [hk1]; simp only [intOf]; omega⟩
    · have hall : l.take k = l := List.take_of_length_le (by omega)
      rw [hall] at HW
      go_wp2_with (first
        | (go_at_call 16; refine (Done_w w.heap.size w.heap.size _ _ HW.out (by have := encVs_len l HV.out; have := HL.out; omega)).mono ?_; rintro e w4 ⟨v4, rfl, HO, HB4⟩; have HO := Aside0.mk HO; have HB4 := Aside0.mk HB4))
      go_ret
      exact ⟨_, rfl, Kd.R_lower HO.out HB.out.size, HB.out.trans (HB4.out.mono HB.out.size)⟩

/-! ### refuterlaw02_WireRound: function 7 -/
def refuterlaw02_WireRound.Pure : Prop := True
set_option maxHeartbeats 8000000 in
set_option maxRecDepth 100000 in
theorem WireRound_any (A : Option Addr) (c : Nat) (l : List Int) (u : Nat) (n : Int) (w : World) (hR : Kd.C (Kd.int .i64) w A l.length l) (hx : ∀ x ∈ l, -9223372036854775808 ≤ x ∧ x ≤ 9223372036854775807) (hu : u < 18446744073709551616) (hn : -9223372036854775808 ≤ n ∧ n ≤ 9223372036854775807) :
    Calls Try.prog 7 #[.slice A l.length c, .int .u64 (u : Int), .int .i64 n] w fun e w' => e = .returned (.bool true) ∧ Below w.heap.size w w' := by
  have HR := Aside0.mk hR
  have HX := Aside0.mk hx
  have HG2 : Aside0 (GenV (⟨0, (u : Int), 0, [], []⟩ : S47) ∧ GenV (⟨1, 0, n, [], []⟩ : S47)) := ⟨Or.inl ⟨rfl, by show (0 : Int) ≤ (u : Int); omega, by show (u : Int) < _; omega, rfl, rfl, rfl⟩, Or.inr (Or.inl ⟨rfl, rfl, hn.1, by show n < _; omega, rfl, rfl⟩)⟩
  have hut := Try.underlying47
  clear hR hx hu hn
  go_enter Try.func7, Try.ntmps7
  go_wp2_with (first
    | (go_at_call 19; refine (Vals_c A c l _ HR.out HX.out).mono ?_; rintro e w1 ⟨v1, xs, rfl, hO, hl8, hg, hB⟩; have HO1 := Aside0.mk hO; have HL8 := Aside0.mk hl8; have HG := Aside0.mk hg; have HB1 := Aside0.mk hB; clear hO hl8 hg hB)
    | ((with_reducible refine gate_builtin (b := .append) (xs := #[.tmp 11, .tmp 16]) rfl ?_); at_builtin
       refine appVs w.heap.size w1 ?hgd (.tmp 11) (.tmp 16) ?ho v1 xs [⟨0, (u : Int), 0, [], []⟩, ⟨1, 0, n, [], []⟩] [.int .i64 0, .int .u64 (u : Int), .int .i64 0, .slice none 0 0, .slice none 0 0, .int .i64 1, .int .u64 0, .int .i64 n, .slice none 0 0, .slice none 0 0] ?hs ?hx (Reps.snoc (ps := [⟨0, (u : Int), 0, [], []⟩]) (cs := [.int .i64 0, .int .u64 (u : Int), .int .i64 0, .slice none 0 0, .slice none 0 0]) (Reps.snoc (ps := []) (cs := []) (Reps.none _ _) (k47_mkM w1 w.heap.size _ ⟨0, (u : Int), 0, [], []⟩ (Kd.R_nil _ _ _ _ _) (Kd.R_nil _ _ _ _ _)) rfl) (k47_mkM w1 w.heap.size _ ⟨1, 0, n, [], []⟩ (Kd.R_nil _ _ _ _ _) (Kd.R_nil _ _ _ _ _)) rfl) HO1.out HB1.out.size (show 2 ≤ 1000 by decide) (by have := HL8.out; omega) ?_
       (case hgd => rfl)
       (case ho => rfl)
       (case hs => rfl)
       (case hx => rfl)
       intro v2 w2 HO2 HB2
       obtain ⟨all, hall⟩ : ∃ all, all = xs ++ [(⟨0, (u : Int), 0, [], []⟩ : S47), ⟨1, 0, n, [], []⟩] := ⟨_, rfl⟩
       have HGA : Aside0 (∀ x ∈ all, GenV x) := ⟨fun x hx => by
         rw [hall] at hx
         rcases List.mem_append.mp hx with h | h
         · exact HG.out x h
         · rcases List.mem_cons.mp h with h | h
           · rw [h]; exact HG2.out.1
           · rw [List.mem_singleton.mp h]; exact HG2.out.2⟩
       have HLA : Aside0 (all.length ≤ 10) := ⟨by have := HL8.out; rw [hall, List.length_append]; simp only [List.length_cons, List.length_nil]; omega⟩
       rw [← hall] at HO2
       obtain ⟨A2, c2, rfl, hlc2, hC2⟩ := Kd.R_reads HO2.out
       have HC2 := Aside0.mk hC2
       have HBW2 := Aside0.mk (HB1.out.trans HB2.out)
       clear hall HO2 HB2 HO1 HL8 HG HB1 HG2 hlc2 hC2)
    | (go_at_call 35; refine (encode_c A2 c2 all _ HC2.out (fun x hx => canV_of_gen (HGA.out x hx)) (by have := HLA.out; omega)).mono ?_; rintro e w3 ⟨v3, rfl, HO, HB⟩; obtain ⟨A3, c3, rfl, -, hn3, hC⟩ := C_row HO; have HC3 := Aside0.mk hC; have HN3 := Aside0.mk hn3; have HB3 := Aside0.mk HB; clear HO HB hC hn3)
    | (go_at_call 21; refine (Read_r A3 c3 (encVs all) _ HC3.out (by have := encVs_len all (fun x hx => canV_of_gen (HGA.out x hx)); have := HLA.out; omega) HN3.out (encVs_byte all (fun x hx => canV_of_gen (HGA.out x hx)))).mono ?_; rintro e w4 ⟨g, b, rfl, hRd, hb, hg, hB⟩; have HRD := Aside0.mk hRd; have HGG := Aside0.mk hg; have HB4 := Aside0.mk hB; clear hRd hb hg hB))
  have HB24 : Aside0 (Below w2.heap.size w2 w4) := ⟨HB3.out.trans (HB4.out.mono HB3.out.size)⟩
  have HGE : Aside0 (w2.heap.size ≤ g) := ⟨Nat.le_trans HB3.out.size HGG.out⟩
  clear HC3 HN3 HB3 HB4 HGG
  go_loopw [9] (fun v9 wr => ∃ k : Nat, v9 = .int .i64 (k : Int) ∧ k ≤ all.length ∧ Aside0 (RdW 79 b wr g (.ok (encVs (all.drop k)))) ∧ Aside0 (Keeps w4 wr g)) (fun v9 _ => all.length - (intOf v9).toNat)
  case atStart => exact ⟨0, rfl, Nat.zero_le _, HRD, ⟨Keeps.refl _ _⟩⟩
  case round =>
    clear HRD
    obtain ⟨k, rfl, hk, HRD, HK⟩ := hrel
    have hB2r : Below w2.heap.size w2 wr := HB24.out.trans (HK.out.below HB24.out.size HGE.out)
    have HB2r := Aside0.mk hB2r
    by_cases hlt : k < all.length
    · obtain ⟨ad, A5, c5, A6, c6, e1, hx0, hx1, hx2, hx3, hx4, l5, g5, l6, g6⟩ := at_T47 HC2.out (k : Int) (by omega) (by omega)
      subst e1
      rw [Int.toNat_natCast] at hx0 hx1 hx2 hx3 hx4
      have hr := rd_T_mem all k hlt
      rw [hr] at hx0 hx1 hx2 hx3 hx4 g5 g6 l5 l6
      have HGX := Aside0.mk (HGA.out all[k] (List.getElem_mem hlt))
      have hdr : encVs (all.drop k) = encV all[k] ++ encVs (all.drop (k + 1)) := by rw [List.drop_eq_getElem_cons hlt, encVs_cons]
      have HRS : Aside0 (readS all[k].f0 (.ok (encVs (all.drop k))) = (all[k], .ok (encVs (all.drop (k + 1))))) := ⟨by rw [hdr]; exact readS_enc _ HGX.out _⟩
      clear hr hdr
      generalize all[k] = x at hx0 hx1 hx2 hx3 hx4 g5 g6 l5 l6 HGX HRS
      have HXL : Aside0 (x.f3.length ≤ 5000 ∧ x.f4.length ≤ 5000) := ⟨(canV_of_gen HGX.out).2.2.2.2⟩
      have HF : Aside0 (∀ W, Below w2.heap.size w2 W → (W.cell? (ad.add (k * 5)) = some (.int .i64 x.f0) ∧ W.cell? ⟨(ad.add (k * 5)).block, (ad.add (k * 5)).off + 1, none⟩ = some (.int .u64 x.f1) ∧ W.cell? ⟨(ad.add (k * 5)).block, (ad.add (k * 5)).off + 2, none⟩ = some (.int .i64 x.f2) ∧ W.cell? ⟨(ad.add (k * 5)).block, (ad.add (k * 5)).off + 3, none⟩ = some (.slice A5 x.f3.length c5) ∧ W.cell? ⟨(ad.add (k * 5)).block, (ad.add (k * 5)).off + 4, none⟩ = some (.slice A6 x.f4.length c6)) ∧ Kd.C (Kd.int .u8) W A5 x.f3.length x.f3 ∧ Kd.C (Kd.int .i64) W A6 x.f4.length x.f4) :=
        ⟨fun W h => ⟨⟨pw_cell_below h hx0, pw_cell_below h hx1, pw_cell_below h hx2, pw_cell_below h hx3, pw_cell_below h hx4⟩, Kd.C_below g5 h, Kd.C_below g6 h⟩⟩
      have L5 := Aside0.mk l5
      have L6 := Aside0.mk l6
      clear hx0 hx1 hx2 hx3 hx4 g5 g6 l5 l6
      obtain ⟨⟨hx0, hx1, hx2, hx3, hx4⟩, -, -⟩ := HF.out wr hB2r
      have HB2d : Aside0 (Below w2.heap.size w2 wr.drew) := ⟨below_drew hB2r⟩
      have HKd : Aside0 (Keeps w4 wr.drew g) := ⟨HK.out.drewN 1⟩
      have hRd : RdW 79 b wr.drew g (.ok (encVs (all.drop k))) := HRD.out.drewN 1
      have hk1 : wrap64 ((k : Int) + 1) = (k : Int) + 1 := by have := HLA.out; unfold wrap64; omega
      clear hB2r
      go_wp2
      go_region_held3 (fun W' => W'.cell? (ad.add (k * 5)) = some (.int .i64 x.f0) ∧ W'.cell? ⟨(ad.add (k * 5)).block, (ad.add (k * 5)).off + 1, none⟩ = some (.int .u64 x.f1) ∧ W'.cell? ⟨(ad.add (k * 5)).block, (ad.add (k * 5)).off + 2, none⟩ = some (.int .i64 x.f2) ∧ W'.cell? ⟨(ad.add (k * 5)).block, (ad.add (k * 5)).off + 3, none⟩ = some (.slice A5 x.f3.length c5) ∧ W'.cell? ⟨(ad.add (k * 5)).block, (ad.add (k * 5)).off + 4, none⟩ = some (.slice A6 x.f4.length c6)) (first | exact ⟨hz0, hz1, hz2, hz3, hz4⟩ | exact ⟨hy0, hy1, hy2, hy3, hy4⟩ | exact ⟨hx0, hx1, hx2, hx3, hx4⟩) (first
        | (go_at_call 23; refine (read_one b g x.f0 x _ _ HRS.out _ (by assumption)).mono ?_; rintro e w5 ⟨A7, c7, A8, c8, rfl, l7, l8, h7, h8, hRd5, hK5⟩; have L7 := Aside0.mk l7; have L8 := Aside0.mk l8; have H7 := Aside0.mk h7; have H8 := Aside0.mk h8; have HRD5 := Aside0.mk hRd5; have HK5 := Aside0.mk hK5; have hB5 := HB2d.out.trans (hK5.below HB2d.out.size HGE.out); obtain ⟨⟨hy0, hy1, hy2, hy3, hy4⟩, g5, g6⟩ := HF.out w5 hB5; have G5 := Aside0.mk g5; have G6 := Aside0.mk g6; clear l7 l8 h7 h8 hRd5 hK5 hB5 g5 g6)
        | (go_at_call 22; refine (same_c x (by have := HXL.out; omega) (by have := HXL.out; omega) A7 c7 A8 c8 A5 c5 A6 c6 _ (H7.out _ (NewP.refl _ _)) L7.out (H8.out _ (NewP.refl _ _)) L8.out G5.out L5.out G6.out L6.out).mono ?_; rintro e w6 ⟨rfl, hB6⟩; have HB6 := Aside0.mk hB6; have hz0 := pw_cell_below hB6 hy0; have hz1 := pw_cell_below hB6 hy1; have hz2 := pw_cell_below hB6 hy2; have hz3 := pw_cell_below hB6 hy3; have hz4 := pw_cell_below hB6 hy4; clear hB6))
      all_goals
        go_wp2
        exact ⟨⟨k + 1, by first | (rw [hk1]; rfl) | rfl, by omega, ⟨HRD5.out.below HB6.out⟩, ⟨(HKd.out.trans HK5.out).belowB (HB6.out.mono (Nat.le_trans HKd.out.keep.1 HK5.out.keep.1))⟩⟩, by first | (rw [hk1]; simp only [intOf]; omega) | (simp only [intOf]; omega)⟩
    · have hd : all.drop k = [] := List.drop_eq_nil_of_le (by omega)
      have HRE : Aside0 (RdW 79 b wr g (.ok [])) := ⟨by have h := HRD.out; rw [hd] at h; exact h⟩
      clear hd hB2r HRD
      have HLV := fun W => refuterlaw02_lives.calls true W rfl
      go_wp2_with (first
        | (go_at_call 25; refine (End_r' (st := .ok []) (n := 0) rfl _ HRE.out).mono ?_; rintro e w5 ⟨rfl, hd⟩; have HB5 := Aside0.mk (HB2r.out.trans (hd.below.mono HB2r.out.size)); clear hd)
        | (go_at_call 17; refine (HLV _).mono ?_; rintro e w6 ⟨rfl, HB⟩; have HB6 := Aside0.mk (HB5.out.trans (HB.mono HB5.out.size)); clear HB))
      go_ret
      exact ⟨rfl, HBW2.out.trans (HB6.out.mono HBW2.out.size)⟩
theorem refuterlaw02_WireRound.walk (P : refuterlaw02_WireRound.Pure) (a0 : Option Addr) (len0 cap0 : Nat) (z0 : List Int) (a1 : Int) (a2 : Int) (w : World) (w0 : (a0 = none ∧ len0 = 0 ∧ cap0 = 0 ∧ z0 = []) ∨ ∃ x, a0 = some x ∧ len0 ≤ cap0 ∧ cap0 ≤ maxLen ∧ z0.length = cap0 ∧ (∀ i, i < z0.length → w.cell? (x.add i) = some (.int .i64 (z0.getD i 0))) ∧ ∀ n ∈ z0, (Lit.int .i64 n).wf = true) (_y0 : len0 * 8 ≤ 140737488351232) (w1 : (Lit.int .u64 a1).wf = true) (w2 : (Lit.int .i64 a2).wf = true) :
    Calls Try.prog 7 #[.slice a0 len0 cap0, .int .u64 a1, .int .i64 a2] w fun e w' => e = .returned (.bool true) ∧ Below w.heap.size w w' := by
  obtain ⟨l, rfl, hr0, hm0, hw0, hc0⟩ := ReadsInt.ofRowC w0
  have h := bounds_u64 w1
  have h2 := bounds_i64 w2
  obtain ⟨n, rfl⟩ := Int.eq_ofNat_of_zero_le h.1
  exact WireRound_any _ _ l n a2 w (Kd.C_of_reads (d := (0 : Int)) (h1 := fun _ => rfl) hr0) (wf_all hw0) (by omega) (by omega)

/-! ### refuterlaw02_WireOne: function 8 -/
def refuterlaw02_WireOne.Pure : Prop := True
/-- A value's cells in a row of the law's own; what its slices lead to lies in blocks of its own, which nothing turns. -/
def GotE (base : Nat) (W : World) (own : Option Nat) (x : S47) (cs : List Value) : Prop :=
  ∃ A3 c3 A4 c4, cs = [.int .i64 x.f0, .int .u64 x.f1, .int .i64 x.f2, .slice A3 x.f3.length c3, .slice A4 x.f4.length c4] ∧ x.f3.length ≤ c3 ∧ x.f4.length ≤ c4 ∧
    ∃ P : Nat → Prop, (∀ k, P k → base ≤ k ∧ k < W.heap.size ∧ some k ≠ own) ∧ (∀ W', W.heap.size ≤ W'.heap.size → (∀ k, P k → W'.heap[k]? = W.heap[k]?) → Kd.C (Kd.int .u8) W' A3 x.f3.length x.f3 ∧ Kd.C (Kd.int .i64) W' A4 x.f4.length x.f4)
theorem GotE_move {base : Nat} {W W' : World} {own own' : Option Nat} {x : S47} {cs : List Value} (h : GotE base W own x cs) (hs : W.heap.size ≤ W'.heap.size) (hb : ∀ k, base ≤ k → k < W.heap.size → some k ≠ own → W'.heap[k]? = W.heap[k]?) (ho : ∀ k, k < W.heap.size → some k ≠ own → some k ≠ own') : GotE base W' own' x cs := by
  obtain ⟨A3, c3, A4, c4, e, h3, h4, P, hP, hC⟩ := h
  refine ⟨A3, c3, A4, c4, e, h3, h4, P, fun k hk => ⟨(hP k hk).1, Nat.lt_of_lt_of_le (hP k hk).2.1 hs, ho k (hP k hk).2.1 (hP k hk).2.2⟩, fun W2 h2 hk2 => hC W2 (Nat.le_trans hs h2) (fun k hk => ?_)⟩
  exact (hk2 k hk).trans (hb k (hP k hk).1 (hP k hk).2.1 (hP k hk).2.2)
def GotR (base : Nat) (W : World) (v : Value) (gs : List S47) : Prop := ∃ inner, W.ownsRow base 47 5 v gs.length inner ∧ Reps (GotE base W v.ownBlock) 5 gs inner
theorem GotR_nil (base : Nat) (W : World) : GotR base W (.slice none 0 0) [] := ⟨[], own_nil _ _ _ _, Reps.none _ _⟩
theorem GotR_newP {base : Nat} {W W' : World} {v : Value} {gs : List S47} (h : GotR base W v gs) (hn : NewP base W W') : GotR base W' v gs := by
  obtain ⟨inner, ho, hr⟩ := h
  exact ⟨inner, own_move ho (fun k hk => hn.2 k (own_base ho k hk) (own_lt ho k hk)), hr.imp_ (fun x cs hx => GotE_move hx hn.1 (fun k h1 h2 _ => hn.2 k h1 h2) (fun k _ hk => hk))⟩
theorem GotR_C {base : Nat} {W : World} {v : Value} {gs : List S47} (h : GotR base W v gs) : ∃ A c, v = .slice A gs.length c ∧ Kd.C k47 W A gs.length gs := by
  obtain ⟨inner, ho, hr⟩ := h
  obtain ⟨A, c, e, hR⟩ := own_reads_row ho hr rfl
  refine ⟨A, c, e, ReadsRow.imp_ hR (Below.refl _ _) (fun x cs hx => ?_)⟩
  obtain ⟨A3, c3, A4, c4, rfl, h3, h4, P, hP, hC⟩ := hx
  have := hC W (Nat.le_refl _) (fun _ _ => rfl)
  exact k47_mk W x h3 this.1 h4 this.2
theorem GotR_slice {base : Nat} {W : World} {v : Value} {gs : List S47} (h : GotR base W v gs) : ∃ A c, v = .slice A gs.length c := by
  obtain ⟨A, c, e, -⟩ := GotR_C h
  exact ⟨A, c, e⟩
section
variable {ops : Array Oper} {rest : List Oper} {o : Oper} {a : Act} {Q : Exit → Act → World → Prop}
/-- got = append(got, read(..)), behind 'at_builtin': B is the heap's size at the call of read, wr the world behind it. -/
theorem appGot (base B : Nat) (wr : World) (hgd : o.guard = none) (s y : Operand) (ho : o.op = .call { callee := .builtin .append, args := #[s, y], argTypes := #[35, 35] })
    (v : Value) (gs : List S47) (x : S47) (A3 : Option Addr) (c3 : Nat) (A4 : Option Addr) (c4 : Nat) (hs : a.eval s = v) (hy : a.eval y = .slice (some ⟨wr.heap.size, 0, none⟩) 1 1)
    (hG : GotR base wr v gs) (hB : base ≤ B) (hBs : B ≤ wr.heap.size) (hv : ∀ k, v.ownBlock = some k → k < B) (l3 : x.f3.length ≤ c3) (l4 : x.f4.length ≤ c4) (h3 : ∀ W, NewP B wr W → Kd.C (Kd.int .u8) W A3 x.f3.length x.f3) (h4 : ∀ W, NewP B wr W → Kd.C (Kd.int .i64) W A4 x.f4.length x.f4) (hl : gs.length ≤ 1000)
    (h : ∀ v1 w1, Aside0 (GotR base w1 v1 (gs ++ [x])) → Aside0 (Below base wr w1) → wpList Try.prog ops Q rest (a.put o.dst v1) w1) :
    wpList Try.prog ops Q (o :: rest) a (wr.alloc (.cells #[.int .i64 x.f0, .int .u64 x.f1, .int .i64 x.f2, .slice A3 x.f3.length c3, .slice A4 x.f4.length c4] 47)) := by
  obtain ⟨inner, hown, hr⟩ := hG
  refine print_append_cells (w0 := wr) base hgd s y 35 47 (.agg #[(.int .i64 0), (.int .u64 0), (.int .i64 0), (.slice none 0 0), (.slice none 0 0)]) 5 72 ho Try.underlying35 infoV rfl (by decide) (by omega) v gs.length inner [.int .i64 x.f0, .int .u64 x.f1, .int .i64 x.f2, .slice A3 x.f3.length c3, .slice A4 x.f4.length c4] hs hy rfl
    (fun u hu => by simp only [List.mem_cons, List.not_mem_nil, or_false] at hu; rcases hu with rfl | rfl | rfl | rfl | rfl <;> rfl) hown (Below.refl _ _) (by omega) (by omega) ?_
  intro v1 w1 hown1 hb1 hg1 hat
  have hne : ∀ k, k < wr.heap.size → some k ≠ v.ownBlock → some k ≠ v1.ownBlock := by
    intro k hk hn e
    rcases hat with h1 | ⟨b, h1, h2⟩
    · exact hn (e.trans h1)
    · rw [h1] at e; injection e with e; omega
  have hold : Reps (GotE base w1 v1.ownBlock) 5 gs inner := hr.imp_ (fun q cs hq => GotE_move hq hg1.size (fun k _ h2 h3 => hg1.block k h2 h3) hne)
  have hnew : GotE base w1 v1.ownBlock x [.int .i64 x.f0, .int .u64 x.f1, .int .i64 x.f2, .slice A3 x.f3.length c3, .slice A4 x.f4.length c4] := by
    have hw : GotE base wr v.ownBlock x [.int .i64 x.f0, .int .u64 x.f1, .int .i64 x.f2, .slice A3 x.f3.length c3, .slice A4 x.f4.length c4] :=
      ⟨A3, c3, A4, c4, rfl, l3, l4, fun k => B ≤ k ∧ k < wr.heap.size, fun k hk => ⟨by omega, hk.2, fun e => by have := hv k e.symm; omega⟩, fun W' h1 h2 => ⟨h3 W' ⟨h1, fun k h5 h6 => h2 k ⟨h5, h6⟩⟩, h4 W' ⟨h1, fun k h5 h6 => h2 k ⟨h5, h6⟩⟩⟩⟩
    exact GotE_move hw hg1.size (fun k _ h2 h3 => hg1.block k h2 h3) hne
  refine h v1 w1 ⟨inner ++ [.int .i64 x.f0, .int .u64 x.f1, .int .i64 x.f2, .slice A3 x.f3.length c3, .slice A4 x.f4.length c4], ?_, hold.snoc hnew rfl⟩ ⟨hb1⟩
  rw [List.length_append, List.length_singleton]
  exact hown1
end
/-- The values read so far, and the reader's state: their bytes stand before what is left. -/
def One (T : List Int) (gs : List S47) (st : St) : Prop := (∃ r, st = .ok r ∧ T = encVs gs ++ r ∧ ∀ x ∈ gs, CanV x) ∨ ∃ e, st = .err e
theorem One_step (T : List Int) (gs : List S47) (st : St) (k : Int) (hk : 0 ≤ k ∧ k < 6) (hT : ∀ y ∈ T, 0 ≤ y ∧ y < 256) (hl : T.length ≤ 5000) (h : One T gs st) : One T (gs ++ [(readS k st).1]) (readS k st).2 := by
  rcases h with ⟨r, rfl, hT2, hC⟩ | ⟨e, rfl⟩
  · cases hr : readS k (.ok r) with
    | mk x st' =>
      cases st' with
      | err e => exact Or.inr ⟨e, rfl⟩
      | ok r' =>
        have hlr : r.length ≤ 5000 := by rw [hT2, List.length_append] at hl; omega
        obtain ⟨hb, hcan⟩ := readS_back k r r' x hk (fun y hy => hT y (by rw [hT2]; exact List.mem_append_right _ hy)) hlr hr
        refine Or.inl ⟨r', rfl, by rw [encVs_snoc, List.append_assoc, ← hb]; exact hT2, fun y hy => ?_⟩
        rcases List.mem_append.mp hy with h | h
        · exact hC y h
        · rw [List.mem_singleton.mp h]; exact hcan
  · rw [readS_err]; exact Or.inr ⟨e, rfl⟩
theorem One_end {T : List Int} {gs : List S47} {b : Rb} {g : Nat} {W : World} {st : St} (h : One T gs st) (hR : RdW 79 b W g st) (he : endS st = 0) : T = encVs gs ∧ ∀ x ∈ gs, CanV x := by
  rcases h with ⟨r, rfl, hT, hC⟩ | ⟨e, rfl⟩
  · cases r with
    | nil => rw [List.append_nil] at hT; exact ⟨hT, hC⟩
    | cons a r => simp [endS] at he
  · obtain ⟨e', -, h1, h2⟩ := hR.cells
    exact absurd he h2
theorem fewT (l : List Int) : refuterref01_Few.f l 60 = some (l.take 60) := by
  unfold refuterref01_Few.f
  have h1 : 0 ≤ mn (l.length : Int) 60 ∧ mn (l.length : Int) 60 ≤ (l.length : Int) ∧ mn (l.length : Int) 60 ≤ 60 ∧ (mn (l.length : Int) 60 = (l.length : Int) ∨ mn (l.length : Int) 60 = 60) := by unfold mn; split <;> omega
  obtain ⟨h1, h2, h3, h4⟩ := h1
  have ht : l.take (mn (l.length : Int) 60).toNat = l.take 60 := by
    rcases h4 with e | e
    · rw [e, Int.toNat_natCast, List.take_of_length_le (Nat.le_refl _), List.take_of_length_le (by omega)]
    · rw [e]; rfl
  rw [if_pos h1, if_pos h2, ht, if_pos (by simp only [List.length_nil, List.length_take]; omega)]
  rfl
set_option maxHeartbeats 16000000 in
set_option maxRecDepth 100000 in
theorem WireOne_any (A0 : Option Addr) (c0 : Nat) (raw : List Int) (A1 : Option Addr) (c1 : Nat) (l : List Int) (at_ cb : Int) (A4 : Option Addr) (c4 : Nat) (kinds : List Int) (w : World)
    (hR0 : Kd.C (Kd.int .u8) w A0 raw.length raw) (hc0 : raw.length ≤ c0) (hb0 : ∀ x ∈ raw, 0 ≤ x ∧ x < 256) (hR1 : Kd.C (Kd.int .i64) w A1 l.length l) (hx1 : ∀ x ∈ l, -9223372036854775808 ≤ x ∧ x ≤ 9223372036854775807) (hat : -9223372036854775808 ≤ at_ ∧ at_ ≤ 9223372036854775807) (hcb : 0 ≤ cb ∧ cb < 256)
    (hR4 : Kd.C (Kd.int .i64) w A4 kinds.length kinds) (hx4 : ∀ x ∈ kinds, -9223372036854775808 ≤ x ∧ x ≤ 9223372036854775807) :
    Calls Try.prog 8 #[.slice A0 raw.length c0, .slice A1 l.length c1, .int .i64 at_, .int .u8 cb, .slice A4 kinds.length c4] w fun e w' => e = .returned (.bool true) ∧ Below w.heap.size w w' := by
  have HR0 := Aside0.mk hR0
  have HC0 := Aside0.mk hc0
  have HY0 := Aside0.mk hb0
  have HR1 := Aside0.mk hR1
  have HX1 := Aside0.mk hx1
  have HAT := Aside0.mk hat
  have HCB := Aside0.mk hcb
  have HR4 := Aside0.mk hR4
  have HX4 := Aside0.mk hx4
  have hut := Try.underlying47
  have HLV := Aside0.mk (fun W => refuterlaw02_lives.calls true W rfl)
  clear hR0 hc0 hb0 hR1 hx1 hat hcb hR4 hx4
  go_enter Try.func8, Try.ntmps8
  go_wp2_with (first
    | (go_at_call 19; refine (Vals_c A1 c1 l _ HR1.out HX1.out).mono ?_; rintro e w1 ⟨v1, xs, rfl, hO, hl8, hg, hB⟩; obtain ⟨A2, c2, rfl, -, hC⟩ := Kd.R_reads hO; have HC1 := Aside0.mk hC; have HL8 := Aside0.mk hl8; have HGA := Aside0.mk hg; have HB1 := Aside0.mk hB; clear hO hl8 hg hB hC))
  have HENC : Aside0 (∀ W, Kd.C k47 W A2 xs.length xs → Calls Try.prog 35 #[.slice A2 xs.length c2] W fun e w' => ∃ v, e = .returned v ∧ Kd.R (Kd.int .u8) 5 w' W.heap.size (fun _ => True) v (encVs xs) ∧ Below W.heap.size W w') := ⟨fun W h => encode_c A2 c2 xs W h (fun x hx => canV_of_gen (HGA.out x hx)) (by have := HL8.out; omega)⟩
  have HBY : Aside0 (∀ y ∈ encVs xs, 0 ≤ y ∧ y < 256) := ⟨encVs_byte xs (fun x hx => canV_of_gen (HGA.out x hx))⟩
  have HLEN : Aside0 ((encVs xs).length ≤ 1600) := ⟨by have := encVs_small xs HGA.out; have := HL8.out; omega⟩
  generalize encVs xs = bs at HENC HBY HLEN
  by_cases hz : bs = []
  case' pos =>
    subst hz
    obtain ⟨T, hTe⟩ : ∃ T : List Int, T = [] := ⟨_, rfl⟩
    rw [← hTe] at HENC
    have HTB : Aside0 (∀ y ∈ T, 0 ≤ y ∧ y < 256) := ⟨by rw [hTe]; exact fun y hy => nomatch hy⟩
    have HTL : Aside0 (T.length ≤ 1600) := ⟨by rw [hTe]; decide⟩
    have hT0 : decide ((0 : Int) < (T.length : Int)) = false := decide_eq_false (by rw [hTe]; decide)
    have hT0n : decide (0 < T.length) = false := decide_eq_false (by rw [hTe]; decide)
    clear hTe HBY HLEN
    go_wp2_with (first
      | (go_at_call 35; refine (HENC.out _ HC1.out).mono ?_; rintro e w4 ⟨v2, rfl, HO, HB⟩; obtain ⟨A3, c3, rfl, hlc2, hn2, hC⟩ := C_row HO; have HC3 := Aside0.mk hC; have HN3 := Aside0.mk hn2; have HLC3 := Aside0.mk hlc2; have HB14 := Aside0.mk HB; clear HO HB hC hn2 hlc2))
    clear hT0 hT0n
  case' neg =>
    have hpos : 0 < bs.length := List.length_pos_iff.mpr hz
    have hlen := HLEN.out
    obtain ⟨s, hs, hsf⟩ := aroundV at_ (bs.length : Int) (by omega) HAT.out
    have HSF := Aside0.mk hsf
    have hsn : s < bs.length := by omega
    clear hz hsf
    have HTS : Aside0 ((bs.set s cb).length = bs.length ∧ ∀ y ∈ bs.set s cb, 0 ≤ y ∧ y < 256) := ⟨List.length_set, fun y hy => by rcases List.mem_or_eq_of_mem_set hy with h | rfl; exact HBY.out y h; exact HCB.out⟩
    go_wp2_with (first
      | (go_at_call 35; refine (HENC.out _ HC1.out).mono ?_; rintro e w2 ⟨v2, rfl, HO, HB⟩; obtain ⟨gb, c3, rfl, hgb, hgl, -⟩ := Kd.R_form HO hpos; have HO2 := Aside0.mk HO; have HB12 := Aside0.mk HB; have HGB := Aside0.mk hgb; clear HO HB hgb hgl)
      | (go_at_call 11; refine (refuterref01_Around.calls at_ (bs.length : Int) (s : Int) _ HSF.out).mono ?_; rintro e w3 ⟨rfl, hd⟩; have HO3 := Aside0.mk (Kd.R_below HO2.out hd.below); have HB13 := Aside0.mk (HB12.out.trans (hd.below.mono HB12.out.size)); obtain ⟨hcx, hcf⟩ := Kd.R_celln (d := 0) HO3.out (s : Int) (by omega) (by omega); rw [Int.toNat_natCast] at hcx hcf; have HP3 := Aside0.mk (Kd.R_putg HO3.out (s : Int) cb).1; clear hd HO2))
    rw [Int.toNat_natCast] at HP3
    obtain ⟨w4, hw4⟩ : ∃ w4, w4 = w3.setCell ⟨gb, s, none⟩ (.int .u8 cb) := ⟨_, rfl⟩
    rw [← hw4] at HP3
    rw [← hw4]
    have HB14 : Aside0 (Below w1.heap.size w1 w4) := ⟨by rw [hw4]; exact HB13.out.setCell (p := ⟨gb, s, none⟩) HGB.out _⟩
    obtain ⟨A3, c3', hee, hlc, hn3, hC⟩ := C_row HP3.out
    have HC3 := Aside0.mk hC
    have HN3 := Aside0.mk hn3
    have HLC3 := Aside0.mk hlc
    injection hee with he1 he2 he3
    subst he1 he3
    rw [← HTS.out.1]
    have HTB : Aside0 (∀ y ∈ bs.set s cb, 0 ≤ y ∧ y < 256) := ⟨HTS.out.2⟩
    have HTL : Aside0 ((bs.set s cb).length ≤ 1600) := ⟨by rw [HTS.out.1]; exact HLEN.out⟩
    clear hw4 hcx hcf HP3 HO3 HB13 HB12 HGB he2 hC hn3 hlc HTS HSF hsn hs hpos hlen HENC HBY HLEN
    generalize bs.set s cb = T at HC3 HN3 HLC3 HTB HTL ⊢
    generalize (some (⟨gb, 0, none⟩ : Addr)) = A3 at HC3 HN3 ⊢
  all_goals
    have HRA : Aside0 (∀ W, Below w4.heap.size w4 W → Kd.C (Kd.int .u8) W A3 T.length T) := ⟨fun W h => Kd.C_below HC3.out h⟩
    have hrd0 := Read_r A3 c3 T w4 HC3.out (by have := HTL.out; omega) HN3.out HTB.out
    refine hrd0.mono ?_
    clear hrd0
    rintro e w5 ⟨g, b, rfl, hRd, hb, hg, hB⟩
    have HRD := Aside0.mk hRd
    have HB45 := Aside0.mk hB
    have HB15 := Aside0.mk (HB14.out.trans (hB.mono HB14.out.size))
    have HGL := Aside0.mk hRd.lt
    have HGW : Aside0 (w4.heap.size ≤ g) := ⟨hg⟩
    have HPB : Aside0 (∀ j, b.P j → j < w5.heap.size) := ⟨fun j hj => (hRd.1 j hj).2⟩
    clear hRd hb hg hB HC3 HN3
    go_wp2
    go_loopw [14, 15] (fun v14 v15 wr => ∃ (k : Nat) (gs : List S47) (st : St), v15 = .int .i64 (k : Int) ∧ k ≤ xs.length ∧ gs.length = k ∧ Aside0 (GotR w5.heap.size wr v14 gs) ∧ Aside0 (One T gs st) ∧ Aside0 (RdW 79 b wr g st) ∧ Aside0 (Below w4.heap.size w4 wr) ∧ Aside0 (w5.heap.size ≤ wr.heap.size)) (fun _ v15 _ => xs.length - (intOf v15).toNat)
    case atStart => exact ⟨0, [], .ok T, rfl, Nat.zero_le _, rfl, ⟨GotR_nil _ _⟩, ⟨Or.inl ⟨T, rfl, rfl, fun x hx => nomatch hx⟩⟩, HRD, HB45, ⟨Nat.le_refl _⟩⟩
    case round =>
      clear HRD HB45 HB15
      obtain ⟨k, gs, st, rfl, hk, hgl, HGOT, HONE, HRD, HBR, HSZ⟩ := hrel
      have HGK := Aside0.mk hgl
      have HB1r := Aside0.mk (HB14.out.trans (HBR.out.mono HB14.out.size))
      clear hgl
      by_cases hlt : k < xs.length
      · obtain ⟨ad, A7, c7, A8, c8, e1, hx0, -⟩ := at_T47 HC1.out (k : Int) (by omega) (by omega)
        subst e1
        rw [Int.toNat_natCast, rd_T_mem xs k hlt] at hx0
        have HGX := HGA.out xs[k] (List.getElem_mem hlt)
        have hkr : 0 ≤ xs[k].f0 ∧ xs[k].f0 < 6 := by
          unfold GenV at HGX
          omega
        have HON := Aside0.mk (One_step T gs st xs[k].f0 hkr HTB.out (by have := HTL.out; omega) HONE.out)
        clear HGX hkr
        generalize xs[k] = x at hx0 HON
        have hcw := pw_cell_below HB1r.out hx0
        have hk1 : wrap64 ((k : Int) + 1) = (k : Int) + 1 := by have := HL8.out; unfold wrap64; omega
        generalize hrx : readS x.f0 st = rx at HON
        obtain ⟨y, st'⟩ := rx
        have HRX := Aside0.mk hrx
        obtain ⟨inn, hown, -⟩ := HGOT.out
        have HOL := Aside0.mk (own_lt hown)
        obtain ⟨A9, c9, rfl⟩ := GotR_slice HGOT.out
        clear hx0 hrx hown
        go_wp2_with (first
          | (go_at_call 23; refine (read_one b g x.f0 y st st' HRX.out _ HRD.out).mono ?_; rintro e w8 ⟨A10, c10, A11, c11, rfl, l10, l11, h10, h11, hRd, hK⟩; have L10 := Aside0.mk l10; have L11 := Aside0.mk l11; have H10 := Aside0.mk h10; have H11 := Aside0.mk h11; have HRD8 := Aside0.mk hRd; have HK8 := Aside0.mk hK; clear l10 l11 h10 h11 hRd hK)
          | ((with_reducible refine gate_builtin (b := .append) (xs := #[.tmp 42, .tmp 50]) rfl ?_); at_builtin
             refine appGot w5.heap.size wr.heap.size w8 rfl (.tmp 42) (.tmp 50) rfl (.slice A9 gs.length c9) gs y A10 c10 A11 c11 rfl rfl (GotR_newP HGOT.out (NewP.of_keeps HK8.out HGL.out)) HSZ.out HK8.out.keep.1 HOL.out L10.out L11.out H10.out H11.out (by have := HGK.out; have := HL8.out; omega) ?_
             intro v12 w9 HGOT9 HB9
             obtain ⟨A12, c12, rfl⟩ := GotR_slice HGOT9.out
             have HGL9 : Aside0 ((gs ++ [y]).length = k + 1) := ⟨by rw [List.length_append, HGK.out]; rfl⟩
             generalize gs ++ [y] = gs' at HGOT9 HON HGL9 ⊢))
        exact ⟨⟨k + 1, gs', st', by first | (rw [hk1]; rfl) | rfl, by omega, HGL9.out, HGOT9, HON, ⟨HRD8.out.belowB HB9.out HGL.out HPB.out⟩, ⟨(HBR.out.trans (HK8.out.below HBR.out.size HGW.out)).trans (HB9.out.mono (Nat.le_trans HGW.out (Nat.le_of_lt HGL.out)))⟩, ⟨Nat.le_trans HSZ.out (Nat.le_trans HK8.out.keep.1 HB9.out.size)⟩⟩, by first | (rw [hk1]; simp only [intOf]; omega) | (simp only [intOf]; omega)⟩
      · obtain ⟨m, hm⟩ : ∃ m, endS st = m := ⟨_, rfl⟩
        have HM := Aside0.mk hm
        have HFT := fewT raw
        have HFEW := Aside0.mk HFT
        clear hm HFT
        by_cases hm0 : m = 0
        case' pos =>
          subst hm0
          have hoe := One_end HONE.out HRD.out HM.out
          obtain ⟨A9, c9, rfl, hCg⟩ := GotR_C HGOT.out
          have HCG := Aside0.mk hCg
          have HCAN := Aside0.mk hoe.2
          have HTE := Aside0.mk hoe.1
          have HL100 : Aside0 (gs.length ≤ 100) := ⟨by have := HGK.out; have := HL8.out; omega⟩
          have HTL1 := Aside0.mk (Nat.le_trans HTL.out (show 1600 ≤ 1000000000000 by decide))
          clear hoe hCg
          go_wp2_with (first
            | (go_at_call 25; refine (End_r' HM.out _ HRD.out).mono ?_; rintro e w10 ⟨rfl, hd⟩; have HC10 := Aside0.mk (Kd.C_below HCG.out hd.below); have HB10 := Aside0.mk (HBR.out.trans (hd.below.mono HBR.out.size)); clear hd)
            | (go_at_call 35; refine (encode_c A9 c9 gs _ HC10.out HCAN.out HL100.out).mono ?_; rintro e w11 ⟨v11, rfl, HO, HB⟩; rw [← HTE.out] at HO; obtain ⟨A13, c13, rfl, hlc, -, hC⟩ := C_row HO; have HC11 := Aside0.mk hC; have HLC11 := Aside0.mk hlc; have HB11 := Aside0.mk (HB10.out.trans (HB.mono HB10.out.size)); clear HO HB hlc hC)
            | (go_at_call 30; refine (sameBytes02_calls T HTL1.out A13 c13 A3 c3 _ HC11.out HLC11.out (HRA.out _ HB11.out) HLC3.out).mono ?_; rintro e wz ⟨rfl, hd⟩; have HBZ := Aside0.mk (HB11.out.trans (hd.below.mono HB11.out.size)); clear hd))
          clear HCG HCAN HTE HL100 HTL1 HC10 HB10 HC11 HLC11 HB11
        case' neg =>
          have hm1 : (m == 0) = false := beq_eq_false_iff_ne.mpr hm0
          clear hm0
          go_wp2_with (first
            | (go_at_call 25; refine (End_r' HM.out _ HRD.out).mono ?_; rintro e wz ⟨rfl, hd⟩; have HBZ := Aside0.mk (HBR.out.trans (hd.below.mono HBR.out.size)); clear hd))
          clear hm1
        all_goals
          have HBWZ := Aside0.mk (HB1.out.trans ((HB14.out.trans (HBZ.out.mono HB14.out.size)).mono HB1.out.size))
          clear HGOT HONE HRD HBR HSZ HGK HM HB1r HBZ
          refine (refuterref01_Few.calls A0 c0 raw 60 (raw.take 60) wz (Kd.C_below HR0.out HBWZ.out) HC0.out HFEW.out).mono ?_
          rintro e w20 ⟨v20, rfl, hO, hB⟩
          have HFB : Aside0 (∀ y ∈ raw.take 60, 0 ≤ y ∧ y < 256) := ⟨fun y hy => HY0.out y (List.mem_of_mem_take hy)⟩
          have HFL : Aside0 ((raw.take 60).length ≤ 60) := ⟨by rw [List.length_take]; omega⟩
          generalize raw.take 60 = F at hO HFB HFL
          obtain ⟨A20, c20, rfl, hlc20, hn20, hC20⟩ := C_row hO
          have HC20 := Aside0.mk hC20
          have HN20 := Aside0.mk hn20
          have HLC20 := Aside0.mk hlc20
          have HB20 := Aside0.mk (HBWZ.out.trans (hB.mono HBWZ.out.size))
          clear hO hB hC20 hn20 hlc20 HFEW
          go_wp2_with (first
            | (go_at_call 21; refine (Read_r A20 c20 F _ HC20.out (by have := HFL.out; omega) HN20.out HFB.out).mono ?_; rintro e w21 ⟨g2, b2, rfl, hRd, hb, hg, hB⟩; have HRD := Aside0.mk hRd; have HGL2 := Aside0.mk hRd.lt; have HPB2 : Aside0 (∀ j, b2.P j → j < w21.heap.size) := (Aside0.mk (fun j hj => (hRd.1 j hj).2)); have HGW2 : Aside0 (w20.heap.size ≤ g2) := (Aside0.mk hg); have HB21 := Aside0.mk hB; clear hRd hb hg hB))
          go_loopw [14, 17] (fun v14 v17 wr => ∃ (k : Nat) (gs : List S47) (st : St), v17 = .int .i64 (k : Int) ∧ k ≤ kinds.length ∧ k ≤ 10 ∧ gs.length = k ∧ Aside0 (GotR w21.heap.size wr v14 gs) ∧ Aside0 (One F gs st) ∧ Aside0 (RdW 79 b2 wr g2 st) ∧ Aside0 (Below w20.heap.size w20 wr) ∧ Aside0 (w21.heap.size ≤ wr.heap.size)) (fun _ v17 _ => 10 - (intOf v17).toNat)
          case atStart => exact ⟨0, [], .ok F, rfl, Nat.zero_le _, by omega, rfl, ⟨GotR_nil _ _⟩, ⟨Or.inl ⟨F, rfl, rfl, fun x hx => nomatch hx⟩⟩, HRD, HB21, ⟨Nat.le_refl _⟩⟩
          case round =>
            clear HRD HB21
            obtain ⟨k2, gs, st, rfl, hk2, hk10, hgl, HGOT, HONE, HRD, HBR, HSZ⟩ := hrel
            have HGK := Aside0.mk hgl
            have HBWr := Aside0.mk (HB20.out.trans (HBR.out.mono HB20.out.size))
            obtain ⟨m, hm⟩ : ∃ m, endS st = m := ⟨_, rfl⟩
            have HM := Aside0.mk hm
            clear hgl hm
            by_cases hbody : k2 < kinds.length ∧ k2 < 10 ∧ m ≠ 0
            · obtain ⟨hlt2, hlt10, hm0⟩ := hbody
              have hm1 : (m != 0) = true := bne_iff_ne.mpr hm0
              obtain ⟨ad, e1, hx⟩ := Kd.at_int (Kd.C_below HR4.out HBWr.out) (k2 : Int) (by omega) (by omega)
              obtain rfl : A4 = some ad := e1
              rw [Int.toNat_natCast] at hx
              have hr : rd kinds (k2 : Int) = kinds[k2] := by unfold rd; simp [hlt2]
              rw [hr] at hx
              have hxr := HX4.out kinds[k2] (List.getElem_mem hlt2)
              generalize kinds[k2] = q at hx hxr
              obtain ⟨kd, hkd, hkf⟩ := aroundV q 6 (by omega) hxr
              have HKF := Aside0.mk hkf
              have HON := Aside0.mk (One_step F gs st (kd : Int) ⟨by omega, hkd⟩ HFB.out (by have := HFL.out; omega) HONE.out)
              generalize hrx : readS (kd : Int) st = rx at HON
              obtain ⟨y, st'⟩ := rx
              have HRX := Aside0.mk hrx
              obtain ⟨inn, hown, -⟩ := HGOT.out
              have HOL := Aside0.mk (own_lt hown)
              obtain ⟨A9, c9, rfl⟩ := GotR_slice HGOT.out
              have hk1 : wrap64 ((k2 : Int) + 1) = (k2 : Int) + 1 := by unfold wrap64; omega
              have hd1 : decide ((k2 : Int) < (kinds.length : Int)) = true := decide_eq_true (by omega)
              have hd2 : decide ((k2 : Int) < 10) = true := decide_eq_true (by omega)
              clear hr hxr hkf hrx hown hm0 hkd
              go_wp2_with (first
                | (go_at_call 25; refine (End_r' HM.out _ HRD.out).mono ?_; rintro e w30 ⟨rfl, hd⟩; have hx30 := pw_cell_below hd.below hx; have HRD30 := Aside0.mk (HRD.out.below hd.below); have HG30 := Aside0.mk (GotR_newP HGOT.out (NewP.of_below hd.below)); have HBR30 := Aside0.mk (HBR.out.trans (hd.below.mono HBR.out.size)); have HSZ30 := Aside0.mk (Nat.le_trans HSZ.out hd.below.size); have HOL30 : Aside0 (∀ j, (Value.slice A9 gs.length c9).ownBlock = some j → j < w30.heap.size) := (Aside0.mk (fun j hj => Nat.lt_of_lt_of_le (HOL.out j hj) hd.below.size)); clear hd)
                | (go_at_call 11; refine (refuterref01_Around.calls q 6 (kd : Int) _ HKF.out).mono ?_; rintro e w31 ⟨rfl, hd⟩; have HRD31 := Aside0.mk (HRD30.out.below hd.below); have HG31 := Aside0.mk (GotR_newP HG30.out (NewP.of_below hd.below)); have HBR31 := Aside0.mk (HBR30.out.trans (hd.below.mono HBR30.out.size)); have HSZ31 := Aside0.mk (Nat.le_trans HSZ30.out hd.below.size); have HOL31 : Aside0 (∀ j, (Value.slice A9 gs.length c9).ownBlock = some j → j < w31.heap.size) := (Aside0.mk (fun j hj => Nat.lt_of_lt_of_le (HOL30.out j hj) hd.below.size)); clear hd)
                | (go_at_call 23; refine (read_one b2 g2 (kd : Int) y st st' HRX.out _ HRD31.out).mono ?_; rintro e w8 ⟨A10, c10, A11, c11, rfl, l10, l11, h10, h11, hRd, hK⟩; have L10 := Aside0.mk l10; have L11 := Aside0.mk l11; have H10 := Aside0.mk h10; have H11 := Aside0.mk h11; have HRD8 := Aside0.mk hRd; have HK8 := Aside0.mk hK; clear l10 l11 h10 h11 hRd hK)
                | ((with_reducible refine gate_builtin (b := .append) (xs := #[.tmp 83, .tmp 91]) rfl ?_); at_builtin
                   refine appGot w21.heap.size w31.heap.size w8 rfl (.tmp 83) (.tmp 91) rfl (.slice A9 gs.length c9) gs y A10 c10 A11 c11 rfl rfl (GotR_newP HG31.out (NewP.of_keeps HK8.out HGL2.out)) HSZ31.out HK8.out.keep.1 HOL31.out L10.out L11.out H10.out H11.out (by have := HGK.out; omega) ?_
                   intro v12 w9 HGOT9 HB9
                   obtain ⟨A12, c12, rfl⟩ := GotR_slice HGOT9.out
                   have HGL9 : Aside0 ((gs ++ [y]).length = k2 + 1) := ⟨by rw [List.length_append, HGK.out]; rfl⟩
                   generalize gs ++ [y] = gs' at HGOT9 HON HGL9 ⊢))
              exact ⟨⟨k2 + 1, gs', st', by first | (rw [hk1]; rfl) | rfl, by omega, by omega, HGL9.out, HGOT9, HON, ⟨HRD8.out.belowB HB9.out HGL2.out HPB2.out⟩, ⟨(HBR31.out.trans (HK8.out.below HBR31.out.size HGW2.out)).trans (HB9.out.mono (Nat.le_trans HGW2.out (Nat.le_of_lt HGL2.out)))⟩, ⟨Nat.le_trans HSZ31.out (Nat.le_trans HK8.out.keep.1 HB9.out.size)⟩⟩, by first | (rw [hk1]; simp only [intOf]; omega) | (simp only [intOf]; omega)⟩
            · have hways : (¬ k2 < kinds.length) ∨ (k2 < kinds.length ∧ ¬ k2 < 10) ∨ (k2 < kinds.length ∧ k2 < 10 ∧ m = 0) := by omega
              clear hbody
              have hcur : Below wr.heap.size wr wr := Below.refl _ _
              have HRDW : Aside0 (∀ W, Below wr.heap.size wr W → RdW 79 b2 W g2 st) := ⟨fun W h => HRD.out.below h⟩
              have HBWW : Aside0 (∀ W, Below wr.heap.size wr W → Below w.heap.size w W) := ⟨fun W h => HBWr.out.trans (h.mono HBWr.out.size)⟩
              have HF20 : Aside0 (∀ W, Below wr.heap.size wr W → Kd.C (Kd.int .u8) W A20 F.length F) := ⟨fun W h => Kd.C_below HC20.out (HBR.out.trans (h.mono HBR.out.size))⟩
              obtain ⟨A9, c9, rfl, hCg⟩ := GotR_C HGOT.out
              have HCG : Aside0 (∀ W, Below wr.heap.size wr W → Kd.C k47 W A9 gs.length gs) := ⟨fun W h => Kd.C_below hCg h⟩
              have HL100 : Aside0 (gs.length ≤ 100) := ⟨by have := HGK.out; omega⟩
              have HTL1 := Aside0.mk (Nat.le_trans HFL.out (show 60 ≤ 1000000000000 by decide))
              clear hCg
              by_cases hm0 : m = 0
              · subst hm0
                have hoe := One_end HONE.out HRD.out HM.out
                have HCAN := Aside0.mk hoe.2
                have HTE := Aside0.mk hoe.1
                clear hoe HGOT HONE HRD
                rcases hways with h | ⟨h, h10⟩ | ⟨h, h10, -⟩
                case' inl => have hd1 : decide ((k2 : Int) < (kinds.length : Int)) = false := decide_eq_false (by omega)
                case' inr.inl => have hd1 : decide ((k2 : Int) < (kinds.length : Int)) = true := decide_eq_true (by omega)
                case' inr.inl => have hd2 : decide ((k2 : Int) < 10) = false := decide_eq_false (by omega)
                case' inr.inr => have hd1 : decide ((k2 : Int) < (kinds.length : Int)) = true := decide_eq_true (by omega)
                case' inr.inr => have hd2 : decide ((k2 : Int) < 10) = true := decide_eq_true (by omega)
                all_goals
                  go_wp2_with (first
                    | (go_at_call 25; refine (End_r' HM.out _ (HRDW.out _ hcur)).mono ?_; rintro e wn ⟨rfl, hd⟩; replace hcur := hcur.trans (hd.below.mono hcur.size); clear hd)
                    | (go_at_call 35; refine (encode_c A9 c9 gs _ (HCG.out _ hcur) HCAN.out HL100.out).mono ?_; rintro e w40 ⟨v40, rfl, HO, HB⟩; rw [← HTE.out] at HO; obtain ⟨A13, c13, rfl, hlc, -, hC⟩ := C_row HO; have HC40 := Aside0.mk hC; have HLC40 := Aside0.mk hlc; replace hcur := hcur.trans (HB.mono hcur.size); clear HO HB hlc hC)
                    | (go_at_call 30; refine (sameBytes02_calls F HTL1.out A13 c13 A20 c20 _ HC40.out HLC40.out (HF20.out _ hcur) HLC20.out).mono ?_; rintro e w41 ⟨rfl, hd⟩; replace hcur := hcur.trans (hd.below.mono hcur.size); clear hd)
                    | (go_at_call 17; refine (HLV.out _).mono ?_; rintro e w42 ⟨rfl, HB⟩; replace hcur := hcur.trans (HB.mono hcur.size); clear HB))
                  go_ret
                  exact ⟨rfl, HBWW.out _ hcur⟩
              · have hm1 : (m != 0) = true := bne_iff_ne.mpr hm0
                clear HGOT HONE HRD
                rcases hways with h | ⟨h, h10⟩ | ⟨h, h10, h0⟩
                case' inl => have hd1 : decide ((k2 : Int) < (kinds.length : Int)) = false := decide_eq_false (by omega)
                case' inr.inl => have hd1 : decide ((k2 : Int) < (kinds.length : Int)) = true := decide_eq_true (by omega)
                case' inr.inl => have hd2 : decide ((k2 : Int) < 10) = false := decide_eq_false (by omega)
                case inr.inr => exact absurd h0 hm0
                all_goals
                  clear hm0
                  go_wp2_with (first
                    | (go_at_call 25; refine (End_r' HM.out _ (HRDW.out _ hcur)).mono ?_; rintro e wn ⟨rfl, hd⟩; replace hcur := hcur.trans (hd.below.mono hcur.size); clear hd)
                    | (go_at_call 17; refine (HLV.out _).mono ?_; rintro e w42 ⟨rfl, HB⟩; replace hcur := hcur.trans (HB.mono hcur.size); clear HB))
                  go_ret
                  exact ⟨rfl, HBWW.out _ hcur⟩
theorem wf_bytes {l : List Int} (h : ∀ x ∈ l, (Lit.int .u8 x).wf = true) : ∀ x ∈ l, 0 ≤ x ∧ x < 256 := fun x hx => by
  have := bounds_u8 (h x hx)
  omega
theorem refuterlaw02_WireOne.walk (P : refuterlaw02_WireOne.Pure) (a0 : Option Addr) (len0 cap0 : Nat) (z0 : List Int) (a1 : Option Addr) (len1 cap1 : Nat) (z1 : List Int) (a2 : Int) (a3 : Int) (a4 : Option Addr) (len4 cap4 : Nat) (z4 : List Int) (w : World)
    (w0 : (a0 = none ∧ len0 = 0 ∧ cap0 = 0 ∧ z0 = []) ∨ ∃ x, a0 = some x ∧ len0 ≤ cap0 ∧ cap0 ≤ maxLen ∧ z0.length = cap0 ∧ (∀ i, i < z0.length → w.cell? (x.add i) = some (.int .u8 (z0.getD i 0))) ∧ ∀ n ∈ z0, (Lit.int .u8 n).wf = true) (_y0 : len0 * 1 ≤ 140737488351232)
    (w1 : (a1 = none ∧ len1 = 0 ∧ cap1 = 0 ∧ z1 = []) ∨ ∃ x, a1 = some x ∧ len1 ≤ cap1 ∧ cap1 ≤ maxLen ∧ z1.length = cap1 ∧ (∀ i, i < z1.length → w.cell? (x.add i) = some (.int .i64 (z1.getD i 0))) ∧ ∀ n ∈ z1, (Lit.int .i64 n).wf = true) (_y1 : len1 * 8 ≤ 140737488351232) (w2 : (Lit.int .i64 a2).wf = true) (w3 : (Lit.int .u8 a3).wf = true)
    (w4 : (a4 = none ∧ len4 = 0 ∧ cap4 = 0 ∧ z4 = []) ∨ ∃ x, a4 = some x ∧ len4 ≤ cap4 ∧ cap4 ≤ maxLen ∧ z4.length = cap4 ∧ (∀ i, i < z4.length → w.cell? (x.add i) = some (.int .i64 (z4.getD i 0))) ∧ ∀ n ∈ z4, (Lit.int .i64 n).wf = true) (_y4 : len4 * 8 ≤ 140737488351232) :
    Calls Try.prog 8 #[.slice a0 len0 cap0, .slice a1 len1 cap1, .int .i64 a2, .int .u8 a3, .slice a4 len4 cap4] w fun e w' => e = .returned (.bool true) ∧ Below w.heap.size w w' := by
  obtain ⟨l0, rfl, hr0, hm0, hw0, hc0⟩ := ReadsInt.ofRowC w0
  obtain ⟨l1, rfl, hr1, hm1, hw1, hc1⟩ := ReadsInt.ofRowC w1
  obtain ⟨l4, rfl, hr4, hm4, hw4, hc4⟩ := ReadsInt.ofRowC w4
  have h := bounds_i64 w2
  have h2 := bounds_u8 w3
  exact WireOne_any _ _ l0 _ _ l1 a2 a3 _ _ l4 w (Kd.C_of_reads (d := (0 : Int)) (h1 := fun _ => rfl) hr0) hc0 (wf_bytes hw0) (Kd.C_of_reads (d := (0 : Int)) (h1 := fun _ => rfl) hr1) (wf_all hw1) (by omega) (by omega) (Kd.C_of_reads (d := (0 : Int)) (h1 := fun _ => rfl) hr4) (wf_all hw4)

/-! ### refuterlaw02_WirePrefix: function 9 -/
def refuterlaw02_WirePrefix.Pure : Prop := True
/-- A reader of a proper beginning of the values' bytes, the first k values read. -/
def Pst (xs : List S47) (k : Nat) (st : St) : Prop := (∃ p q, st = .ok p ∧ p ++ q = encVs (xs.drop k) ∧ q ≠ []) ∨ st = .err 3
theorem Pst_step (xs : List S47) (k : Nat) (st : St) (hk : k < xs.length) (hg : GenV xs[k]) (h : Pst xs k st) : Pst xs (k + 1) (readS xs[k].f0 st).2 := by
  rcases h with ⟨p, q, rfl, hpq, hq⟩ | rfl
  · rw [List.drop_eq_getElem_cons hk, encVs_cons] at hpq
    rcases app_split hpq with ⟨c, hc, h1, h2⟩ | ⟨c, h1, h2⟩
    · exact Or.inr (readS_prefix _ hg p c h1.symm hc)
    · subst h1
      rw [readS_enc _ hg]
      exact Or.inl ⟨c, q, rfl, h2.symm, hq⟩
  · rw [readS_err]; exact Or.inr rfl
theorem Pst_end (xs : List S47) (k : Nat) (st : St) (hk : xs.length ≤ k) (h : Pst xs k st) : st = .err 3 := by
  rcases h with ⟨p, q, rfl, hpq, hq⟩ | rfl
  · rw [List.drop_eq_nil_of_le hk] at hpq
    exact absurd (List.append_eq_nil_iff.mp (hpq.trans rfl)).2 hq
  · rfl
theorem few02 (l : List Int) (n : Int) (hn : (l.length : Int) = n) (hl : l.length ≤ 100000000) : refuterref01_Few.f l n = some l := by
  unfold refuterref01_Few.f
  have e : mn (l.length : Int) n = (l.length : Int) := by unfold mn; split <;> omega
  rw [e, if_pos (by omega), if_pos (by omega), Int.toNat_natCast, List.take_of_length_le (Nat.le_refl _), if_pos (by simp only [List.length_nil]; omega)]
  rfl
set_option maxHeartbeats 8000000 in
set_option maxRecDepth 100000 in
theorem WirePrefix_any (A : Option Addr) (c : Nat) (l : List Int) (cut : Int) (cb : Int) (w : World) (hR : Kd.C (Kd.int .i64) w A l.length l) (hx : ∀ x ∈ l, -9223372036854775808 ≤ x ∧ x ≤ 9223372036854775807) (hcut : -9223372036854775808 ≤ cut ∧ cut ≤ 9223372036854775807) (hcb : 0 ≤ cb ∧ cb < 256) :
    Calls Try.prog 9 #[.slice A l.length c, .int .i64 cut, .int .u8 cb] w fun e w' => e = .returned (.bool true) ∧ Below w.heap.size w w' := by
  have HR := Aside0.mk hR
  have HX := Aside0.mk hx
  have hut := Try.underlying47
  have HCUT := Aside0.mk hcut
  have HCB := Aside0.mk hcb
  have HLV := fun W => refuterlaw02_lives.calls true W rfl
  clear hR hx hcut hcb
  go_enter Try.func9, Try.ntmps9
  go_wp2_with (first
    | (go_at_call 19; refine (Vals_c A c l _ HR.out HX.out).mono ?_; rintro e w1 ⟨v1, xs, rfl, hO, hl8, hg, hB⟩; obtain ⟨A1, c1, rfl, -, hC⟩ := Kd.R_reads hO; have HC1 := Aside0.mk hC; have HL8 := Aside0.mk hl8; have HGA := Aside0.mk hg; have HB1 := Aside0.mk hB; clear hO hl8 hg hB hC))
  have HENC : Aside0 (∀ W, Kd.C k47 W A1 xs.length xs → Calls Try.prog 35 #[.slice A1 xs.length c1] W fun e w' => ∃ v, e = .returned v ∧ Kd.R (Kd.int .u8) 5 w' W.heap.size (fun _ => True) v (encVs xs) ∧ Below W.heap.size W w') := ⟨fun W h => encode_c A1 c1 xs W h (fun x hx => canV_of_gen (HGA.out x hx)) (by have := HL8.out; omega)⟩
  have HBY : Aside0 (∀ y ∈ encVs xs, 0 ≤ y ∧ y < 256) := ⟨encVs_byte xs (fun x hx => canV_of_gen (HGA.out x hx))⟩
  have HLEN : Aside0 ((encVs xs).length ≤ 480000) := ⟨by have := encVs_len xs (fun x hx => canV_of_gen (HGA.out x hx)); have := HL8.out; omega⟩
  have HP0 : Aside0 (∀ s : Nat, s < (encVs xs).length → Pst xs 0 (.ok ((encVs xs).take s))) := ⟨fun s hs => Or.inl ⟨(encVs xs).take s, (encVs xs).drop s, rfl, by rw [List.take_append_drop]; rfl, fun h => by have := congrArg List.length h; rw [List.length_drop] at this; simp only [List.length_nil] at this; omega⟩⟩
  have HD0 : Aside0 (encVs (xs.drop 0) = encVs xs) := ⟨rfl⟩
  generalize encVs xs = bs at HENC HBY HLEN HP0 HD0
  by_cases hz : bs = []
  · subst hz
    have HN0 := Aside0.mk (fun W => C_nilW .u8 W)
    go_wp2_with (first
      | (go_at_call 35; refine (HENC.out _ HC1.out).mono ?_; rintro e w2 ⟨v2, rfl, HO, HB⟩; obtain ⟨A2, c2, rfl, hlc2, hn2, hC⟩ := C_row HO; have HB2 := Aside0.mk (HB1.out.trans (HB.mono HB1.out.size)); clear HO HB hC hn2 hlc2)
      | (go_at_call 21; refine (Read_r none 0 [] _ (HN0.out _) (by decide) (fun _ => ⟨rfl, rfl⟩) (fun x hx => nomatch hx)).mono ?_; rintro e w3 ⟨g, b, rfl, hRd, hb, hg, hB⟩; have HRD := Aside0.mk hRd; have HB3 := Aside0.mk (HB2.out.trans (hB.mono HB2.out.size)); clear hRd hb hg hB)
      | (go_at_call 25; refine (End_r' (st := .ok []) (n := 0) rfl _ HRD.out).mono ?_; rintro e w4 ⟨rfl, hd⟩; have HB4 := Aside0.mk (HB3.out.trans (hd.below.mono HB3.out.size)); clear hd)
      | (go_at_call 17; refine (HLV _).mono ?_; rintro e w5 ⟨rfl, HB⟩; have HB5 := Aside0.mk (HB4.out.trans (HB.mono HB4.out.size)); clear HB))
    go_ret
    exact ⟨rfl, HB5.out⟩
  · have hpos : 0 < bs.length := List.length_pos_iff.mpr hz
    have hlen := HLEN.out
    obtain ⟨s, hs, hsf⟩ := aroundV cut (bs.length : Int) (by omega) HCUT.out
    obtain ⟨kd, hkd, hkf⟩ := aroundV cut 6 (by omega) HCUT.out
    have HSF := Aside0.mk hsf
    have HKF := Aside0.mk hkf
    have hzl : ((bs.length : Int) == 0) = false := by simp only [beq_eq_false_iff_ne]; omega
    have hsn : s < bs.length := by omega
    clear hz hsf hkf
    go_wp2_with (first
      | (go_at_call 35; refine (HENC.out _ HC1.out).mono ?_; rintro e w2 ⟨v2, rfl, HO, HB⟩; obtain ⟨A2, c2, rfl, hlc2, hn2, hC⟩ := C_row HO; have HC2 := Aside0.mk hC; have HN2 := Aside0.mk hn2; have HLC2 := Aside0.mk hlc2; have HB12 := Aside0.mk HB
         obtain ⟨hrun, hrd, hlc'⟩ := print_take_of (P := Try.prog) (Value.int .u8) 0 24 5 .i64 Try.underlying24 (i := (Try.prog.info? 5).get (by rfl)) (by rfl) (by rfl) A2 c2 bs (s : Int) (by omega) (by omega) hlc2
         rw [Int.toNat_natCast] at hrun hrd
         have HRT := Aside0.mk hrd
         have HPT := Aside0.mk (HP0.out s hsn)
         have HTL : Aside0 ((bs.take s).length ≤ bs.length ∧ (bs.length = 0 → (bs.take s).length = 0) ∧ ∀ x ∈ bs.take s, 0 ≤ x ∧ x < 256) := ⟨by rw [List.length_take]; omega, fun h => by rw [List.length_take]; omega, fun x hx => HBY.out x (List.mem_of_mem_take hx)⟩
         generalize bs.take s = bt at hrun HRT HPT HTL
         clear HO HB hC hn2 hlc2 hrd hlc' HP0)
      | (go_at_call_of 11 (Value.int .i64 (bs.length : Int)); refine (refuterref01_Around.calls cut (bs.length : Int) (s : Int) _ HSF.out).mono ?_; rintro e w3 ⟨rfl, hd⟩; have HC3 := Aside0.mk (Kd.C_below HC2.out hd.below); have HB13 := Aside0.mk (HB12.out.trans (hd.below.mono HB12.out.size)); clear hd)
      | (go_at_call_of 21 (Value.slice A2 bt.length c2); refine (Read_r A2 c2 bt _ (Kd.C_of_reads (d := (0 : Int)) (h1 := fun _ => rfl) (HRT.out _ (Kd.reads_of_C (d := (0 : Int)) (h1 := fun _ => rfl) HC3.out))) (by have := HTL.out.1; omega) (fun h => ⟨(HN2.out h).1, HTL.out.2.1 (HN2.out h).2⟩) HTL.out.2.2).mono ?_; rintro e w4 ⟨g1, b1, rfl, hRd, hb, hg, hB⟩; have HR1 := Aside0.mk hRd; have Hb1 := Aside0.mk hb; have HG1 := Aside0.mk hg; have HC4 := Aside0.mk (Kd.C_below HC3.out hB); have HB14 := Aside0.mk (HB13.out.trans (hB.mono HB13.out.size)); have HG1' : Aside0 (w1.heap.size ≤ g1) := ⟨Nat.le_trans HB13.out.size hg⟩; clear hRd hb hg hB)
      | (go_at_call 20; refine (refuterref01_Few.calls A2 c2 bs (bs.length : Int) bs _ HC4.out HLC2.out (few02 bs _ rfl (by omega))).mono ?_; rintro e w5 ⟨v5, rfl, hO, hB⟩; have HO5 := Aside0.mk hO; have HB5 := Aside0.mk hB; clear hO hB)
      | ((with_reducible refine gate_builtin (b := .append) (xs := #[.tmp 42, .tmp 44]) rfl ?_); at_builtin
         refine app_own .u8 24 5 1 w4.heap.size w5 rfl (.tmp 42) (.tmp 44) rfl Try.underlying24 info_u8 (by decide) v5 bs cb rfl rfl HO5.out HB5.out.size (by omega) ?_
         intro v6 w6 HO6 HB6
         obtain ⟨A6, c6, rfl, -, hn6, hC6⟩ := C_row HO6.out
         have HB46 := Aside0.mk (HB5.out.trans HB6.out)
         have HB16 := Aside0.mk (HB14.out.trans (HB46.out.mono HB14.out.size))
         have HR1_6 := Aside0.mk (HR1.out.below HB46.out)
         have HL1 := Aside0.mk HR1.out.lt
         have HBC : Aside0 (∀ x ∈ bs ++ [cb], 0 ≤ x ∧ x < 256) := ⟨fun x hx => by rcases List.mem_append.mp hx with h | h; exact HBY.out x h; rw [List.mem_singleton.mp h]; exact HCB.out⟩
         have HLC : Aside0 ((bs ++ [cb]).length ≤ 480001) := ⟨by rw [List.length_append, List.length_singleton]; omega⟩
         have HR2S : Aside0 (bs ++ [cb] = encVs (xs.drop 0) ++ [cb]) := ⟨by rw [HD0.out]⟩
         generalize bs ++ [cb] = bl at HO6 hC6 hn6 HBC HLC HR2S
         have HC6 := Aside0.mk hC6
         have HN6 := Aside0.mk hn6
         clear hC6 hn6 HO5 HO6 HB5 HB6 HC4 HR1)
      | (go_at_call_of 21 (Value.slice A6 bl.length c6); refine (Read_r A6 c6 bl _ HC6.out (by have := HLC.out; omega) HN6.out HBC.out).mono ?_; rintro e w7 ⟨g2, b2, rfl, hRd, hb, hg, hB⟩; have HR2 := Aside0.mk hRd; have Hb2 := Aside0.mk hb; have HG2 := Aside0.mk hg; have HB17 := Aside0.mk (HB16.out.trans (hB.mono HB16.out.size)); have HR1_7 := Aside0.mk (HR1_6.out.below hB); have HB47 := Aside0.mk (HB46.out.trans (hB.mono HB46.out.size)); clear hRd hb hg hB))
    have HNE : Aside0 (g1 ≠ g2 ∧ ¬ b2.P g1 ∧ ¬ b1.P g2) := ⟨by
      have h1 := HL1.out; have h2 := HG2.out; have h3 := HB46.out.size
      refine ⟨by omega, fun h => ?_, fun h => ?_⟩
      · have := (Hb2.out _ h).1; omega
      · have := (Hb1.out _ h).2; omega⟩
    have HG2' : Aside0 (w1.heap.size ≤ g2) := ⟨Nat.le_trans HB16.out.size HG2.out⟩
    have HR2' : Aside0 (RdW 79 b2 w7 g2 (.ok (encVs (xs.drop 0) ++ [cb]))) := ⟨by have := HR2.out; rw [HR2S.out] at this; exact this⟩
    clear HR2 HR2S Hb1 Hb2 HG1 HG2 HB12 HB13 HB14 HB16 HB46 HB47 HC2 HC3 HC6 HN2 HN6 HLC2 HBC HLC HL1 HTL HRT hrun HR1_6 HD0 HBY HENC
    go_loopw [12] (fun v12 wr => ∃ k : Nat, v12 = .int .i64 (k : Int) ∧ k ≤ xs.length ∧ Aside0 (∃ st, Pst xs k st ∧ RdW 79 b1 wr g1 st) ∧ Aside0 (RdW 79 b2 wr g2 (.ok (encVs (xs.drop k) ++ [cb]))) ∧ Aside0 (Below w1.heap.size w1 wr)) (fun v12 _ => xs.length - (intOf v12).toNat)
    case atStart => exact ⟨0, rfl, Nat.zero_le _, ⟨.ok bt, HPT.out, HR1_7.out⟩, HR2', HB17⟩
    case round =>
      clear HR1_7 HR2' HB17 HPT
      obtain ⟨k, rfl, hk, HS1, HR2, HBR⟩ := hrel
      obtain ⟨st, hPs, hR1⟩ := HS1.out
      have HPS := Aside0.mk hPs
      have HR1 := Aside0.mk hR1
      clear HS1 hPs hR1
      by_cases hlt : k < xs.length
      · obtain ⟨ad, A7, c7, A8, c8, e1, hx0, -⟩ := at_T47 HC1.out (k : Int) (by omega) (by omega)
        subst e1
        rw [Int.toNat_natCast, rd_T_mem xs k hlt] at hx0
        have HGX := HGA.out xs[k] (List.getElem_mem hlt)
        have HPN := Aside0.mk (Pst_step xs k st hlt HGX HPS.out)
        have HRS : Aside0 (readS xs[k].f0 (.ok (encVs (xs.drop k) ++ [cb])) = (xs[k], .ok (encVs (xs.drop (k + 1)) ++ [cb]))) := ⟨by rw [List.drop_eq_getElem_cons hlt, encVs_cons, List.append_assoc]; exact readS_enc _ HGX _⟩
        clear HGX
        generalize xs[k] = x at hx0 HPN HRS
        have HF : Aside0 (∀ W, Below w1.heap.size w1 W → W.cell? (ad.add (k * 5)) = some (.int .i64 x.f0)) := ⟨fun W h => pw_cell_below h hx0⟩
        have hcw := HF.out wr HBR.out
        have hk1 : wrap64 ((k : Int) + 1) = (k : Int) + 1 := by have := HL8.out; unfold wrap64; omega
        clear hx0
        go_wp2_with (first
          | (go_at_call_of 23 (Value.pointer (some ⟨g1, 0, none⟩)); refine (read_r b1 g1 st x.f0 _ HR1.out).mono ?_; rintro e w8 ⟨A9, c9, A0, c0, rfl, -, -, -, -, hRd, hK⟩; have HR1' := Aside0.mk hRd; have HR2' := Aside0.mk (HR2.out.other hK HNE.out.1.symm HNE.out.2.1); have HBR' := Aside0.mk (HBR.out.trans (hK.below HBR.out.size HG1'.out)); have hcw' := HF.out _ HBR'.out; clear hRd hK)
          | (go_at_call_of 23 (Value.pointer (some ⟨g2, 0, none⟩)); refine (read_one b2 g2 x.f0 x _ _ HRS.out _ HR2'.out).mono ?_; rintro e w9 ⟨A11, c11, A12, c12, rfl, -, -, -, -, hRd, hK⟩; have HR2'' := Aside0.mk hRd; have HR1'' := Aside0.mk (HR1'.out.other hK HNE.out.1 HNE.out.2.2); have HBR'' := Aside0.mk (HBR'.out.trans (hK.below HBR'.out.size HG2'.out)); clear hRd hK))
        exact ⟨⟨k + 1, by first | (rw [hk1]; rfl) | rfl, by omega, ⟨_, HPN.out, HR1''.out⟩, HR2'', HBR''⟩, by first | (rw [hk1]; simp only [intOf]; omega) | (simp only [intOf]; omega)⟩
      · have hst := Pst_end xs k st (by omega) HPS.out
        have hd : encVs (xs.drop k) ++ [cb] = [cb] := by rw [List.drop_eq_nil_of_le (by omega)]; rfl
        have HR1e : Aside0 (RdW 79 b1 wr g1 (.err 3)) := ⟨by rw [← hst]; exact HR1.out⟩
        have HR2e : Aside0 (RdW 79 b2 wr g2 (.ok [cb])) := ⟨by rw [← hd]; exact HR2.out⟩
        have HRK : Aside0 (readS (kd : Int) (.err 3) = (⟨(kd : Int), 0, 0, [], []⟩, .err 3)) := ⟨readS_err _ _⟩
        clear hst hd HR1 HR2 HPS
        go_wp2_with (first
          | (go_at_call_of 25 (Value.pointer (some ⟨g1, 0, none⟩)); refine (End_r' (st := .err 3) (n := 3) rfl _ HR1e.out).mono ?_; rintro e w8 ⟨rfl, hd⟩; have HR1f := Aside0.mk (HR1e.out.below hd.below); have HR2f := Aside0.mk (HR2e.out.below hd.below); have HBf := Aside0.mk (HBR.out.trans (hd.below.mono HBR.out.size)); clear hd)
          | (go_at_call_of 25 (Value.pointer (some ⟨g2, 0, none⟩)); refine (End_r' (st := .ok [cb]) (n := 2) rfl _ HR2f.out).mono ?_; rintro e w9 ⟨rfl, hd⟩; have HR1g := Aside0.mk (HR1f.out.below hd.below); have HBg := Aside0.mk (HBf.out.trans (hd.below.mono HBf.out.size)); clear hd)
          | (go_at_call_of 11 (Value.int .i64 6); refine (refuterref01_Around.calls cut 6 (kd : Int) _ HKF.out).mono ?_; rintro e w10 ⟨rfl, hd⟩; have HR1h := Aside0.mk (HR1g.out.below hd.below); have HBh := Aside0.mk (HBg.out.trans (hd.below.mono HBg.out.size)); clear hd)
          | (go_at_call 23; refine (read_one b1 g1 (kd : Int) _ _ _ HRK.out _ HR1h.out).mono ?_; rintro e w11 ⟨A9, c9, A10, c10, rfl, l9, l10, h9, h10, hRd, hK⟩; have L9 := Aside0.mk l9; have L10 := Aside0.mk l10; have H9 := Aside0.mk h9; have H10 := Aside0.mk h10; have HR1i := Aside0.mk hRd; have HBi := Aside0.mk (HBh.out.trans (hK.below HBh.out.size HG1'.out)); clear l9 l10 h9 h10 hRd hK)
          | (go_at_call 22; refine (same_c (⟨(kd : Int), 0, 0, [], []⟩ : S47) (by simp) (by simp) A9 c9 A10 c10 none 0 none 0 _ (H9.out _ (NewP.of_below (below_alloc (Below.refl _ _) _))) L9.out (H10.out _ (NewP.of_below (below_alloc (Below.refl _ _) _))) L10.out (C_nilW .u8 _) (Nat.le_refl _) (C_nilW .i64 _) (Nat.le_refl _)).mono ?_; rintro e w12 ⟨rfl, hB⟩; have hba := (below_alloc (Below.refl w11.heap.size w11) (.cells #[.int .i64 (kd : Int), .int .u64 0, .int .i64 0, .slice A9 0 c9, .slice A10 0 c10] 47)).trans (hB.mono (by rw [World.size_alloc]; omega)); have HR1j := Aside0.mk (HR1i.out.below hba); have HBj := Aside0.mk (HBi.out.trans (hba.mono HBi.out.size)); clear hB hba)
          | (go_at_call 25; refine (End_r' (st := .err 3) (n := 3) rfl _ HR1j.out).mono ?_; rintro e w13 ⟨rfl, hd⟩; have HBk := Aside0.mk (HBj.out.trans (hd.below.mono HBj.out.size)); clear hd)
          | (go_at_call 17; refine (HLV _).mono ?_; rintro e w14 ⟨rfl, HB⟩; have HBl := Aside0.mk (HBk.out.trans (HB.mono HBk.out.size)); clear HB))
        go_ret
        exact ⟨rfl, HB1.out.trans (HBl.out.mono HB1.out.size)⟩
theorem refuterlaw02_WirePrefix.walk (P : refuterlaw02_WirePrefix.Pure) (a0 : Option Addr) (len0 cap0 : Nat) (z0 : List Int) (a1 : Int) (a2 : Int) (w : World) (w0 : (a0 = none ∧ len0 = 0 ∧ cap0 = 0 ∧ z0 = []) ∨ ∃ x, a0 = some x ∧ len0 ≤ cap0 ∧ cap0 ≤ maxLen ∧ z0.length = cap0 ∧ (∀ i, i < z0.length → w.cell? (x.add i) = some (.int .i64 (z0.getD i 0))) ∧ ∀ n ∈ z0, (Lit.int .i64 n).wf = true) (_y0 : len0 * 8 ≤ 140737488351232) (w1 : (Lit.int .i64 a1).wf = true) (w2 : (Lit.int .u8 a2).wf = true) :
    Calls Try.prog 9 #[.slice a0 len0 cap0, .int .i64 a1, .int .u8 a2] w fun e w' => e = .returned (.bool true) ∧ Below w.heap.size w w' := by
  obtain ⟨l, rfl, hr0, hm0, hw0, hc0⟩ := ReadsInt.ofRowC w0
  have h := bounds_i64 w1
  have h2 := bounds_u8 w2
  exact WirePrefix_any _ _ l a1 a2 w (Kd.C_of_reads (d := (0 : Int)) (h1 := fun _ => rfl) hr0) (wf_all hw0) (by omega) (by omega)

/-! ### refuterref01_Short: function 36 -/
def refuterref01_Short.f (a0 : ByteArray) (a1 : Int) : Option (ByteArray) := if (a0.size : Int) > a1 then (if 0 ≤ a1 then (if a1 ≤ (a0.size : Int) then (some (a0.extract 0 (a1 : Int).toNat)) else (none)) else (none)) else (some a0)
set_option maxHeartbeats 8000000 in
set_option maxRecDepth 100000 in
theorem refuterref01_Short.calls (a0 : ByteArray) (a1 : Int) (r : ByteArray) (w : World) (h : refuterref01_Short.f a0 a1 = some r) :
    Calls Try.prog 36 #[.string a0, .int .i64 a1] w fun e w' => e = .returned (.string r) ∧ Drawn0 w w' := by
  have H : (if (a0.size : Int) > a1 then (if 0 ≤ a1 then (if a1 ≤ (a0.size : Int) then (some (a0.extract 0 (a1 : Int).toNat)) else (none)) else (none)) else (some a0)) = some r := h
  clear h
  by_cases c3 : (a0.size : Int) > a1
  · rw [if_pos c3] at H
    have c3b0 : decide (a1 < (a0.size : Int)) = true := decide_eq_true c3
    clear c3
    by_cases c4 : 0 ≤ a1
    · rw [if_pos c4] at H
      have c4b0 := eq_true c4
      have c4b1 : decide (0 ≤ a1) = true := decide_eq_true c4
      clear c4
      by_cases c5 : a1 ≤ (a0.size : Int)
      · rw [if_pos c5] at H
        have c5b0 := eq_true c5
        have c5b1 : decide (a1 ≤ (a0.size : Int)) = true := decide_eq_true c5
        clear c5
        obtain rfl := Option.some.inj H
        go_enter Try.func36, Try.ntmps36
        go_wp2
        go_ret
        exact ⟨by first | rfl | (simp; done) | (simp [*]; done), by repeat (first | exact Drawn0.refl _ | apply Drawn0.step)⟩
      · rw [if_neg c5] at H
        exact absurd H (by simp)
    · rw [if_neg c4] at H
      exact absurd H (by simp)
  · rw [if_neg c3] at H
    have c3b0 : decide (a1 < (a0.size : Int)) = false := decide_eq_false c3
    clear c3
    obtain rfl := Option.some.inj H
    go_enter Try.func36, Try.ntmps36
    go_wp2
    go_ret
    exact ⟨by first | rfl | (simp; done) | (simp [*]; done), by repeat (first | exact Drawn0.refl _ | apply Drawn0.step)⟩

-- NOT PRINTED: function 58 (hash_words_byte)

-- NOT PRINTED: function 66 (hash_words_string)

/-! ### hash_mix: function 67 -/
def hash_mix.f (a0 : Int) (a1 : Int) : Option (Int) := some (Go.bits .xor .u64 (IntKind.u64.wrap ((Go.bits .xor .u64 a0 a1) * 11400714819323198485)) ((IntKind.u64.wrap ((Go.bits .xor .u64 a0 a1) * 11400714819323198485)) / 4294967296))
set_option maxHeartbeats 8000000 in
set_option maxRecDepth 100000 in
theorem hash_mix.calls (a0 : Int) (a1 : Int) (r : Int) (w : World) (h : hash_mix.f a0 a1 = some r) :
    Calls Try.prog 67 #[.int .u64 a0, .int .u64 a1] w fun e w' => e = .returned (.int .u64 r) ∧ Drawn0 w w' := by
  have H : (some (Go.bits .xor .u64 (IntKind.u64.wrap ((Go.bits .xor .u64 a0 a1) * 11400714819323198485)) ((IntKind.u64.wrap ((Go.bits .xor .u64 a0 a1) * 11400714819323198485)) / 4294967296))) = some r := h
  clear h
  obtain rfl := Option.some.inj H
  go_enter Try.func67, Try.ntmps67
  go_wp2
  go_ret
  exact ⟨by first | rfl | (simp; done) | (simp [*]; done), by repeat (first | exact Drawn0.refl _ | apply Drawn0.step)⟩

/-! ### hash_Sum: function 59 -/
def hash_Sum.f (a0 : ByteArray) (l1 : List Int) : Option Int := if a0.size ≤ 140737488351232 then (if l1.length ≤ 140737488351232 then some (hsum (bytesOf a0) l1) else none) else none
theorem hash_Sum.calls (a0 : ByteArray) (A1 : Option Addr) (c1 : Nat) (l1 : List Int) (r : Int) (w : World) (hr1 : Kd.C (Kd.int .i64) w A1 l1.length l1) (_hc1 : l1.length ≤ c1) (h : hash_Sum.f a0 l1 = some r) :
    Calls Try.prog 59 #[.string a0, .slice A1 l1.length c1] w fun e w' => e = .returned (.int .u64 r) ∧ Below w.heap.size w w' := by
  unfold hash_Sum.f at h
  split at h
  · split at h
    · obtain rfl := Option.some.inj h
      exact HashSum.Sum_any a0 (by assumption) A1 c1 l1 (by assumption) w hr1
    · cases h
  · cases h

/-! ### hash_Bytes: function 37 -/
def hash_Bytes.f (a0 : ByteArray) (l1 : List Int) : Option Int := if a0.size ≤ 140737488351232 then (if l1.length ≤ 17592186044000 then (if (l1.all fun x => decide (0 ≤ x ∧ x < 256)) = true then some (HashBytes.hbytes (bytesOf a0) l1) else none) else none) else none
theorem hash_Bytes.calls (a0 : ByteArray) (A1 : Option Addr) (c1 : Nat) (l1 : List Int) (r : Int) (w : World) (hr1 : Kd.C (Kd.int .u8) w A1 l1.length l1) (_hc1 : l1.length ≤ c1) (h : hash_Bytes.f a0 l1 = some r) :
    Calls Try.prog 37 #[.string a0, .slice A1 l1.length c1] w fun e w' => e = .returned (.int .u64 r) ∧ Below w.heap.size w w' := by
  unfold hash_Bytes.f at h
  split at h
  · split at h
    · split at h
      · rename_i h3
        obtain rfl := Option.some.inj h
        exact HashBytes.Bytes_any a0 (by assumption) A1 c1 l1 (by assumption) (fun x hx => by have := of_decide_eq_true (List.all_eq_true.1 h3 x hx); exact this) w hr1
      · cases h
    · cases h
  · cases h

end Go.Proofs.Ytleomgkogbenaaa.PA
