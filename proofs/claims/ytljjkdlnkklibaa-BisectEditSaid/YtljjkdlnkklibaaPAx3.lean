/- Written by a program of this session (pw.py, over the kit's printer): contracts, with their walks, of the Go functions that a law reaches; a text named ..Law.. proves the given statement of that law, with no condition of its own. -/
import Derived.Test.YtljjkdlnkklibaaPAx0
import Derived.Test.YtljjkdlnkklibaaPAx2
namespace Go.Proofs.Ytljjkdlnkklibaa.PA
open Go.Proofs.Ytljjkdlnkklibaa.BisPlain
open Go.Proofs.Ytljjkdlnkklibaa.BisPure
open Go.Proofs.Ytljjkdlnkklibaa.BisAsk
open Go.Proofs.Ytljjkdlnkklibaa.BisSt
open Go.Proofs.Ytljjkdlnkklibaa.Pw
open Go.RowKit Go.Proofs.YtljjkdlnkklibaaW.PrintWords Go.Proofs.YtljjkdlnkklibaaW.PrintLast Go.Proofs.YtljjkdlnkklibaaW.PrintMore
attribute [local go_sem] max2_int min2_int max_two min_two max_three min_three max_four min_four   -- for this text's walks alone
set_option linter.unusedVariables false
set_option linter.unusedSimpArgs false

/-! ### refuterlaw35_BisectEdit: function 6 -/
def refuterlaw35_BisectEdit.Pure : Prop := True
section
variable {ops : Array Oper} {rest : List Oper} {o : Oper} {a : Act} {Q : Exit → Act → World → Prop}
/-- append(xs, ys...) to a row of one's own, behind 'at_builtin'. -/
theorem appL35 (B : Nat) (wr : World) (hgd : o.guard = none) (s x : Operand) (ho : o.op = .call { callee := .builtin .append, args := #[s, x], argTypes := #[22, 22] })
    (v : Value) (cs ys : List Int) (A : Option Addr) (c : Nat) (hs : a.eval s = v) (hx : a.eval x = .slice A ys.length c) (hB : B ≤ wr.heap.size) (hR : Kd.R (Kd.int .i64) 3 wr B (fun _ => True) v cs) (hC : Kd.C (Kd.int .i64) wr A ys.length ys) (hl : cs.length + ys.length ≤ 10000)
    (h : ∀ v1 w1, Aside0 (Kd.R (Kd.int .i64) 3 w1 B (fun _ => True) v1 (cs ++ ys) ∧ Below B wr w1) → wpList Try.prog ops Q rest (a.put o.dst v1) w1) :
    wpList Try.prog ops Q (o :: rest) a wr := by
  refine Kd.R_append_rows (Kd.int .i64) (w0 := wr) B hgd s x 22 3 (.int .i64 0) 8 ho Try.underlying22 info_i64 rfl (by decide) (by decide) v cs ys A ys.length c (fun _ => True) (fun _ => False) hs hx hR hC (fun _ _ h => h) (fun _ hk => hk.elim)
    (fun _ _ => trivial) (Below.refl _ _) hB (by omega) ?_
  intro v1 w1 hown hbw hgr hat
  exact h v1 w1 ⟨hown, hbw⟩
end
/-- What the search of the law finds. -/
theorem edit35 (xs : List Int) (m : Nat) (h2 : 2 ≤ m) (h64 : m ≤ 64) (hl : xs.length = m) :
    ansP (vd xs) m = ⟨0, 0, [], [], 25⟩ ∨ ∃ g b ps, ansP (vd xs) m = ⟨g, b, betw g b, ps, 0⟩ ∧ 0 ≤ g ∧ g < b ∧ b < m ∧ ps.Nodup ∧ (∀ x ∈ [g, b] ++ betw g b, x ∈ ps) ∧ checkP (vd xs) m g b (betw g b) = 0 ∧ ((∀ j : Nat, j < m → (rd xs j = 0 ∨ rd xs j = 1)) → b = g + 1) := by
  cases hf : findP (vd xs) m with
  | none => left; unfold ansP; rw [if_neg (by omega), hf]; rfl
  | some T =>
    obtain ⟨g, b, ps⟩ := T
    right
    obtain ⟨hi, hn⟩ := findP_inv (fun i => vd_cases xs i) (by omega) (by omega) hf
    refine ⟨g, b, ps, ?_, hi.g0, hi.gb, hi.bn, hi.nd, fun x hx => ?_, check_find (by omega) (by omega) hi hn, fun hw => ?_⟩
    · unfold ansP; rw [if_neg (by omega), hf]; rfl
    · rcases List.mem_append.1 hx with hx | hx
      · simp only [List.mem_cons, List.not_mem_nil, or_false] at hx
        rcases hx with rfl | rfl
        · exact hi.gm
        · exact hi.bm
      · obtain ⟨h3, h4⟩ := mem_betw.1 hx
        exact (betw_all hi hn x h3 h4).1
    · refine whole_next hi hn (fun i h0 h1 => ?_)
      have hV : vd xs i = three (rd xs i) := by unfold vd raw rd; rw [if_pos ⟨h0, by omega⟩]
      have := hw i.toNat (by omega)
      rw [show ((i.toNat : Nat) : Int) = i by omega] at this
      rw [hV]
      rcases this with h | h <;> rw [h] <;> decide
theorem nodup_rd {ps : List Int} (h : ps.Nodup) (k i : Nat) (hk : k < i) (hi : i < ps.length) : rd ps (k : Int) ≠ rd ps (i : Int) := by
  unfold rd
  rw [Int.toNat_natCast, Int.toNat_natCast, List.getD_eq_getElem?_getD, List.getD_eq_getElem?_getD, List.getElem?_eq_getElem hi, List.getElem?_eq_getElem (by omega)]
  exact List.pairwise_iff_getElem.1 h k i (by omega) hi hk
set_option maxHeartbeats 8000000 in
set_option maxRecDepth 100000 in
theorem BisectEdit_any (A0 : Option Addr) (c0 : Nat) (l : List Int) (n cut : Int) (w : World) (hR0 : Kd.C (Kd.int .i64) w A0 l.length l) (hc0 : l.length ≤ c0) (hx0 : ∀ x ∈ l, -9223372036854775808 ≤ x ∧ x ≤ 9223372036854775807)
    (hn : -9223372036854775808 ≤ n ∧ n ≤ 9223372036854775807) (hcut : -9223372036854775808 ≤ cut ∧ cut ≤ 9223372036854775807) :
    Calls Try.prog 6 #[.slice A0 l.length c0, .int .i64 n, .int .i64 cut] w fun e w' => e = .returned (.bool true) ∧ Below w.heap.size w w' := by
  have HR0 := Aside0.mk hR0
  have HC0 := Aside0.mk hc0
  have HX0 := Aside0.mk hx0
  have HN := Aside0.mk hn
  have HCUT := Aside0.mk hcut
  clear hR0 hc0 hx0 hn hcut
  go_enter Try.func6, Try.ntmps6
  go_upto_region 2 with (first
    | (go_at_call 7; refine (Around_any n 60 _ (by decide) HN.out).mono ?_; rintro e w1 ⟨m0, rfl, hm0, hm1, ⟨n1, rfl⟩⟩))
  obtain ⟨m, hm⟩ : ∃ m : Nat, 2 + m0 = (m : Int) := ⟨(2 + m0).toNat, by omega⟩
  rw [hm]
  have h2 : 2 ≤ m := by omega
  have h64 : m ≤ 64 := by omega
  have HB1 : Aside0 (Below w.heap.size w (w.drewN n1)) := ⟨pw_below_drewN (Below.refl _ _) _⟩
  clear hm hm0 hm1
  go_upto_region 3 with (first
    | (go_at_call 7; refine (Around_any cut ((m : Int) + 1) _ (by omega) HCUT.out).mono ?_; rintro e w2 ⟨cu, rfl, hcu0, hcu1, ⟨n2, rfl⟩⟩; have HB2 : Aside0 (Below w.heap.size w (w.drewN (n1 + n2))) := ⟨pw_below_drewN (Below.refl _ _) _⟩)
    | (go_at_call 8; refine (Verdicts_any A0 c0 l (m : Int) cu _ (Kd.C_below HR0.out HB2.out) HC0.out HX0.out (by omega) (by omega)).mono ?_; rintro e w3 ⟨v3, xs, rfl, hl, hR, hB⟩; obtain ⟨Av, cv, e3, -, -⟩ := Kd.R_reads hR
       have hm : xs.length = m := by omega
       rw [hm] at e3; subst e3
       have HM := Aside0.mk hm; clear hm
       have HR3 := Aside0.mk (Kd.R_lower hR HB2.out.size); have HB3 := Aside0.mk (HB2.out.trans (hB.mono HB2.out.size)); clear hR hB hl))
  obtain ⟨gv, hA, hgv, hcell, hfr, hput⟩ := R_put35 HR3.out HM.out ((m : Int) - 1) (by omega) (by omega)
  have hR4 := hput 1
  rw [show ((m : Int) - 1).toNat = m - 1 by omega] at hcell hfr hR4
  have HB4 : Aside0 (Below w.heap.size w (w3.setCell ⟨gv, m - 1, none⟩ (.int .i64 1))) := ⟨HB3.out.setCell (p := ⟨gv, m - 1, none⟩) hgv _⟩
  have HM4 : Aside0 ((xs.set (m - 1) 1).length = m) := ⟨by rw [List.length_set]; exact HM.out⟩
  generalize xs.set (m - 1) 1 = ys at hR4 HM4
  have HR4 := Aside0.mk hR4
  clear hput hR4 HR3 HB3 HM hgv HB1 HB2 hcu0 hcu1
  subst hA
  go_upto_region 4 with fail
  clear hcell hfr
  generalize w3.setCell ⟨gv, m - 1, none⟩ (.int .i64 1) = w4 at *
  obtain ⟨A3, c3, e3, hlc, hC⟩ := Kd.R_reads HR4.out
  rw [HM4.out] at e3
  injection e3 with e3 e4 e5
  subst e3 e5
  clear e4
  have HC3 := Aside0.mk hC
  have HE := edit35 ys m h2 h64 HM4.out
  clear hC hlc HR4
  obtain ⟨Av, hAv⟩ : ∃ Av, Av = some (⟨gv, 0, none⟩ : Addr) := ⟨_, rfl⟩
  rw [← hAv] at HC3 ⊢
  clear hAv
  rcases HE with hans | ⟨g, b, ps, hans, hg0, hgb, hbm, hnd, hin, hchk, hwh⟩
  · have HANS := Aside0.mk hans
    clear hans
    have HLV := fun W => refuterlaw35_lives.calls true W rfl
    go_wp2_with (first
      | (go_at_call 11; have hp := BisOut.probe_c Av cv ys w4 HC3.out; rw [HM4.out] at hp; refine hp.mono ?_; clear hp; rintro e w5 ⟨Bl, rfl, hL, hB⟩; have HL5 := Aside0.mk hL; have HB5 := Aside0.mk hB; clear hL hB)
      | (go_at_call 10; refine (Find_any Bl ys (m : Int) w5 HL5.out).mono ?_; intro e w6 hR; rw [HANS.out] at hR; obtain ⟨A1, k1, A2, k2, rfl, l1, c1, l2, c2, hB⟩ := hR; have HB6 := Aside0.mk (below_alloc (HB5.out.trans (hB.mono HB5.out.size)) (.cells #[.int .i64 0, .int .i64 0, .slice A1 0 k1, .slice A2 0 k2] 27)); clear c1 c2 l1 l2 hB)
      | (go_at_call 14; refine (HLV _).mono ?_; rintro e w12 ⟨rfl, hB⟩; have HB12 := Aside0.mk (HB6.out.trans (hB.mono HB6.out.size)); clear hB))
    go_ret
    exact ⟨rfl, HB4.out.trans (HB12.out.mono HB4.out.size)⟩
  · have HANS := Aside0.mk hans
    have HND := Aside0.mk hnd
    have HIN := Aside0.mk hin
    have HCHK := Aside0.mk hchk
    have HWH := Aside0.mk hwh
    have hpl := (ansP_len (vd ys) (m : Int))
    rw [hans] at hpl
    have HPL : Aside0 (ps.length ≤ 1000 ∧ (betw g b).length ≤ 1000) := ⟨hpl.2, hpl.1⟩
    clear hans hnd hin hchk hwh hpl
    go_upto_region 7 with (first
      | (go_at_call 11; have hp := BisOut.probe_c Av cv ys w4 HC3.out; rw [HM4.out] at hp; refine hp.mono ?_; clear hp; rintro e w5 ⟨Bl, rfl, hL, hB⟩; have HL5 := Aside0.mk hL; have HB5 := Aside0.mk hB; clear hL hB)
      | (go_at_call 10; refine (Find_any Bl ys (m : Int) w5 HL5.out).mono ?_; intro e w6 hR; rw [HANS.out] at hR; obtain ⟨A1, k1, A2, k2, rfl, l1, c1, l2, c2, hB⟩ := hR; have HC1 := Aside0.mk c1; have HC2 := Aside0.mk c2; have HL1 := Aside0.mk l1; have HL2 := Aside0.mk l2; have HB6 := Aside0.mk (HB5.out.trans (hB.mono HB5.out.size)); clear c1 c2 l1 l2 hB))
    obtain ⟨W6, hW6⟩ : ∃ W6, w6.alloc (.cells #[.int .i64 g, .int .i64 b, .slice A1 (betw g b).length k1, .slice A2 ps.length k2] 27) = W6 := ⟨_, rfl⟩
    have hb9 : W6.heap[w6.heap.size]? = some (.cells #[.int .i64 g, .int .i64 b, .slice A1 (betw g b).length k1, .slice A2 ps.length k2] 27 (0, 0)) := by rw [← hW6]; exact blk_new _ _
    have hB6 : Below w6.heap.size w6 W6 := by rw [← hW6]; exact below_alloc (Below.refl _ _) _
    rw [hW6]
    have HC1 := Aside0.mk (Kd.C_below HC1.out hB6)
    have HC2 := Aside0.mk (Kd.C_below HC2.out hB6)
    have HB66 := Aside0.mk (HB6.out.trans (hB6.mono HB6.out.size))
    generalize w6.heap.size = b9 at hb9 ⊢
    have HCW := Aside0.mk (Kd.C_below HC3.out HB66.out)
    have HBW := Aside0.mk (HB4.out.trans (HB66.out.mono HB4.out.size))
    have HF : Aside0 (∀ W, Below W6.heap.size W6 W → W.cell? ⟨b9, 0, none⟩ = some (.int .i64 g) ∧ W.cell? ⟨b9, 1, none⟩ = some (.int .i64 b) ∧ W.cell? ⟨b9, 2, none⟩ = some (.slice A1 (betw g b).length k1) ∧ W.cell? ⟨b9, 3, none⟩ = some (.slice A2 ps.length k2)) := ⟨fun W hW => by
      have h := blk_below hb9 hW
      exact ⟨(blk_cell h 0).trans rfl, (blk_cell h 1).trans rfl, (blk_cell h 2).trans rfl, (blk_cell h 3).trans rfl⟩⟩
    clear hb9 hB6 hW6 HB5 HB6 HL5 HC3 HB66 HB4
    obtain ⟨a0, a1, a2, a3⟩ := HF.out W6 (Below.refl _ _)
    have hp := BisOut.probe_c Av cv ys (W6.drewN 1) (Kd.C_drewN HCW.out 1)
    rw [HM4.out] at hp
    have HP := Aside0.mk hp
    clear hp
    go_region_held3 (fun W' => W'.cell? ⟨b9, 0, none⟩ = some (.int .i64 g) ∧ W'.cell? ⟨b9, 1, none⟩ = some (.int .i64 b) ∧ W'.cell? ⟨b9, 2, none⟩ = some (.slice A1 (betw g b).length k1) ∧ W'.cell? ⟨b9, 3, none⟩ = some (.slice A2 ps.length k2)) (first | exact ⟨a0, a1, a2, a3⟩ | exact ⟨e0, e1, e2, e3⟩ | exact ⟨q0, q1, q2, q3⟩)
      (first
        | (go_at_call 11; refine HP.out.mono ?_; rintro e w7 ⟨B2, rfl, hL, hB⟩; have hB := (pw_below_drewN (Below.refl W6.heap.size W6) 1).trans (hB.mono (Nat.le_refl _)); obtain ⟨e0, e1, e2, e3⟩ := HF.out _ hB; have HL7 := Aside0.mk hL; have HB7 := Aside0.mk hB; clear hL hB)
        | (go_at_call 15; have hc := BisChk.Check_c B2 ys (betw g b) (m : Int) g b A1 k1 (.slice A2 ps.length k2) w7 HL7.out (Kd.C_below HC1.out HB7.out); rw [HCHK.out] at hc; refine hc.mono ?_; clear hc; rintro e w8 ⟨rfl, hB⟩; have hB := HB7.out.trans (hB.mono HB7.out.size); obtain ⟨q0, q1, q2, q3⟩ := HF.out _ hB; have HB8 := Aside0.mk hB; clear hB))
    clear HP a0 a1 a2 a3 e0 e1 e2 e3 HL7 HB7
    have HBW0 := HBW.out
    go_wp2_with fail
    clear q0 q1 q2 q3
    go_loopw [11] (fun v11 wr => ∃ i : Nat, v11 = .int .i64 (i : Int) ∧ i ≤ ps.length ∧ Aside0 (Below W6.heap.size W6 wr)) (fun v11 _ => ps.length - (intOf v11).toNat)
    case atStart => exact ⟨0, rfl, Nat.zero_le _, HB8⟩
    case round =>
      obtain ⟨i, rfl, hi, HBi⟩ := hrel
      obtain ⟨q0, q1, q2, q3⟩ := HF.out wr HBi.out
      clear HBW0
      have hp1000 := HPL.out.1
      by_cases hlt : i < ps.length
      · have dk : decide (i < ps.length) = true := decide_eq_true hlt
        go_wp2_with fail
        go_loopw [12] (fun v12 wr2 => ∃ k : Nat, v12 = .int .i64 (k : Int) ∧ k ≤ i ∧ Aside0 (Below W6.heap.size W6 wr2)) (fun v12 _ => i - (intOf v12).toNat)
        case atStart => exact ⟨0, rfl, Nat.zero_le _, HBi⟩
        case round =>
          obtain ⟨k, rfl, hk, HBk⟩ := hrel
          clear q0 q1 q2 q3
          obtain ⟨q0, q1, q2, q3⟩ := HF.out wr HBk.out
          by_cases hki : k < i
          · have dki : decide (k < i) = true := decide_eq_true hki
            have hne := nodup_rd HND.out k i hki hlt
            have HC2k := Kd.C_below HC2.out HBk.out
            obtain ⟨ad, rfl, hx1⟩ := Kd.at_int HC2k (k : Int) (by omega) (by omega)
            obtain ⟨ad', e', hx2⟩ := Kd.at_int HC2k (i : Int) (by omega) (by omega)
            cases e'
            rw [Int.toNat_natCast] at hx1 hx2
            clear HC2k
            generalize rd ps (k : Int) = x1 at hx1 hne
            generalize rd ps (i : Int) = x2 at hx2 hne
            have dne : (x1 == x2) = false := beq_eq_false_iff_ne.mpr hne
            have hk0 : (0 : Int) ≤ (k : Int) := by omega
            have hi0 : (0 : Int) ≤ (i : Int) := by omega
            have hk1 : (k : Int) < (ps.length : Int) := by omega
            have hi1 : (i : Int) < (ps.length : Int) := by omega
            clear hne
            go_upto_region 15 with fail
            go_quiet (fail)
            go_wp2
            exact ⟨⟨k + 1, by simp, by omega, ⟨HBk.out.trans ⟨rfl, rfl, rfl, Nat.le_refl _, fun _ _ => rfl⟩⟩⟩, by simp [intOf]; omega⟩
          · have dki : decide (k < i) = false := decide_eq_false hki
            go_wp2
            exact ⟨⟨i + 1, by simp, by omega, HBk⟩, by simp [intOf]; omega⟩
      · have dk : decide (i < ps.length) = false := decide_eq_false hlt
        have hlr := litI_R wr [g, b] W6.heap.size HBi.out.size (by simp)
        have hlb : Below W6.heap.size W6 (wr.alloc (.cells #[.int .i64 g, .int .i64 b] 3)) := below_alloc HBi.out _
        have hlc := Kd.C_below HC1.out hlb
        have HLR := Aside0.mk hlr
        have HLB := Aside0.mk hlb
        have HLC := Aside0.mk hlc
        have hq2 : (wr.alloc (.cells #[.int .i64 g, .int .i64 b] 3)).cell? ⟨b9, 2, none⟩ = some (.slice A1 (betw g b).length k1) := (HF.out _ hlb).2.2.1
        clear hlr hlb hlc
        go_upto_block 4 with (first
          | ((with_reducible refine gate_builtin (b := .append) (xs := #[.tmp 78, .tmp 80]) rfl ?_); at_builtin
             refine appL35 W6.heap.size (wr.alloc (.cells #[.int .i64 g, .int .i64 b] 3)) rfl (.tmp 78) (.tmp 80) rfl _ [g, b] (betw g b) A1 k1 rfl rfl HLB.out.size HLR.out HLC.out (by have := HPL.out.2; simp only [List.length_cons, List.length_nil]; omega) ?_
             intro v13 w9 HA))
        clear hq2 q0 q1 q2 q3 HLR HLC
        have HB9 : Aside0 (Below W6.heap.size W6 w9) := ⟨HLB.out.trans HA.out.2⟩
        obtain ⟨A13, c13, e13, -, hC13⟩ := Kd.R_reads HA.out.1
        subst e13
        obtain ⟨N, hN⟩ : ∃ N, ([g, b] ++ betw g b).length = N := ⟨_, rfl⟩
        have hN1000 : N ≤ 1002 := by rw [← hN, List.length_append]; have := HPL.out.2; simp only [List.length_cons, List.length_nil]; omega
        generalize [g, b] ++ betw g b = nm at hN hC13 HIN HA
        rw [hN] at hC13 ⊢
        have HNM := Aside0.mk hN
        have HC13 := Aside0.mk hC13
        clear hN hC13 HLB dk
        go_cut [14] from 82 (fun v14 wx => Aside0 (Below W6.heap.size W6 wx))
        case first =>
          go_wp2_with fail
          go_loopw [14] (fun v14 wr2 => ∃ k : Nat, v14 = .int .i64 (k : Int) ∧ k ≤ N ∧ Aside0 (Below w9.heap.size w9 wr2)) (fun v14 _ => N - (intOf v14).toNat)
          case atStart => exact ⟨0, rfl, Nat.zero_le _, ⟨Below.refl _ _⟩⟩
          case round =>
            obtain ⟨k, rfl, hk, HBk⟩ := hrel
            have HBk6 : Aside0 (Below W6.heap.size W6 wr) := ⟨HB9.out.trans (HBk.out.mono HB9.out.size)⟩
            obtain ⟨q0, q1, q2, q3⟩ := HF.out wr HBk6.out
            by_cases hlt : k < N
            · have dk : decide (k < N) = true := decide_eq_true hlt
              obtain ⟨ad, had, hx1⟩ := Kd.at_int (Kd.C_below HC13.out HBk.out) (k : Int) (by omega) (by have := HNM.out; omega)
              subst had
              rw [Int.toNat_natCast] at hx1
              have hmem : rd nm (k : Int) ∈ ps := HIN.out _ (by
                unfold rd
                rw [Int.toNat_natCast, List.getD_eq_getElem?_getD, List.getElem?_eq_getElem (by have := HNM.out; omega)]
                exact List.getElem_mem _)
              generalize rd nm (k : Int) = x at hx1 hmem
              have hct : ps.contains x = true := by simpa using hmem
              have HCP := Kd.C_below HC2.out HBk6.out
              have HH := Aside0.mk (fun n => (BisRef2.has_c A2 k2 ps x HPL.out.1 (wr.drewN n) (Kd.C_drewN HCP n)).mono (R' := fun e2 w2 => e2 = .returned (.bool true) ∧ w2 = wr.drewN n) (fun _ _ h => ⟨by rw [h.1, hct], h.2.symm⟩))
              have hk0 : (0 : Int) ≤ (k : Int) := by omega
              have hk1 : (k : Int) < (N : Int) := by omega
              clear hmem hct HCP
              go_upto_region 21 with fail
              go_quiet ((go_at_call 17; refine Calls.quiet_of_same (HH.out _)))
              go_wp2
              exact ⟨⟨k + 1, by simp, by omega, ⟨HBk.out.trans ⟨rfl, rfl, rfl, Nat.le_refl _, fun _ _ => rfl⟩⟩⟩, by simp [intOf]; omega⟩
            · have dk : decide (k < N) = false := decide_eq_false hlt
              go_wp2
              go_meet
              exact HBk6
        case rest =>
          have HBc := hcut
          clear hcut HA HNM HC13 HB9 HIN
          have hm64 : (m : Int) ≤ 64 := by omega
          go_wp2_with fail
          go_loopw [15, 16] (fun v15 v16 wr2 => ∃ (k : Nat) (wh : Bool), v16 = .int .i64 (k : Int) ∧ k ≤ m ∧ v15 = .bool wh ∧ wr2 = wc ∧ Aside0 (wh = true → ∀ j : Nat, j < k → (rd ys j = 0 ∨ rd ys j = 1))) (fun v15 v16 _ => m - (intOf v16).toNat)
          case atStart => exact ⟨0, true, rfl, Nat.zero_le _, rfl, rfl, ⟨fun _ j hj => absurd hj (Nat.not_lt_zero _)⟩⟩
          case round =>
            obtain ⟨k, wh, rfl, hk, rfl, rfl, HW⟩ := hrel
            by_cases hlt : k < m
            · have dk : decide (k < m) = true := decide_eq_true hlt
              obtain ⟨ad, had, hx1⟩ := Kd.at_int (Kd.C_below HCW.out HBc.out) (k : Int) (by omega) (by have := HM4.out; omega)
              subst had
              rw [Int.toNat_natCast] at hx1
              have hst : ∀ w2 : Bool, (w2 = true → wh = true ∧ (rd ys (k : Int) = 0 ∨ rd ys (k : Int) = 1)) → (w2 = true → ∀ j : Nat, j < k + 1 → (rd ys j = 0 ∨ rd ys j = 1)) := fun w2 h h2 j hj => by
                by_cases c : j < k
                · exact HW.out (h h2).1 j c
                · obtain rfl : j = k := by omega
                  exact (h h2).2
              generalize hx : rd ys (k : Int) = x at hx1
              rw [hx] at hst
              have HST := Aside0.mk hst
              clear hst hx HW
              have hxc : x = 0 ∨ x = 1 ∨ ((x == 0) = false ∧ (x == 1) = false) := by
                by_cases c1 : x = 0
                · exact .inl c1
                · by_cases c2 : x = 1
                  · exact .inr (.inl c2)
                  · exact .inr (.inr ⟨beq_eq_false_iff_ne.mpr c1, beq_eq_false_iff_ne.mpr c2⟩)
              cases wh
              · clear hxc
                go_wp2
                exact ⟨⟨k + 1, false, by simp, by omega, rfl, by first | rfl | trivial, ⟨HST.out false (fun h => by cases h)⟩⟩, by simp [intOf]; omega⟩
              · rcases hxc with rfl | rfl | ⟨d1, d2⟩
                · go_wp2
                  exact ⟨⟨k + 1, true, by simp, by omega, rfl, by first | rfl | trivial, ⟨HST.out true (fun _ => ⟨rfl, .inl rfl⟩)⟩⟩, by simp [intOf]; omega⟩
                · go_wp2
                  exact ⟨⟨k + 1, true, by simp, by omega, rfl, by first | rfl | trivial, ⟨HST.out true (fun _ => ⟨rfl, .inr rfl⟩)⟩⟩, by simp [intOf]; omega⟩
                · go_wp2
                  exact ⟨⟨k + 1, false, by simp, by omega, rfl, by first | rfl | trivial, ⟨HST.out false (fun h => by cases h)⟩⟩, by simp [intOf]; omega⟩
            · have dk : decide (k < m) = false := decide_eq_false hlt
              obtain rfl : k = m := by omega
              have HLV := fun W => refuterlaw35_lives.calls true W rfl
              obtain ⟨q0, q1, q2, q3⟩ := HF.out wr HBc.out
              have HBF := Aside0.mk (HBW.out.trans (HBc.out.mono HBW.out.size))
              cases wh
              · clear HW
                go_wp2_with (first
                  | (go_at_call 14; refine (HLV _).mono ?_; rintro e w12 ⟨rfl, hB⟩; have HB12 := Aside0.mk (HBF.out.trans (hB.mono HBF.out.size)); clear hB))
                go_ret
                exact ⟨rfl, HB12.out⟩
              · have hbg : b = g + 1 := HWH.out (fun j hj => HW.out rfl j hj)
                subst hbg
                clear HW
                go_wp2_with (first
                  | (go_at_call 14; refine (HLV _).mono ?_; rintro e w12 ⟨rfl, hB⟩; have HB12 := Aside0.mk (HBF.out.trans (hB.mono HBF.out.size)); clear hB))
                go_ret
                exact ⟨rfl, HB12.out⟩
theorem refuterlaw35_BisectEdit.walk (P : refuterlaw35_BisectEdit.Pure) (a0 : Option Addr) (len0 cap0 : Nat) (z0 : List Int) (a1 : Int) (a2 : Int) (w : World) (w0 : (a0 = none ∧ len0 = 0 ∧ cap0 = 0 ∧ z0 = []) ∨ ∃ x, a0 = some x ∧ len0 ≤ cap0 ∧ cap0 ≤ maxLen ∧ z0.length = cap0 ∧ (∀ i, i < z0.length → w.cell? (x.add i) = some (.int .i64 (z0.getD i 0))) ∧ ∀ n ∈ z0, (Lit.int .i64 n).wf = true) (_y0 : len0 * 8 ≤ 140737488351232) (w1 : (Lit.int .i64 a1).wf = true) (w2 : (Lit.int .i64 a2).wf = true) :
    Calls Try.prog 6 #[.slice a0 len0 cap0, .int .i64 a1, .int .i64 a2] w fun e w' => e = .returned (.bool true) ∧ Below w.heap.size w w' := by
  obtain ⟨l, rfl, hr0, hm0, hw0, hc0⟩ := ReadsInt.ofRowC w0
  have h1 := bounds_i64 w1
  have h2 := bounds_i64 w2
  exact BisectEdit_any a0 cap0 l a1 a2 w (Kd.C_of_reads (d := (0 : Int)) (h1 := fun _ => rfl) hr0) hc0 (fun x hx => by have := bounds_i64 (hw0 x hx); omega) (by omega) (by omega)

end Go.Proofs.Ytljjkdlnkklibaa.PA
