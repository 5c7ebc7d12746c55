/- The reference search: Find. -/
import Derived.Lib.SliceRun
import Derived.Test.YtljjkdlnkklibaaProg
import Derived.Below
import Derived.Deep.Draws
import Derived.Deep.AppendLies
import Derived.Maps.AppendAt
import Derived.OwnWalk
import Derived.Laws.BytesArg
import Derived.Laws.MakeOwn
import Derived.Laws.OwnMore
import Derived.Deep.OwnRows
import Derived.Tactics
import Derived.Lib.ConvBytes
import Derived.Laws.Slices
import Derived.WalkKit
import Derived.KernelRfl
import Derived.RowKit3
import Derived.Deep.LoopGhost
import Derived.Deep.QuietTactic
import Derived.BigQuiet
import Derived.WideLaws
import Derived.Deep.DeepCutAuto
import Derived.Deep.CutBlock
import Derived.BigQuiet
import Derived.Deep.RegionHeld3
import Derived.Laws.Rows
import Derived.Lib.AppendStr
import Derived.ArgAppend
import Derived.Laws.IdiomCopy
import Derived.OrdersHeld
import Derived.Laws.BitsLemmas
import Derived.RowKit
import Derived.Test.YtljjkdlnkklibaaPw
import Derived.Test.YtljjkdlnkklibaaWWords
import Derived.Test.YtljjkdlnkklibaaWLast
import Derived.Test.YtljjkdlnkklibaaWTab
import Derived.Test.YtljjkdlnkklibaaWFour
import Derived.Test.YtljjkdlnkklibaaWQPut
import Derived.Test.YtljjkdlnkklibaaWApart
import Derived.Test.YtljjkdlnkklibaaWArr
import Derived.Test.YtljjkdlnkklibaaWZeros
import Derived.Test.YtljjkdlnkklibaaWFoot
import Derived.Test.YtljjkdlnkklibaaWKept
import Derived.Test.YtljjkdlnkklibaaWShare
import Derived.Test.YtljjkdlnkklibaaWN
import Derived.Test.YtljjkdlnkklibaaWFootNe
import Derived.Test.YtljjkdlnkklibaaWAt
import Derived.Test.YtljjkdlnkklibaaWEqStruct
import Derived.Test.YtljjkdlnkklibaaWRepsOne
import Derived.Test.YtljjkdlnkklibaaWInv
import Derived.Test.YtljjkdlnkklibaaWInvWords
import Derived.Test.YtljjkdlnkklibaaWGuard
import Derived.Test.YtljjkdlnkklibaaWNEv
import Derived.Test.YtljjkdlnkklibaaWMore
import Derived.Test.YtljjkdlnkklibaaBisPlain
import Derived.Maps.OwnSet
import Derived.Test.YtljjkdlnkklibaaBisAsk
import Derived.RangeFuncNested
import Derived.RangeFuncBound
import Derived.RangeFuncBox
import Derived.RangeFuncCalls
import Derived.RangeFuncLeaves
import Derived.Shelf.Abstract
import Derived.Shelf.RegionOpen
import Derived.OwnWalkIn
import Derived.TacticsInMore
import Derived.LoopNIn
import Derived.LoopIn
import Derived.Maps.OwnIn
import Derived.Test.YtljjkdlnkklibaaBisCand
import Derived.Deep.CutBlock
import Derived.BigQuiet
import Derived.RangeFuncWrites
import Derived.Test.YtljjkdlnkklibaaBisSt
import Derived.Test.YtljjkdlnkklibaaBisRef
import Derived.Test.YtljjkdlnkklibaaBisRef2
import Derived.Test.YtljjkdlnkklibaaBisNext
namespace Go.Proofs.Ytljjkdlnkklibaa.BisRFind
open Go.RowKit Go.Shelf Go.Maps Go.Proofs.YtljjkdlnkklibaaW.PrintWords Go.Proofs.YtljjkdlnkklibaaW.PrintLast Go.Proofs.YtljjkdlnkklibaaW.PrintMore Go.Proofs.Ytljjkdlnkklibaa.BisPlain Go.Proofs.Ytljjkdlnkklibaa.BisAsk Go.Proofs.Ytljjkdlnkklibaa.BisCand Go.Proofs.Ytljjkdlnkklibaa.BisSt Go.Proofs.Ytljjkdlnkklibaa.BisRef Go.Proofs.Ytljjkdlnkklibaa.BisRef2 Go.Proofs.Ytljjkdlnkklibaa.BisNext
set_option linter.unusedVariables false

theorem info33 : (Try.prog.info? 33).map (·.size) = some 4 := by rfl
/-- The reference's search in hand: the result's cell at n0, the struct at g. -/
def RF (n0 g : Nat) (vs : List Int) (w W : World) (ps : List Int) : Prop :=
  RS n0 (fun k => g < k) vs w W g ps ∧ W.heap[n0]? = some (.cells #[.int .i64 0, .int .i64 0, .slice none 0 0, .slice none 0 0] 33 (0, 0)) ∧ n0 < g
theorem RF.below {n0 g : Nat} {vs : List Int} {w W W' : World} {ps : List Int} (h : RF n0 g vs w W ps) (hb : Below W.heap.size W W') : RF n0 g vs w W' ps :=
  ⟨RS.below h.1 hb (by have := blk_lt h.2.1; omega), blk_below h.2.1 hb, h.2.2⟩
theorem rprobe (n0 g : Nat) (vs ps : List Int) (i : Int) (w W : World) (hS : RF n0 g vs w W ps) (hi0 : 0 ≤ i) (hi1 : i < (vs.length : Int)) (hp : ps.length < 900) :
    Calls Try.prog 22 #[.pointer (some ⟨g, 0, none⟩), .int .i64 i] W fun e w' => e = .returned (.int .i64 (vd vs i)) ∧ RF n0 g vs w w' (ps ++ [i]) := by
  refine (sprobe_c n0 g (fun k => g < k) vs ps i w W hS.1 hi0 hi1 hp).mono ?_
  rintro e W' ⟨rfl, h1, h2, h3⟩
  exact ⟨rfl, h1, (h3 n0 (blk_lt hS.2.1) (by have := hS.2.2; omega) (by have := hS.2.2; omega)).trans hS.2.1, hS.2.2⟩
theorem rnext (n0 g : Nat) (vs ps : List Int) (gd bd : Int) (w W : World) (hS : RF n0 g vs w W ps) (hg0 : 0 ≤ gd) (hgb : gd ≤ bd) (hb64 : bd ≤ 64) (hp : ps.length ≤ 900) :
    Calls Try.prog 23 #[.pointer (some ⟨g, 0, none⟩), .int .i64 gd, .int .i64 bd] W fun e w' => e = .returned (.int .i64 (nxt (nextP ps gd bd))) ∧ RF n0 g vs w w' ps := by
  refine (snext_c n0 g (fun k => g < k) vs ps gd bd w W hS.1 hg0 hgb hb64 hp).mono ?_
  rintro e W' ⟨rfl, h1⟩
  exact ⟨rfl, hS.below h1⟩

theorem RF.cells {n0 g : Nat} {vs : List Int} {w W : World} {ps : List Int} (h : RF n0 g vs w W ps) : (W.cell? ⟨n0, 0, none⟩ = some (.int .i64 0) ∧ W.cell? ⟨n0, 1, none⟩ = some (.int .i64 0) ∧ W.cell? ⟨n0, 2, none⟩ = some (.slice none 0 0) ∧ W.cell? ⟨n0, 3, none⟩ = some (.slice none 0 0)) ∧
    W.frozen? ⟨n0, 0, none⟩ = false ∧ W.frozen? ⟨n0, 1, none⟩ = false ∧ W.frozen? ⟨n0, 2, none⟩ = false ∧ W.frozen? ⟨n0, 3, none⟩ = false :=
  ⟨⟨(blk_cell h.2.1 0).trans rfl, (blk_cell h.2.1 1).trans rfl, (blk_cell h.2.1 2).trans rfl, (blk_cell h.2.1 3).trans rfl⟩, blk_frozen h.2.1 0, blk_frozen h.2.1 1, blk_frozen h.2.1 2, blk_frozen h.2.1 3⟩

set_option maxHeartbeats 4000000 in
set_option maxRecDepth 100000 in
theorem RFind_out (A : Option Addr) (c : Nat) (vs : List Int) (w : World) (hn : (vs.length : Int) < 2 ∨ 64 < (vs.length : Int)) :
    Calls Try.prog 12 #[.slice A vs.length c] w fun e w' => Res w e w' (ansP (vd vs) vs.length) := by
  have hA : ansP (vd vs) vs.length = ⟨0, 0, [], [], 5⟩ := by unfold ansP; rw [if_pos hn]
  rw [hA]
  have hb0 := blk_new w (.cells #[.int .i64 0, .int .i64 0, .slice none 0 0, .slice none 0 0] 33)
  have HB0 := Aside0.mk hb0
  clear hA hb0
  by_cases c1 : (vs.length : Int) < 2
  · have d1 : decide ((vs.length : Int) < 2) = true := decide_eq_true c1
    go_enter Try.func12, Try.ntmps12
    go_wp2
    refine bodyPost_ret (results_ct rfl _ _ _ _ _ _ _ rfl HB0.out Try.underlying33 rfl info33) rfl ?_
    exact ⟨none, 0, none, 0, by rfl, Nat.le_refl _, C_none _, Nat.le_refl _, C_none _, (Below.refl _ w).alloc (Nat.le_refl _) _⟩
  · have d1 : decide ((vs.length : Int) < 2) = false := decide_eq_false c1
    have d2 : decide (64 < (vs.length : Int)) = true := decide_eq_true (by omega)
    go_enter Try.func12, Try.ntmps12
    go_wp2
    refine bodyPost_ret (results_ct rfl _ _ _ _ _ _ _ rfl HB0.out Try.underlying33 rfl info33) rfl ?_
    exact ⟨none, 0, none, 0, by rfl, Nat.le_refl _, C_none _, Nat.le_refl _, C_none _, (Below.refl _ w).alloc (Nat.le_refl _) _⟩

set_option maxHeartbeats 4000000 in
set_option maxRecDepth 100000 in
theorem RFind_c (A : Option Addr) (c : Nat) (vs : List Int) (w : World) (hC : Kd.C (Kd.int .i64) w A vs.length vs) (h2 : 2 ≤ (vs.length : Int)) (h64 : (vs.length : Int) ≤ 64) :
    Calls Try.prog 12 #[.slice A vs.length c] w fun e w' => Res w e w' (ansP (vd vs) vs.length) := by
  have hA : ansP (vd vs) vs.length = ansO (findP (vd vs) vs.length) := by unfold ansP; rw [if_neg (by omega)]
  rw [hA]
  obtain ⟨ans, hans⟩ : ∃ ans, ansO (findP (vd vs) vs.length) = ans := ⟨_, rfl⟩
  rw [hans]
  have HANS := Aside0.mk hans
  obtain ⟨n, hn⟩ : ∃ n : Nat, vs.length = n := ⟨_, rfl⟩
  rw [hn] at HANS h2 h64 ⊢
  have d1 : decide ((n : Int) < 2) = false := decide_eq_false (by omega)
  have d2 : decide (64 < (n : Int)) = false := decide_eq_false (by omega)
  have HC := Aside0.mk hC
  have HN := Aside0.mk hn
  clear hA hans hC hn
  go_enter Try.func12, Try.ntmps12
  go_upto_region 5 with fail
  obtain ⟨W1, hW1⟩ : ∃ W1, (w.alloc (.cells #[.int .i64 0, .int .i64 0, .slice none 0 0, .slice none 0 0] 33)).alloc (.cells #[.slice A n c, .slice none 0 0] 56) = W1 := ⟨_, rfl⟩
  have hF0 : RF w.heap.size (w.heap.size + 1) vs w W1 [] := by
    have b1 := blk_new w (.cells #[.int .i64 0, .int .i64 0, .slice none 0 0, .slice none 0 0] 33)
    have b2 := blk_new (w.alloc (.cells #[.int .i64 0, .int .i64 0, .slice none 0 0, .slice none 0 0] 33)) (.cells #[.slice A n c, .slice none 0 0] 56)
    have hB : Below w.heap.size w W1 := by rw [← hW1]; exact ((Below.refl _ w).alloc (Nat.le_refl _) _).alloc (by simp) _
    rw [World.size_alloc] at b2
    have hsz : W1.heap.size = w.heap.size + 2 := by rw [← hW1]; simp
    refine ⟨⟨⟨A, c, .slice none 0 0, ?_, fun W' hW' => Kd.C_below HC.out (hB.trans hW'), Kd.R_nil _ _ _ _ _⟩, by omega, by simp, fun k hk => by omega, hB⟩, ?_, by omega⟩
    · rw [← hW1, HN.out]; exact b2
    · rw [← hW1]; exact blk_alloc b1 _
  rw [hW1]
  generalize w.heap.size + 1 = g at hF0 ⊢
  clear hW1
  have HF0 := Aside0.mk hF0
  have HLEN := Aside0.mk (show (vs.length : Int) = n by rw [HN.out])
  have HASK := Aside0.mk (rprobe _ _ vs [] ((n : Int) - 1) w W1 hF0 (by omega) (by rw [HN.out]; omega) (by decide))
  clear hF0
  obtain ⟨v0, hv0⟩ : ∃ v0, vd vs ((n : Int) - 1) = v0 := ⟨_, rfl⟩
  rw [hv0] at HASK
  have HV0 := Aside0.mk hv0
  clear hv0
  by_cases c1 : v0 = 1
  case neg =>
    have d1 : (v0 != 1) = true := bne_iff_ne.mpr c1
    have hf1 : findP (vd vs) n = none := by unfold findP; rw [HV0.out, if_neg c1]
    obtain rfl : ans = ⟨0, 0, [], [], 25⟩ := by rw [← HANS.out, hf1]; rfl
    clear hf1
    go_wp2_with (first
      | (go_at_call 22; refine HASK.out.mono ?_; rintro e W2 ⟨rfl, hF2⟩; have HF2 := Aside0.mk hF2
         obtain ⟨⟨hz0, hz1, hz2, hz3⟩, hq0, hq1, hq2, hq3⟩ := RF.cells hF2
         clear hF2))
    refine bodyPost_ret (results_ct rfl _ _ _ _ _ _ _ rfl (put4 HF2.out.2.1 (.int .i64 0) (.int .i64 0) (.slice none 0 0) (.slice none 0 0)) Try.underlying33 rfl info33) rfl ?_
    exact ⟨none, 0, none, 0, by rfl, Nat.le_refl _, C_none _, Nat.le_refl _, C_none _, HF2.out.1.2.2.2.2.trans (below4 (Nat.le_refl _) _ _ _ _ _)⟩
  case pos =>
    subst c1
    go_wp2_with (first
      | (go_at_call 22; refine HASK.out.mono ?_; rintro e W2 ⟨rfl, hF2⟩; have HF2 := Aside0.mk hF2; clear hF2))
    clear HASK HF0
    go_loopw [6, 7] (fun v6 v7 wr => ∃ (gd : Int) (ps : List Int) (v : Int), v6 = .int .i64 gd ∧ v7 = .int .i64 v ∧ Aside0 (RF w.heap.size g vs w wr ps) ∧ 0 ≤ gd ∧ gd ≤ (n : Int) - 1 ∧ (ps.length : Int) ≤ gd + 2 ∧
        ((v = 2 ∧ (ps.length : Int) ≤ gd + 1 ∧ Aside0 (scanP (vd vs) ((n : Int) - 1).toNat 0 [(n : Int) - 1] = scanP (vd vs) ((n : Int) - 1 - gd).toNat gd ps)) ∨ ((v = 0 ∨ v = 1) ∧ gd < (n : Int) - 1 ∧ Aside0 (scanP (vd vs) ((n : Int) - 1).toNat 0 [(n : Int) - 1] = (gd, ps, v)))))
      (fun v6 v7 _ => if intOf v7 = 2 then ((n : Int) - intOf v6).toNat else 0)
    case atStart => exact ⟨0, [(n : Int) - 1], 2, rfl, rfl, HF2, by omega, by omega, by simp, .inl ⟨rfl, by simp, ⟨by rw [Int.sub_zero]⟩⟩⟩
    case round =>
      obtain ⟨gd, ps, v, rfl, rfl, HF, hg0, hg1, hpl, hcase⟩ := hrel
      rcases hcase with ⟨rfl, hpl2, HSC⟩ | ⟨hv, hg2, HSC⟩
      · by_cases ck : gd < (n : Int) - 1
        · have dk : decide (gd < (n : Int) - 1) = true := decide_eq_true ck
          have HASK := Aside0.mk (rprobe _ _ vs ps gd w wr HF.out (by omega) (by have := HLEN.out; omega) (by omega))
          obtain ⟨v, hv⟩ : ∃ v, vd vs gd = v := ⟨_, rfl⟩
          have hvc := vd_cases vs gd
          rw [hv] at HASK hvc
          have HV := Aside0.mk hv
          clear hv
          have hk1 := HSC.out
          rw [show ((n : Int) - 1 - gd).toNat = ((n : Int) - 1 - (gd + 1)).toNat + 1 by omega, scanP, HV.out] at hk1
          by_cases c2 : v = 2
          · subst c2
            rw [if_pos rfl] at hk1
            have HK1 := Aside0.mk hk1
            clear hk1 HSC hvc
            go_wp2_with (first
              | (go_at_call 22; refine HASK.out.mono ?_; rintro e W4 ⟨rfl, hS4⟩; have HS4 := Aside0.mk hS4; clear hS4))
            refine ⟨⟨gd + 1, ps ++ [gd], 2, rfl, rfl, HS4, by omega, by omega, by rw [List.length_append, List.length_singleton]; omega, .inl ⟨rfl, by rw [List.length_append, List.length_singleton]; omega, HK1⟩⟩, by simp [intOf]; omega⟩
          · have d2 : (v == 2) = false := beq_eq_false_iff_ne.mpr c2
            rw [if_neg c2] at hk1
            have HK1 := Aside0.mk hk1
            have hv01 : v = 0 ∨ v = 1 := by omega
            clear hk1 HSC hvc
            go_wp2_with (first
              | (go_at_call 22; refine HASK.out.mono ?_; rintro e W4 ⟨rfl, hS4⟩; have HS4 := Aside0.mk hS4; clear hS4))
            refine ⟨⟨gd, ps ++ [gd], v, rfl, rfl, HS4, by omega, by omega, by rw [List.length_append, List.length_singleton]; omega, .inr ⟨hv01, ck, HK1⟩⟩, by rw [if_neg (show ¬ intOf (.int .i64 v) = 2 from c2), if_pos (show intOf (.int .i64 2) = 2 from rfl)]; show 0 < ((n : Int) - gd).toNat; omega⟩
        · have dk : decide (gd < (n : Int) - 1) = false := decide_eq_false ck
          obtain rfl : gd = (n : Int) - 1 := by omega
          have hf1 : findP (vd vs) n = none := by unfold findP; rw [HV0.out, if_pos rfl, HSC.out, Int.sub_self]; rfl
          obtain rfl : ans = ⟨0, 0, [], [], 25⟩ := by rw [← HANS.out, hf1]; rfl
          obtain ⟨⟨hz0, hz1, hz2, hz3⟩, hq0, hq1, hq2, hq3⟩ := RF.cells HF.out
          clear hf1
          go_wp2
          refine bodyPost_ret (results_ct rfl _ _ _ _ _ _ _ rfl (put4 HF.out.2.1 (.int .i64 0) (.int .i64 0) (.slice none 0 0) (.slice none 0 0)) Try.underlying33 rfl info33) rfl ?_
          exact ⟨none, 0, none, 0, by rfl, Nat.le_refl _, C_none _, Nat.le_refl _, C_none _, HF.out.1.2.2.2.2.trans (below4 (Nat.le_refl _) _ _ _ _ _)⟩
      · have dk : decide (gd < (n : Int) - 1) = true := decide_eq_true hg2
        rcases hv with rfl | rfl
        case inr =>
          have hf1 : findP (vd vs) n = none := by unfold findP; rw [HV0.out, if_pos rfl, HSC.out]; rfl
          obtain rfl : ans = ⟨0, 0, [], [], 25⟩ := by rw [← HANS.out, hf1]; rfl
          obtain ⟨⟨hz0, hz1, hz2, hz3⟩, hq0, hq1, hq2, hq3⟩ := RF.cells HF.out
          clear hf1
          go_wp2
          refine bodyPost_ret (results_ct rfl _ _ _ _ _ _ _ rfl (put4 HF.out.2.1 (.int .i64 0) (.int .i64 0) (.slice none 0 0) (.slice none 0 0)) Try.underlying33 rfl info33) rfl ?_
          exact ⟨none, 0, none, 0, by rfl, Nat.le_refl _, C_none _, Nat.le_refl _, C_none _, HF.out.1.2.2.2.2.trans (below4 (Nat.le_refl _) _ _ _ _ _)⟩
        case inl =>
          obtain ⟨T, hT⟩ : ∃ T, searchP (vd vs) 64 gd ((n : Int) - 1) ps = T := ⟨_, rfl⟩
          have hfin : ansO (findP (vd vs) n) = ansO (some T) := by
            unfold findP; rw [HV0.out, if_pos rfl, HSC.out]; rw [if_pos rfl, hT]
          have HFIN := Aside0.mk hfin
          have HT := Aside0.mk hT
          have HNX := Aside0.mk (rnext _ _ vs ps gd ((n : Int) - 1) w wr HF.out hg0 (by omega) (by omega) (by omega))
          clear hT hfin
          go_wp2_with (first
            | (go_at_call 23; refine HNX.out.mono ?_; rintro e W4 ⟨rfl, hS4⟩; have HS4 := Aside0.mk hS4; clear hS4))
          clear HNX dk
          go_loopg [6, 8, 9] 64 (fun k v6 v8 v9 wr => ∃ (gd bd : Int) (ps : List Int), v6 = .int .i64 gd ∧ v8 = .int .i64 bd ∧ v9 = .int .i64 (nxt (nextP ps gd bd)) ∧ Aside0 (RF w.heap.size g vs w wr ps) ∧ 0 ≤ gd ∧ gd < bd ∧ bd ≤ (n : Int) - 1 ∧ ps.length + k ≤ 200 ∧
            Aside0 (left ps gd bd ≤ k ∧ searchP (vd vs) k gd bd ps = T))
          case atStart => exact ⟨gd, (n : Int) - 1, ps, rfl, rfl, rfl, HS4, hg0, hg2, by omega, by omega, ⟨left_le _ _ _, HT.out⟩⟩
          case round =>
            obtain ⟨gd, bd, ps, rfl, rfl, rfl, HF, hg0, hgb, hbn, hpl, HL⟩ := hrel
            have hb64 : bd ≤ 64 := by omega
            obtain ⟨iv, hiv⟩ : ∃ iv, nxt (nextP ps gd bd) = iv := ⟨_, rfl⟩
            rw [hiv]
            cases ho : nextP ps gd bd
            case none =>
              obtain rfl : iv = -1 := by rw [← hiv, ho]; rfl
              have HO := Aside0.mk ho
              clear ho hiv
              have hTT : T = (gd, bd, ps) := by rw [← HL.out.2]; exact searchP_none HO.out _
              subst hTT
              obtain ⟨⟨A9, c9, v9, hbg, -, hR9⟩, -⟩ := HF.out.1
              obtain ⟨A1, c1, rfl, hA1, hC1⟩ := Kd.R_reads hR9
              have hco : wr.cell? ⟨g, 1, none⟩ = some (.slice A1 ps.length c1) := (blk_cell hbg 1).trans rfl
              have l1 := World.block_lt_of_cell? wr _ hco
              have HRP := Aside0.mk hR9
              clear hbg hR9 hC1 hA1
              have HRF := Aside0.mk HF.out
              clear HF HL HO
              generalize wr = W6 at *
              go_upto_region 25 with fail
              have hb7 : (W6.alloc (.cells #[.int .i64 gd, .int .i64 bd, .slice none 0 0, .slice A1 ps.length c1] 33)).heap[W6.heap.size]? = some (.cells #[.int .i64 gd, .int .i64 bd, .slice none 0 0, .slice A1 ps.length c1] 33 (0, 0)) := blk_new _ _
              have hB7 : Below W6.heap.size W6 (W6.alloc (.cells #[.int .i64 gd, .int .i64 bd, .slice none 0 0, .slice A1 ps.length c1] 33)) := (Below.refl _ W6).alloc (Nat.le_refl _) _
              generalize W6.alloc (.cells #[.int .i64 gd, .int .i64 bd, .slice none 0 0, .slice A1 ps.length c1] 33) = W7 at hb7 hB7 ⊢
              obtain ⟨Ba, hBa⟩ : ∃ Ba, W6.heap.size = Ba := ⟨_, rfl⟩
              rw [hBa] at hb7 hB7 l1 ⊢
              have HB7 := Aside0.mk hB7
              have Hb7 := Aside0.mk hb7
              have HBA := Aside0.mk hBa
              have hlen := betw_length gd bd
              have HLENB := Aside0.mk hlen
              clear hb7 hB7 hco hBa hlen l1
              go_wp2_with fail
              go_loopw [11] (fun iv wr => ∃ (k : Nat) (v : Value), (k : Int) ≤ bd - gd - 1 ∧ iv = .int .i64 (gd + 1 + (k : Int)) ∧ Aside0 (wr.heap[Ba]? = some (.cells #[.int .i64 gd, .int .i64 bd, v, .slice A1 ps.length c1] 33 (0, 0)) ∧ Kd.R (Kd.int .i64) 3 wr Ba (fun k => k ≠ Ba) v ((betw gd bd).take k)) ∧
                  Aside0 (Below Ba W6 wr)) (fun iv _ => (bd - intOf iv).toNat)
              case atStart => exact ⟨0, .slice none 0 0, by omega, by simp, ⟨Hb7.out, by simpa using Kd.R_nil (Kd.int .i64) 3 W7 Ba (fun k => k ≠ Ba)⟩, HB7⟩
              case round =>
                obtain ⟨k, v, hk, rfl, HW, HB⟩ := hrel
                have hv8 : wr.cell? ⟨Ba, 2, none⟩ = some v := (blk_cell HW.out.1 2).trans rfl
                by_cases ck : gd + 1 + (k : Int) < bd
                · have dk : decide (gd + 1 + (k : Int) < bd) = true := decide_eq_true ck
                  have hst := betw_succ gd bd k (by omega)
                  have hln : ((betw gd bd).take k).length = k := List.length_take_of_le (by rw [HLENB.out]; omega)
                  generalize (betw gd bd).take k = cs at HW hst hln
                  have HST := Aside0.mk hst
                  have HLN := Aside0.mk hln
                  clear hst hln
                  go_wp2_with (first
                    | ((with_reducible refine gate_builtin (b := .append) (xs := #[.tmp 84, .tmp 86]) rfl ?_); at_builtin
                       refine app_b Ba Ba 33 wr rfl (.tmp 84) (.tmp 86) rfl v cs (gd + 1 + (k : Int)) rfl rfl _ _ _ HW.out.1 (Nat.le_refl _) HW.out.2 (by rw [HLN.out]; omega) ?_
                       intro A1 k1 w1 hc1 hf1 HF))
                  refine ⟨⟨k + 1, .slice A1 (cs.length + 1) k1, by omega, by simp; omega, ⟨HF.out.1, by rw [HST.out]; exact HF.out.2.1⟩, ⟨HB.out.trans HF.out.2.2⟩⟩, by simp [intOf]; omega⟩
                · have dk : decide (gd + 1 + (k : Int) < bd) = false := decide_eq_false ck
                  have hall : (betw gd bd).take k = betw gd bd := List.take_of_length_le (by rw [HLENB.out]; omega)
                  rw [hall] at HW
                  obtain ⟨A2, k2, rfl, hA2, hC2⟩ := Kd.R_reads HW.out.2
                  have he0 : wr.cell? ⟨Ba, 0, none⟩ = some (.int .i64 gd) := (blk_cell HW.out.1 0).trans rfl
                  have he1 : wr.cell? ⟨Ba, 1, none⟩ = some (.int .i64 bd) := (blk_cell HW.out.1 1).trans rfl
                  have he3 : wr.cell? ⟨Ba, 3, none⟩ = some (.slice A1 ps.length c1) := (blk_cell HW.out.1 3).trans rfl
                  have hlr : w.heap.size < Ba := by have := blk_lt HRF.out.2.1; have := HBA.out; omega
                  have hbr := (HB.out.block _ hlr).trans HRF.out.2.1
                  have hz0 : wr.cell? ⟨w.heap.size, 0, none⟩ = some (.int .i64 0) := (blk_cell hbr 0).trans rfl
                  have hz1 : wr.cell? ⟨w.heap.size, 1, none⟩ = some (.int .i64 0) := (blk_cell hbr 1).trans rfl
                  have hz2 : wr.cell? ⟨w.heap.size, 2, none⟩ = some (.slice none 0 0) := (blk_cell hbr 2).trans rfl
                  have hz3 : wr.cell? ⟨w.heap.size, 3, none⟩ = some (.slice none 0 0) := (blk_cell hbr 3).trans rfl
                  have hq0 := blk_frozen hbr 0
                  have hq1 := blk_frozen hbr 1
                  have hq2 := blk_frozen hbr 2
                  have hq3 := blk_frozen hbr 3
                  have HC2 := Aside0.mk hC2
                  have HA2 := Aside0.mk hA2
                  have HBR := Aside0.mk hbr
                  clear hbr hC2 hA2 hall HLENB
                  go_wp2_with fail
                  obtain rfl : ans = ⟨gd, bd, betw gd bd, ps, 0⟩ := by rw [← HANS.out, HFIN.out]; rfl
                  have hfar : ∀ j, j ≠ w.heap.size → ((((wr.setCell ⟨w.heap.size, 0, none⟩ (.int .i64 gd)).setCell ⟨w.heap.size, 1, none⟩ (.int .i64 bd)).setCell ⟨w.heap.size, 2, none⟩ (.slice A2 (betw gd bd).length k2)).setCell ⟨w.heap.size, 3, none⟩ (.slice A1 ps.length c1)).heap[j]? = wr.heap[j]? :=
                    fun j hj => (Below.heap_setCell _ _ _ _ hj).trans ((Below.heap_setCell _ _ _ _ hj).trans ((Below.heap_setCell _ _ _ _ hj).trans (Below.heap_setCell _ _ _ _ hj)))
                  have hput := put4 (W := wr) HBR.out (.int .i64 gd) (.int .i64 bd) (.slice A2 (betw gd bd).length k2) (.slice A1 ps.length c1)
                  have hbel := below4 (n0 := w.heap.size) (Nat.le_refl _) wr (.int .i64 gd) (.int .i64 bd) (.slice A2 (betw gd bd).length k2) (.slice A1 ps.length c1)
                  generalize ((((wr.setCell ⟨w.heap.size, 0, none⟩ (.int .i64 gd)).setCell ⟨w.heap.size, 1, none⟩ (.int .i64 bd)).setCell ⟨w.heap.size, 2, none⟩ (.slice A2 (betw gd bd).length k2)).setCell ⟨w.heap.size, 3, none⟩ (.slice A1 ps.length c1)) = F at hfar hput hbel ⊢
                  refine bodyPost_ret (results_ct rfl _ _ _ _ _ _ _ rfl hput Try.underlying33 rfl info33) rfl ?_
                  have r2 : Kd.R (Kd.int .i64) 3 F Ba (fun _ => True) (.slice A2 (betw gd bd).length k2) (betw gd bd) := by
                    refine Kd.R_mono (Kd.R_step (Kd.R_bound HW.out.2) (fun j hj hl => ?_)) (fun _ _ => trivial)
                    obtain ⟨-, h2, -⟩ := hj
                    exact hfar j (by omega)
                  have r1 : Kd.R (Kd.int .i64) 3 F w.heap.size (fun _ => True) (.slice A1 ps.length c1) ps := by
                    refine Kd.R_mono (Kd.R_step (Kd.R_bound HRP.out) (fun j hj hl => ?_)) (fun _ _ => trivial)
                    obtain ⟨h1, h2, h3, q, -, cells, hc⟩ := hj
                    have h6 := HRF.out.1.2.1
                    exact (hfar j (by omega)).trans (HB.out.block j (by have := HBA.out; omega))
                  obtain ⟨-, q1, q2⟩ := Kd.R_reads' r2
                  obtain ⟨-, q3, q4⟩ := Kd.R_reads' r1
                  exact ⟨A2, k2, A1, c1, by rfl, q1, q2, q3, q4, HRF.out.1.2.2.2.2.trans ((HB.out.mono (by omega)).trans hbel)⟩
            case some i =>
              obtain rfl : iv = i := by rw [← hiv, ho]; rfl
              have HO := Aside0.mk ho
              clear ho hiv
              have hzb := nextP_some HO.out
              have hll := HL.out.1
              have hlt0 : 0 < left ps gd bd := by have := left_lt hg0 hb64 hzb (Int.le_refl gd) (Int.le_refl bd); omega
              obtain ⟨k, rfl⟩ : ∃ k, gk = k + 1 := ⟨gk - 1, by omega⟩
              have HT1 : Aside0 ((if vd vs iv = 0 then searchP (vd vs) k iv bd (ps ++ [iv]) else if vd vs iv = 1 then searchP (vd vs) k gd iv (ps ++ [iv]) else searchP (vd vs) k gd bd (ps ++ [iv])) = T) := ⟨by
                have := HL.out.2
                unfold searchP at this
                rw [HO.out] at this
                exact this⟩
              have HASK := Aside0.mk (rprobe _ _ vs ps iv w wr HF.out (by omega) (by have := HLEN.out; omega) (by omega))
              have hi0 : 0 ≤ iv := by omega
              have hpl1 : (ps ++ [iv]).length + k ≤ 200 := by rw [List.length_append, List.length_singleton]; omega
              have HL1 := Aside0.mk (show left (ps ++ [iv]) iv bd ≤ k by have := left_lt (g' := iv) (b' := bd) hg0 hb64 hzb (by omega) (by omega); omega)
              have HL2 := Aside0.mk (show left (ps ++ [iv]) gd iv ≤ k by have := left_lt (g' := gd) (b' := iv) hg0 hb64 hzb (by omega) (by omega); omega)
              have HL3 := Aside0.mk (show left (ps ++ [iv]) gd bd ≤ k by have := left_lt (g' := gd) (b' := bd) hg0 hb64 hzb (by omega) (by omega); omega)
              obtain ⟨hz1, hz2, -⟩ := hzb
              obtain ⟨v, hv⟩ : ∃ v, vd vs iv = v := ⟨_, rfl⟩
              have hvc := vd_cases vs iv
              rw [hv] at HASK hvc HT1
              clear hv hll hlt0 HL HO
              have key : ∀ (gd' bd' : Int), (v = 0 ∧ gd' = iv ∧ bd' = bd) ∨ (v = 1 ∧ gd' = gd ∧ bd' = iv) ∨ (v = 2 ∧ gd' = gd ∧ bd' = bd) →
                  Aside0 (gd ≤ gd' ∧ gd' < bd' ∧ bd' ≤ (n : Int) - 1 ∧ left (ps ++ [iv]) gd' bd' ≤ k ∧ searchP (vd vs) k gd' bd' (ps ++ [iv]) = T) := by
                intro gd' bd' h
                have ht := HT1.out
                rcases h with ⟨rfl, rfl, rfl⟩ | ⟨rfl, rfl, rfl⟩ | ⟨rfl, rfl, rfl⟩
                · exact ⟨by omega, by omega, by omega, HL1.out, by simpa using ht⟩
                · exact ⟨by omega, by omega, by omega, HL2.out, by simpa using ht⟩
                · exact ⟨by omega, by omega, by omega, HL3.out, by simpa using ht⟩
              have KEY := Aside0.mk key
              clear key HL1 HL2 HL3 HT1
              rcases hvc with rfl | rfl | rfl
              · have HK := KEY.out iv bd (.inl ⟨rfl, rfl, rfl⟩)
                have HNX : ∀ W4, RF w.heap.size g vs w W4 (ps ++ [iv]) → _ := fun W4 h => rnext _ _ vs (ps ++ [iv]) iv bd w W4 h (by omega) (by omega) (by omega) (by omega)
                have HNX := Aside0.mk HNX
                clear KEY
                go_wp2_with (first
                  | (go_at_call 22; refine HASK.out.mono ?_; rintro e W4 ⟨rfl, hS4⟩; have HS4 := Aside0.mk hS4; clear hS4)
                  | (go_at_call 23; refine (HNX.out _ HS4.out).mono ?_; rintro e W5 ⟨rfl, hS5⟩; have HS5 := Aside0.mk hS5; clear hS5))
                go_roundg k
                case measure => omega
                case rel => exact ⟨iv, bd, ps ++ [iv], rfl, rfl, rfl, HS5, by omega, HK.out.2.1, HK.out.2.2.1, hpl1, ⟨HK.out.2.2.2.1, HK.out.2.2.2.2⟩⟩
              · have HK := KEY.out gd iv (.inr (.inl ⟨rfl, rfl, rfl⟩))
                have HNX : ∀ W4, RF w.heap.size g vs w W4 (ps ++ [iv]) → _ := fun W4 h => rnext _ _ vs (ps ++ [iv]) gd iv w W4 h (by omega) (by omega) (by omega) (by omega)
                have HNX := Aside0.mk HNX
                clear KEY
                go_wp2_with (first
                  | (go_at_call 22; refine HASK.out.mono ?_; rintro e W4 ⟨rfl, hS4⟩; have HS4 := Aside0.mk hS4; clear hS4)
                  | (go_at_call 23; refine (HNX.out _ HS4.out).mono ?_; rintro e W5 ⟨rfl, hS5⟩; have HS5 := Aside0.mk hS5; clear hS5))
                go_roundg k
                case measure => omega
                case rel => exact ⟨gd, iv, ps ++ [iv], rfl, rfl, rfl, HS5, by omega, HK.out.2.1, HK.out.2.2.1, hpl1, ⟨HK.out.2.2.2.1, HK.out.2.2.2.2⟩⟩
              · have HK := KEY.out gd bd (.inr (.inr ⟨rfl, rfl, rfl⟩))
                have HNX : ∀ W4, RF w.heap.size g vs w W4 (ps ++ [iv]) → _ := fun W4 h => rnext _ _ vs (ps ++ [iv]) gd bd w W4 h (by omega) (by omega) (by omega) (by omega)
                have HNX := Aside0.mk HNX
                clear KEY
                go_wp2_with (first
                  | (go_at_call 22; refine HASK.out.mono ?_; rintro e W4 ⟨rfl, hS4⟩; have HS4 := Aside0.mk hS4; clear hS4)
                  | (go_at_call 23; refine (HNX.out _ HS4.out).mono ?_; rintro e W5 ⟨rfl, hS5⟩; have HS5 := Aside0.mk hS5; clear hS5))
                go_roundg k
                case measure => omega
                case rel => exact ⟨gd, bd, ps ++ [iv], rfl, rfl, rfl, HS5, by omega, HK.out.2.1, HK.out.2.2.1, hpl1, ⟨HK.out.2.2.2.1, HK.out.2.2.2.2⟩⟩
end Go.Proofs.Ytljjkdlnkklibaa.BisRFind
