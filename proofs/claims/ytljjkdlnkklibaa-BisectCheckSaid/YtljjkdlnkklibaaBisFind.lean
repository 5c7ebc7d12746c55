/- bisect.Find: walked. -/
import Derived.Lib.SliceRun
import Derived.Test.YtljjkdlnkklibaaProg
import Derived.Below
import Derived.Deep.Draws
import Derived.Deep.AppendLies
import Derived.Maps.AppendAt
import Derived.OwnWalk
import Derived.Laws.BytesArg
import Derived.Laws.MakeOwn
import Derived.Laws.OwnMore
import Derived.Deep.OwnRows
import Derived.Tactics
import Derived.Lib.ConvBytes
import Derived.Laws.Slices
import Derived.WalkKit
import Derived.KernelRfl
import Derived.RowKit3
import Derived.Deep.LoopGhost
import Derived.Deep.QuietTactic
import Derived.BigQuiet
import Derived.WideLaws
import Derived.Deep.DeepCutAuto
import Derived.Deep.CutBlock
import Derived.BigQuiet
import Derived.Deep.RegionHeld3
import Derived.Laws.Rows
import Derived.Lib.AppendStr
import Derived.ArgAppend
import Derived.Laws.IdiomCopy
import Derived.OrdersHeld
import Derived.Laws.BitsLemmas
import Derived.RowKit
import Derived.Test.YtljjkdlnkklibaaPw
import Derived.Test.YtljjkdlnkklibaaWWords
import Derived.Test.YtljjkdlnkklibaaWLast
import Derived.Test.YtljjkdlnkklibaaWTab
import Derived.Test.YtljjkdlnkklibaaWFour
import Derived.Test.YtljjkdlnkklibaaWQPut
import Derived.Test.YtljjkdlnkklibaaWApart
import Derived.Test.YtljjkdlnkklibaaWArr
import Derived.Test.YtljjkdlnkklibaaWZeros
import Derived.Test.YtljjkdlnkklibaaWFoot
import Derived.Test.YtljjkdlnkklibaaWKept
import Derived.Test.YtljjkdlnkklibaaWShare
import Derived.Test.YtljjkdlnkklibaaWN
import Derived.Test.YtljjkdlnkklibaaWFootNe
import Derived.Test.YtljjkdlnkklibaaWAt
import Derived.Test.YtljjkdlnkklibaaWEqStruct
import Derived.Test.YtljjkdlnkklibaaWRepsOne
import Derived.Test.YtljjkdlnkklibaaWInv
import Derived.Test.YtljjkdlnkklibaaWInvWords
import Derived.Test.YtljjkdlnkklibaaWGuard
import Derived.Test.YtljjkdlnkklibaaWNEv
import Derived.Test.YtljjkdlnkklibaaWMore
import Derived.Test.YtljjkdlnkklibaaBisPlain
import Derived.Maps.OwnSet
import Derived.Test.YtljjkdlnkklibaaBisAsk
import Derived.RangeFuncNested
import Derived.RangeFuncBound
import Derived.RangeFuncBox
import Derived.RangeFuncCalls
import Derived.RangeFuncLeaves
import Derived.Shelf.Abstract
import Derived.Shelf.RegionOpen
import Derived.OwnWalkIn
import Derived.TacticsInMore
import Derived.LoopNIn
import Derived.LoopIn
import Derived.Maps.OwnIn
import Derived.Test.YtljjkdlnkklibaaBisCand
import Derived.Deep.CutBlock
import Derived.BigQuiet
import Derived.RangeFuncWrites
import Derived.Test.YtljjkdlnkklibaaBisSt
import Derived.Test.YtljjkdlnkklibaaBisLoop
namespace Go.Proofs.Ytljjkdlnkklibaa.BisFind
open Go.RowKit Go.Shelf Go.Maps Go.Proofs.YtljjkdlnkklibaaW.PrintWords Go.Proofs.YtljjkdlnkklibaaW.PrintLast Go.Proofs.YtljjkdlnkklibaaW.PrintMore Go.Proofs.Ytljjkdlnkklibaa.BisPlain Go.Proofs.Ytljjkdlnkklibaa.BisAsk Go.Proofs.Ytljjkdlnkklibaa.BisCand Go.Proofs.Ytljjkdlnkklibaa.BisSt Go.Proofs.Ytljjkdlnkklibaa.BisLoop
set_option linter.unusedVariables false

set_option maxHeartbeats 4000000 in
set_option maxRecDepth 100000 in
theorem Find_c (Bl : Nat) (vs : List Int) (n : Int) (w : World) (hL : Lst w.heap.size Bl vs w) (h2 : 2 ≤ n) (h64 : n ≤ 64) :
    Calls Try.prog 10 #[.int .i64 n, pv Bl] w fun e w' => Res w e w' (ansP (vd vs) n) := by
  have hA : ansP (vd vs) n = ansO (findP (vd vs) n) := by unfold ansP; rw [if_neg (by omega)]
  rw [hA]
  obtain ⟨ans, hans⟩ : ∃ ans, ansO (findP (vd vs) n) = ans := ⟨_, rfl⟩
  rw [hans]
  have HANS := Aside0.mk hans
  clear hans
  refine (callsIn_wide (n := 6)).1 ?_
  refine callsIn_of_wp_marks Try.func10 rfl trivial ?_ rfl
  simp only [Try.ntmps10, List.size_toArray, List.length_cons, List.length_nil, Nat.reduceAdd, Nat.reduceSub, Array.replicate_succ, Array.replicate_zero, List.push_toArray, List.append_toArray, List.nil_append, List.cons_append]
  refine wpIn_wide.2 ?_
  unfold pv
  have hmm := @run_makeMap Try.prog
  have HL := Aside0.mk hL
  have HA := Aside0.mk hA
  have H2 := Aside0.mk h2
  have H64 := Aside0.mk h64
  clear hL hA
  go_upto_region 5 with (first
    | (go_at_call 18; refine (possible_c n Bl _).mono ?_; rw [if_neg (by have := H2.out; have := H64.out; omega)]; rintro e w1 ⟨rfl, rfl⟩))
  clear hmm
  have hsub : wrap64 (n - 1) = n - 1 := by unfold wrap64; omega
  obtain ⟨W1, hW1⟩ : ∃ W1, (((w.alloc (.cells #[.int .i64 0, .int .i64 0, .slice none 0 0, .slice none 0 0] 27)).alloc (.map #[] 0)).alloc (.cells #[.func (.func 21) #[] #[.pointer (some ⟨Bl, 0, none⟩)], .map (some (w.heap.size + 1)), .slice none 0 0] 50)).alloc
      (.cells #[.pointer (some ⟨w.heap.size + 1 + 1, 0, none⟩)] 47) = W1 := ⟨_, rfl⟩
  have hF0 : FS w.heap.size w.heap.size (w.heap.size + 1) (w.heap.size + 1 + 1) (w.heap.size + 1 + 1 + 1) Bl (fun k => w.heap.size + 1 + 1 + 1 < k) vs w W1 [] := by
    have b1 := blk_new w (.cells #[.int .i64 0, .int .i64 0, .slice none 0 0, .slice none 0 0] 27)
    have b2 := World.ownsMap_made (H := Unit) (w.alloc (.cells #[.int .i64 0, .int .i64 0, .slice none 0 0, .slice none 0 0] 27)) Try.prog 3 (plainElem Try.prog 3)
    have b3 := blk_new ((w.alloc (.cells #[.int .i64 0, .int .i64 0, .slice none 0 0, .slice none 0 0] 27)).alloc (.map #[] 0)) (.cells #[.func (.func 21) #[] #[.pointer (some ⟨Bl, 0, none⟩)], .map (some (w.heap.size + 1)), .slice none 0 0] 50)
    have b4 := blk_new (((w.alloc (.cells #[.int .i64 0, .int .i64 0, .slice none 0 0, .slice none 0 0] 27)).alloc (.map #[] 0)).alloc (.cells #[.func (.func 21) #[] #[.pointer (some ⟨Bl, 0, none⟩)], .map (some (w.heap.size + 1)), .slice none 0 0] 50))
      (.cells #[.pointer (some ⟨w.heap.size + 1 + 1, 0, none⟩)] 47)
    have hB : Below w.heap.size w W1 := by rw [← hW1]; exact ((((Below.refl _ w).alloc (Nat.le_refl _) _).alloc (by simp) _).alloc (by simp; omega) _).alloc (by simp; omega) _
    simp only [World.size_alloc] at b2 b3 b4
    refine ⟨⟨_, ?_, by omega, by omega, ?_, Kd.R_nil _ _ _ _ _⟩, ?_, ?_, HL.out.below hB, hB, by omega⟩
    · rw [← hW1]; exact blk_alloc b3 _
    · rw [← hW1]; exact (b2.alloc _).alloc _
    · rw [← hW1]; exact blk_alloc (blk_alloc (blk_alloc b1 _) _) _
    · rw [← hW1]; exact b4
  have hs1 : W1.heap.size = w.heap.size + 4 := by rw [← hW1]; simp
  rw [hW1]
  generalize w.heap.size + 1 + 1 + 1 = Bx at hF0 ⊢
  generalize w.heap.size + 1 + 1 = g at hF0 ⊢
  clear hW1 hs1
  have hcx : W1.cell? ⟨Bx, 0, none⟩ = some (.pointer (some ⟨g, 0, none⟩)) := (blk_cell hF0.2.2.1 0).trans rfl
  have HF0 := Aside0.mk hF0
  have HASK := Aside0.mk (ask_f _ _ _ _ _ _ _ vs [] (n - 1) w W1 hF0 (fun k hk => hk) (fun k hk => by have := blk_lt hF0.2.2.1; omega) ⟨by omega, by omega⟩ (by decide))
  clear hF0
  obtain ⟨v0, hv0⟩ : ∃ v0, vd vs (n - 1) = v0 := ⟨_, rfl⟩
  rw [hv0] at HASK
  have HV0 := Aside0.mk hv0
  clear hv0
  by_cases c1 : v0 = 1
  · subst c1
    go_upto_block 0 with (first
      | (go_at_call 19; refine HASK.out.mono ?_; rintro e W2 ⟨rfl, hF2, hB2, -, -⟩; have hcx2 : W2.cell? ⟨Bx, 0, none⟩ = some (.pointer (some ⟨g, 0, none⟩)) := (blk_cell hF2.2.2.1 0).trans rfl; have HF2 := Aside0.mk hF2; have HB2 := Aside0.mk hB2; clear hF2 hB2))
    have hlt2 := blk_lt HF2.out.2.2.1
    have hS0 : SS w.heap.size w.heap.size (w.heap.size + 1) g Bx Bl W2.heap.size (W2.heap.size + 1) (fun k => Bx < k ∧ k ≠ W2.heap.size ∧ k ≠ W2.heap.size + 1) vs w 0 (n - 1) ([] ++ [n - 1])
        ((W2.alloc (.cells #[.int .i64 0] 3)).alloc (.cells #[.int .i64 (n - 1)] 3)) := by
      have hle := HB2.out.size
      have hn0 : w.heap.size ≤ W2.heap.size := HF2.out.2.2.2.2.1.size
      have a1 := blk_new W2 (.cells #[.int .i64 0] 3)
      have a2 := blk_new (W2.alloc (.cells #[.int .i64 0] 3)) (.cells #[.int .i64 (n - 1)] 3)
      rw [World.size_alloc] at a2
      refine ⟨FS.move (FS.ok_mono HF2.out (fun k hk hb => ⟨hb, by omega, by omega⟩)) (fun k hk _ => ?_) (((Below.refl _ W2).alloc hn0 _).alloc (by simp; omega) _), blk_alloc a1 _, a2, by omega, by omega, by omega, fun k hk => hk, fun k hk => by simp at hk; omega⟩
      exact (Below.heap_alloc _ _ _ (by simp; omega)).trans (Below.heap_alloc _ _ _ hk)
    generalize ((W2.alloc (.cells #[.int .i64 0] 3)).alloc (.cells #[.int .i64 (n - 1)] 3)) = W3 at hS0 ⊢
    generalize hok1 : (fun k => Bx < k ∧ k ≠ W2.heap.size ∧ k ≠ W2.heap.size + 1) = ok1 at hS0
    generalize W2.heap.size + 1 = Bb at hS0 ⊢
    generalize W2.heap.size = Bg at hS0 ⊢
    have HS0 := Aside0.mk hS0
    have HOK1 := Aside0.mk hok1
    clear hS0 hok1 HF2 HB2 hcx2 hlt2 HASK HF0
    go_cut [] from 33 to 43 (fun wx => ∃ (gd : Int) (ps : List Int) (v : Int), Aside0 (scanP (vd vs) (n - 1).toNat 0 [n - 1] = (gd, ps, v)) ∧ Aside0 (SS w.heap.size w.heap.size (w.heap.size + 1) g Bx Bl Bg Bb ok1 vs w gd (n - 1) ps wx) ∧
        ((gd = n - 1 ∧ v = 2) ∨ (0 ≤ gd ∧ gd < n - 1 ∧ ∃ ps', Aside0 (ps = ps' ++ [gd] ∧ v = vd vs gd))) ∧ ps.length ≤ 100)
    case first =>
      go_wp2_with fail
      go_loopg [] (n - 1).toNat (fun k wr => ∃ (gd : Int) (ps : List Int), Aside0 (scanP (vd vs) (n - 1).toNat 0 [n - 1] = scanP (vd vs) k gd ps) ∧ Aside0 (SS w.heap.size w.heap.size (w.heap.size + 1) g Bx Bl Bg Bb ok1 vs w gd (n - 1) ps wr) ∧
        0 ≤ gd ∧ (k : Int) = n - 1 - gd ∧ ps.length + k ≤ 100)
      case atStart => exact ⟨0, [n - 1], ⟨rfl⟩, HS0, by omega, by omega, by simp; omega⟩
      case round =>
        obtain ⟨gd, ps, HSC, HS, hg0, hk, hpl⟩ := hrel
        have hcg : wr.cell? ⟨Bg, 0, none⟩ = some (.int .i64 gd) := (blk_cell HS.out.2.1 0).trans rfl
        have hcb : wr.cell? ⟨Bb, 0, none⟩ = some (.int .i64 (n - 1)) := (blk_cell HS.out.2.2.1 0).trans rfl
        have hcx : wr.cell? ⟨Bx, 0, none⟩ = some (.pointer (some ⟨g, 0, none⟩)) := (blk_cell HS.out.1.2.2.1 0).trans rfl
        by_cases ck : gd < n - 1
        · have dk : decide (gd < n - 1) = true := decide_eq_true ck
          have HASK := Aside0.mk (ask_s _ _ _ _ _ _ _ _ _ _ ps gd (n - 1) gd w wr HS.out ⟨by omega, by omega⟩ (by omega))
          obtain ⟨v, hv⟩ : ∃ v, vd vs gd = v := ⟨_, rfl⟩
          rw [hv] at HASK
          have HV := Aside0.mk hv
          clear hv
          by_cases c2 : v = 2
          · subst c2
            go_wp2_with (first
              | (go_at_call 19; refine HASK.out.mono ?_; rintro e W4 ⟨rfl, hS4, -, -, -⟩; have hcg4 := (blk_cell hS4.2.1 0).trans rfl; have hfg4 := blk_frozen hS4.2.1 0; have HS4 := Aside0.mk hS4; clear hS4))
            have hk1 := HSC.out
            rw [show gk = (gk - 1) + 1 by omega, scanP, if_pos HV.out] at hk1
            go_roundg (gk - 1)
            case measure => omega
            case rel => exact ⟨gd + 1, ps ++ [gd], ⟨hk1⟩, ⟨SS.setg HS4.out (gd + 1)⟩, by omega, by omega, by rw [List.length_append, List.length_singleton]; omega⟩
          · have d2 : (v == 2) = false := beq_eq_false_iff_ne.mpr c2
            go_wp2_with (first
              | (go_at_call 19; refine HASK.out.mono ?_; rintro e W4 ⟨rfl, hS4, -, -, -⟩; have HS4 := Aside0.mk hS4; clear hS4))
            have hk1 := HSC.out
            rw [show gk = (gk - 1) + 1 by omega, scanP, HV.out, if_neg c2] at hk1
            go_meet
            exact ⟨gd, ps ++ [gd], v, ⟨hk1⟩, HS4, .inr ⟨hg0, ck, ps, ⟨rfl, HV.out.symm⟩⟩, by rw [List.length_append, List.length_singleton]; omega⟩
        · have dk : decide (gd < n - 1) = false := decide_eq_false ck
          have hk1 := HSC.out
          rw [show gk = 0 by omega, scanP] at hk1
          have HK1 := Aside0.mk hk1
          clear hk1
          go_wp2
          go_meet
          exact ⟨gd, ps, 2, HK1, HS, .inl ⟨by omega, rfl⟩, by omega⟩
    case rest =>
      obtain ⟨gd, ps, v, HSC, HS, hcase, hpl⟩ := hcut
      have hcg : wc.cell? ⟨Bg, 0, none⟩ = some (.int .i64 gd) := (blk_cell HS.out.2.1 0).trans rfl
      have hcb : wc.cell? ⟨Bb, 0, none⟩ = some (.int .i64 (n - 1)) := (blk_cell HS.out.2.2.1 0).trans rfl
      have hcx : wc.cell? ⟨Bx, 0, none⟩ = some (.pointer (some ⟨g, 0, none⟩)) := (blk_cell HS.out.1.2.2.1 0).trans rfl
      have hz0 : wc.cell? ⟨w.heap.size, 0, none⟩ = some (.int .i64 0) := (blk_cell HS.out.1.2.1 0).trans rfl
      have hz1 : wc.cell? ⟨w.heap.size, 1, none⟩ = some (.int .i64 0) := (blk_cell HS.out.1.2.1 1).trans rfl
      have hz2 : wc.cell? ⟨w.heap.size, 2, none⟩ = some (.slice none 0 0) := (blk_cell HS.out.1.2.1 2).trans rfl
      have hz3 : wc.cell? ⟨w.heap.size, 3, none⟩ = some (.slice none 0 0) := (blk_cell HS.out.1.2.1 3).trans rfl
      have hq0 := blk_frozen HS.out.1.2.1 0
      have hq1 := blk_frozen HS.out.1.2.1 1
      have hq2 := blk_frozen HS.out.1.2.1 2
      have hq3 := blk_frozen HS.out.1.2.1 3
      rcases hcase with ⟨rfl, rfl⟩ | ⟨hg0, hgn, ps', hps'⟩
      · go_upto_region 10 with fail
        have hf1 : findP (vd vs) n = none := by unfold findP; rw [HV0.out, if_pos rfl, HSC.out]; rfl
        obtain rfl : ans = ⟨0, 0, [], [], 25⟩ := by rw [← HANS.out, hf1]; rfl
        clear hf1
        go_quiet (fail)
        go_wp2
        refine leaves_marks (n0 := w.heap.size) [] _ ⟨List.nodup_nil, by simp⟩ (fun W' hW' => ?_)
        have hb := hW'.2 _ _ (put4 (W := wc.drewN nq) HS.out.1.2.1 (.int .i64 0) (.int .i64 0) (.slice none 0 0) (.slice none 0 0)) rfl
        refine ⟨_, results_ct rfl _ _ _ _ _ _ _ rfl hb Try.underlying27 rfl info27, none, 0, none, 0, by rfl, Nat.le_refl _, C_none _, Nat.le_refl _, C_none _, (HS.out.1.2.2.2.2.1.trans ((show Below w.heap.size wc (wc.drewN nq) from ⟨rfl, rfl, rfl, Nat.le_refl _, fun _ _ => rfl⟩).trans (below4 (Nat.le_refl _) _ _ _ _ _))).trans hW'.1⟩
      · obtain ⟨ov, hb1, -, -, hown, -⟩ := HS.out.1.1
        have hcm : wc.cell? ⟨g, 1, none⟩ = some (.map (some (w.heap.size + 1))) := (blk_cell hb1 1).trans rfl
        have hkey := keyOf_int_mk Try.underlying3 (wf_small (x := gd) (by omega) (by omega))
        have hlk : ∀ k : Nat, (Instr.lookup 48 (.map (some (w.heap.size + 1))) (.int .i64 gd) false).run Try.prog (wc.drewN k) = .ok (.int .i64 v) (wc.drewN k) := fun k => by
          obtain ⟨c, hrun, hat, -⟩ := World.ownsMap.lookup_int (w := wc.drewN k) hown law3 Try.underlying48 Try.underlying3 (zero3 _) hkey
          have hcv : c = v := by
            rw [hps'.out.1, Dp_at, ← hps'.out.2] at hat
            injection hat with hat
            injection hat with _ hat
            exact hat.symm
          rw [← hcv]; exact hrun
        have dk : (gd == n - 1) = false := beq_eq_false_iff_ne.mpr (by omega)
        clear hown hkey hb1
        by_cases cv : v = 0
        · subst cv
          go_upto_region 10 with fail
          go_quiet (fail)
          have HSd : Aside0 (SS w.heap.size w.heap.size (w.heap.size + 1) g Bx Bl Bg Bb ok1 vs w gd (n - 1) ps (wc.drewN nq)) := ⟨SS.move HS.out (fun _ _ _ => rfl) ⟨rfl, rfl, rfl, Nat.le_refl _, fun _ _ => rfl⟩ HS.out.2.1 HS.out.2.2.1⟩
          generalize wc.drewN nq = wd at HSd ⊢
          clear hcg hcb hcx hz0 hz1 hz2 hz3 hq0 hq1 hq2 hq3 HS hlk hcm dk
          go_upto_block 2 with fail
          have hok1 : ∀ k, ok1 k → Bx < k ∧ k ≠ Bg ∧ k ≠ Bb := HSd.out.2.2.2.2.2.2.1
          have hlt1 := blk_lt HSd.out.1.2.2.1
          have hlt2 := blk_lt HSd.out.2.1
          have hlt3 := blk_lt HSd.out.2.2.1
          obtain ⟨T, hT⟩ : ∃ T, searchP (vd vs) 64 gd (n - 1) ps = T := ⟨_, rfl⟩
          have hI : Inv w.heap.size w.heap.size (w.heap.size + 1) g Bx Bl Bg Bb ok1 vs w T 65 [] gd (n - 1) ps true wd.heap.size (wd.alloc (.cells #[.bool true] 4)) := by
            have h' := SS.alloc HSd.out (.cells #[.bool true] 4)
            obtain ⟨h1, h2, h3, a1, a2, a3, h7, h8⟩ := HSd.out
            obtain ⟨f1, f2, f3, b1, b2, b3, f7, f8⟩ := h'
            refine ⟨⟨FS.move (FS.ok_mono h1 (fun k hk hc => ⟨hc, by omega⟩)) (fun k hk _ => Below.heap_alloc _ _ _ hk) ((Below.refl _ wd).alloc (by have := h1.2.2.2.2.2; omega) _), f2, f3, a1, a2, a3, fun k hk => hok1 k hk.1, fun k hk => ⟨f8 k hk, by simp at hk; omega⟩⟩, blk_new _ _, by omega, by omega, by omega, ⟨List.nodup_nil, by simp⟩, hg0, hgn, by omega, by omega, .inl ⟨rfl, 64, rfl, left_le _ _ _, hT⟩⟩
          have hfin : ansO (findP (vd vs) n) = ansO (some T) := by
            unfold findP; rw [HV0.out, if_pos rfl, HSC.out]; rw [if_pos rfl, hT]
          have HI := Aside0.mk hI
          have HFIN := Aside0.mk hfin
          clear hI hfin hT hlt1 hlt2 hlt3 HSd HSC HS0 HOK1
          go_wp2_with fail
          refine loop_c w.heap.size w.heap.size (w.heap.size + 1) g Bx Bl Bg Bb ok1 hok1 vs w T 65 gd (n - 1) ps _ _ HI.out _ _ _ _ _ _ _ _ _ _ _ _ _ _ _ _ _ _ _ _ _ _ _ _ _ _ _ _ _ _ _ _ _ _ _ _ _ _ _ _ _ _ _ _ _ _ _ _ _ _ _ _ _ _ _ _ _ _ _ _ _ _ _ _ _ _ _ _ _ _ _ _ _ _ _ _ _ _ _ _ _ _ _ _ _ _ _ _ _ _ ?_
          clear HI hpl hg0 hgn hps'
          intro u11 u57 u58 u59 u60 u61 u62 u63 u64 u65 u66 u67 u68 u69 u70 u71 u72 Bm Ds gd bd ps W6 hT hS hM hg0 hgb hb64 hpl
          subst hT
          dsimp only [Exit.inBlock, Exit.then]
          have hcx : W6.cell? ⟨Bx, 0, none⟩ = some (.pointer (some ⟨g, 0, none⟩)) := (blk_cell hS.1.2.2.1 0).trans rfl
          have hcg : W6.cell? ⟨Bg, 0, none⟩ = some (.int .i64 gd) := (blk_cell hS.2.1 0).trans rfl
          have hcb : W6.cell? ⟨Bb, 0, none⟩ = some (.int .i64 bd) := (blk_cell hS.2.2.1 0).trans rfl
          obtain ⟨ov, hbg, -, -, -, hR⟩ := hS.1.1
          obtain ⟨A, c, rfl, hAc, hC⟩ := Kd.R_reads hR
          have hco : W6.cell? ⟨g, 2, none⟩ = some (.slice A ps.length c) := (blk_cell hbg 2).trans rfl
          have HS := Aside0.mk hS
          have HRP := Aside0.mk hR
          have HM := Aside0.mk hM
          clear hS hbg hR hC hAc hM hok1
          have l1 := World.block_lt_of_cell? W6 _ hcx
          have l2 := World.block_lt_of_cell? W6 _ hcg
          have l3 := World.block_lt_of_cell? W6 _ hcb
          have l4 := World.block_lt_of_cell? W6 _ hco
          go_upto_region 25 with fail
          go_region
          have hb7 : (W6.alloc (.cells #[.int .i64 gd, .int .i64 bd, .slice none 0 0, .slice A ps.length c] 27)).drew.heap[W6.heap.size]? = some (.cells #[.int .i64 gd, .int .i64 bd, .slice none 0 0, .slice A ps.length c] 27 (0, 0)) := blk_new _ _
          have hB7 : Below W6.heap.size W6 (W6.alloc (.cells #[.int .i64 gd, .int .i64 bd, .slice none 0 0, .slice A ps.length c] 27)).drew := ((Below.refl _ W6).alloc (Nat.le_refl _) _).drew
          generalize (W6.alloc (.cells #[.int .i64 gd, .int .i64 bd, .slice none 0 0, .slice A ps.length c] 27)).drew = W7 at hb7 hB7 ⊢
          obtain ⟨Ba, hBa⟩ : ∃ Ba, W6.heap.size = Ba := ⟨_, rfl⟩
          rw [hBa] at hb7 hB7 l1 l2 l3 l4 ⊢
          have hcg7 : W7.cell? ⟨Bg, 0, none⟩ = some (.int .i64 gd) := (hB7.cell (p := ⟨Bg, 0, none⟩) l2).trans hcg
          have HB7 := Aside0.mk hB7
          have Hb7 := Aside0.mk hb7
          have HBA := Aside0.mk hBa
          have HCB := Aside0.mk hcb
          have hlen := betw_length gd bd
          have HLEN := Aside0.mk hlen
          clear hb7 hB7 hcg hcb hco hcx hBa hlen
          go_wp2_with fail
          go_loopw [13] (fun iv wr => ∃ (k : Nat) (v : Value), (k : Int) ≤ bd - gd - 1 ∧ iv = .int .i64 (gd + 1 + (k : Int)) ∧ Aside0 (wr.heap[Ba]? = some (.cells #[.int .i64 gd, .int .i64 bd, v, .slice A ps.length c] 27 (0, 0)) ∧ Kd.R (Kd.int .i64) 3 wr Ba (fun k => k ≠ Ba) v ((betw gd bd).take k)) ∧
              Aside0 (Below Ba W6 wr)) (fun iv _ => (bd - intOf iv).toNat)
          case atStart => exact ⟨0, .slice none 0 0, by omega, by simp, ⟨Hb7.out, by simpa using Kd.R_nil (Kd.int .i64) 3 W7 Ba (fun k => k ≠ Ba)⟩, HB7⟩
          case round =>
            obtain ⟨k, v, hk, rfl, HW, HB⟩ := hrel
            have hcb8 : wr.cell? ⟨Bb, 0, none⟩ = some (.int .i64 bd) := (HB.out.cell (p := ⟨Bb, 0, none⟩) l3).trans HCB.out
            have hv8 : wr.cell? ⟨Ba, 2, none⟩ = some v := (blk_cell HW.out.1 2).trans rfl
            by_cases ck : gd + 1 + (k : Int) < bd
            · have dk : decide (gd + 1 + (k : Int) < bd) = true := decide_eq_true ck
              have hst := betw_succ gd bd k (by omega)
              have hln : ((betw gd bd).take k).length = k := List.length_take_of_le (by rw [HLEN.out]; omega)
              generalize (betw gd bd).take k = cs at HW hst hln
              have HST := Aside0.mk hst
              have HLN := Aside0.mk hln
              clear hst hln
              go_wp2_with (first
                | ((with_reducible refine gate_builtin (b := .append) (xs := #[.tmp 88, .tmp 90]) rfl ?_); at_builtin
                   refine app_b Ba Ba 27 wr rfl (.tmp 88) (.tmp 90) rfl v cs (gd + 1 + (k : Int)) rfl rfl _ _ _ HW.out.1 (Nat.le_refl _) HW.out.2 (by rw [HLN.out]; omega) ?_
                   intro A1 k1 w1 hc1 hf1 HF))
              refine ⟨⟨k + 1, .slice A1 (cs.length + 1) k1, by omega, by simp; omega, ⟨HF.out.1, by rw [HST.out]; exact HF.out.2.1⟩, ⟨HB.out.trans HF.out.2.2⟩⟩, by simp [intOf]; omega⟩
            · have dk : decide (gd + 1 + (k : Int) < bd) = false := decide_eq_false ck
              have hall : (betw gd bd).take k = betw gd bd := List.take_of_length_le (by rw [HLEN.out]; omega)
              rw [hall] at HW
              obtain ⟨A2, k2, rfl, hA2, hC2⟩ := Kd.R_reads HW.out.2
              have he0 : wr.cell? ⟨Ba, 0, none⟩ = some (.int .i64 gd) := (blk_cell HW.out.1 0).trans rfl
              have he1 : wr.cell? ⟨Ba, 1, none⟩ = some (.int .i64 bd) := (blk_cell HW.out.1 1).trans rfl
              have he3 : wr.cell? ⟨Ba, 3, none⟩ = some (.slice A ps.length c) := (blk_cell HW.out.1 3).trans rfl
              have hlr : w.heap.size < Ba := by have := blk_lt HS.out.1.2.1; have := HBA.out; omega
              have hbr := (HB.out.block _ hlr).trans HS.out.1.2.1
              have hz0 : wr.cell? ⟨w.heap.size, 0, none⟩ = some (.int .i64 0) := (blk_cell hbr 0).trans rfl
              have hz1 : wr.cell? ⟨w.heap.size, 1, none⟩ = some (.int .i64 0) := (blk_cell hbr 1).trans rfl
              have hz2 : wr.cell? ⟨w.heap.size, 2, none⟩ = some (.slice none 0 0) := (blk_cell hbr 2).trans rfl
              have hz3 : wr.cell? ⟨w.heap.size, 3, none⟩ = some (.slice none 0 0) := (blk_cell hbr 3).trans rfl
              have hq0 := blk_frozen hbr 0
              have hq1 := blk_frozen hbr 1
              have hq2 := blk_frozen hbr 2
              have hq3 := blk_frozen hbr 3
              have HC2 := Aside0.mk hC2
              have HA2 := Aside0.mk hA2
              have HBR := Aside0.mk hbr
              clear hbr hC2 hA2 hall HLEN
              go_wp2_with fail
              obtain rfl : ans = ⟨gd, bd, betw gd bd, ps, 0⟩ := by rw [← HANS.out, HFIN.out]; rfl
              have hfar : ∀ j, j ≠ w.heap.size → ((((wr.setCell ⟨w.heap.size, 0, none⟩ (.int .i64 gd)).setCell ⟨w.heap.size, 1, none⟩ (.int .i64 bd)).setCell ⟨w.heap.size, 2, none⟩ (.slice A2 (betw gd bd).length k2)).setCell ⟨w.heap.size, 3, none⟩ (.slice A ps.length c)).heap[j]? = wr.heap[j]? :=
                fun j hj => (Below.heap_setCell _ _ _ _ hj).trans ((Below.heap_setCell _ _ _ _ hj).trans ((Below.heap_setCell _ _ _ _ hj).trans (Below.heap_setCell _ _ _ _ hj)))
              have hput := put4 (W := wr) HBR.out (.int .i64 gd) (.int .i64 bd) (.slice A2 (betw gd bd).length k2) (.slice A ps.length c)
              have hbel := below4 (n0 := w.heap.size) (Nat.le_refl _) wr (.int .i64 gd) (.int .i64 bd) (.slice A2 (betw gd bd).length k2) (.slice A ps.length c)
              generalize ((((wr.setCell ⟨w.heap.size, 0, none⟩ (.int .i64 gd)).setCell ⟨w.heap.size, 1, none⟩ (.int .i64 bd)).setCell ⟨w.heap.size, 2, none⟩ (.slice A2 (betw gd bd).length k2)).setCell ⟨w.heap.size, 3, none⟩ (.slice A ps.length c)) = F at hfar hput hbel ⊢
              refine leaves_marks (n0 := w.heap.size) Ds F ⟨HM.out.1, fun D hD => ⟨(HM.out.2 D hD).1, ?_⟩⟩ (fun W' hW' => ?_)
              · have h1 := (HM.out.2 D hD).2
                refine (hfar D (by rintro rfl; rw [HS.out.1.2.1] at h1; cases h1)).trans ((HB.out.block D (by have := blk_lt h1; have := HBA.out; omega)).trans h1)
              · have hb := hW'.2 _ _ hput rfl
                have r2 : Kd.R (Kd.int .i64) 3 W' Ba (fun _ => True) (.slice A2 (betw gd bd).length k2) (betw gd bd) := by
                  refine Kd.R_mono (Kd.R_step (Kd.R_bound HW.out.2) (fun j hj hl => ?_)) (fun _ _ => trivial)
                  obtain ⟨-, h2, -, q, -, cells, hc⟩ := hj
                  rw [hc]; exact hW'.2 _ _ ((hfar j (by omega)).trans hc) rfl
                have r1 : Kd.R (Kd.int .i64) 3 W' w.heap.size (fun _ => True) (.slice A ps.length c) ps := by
                  refine Kd.R_mono (Kd.R_step (Kd.R_bound HRP.out) (fun j hj hl => ?_)) (fun _ _ => trivial)
                  obtain ⟨h1, h2, h3, q, -, cells, hc⟩ := hj
                  have h5 := (HS.out.2.2.2.2.2.2.1 j h1).1
                  have h6 := HS.out.1.2.2.2.2.2.2.1
                  rw [hc]; exact hW'.2 _ _ ((hfar j (by omega)).trans ((HB.out.block j (by have := HBA.out; omega)).trans hc)) rfl
                obtain ⟨-, q1, q2⟩ := Kd.R_reads' r2
                obtain ⟨-, q3, q4⟩ := Kd.R_reads' r1
                exact ⟨_, results_ct rfl _ _ _ _ _ _ _ rfl hb Try.underlying27 rfl info27, A2, k2, A, c, by rfl, q1, q2, q3, q4, HS.out.1.2.2.2.2.1.trans ((HB.out.mono (by omega)).trans (hbel.trans hW'.1))⟩
        · have d0 : (v != 0) = true := bne_iff_ne.mpr cv
          go_upto_region 10 with fail
          have hf1 : findP (vd vs) n = none := by unfold findP; rw [HV0.out, if_pos rfl, HSC.out]; exact if_neg cv
          obtain rfl : ans = ⟨0, 0, [], [], 25⟩ := by rw [← HANS.out, hf1]; rfl
          clear hf1
          go_quiet (fail)
          go_wp2
          refine leaves_marks (n0 := w.heap.size) [] _ ⟨List.nodup_nil, by simp⟩ (fun W' hW' => ?_)
          have hb := hW'.2 _ _ (put4 (W := wc.drewN nq) HS.out.1.2.1 (.int .i64 0) (.int .i64 0) (.slice none 0 0) (.slice none 0 0)) rfl
          refine ⟨_, results_ct rfl _ _ _ _ _ _ _ rfl hb Try.underlying27 rfl info27, none, 0, none, 0, by rfl, Nat.le_refl _, C_none _, Nat.le_refl _, C_none _, (HS.out.1.2.2.2.2.1.trans ((show Below w.heap.size wc (wc.drewN nq) from ⟨rfl, rfl, rfl, Nat.le_refl _, fun _ _ => rfl⟩).trans (below4 (Nat.le_refl _) _ _ _ _ _))).trans hW'.1⟩
  · have d1 : (v0 != 1) = true := bne_iff_ne.mpr c1
    have hf1 : findP (vd vs) n = none := by unfold findP; rw [HV0.out, if_neg c1]
    obtain rfl : ans = ⟨0, 0, [], [], 25⟩ := by rw [← HANS.out, hf1]; rfl
    clear hf1
    go_wp2_with (first
      | (go_at_call 19; refine HASK.out.mono ?_; rintro e W2 ⟨rfl, hF2, hB2, -, -⟩; have HF2 := Aside0.mk hF2
         have hz0 : W2.cell? ⟨w.heap.size, 0, none⟩ = some (.int .i64 0) := (blk_cell hF2.2.1 0).trans rfl
         have hz1 : W2.cell? ⟨w.heap.size, 1, none⟩ = some (.int .i64 0) := (blk_cell hF2.2.1 1).trans rfl
         have hz2 : W2.cell? ⟨w.heap.size, 2, none⟩ = some (.slice none 0 0) := (blk_cell hF2.2.1 2).trans rfl
         have hz3 : W2.cell? ⟨w.heap.size, 3, none⟩ = some (.slice none 0 0) := (blk_cell hF2.2.1 3).trans rfl
         have hq0 := blk_frozen hF2.2.1 0
         have hq1 := blk_frozen hF2.2.1 1
         have hq2 := blk_frozen hF2.2.1 2
         have hq3 := blk_frozen hF2.2.1 3
         clear hF2 hB2))
    refine leaves_marks (n0 := w.heap.size) [] _ ⟨List.nodup_nil, by simp⟩ (fun W' hW' => ?_)
    have hb := hW'.2 _ _ (put4 HF2.out.2.1 (.int .i64 0) (.int .i64 0) (.slice none 0 0) (.slice none 0 0)) rfl
    refine ⟨_, results_ct rfl _ _ _ _ _ _ _ rfl hb Try.underlying27 rfl info27, none, 0, none, 0, by rfl, Nat.le_refl _, C_none _, Nat.le_refl _, C_none _, (HF2.out.2.2.2.2.1.trans (below4 (Nat.le_refl _) _ _ _ _ _)).trans hW'.1⟩
end Go.Proofs.Ytljjkdlnkklibaa.BisFind
