/- bisect.Find where it refuses; the probe of a list. -/
import Derived.Lib.SliceRun
import Derived.Test.YtljjkdlnkklibaaProg
import Derived.Below
import Derived.Deep.Draws
import Derived.Deep.AppendLies
import Derived.Maps.AppendAt
import Derived.OwnWalk
import Derived.Laws.BytesArg
import Derived.Laws.MakeOwn
import Derived.Laws.OwnMore
import Derived.Deep.OwnRows
import Derived.Tactics
import Derived.Lib.ConvBytes
import Derived.Laws.Slices
import Derived.WalkKit
import Derived.KernelRfl
import Derived.RowKit3
import Derived.Deep.LoopGhost
import Derived.Deep.QuietTactic
import Derived.BigQuiet
import Derived.WideLaws
import Derived.Deep.DeepCutAuto
import Derived.Deep.CutBlock
import Derived.BigQuiet
import Derived.Deep.RegionHeld3
import Derived.Laws.Rows
import Derived.Lib.AppendStr
import Derived.ArgAppend
import Derived.Laws.IdiomCopy
import Derived.OrdersHeld
import Derived.Laws.BitsLemmas
import Derived.RowKit
import Derived.Test.YtljjkdlnkklibaaPw
import Derived.Test.YtljjkdlnkklibaaWWords
import Derived.Test.YtljjkdlnkklibaaWLast
import Derived.Test.YtljjkdlnkklibaaWTab
import Derived.Test.YtljjkdlnkklibaaWFour
import Derived.Test.YtljjkdlnkklibaaWQPut
import Derived.Test.YtljjkdlnkklibaaWApart
import Derived.Test.YtljjkdlnkklibaaWArr
import Derived.Test.YtljjkdlnkklibaaWZeros
import Derived.Test.YtljjkdlnkklibaaWFoot
import Derived.Test.YtljjkdlnkklibaaWKept
import Derived.Test.YtljjkdlnkklibaaWShare
import Derived.Test.YtljjkdlnkklibaaWN
import Derived.Test.YtljjkdlnkklibaaWFootNe
import Derived.Test.YtljjkdlnkklibaaWAt
import Derived.Test.YtljjkdlnkklibaaWEqStruct
import Derived.Test.YtljjkdlnkklibaaWRepsOne
import Derived.Test.YtljjkdlnkklibaaWInv
import Derived.Test.YtljjkdlnkklibaaWInvWords
import Derived.Test.YtljjkdlnkklibaaWGuard
import Derived.Test.YtljjkdlnkklibaaWNEv
import Derived.Test.YtljjkdlnkklibaaWMore
import Derived.Test.YtljjkdlnkklibaaBisPlain
import Derived.Maps.OwnSet
import Derived.Test.YtljjkdlnkklibaaBisAsk
import Derived.RangeFuncNested
import Derived.RangeFuncBound
import Derived.RangeFuncBox
import Derived.RangeFuncCalls
import Derived.RangeFuncLeaves
import Derived.Shelf.Abstract
import Derived.Shelf.RegionOpen
import Derived.OwnWalkIn
import Derived.TacticsInMore
import Derived.LoopNIn
import Derived.LoopIn
import Derived.Maps.OwnIn
import Derived.Test.YtljjkdlnkklibaaBisCand
import Derived.Deep.CutBlock
import Derived.BigQuiet
import Derived.RangeFuncWrites
import Derived.Test.YtljjkdlnkklibaaBisSt
namespace Go.Proofs.Ytljjkdlnkklibaa.BisOut
open Go.RowKit Go.Shelf Go.Maps Go.Proofs.YtljjkdlnkklibaaW.PrintWords Go.Proofs.YtljjkdlnkklibaaW.PrintLast Go.Proofs.YtljjkdlnkklibaaW.PrintMore Go.Proofs.Ytljjkdlnkklibaa.BisPlain Go.Proofs.Ytljjkdlnkklibaa.BisAsk Go.Proofs.Ytljjkdlnkklibaa.BisCand Go.Proofs.Ytljjkdlnkklibaa.BisSt
set_option linter.unusedVariables false

set_option maxHeartbeats 4000000 in
set_option maxRecDepth 100000 in
theorem Find_no (er : Int) (he : er ≠ 0) (n : Int) (pr : Value) (hpr : ∀ W, Calls Try.prog 18 #[.int .i64 n, pr] W fun e w' => e = .returned (.int .i64 er) ∧ W = w') (w : World) :
    Calls Try.prog 10 #[.int .i64 n, pr] w fun e w' => Res w e w' ⟨0, 0, [], [], er⟩ := by
  refine (callsIn_wide (n := 6)).1 ?_
  refine callsIn_of_wp_marks Try.func10 rfl trivial ?_ rfl
  simp only [Try.ntmps10, List.size_toArray, List.length_cons, List.length_nil, Nat.reduceAdd, Nat.reduceSub, Array.replicate_succ, Array.replicate_zero, List.push_toArray, List.append_toArray, List.nil_append, List.cons_append]
  refine wpIn_wide.2 ?_
  have HP := Aside0.mk hpr
  have d1 : (er != 0) = true := bne_iff_ne.mpr he
  clear hpr
  go_wp2_with (first
    | (go_at_call 18; refine (HP.out _).mono ?_; rintro e w1 ⟨rfl, rfl⟩))
  refine leaves_marks (n0 := w.heap.size) [] _ ⟨List.nodup_nil, by simp⟩ (fun W' hW' => ?_)
  have hb0 := blk_new w (.cells #[.int .i64 0, .int .i64 0, .slice none 0 0, .slice none 0 0] 27)
  have hb := hW'.2 _ _ hb0 rfl
  exact ⟨_, results_ct rfl _ _ _ _ _ _ _ rfl hb Try.underlying27 rfl info27, none, 0, none, 0, by rfl, Nat.le_refl _, C_none _, Nat.le_refl _, C_none _, ((Below.refl _ w).alloc (Nat.le_refl _) _).trans hW'.1⟩
theorem Find_nil (n : Int) (w : World) : Calls Try.prog 10 #[.int .i64 n, .nilFunc] w fun e w' => Res w e w' ⟨0, 0, [], [], 1⟩ :=
  Find_no 1 (by decide) n _ (fun W => possible_nil n W) w
theorem Find_out (n : Int) (hn : n < 2 ∨ 64 < n) (Bl : Nat) (V : Int → Int) (w : World) : Calls Try.prog 10 #[.int .i64 n, pv Bl] w fun e w' => Res w e w' (ansP V n) := by
  have h : ansP V n = ⟨0, 0, [], [], 5⟩ := by unfold ansP; rw [if_pos hn]
  rw [h]
  exact Find_no 5 (by decide) n _ (fun W => by have := possible_c n Bl W; rw [if_pos hn] at this; exact this) w

set_option maxHeartbeats 2000000 in
set_option maxRecDepth 100000 in
/-- The probe of a list: a box and a closure. -/
theorem probe_c (A : Option Addr) (c : Nat) (vs : List Int) (W : World) (hC : Kd.C (Kd.int .i64) W A vs.length vs) :
    Calls Try.prog 11 #[.slice A vs.length c] W fun e w' => ∃ Bl, e = .returned (pv Bl) ∧ Lst w'.heap.size Bl vs w' ∧ Below W.heap.size W w' := by
  have HC := Aside0.mk hC
  clear hC
  go_enter Try.func11, Try.ntmps11
  go_wp2
  go_ret
  have hb := (Below.refl W.heap.size W).alloc (Nat.le_refl _) (.cells #[.slice A vs.length c] 22)
  exact ⟨W.heap.size, rfl, Lst.mk0 (blk_new W _) (Kd.C_below HC.out hb), hb⟩
end Go.Proofs.Ytljjkdlnkklibaa.BisOut
