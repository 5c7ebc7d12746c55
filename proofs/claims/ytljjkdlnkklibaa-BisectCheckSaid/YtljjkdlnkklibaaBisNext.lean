/- The reference search: S.next. -/
import Derived.Lib.SliceRun
import Derived.Test.YtljjkdlnkklibaaProg
import Derived.Below
import Derived.Deep.Draws
import Derived.Deep.AppendLies
import Derived.Maps.AppendAt
import Derived.OwnWalk
import Derived.Laws.BytesArg
import Derived.Laws.MakeOwn
import Derived.Laws.OwnMore
import Derived.Deep.OwnRows
import Derived.Tactics
import Derived.Lib.ConvBytes
import Derived.Laws.Slices
import Derived.WalkKit
import Derived.KernelRfl
import Derived.RowKit3
import Derived.Deep.LoopGhost
import Derived.Deep.QuietTactic
import Derived.BigQuiet
import Derived.WideLaws
import Derived.Deep.DeepCutAuto
import Derived.Deep.CutBlock
import Derived.BigQuiet
import Derived.Deep.RegionHeld3
import Derived.Laws.Rows
import Derived.Lib.AppendStr
import Derived.ArgAppend
import Derived.Laws.IdiomCopy
import Derived.OrdersHeld
import Derived.Laws.BitsLemmas
import Derived.RowKit
import Derived.Test.YtljjkdlnkklibaaPw
import Derived.Test.YtljjkdlnkklibaaWWords
import Derived.Test.YtljjkdlnkklibaaWLast
import Derived.Test.YtljjkdlnkklibaaWTab
import Derived.Test.YtljjkdlnkklibaaWFour
import Derived.Test.YtljjkdlnkklibaaWQPut
import Derived.Test.YtljjkdlnkklibaaWApart
import Derived.Test.YtljjkdlnkklibaaWArr
import Derived.Test.YtljjkdlnkklibaaWZeros
import Derived.Test.YtljjkdlnkklibaaWFoot
import Derived.Test.YtljjkdlnkklibaaWKept
import Derived.Test.YtljjkdlnkklibaaWShare
import Derived.Test.YtljjkdlnkklibaaWN
import Derived.Test.YtljjkdlnkklibaaWFootNe
import Derived.Test.YtljjkdlnkklibaaWAt
import Derived.Test.YtljjkdlnkklibaaWEqStruct
import Derived.Test.YtljjkdlnkklibaaWRepsOne
import Derived.Test.YtljjkdlnkklibaaWInv
import Derived.Test.YtljjkdlnkklibaaWInvWords
import Derived.Test.YtljjkdlnkklibaaWGuard
import Derived.Test.YtljjkdlnkklibaaWNEv
import Derived.Test.YtljjkdlnkklibaaWMore
import Derived.Test.YtljjkdlnkklibaaBisPlain
import Derived.Maps.OwnSet
import Derived.Test.YtljjkdlnkklibaaBisAsk
import Derived.RangeFuncNested
import Derived.RangeFuncBound
import Derived.RangeFuncBox
import Derived.RangeFuncCalls
import Derived.RangeFuncLeaves
import Derived.Shelf.Abstract
import Derived.Shelf.RegionOpen
import Derived.OwnWalkIn
import Derived.TacticsInMore
import Derived.LoopNIn
import Derived.LoopIn
import Derived.Maps.OwnIn
import Derived.Test.YtljjkdlnkklibaaBisCand
import Derived.Deep.CutBlock
import Derived.BigQuiet
import Derived.RangeFuncWrites
import Derived.Test.YtljjkdlnkklibaaBisSt
import Derived.Test.YtljjkdlnkklibaaBisRef
import Derived.Test.YtljjkdlnkklibaaBisRef2
namespace Go.Proofs.Ytljjkdlnkklibaa.BisNext
open Go.RowKit Go.Shelf Go.Maps Go.Proofs.YtljjkdlnkklibaaW.PrintWords Go.Proofs.YtljjkdlnkklibaaW.PrintLast Go.Proofs.YtljjkdlnkklibaaW.PrintMore Go.Proofs.Ytljjkdlnkklibaa.BisPlain Go.Proofs.Ytljjkdlnkklibaa.BisAsk Go.Proofs.Ytljjkdlnkklibaa.BisCand Go.Proofs.Ytljjkdlnkklibaa.BisSt Go.Proofs.Ytljjkdlnkklibaa.BisRef Go.Proofs.Ytljjkdlnkklibaa.BisRef2
set_option linter.unusedVariables false

set_option maxHeartbeats 8000000 in
set_option maxRecDepth 100000 in
theorem snext_c (n0 g : Nat) (ok : Nat → Prop) (vs ps : List Int) (gd bd : Int) (w W : World) (hS : RS n0 ok vs w W g ps) (hg0 : 0 ≤ gd) (hgb : gd ≤ bd) (hb64 : bd ≤ 64) (hp : ps.length ≤ 900) :
    Calls Try.prog 23 #[.pointer (some ⟨g, 0, none⟩), .int .i64 gd, .int .i64 bd] W fun e w' => e = .returned (.int .i64 (nxt (nextP ps gd bd))) ∧ Below W.heap.size W w' := by
  obtain ⟨⟨A, c, v, hb, -, hR⟩, -⟩ := hS
  obtain ⟨A1, c1, rfl, -, hC⟩ := Kd.R_reads hR
  have HB := Aside0.mk hb
  have HC := Aside0.mk hC
  have HP := Aside0.mk hp
  clear hb hR hC hp
  obtain ⟨m, hm⟩ : ∃ m, (gd + bd) / 2 = m := ⟨_, rfl⟩
  have hm0 : 0 ≤ m := by omega
  have hm64 : m ≤ 64 := by omega
  obtain ⟨K, hK⟩ : ∃ K : Nat, (K : Int) = bd - gd := ⟨(bd - gd).toNat, by omega⟩
  have hn : nextP ps gd bd = nextFrom ps gd bd m K 0 := by unfold nextP; rw [Int.tdiv_eq_ediv_of_nonneg (by omega), hm, ← hK, Int.toNat_natCast]
  rw [hn]
  obtain ⟨R, hR⟩ : ∃ R, nextFrom ps gd bd m K 0 = R := ⟨_, rfl⟩
  rw [hR]
  have HR := Aside0.mk hR
  have HK := Aside0.mk hK
  clear hn hR hK
  go_enter Try.func23, Try.ntmps23
  go_wp2
  simp only [hm]
  clear hm
  go_loopw [8] (fun dv wr => ∃ d : Nat, d ≤ K ∧ dv = .int .i64 (d : Int) ∧ Aside0 (nextFrom ps gd bd m (K - d) (d : Int) = R) ∧ Aside0 (Below W.heap.size W wr)) (fun dv _ => K - (intOf dv).toNat)
  case atStart => exact ⟨0, Nat.zero_le _, rfl, ⟨by simpa using HR.out⟩, ⟨Below.refl _ _⟩⟩
  case round =>
    obtain ⟨d, hd, rfl, HX, HBW⟩ := hrel
    by_cases hdk : d < K
    · have dk : decide ((d : Int) < bd - gd) = true := decide_eq_true (by have := HK.out; omega)
      have hd64 : (d : Int) ≤ 64 := by have := HK.out; omega
      obtain ⟨sl, hsl⟩ : ∃ sl, wr.heap.size = sl := ⟨_, rfl⟩
      have hs1 := heap_alloc_new wr (.cells #[.int .i64 (m + d), .int .i64 (m - d)] 3)
      have hB1 : Below W.heap.size W (wr.alloc (.cells #[.int .i64 (m + d), .int .i64 (m - d)] 3)) := HBW.out.alloc HBW.out.size _
      rw [hsl] at hs1
      have HS1 := Aside0.mk hs1
      have HB1 := Aside0.mk hB1
      have HX1 : Aside0 (nrest ps gd bd m d (K - (d + 1)) 0 = R) := ⟨by have := HX.out; rw [show K - d = (K - (d + 1)) + 1 by omega] at this; exact this⟩
      clear hs1 hB1 HX
      go_wp2
      go_loopw [10] (fun jv wr2 => ∃ j : Nat, j ≤ 2 ∧ jv = .int .i64 (j : Int) ∧ Aside0 (nrest ps gd bd m d (K - (d + 1)) j = R) ∧ Aside0 (Below W.heap.size W wr2) ∧ Aside0 (wr2.heap[sl]? = some (.cells #[.int .i64 (m + d), .int .i64 (m - d)] 3 (0, 0)))) (fun jv _ => 2 - (intOf jv).toNat)
      case atStart => exact ⟨0, by omega, rfl, HX1, HB1, HS1⟩
      case round =>
        obtain ⟨j, hj, rfl, HX, HBW, HS⟩ := hrel
        have hcp : wr.cell? ⟨g, 1, none⟩ = some (.slice A1 ps.length c1) := (blk_cell (blk_below HB.out HBW.out) 1).trans rfl
        have HCw := Aside0.mk (Kd.C_below HC.out HBW.out)
        by_cases hj2 : j < 2
        · have hst := nrest_step ps gd bd m d (K - (d + 1)) j hj2
          have hcell : wr.cell? ⟨sl, j, none⟩ = some (.int .i64 (elt m d j)) := by
            match j, hj2 with
            | 0, _ => exact (blk_cell HS.out 0).trans rfl
            | 1, _ => exact (blk_cell HS.out 1).trans rfl
          generalize elt m d j = e at hst hcell
          have hX : (if cand ps gd bd e = true then some e else nrest ps gd bd m d (K - (d + 1)) (j + 1)) = R := by rw [← hst]; exact HX.out
          have HH := Aside0.mk (fun n => (has_c A1 c1 ps e (by have := HP.out; omega) (wr.drewN n) HCw.out).mono (R' := fun e2 w2 => e2 = .returned (.bool (ps.contains e)) ∧ w2 = wr.drewN n) (fun _ _ h => ⟨h.1, h.2.symm⟩))
          have hcases : (decide (gd < e) = false ∧ cand ps gd bd e = false) ∨ (decide (gd < e) = true ∧ decide (e < bd) = false ∧ cand ps gd bd e = false) ∨
              (decide (gd < e) = true ∧ decide (e < bd) = true ∧ ps.contains e = true ∧ cand ps gd bd e = false) ∨ (decide (gd < e) = true ∧ decide (e < bd) = true ∧ ps.contains e = false ∧ cand ps gd bd e = true) := by
            unfold cand
            cases ps.contains e <;> cases decide (gd < e) <;> cases decide (e < bd) <;> simp
          generalize ps.contains e = ce at HH hcases
          clear hst HX
          rcases (by omega : j = 0 ∨ j = 1) with rfl | rfl
          all_goals
            rcases hcases with ⟨h1, hc⟩ | ⟨h1, h2, hc⟩ | ⟨h1, h2, rfl, hc⟩ | ⟨h1, h2, rfl, hc⟩
            all_goals
              rw [hc] at hX
              clear hc
              have HX := Aside0.mk hX
              clear hX
              go_upto_region 9 with fail
              go_quiet ((go_at_call 17; refine Calls.quiet_of_same (HH.out _)))
              go_wp2
            rotate_right
            · have hR2 : R = some e := by have := HX.out; simp only [if_true] at this; exact this.symm
              subst hR2
              go_ret
              exact ⟨rfl, HBW.out.trans ⟨rfl, rfl, rfl, Nat.le_refl _, fun _ _ => rfl⟩⟩
            all_goals
              have hX2 := HX.out
              rw [if_neg (by simp)] at hX2
              first
                | exact ⟨⟨1, by omega, rfl, ⟨hX2⟩, ⟨HBW.out.trans ⟨rfl, rfl, rfl, Nat.le_refl _, fun _ _ => rfl⟩⟩, HS⟩, by simp [intOf]⟩
                | exact ⟨⟨2, by omega, rfl, ⟨hX2⟩, ⟨HBW.out.trans ⟨rfl, rfl, rfl, Nat.le_refl _, fun _ _ => rfl⟩⟩, HS⟩, by simp [intOf]⟩
        · obtain rfl : j = 2 := by omega
          have hX2 : nextFrom ps gd bd m (K - (d + 1)) ((d : Int) + 1) = R := HX.out
          have HX2 := Aside0.mk hX2
          clear hX2 HX
          go_wp2
          exact ⟨⟨d + 1, by omega, by simp, ⟨by simpa using HX2.out⟩, HBW⟩, by simp [intOf]; omega⟩
    · obtain rfl : d = K := by omega
      have dk : decide ((d : Int) < bd - gd) = false := decide_eq_false (by have := HK.out; omega)
      have hX := HX.out
      rw [Nat.sub_self] at hX
      have HX2 := Aside0.mk (show R = none from hX.symm)
      clear hX HX
      go_wp2
      go_ret
      exact ⟨by rw [HX2.out]; rfl, HBW.out⟩
end Go.Proofs.Ytljjkdlnkklibaa.BisNext
