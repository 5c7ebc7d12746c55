/- The reference search: S.probe, S.next. -/
import Derived.Lib.SliceRun
import Derived.Test.YtljjkdlnkklibaaProg
import Derived.Below
import Derived.Deep.Draws
import Derived.Deep.AppendLies
import Derived.Maps.AppendAt
import Derived.OwnWalk
import Derived.Laws.BytesArg
import Derived.Laws.MakeOwn
import Derived.Laws.OwnMore
import Derived.Deep.OwnRows
import Derived.Tactics
import Derived.Lib.ConvBytes
import Derived.Laws.Slices
import Derived.WalkKit
import Derived.KernelRfl
import Derived.RowKit3
import Derived.Deep.LoopGhost
import Derived.Deep.QuietTactic
import Derived.BigQuiet
import Derived.WideLaws
import Derived.Deep.DeepCutAuto
import Derived.Deep.CutBlock
import Derived.BigQuiet
import Derived.Deep.RegionHeld3
import Derived.Laws.Rows
import Derived.Lib.AppendStr
import Derived.ArgAppend
import Derived.Laws.IdiomCopy
import Derived.OrdersHeld
import Derived.Laws.BitsLemmas
import Derived.RowKit
import Derived.Test.YtljjkdlnkklibaaPw
import Derived.Test.YtljjkdlnkklibaaWWords
import Derived.Test.YtljjkdlnkklibaaWLast
import Derived.Test.YtljjkdlnkklibaaWTab
import Derived.Test.YtljjkdlnkklibaaWFour
import Derived.Test.YtljjkdlnkklibaaWQPut
import Derived.Test.YtljjkdlnkklibaaWApart
import Derived.Test.YtljjkdlnkklibaaWArr
import Derived.Test.YtljjkdlnkklibaaWZeros
import Derived.Test.YtljjkdlnkklibaaWFoot
import Derived.Test.YtljjkdlnkklibaaWKept
import Derived.Test.YtljjkdlnkklibaaWShare
import Derived.Test.YtljjkdlnkklibaaWN
import Derived.Test.YtljjkdlnkklibaaWFootNe
import Derived.Test.YtljjkdlnkklibaaWAt
import Derived.Test.YtljjkdlnkklibaaWEqStruct
import Derived.Test.YtljjkdlnkklibaaWRepsOne
import Derived.Test.YtljjkdlnkklibaaWInv
import Derived.Test.YtljjkdlnkklibaaWInvWords
import Derived.Test.YtljjkdlnkklibaaWGuard
import Derived.Test.YtljjkdlnkklibaaWNEv
import Derived.Test.YtljjkdlnkklibaaWMore
import Derived.Test.YtljjkdlnkklibaaBisPlain
import Derived.Maps.OwnSet
import Derived.Test.YtljjkdlnkklibaaBisAsk
import Derived.RangeFuncNested
import Derived.RangeFuncBound
import Derived.RangeFuncBox
import Derived.RangeFuncCalls
import Derived.RangeFuncLeaves
import Derived.Shelf.Abstract
import Derived.Shelf.RegionOpen
import Derived.OwnWalkIn
import Derived.TacticsInMore
import Derived.LoopNIn
import Derived.LoopIn
import Derived.Maps.OwnIn
import Derived.Test.YtljjkdlnkklibaaBisCand
import Derived.Deep.CutBlock
import Derived.BigQuiet
import Derived.RangeFuncWrites
import Derived.Test.YtljjkdlnkklibaaBisSt
namespace Go.Proofs.Ytljjkdlnkklibaa.BisRef
open Go.RowKit Go.Shelf Go.Maps Go.Proofs.YtljjkdlnkklibaaW.PrintWords Go.Proofs.YtljjkdlnkklibaaW.PrintLast Go.Proofs.YtljjkdlnkklibaaW.PrintMore Go.Proofs.Ytljjkdlnkklibaa.BisPlain Go.Proofs.Ytljjkdlnkklibaa.BisAsk Go.Proofs.Ytljjkdlnkklibaa.BisCand Go.Proofs.Ytljjkdlnkklibaa.BisSt
set_option linter.unusedVariables false

/-- The reference's search at block g. -/
def RS (n0 : Nat) (ok : Nat → Prop) (vs : List Int) (w W : World) (g : Nat) (ps : List Int) : Prop :=
  (∃ A c v, W.heap[g]? = some (.cells #[.slice A vs.length c, v] 56 (0, 0)) ∧ (∀ W', Below n0 W W' → Kd.C (Kd.int .i64) W' A vs.length vs) ∧ Kd.R (Kd.int .i64) 3 W n0 ok v ps) ∧ n0 ≤ g ∧ ¬ ok g ∧ (∀ k, W.heap.size ≤ k → ok k) ∧ Below n0 w W

section
variable {ops : Array Oper} {rest : List Oper} {o : Oper} {a : Act} {Q : Exit → Act → World → Prop}
/-- append(s.Probes, i), behind 'at_builtin'. -/
theorem app_r (n0 g : Nat) (ok : Nat → Prop) (wr : World) (hgd : o.guard = none) (s x : Operand) (ho : o.op = .call { callee := .builtin .append, args := #[s, x], argTypes := #[22, 22] })
    (v : Value) (cs : List Int) (p : Int) (hs : a.eval s = v) (hx : a.eval x = .slice (some ⟨wr.heap.size, 0, none⟩) 1 1)
    (c0 : Value) (hb : wr.heap[g]? = some (.cells #[c0, v] 56 (0, 0))) (hg : n0 ≤ g) (hok : ¬ ok g) (hfresh : ∀ k, wr.heap.size ≤ k → ok k) (hR : Kd.R (Kd.int .i64) 3 wr n0 ok v cs) (hl : cs.length + 1 ≤ 1000)
    (h : ∀ A1 k1 w1, w1.cell? ⟨g, 1, none⟩ = some v → w1.frozen? ⟨g, 1, none⟩ = false →
      Aside0 ((w1.setCell ⟨g, 1, none⟩ (.slice A1 (cs.length + 1) k1)).heap[g]? = some (.cells #[c0, .slice A1 (cs.length + 1) k1] 56 (0, 0)) ∧ Kd.R (Kd.int .i64) 3 (w1.setCell ⟨g, 1, none⟩ (.slice A1 (cs.length + 1) k1)) n0 ok (.slice A1 (cs.length + 1) k1) (cs ++ [p]) ∧
        Below n0 wr (w1.setCell ⟨g, 1, none⟩ (.slice A1 (cs.length + 1) k1)) ∧ (∀ k, k < wr.heap.size → k ≠ g → ¬ ok k → (w1.setCell ⟨g, 1, none⟩ (.slice A1 (cs.length + 1) k1)).heap[k]? = wr.heap[k]?)) →
      wpList Try.prog ops Q rest (a.put o.dst (.slice A1 (cs.length + 1) k1)) w1) :
    wpList Try.prog ops Q (o :: rest) a (wr.alloc (.cells #[.int .i64 p] 3)) := by
  have hlt := blk_lt hb
  refine Kd.R_append (Kd.int .i64) (w0 := wr) n0 hgd s x 22 3 (.int .i64 0) 8 ho Try.underlying22 info_i64 rfl (by decide) (by omega) v cs p [.int .i64 p] ok (fun _ => False) hs hx rfl (fun _ hk => hk.elim)
    hfresh hR (Below.refl _ _) (by omega) (by omega) ?_
  intro v1 w1 hown hbw hgr hat
  have hb1 := blk_grown hb hgr (fun e => hok (hR.1 g e.symm))
  obtain ⟨A1, k1, rfl, -, -⟩ := Kd.R_reads hown
  have hR1 := Kd.R_far hown (p := ⟨g, 1, none⟩) (fun k hk e => hok ((show k = g from e) ▸ hk)) (.slice A1 (cs ++ [p]).length k1)
  rw [List.length_append, List.length_singleton] at hR1 ⊢
  refine h A1 k1 w1 ((blk_cell hb1 1).trans rfl) (blk_frozen hb1 1) ⟨blk_put hb1 1 (.slice A1 (cs.length + 1) k1) rfl, hR1, hbw.setCell (p := ⟨g, 1, none⟩) hg _, ?_⟩
  intro k hk hkg hko
  exact (Below.heap_setCell w1 ⟨g, 1, none⟩ _ k hkg).trans (hgr.block k hk (fun e => hko (hR.1 k e.symm)))
end

set_option maxHeartbeats 4000000 in
set_option maxRecDepth 100000 in
theorem sprobe_c (n0 g : Nat) (ok : Nat → Prop) (vs ps : List Int) (i : Int) (w W : World) (hS : RS n0 ok vs w W g ps) (hi0 : 0 ≤ i) (hi1 : i < (vs.length : Int)) (hp : ps.length < 900) :
    Calls Try.prog 22 #[.pointer (some ⟨g, 0, none⟩), .int .i64 i] W fun e w' => e = .returned (.int .i64 (vd vs i)) ∧ RS n0 ok vs w w' g (ps ++ [i]) ∧ Below n0 W w' ∧ (∀ k, k < W.heap.size → k ≠ g → ¬ ok k → w'.heap[k]? = W.heap[k]?) := by
  obtain ⟨⟨A, c, v, hb, hC, hR⟩, hg, hgk, hfr, hB0⟩ := hS
  have hc0 : W.cell? ⟨g, 0, none⟩ = some (.slice A vs.length c) := (blk_cell hb 0).trans rfl
  have hc1 : W.cell? ⟨g, 1, none⟩ = some v := (blk_cell hb 1).trans rfl
  have HB := Aside0.mk hb
  have HR := Aside0.mk hR
  have HC := Aside0.mk hC
  have HFR := Aside0.mk hfr
  have HG := Aside0.mk hg
  have HGK := Aside0.mk hgk
  have HL := Aside0.mk hp
  have HB0 := Aside0.mk hB0
  have hrd : vd vs i = three (rd vs i) := by unfold vd raw rd; rw [if_pos ⟨hi0, hi1⟩]
  rw [hrd]
  obtain ⟨r, hr⟩ : ∃ r, rd vs i = r := ⟨_, rfl⟩
  rw [hr]
  have HRD := Aside0.mk hr
  clear hb hR hC hfr hg hgk hp hB0 hrd hr
  go_enter Try.func22, Try.ntmps22
  go_upto_region 2 with (first
    | ((with_reducible refine gate_builtin (b := .append) (xs := #[.tmp 9, .tmp 11]) rfl ?_); at_builtin
       refine app_r n0 g ok W rfl (.tmp 9) (.tmp 11) rfl v ps i rfl rfl _ HB.out HG.out HGK.out HFR.out HR.out (by have := HL.out; omega) ?_
       intro A1 k1 w1 hc2 hf2 HFIN))
  clear hc2 hf2 hc0 hc1
  generalize w1.setCell ⟨g, 1, none⟩ (.slice A1 (ps.length + 1) k1) = W2 at HFIN ⊢
  obtain ⟨f1, f2, f3, f4⟩ := HFIN.out
  have hc0 : W2.cell? ⟨g, 0, none⟩ = some (.slice A vs.length c) := (blk_cell f1 0).trans rfl
  obtain ⟨ad, rfl, hx⟩ := Kd.at_int (HC.out W2 f3) i hi0 hi1
  rw [HRD.out] at hx
  have hS2 : RS n0 ok vs w W2 g (ps ++ [i]) := ⟨⟨_, _, _, f1, fun W' hW' => HC.out W' (f3.trans hW'), f2⟩, HG.out, HGK.out, fun k hk => HFR.out k (Nat.le_trans f3.size hk), HB0.out.trans f3⟩
  have HS2 := Aside0.mk hS2
  have HF3 := Aside0.mk f3
  have HF4 := Aside0.mk f4
  clear hS2 f1 f2 f3 f4
  by_cases r0 : r = 0
  · subst r0
    go_wp2
    go_ret
    exact ⟨rfl, HS2.out, HF3.out, HF4.out⟩
  · have d0 : (r == 0) = false := beq_eq_false_iff_ne.mpr r0
    by_cases r1 : r = 1
    · subst r1
      go_wp2
      go_ret
      exact ⟨rfl, HS2.out, HF3.out, HF4.out⟩
    · have d1 : (r == 1) = false := beq_eq_false_iff_ne.mpr r1
      have h3 : three r = 2 := by unfold three; rw [if_neg r0, if_neg r1]
      have H3 := Aside0.mk h3
      clear r0 r1 h3
      go_wp2
      go_ret
      exact ⟨by (try dsimp only); simp [H3.out], HS2.out, HF3.out, HF4.out⟩
end Go.Proofs.Ytljjkdlnkklibaa.BisRef
