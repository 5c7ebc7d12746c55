/- The reference search: Check. -/
import Derived.Lib.SliceRun
import Derived.Test.YtljjkdlnkklibaaProg
import Derived.Below
import Derived.Deep.Draws
import Derived.Deep.AppendLies
import Derived.Maps.AppendAt
import Derived.OwnWalk
import Derived.Laws.BytesArg
import Derived.Laws.MakeOwn
import Derived.Laws.OwnMore
import Derived.Deep.OwnRows
import Derived.Tactics
import Derived.Lib.ConvBytes
import Derived.Laws.Slices
import Derived.WalkKit
import Derived.KernelRfl
import Derived.RowKit3
import Derived.Deep.LoopGhost
import Derived.Deep.QuietTactic
import Derived.BigQuiet
import Derived.WideLaws
import Derived.Deep.DeepCutAuto
import Derived.Deep.CutBlock
import Derived.BigQuiet
import Derived.Deep.RegionHeld3
import Derived.Laws.Rows
import Derived.Lib.AppendStr
import Derived.ArgAppend
import Derived.Laws.IdiomCopy
import Derived.OrdersHeld
import Derived.Laws.BitsLemmas
import Derived.RowKit
import Derived.Test.YtljjkdlnkklibaaPw
import Derived.Test.YtljjkdlnkklibaaWWords
import Derived.Test.YtljjkdlnkklibaaWLast
import Derived.Test.YtljjkdlnkklibaaWTab
import Derived.Test.YtljjkdlnkklibaaWFour
import Derived.Test.YtljjkdlnkklibaaWQPut
import Derived.Test.YtljjkdlnkklibaaWApart
import Derived.Test.YtljjkdlnkklibaaWArr
import Derived.Test.YtljjkdlnkklibaaWZeros
import Derived.Test.YtljjkdlnkklibaaWFoot
import Derived.Test.YtljjkdlnkklibaaWKept
import Derived.Test.YtljjkdlnkklibaaWShare
import Derived.Test.YtljjkdlnkklibaaWN
import Derived.Test.YtljjkdlnkklibaaWFootNe
import Derived.Test.YtljjkdlnkklibaaWAt
import Derived.Test.YtljjkdlnkklibaaWEqStruct
import Derived.Test.YtljjkdlnkklibaaWRepsOne
import Derived.Test.YtljjkdlnkklibaaWInv
import Derived.Test.YtljjkdlnkklibaaWInvWords
import Derived.Test.YtljjkdlnkklibaaWGuard
import Derived.Test.YtljjkdlnkklibaaWNEv
import Derived.Test.YtljjkdlnkklibaaWMore
import Derived.Test.YtljjkdlnkklibaaBisPlain
import Derived.Maps.OwnSet
import Derived.Test.YtljjkdlnkklibaaBisAsk
import Derived.RangeFuncNested
import Derived.RangeFuncBound
import Derived.RangeFuncBox
import Derived.RangeFuncCalls
import Derived.RangeFuncLeaves
import Derived.Shelf.Abstract
import Derived.Shelf.RegionOpen
import Derived.OwnWalkIn
import Derived.TacticsInMore
import Derived.LoopNIn
import Derived.LoopIn
import Derived.Maps.OwnIn
import Derived.Test.YtljjkdlnkklibaaBisCand
import Derived.Deep.CutBlock
import Derived.BigQuiet
import Derived.RangeFuncWrites
import Derived.Deep.RegionWith
import Derived.IntWalk
import Derived.Test.YtljjkdlnkklibaaBisSt
import Derived.Test.YtljjkdlnkklibaaBisRef
import Derived.Test.YtljjkdlnkklibaaBisRef2
import Derived.Test.YtljjkdlnkklibaaBisNext
import Derived.Test.YtljjkdlnkklibaaBisChk
namespace Go.Proofs.Ytljjkdlnkklibaa.BisRChk
open Go.RowKit Go.Shelf Go.Maps Go.Proofs.YtljjkdlnkklibaaW.PrintWords Go.Proofs.YtljjkdlnkklibaaW.PrintLast Go.Proofs.YtljjkdlnkklibaaW.PrintMore Go.Proofs.Ytljjkdlnkklibaa.BisPlain Go.Proofs.Ytljjkdlnkklibaa.BisAsk Go.Proofs.Ytljjkdlnkklibaa.BisCand Go.Proofs.Ytljjkdlnkklibaa.BisSt Go.Proofs.Ytljjkdlnkklibaa.BisRef Go.Proofs.Ytljjkdlnkklibaa.BisRef2 Go.Proofs.Ytljjkdlnkklibaa.BisChk
set_option linter.unusedVariables false

/-- The reference's search of a check: the answer's box at n0, the struct behind it. -/
def CR (n0 : Nat) (vs : List Int) (w : World) (cs : Array Value) (ps : List Int) (W : World) : Prop :=
  RS n0 (fun k => n0 + 1 < k) vs w W (n0 + 1) ps ∧ W.heap[n0]? = some (.cells cs 33 (0, 0))
theorem CR.drewN {n0 : Nat} {vs : List Int} {w : World} {cs : Array Value} {ps : List Int} {W : World} (h : CR n0 vs w cs ps W) (n : Nat) : CR n0 vs w cs ps (W.drewN n) :=
  ⟨RS.below h.1 ⟨rfl, rfl, rfl, Nat.le_refl _, fun _ _ => rfl⟩ (by have := blk_lt h.2; omega), h.2⟩
theorem rcask (n0 : Nat) (vs : List Int) (w : World) (cs : Array Value) (ps : List Int) (i : Int) (W : World) (h : CR n0 vs w cs ps W) (hi0 : 0 ≤ i) (hi1 : i < (vs.length : Int)) (hp : ps.length < 900) :
    Calls Try.prog 22 #[.pointer (some ⟨n0 + 1, 0, none⟩), .int .i64 i] W fun e w' => e = .returned (.int .i64 (vd vs i)) ∧ CR n0 vs w cs (ps ++ [i]) w' := by
  refine (sprobe_c n0 (n0 + 1) _ vs ps i w W h.1 hi0 hi1 hp).mono ?_
  rintro e W' ⟨rfl, h1, h2, h3⟩
  exact ⟨rfl, h1, (h3 n0 (blk_lt h.2) (by omega) (by omega)).trans h.2⟩
theorem CR.cells {n0 : Nat} {vs : List Int} {w W : World} {ps : List Int} {a b c d : Value} (h : CR n0 vs w #[a, b, c, d] ps W) : W.cell? ⟨n0, 0, none⟩ = some a ∧ W.cell? ⟨n0, 1, none⟩ = some b ∧ W.cell? ⟨n0, 2, none⟩ = some c :=
  ⟨(blk_cell h.2 0).trans rfl, (blk_cell h.2 1).trans rfl, (blk_cell h.2 2).trans rfl⟩

set_option maxHeartbeats 8000000 in
set_option maxRecDepth 100000 in
theorem RCheck_c (Av : Option Addr) (cv : Nat) (vs l : List Int) (g b : Int) (A : Option Addr) (c : Nat) (v3 : Value) (w : World) (hV : Kd.C (Kd.int .i64) w Av vs.length vs) (hC : Kd.C (Kd.int .i64) w A l.length l) (hn : vs.length ≤ 1000) :
    Calls Try.prog 16 #[.slice Av vs.length cv, .agg #[.int .i64 g, .int .i64 b, .slice A l.length c, v3]] w fun e w' => e = .returned (.int .i64 (checkP (vd vs) vs.length g b l)) ∧ Below w.heap.size w w' := by
  obtain ⟨r, hr⟩ : ∃ r, checkP (vd vs) vs.length g b l = r := ⟨_, rfl⟩
  rw [hr]
  unfold checkP at hr
  have HV := Aside0.mk hV
  have HC := Aside0.mk hC
  have HB0 := Aside0.mk ((Below.refl _ w).alloc (Nat.le_refl _) (.cells #[.int .i64 g, .int .i64 b, .slice A l.length c, v3] 33))
  clear hV hC
  obtain ⟨n, hn'⟩ : ∃ n : Nat, vs.length = n := ⟨_, rfl⟩
  have HN := Aside0.mk hn'
  rw [hn'] at hr hn ⊢
  clear hn'
  have hcases0 : (decide ((n : Int) < 2) = true ∧ r = 5) ∨ (decide ((n : Int) < 2) = false ∧ decide (64 < (n : Int)) = true ∧ r = 5) ∨ (decide ((n : Int) < 2) = false ∧ decide (64 < (n : Int)) = false ∧ ¬ ((n : Int) < 2 ∨ 64 < (n : Int))) := by
    by_cases a1 : (n : Int) < 2
    · rw [if_pos (.inl a1)] at hr; exact .inl ⟨decide_eq_true a1, hr.symm⟩
    · by_cases a2 : 64 < (n : Int)
      · rw [if_pos (.inr a2)] at hr; exact .inr (.inl ⟨decide_eq_false a1, decide_eq_true a2, hr.symm⟩)
      · exact .inr (.inr ⟨decide_eq_false a1, decide_eq_false a2, by omega⟩)
  rcases hcases0 with ⟨d1, rfl⟩ | ⟨d1, d2, rfl⟩ | ⟨dn1, dn2, h1⟩
  · clear hr
    go_enter Try.func16, Try.ntmps16
    go_wp2
    go_ret
    exact ⟨rfl, HB0.out⟩
  · clear hr
    go_enter Try.func16, Try.ntmps16
    go_wp2
    go_ret
    exact ⟨rfl, HB0.out⟩
  rw [if_neg h1] at hr
  have hcases : (decide (g < 0) = true ∧ r = 18) ∨ (decide (g < 0) = false ∧ decide ((n : Int) ≤ b) = true ∧ r = 18) ∨ (decide (g < 0) = false ∧ decide ((n : Int) ≤ b) = false ∧ decide (b ≤ g) = true ∧ r = 18) ∨
      (decide (g < 0) = false ∧ decide ((n : Int) ≤ b) = false ∧ decide (b ≤ g) = false ∧ ((l.length : Int) != b - g - 1) = true ∧ r = 18) ∨
      (0 ≤ g ∧ g < b ∧ b < n ∧ (l.length : Int) = b - g - 1 ∧ (if vd vs g = 0 then (if vd vs b = 1 then (if chkP (vd vs) g 0 l = true then 0 else 18) else 18) else 18) = r) := by
    by_cases a1 : g < 0
    · rw [if_pos (.inl a1)] at hr; exact .inl ⟨decide_eq_true a1, hr.symm⟩
    · by_cases a2 : n ≤ b
      · rw [if_pos (.inr (.inl a2))] at hr; exact .inr (.inl ⟨decide_eq_false a1, decide_eq_true a2, hr.symm⟩)
      · by_cases a3 : b ≤ g
        · rw [if_pos (.inr (.inr (.inl a3)))] at hr; exact .inr (.inr (.inl ⟨decide_eq_false a1, decide_eq_false a2, decide_eq_true a3, hr.symm⟩))
        · by_cases a4 : (l.length : Int) = b - g - 1
          · rw [if_neg (by omega)] at hr; exact .inr (.inr (.inr (.inr ⟨by omega, by omega, by omega, a4, hr⟩)))
          · rw [if_pos (.inr (.inr (.inr a4)))] at hr; exact .inr (.inr (.inr (.inl ⟨decide_eq_false a1, decide_eq_false a2, decide_eq_false a3, bne_iff_ne.mpr a4, hr.symm⟩)))
  clear hr
  have hn64 : (n : Int) ≤ 64 := by omega
  clear h1
  rcases hcases with ⟨d1, rfl⟩ | ⟨d1, d2, rfl⟩ | ⟨d1, d2, d3, rfl⟩ | ⟨d1, d2, d3, d4, rfl⟩ | ⟨a1, a2, a3, a4, hr⟩
  · go_enter Try.func16, Try.ntmps16
    go_wp2
    go_ret
    exact ⟨rfl, HB0.out⟩
  · go_enter Try.func16, Try.ntmps16
    go_wp2
    go_ret
    exact ⟨rfl, HB0.out⟩
  · go_enter Try.func16, Try.ntmps16
    go_wp2
    go_ret
    exact ⟨rfl, HB0.out⟩
  · have e1 := of_decide_eq_false d1
    have e2 := of_decide_eq_false d2
    have e3 := of_decide_eq_false d3
    go_enter Try.func16, Try.ntmps16
    go_wp2
    go_ret
    exact ⟨rfl, HB0.out⟩
  have d1 : decide (g < 0) = false := decide_eq_false (by omega)
  have d2 : decide ((n : Int) ≤ b) = false := decide_eq_false (by omega)
  have d3 : decide (b ≤ g) = false := decide_eq_false (by omega)
  have d4 : ((l.length : Int) != b - g - 1) = false := by simpa using a4
  obtain ⟨n0, hn0⟩ : ∃ n0, w.heap.size = n0 := ⟨_, rfl⟩
  obtain ⟨cs, hcs⟩ : ∃ cs : Array Value, #[.int .i64 g, .int .i64 b, .slice A l.length c, v3] = cs := ⟨_, rfl⟩
  obtain ⟨W1, hW1⟩ : ∃ W1, (w.alloc (.cells #[.int .i64 g, .int .i64 b, .slice A l.length c, v3] 33)).alloc (.cells #[.slice Av n cv, .slice none 0 0] 56) = W1 := ⟨_, rfl⟩
  have hS : CR n0 vs w cs [] W1 := by
    have b1 := blk_new w (.cells #[.int .i64 g, .int .i64 b, .slice A l.length c, v3] 33)
    have b2 := blk_new (w.alloc (.cells #[.int .i64 g, .int .i64 b, .slice A l.length c, v3] 33)) (.cells #[.slice Av n cv, .slice none 0 0] 56)
    have hB : Below w.heap.size w W1 := by rw [← hW1]; exact ((Below.refl _ w).alloc (Nat.le_refl _) _).alloc (by simp) _
    simp only [World.size_alloc] at b2
    have hsz : W1.heap.size = w.heap.size + 2 := by rw [← hW1]; simp
    rw [← hcs, ← hn0]
    refine ⟨⟨⟨Av, cv, _, ?_, fun W' hW' => Kd.C_below HV.out (hB.trans hW'), Kd.R_nil _ _ _ _ _⟩, by omega, by omega, fun k hk => by omega, hB⟩, ?_⟩
    · rw [← hW1, HN.out]; exact b2
    · rw [← hW1]; exact blk_alloc b1 _
  have HS := Aside0.mk hS
  have HCC : ∀ W ps, CR n0 vs w cs ps W → W.cell? ⟨n0, 0, none⟩ = some (.int .i64 g) ∧ W.cell? ⟨n0, 1, none⟩ = some (.int .i64 b) ∧ W.cell? ⟨n0, 2, none⟩ = some (.slice A l.length c) := fun W ps h => by
    rw [← hcs] at h; exact CR.cells h
  have HCC := Aside0.mk HCC
  have HA4 := Aside0.mk a4
  have HA1 := Aside0.mk (rcask n0 vs w cs [] g W1 hS (by omega) (by rw [HN.out]; omega) (by decide))
  have HA2 : Aside0 (∀ W, CR n0 vs w cs ([] ++ [g]) W → _) := ⟨fun W h => rcask n0 vs w cs ([] ++ [g]) b W h (by omega) (by rw [HN.out]; omega) (by simp)⟩
  clear hS hcs a4
  obtain ⟨vg, hvg⟩ : ∃ v, vd vs g = v := ⟨_, rfl⟩
  obtain ⟨vb, hvb⟩ : ∃ v, vd vs b = v := ⟨_, rfl⟩
  rw [hvg, hvb] at hr
  rw [hvg] at HA1
  rw [hvb] at HA2
  clear hvg hvb
  have hcases : ((vg != 0) = true ∧ r = 18) ∨ (vg = 0 ∧ (vb != 1) = true ∧ r = 18) ∨ (vg = 0 ∧ vb = 1 ∧ (if chkP (vd vs) g 0 l = true then 0 else 18) = r) := by
    by_cases c1 : vg = 0
    · rw [if_pos c1] at hr
      by_cases c2 : vb = 1
      · rw [if_pos c2] at hr; exact .inr (.inr ⟨c1, c2, hr⟩)
      · rw [if_neg c2] at hr; exact .inr (.inl ⟨c1, bne_iff_ne.mpr c2, hr.symm⟩)
    · rw [if_neg c1] at hr; exact .inl ⟨bne_iff_ne.mpr c1, hr.symm⟩
  clear hr
  have hW1' := Aside0.mk hW1
  have HN0 := Aside0.mk hn0
  clear hW1 hn0
  rcases hcases with ⟨d5, rfl⟩ | ⟨rfl, d5, rfl⟩ | ⟨rfl, rfl, hr⟩
  rotate_left 2
  have HR := Aside0.mk hr
  clear hr
  all_goals
    go_enter Try.func16, Try.ntmps16
    go_upto_region 7 with fail
    rw [hW1'.out, HN0.out]
    obtain ⟨hc0, hc1, hc2⟩ := HCC.out _ _ HS.out
    go_wp2_with (first
      | (go_at_call_of 22 (Value.int .i64 g); refine HA1.out.mono ?_; rintro e W2 ⟨rfl, hS2⟩; obtain ⟨hd0, hd1, hd2⟩ := HCC.out _ _ hS2; have HS2 := Aside0.mk hS2; clear hS2)
      | (go_at_call_of 22 (Value.int .i64 b); refine (HA2.out _ HS2.out).mono ?_; rintro e W3 ⟨rfl, hS3⟩; obtain ⟨he0, he1, he2⟩ := HCC.out _ _ hS3; have HS3 := Aside0.mk hS3; clear hS3))
  rotate_left
  · go_ret
    exact ⟨rfl, HN0.out ▸ HS2.out.1.2.2.2.2⟩
  · go_ret
    exact ⟨rfl, HN0.out ▸ HS3.out.1.2.2.2.2⟩
  clear hc0 hc1 hc2 hd0 hd1 hd2 he0 he1 he2
  have HLE := Aside0.mk (show (l.length : Int) ≤ 62 by have := HA4.out; omega)
  go_loopw [7] (fun v7 wr => ∃ (k : Nat) (ps : List Int), k ≤ l.length ∧ v7 = .int .i64 (k : Int) ∧ Aside0 (CR n0 vs w cs ps wr) ∧ ps.length ≤ k + 2 ∧ Aside0 (chkP (vd vs) g 0 l = chkP (vd vs) g (k : Int) (l.drop k)))
    (fun v7 _ => l.length - (intOf v7).toNat)
  case atStart => exact ⟨0, _, Nat.zero_le _, rfl, HS3, by simp, ⟨by simp⟩⟩
  case round =>
    obtain ⟨k, ps, hk, rfl, HX, hpl, HCH⟩ := hrel
    have HBX : Aside0 (Below w.heap.size w wr) := ⟨by rw [HN0.out]; exact HX.out.1.2.2.2.2⟩
    obtain ⟨hc0, -, hc2⟩ := HCC.out _ _ HX.out
    by_cases hlt : k < l.length
    · have dk : decide ((k : Int) < (l.length : Int)) = true := decide_eq_true (by omega)
      have hdrop := chkP_drop (vd vs) g l k hlt
      obtain ⟨ad, had, hx⟩ := Kd.at_int (Kd.C_below HC.out HBX.out) (k : Int) (by omega) (by omega)
      subst had
      rw [Int.toNat_natCast] at hx
      have hrd : rd l (k : Int) = l[k] := by unfold rd; simp [hlt]
      rw [hrd] at hx
      clear hrd
      have hxx : ∀ W4, Below w.heap.size w W4 → W4.cell? (ad.add k) = some (.int .i64 l[k]) := fun W4 h4 => by
        obtain ⟨ad', e', hx'⟩ := Kd.at_int (Kd.C_below HC.out h4) (k : Int) (by omega) (by omega)
        cases e'
        rw [Int.toNat_natCast, show rd l (k : Int) = l[k] by unfold rd; simp [hlt]] at hx'
        exact hx'
      generalize l[k] = x at hx hdrop hxx
      have HXX := Aside0.mk hxx
      clear hxx
      have hk62 : (k : Int) < 62 := by have := HLE.out; omega
      have hst : chkP (vd vs) g 0 l = if x = g + 1 + (k : Int) then (if vd vs x = 2 then chkP (vd vs) g ((k + 1 : Nat) : Int) (l.drop (k + 1)) else false) else false := HCH.out.trans hdrop
      clear hdrop
      by_cases hxe : x = g + 1 + (k : Int)
      · rw [if_pos hxe] at hst
        have dx : (x != g + 1 + (k : Int)) = false := by simpa using hxe
        have HASK := Aside0.mk (fun m => rcask n0 vs w cs ps x (wr.drewN m) (HX.out.drewN m) (by omega) (by rw [HN.out]; have := HA4.out; omega) (by omega))
        obtain ⟨v, hv⟩ : ∃ v, vd vs x = v := ⟨_, rfl⟩
        rw [hv] at HASK hst
        clear hxe hv
        by_cases h2 : v = 2
        · subst h2
          rw [if_pos rfl] at hst
          have HST := Aside0.mk hst
          clear hst HCH
          have HY : Aside0 (∀ W4, CR n0 vs w cs (ps ++ [x]) W4 → W4.cell? ⟨n0, 0, none⟩ = some (.int .i64 g) ∧ W4.cell? ⟨n0, 2, none⟩ = some (.slice (some ad) l.length c) ∧ W4.cell? (ad.add k) = some (.int .i64 x)) := ⟨fun W4 h4 => by
            obtain ⟨q0, -, q2⟩ := HCC.out _ _ h4
            have hb4 : Below w.heap.size w W4 := by rw [HN0.out]; exact h4.1.2.2.2.2
            exact ⟨q0, q2, HXX.out W4 hb4⟩⟩
          go_upto_region 12 with fail
          have hw1 : IntKind.i64.wrap (g + 1) = g + 1 := Go.IntWalk.i64_in _ (by omega)
          have hw2 : IntKind.i64.wrap (g + 1 + (k : Int)) = g + 1 + (k : Int) := Go.IntWalk.i64_in _ (by omega)
          go_region_held3 (fun W' => W'.cell? ⟨n0, 0, none⟩ = some (.int .i64 g) ∧ W'.cell? ⟨n0, 2, none⟩ = some (.slice (some ad) l.length c) ∧ W'.cell? (ad.add k) = some (.int .i64 x)) (first | exact ⟨hc0, hc2, hx⟩ | exact ⟨he0, he2, hy⟩)
            (first
              | (go_at_call 22; refine (HASK.out 1).mono ?_; rintro e W4 ⟨rfl, hS4⟩; obtain ⟨he0, he2, hy⟩ := HY.out _ hS4; have HS4 := Aside0.mk hS4; clear hS4))
          go_wp2
          refine ⟨⟨k + 1, ps ++ [x], by omega, by simp, HS4, by rw [List.length_append, List.length_singleton]; omega, HST⟩, by simp [intOf]; omega⟩
        · have dv : (v != 2) = true := bne_iff_ne.mpr h2
          rw [if_neg h2] at hst
          obtain rfl : r = 18 := by have := HR.out; rw [hst] at this; exact this.symm
          clear hst HCH HR h2
          have HY : Aside0 (∀ W4, CR n0 vs w cs (ps ++ [x]) W4 → W4.cell? ⟨n0, 0, none⟩ = some (.int .i64 g) ∧ W4.cell? ⟨n0, 2, none⟩ = some (.slice (some ad) l.length c) ∧ W4.cell? (ad.add k) = some (.int .i64 x)) := ⟨fun W4 h4 => by
            obtain ⟨q0, -, q2⟩ := HCC.out _ _ h4
            have hb4 : Below w.heap.size w W4 := by rw [HN0.out]; exact h4.1.2.2.2.2
            exact ⟨q0, q2, HXX.out W4 hb4⟩⟩
          go_upto_region 12 with fail
          have hw1 : IntKind.i64.wrap (g + 1) = g + 1 := Go.IntWalk.i64_in _ (by omega)
          have hw2 : IntKind.i64.wrap (g + 1 + (k : Int)) = g + 1 + (k : Int) := Go.IntWalk.i64_in _ (by omega)
          go_region_held3 (fun W' => W'.cell? ⟨n0, 0, none⟩ = some (.int .i64 g) ∧ W'.cell? ⟨n0, 2, none⟩ = some (.slice (some ad) l.length c) ∧ W'.cell? (ad.add k) = some (.int .i64 x)) (first | exact ⟨hc0, hc2, hx⟩ | exact ⟨he0, he2, hy⟩)
            (first
              | (go_at_call 22; refine (HASK.out 1).mono ?_; rintro e W4 ⟨rfl, hS4⟩; obtain ⟨he0, he2, hy⟩ := HY.out _ hS4; have HS4 := Aside0.mk hS4; clear hS4))
          go_wp2
          go_ret
          exact ⟨rfl, by rw [HN0.out]; exact HS4.out.1.2.2.2.2⟩
      · have dx : (x != g + 1 + (k : Int)) = true := bne_iff_ne.mpr hxe
        rw [if_neg hxe] at hst
        obtain rfl : r = 18 := by have := HR.out; rw [hst] at this; exact this.symm
        clear hst HCH HR hxe
        go_upto_region 12 with fail
        go_quiet (fail)
        go_wp2
        go_ret
        exact ⟨rfl, HBX.out.trans ⟨rfl, rfl, rfl, Nat.le_refl _, fun _ _ => rfl⟩⟩
    · have dk : decide ((k : Int) < (l.length : Int)) = false := decide_eq_false (by omega)
      obtain rfl : r = 0 := by have := HR.out; rw [HCH.out, List.drop_of_length_le (by omega)] at this; exact this.symm
      clear HCH HR
      go_wp2
      go_ret
      exact ⟨rfl, HBX.out⟩
end Go.Proofs.Ytljjkdlnkklibaa.BisRChk
