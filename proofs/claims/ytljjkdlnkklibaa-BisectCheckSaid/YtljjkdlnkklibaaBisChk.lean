/- bisect.Check: walked. -/
import Derived.Lib.SliceRun
import Derived.Test.YtljjkdlnkklibaaProg
import Derived.Below
import Derived.Deep.Draws
import Derived.Deep.AppendLies
import Derived.Maps.AppendAt
import Derived.OwnWalk
import Derived.Laws.BytesArg
import Derived.Laws.MakeOwn
import Derived.Laws.OwnMore
import Derived.Deep.OwnRows
import Derived.Tactics
import Derived.Lib.ConvBytes
import Derived.Laws.Slices
import Derived.WalkKit
import Derived.KernelRfl
import Derived.RowKit3
import Derived.Deep.LoopGhost
import Derived.Deep.QuietTactic
import Derived.BigQuiet
import Derived.WideLaws
import Derived.Deep.DeepCutAuto
import Derived.Deep.CutBlock
import Derived.BigQuiet
import Derived.Deep.RegionHeld3
import Derived.Laws.Rows
import Derived.Lib.AppendStr
import Derived.ArgAppend
import Derived.Laws.IdiomCopy
import Derived.OrdersHeld
import Derived.Laws.BitsLemmas
import Derived.RowKit
import Derived.Test.YtljjkdlnkklibaaPw
import Derived.Test.YtljjkdlnkklibaaWWords
import Derived.Test.YtljjkdlnkklibaaWLast
import Derived.Test.YtljjkdlnkklibaaWTab
import Derived.Test.YtljjkdlnkklibaaWFour
import Derived.Test.YtljjkdlnkklibaaWQPut
import Derived.Test.YtljjkdlnkklibaaWApart
import Derived.Test.YtljjkdlnkklibaaWArr
import Derived.Test.YtljjkdlnkklibaaWZeros
import Derived.Test.YtljjkdlnkklibaaWFoot
import Derived.Test.YtljjkdlnkklibaaWKept
import Derived.Test.YtljjkdlnkklibaaWShare
import Derived.Test.YtljjkdlnkklibaaWN
import Derived.Test.YtljjkdlnkklibaaWFootNe
import Derived.Test.YtljjkdlnkklibaaWAt
import Derived.Test.YtljjkdlnkklibaaWEqStruct
import Derived.Test.YtljjkdlnkklibaaWRepsOne
import Derived.Test.YtljjkdlnkklibaaWInv
import Derived.Test.YtljjkdlnkklibaaWInvWords
import Derived.Test.YtljjkdlnkklibaaWGuard
import Derived.Test.YtljjkdlnkklibaaWNEv
import Derived.Test.YtljjkdlnkklibaaWMore
import Derived.Test.YtljjkdlnkklibaaBisPlain
import Derived.Maps.OwnSet
import Derived.Test.YtljjkdlnkklibaaBisAsk
import Derived.RangeFuncNested
import Derived.RangeFuncBound
import Derived.RangeFuncBox
import Derived.RangeFuncCalls
import Derived.RangeFuncLeaves
import Derived.Shelf.Abstract
import Derived.Shelf.RegionOpen
import Derived.OwnWalkIn
import Derived.TacticsInMore
import Derived.LoopNIn
import Derived.LoopIn
import Derived.Maps.OwnIn
import Derived.Test.YtljjkdlnkklibaaBisCand
import Derived.Deep.CutBlock
import Derived.BigQuiet
import Derived.RangeFuncWrites
import Derived.Deep.RegionWith
import Derived.Test.YtljjkdlnkklibaaBisSt
namespace Go.Proofs.Ytljjkdlnkklibaa.BisChk
open Go.RowKit Go.Shelf Go.Maps Go.Proofs.YtljjkdlnkklibaaW.PrintWords Go.Proofs.YtljjkdlnkklibaaW.PrintLast Go.Proofs.YtljjkdlnkklibaaW.PrintMore Go.Proofs.Ytljjkdlnkklibaa.BisPlain Go.Proofs.Ytljjkdlnkklibaa.BisAsk Go.Proofs.Ytljjkdlnkklibaa.BisCand Go.Proofs.Ytljjkdlnkklibaa.BisSt
set_option linter.unusedVariables false

/-- The search of a check: the answer's box at n0, the map, the struct. -/
def CS (n0 Bl : Nat) (vs : List Int) (w : World) (cs : Array Value) (ps : List Int) (W : World) : Prop :=
  Sr n0 (fun k => n0 + 1 + 1 < k) W (n0 + 1 + 1) (n0 + 1) Bl (vd vs) ps ∧ W.heap[n0]? = some (.cells cs 27 (0, 0)) ∧ Lst n0 Bl vs W ∧ Below n0 w W
theorem cask (n0 Bl : Nat) (vs : List Int) (w : World) (cs : Array Value) (ps : List Int) (i : Int) (W : World) (h : CS n0 Bl vs w cs ps W) (hi : -1000 ≤ i ∧ i ≤ 1000) (hp : ps.length < 1000) :
    Calls Try.prog 19 #[.pointer (some ⟨n0 + 1 + 1, 0, none⟩), .int .i64 i] W fun e w' => e = .returned (.int .i64 (vd vs i)) ∧ CS n0 Bl vs w cs (ps ++ [i]) w' := by
  obtain ⟨h1, h2, h3, h4⟩ := h
  have hlt : n0 + 1 + 1 < W.heap.size := by obtain ⟨v, hb, -⟩ := h1; exact blk_lt hb
  refine (ask_c n0 (n0 + 1 + 1) (n0 + 1) Bl _ vs ps i W h3 h1 (by omega) (by omega) (by omega) (fun k hk => by omega) (wf_small hi.1 hi.2) hp).mono ?_
  rintro e W' ⟨rfl, s1, s2, s3, s4⟩
  exact ⟨rfl, s1, (s3 _ (blk_lt h2) (by omega) (by omega) (by omega)).trans h2, h3.below s2, h4.trans s2⟩
theorem CS.cells {n0 Bl : Nat} {vs : List Int} {w W : World} {ps : List Int} {a b c d : Value} (h : CS n0 Bl vs w #[a, b, c, d] ps W) : W.cell? ⟨n0, 0, none⟩ = some a ∧ W.cell? ⟨n0, 1, none⟩ = some b ∧ W.cell? ⟨n0, 2, none⟩ = some c :=
  ⟨(blk_cell h.2.1 0).trans rfl, (blk_cell h.2.1 1).trans rfl, (blk_cell h.2.1 2).trans rfl⟩
theorem chkP_drop (V : Int → Int) (g : Int) (l : List Int) (k : Nat) (h : k < l.length) : chkP V g (k : Int) (l.drop k) = if l[k] = g + 1 + (k : Int) then (if V l[k] = 2 then chkP V g ((k + 1 : Nat) : Int) (l.drop (k + 1)) else false) else false := by
  rw [List.drop_eq_getElem_cons h, chkP]; rfl

set_option maxHeartbeats 4000000 in
set_option maxRecDepth 100000 in
theorem Check_nil (n g b : Int) (v2 v3 : Value) (w : World) :
    Calls Try.prog 15 #[.int .i64 n, .agg #[.int .i64 g, .int .i64 b, v2, v3], .nilFunc] w fun e w' => e = .returned (.int .i64 1) ∧ Below w.heap.size w w' := by
  go_enter Try.func15, Try.ntmps15
  go_wp2_with (first
    | (go_at_call 18; refine (possible_nil n _).mono ?_; rintro e w1 ⟨rfl, rfl⟩))
  go_ret
  exact ⟨rfl, (Below.refl _ w).alloc (Nat.le_refl _) _⟩

set_option maxHeartbeats 8000000 in
set_option maxRecDepth 100000 in
theorem Check_c (Bl : Nat) (vs l : List Int) (n g b : Int) (A : Option Addr) (c : Nat) (v3 : Value) (w : World) (hL : Lst w.heap.size Bl vs w) (hC : Kd.C (Kd.int .i64) w A l.length l) :
    Calls Try.prog 15 #[.int .i64 n, .agg #[.int .i64 g, .int .i64 b, .slice A l.length c, v3], pv Bl] w fun e w' => e = .returned (.int .i64 (checkP (vd vs) n g b l)) ∧ Below w.heap.size w w' := by
  obtain ⟨r, hr⟩ : ∃ r, checkP (vd vs) n g b l = r := ⟨_, rfl⟩
  rw [hr]
  have HP := Aside0.mk (possible_c n Bl (w.alloc (.cells #[.int .i64 g, .int .i64 b, .slice A l.length c, v3] 27)))
  unfold checkP at hr
  have HL := Aside0.mk hL
  have HC := Aside0.mk hC
  have HB0 := Aside0.mk ((Below.refl _ w).alloc (Nat.le_refl _) (.cells #[.int .i64 g, .int .i64 b, .slice A l.length c, v3] 27))
  clear hL hC
  unfold pv
  by_cases h1 : n < 2 ∨ 64 < n
  · rw [if_pos h1] at HP hr
    subst hr
    clear h1
    go_enter Try.func15, Try.ntmps15
    go_wp2_with (first
      | (go_at_call 18; refine HP.out.mono ?_; rintro e w1 ⟨rfl, rfl⟩))
    go_ret
    exact ⟨rfl, HB0.out⟩
  · rw [if_neg h1] at HP hr
    have hcases : (decide (g < 0) = true ∧ r = 18) ∨ (decide (g < 0) = false ∧ decide (n ≤ b) = true ∧ r = 18) ∨ (decide (g < 0) = false ∧ decide (n ≤ b) = false ∧ decide (b ≤ g) = true ∧ r = 18) ∨
        (decide (g < 0) = false ∧ decide (n ≤ b) = false ∧ decide (b ≤ g) = false ∧ ((l.length : Int) != b - g - 1) = true ∧ r = 18) ∨
        (0 ≤ g ∧ g < b ∧ b < n ∧ (l.length : Int) = b - g - 1 ∧ (if vd vs g = 0 then (if vd vs b = 1 then (if chkP (vd vs) g 0 l = true then 0 else 18) else 18) else 18) = r) := by
      by_cases a1 : g < 0
      · rw [if_pos (.inl a1)] at hr; exact .inl ⟨decide_eq_true a1, hr.symm⟩
      · by_cases a2 : n ≤ b
        · rw [if_pos (.inr (.inl a2))] at hr; exact .inr (.inl ⟨decide_eq_false a1, decide_eq_true a2, hr.symm⟩)
        · by_cases a3 : b ≤ g
          · rw [if_pos (.inr (.inr (.inl a3)))] at hr; exact .inr (.inr (.inl ⟨decide_eq_false a1, decide_eq_false a2, decide_eq_true a3, hr.symm⟩))
          · by_cases a4 : (l.length : Int) = b - g - 1
            · rw [if_neg (by omega)] at hr; exact .inr (.inr (.inr (.inr ⟨by omega, by omega, by omega, a4, hr⟩)))
            · rw [if_pos (.inr (.inr (.inr a4)))] at hr; exact .inr (.inr (.inr (.inl ⟨decide_eq_false a1, decide_eq_false a2, decide_eq_false a3, bne_iff_ne.mpr a4, hr.symm⟩)))
    clear hr
    have hn64 : n ≤ 64 := by omega
    clear h1
    rcases hcases with ⟨d1, rfl⟩ | ⟨d1, d2, rfl⟩ | ⟨d1, d2, d3, rfl⟩ | ⟨d1, d2, d3, d4, rfl⟩ | ⟨a1, a2, a3, a4, hr⟩
    case' inr.inr.inr.inl =>
      (have e1 := of_decide_eq_false d1; have e2 := of_decide_eq_false d2; have e3 := of_decide_eq_false d3)
    iterate 4
      go_enter Try.func15, Try.ntmps15
      go_wp2_with (first
        | (go_at_call 18; refine HP.out.mono ?_; rintro e w1 ⟨rfl, rfl⟩))
      go_ret
      exact ⟨rfl, HB0.out⟩
    have d1 : decide (g < 0) = false := decide_eq_false (by omega)
    have d2 : decide (n ≤ b) = false := decide_eq_false (by omega)
    have d3 : decide (b ≤ g) = false := decide_eq_false (by omega)
    have d4 : ((l.length : Int) != b - g - 1) = false := by simpa using a4
    have hmm := @run_makeMap Try.prog
    obtain ⟨n0, hn0⟩ : ∃ n0, w.heap.size = n0 := ⟨_, rfl⟩
    obtain ⟨cs, hcs⟩ : ∃ cs : Array Value, #[.int .i64 g, .int .i64 b, .slice A l.length c, v3] = cs := ⟨_, rfl⟩
    obtain ⟨W1, hW1⟩ : ∃ W1, ((w.alloc (.cells #[.int .i64 g, .int .i64 b, .slice A l.length c, v3] 27)).alloc (.map #[] 0)).alloc (.cells #[.func (.func 21) #[] #[.pointer (some ⟨Bl, 0, none⟩)], .map (some (w.heap.size + 1)), .slice none 0 0] 50) = W1 := ⟨_, rfl⟩
    have hS : CS n0 Bl vs w cs [] W1 := by
      have b1 := blk_new w (.cells #[.int .i64 g, .int .i64 b, .slice A l.length c, v3] 27)
      have b2 := World.ownsMap_made (H := Unit) (w.alloc (.cells #[.int .i64 g, .int .i64 b, .slice A l.length c, v3] 27)) Try.prog 3 (plainElem Try.prog 3)
      have b3 := blk_new ((w.alloc (.cells #[.int .i64 g, .int .i64 b, .slice A l.length c, v3] 27)).alloc (.map #[] 0)) (.cells #[.func (.func 21) #[] #[.pointer (some ⟨Bl, 0, none⟩)], .map (some (w.heap.size + 1)), .slice none 0 0] 50)
      have hB : Below w.heap.size w W1 := by rw [← hW1]; exact (((Below.refl _ w).alloc (Nat.le_refl _) _).alloc (by simp) _).alloc (by simp; omega) _
      simp only [World.size_alloc] at b2 b3
      rw [← hcs, ← hn0]
      refine ⟨⟨_, ?_, by omega, by omega, ?_, Kd.R_nil _ _ _ _ _⟩, ?_, HL.out.below hB, hB⟩
      · rw [← hW1]; exact b3
      · rw [← hW1]; exact b2.alloc _
      · rw [← hW1]; exact blk_alloc (blk_alloc b1 _) _
    have HS := Aside0.mk hS
    have HCC : ∀ W ps, CS n0 Bl vs w cs ps W → W.cell? ⟨n0, 0, none⟩ = some (.int .i64 g) ∧ W.cell? ⟨n0, 1, none⟩ = some (.int .i64 b) ∧ W.cell? ⟨n0, 2, none⟩ = some (.slice A l.length c) := fun W ps h => by
      rw [← hcs] at h; exact CS.cells h
    have HCC := Aside0.mk HCC
    have HA4 := Aside0.mk a4
    have HA1 := Aside0.mk (cask n0 Bl vs w cs [] g W1 hS ⟨by omega, by omega⟩ (by decide))
    have HA2 : Aside0 (∀ W, CS n0 Bl vs w cs ([] ++ [g]) W → _) := ⟨fun W h => cask n0 Bl vs w cs ([] ++ [g]) b W h ⟨by omega, by omega⟩ (by simp)⟩
    clear hS hcs a4
    obtain ⟨vg, hvg⟩ : ∃ v, vd vs g = v := ⟨_, rfl⟩
    obtain ⟨vb, hvb⟩ : ∃ v, vd vs b = v := ⟨_, rfl⟩
    rw [hvg, hvb] at hr
    rw [hvg] at HA1
    rw [hvb] at HA2
    clear hvg hvb
    have hcases : ((vg != 0) = true ∧ r = 18) ∨ (vg = 0 ∧ (vb != 1) = true ∧ r = 18) ∨ (vg = 0 ∧ vb = 1 ∧ (if chkP (vd vs) g 0 l = true then 0 else 18) = r) := by
      by_cases c1 : vg = 0
      · rw [if_pos c1] at hr
        by_cases c2 : vb = 1
        · rw [if_pos c2] at hr; exact .inr (.inr ⟨c1, c2, hr⟩)
        · rw [if_neg c2] at hr; exact .inr (.inl ⟨c1, bne_iff_ne.mpr c2, hr.symm⟩)
      · rw [if_neg c1] at hr; exact .inl ⟨bne_iff_ne.mpr c1, hr.symm⟩
    clear hr
    have hW1' := Aside0.mk hW1
    have HN0 := Aside0.mk hn0
    clear hW1 hn0
    rcases hcases with ⟨d5, rfl⟩ | ⟨rfl, d5, rfl⟩ | ⟨rfl, rfl, hr⟩
    case' inr.inr => have HR := Aside0.mk hr; clear hr
    all_goals
      go_enter Try.func15, Try.ntmps15
      go_upto_region 7 with (first
        | (go_at_call 18; refine HP.out.mono ?_; rintro e w1 ⟨rfl, rfl⟩))
      rw [hW1'.out, HN0.out]
      obtain ⟨hc0, hc1, hc2⟩ := HCC.out _ _ HS.out
      clear hmm
      go_wp2_with (first
        | (go_at_call_of 19 (Value.int .i64 g); refine HA1.out.mono ?_; rintro e W2 ⟨rfl, hS2⟩; obtain ⟨hd0, hd1, hd2⟩ := HCC.out _ _ hS2; have HS2 := Aside0.mk hS2; clear hS2)
        | (go_at_call_of 19 (Value.int .i64 b); refine (HA2.out _ HS2.out).mono ?_; rintro e W3 ⟨rfl, hS3⟩; obtain ⟨he0, he1, he2⟩ := HCC.out _ _ hS3; have HS3 := Aside0.mk hS3; clear hS3))
    rotate_left
    · go_ret
      exact ⟨rfl, HN0.out ▸ HS2.out.2.2.2⟩
    · go_ret
      exact ⟨rfl, HN0.out ▸ HS3.out.2.2.2⟩
    clear hc0 hc1 hc2 hd0 hd1 hd2
    have HLE := Aside0.mk (show (l.length : Int) ≤ 62 by have := HA4.out; omega)
    go_loopw [64] (fun v64 wr => ∃ (k : Nat) (ps : List Int), k ≤ l.length ∧ v64 = .int .i64 (k : Int) ∧ Aside0 (CS n0 Bl vs w cs ps wr) ∧ ps.length ≤ k + 2 ∧ Aside0 (chkP (vd vs) g 0 l = chkP (vd vs) g (k : Int) (l.drop k)))
      (fun v64 _ => l.length - (intOf v64).toNat)
    case atStart => exact ⟨0, _, Nat.zero_le _, rfl, HS3, by simp, ⟨by simp⟩⟩
    case round =>
      obtain ⟨k, ps, hk, rfl, HX, hpl, HCH⟩ := hrel
      obtain ⟨hc0, -, -⟩ := HCC.out _ _ HX.out
      have HBX : Aside0 (Below w.heap.size w wr) := ⟨by rw [HN0.out]; exact HX.out.2.2.2⟩
      by_cases hlt : k < l.length
      · have dk : decide ((k : Int) < (l.length : Int)) = true := decide_eq_true (by omega)
        have hdrop := chkP_drop (vd vs) g l k hlt
        obtain ⟨ad, had, hx⟩ := Kd.at_int (Kd.C_below HC.out HBX.out) (k : Int) (by omega) (by omega)
        subst had
        rw [Int.toNat_natCast] at hx
        have hrd : rd l (k : Int) = l[k] := by unfold rd; simp [hlt]
        rw [hrd] at hx
        clear hrd
        generalize l[k] = x at hx hdrop
        have hk62 : (k : Int) < 62 := by have := HLE.out; omega
        have hst : chkP (vd vs) g 0 l = if x = g + 1 + (k : Int) then (if vd vs x = 2 then chkP (vd vs) g ((k + 1 : Nat) : Int) (l.drop (k + 1)) else false) else false := HCH.out.trans hdrop
        clear hdrop
        by_cases hxe : x = g + 1 + (k : Int)
        · rw [if_pos hxe] at hst
          have dx : (x != g + 1 + (k : Int)) = false := by simpa using hxe
          have HASK := Aside0.mk (cask n0 Bl vs w cs ps x wr HX.out ⟨by omega, by omega⟩ (by omega))
          obtain ⟨v, hv⟩ : ∃ v, vd vs x = v := ⟨_, rfl⟩
          rw [hv] at HASK hst
          clear hxe hv
          by_cases h2 : v = 2
          · subst h2
            rw [if_pos rfl] at hst
            have HST := Aside0.mk hst
            clear hst HCH
            go_wp2_with (first
              | (go_at_call 19; refine HASK.out.mono ?_; rintro e W4 ⟨rfl, hS4⟩; have HS4 := Aside0.mk hS4; clear hS4))
            refine ⟨⟨k + 1, ps ++ [x], by omega, by simp, HS4, by rw [List.length_append, List.length_singleton]; omega, HST⟩, by simp [intOf]; omega⟩
          · have dv : (v != 2) = true := bne_iff_ne.mpr h2
            rw [if_neg h2] at hst
            obtain rfl : r = 18 := by have := HR.out; rw [hst] at this; exact this.symm
            clear hst HCH HR h2
            go_wp2_with (first
              | (go_at_call 19; refine HASK.out.mono ?_; rintro e W4 ⟨rfl, hS4⟩; have HS4 := Aside0.mk hS4; clear hS4))
            go_ret
            exact ⟨rfl, by rw [HN0.out]; exact HS4.out.2.2.2⟩
        · have dx : (x != g + 1 + (k : Int)) = true := bne_iff_ne.mpr hxe
          rw [if_neg hxe] at hst
          obtain rfl : r = 18 := by have := HR.out; rw [hst] at this; exact this.symm
          clear hst HCH HR hxe
          go_wp2
          go_ret
          exact ⟨rfl, HBX.out⟩
      · have dk : decide ((k : Int) < (l.length : Int)) = false := decide_eq_false (by omega)
        obtain rfl : r = 0 := by have := HR.out; rw [HCH.out, List.drop_of_length_le (by omega)] at this; exact this.symm
        clear HCH HR
        go_wp2
        go_ret
        exact ⟨rfl, HBX.out⟩
end Go.Proofs.Ytljjkdlnkklibaa.BisChk
