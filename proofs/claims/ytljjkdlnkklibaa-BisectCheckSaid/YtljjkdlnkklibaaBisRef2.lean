/- The reference search: Has, S.next. -/
import Derived.Lib.SliceRun
import Derived.Test.YtljjkdlnkklibaaProg
import Derived.Below
import Derived.Deep.Draws
import Derived.Deep.AppendLies
import Derived.Maps.AppendAt
import Derived.OwnWalk
import Derived.Laws.BytesArg
import Derived.Laws.MakeOwn
import Derived.Laws.OwnMore
import Derived.Deep.OwnRows
import Derived.Tactics
import Derived.Lib.ConvBytes
import Derived.Laws.Slices
import Derived.WalkKit
import Derived.KernelRfl
import Derived.RowKit3
import Derived.Deep.LoopGhost
import Derived.Deep.QuietTactic
import Derived.BigQuiet
import Derived.WideLaws
import Derived.Deep.DeepCutAuto
import Derived.Deep.CutBlock
import Derived.BigQuiet
import Derived.Deep.RegionHeld3
import Derived.Laws.Rows
import Derived.Lib.AppendStr
import Derived.ArgAppend
import Derived.Laws.IdiomCopy
import Derived.OrdersHeld
import Derived.Laws.BitsLemmas
import Derived.RowKit
import Derived.Test.YtljjkdlnkklibaaPw
import Derived.Test.YtljjkdlnkklibaaWWords
import Derived.Test.YtljjkdlnkklibaaWLast
import Derived.Test.YtljjkdlnkklibaaWTab
import Derived.Test.YtljjkdlnkklibaaWFour
import Derived.Test.YtljjkdlnkklibaaWQPut
import Derived.Test.YtljjkdlnkklibaaWApart
import Derived.Test.YtljjkdlnkklibaaWArr
import Derived.Test.YtljjkdlnkklibaaWZeros
import Derived.Test.YtljjkdlnkklibaaWFoot
import Derived.Test.YtljjkdlnkklibaaWKept
import Derived.Test.YtljjkdlnkklibaaWShare
import Derived.Test.YtljjkdlnkklibaaWN
import Derived.Test.YtljjkdlnkklibaaWFootNe
import Derived.Test.YtljjkdlnkklibaaWAt
import Derived.Test.YtljjkdlnkklibaaWEqStruct
import Derived.Test.YtljjkdlnkklibaaWRepsOne
import Derived.Test.YtljjkdlnkklibaaWInv
import Derived.Test.YtljjkdlnkklibaaWInvWords
import Derived.Test.YtljjkdlnkklibaaWGuard
import Derived.Test.YtljjkdlnkklibaaWNEv
import Derived.Test.YtljjkdlnkklibaaWMore
import Derived.Test.YtljjkdlnkklibaaBisPlain
import Derived.Maps.OwnSet
import Derived.Test.YtljjkdlnkklibaaBisAsk
import Derived.RangeFuncNested
import Derived.RangeFuncBound
import Derived.RangeFuncBox
import Derived.RangeFuncCalls
import Derived.RangeFuncLeaves
import Derived.Shelf.Abstract
import Derived.Shelf.RegionOpen
import Derived.OwnWalkIn
import Derived.TacticsInMore
import Derived.LoopNIn
import Derived.LoopIn
import Derived.Maps.OwnIn
import Derived.Test.YtljjkdlnkklibaaBisCand
import Derived.Deep.CutBlock
import Derived.BigQuiet
import Derived.RangeFuncWrites
import Derived.Test.YtljjkdlnkklibaaBisSt
import Derived.Test.YtljjkdlnkklibaaBisRef
namespace Go.Proofs.Ytljjkdlnkklibaa.BisRef2
open Go.RowKit Go.Shelf Go.Maps Go.Proofs.YtljjkdlnkklibaaW.PrintWords Go.Proofs.YtljjkdlnkklibaaW.PrintLast Go.Proofs.YtljjkdlnkklibaaW.PrintMore Go.Proofs.Ytljjkdlnkklibaa.BisPlain Go.Proofs.Ytljjkdlnkklibaa.BisAsk Go.Proofs.Ytljjkdlnkklibaa.BisCand Go.Proofs.Ytljjkdlnkklibaa.BisSt Go.Proofs.Ytljjkdlnkklibaa.BisRef
set_option linter.unusedVariables false

theorem contains_take (l : List Int) (x : Int) (k : Nat) (h : k < l.length) (hk : (l.take k).contains x = false) (hx : l[k] ≠ x) : (l.take (k + 1)).contains x = false := by
  rw [List.take_succ_eq_append_getElem h]
  simp only [List.contains_eq_mem, decide_eq_false_iff_not, List.mem_append, List.mem_singleton, not_or] at hk ⊢
  exact ⟨hk, fun e => hx e.symm⟩

set_option maxHeartbeats 4000000 in
set_option maxRecDepth 100000 in
theorem has_c (A : Option Addr) (c : Nat) (l : List Int) (x : Int) (hl : l.length ≤ 1000) (W : World) (hC : Kd.C (Kd.int .i64) W A l.length l) :
    Calls Try.prog 17 #[.slice A l.length c, .int .i64 x] W fun e w' => e = .returned (.bool (l.contains x)) ∧ W = w' := by
  have HC := Aside0.mk hC
  obtain ⟨N, hN⟩ : ∃ N, N = l.length := ⟨_, rfl⟩
  have HN := Aside0.mk hN
  rw [← hN] at hl ⊢
  clear hC hN
  go_enter Try.func17, Try.ntmps17
  go_wp2
  go_loopw [5] (fun i wr => wr = W ∧ ∃ k : Nat, k ≤ N ∧ i = .int .i64 (k : Int) ∧ Aside0 ((l.take k).contains x = false)) (fun i _ => N - (intOf i).toNat)
  case atStart => exact ⟨rfl, 0, Nat.zero_le _, rfl, ⟨by simp⟩⟩
  case round =>
    obtain ⟨rfl, k, hk, rfl, HK⟩ := hrel
    by_cases hlt : k < N
    · have dk : decide ((k : Int) < (N : Int)) = true := decide_eq_true (by omega)
      obtain ⟨ad, rfl, hx⟩ := Kd.at_int HC.out (k : Int) (by omega) (by have := HN.out; omega)
      rw [Int.toNat_natCast] at hx
      have hlk : k < l.length := by have := HN.out; omega
      have hr : rd l (k : Int) = l[k] := by unfold rd; simp [hlk]
      rw [hr] at hx
      have hct := contains_take l x k hlk HK.out
      have hmem : l[k] ∈ l := List.getElem_mem hlk
      generalize l[k] = y at hx hct hmem
      clear hr
      by_cases hy : y = x
      · subst hy
        have hcc : Aside0 (l.contains y = true) := ⟨by simpa using hmem⟩
        clear hct hmem
        go_wp2
        go_ret
        exact ⟨show Ending.returned (Value.bool true) = Ending.returned (Value.bool (l.contains y)) by rw [hcc.out], rfl⟩
      · have dy : (y == x) = false := beq_eq_false_iff_ne.mpr hy
        have HCT := Aside0.mk (hct hy)
        clear hct hmem
        go_wp2
        refine ⟨⟨trivial, k + 1, by omega, by simp, HCT⟩, by simp [intOf]; omega⟩
    · have dk : decide ((k : Int) < (N : Int)) = false := decide_eq_false (by omega)
      have hcc : Aside0 (l.contains x = false) := ⟨by have := HK.out; rwa [List.take_of_length_le (by have := HN.out; omega)] at this⟩
      go_wp2
      go_ret
      exact ⟨show Ending.returned (Value.bool false) = Ending.returned (Value.bool (l.contains x)) by rw [hcc.out], rfl⟩

theorem RS.below {n0 g : Nat} {ok : Nat → Prop} {vs : List Int} {w W W' : World} {ps : List Int} (h : RS n0 ok vs w W g ps) (hb : Below W.heap.size W W') (hn : n0 ≤ W.heap.size) : RS n0 ok vs w W' g ps := by
  obtain ⟨⟨A, c, v, h1, h2, h3⟩, h4, h5, h6, h7⟩ := h
  exact ⟨⟨A, c, v, blk_below h1 hb, fun W2 h => h2 W2 ((hb.mono hn).trans h), Kd.R_below h3 hb⟩, h4, h5, fun k hk => h6 k (Nat.le_trans hb.size hk), h7.trans (hb.mono hn)⟩
def nxt : Option Int → Int
  | none => -1
  | some i => i
def nrest (ps : List Int) (g b m d : Int) (k : Nat) : Nat → Option Int
  | 0 => if cand ps g b (m + d) = true then some (m + d) else if cand ps g b (m - d) = true then some (m - d) else nextFrom ps g b m k (d + 1)
  | 1 => if cand ps g b (m - d) = true then some (m - d) else nextFrom ps g b m k (d + 1)
  | _ => nextFrom ps g b m k (d + 1)
theorem nrest_step (ps : List Int) (g b m d : Int) (k : Nat) : ∀ j : Nat, j < 2 → nrest ps g b m d k j = if cand ps g b (elt m d j) = true then some (elt m d j) else nrest ps g b m d k (j + 1)
  | 0, _ => rfl
  | 1, _ => rfl
  | _ + 2, h => absurd h (by omega)
end Go.Proofs.Ytljjkdlnkklibaa.BisRef2
