/- bisect: possible, candidates: walked. -/
import Derived.Lib.SliceRun
import Derived.Test.YtljjkdlnkklibaaProg
import Derived.Below
import Derived.Deep.Draws
import Derived.Deep.AppendLies
import Derived.Maps.AppendAt
import Derived.OwnWalk
import Derived.Laws.BytesArg
import Derived.Laws.MakeOwn
import Derived.Laws.OwnMore
import Derived.Deep.OwnRows
import Derived.Tactics
import Derived.Lib.ConvBytes
import Derived.Laws.Slices
import Derived.WalkKit
import Derived.KernelRfl
import Derived.RowKit3
import Derived.Deep.LoopGhost
import Derived.Deep.QuietTactic
import Derived.BigQuiet
import Derived.WideLaws
import Derived.Deep.DeepCutAuto
import Derived.Deep.CutBlock
import Derived.Deep.RegionHeld3
import Derived.Laws.Rows
import Derived.Lib.AppendStr
import Derived.ArgAppend
import Derived.Laws.IdiomCopy
import Derived.OrdersHeld
import Derived.Laws.BitsLemmas
import Derived.RowKit
import Derived.Test.YtljjkdlnkklibaaPw
import Derived.Test.YtljjkdlnkklibaaWWords
import Derived.Test.YtljjkdlnkklibaaWLast
import Derived.Test.YtljjkdlnkklibaaWTab
import Derived.Test.YtljjkdlnkklibaaWFour
import Derived.Test.YtljjkdlnkklibaaWQPut
import Derived.Test.YtljjkdlnkklibaaWApart
import Derived.Test.YtljjkdlnkklibaaWArr
import Derived.Test.YtljjkdlnkklibaaWZeros
import Derived.Test.YtljjkdlnkklibaaWFoot
import Derived.Test.YtljjkdlnkklibaaWKept
import Derived.Test.YtljjkdlnkklibaaWShare
import Derived.Test.YtljjkdlnkklibaaWN
import Derived.Test.YtljjkdlnkklibaaWFootNe
import Derived.Test.YtljjkdlnkklibaaWAt
import Derived.Test.YtljjkdlnkklibaaWEqStruct
import Derived.Test.YtljjkdlnkklibaaWRepsOne
import Derived.Test.YtljjkdlnkklibaaWInv
import Derived.Test.YtljjkdlnkklibaaWInvWords
import Derived.Test.YtljjkdlnkklibaaWGuard
import Derived.Test.YtljjkdlnkklibaaWNEv
import Derived.Test.YtljjkdlnkklibaaWMore
import Derived.Test.YtljjkdlnkklibaaBisPlain
import Derived.Maps.OwnSet
import Derived.Test.YtljjkdlnkklibaaBisAsk
import Derived.RangeFuncNested
import Derived.RangeFuncBound
import Derived.RangeFuncBox
import Derived.RangeFuncCalls
import Derived.RangeFuncLeaves
import Derived.Shelf.Abstract
import Derived.Shelf.RegionOpen
import Derived.OwnWalkIn
import Derived.TacticsInMore
import Derived.LoopNIn
import Derived.LoopIn
import Derived.Maps.OwnIn
namespace Go.Proofs.Ytljjkdlnkklibaa.BisCand
open Go.RowKit Go.Shelf Go.Maps Go.Proofs.YtljjkdlnkklibaaW.PrintWords Go.Proofs.YtljjkdlnkklibaaW.PrintLast Go.Proofs.YtljjkdlnkklibaaW.PrintMore Go.Proofs.Ytljjkdlnkklibaa.BisPlain Go.Proofs.Ytljjkdlnkklibaa.BisAsk
set_option linter.unusedVariables false
section
open Go.Instr
theorem run_equalIn_func_nil {P : Program} (w : World) (d : Nat) (t : TypeId) (ps rs : Array TypeId) (vd : Bool) (fn : Fn) (f c : Array Value) (h : P.underlying t = some (.func ps rs vd)) :
    (Op.equalIn (d + 1) t (.func fn f c) .nilFunc).run P w = .ok false w := by
  simp [Op.equalIn, run_underlying h]
theorem run_equalIn_nil_func {P : Program} (w : World) (d : Nat) (t : TypeId) (ps rs : Array TypeId) (vd : Bool) (h : P.underlying t = some (.func ps rs vd)) :
    (Op.equalIn (d + 1) t .nilFunc .nilFunc).run P w = .ok true w := by
  simp [Op.equalIn, run_underlying h]
theorem run_eql_func_nil {P : Program} (w : World) (t : TypeId) (ps rs : Array TypeId) (vd : Bool) (fn : Fn) (f c : Array Value) (h : P.underlying t = some (.func ps rs vd)) :
    (binOp .eql t (.func fn f c) .nilFunc).run P w = .ok (.bool false) w := by
  simp only [binOp]
  simp [Op.equal, Op.maxDepth, run_equalIn_func_nil w 9999 t ps rs vd fn f c h]
theorem run_eql_nil_func {P : Program} (w : World) (t : TypeId) (ps rs : Array TypeId) (vd : Bool) (h : P.underlying t = some (.func ps rs vd)) :
    (binOp .eql t .nilFunc .nilFunc).run P w = .ok (.bool true) w := by
  simp only [binOp]
  simp [Op.equal, Op.maxDepth, run_equalIn_nil_func w 9999 t ps rs vd h]
end

set_option maxHeartbeats 2000000 in
set_option maxRecDepth 100000 in
theorem possible_nil (n : Int) (W : World) :
    Calls Try.prog 18 #[.int .i64 n, .nilFunc] W fun e w' => e = .returned (.int .i64 1) ∧ W = w' := by
  have q1 : ∀ (w : World) (fn : Fn) (f c : Array Value), (binOp .eql 31 (.func fn f c) .nilFunc).run Try.prog w = .ok (.bool false) w := fun w fn f c => run_eql_func_nil w _ _ _ _ fn f c Try.underlying31
  have q2 : ∀ (w : World), (binOp .eql 31 .nilFunc .nilFunc).run Try.prog w = .ok (.bool true) w := fun w => run_eql_nil_func w _ _ _ _ Try.underlying31
  go_enter Try.func18, Try.ntmps18
  go_wp2
  go_ret
  exact ⟨rfl, rfl⟩

set_option maxHeartbeats 2000000 in
set_option maxRecDepth 100000 in
theorem possible_c (n : Int) (Bl : Nat) (W : World) :
    Calls Try.prog 18 #[.int .i64 n, .func (.func 21) #[] #[.pointer (some ⟨Bl, 0, none⟩)]] W fun e w' => e = .returned (.int .i64 (if n < 2 ∨ 64 < n then 5 else 0)) ∧ W = w' := by
  have q1 : ∀ (w : World) (fn : Fn) (f c : Array Value), (binOp .eql 31 (.func fn f c) .nilFunc).run Try.prog w = .ok (.bool false) w := fun w fn f c => run_eql_func_nil w _ _ _ _ fn f c Try.underlying31
  by_cases c1 : n < 2
  · have d1 : decide (n < 2) = true := decide_eq_true c1
    rw [if_pos (Or.inl c1)]
    go_enter Try.func18, Try.ntmps18
    go_wp2
    go_ret
    exact ⟨rfl, rfl⟩
  · have d1 : decide (n < 2) = false := decide_eq_false c1
    by_cases c2 : 64 < n
    · have d2 : decide (64 < n) = true := decide_eq_true c2
      rw [if_pos (Or.inr c2)]
      go_enter Try.func18, Try.ntmps18
      go_wp2
      go_ret
      exact ⟨rfl, rfl⟩
    · have d2 : decide (64 < n) = false := decide_eq_false c2
      rw [if_neg (by omega)]
      go_enter Try.func18, Try.ntmps18
      go_wp2
      go_ret
      exact ⟨rfl, rfl⟩

/-- All versions that the iterator would yield. -/
def one (c : Bool) (x : Int) : List Int := if c = true then [x] else []
def allc (ps : List Int) (g b m : Int) : Nat → Int → List Int
  | 0, _ => []
  | k + 1, d => one (cand ps g b (m + d)) (m + d) ++ (one (cand ps g b (m - d)) (m - d) ++ allc ps g b m k (d + 1))
theorem nextFrom_head (ps : List Int) (g b m : Int) : ∀ (k : Nat) (d : Int), nextFrom ps g b m k d = (allc ps g b m k d).head?
  | 0, _ => rfl
  | k + 1, d => by
    unfold nextFrom allc one
    by_cases c1 : cand ps g b (m + d) = true
    · simp [c1]
    · by_cases c2 : cand ps g b (m - d) = true
      · simp [c1, c2]
      · simp [c1, c2, nextFrom_head ps g b m k (d + 1)]
def rest2 (ps : List Int) (g b m d : Int) (k : Nat) : Nat → List Int
  | 0 => one (cand ps g b (m + d)) (m + d) ++ (one (cand ps g b (m - d)) (m - d) ++ allc ps g b m k (d + 1))
  | 1 => one (cand ps g b (m - d)) (m - d) ++ allc ps g b m k (d + 1)
  | _ => allc ps g b m k (d + 1)
def elt (m d : Int) : Nat → Int
  | 0 => m + d
  | _ => m - d
theorem rest2_step (ps : List Int) (g b m d : Int) (k : Nat) : ∀ j : Nat, j < 2 → rest2 ps g b m d k j = one (cand ps g b (elt m d j)) (elt m d j) ++ rest2 ps g b m d k (j + 1)
  | 0, _ => rfl
  | 1, _ => rfl
  | _ + 2, h => absurd h (by omega)
theorem wf_small {x : Int} (h1 : -1000 ≤ x) (h2 : x ≤ 1000) : (Lit.int .i64 x).wf = true := by
  simp [Lit.wf, IntKind.min, IntKind.max, IntKind.signed, IntKind.bits]; omega

/-- What a round keeps: all that lay below n1, and all cells. -/
def Kq (n1 : Nat) (W W' : World) : Prop := Below n1 W W' ∧ ∀ (k : Nat) (o : Obj), W.heap[k]? = some o → o.isCells = true → W'.heap[k]? = some o
theorem Kq.trans {n1 : Nat} {A B C : World} (h : Kq n1 A B) (k : Kq n1 B C) : Kq n1 A C := ⟨h.1.trans k.1, fun i o hi ho => k.2 i o (h.2 i o hi ho) ho⟩
theorem kq_b {n1 : Nat} {w : World} (hn : n1 ≤ w.heap.size) (W : World) (l : Nat) (o o' : Obj) (hl : w.heap.size ≤ l) (h : W.heap[l]? = some o) (hc : o.isCells = false) (hw : o.isWalk = false) : Kq n1 W (W.putObj l o') :=
  ⟨belowK_b hn W l o o' hl h hc hw, fun k o1 hk ho => (World.putObj_heap_other (by intro e; subst e; rw [h] at hk; cases hk; rw [hc] at ho; cases ho)).trans hk⟩

/-- What the iterator reads. -/
def Rd (W : World) (Bs Bg Bb g bm : Nat) (gd bd : Int) (V : Int → Int) (ps : List Int) : Prop :=
  W.heap[Bs]? = some (.cells #[.pointer (some ⟨g, 0, none⟩)] 47 (0, 0)) ∧ W.heap[Bg]? = some (.cells #[.int .i64 gd] 3 (0, 0)) ∧ W.heap[Bb]? = some (.cells #[.int .i64 bd] 3 (0, 0)) ∧
  (∃ v0 v2, W.heap[g]? = some (.cells #[v0, .map (some bm), v2] 50 (0, 0))) ∧ W.ownsMap Try.prog 3 (plainElem Try.prog 3) bm ps.length (Dp V ps)
theorem Rd.below {n1 Bs Bg Bb g bm : Nat} {gd bd : Int} {V : Int → Int} {ps : List Int} {W W' : World} (h : Rd W Bs Bg Bb g bm gd bd V ps) (hn : Bs < n1 ∧ Bg < n1 ∧ Bb < n1 ∧ g < n1 ∧ bm < n1) (hb : Below n1 W W') : Rd W' Bs Bg Bb g bm gd bd V ps := by
  obtain ⟨h1, h2, h3, ⟨v0, v2, h4⟩, es, clock, h5, h6⟩ := h
  exact ⟨(hb.block _ hn.1).trans h1, (hb.block _ hn.2.1).trans h2, (hb.block _ hn.2.2.1).trans h3, ⟨v0, v2, (hb.block _ hn.2.2.2.1).trans h4⟩, es, clock, (hb.block _ hn.2.2.2.2).trans h5, h6⟩
attribute [local go_sem] Oper.semAt_some

set_option maxRecDepth 100000 in
set_option maxHeartbeats 4000000 in
theorem cand1_in (F : Fence) (n : Nat) (h25 : F.fn 25) (hro : F.round = none) (hn : 1 ≤ n) (l n1 Bs Bg Bb g bm : Nat) (gd bd : Int) (V : Int → Int) (ps : List Int)
    (hlt : Bs < n1 ∧ Bg < n1 ∧ Bb < n1 ∧ g < n1 ∧ bm < n1) (hg0 : 0 ≤ gd) (hb0 : gd ≤ bd) (hb64 : bd ≤ 64) (xs : List Int) (hxs : xs = allc ps gd bd (Int.tdiv (gd + bd) 2) (bd - gd).toNat 0) (J Jx : List Int → World → Prop) (W : World)
    (hJ : AbidesFrom W.heap.size J)
    (hY : ∀ pre x W1, -1000 ≤ x → x ≤ 1000 → J pre W1 → pre.length < xs.length → YieldAt F (n - 1) Try.prog l #[.int .i64 x] W1 fun e W' =>
      (e = .returned (.bool true) ∧ J (pre ++ [x]) W' ∧ Kq n1 W1 W') ∨ (e = .returned (.bool false) ∧ Jx (pre ++ [x]) W'))
    (hR : Rd W Bs Bg Bb g bm gd bd V ps) (hn1 : n1 ≤ W.heap.size) (h0 : J [] W) :
    CallsIn F n Try.prog 25 #[.func (.yield l) #[] #[], .pointer (some ⟨Bg, 0, none⟩), .pointer (some ⟨Bb, 0, none⟩), .pointer (some ⟨Bs, 0, none⟩)] W fun e W' => (∃ v, e = .returned v) ∧
      ((∃ ys, ys = xs ∧ J ys W') ∨ (∃ pre, pre <+: xs ∧ Jx pre W')) := by
  have HR := Aside0.mk hR
  have HY := Aside0.mk hY
  have HJ := Aside0.mk hJ
  have HLT := Aside0.mk hlt
  have hc1 : W.cell? ⟨Bg, 0, none⟩ = some (.int .i64 gd) := (blk_cell hR.2.1 0).trans rfl
  have hc2 : W.cell? ⟨Bb, 0, none⟩ = some (.int .i64 bd) := (blk_cell hR.2.2.1 0).trans rfl
  rw [Int.tdiv_eq_ediv_of_nonneg (by omega)] at hxs
  obtain ⟨m, hm⟩ : ∃ m, (gd + bd) / 2 = m := ⟨_, rfl⟩
  have hm0 : 0 ≤ m := by omega
  have hm64 : m ≤ 64 := by omega
  obtain ⟨K, hK⟩ : ∃ K : Nat, (K : Int) = bd - gd := ⟨(bd - gd).toNat, by omega⟩
  rw [hm, ← hK, Int.toNat_natCast] at hxs
  have HXS := Aside0.mk hxs
  have HK := Aside0.mk hK
  clear hY hJ hlt hR hxs hK
  refine callsIn_of_wp Try.func25 rfl h25 ?_ hro
  simp only [Try.ntmps25, List.size_toArray, List.length_cons, List.length_nil, Nat.reduceAdd, Nat.reduceSub, Array.replicate_succ, Array.replicate_zero, List.push_toArray, List.append_toArray, List.nil_append, List.cons_append]
  gi_wp2
  simp only [hm]
  clear hm
  gi_loopw [18] (fun dv wr => ∃ (d : Nat) (pre : List Int), d ≤ K ∧ dv = .int .i64 (d : Int) ∧ Aside0 (xs = pre ++ allc ps gd bd m (K - d) (d : Int)) ∧ J pre wr ∧ Aside0 (Below n1 W wr))
    (fun dv _ => K - (intOf dv).toNat)
  case atStart => exact ⟨0, [], Nat.zero_le _, rfl, ⟨by simpa using HXS.out⟩, h0, ⟨Below.refl _ _⟩⟩
  case round =>
    obtain ⟨d, pre, hd, rfl, HX, hJs, HB⟩ := hrel
    clear hc1 hc2
    by_cases hdk : d < K
    · have dk : decide ((d : Int) < bd - gd) = true := decide_eq_true (by have := HK.out; omega)
      obtain ⟨sl, hsl⟩ : ∃ sl, wr.heap.size = sl := ⟨_, rfl⟩
      have hd64 : (d : Int) ≤ 64 := by have := HK.out; omega
      have hJ1 : J pre (wr.alloc (.cells #[.int .i64 (m + d), .int .i64 (m - d)] 3)) := HJ.out _ _ _ none hJs (World.grownBy_alloc _ _ none) (by simp)
      have hB1 : Below n1 W (wr.alloc (.cells #[.int .i64 (m + d), .int .i64 (m - d)] 3)) := HB.out.alloc (by have := HB.out.size; omega) _
      have hs1 := heap_alloc_new wr (.cells #[.int .i64 (m + d), .int .i64 (m - d)] 3)
      rw [hsl] at hs1
      have HJ1 := Aside0.mk hJ1
      have HB1 := Aside0.mk hB1
      have HS1 := Aside0.mk hs1
      have HX1 : Aside0 (xs = pre ++ rest2 ps gd bd m d (K - (d + 1)) 0) := ⟨by have := HX.out; rw [show K - d = (K - (d + 1)) + 1 by omega] at this; exact this⟩
      clear hJ1 hB1 hs1 hJs HX
      gi_wp2
      gi_loopw [29] (fun jv wr2 => ∃ (j : Nat) (pre : List Int), j ≤ 2 ∧ jv = .int .i64 (j : Int) ∧ Aside0 (xs = pre ++ rest2 ps gd bd m d (K - (d + 1)) j) ∧ J pre wr2 ∧ Aside0 (Below n1 W wr2) ∧
          Aside0 (wr2.heap[sl]? = some (.cells #[.int .i64 (m + d), .int .i64 (m - d)] 3 (0, 0))))
        (fun jv _ => 2 - (intOf jv).toNat)
      case atStart => exact ⟨0, pre, by omega, rfl, HX1, HJ1.out, HB1, HS1⟩
      case round =>
        obtain ⟨j, pre, hj, rfl, HX, hJs, HB, HS⟩ := hrel
        have HRd := Aside0.mk (HR.out.below HLT.out HB.out)
        have HOWN := Aside0.mk HRd.out.2.2.2.2
        have hcg : wr.cell? ⟨Bg, 0, none⟩ = some (.int .i64 gd) := (blk_cell HRd.out.2.1 0).trans rfl
        have hcb : wr.cell? ⟨Bb, 0, none⟩ = some (.int .i64 bd) := (blk_cell HRd.out.2.2.1 0).trans rfl
        have hcs : wr.cell? ⟨Bs, 0, none⟩ = some (.pointer (some ⟨g, 0, none⟩)) := (blk_cell HRd.out.1 0).trans rfl
        have hcm : wr.cell? ⟨g, 1, none⟩ = some (.map (some bm)) := by obtain ⟨v0, v2, h4⟩ := HRd.out.2.2.2.1; exact (blk_cell h4 1).trans rfl
        by_cases hj2 : j < 2
        · have hst := rest2_step ps gd bd m d (K - (d + 1)) j hj2
          have he : -1000 ≤ elt m d j ∧ elt m d j ≤ 1000 := by unfold elt; split <;> omega
          have hcell : wr.cell? ⟨sl, j, none⟩ = some (.int .i64 (elt m d j)) := by
            match j, hj2 with
            | 0, _ => exact (blk_cell HS.out 0).trans rfl
            | 1, _ => exact (blk_cell HS.out 1).trans rfl
          generalize elt m d j = e at hst he hcell
          have HE := Aside0.mk he
          have hkey := keyOf_int_mk Try.underlying3 (wf_small he.1 he.2)
          have hX : xs = pre ++ (one (cand ps gd bd e) e ++ rest2 ps gd bd m d (K - (d + 1)) (j + 1)) := by rw [← hst]; exact HX.out
          have hcases : (Maps.has (Dp V ps) (.int .i64 e) = true ∧ cand ps gd bd e = false) ∨ (Maps.has (Dp V ps) (.int .i64 e) = false ∧ decide (gd < e) = false ∧ cand ps gd bd e = false) ∨
              (Maps.has (Dp V ps) (.int .i64 e) = false ∧ decide (gd < e) = true ∧ decide (e < bd) = false ∧ cand ps gd bd e = false) ∨ (Maps.has (Dp V ps) (.int .i64 e) = false ∧ decide (gd < e) = true ∧ decide (e < bd) = true ∧ cand ps gd bd e = true) := by
            rw [Dp_has]; unfold cand
            cases ps.contains e <;> cases decide (gd < e) <;> cases decide (e < bd) <;> simp
          clear hst HX he
          rcases (by omega : j = 0 ∨ j = 1) with rfl | rfl
          all_goals
            rcases hcases with ⟨hh, hc⟩ | ⟨hh, hh2, hc⟩ | ⟨hh, hh2, hh3, hc⟩ | ⟨hh, hh2, hh3, hc⟩
            all_goals
              rw [hc] at hX
              clear hc
            rotate_right
            · obtain ⟨fn, tmps, assign, body, hy, hYR⟩ := HY.out pre e wr HE.out.1 HE.out.2 hJs (by rw [hX]; simp [one])
              have HX := Aside0.mk hX
              clear hX
              gi_wp2_with (gi_at_lookup; refine wpListIn_lookup_own_ok_int _ rfl (.tmp 37) (.tmp 38) 48 rfl 3 3 .i64 law3 Try.underlying48 Try.underlying3 (zero3 _) bm ps.length (Dp V ps) rfl HOWN.out _ _ rfl hkey ?_; intro c hat hwc; clear hat hwc)
              refine hYR.mono ?_
              rintro e2 W3 (⟨rfl, hJ3, hk3⟩ | ⟨rfl, hJx3⟩)
              · gi_wp2
                go_roundw
                case rel => first | exact ⟨1, pre ++ [e], by omega, rfl, ⟨by rw [HX.out]; simp [one]⟩, hJ3, ⟨HB.out.trans hk3.1⟩, ⟨hk3.2 _ _ HS.out rfl⟩⟩ | exact ⟨2, pre ++ [e], by omega, rfl, ⟨by rw [HX.out]; simp [one]⟩, hJ3, ⟨HB.out.trans hk3.1⟩, ⟨hk3.2 _ _ HS.out rfl⟩⟩
                case measure => simp [intOf]
              · gi_wp2
                refine bodyPost_ret (results_none rfl _ _ _) rfl ?_
                exact ⟨⟨_, rfl⟩, .inr ⟨_, (by rw [HX.out]; simp only [one, if_true, ← List.append_assoc]; exact List.prefix_append _ _), hJx3⟩⟩
            all_goals
              have HX := Aside0.mk hX
              clear hX
              gi_wp2_with (gi_at_lookup; refine wpListIn_lookup_own_ok_int _ rfl (.tmp 37) (.tmp 38) 48 rfl 3 3 .i64 law3 Try.underlying48 Try.underlying3 (zero3 _) bm ps.length (Dp V ps) rfl HOWN.out _ _ rfl hkey ?_; intro c hat hwc; clear hat hwc)
              refine ⟨fun _ h => (by cases h), ?_⟩
              gi_wp2
              go_roundw
              case rel => first | exact ⟨1, pre, by omega, rfl, ⟨by rw [HX.out]; simp [one]⟩, hJs, HB, HS⟩ | exact ⟨2, pre, by omega, rfl, ⟨by rw [HX.out]; simp [one]⟩, hJs, HB, HS⟩
              case measure => simp [intOf]
        · obtain rfl : j = 2 := by omega
          gi_wp2
          go_roundw
          case rel => exact ⟨d + 1, pre, by omega, by simp, ⟨by have := HX.out; simpa [rest2] using this⟩, hJs, HB⟩
          case measure => simp [intOf]; omega
    · obtain rfl : d = K := by omega
      have dk : decide ((d : Int) < bd - gd) = false := decide_eq_false (by have := HK.out; omega)
      have HX2 : Aside0 (xs = pre) := ⟨by have := HX.out; simpa [allc] using this⟩
      clear HX
      gi_wp2
      go_end0
      exact ⟨⟨_, rfl⟩, .inl ⟨pre, HX2.out.symm, hJs⟩⟩

/-- A version's number, held within bounds. -/
def cl (x : Int) : Int := if -1000 ≤ x ∧ x ≤ 1000 then x else 0
theorem cl_in {x : Int} (h1 : -1000 ≤ x) (h2 : x ≤ 1000) : cl x = x := if_pos ⟨h1, h2⟩
theorem cl_range (x : Int) : -1000 ≤ cl x ∧ cl x ≤ 1000 := by unfold cl; split <;> omega
theorem cand_stops (F : Fence) (n : Nat) (h25 : F.fn 25) (hro : F.round = none) (hn : 1 ≤ n) (n1 Bs Bg Bb g bm : Nat) (gd bd : Int) (V : Int → Int) (ps : List Int)
    (hlt : Bs < n1 ∧ Bg < n1 ∧ Bb < n1 ∧ g < n1 ∧ bm < n1) (hg0 : 0 ≤ gd) (hb0 : gd ≤ bd) (hb64 : bd ≤ 64) (w : World) (hR : Rd w Bs Bg Bb g bm gd bd V ps) (hn1 : n1 ≤ w.heap.size) :
    SeqStopsK F n Try.prog 25 #[.pointer (some ⟨Bg, 0, none⟩), .pointer (some ⟨Bb, 0, none⟩), .pointer (some ⟨Bs, 0, none⟩)] (fun x : Int => #[Value.int .i64 (cl x)]) (Kq n1)
      (fun ys => ys = allc ps gd bd (Int.tdiv (gd + bd) 2) (bd - gd).toNat 0) (fun pre => pre <+: allc ps gd bd (Int.tdiv (gd + bd) 2) (bd - gd).toNat 0) (allc ps gd bd (Int.tdiv (gd + bd) 2) (bd - gd).toNat 0).length w :=
  fun l J Jx W hW hJ _ hY h0 => cand1_in F n h25 hro hn l n1 Bs Bg Bb g bm gd bd V ps hlt hg0 hb0 hb64 _ rfl J Jx W hJ (fun pre x W1 h1 h2 hj hl => by have := hY pre x W1 hj hl; dsimp only at this; rw [cl_in h1 h2] at this; exact this) (hR.below hlt (hW.mono hn1)) (Nat.le_trans hn1 hW.size) h0

set_option maxRecDepth 100000 in
set_option maxHeartbeats 2000000 in
theorem cands_c (g : Nat) (gd bd : Int) (W : World) :
    Calls Try.prog 20 #[.pointer (some ⟨g, 0, none⟩), .int .i64 gd, .int .i64 bd] W fun e w' =>
      e = .returned (.func (.func 25) #[] #[.pointer (some ⟨W.heap.size + 1, 0, none⟩), .pointer (some ⟨W.heap.size + 2, 0, none⟩), .pointer (some ⟨W.heap.size, 0, none⟩)]) ∧
      w' = ((W.alloc (.cells #[.pointer (some ⟨g, 0, none⟩)] 47)).alloc (.cells #[.int .i64 gd] 3)).alloc (.cells #[.int .i64 bd] 3) := by
  go_enter Try.func20, Try.ntmps20
  go_wp2
  go_ret
  exact ⟨by simp, rfl⟩
end Go.Proofs.Ytljjkdlnkklibaa.BisCand
