/- bisect.Find: the loop of the search. -/
import Derived.Lib.SliceRun
import Derived.Test.YtljjkdlnkklibaaProg
import Derived.Below
import Derived.Deep.Draws
import Derived.Deep.AppendLies
import Derived.Maps.AppendAt
import Derived.OwnWalk
import Derived.Laws.BytesArg
import Derived.Laws.MakeOwn
import Derived.Laws.OwnMore
import Derived.Deep.OwnRows
import Derived.Tactics
import Derived.Lib.ConvBytes
import Derived.Laws.Slices
import Derived.WalkKit
import Derived.KernelRfl
import Derived.RowKit3
import Derived.Deep.LoopGhost
import Derived.Deep.QuietTactic
import Derived.BigQuiet
import Derived.WideLaws
import Derived.Deep.DeepCutAuto
import Derived.Deep.CutBlock
import Derived.BigQuiet
import Derived.Deep.RegionHeld3
import Derived.Laws.Rows
import Derived.Lib.AppendStr
import Derived.ArgAppend
import Derived.Laws.IdiomCopy
import Derived.OrdersHeld
import Derived.Laws.BitsLemmas
import Derived.RowKit
import Derived.Test.YtljjkdlnkklibaaPw
import Derived.Test.YtljjkdlnkklibaaWWords
import Derived.Test.YtljjkdlnkklibaaWLast
import Derived.Test.YtljjkdlnkklibaaWTab
import Derived.Test.YtljjkdlnkklibaaWFour
import Derived.Test.YtljjkdlnkklibaaWQPut
import Derived.Test.YtljjkdlnkklibaaWApart
import Derived.Test.YtljjkdlnkklibaaWArr
import Derived.Test.YtljjkdlnkklibaaWZeros
import Derived.Test.YtljjkdlnkklibaaWFoot
import Derived.Test.YtljjkdlnkklibaaWKept
import Derived.Test.YtljjkdlnkklibaaWShare
import Derived.Test.YtljjkdlnkklibaaWN
import Derived.Test.YtljjkdlnkklibaaWFootNe
import Derived.Test.YtljjkdlnkklibaaWAt
import Derived.Test.YtljjkdlnkklibaaWEqStruct
import Derived.Test.YtljjkdlnkklibaaWRepsOne
import Derived.Test.YtljjkdlnkklibaaWInv
import Derived.Test.YtljjkdlnkklibaaWInvWords
import Derived.Test.YtljjkdlnkklibaaWGuard
import Derived.Test.YtljjkdlnkklibaaWNEv
import Derived.Test.YtljjkdlnkklibaaWMore
import Derived.Test.YtljjkdlnkklibaaBisPlain
import Derived.Maps.OwnSet
import Derived.Test.YtljjkdlnkklibaaBisAsk
import Derived.RangeFuncNested
import Derived.RangeFuncBound
import Derived.RangeFuncBox
import Derived.RangeFuncCalls
import Derived.RangeFuncLeaves
import Derived.Shelf.Abstract
import Derived.Shelf.RegionOpen
import Derived.OwnWalkIn
import Derived.TacticsInMore
import Derived.LoopNIn
import Derived.LoopIn
import Derived.Maps.OwnIn
import Derived.Test.YtljjkdlnkklibaaBisCand
import Derived.Deep.CutBlock
import Derived.BigQuiet
import Derived.RangeFuncWrites
import Derived.Test.YtljjkdlnkklibaaBisSt
namespace Go.Proofs.Ytljjkdlnkklibaa.BisLoop
open Go.RowKit Go.Shelf Go.Maps Go.Proofs.YtljjkdlnkklibaaW.PrintWords Go.Proofs.YtljjkdlnkklibaaW.PrintLast Go.Proofs.YtljjkdlnkklibaaW.PrintMore Go.Proofs.Ytljjkdlnkklibaa.BisPlain Go.Proofs.Ytljjkdlnkklibaa.BisAsk Go.Proofs.Ytljjkdlnkklibaa.BisCand Go.Proofs.Ytljjkdlnkklibaa.BisSt
set_option linter.unusedVariables false

attribute [local go_sem] Oper.semAt_some

def loopsOf : Code → List Code
  | .loop c => [c]
  | .seq a b => loopsOf a ++ loopsOf b
  | .cond _ a b => loopsOf a ++ loopsOf b
  | .block _ c => loopsOf c
  | _ => []
noncomputable def body2 : Code := ((Try.f10.body.map loopsOf).getD [])[1]?.getD .skip

def Inv (n0 Br bm g Bx Bl Bg Bb : Nat) (ok1 : Nat → Prop) (vs : List Int) (w : World) (T : Int × Int × List Int) (N : Nat) (Ds : List Nat) (gd bd : Int) (ps : List Int) (mb : Bool) (Bm : Nat) (W : World) : Prop :=
  SS n0 Br bm g Bx Bl Bg Bb (fun k => ok1 k ∧ k ≠ Bm) vs w gd bd ps W ∧ W.heap[Bm]? = some (.cells #[.bool mb] 4 (0, 0)) ∧ Bx < Bm ∧ Bm ≠ Bg ∧ Bm ≠ Bb ∧ MarksAt n0 Ds W ∧ 0 ≤ gd ∧ gd < bd ∧ bd ≤ 64 ∧ ps.length + N ≤ 300 ∧
    ((mb = true ∧ ∃ k, N = k + 1 ∧ left ps gd bd ≤ k ∧ searchP (vd vs) k gd bd ps = T) ∨ (mb = false ∧ T = (gd, bd, ps)))

theorem SS.grown {n0 Br bm g Bx Bl Bg Bb B : Nat} {ok : Nat → Prop} {vs : List Int} {w W W' : World} {gd bd : Int} {ps : List Int} {row : Option Nat} (h : SS n0 Br bm g Bx Bl Bg Bb ok vs w gd bd ps W) (hg : W.grownBy W' row)
    (hr : ∀ r, row = some r → B ≤ r ∧ ∃ o : Obj, W.heap[r]? = some o ∧ o.isCells = false) (hbm : bm < B) (hB : n0 ≤ B) : SS n0 Br bm g Bx Bl Bg Bb ok vs w gd bd ps W' := by
  have hn0 := SS.n0_le h
  obtain ⟨⟨s1, h2, h3, h4, h5, h6⟩, hbg, hbb, a1, a2, a3, h7, h8⟩ := h
  have hne : ∀ {k : Nat} {cs : Array Value} {t : TypeId}, W.heap[k]? = some (.cells cs t (0, 0)) → some k ≠ row := fun hk e => by
    obtain ⟨_, o, ho, hc⟩ := hr _ e.symm; rw [hk] at ho; cases ho; cases hc
  have hb : Below n0 W W' := (Below.refl n0 W).grown hg (by have := blk_lt hbg; omega) (fun k e => Nat.le_trans hB (hr k e).1)
  refine ⟨⟨?_, blk_grown h2 hg (hne h2), blk_grown h3 hg (hne h3), h4.below hb, h5.trans hb, h6⟩, blk_grown hbg hg (hne hbg), blk_grown hbb hg (hne hbb), a1, a2, a3, h7, fun k hk => h8 k (Nat.le_trans hg.size hk)⟩
  refine Sr.ok_mono (Sr.move (Sr.cells s1) (fun k hk hc => hg.block k hk ?_)) (fun _ _ hk => hk.1)
  rcases hc with rfl | rfl | hc
  · obtain ⟨v, hgc, -⟩ := s1; exact hne hgc
  · intro e; have := (hr _ e.symm).1; omega
  · intro e
    obtain ⟨_, o, ho, hcc⟩ := hr _ e.symm
    have := hc.2 o ho
    rw [hcc] at this; cases this
theorem MarksAt.grown {n0 B : Nat} {Ds : List Nat} {W W' : World} {row : Option Nat} (h : MarksAt n0 Ds W) (hg : W.grownBy W' row) (hr : ∀ r, row = some r → B ≤ r) (hD : ∀ D ∈ Ds, D < B) : MarksAt n0 Ds W' :=
  ⟨h.1, fun D hd => ⟨(h.2 D hd).1, blk_grown (h.2 D hd).2 hg (fun e => by have := hr _ e.symm; have := hD D hd; omega)⟩⟩

theorem SS.newm {n0 Br bm g Bx Bl Bg Bb Bm : Nat} {ok1 : Nat → Prop} {vs : List Int} {w W : World} {gd bd : Int} {ps : List Int} (hok1 : ∀ k, ok1 k → Bx < k ∧ k ≠ Bg ∧ k ≠ Bb) (h : SS n0 Br bm g Bx Bl Bg Bb (fun k => ok1 k ∧ k ≠ Bm) vs w gd bd ps W) (o : Obj) :
    SS n0 Br bm g Bx Bl Bg Bb (fun k => ok1 k ∧ k ≠ W.heap.size) vs w gd bd ps (W.alloc o) := by
  have h' := SS.alloc h o
  obtain ⟨h1, h2, h3, a1, a2, a3, h7, h8⟩ := h
  obtain ⟨f1, f2, f3, b1, b2, b3, f7, f8⟩ := h'
  refine ⟨FS.move (FS.ok_mono h1 (fun k hk hc => ⟨hc.1, by omega⟩)) (fun k hk _ => Below.heap_alloc _ _ _ hk) ((Below.refl n0 W).alloc (by have := h1.2.2.2.2.2; have := blk_lt h2; omega) o), f2, f3, a1, a2, a3, fun k hk => hok1 k hk.1, fun k hk => ⟨(f8 k hk).1, by simp at hk; omega⟩⟩

set_option maxHeartbeats 4000000 in
set_option maxRecDepth 100000 in
theorem round_false (Q : Exit → Act → World → Prop) (Q0 : Act → World → Prop) (Br Bx Bg Bb Bm : Nat) (Ds : List Nat) (c0 c1 c2 c3 c5 c6 c12 c13 c14 c15 c16 c17 c18 c19 c20 c21 c22 c23 c24 c25 c26 c27 c28 c29 c30 c31 c32 c33 c34 c35 c36 c37 c38 c39 c40 c41 c42 c43 c44 c45 c46 c47 c48 c49 c50 c51 c52 c53 c54 c55 c56 c73 c74 c75 c76 c77 c78 c79 c80 c81 c82 c83 c84 c85 c86 c87 c88 c89 c90 c91 c92 c93 u11 u57 u58 u59 u60 u61 u62 u63 u64 u65 u66 u67 u68 u69 u70 u71 u72 : Value) (W : World) (hm : W.cell? ⟨Bm, 0, none⟩ = some (.bool false))
    (h : ∀ u, Q (.exit 2) { tmps := #[c0, c1, c2, c3, .pointer (some ⟨Br, 0, none⟩), c5, c6, .pointer (some ⟨Bx, 0, none⟩), .pointer (some ⟨Bg, 0, none⟩), .pointer (some ⟨Bb, 0, none⟩), .pointer (some ⟨Bm, 0, none⟩), u11, c12, c13, c14, c15, c16, c17, c18, c19, c20, c21, c22, c23, c24, c25, c26, c27, c28, c29, c30, c31, c32, c33, c34, c35, c36, c37, c38, c39, c40, c41, c42, c43, c44, c45, c46, c47, c48, c49, c50, c51, c52, c53, c54, c55, c56, u, u58, u59, u60, u61, u62, u63, u64, u65, u66, u67, u68, u69, u70, u71, u72, c73, c74, c75, c76, c77, c78, c79, c80, c81, c82, c83, c84, c85, c86, c87, c88, c89, c90, c91, c92, c93], defers := marks Ds } W) :
    Code.wp Try.prog body2 (Exit.then Q0 Q) { tmps := #[c0, c1, c2, c3, .pointer (some ⟨Br, 0, none⟩), c5, c6, .pointer (some ⟨Bx, 0, none⟩), .pointer (some ⟨Bg, 0, none⟩), .pointer (some ⟨Bb, 0, none⟩), .pointer (some ⟨Bm, 0, none⟩), u11, c12, c13, c14, c15, c16, c17, c18, c19, c20, c21, c22, c23, c24, c25, c26, c27, c28, c29, c30, c31, c32, c33, c34, c35, c36, c37, c38, c39, c40, c41, c42, c43, c44, c45, c46, c47, c48, c49, c50, c51, c52, c53, c54, c55, c56, u57, u58, u59, u60, u61, u62, u63, u64, u65, u66, u67, u68, u69, u70, u71, u72, c73, c74, c75, c76, c77, c78, c79, c80, c81, c82, c83, c84, c85, c86, c87, c88, c89, c90, c91, c92, c93], defers := marks Ds } W := by
  conv => arg 2; whnf
  go_wp2
  exact h _

set_option maxHeartbeats 8000000 in
set_option maxRecDepth 100000 in
theorem round_true (n0 Br bm g Bx Bl Bg Bb : Nat) (ok1 : Nat → Prop) (hok1 : ∀ k, ok1 k → Bx < k ∧ k ≠ Bg ∧ k ≠ Bb) (vs : List Int) (w : World) (T : Int × Int × List Int) (N : Nat) (Ds : List Nat) (gd bd : Int) (ps : List Int) (Bm : Nat) (W : World) (hI : Inv n0 Br bm g Bx Bl Bg Bb ok1 vs w T N Ds gd bd ps true Bm W)
    (Q : Exit → Act → World → Prop) (Q0 : Act → World → Prop) (c0 c1 c2 c3 c5 c6 c12 c13 c14 c15 c16 c17 c18 c19 c20 c21 c22 c23 c24 c25 c26 c27 c28 c29 c30 c31 c32 c33 c34 c35 c36 c37 c38 c39 c40 c41 c42 c43 c44 c45 c46 c47 c48 c49 c50 c51 c52 c53 c54 c55 c56 c73 c74 c75 c76 c77 c78 c79 c80 c81 c82 c83 c84 c85 c86 c87 c88 c89 c90 c91 c92 c93 u11 u57 u58 u59 u60 u61 u62 u63 u64 u65 u66 u67 u68 u69 u70 u71 u72 : Value)
    (h : ∀ (u11 u57 u58 u59 u60 u61 u62 u63 u64 u65 u66 u67 u68 u69 u70 u71 u72 : Value) (Bm : Nat) (Ds : List Nat) (gd bd : Int) (ps : List Int) (mb : Bool) (W : World) (N' : Nat), N' < N → Inv n0 Br bm g Bx Bl Bg Bb ok1 vs w T N' Ds gd bd ps mb Bm W → Q0 { tmps := #[c0, c1, c2, c3, .pointer (some ⟨Br, 0, none⟩), c5, c6, .pointer (some ⟨Bx, 0, none⟩), .pointer (some ⟨Bg, 0, none⟩), .pointer (some ⟨Bb, 0, none⟩), .pointer (some ⟨Bm, 0, none⟩), u11, c12, c13, c14, c15, c16, c17, c18, c19, c20, c21, c22, c23, c24, c25, c26, c27, c28, c29, c30, c31, c32, c33, c34, c35, c36, c37, c38, c39, c40, c41, c42, c43, c44, c45, c46, c47, c48, c49, c50, c51, c52, c53, c54, c55, c56, u57, u58, u59, u60, u61, u62, u63, u64, u65, u66, u67, u68, u69, u70, u71, u72, c73, c74, c75, c76, c77, c78, c79, c80, c81, c82, c83, c84, c85, c86, c87, c88, c89, c90, c91, c92, c93], defers := marks Ds } W) :
    Code.wp Try.prog body2 (Exit.then Q0 Q) { tmps := #[c0, c1, c2, c3, .pointer (some ⟨Br, 0, none⟩), c5, c6, .pointer (some ⟨Bx, 0, none⟩), .pointer (some ⟨Bg, 0, none⟩), .pointer (some ⟨Bb, 0, none⟩), .pointer (some ⟨Bm, 0, none⟩), u11, c12, c13, c14, c15, c16, c17, c18, c19, c20, c21, c22, c23, c24, c25, c26, c27, c28, c29, c30, c31, c32, c33, c34, c35, c36, c37, c38, c39, c40, c41, c42, c43, c44, c45, c46, c47, c48, c49, c50, c51, c52, c53, c54, c55, c56, u57, u58, u59, u60, u61, u62, u63, u64, u65, u66, u67, u68, u69, u70, u71, u72, c73, c74, c75, c76, c77, c78, c79, c80, c81, c82, c83, c84, c85, c86, c87, c88, c89, c90, c91, c92, c93], defers := marks Ds } W := by
  conv => arg 2; whnf
  obtain ⟨hS, hbm, hlt, hne1, hne2, hM, hg0, hgb, hb64, hpl, hT⟩ := hI
  obtain ⟨k, hN, hleft, hT⟩ : ∃ k, N = k + 1 ∧ left ps gd bd ≤ k ∧ searchP (vd vs) k gd bd ps = T := by
    rcases hT with ⟨-, hT⟩ | ⟨hf, -⟩
    · exact hT
    · cases hf
  have hcm : W.cell? ⟨Bm, 0, none⟩ = some (.bool true) := (blk_cell hbm 0).trans rfl
  have hfm := blk_frozen hbm 0
  have HH := Aside0.mk h
  have HS := Aside0.mk hS
  have HM := Aside0.mk hM
  have HL := Aside0.mk hleft
  have HT := Aside0.mk hT
  have HN := Aside0.mk hN
  have HBM := Aside0.mk hbm
  clear h hS hM hleft hT hN hbm
  dsimp only
  go_upto_region 15 with fail
  have hS1 : SS n0 Br bm g Bx Bl Bg Bb (fun k => ok1 k ∧ k ≠ Bm) vs w gd bd ps (W.setCell ⟨Bm, 0, none⟩ (.bool false)) :=
    SS.move HS.out (fun j _ hj => Below.heap_setCell _ _ _ _ (show j ≠ Bm from hj.elim (fun hj => by omega) (fun hj => hj.2))) ((Below.refl _ W).setCell (p := ⟨Bm, 0, none⟩) (by have := HS.out.1.2.2.2.2.2; show n0 ≤ Bm; omega) _) (blk_far HS.out.2.1 (Ne.symm hne1) _) (blk_far HS.out.2.2.1 (Ne.symm hne2) _)
  have hbm1 : (W.setCell ⟨Bm, 0, none⟩ (.bool false)).heap[Bm]? = some (.cells #[.bool false] 4 (0, 0)) := blk_put HBM.out 0 _ rfl
  have hM1 : MarksAt n0 Ds (W.setCell ⟨Bm, 0, none⟩ (.bool false)) := ⟨HM.out.1, fun D hD => ⟨(HM.out.2 D hD).1, (Below.heap_setCell _ _ _ _ (show D ≠ Bm by rintro rfl; have := (HM.out.2 _ hD).2; rw [HBM.out] at this; cases this)).trans (HM.out.2 D hD).2⟩⟩
  generalize W.setCell ⟨Bm, 0, none⟩ (.bool false) = W1 at hS1 hbm1 hM1 ⊢
  have hcx : W1.cell? ⟨Bx, 0, none⟩ = some (.pointer (some ⟨g, 0, none⟩)) := (blk_cell hS1.1.2.2.1 0).trans rfl
  have hcg : W1.cell? ⟨Bg, 0, none⟩ = some (.int .i64 gd) := (blk_cell hS1.2.1 0).trans rfl
  have hcb : W1.cell? ⟨Bb, 0, none⟩ = some (.int .i64 bd) := (blk_cell hS1.2.2.1 0).trans rfl
  have HS1 := Aside0.mk hS1
  have HBM1 := Aside0.mk hbm1
  have HM1 := Aside0.mk hM1
  clear hS1 hbm1 hM1 hcm hfm HS HM HBM
  go_wp2_with (go_at_call 20; refine (cands_c g gd bd _).mono ?_; rintro e w1 ⟨rfl, rfl⟩)
  obtain ⟨W5, hW5⟩ : ∃ W5, ((W1.alloc (.cells #[.pointer (some ⟨g, 0, none⟩)] 47)).alloc (.cells #[.int .i64 gd] 3)).alloc (.cells #[.int .i64 bd] 3) = W5 := ⟨_, rfl⟩
  have hsz : W5.heap.size = W1.heap.size + 3 := by rw [← hW5]; simp
  have hS5 : SS n0 Br bm g Bx Bl Bg Bb (fun k => ok1 k ∧ k ≠ Bm) vs w gd bd ps W5 := by rw [← hW5]; exact SS.alloc (SS.alloc (SS.alloc HS1.out _) _) _
  have hbm5 : W5.heap[Bm]? = some (.cells #[.bool false] 4 (0, 0)) := by rw [← hW5]; exact blk_alloc (blk_alloc (blk_alloc HBM1.out _) _) _
  have hM5 : MarksAt n0 Ds W5 := by rw [← hW5]; exact ⟨HM1.out.1, fun D hD => ⟨(HM1.out.2 D hD).1, blk_alloc (blk_alloc (blk_alloc (HM1.out.2 D hD).2 _) _) _⟩⟩
  have hDs : ∀ D ∈ Ds, D < W5.heap.size := fun D hD => blk_lt (hM5.2 D hD).2
  have hR5 : Rd W5 W1.heap.size (W1.heap.size + 1) (W1.heap.size + 2) g bm gd bd (vd vs) ps := by
    have a1 := blk_new W1 (.cells #[.pointer (some ⟨g, 0, none⟩)] 47)
    have a2 := blk_new (W1.alloc (.cells #[.pointer (some ⟨g, 0, none⟩)] 47)) (.cells #[.int .i64 gd] 3)
    have a3 := blk_new ((W1.alloc (.cells #[.pointer (some ⟨g, 0, none⟩)] 47)).alloc (.cells #[.int .i64 gd] 3)) (.cells #[.int .i64 bd] 3)
    simp only [World.size_alloc] at a2 a3
    obtain ⟨v, hgc, -, -, hown, -⟩ := hS5.1.1
    exact ⟨by rw [← hW5]; exact blk_alloc (blk_alloc a1 _) _, by rw [← hW5]; exact blk_alloc a2 _, by rw [← hW5]; exact a3, ⟨_, _, hgc⟩, hown⟩
  rw [hW5]
  have hgl : g < W5.heap.size := by obtain ⟨v, hgc, -⟩ := hS5.1.1; exact blk_lt hgc
  have hbl : bm < W5.heap.size := by obtain ⟨v, _, -, -, ⟨es, cl, hown, -⟩, -⟩ := hS5.1.1; exact blk_lt hown
  have hn05 : n0 ≤ W5.heap.size := by have := SS.n0_le hS5; have := blk_lt hS5.2.1; omega
  clear hW5
  refine (wpIn_wide (n := 6)).1 ?_
  refine wpIn_rangeFunc_ownG rfl (by omega) (gf := 25) (lb := #[.pointer (some ⟨W1.heap.size + 1, 0, none⟩), .pointer (some ⟨W1.heap.size + 2, 0, none⟩), .pointer (some ⟨W1.heap.size, 0, none⟩)]) rfl trivial (enters_of Try.func25 (by kernel_rfl) rfl)
    (cand_stops Fence.wide _ trivial rfl (by omega) W5.heap.size W1.heap.size (W1.heap.size + 1) (W1.heap.size + 2) g bm gd bd (vd vs) ps ⟨by omega, by omega, by omega, hgl, hbl⟩ hg0 (by omega) hb64 W5 hR5 (Nat.le_refl _)) Kq.trans (kq_b (Nat.le_refl _)) (Below.refl _ _) (fun _ => rfl)
    (fun pre Wr => pre = [] ∧ SS n0 Br bm g Bx Bl Bg Bb (fun k => ok1 k ∧ k ≠ Bm) vs w gd bd ps Wr ∧ Wr.heap[Bm]? = some (.cells #[.bool false] 4 (0, 0)) ∧ MarksAt n0 Ds Wr)
    (fun c pre Wr => ∃ z x gd' bd', pre = [z] ∧ x = cl z ∧ c = .exit 4 ∧ ((vd vs x = 0 ∧ gd' = x ∧ bd' = bd) ∨ (vd vs x = 1 ∧ gd' = gd ∧ bd' = x) ∨ (vd vs x = 2 ∧ gd' = gd ∧ bd' = bd)) ∧
      SS n0 Br bm g Bx Bl Bg Bb (fun k => ok1 k ∧ k ≠ Bm) vs w gd' bd' (ps ++ [x]) Wr ∧ Wr.heap[Bm]? = some (.cells #[.bool true] 4 (0, 0)) ∧ MarksAt n0 Ds Wr)
    (fun s A C row hs hg hr => ⟨hs.1, SS.grown hs.2.1 hg hr hbl hn05, blk_grown hs.2.2.1 hg (fun e => by obtain ⟨_, o, ho, hc⟩ := hr _ e.symm; rw [hs.2.2.1] at ho; cases ho; cases hc), MarksAt.grown hs.2.2.2 hg (fun r e => (hr r e).1) hDs⟩)
    (fun c s A C row hs hg hr => by
      obtain ⟨z, x, gd', bd', h1, h1', h2, h3, h4, h5, h6⟩ := hs
      exact ⟨z, x, gd', bd', h1, h1', h2, h3, SS.grown h4 hg hr hbl hn05, blk_grown h5 hg (fun e => by obtain ⟨_, o, ho, hc⟩ := hr _ e.symm; rw [h5] at ho; cases ho; cases hc), MarksAt.grown h6 hg (fun r e => (hr r e).1) hDs⟩)
    ⟨rfl, hS5, hbm5, hM5⟩
    (fun x => { tmps := #[c0, c1, c2, c3, .pointer (some ⟨Br, 0, none⟩), c5, c6, .pointer (some ⟨Bx, 0, none⟩), .pointer (some ⟨Bg, 0, none⟩), .pointer (some ⟨Bb, 0, none⟩), .pointer (some ⟨Bm, 0, none⟩), .int .i64 (cl x), c12, c13, c14, c15, c16, c17, c18, c19, c20, c21, c22, c23, c24, c25, c26, c27, c28, c29, c30, c31, c32, c33, c34, c35, c36, c37, c38, c39, c40, c41, c42, c43, c44, c45, c46, c47, c48, c49, c50, c51, c52, c53, c54, c55, c56, .bool true, .pointer (some ⟨g, 0, none⟩), .int .i64 gd, .int .i64 bd, .func (.func 25) #[] #[.pointer (some ⟨W1.heap.size + 1, 0, none⟩), .pointer (some ⟨W1.heap.size + 2, 0, none⟩), .pointer (some ⟨W1.heap.size, 0, none⟩)], .int .i64 (cl x), u63, u64, u65, u66, u67, u68, u69, u70, u71, u72, c73, c74, c75, c76, c77, c78, c79, c80, c81, c82, c83, c84, c85, c86, c87, c88, c89, c90, c91, c92, c93], defers := [] }) ?assign ?body ?done ?stop
  case assign =>
    intro l x W K hK
    gi_wp2
    exact hK
  case body =>
    rintro l pre z Wr ⟨rfl, hS6, hbm6, hM6⟩ hlen
    obtain ⟨x, hx⟩ : ∃ x, cl z = x := ⟨_, rfl⟩
    have hxr := cl_range z
    rw [hx] at hxr ⊢
    have HX := Aside0.mk hx
    clear hx
    have hS7 : SS n0 Br bm g Bx Bl Bg Bb (fun k => ok1 k ∧ k ≠ Bm) vs w gd bd ps (Wr.setCell ⟨Bm, 0, none⟩ (.bool true)) :=
      SS.move hS6 (fun j _ hj => Below.heap_setCell _ _ _ _ (show j ≠ Bm from hj.elim (fun hj => by omega) (fun hj => hj.2))) ((Below.refl _ Wr).setCell (p := ⟨Bm, 0, none⟩) (by have := hS6.1.2.2.2.2.2; show n0 ≤ Bm; omega) _) (blk_far hS6.2.1 (Ne.symm hne1) _) (blk_far hS6.2.2.1 (Ne.symm hne2) _)
    have hbm7 : (Wr.setCell ⟨Bm, 0, none⟩ (.bool true)).heap[Bm]? = some (.cells #[.bool true] 4 (0, 0)) := blk_put hbm6 0 _ rfl
    have hM7 : MarksAt n0 Ds (Wr.setCell ⟨Bm, 0, none⟩ (.bool true)) := ⟨hM6.1, fun D hD => ⟨(hM6.2 D hD).1, (Below.heap_setCell _ _ _ _ (show D ≠ Bm by rintro rfl; have := (hM6.2 _ hD).2; rw [hbm6] at this; cases this)).trans (hM6.2 D hD).2⟩⟩
    have hcm : Wr.cell? ⟨Bm, 0, none⟩ = some (.bool false) := (blk_cell hbm6 0).trans rfl
    have hfm := blk_frozen hbm6 0
    have hcx : (Wr.setCell ⟨Bm, 0, none⟩ (.bool true)).cell? ⟨Bx, 0, none⟩ = some (.pointer (some ⟨g, 0, none⟩)) := (blk_cell hS7.1.2.2.1 0).trans rfl
    have hcx0 : Wr.cell? ⟨Bx, 0, none⟩ = some (.pointer (some ⟨g, 0, none⟩)) := (blk_cell hS6.1.2.2.1 0).trans rfl
    have hxm : Bx ≠ Bm := by omega
    have hK7 : KeepsFrom W5.heap.size Wr (Wr.setCell ⟨Bm, 0, none⟩ (.bool true)) := (KeepsOthers.setCell _ _ _).from _
    have HASK := Aside0.mk (ask_s _ _ _ _ _ _ _ _ _ _ ps gd bd x w _ hS7 ⟨by omega, by omega⟩ (by have := HN.out; omega))
    obtain ⟨v, hv⟩ : ∃ v, vd vs x = v := ⟨_, rfl⟩
    have hvc := vd_cases vs x
    rw [hv] at HASK hvc
    have HV := Aside0.mk hv
    have HM7 := Aside0.mk hM7
    have HK7 := Aside0.mk hK7
    have HBM7 := Aside0.mk hbm7
    have HSQ := Aside0.mk hS7.1.1
    clear hv hM7 hK7 hbm7 hS7 hS6 hM6 hlen
    rcases hvc with rfl | rfl | rfl
    all_goals
      gi_wp2_with (refine ⟨trivial, ?_⟩; gi_at_call 19; refine (CallsIn.inRound l (callsIn_wide.2 HASK.out)).mono ?_; rintro e W8 ⟨rfl, hS8, hB8, hs8, hk8⟩
                   have hcg8 := (blk_cell hS8.2.1 0).trans rfl; have hcb8 := (blk_cell hS8.2.2.1 0).trans rfl; have hfg8 := blk_frozen hS8.2.1 0; have hfb8 := blk_frozen hS8.2.2.1 0
                   have HS8 := Aside0.mk hS8; have HB8 := Aside0.mk hB8; have Hs8 := Aside0.mk hs8; have Hk8 := Aside0.mk hk8; clear hS8 hB8 hs8 hk8)
      have hkf : KeepsFrom W5.heap.size Wr W8 := HK7.out.trans ⟨HB8.out.size, fun k o hk ho hc => Hk8.out k o ho hc (by omega)⟩
      have hbm8 : W8.heap[Bm]? = some (.cells #[.bool true] 4 (0, 0)) := (Hs8.out Bm (blk_lt HBM7.out) hlt (fun hc => hc.2 rfl)).trans HBM7.out
      have hM8 : MarksAt n0 Ds W8 := ⟨HM7.out.1, fun D hD => ⟨(HM7.out.2 D hD).1, Hk8.out D _ (HM7.out.2 D hD).2 rfl (by
        rintro rfl; obtain ⟨v', _, -, -, ⟨es, cl', hown, -⟩, -⟩ := HSQ.out; rw [(HM7.out.2 _ hD).2] at hown; cases hown)⟩⟩
    · exact ⟨hkf.trans ((KeepsOthers.setCell _ _ _).from _), z, x, x, bd, rfl, HX.out.symm, rfl, .inl ⟨HV.out, rfl, rfl⟩, SS.setg HS8.out x, blk_far hbm8 hne1 _, ⟨hM8.1, fun D hD => ⟨(hM8.2 D hD).1, (Below.heap_setCell _ _ _ _ (show D ≠ Bg by rintro rfl; have := (hM8.2 _ hD).2; rw [HS8.out.2.1] at this; cases this)).trans (hM8.2 D hD).2⟩⟩⟩
    · exact ⟨hkf.trans ((KeepsOthers.setCell _ _ _).from _), z, x, gd, x, rfl, HX.out.symm, rfl, .inr (.inl ⟨HV.out, rfl, rfl⟩), SS.setb HS8.out x, blk_far hbm8 hne2 _, ⟨hM8.1, fun D hD => ⟨(hM8.2 D hD).1, (Below.heap_setCell _ _ _ _ (show D ≠ Bb by rintro rfl; have := (hM8.2 _ hD).2; rw [HS8.out.2.2.1] at this; cases this)).trans (hM8.2 D hD).2⟩⟩⟩
    · exact ⟨hkf, z, x, gd, bd, rfl, HX.out.symm, rfl, .inr (.inr ⟨HV.out, rfl, rfl⟩), HS8.out, hbm8, hM8⟩
  case done =>
    rintro D xs Wr hD hxs ⟨rfl, hS6, hbm6, hM6⟩ hK
    have hT2 : T = (gd, bd, ps) := by rw [← HT.out, searchP_none (by unfold nextP; rw [nextFrom_head, ← hxs]; rfl)]
    have hcm : Wr.cell? ⟨Bm, 0, none⟩ = some (.bool false) := (blk_cell hbm6 0).trans rfl
    have hMD : MarksAt n0 (D :: Ds) Wr := ⟨List.nodup_cons.2 ⟨fun hd => by have := hDs D hd; omega, hM6.1⟩, fun D' hd => by
      rcases List.mem_cons.1 hd with rfl | hd
      · exact ⟨by omega, hK⟩
      · exact hM6.2 D' hd⟩
    have HS6 := Aside0.mk hS6
    have HMD := Aside0.mk hMD
    have HT2 := Aside0.mk hT2
    clear hxs hK hMD hT2 hS6 hM6 hbm6
    change Exit.inBlock 4 _ .normal { tmps := _, defers := marks (D :: Ds) } Wr
    go_wp2
    refine HH.out _ _ _ _ _ _ _ _ _ _ _ _ _ _ _ _ _ Wr.heap.size (D :: Ds) gd bd ps false _ 0 (by have := HN.out; omega) ⟨SS.newm hok1 HS6.out _, blk_new _ _, ?_, ?_, ?_, ⟨HMD.out.1, fun D' hd => ⟨(HMD.out.2 D' hd).1, blk_alloc (HMD.out.2 D' hd).2 _⟩⟩, hg0, hgb, hb64, by omega, .inr ⟨rfl, HT2.out⟩⟩
    · have := blk_lt HS6.out.1.2.2.1; omega
    · have := blk_lt HS6.out.2.1; omega
    · have := blk_lt HS6.out.2.2.1; omega
  case stop =>
    rintro D c pre Wr hD hpre ⟨z, x, gd', bd', rfl, hx, rfl, hcase, hS6, hbm6, hM6⟩ hK
    have hnx : nextP ps gd bd = some z := by
      unfold nextP; rw [nextFrom_head]
      obtain ⟨r, hr⟩ := hpre
      rw [← hr]; rfl
    have hzb := nextP_some hnx
    obtain rfl : x = z := by rw [hx]; exact cl_in (by omega) (by omega)
    have hll := HL.out
    have hlt0 : 0 < left ps gd bd := by have := left_lt hg0 hb64 hzb (Int.le_refl gd) (Int.le_refl bd); omega
    obtain ⟨k', rfl⟩ : ∃ k', k = k' + 1 := ⟨k - 1, by omega⟩
    have hT2 : searchP (vd vs) k' gd' bd' (ps ++ [x]) = T := by
      rw [← HT.out]
      rcases hcase with ⟨h1, rfl, rfl⟩ | ⟨h1, rfl, rfl⟩ | ⟨h1, rfl, rfl⟩
      · simp only [searchP, hnx, h1, if_true]
      · simp only [searchP, hnx, h1, if_true]; rfl
      · simp only [searchP, hnx, h1]; rfl
    have hgd' : gd ≤ gd' ∧ bd' ≤ bd ∧ gd' < bd' := by rcases hcase with ⟨h1, rfl, rfl⟩ | ⟨h1, rfl, rfl⟩ | ⟨h1, rfl, rfl⟩ <;> omega
    have hl2 := left_lt hg0 hb64 hzb hgd'.1 hgd'.2.1
    have hcm : Wr.cell? ⟨Bm, 0, none⟩ = some (.bool true) := (blk_cell hbm6 0).trans rfl
    have hMD : MarksAt n0 (D :: Ds) Wr := ⟨List.nodup_cons.2 ⟨fun hd => by have := hDs D hd; omega, hM6.1⟩, fun D' hd => by
      rcases List.mem_cons.1 hd with rfl | hd
      · exact ⟨by omega, hK⟩
      · exact hM6.2 D' hd⟩
    have HS6 := Aside0.mk hS6
    have HMD := Aside0.mk hMD
    have HT2 := Aside0.mk hT2
    have HL2 := Aside0.mk (show left (ps ++ [x]) gd' bd' ≤ k' by omega)
    have HG2 := Aside0.mk hgd'
    clear hpre hx hcase hK hMD hT2 hS6 hM6 hbm6 hnx hzb hll hlt0 hl2 hgd'
    refine wpIn_wide.2 ?_
    change Code.wp _ _ _ { tmps := _, defers := marks (D :: Ds) } Wr
    go_wp2
    refine HH.out _ _ _ _ _ _ _ _ _ _ _ _ _ _ _ _ _ Wr.heap.size (D :: Ds) gd' bd' (ps ++ [x]) true _ (k' + 1) (by have := HN.out; omega) ⟨SS.newm hok1 HS6.out _, blk_new _ _, ?_, ?_, ?_, ⟨HMD.out.1, fun D' hd => ⟨(HMD.out.2 D' hd).1, blk_alloc (HMD.out.2 D' hd).2 _⟩⟩, by have := HG2.out; omega, HG2.out.2.2, by have := HG2.out; omega, by have := HN.out; rw [List.length_append, List.length_singleton]; omega, .inl ⟨rfl, k', rfl, HL2.out, HT2.out⟩⟩
    · have := blk_lt HS6.out.1.2.2.1; omega
    · have := blk_lt HS6.out.2.1; omega
    · have := blk_lt HS6.out.2.2.1; omega

set_option maxHeartbeats 4000000 in
set_option maxRecDepth 100000 in
/-- The loop of the search: it leaves by exit 2, the answer found. -/
theorem loop_c (n0 Br bm g Bx Bl Bg Bb : Nat) (ok1 : Nat → Prop) (hok1 : ∀ k, ok1 k → Bx < k ∧ k ≠ Bg ∧ k ≠ Bb) (vs : List Int) (w : World) (T : Int × Int × List Int) (N : Nat) (gd bd : Int) (ps : List Int) (Bm : Nat) (W : World) (hI : Inv n0 Br bm g Bx Bl Bg Bb ok1 vs w T N [] gd bd ps true Bm W)
    (Q : Exit → Act → World → Prop) (c0 c1 c2 c3 c5 c6 c12 c13 c14 c15 c16 c17 c18 c19 c20 c21 c22 c23 c24 c25 c26 c27 c28 c29 c30 c31 c32 c33 c34 c35 c36 c37 c38 c39 c40 c41 c42 c43 c44 c45 c46 c47 c48 c49 c50 c51 c52 c53 c54 c55 c56 c73 c74 c75 c76 c77 c78 c79 c80 c81 c82 c83 c84 c85 c86 c87 c88 c89 c90 c91 c92 c93 u11 u57 u58 u59 u60 u61 u62 u63 u64 u65 u66 u67 u68 u69 u70 u71 u72 : Value)
    (h : ∀ (u11 u57 u58 u59 u60 u61 u62 u63 u64 u65 u66 u67 u68 u69 u70 u71 u72 : Value) (Bm : Nat) (Ds : List Nat) (gd bd : Int) (ps : List Int) (W : World), T = (gd, bd, ps) → SS n0 Br bm g Bx Bl Bg Bb (fun k => ok1 k ∧ k ≠ Bm) vs w gd bd ps W → MarksAt n0 Ds W → 0 ≤ gd → gd < bd → bd ≤ 64 → ps.length ≤ 300 →
      Q (.exit 2) { tmps := #[c0, c1, c2, c3, .pointer (some ⟨Br, 0, none⟩), c5, c6, .pointer (some ⟨Bx, 0, none⟩), .pointer (some ⟨Bg, 0, none⟩), .pointer (some ⟨Bb, 0, none⟩), .pointer (some ⟨Bm, 0, none⟩), u11, c12, c13, c14, c15, c16, c17, c18, c19, c20, c21, c22, c23, c24, c25, c26, c27, c28, c29, c30, c31, c32, c33, c34, c35, c36, c37, c38, c39, c40, c41, c42, c43, c44, c45, c46, c47, c48, c49, c50, c51, c52, c53, c54, c55, c56, u57, u58, u59, u60, u61, u62, u63, u64, u65, u66, u67, u68, u69, u70, u71, u72, c73, c74, c75, c76, c77, c78, c79, c80, c81, c82, c83, c84, c85, c86, c87, c88, c89, c90, c91, c92, c93], defers := marks Ds } W) :
    Code.wp Try.prog (Code.loop body2) Q { tmps := #[c0, c1, c2, c3, .pointer (some ⟨Br, 0, none⟩), c5, c6, .pointer (some ⟨Bx, 0, none⟩), .pointer (some ⟨Bg, 0, none⟩), .pointer (some ⟨Bb, 0, none⟩), .pointer (some ⟨Bm, 0, none⟩), u11, c12, c13, c14, c15, c16, c17, c18, c19, c20, c21, c22, c23, c24, c25, c26, c27, c28, c29, c30, c31, c32, c33, c34, c35, c36, c37, c38, c39, c40, c41, c42, c43, c44, c45, c46, c47, c48, c49, c50, c51, c52, c53, c54, c55, c56, u57, u58, u59, u60, u61, u62, u63, u64, u65, u66, u67, u68, u69, u70, u71, u72, c73, c74, c75, c76, c77, c78, c79, c80, c81, c82, c83, c84, c85, c86, c87, c88, c89, c90, c91, c92, c93], defers := [] } W := by
  refine wp_loop_ghost (fun N a W => ∃ (u11 u57 u58 u59 u60 u61 u62 u63 u64 u65 u66 u67 u68 u69 u70 u71 u72 : Value) (Bm : Nat) (Ds : List Nat) (gd bd : Int) (ps : List Int) (mb : Bool), a = { tmps := #[c0, c1, c2, c3, .pointer (some ⟨Br, 0, none⟩), c5, c6, .pointer (some ⟨Bx, 0, none⟩), .pointer (some ⟨Bg, 0, none⟩), .pointer (some ⟨Bb, 0, none⟩), .pointer (some ⟨Bm, 0, none⟩), u11, c12, c13, c14, c15, c16, c17, c18, c19, c20, c21, c22, c23, c24, c25, c26, c27, c28, c29, c30, c31, c32, c33, c34, c35, c36, c37, c38, c39, c40, c41, c42, c43, c44, c45, c46, c47, c48, c49, c50, c51, c52, c53, c54, c55, c56, u57, u58, u59, u60, u61, u62, u63, u64, u65, u66, u67, u68, u69, u70, u71, u72, c73, c74, c75, c76, c77, c78, c79, c80, c81, c82, c83, c84, c85, c86, c87, c88, c89, c90, c91, c92, c93], defers := marks Ds } ∧ Inv n0 Br bm g Bx Bl Bg Bb ok1 vs w T N Ds gd bd ps mb Bm W) N
    ⟨u11, u57, u58, u59, u60, u61, u62, u63, u64, u65, u66, u67, u68, u69, u70, u71, u72, Bm, [], gd, bd, ps, true, rfl, hI⟩ ?_
  rintro N a W ⟨u11, u57, u58, u59, u60, u61, u62, u63, u64, u65, u66, u67, u68, u69, u70, u71, u72, Bm, Ds, gd, bd, ps, mb, rfl, hI⟩
  cases mb with
  | true =>
    refine round_true n0 Br bm g Bx Bl Bg Bb ok1 hok1 vs w T N Ds gd bd ps Bm W hI _ _ c0 c1 c2 c3 c5 c6 c12 c13 c14 c15 c16 c17 c18 c19 c20 c21 c22 c23 c24 c25 c26 c27 c28 c29 c30 c31 c32 c33 c34 c35 c36 c37 c38 c39 c40 c41 c42 c43 c44 c45 c46 c47 c48 c49 c50 c51 c52 c53 c54 c55 c56 c73 c74 c75 c76 c77 c78 c79 c80 c81 c82 c83 c84 c85 c86 c87 c88 c89 c90 c91 c92 c93 u11 u57 u58 u59 u60 u61 u62 u63 u64 u65 u66 u67 u68 u69 u70 u71 u72 ?_
    intro u11 u57 u58 u59 u60 u61 u62 u63 u64 u65 u66 u67 u68 u69 u70 u71 u72 Bm Ds gd bd ps mb W N' hN hI
    exact ⟨N', hN, u11, u57, u58, u59, u60, u61, u62, u63, u64, u65, u66, u67, u68, u69, u70, u71, u72, Bm, Ds, gd, bd, ps, mb, rfl, hI⟩
  | false =>
    obtain ⟨hS, hbm, hlt, hne1, hne2, hM, hg0, hgb, hb64, hpl, hT⟩ := hI
    have hTT : T = (gd, bd, ps) := by
      rcases hT with ⟨hf, -⟩ | ⟨-, hT⟩
      · cases hf
      · exact hT
    refine round_false Q _ Br Bx Bg Bb Bm Ds c0 c1 c2 c3 c5 c6 c12 c13 c14 c15 c16 c17 c18 c19 c20 c21 c22 c23 c24 c25 c26 c27 c28 c29 c30 c31 c32 c33 c34 c35 c36 c37 c38 c39 c40 c41 c42 c43 c44 c45 c46 c47 c48 c49 c50 c51 c52 c53 c54 c55 c56 c73 c74 c75 c76 c77 c78 c79 c80 c81 c82 c83 c84 c85 c86 c87 c88 c89 c90 c91 c92 c93 u11 u57 u58 u59 u60 u61 u62 u63 u64 u65 u66 u67 u68 u69 u70 u71 u72 W ((blk_cell hbm 0).trans rfl) (fun u => ?_)
    exact h u11 u u58 u59 u60 u61 u62 u63 u64 u65 u66 u67 u68 u69 u70 u71 u72 Bm Ds gd bd ps W hTT hS hM hg0 hgb hb64 (by omega)
end Go.Proofs.Ytljjkdlnkklibaa.BisLoop
