/- bisect.Find: the words of its state. -/
import Derived.Lib.SliceRun
import Derived.Test.YtljjkdlnkklibaaProg
import Derived.Below
import Derived.Deep.Draws
import Derived.Deep.AppendLies
import Derived.Maps.AppendAt
import Derived.OwnWalk
import Derived.Laws.BytesArg
import Derived.Laws.MakeOwn
import Derived.Laws.OwnMore
import Derived.Deep.OwnRows
import Derived.Tactics
import Derived.Lib.ConvBytes
import Derived.Laws.Slices
import Derived.WalkKit
import Derived.KernelRfl
import Derived.RowKit3
import Derived.Deep.LoopGhost
import Derived.Deep.QuietTactic
import Derived.BigQuiet
import Derived.WideLaws
import Derived.Deep.DeepCutAuto
import Derived.Deep.CutBlock
import Derived.BigQuiet
import Derived.Deep.RegionHeld3
import Derived.Laws.Rows
import Derived.Lib.AppendStr
import Derived.ArgAppend
import Derived.Laws.IdiomCopy
import Derived.OrdersHeld
import Derived.Laws.BitsLemmas
import Derived.RowKit
import Derived.Test.YtljjkdlnkklibaaPw
import Derived.Test.YtljjkdlnkklibaaWWords
import Derived.Test.YtljjkdlnkklibaaWLast
import Derived.Test.YtljjkdlnkklibaaWTab
import Derived.Test.YtljjkdlnkklibaaWFour
import Derived.Test.YtljjkdlnkklibaaWQPut
import Derived.Test.YtljjkdlnkklibaaWApart
import Derived.Test.YtljjkdlnkklibaaWArr
import Derived.Test.YtljjkdlnkklibaaWZeros
import Derived.Test.YtljjkdlnkklibaaWFoot
import Derived.Test.YtljjkdlnkklibaaWKept
import Derived.Test.YtljjkdlnkklibaaWShare
import Derived.Test.YtljjkdlnkklibaaWN
import Derived.Test.YtljjkdlnkklibaaWFootNe
import Derived.Test.YtljjkdlnkklibaaWAt
import Derived.Test.YtljjkdlnkklibaaWEqStruct
import Derived.Test.YtljjkdlnkklibaaWRepsOne
import Derived.Test.YtljjkdlnkklibaaWInv
import Derived.Test.YtljjkdlnkklibaaWInvWords
import Derived.Test.YtljjkdlnkklibaaWGuard
import Derived.Test.YtljjkdlnkklibaaWNEv
import Derived.Test.YtljjkdlnkklibaaWMore
import Derived.Test.YtljjkdlnkklibaaBisPlain
import Derived.Maps.OwnSet
import Derived.Test.YtljjkdlnkklibaaBisAsk
import Derived.RangeFuncNested
import Derived.RangeFuncBound
import Derived.RangeFuncBox
import Derived.RangeFuncCalls
import Derived.RangeFuncLeaves
import Derived.Shelf.Abstract
import Derived.Shelf.RegionOpen
import Derived.OwnWalkIn
import Derived.TacticsInMore
import Derived.LoopNIn
import Derived.LoopIn
import Derived.Maps.OwnIn
import Derived.Test.YtljjkdlnkklibaaBisCand
import Derived.Deep.CutBlock
import Derived.BigQuiet
import Derived.RangeFuncWrites
namespace Go.Proofs.Ytljjkdlnkklibaa.BisSt
open Go.RowKit Go.Shelf Go.Maps Go.Proofs.YtljjkdlnkklibaaW.PrintWords Go.Proofs.YtljjkdlnkklibaaW.PrintLast Go.Proofs.YtljjkdlnkklibaaW.PrintMore Go.Proofs.Ytljjkdlnkklibaa.BisPlain Go.Proofs.Ytljjkdlnkklibaa.BisAsk Go.Proofs.Ytljjkdlnkklibaa.BisCand
set_option linter.unusedVariables false

def marks (Ds : List Nat) : List Deferred := Ds.map fun D => { target := .collected D, args := #[] }
def MarksAt (n0 : Nat) (Ds : List Nat) (W : World) : Prop := Ds.Nodup ∧ ∀ D ∈ Ds, n0 ≤ D ∧ W.heap[D]? = some (.deferred (some []))
theorem kq_put {n0 : Nat} (W : World) (l : Nat) (o o' : Obj) (hl : n0 ≤ l) (h : W.heap[l]? = some o) (hc : o.isCells = false) : Kq n0 W (W.putObj l o') :=
  ⟨(Below.refl n0 W).grown (grownBy_putObj' W l o') (Nat.le_of_lt (Nat.lt_of_le_of_lt hl (Array.getElem?_eq_some_iff.1 h).1)) (fun k e => by cases e; exact hl), fun k o1 hk ho => (World.putObj_heap_other (by intro e; subst e; rw [h] at hk; cases hk; rw [hc] at ho; cases ho)).trans hk⟩
theorem Kq.refl (n0 : Nat) (W : World) : Kq n0 W W := ⟨Below.refl _ _, fun _ _ h _ => h⟩
theorem leaves_marks {n0 n : Nat} {P : Program} {fn : Func} {tmps : Array Value} {R : Ending → World → Prop} : ∀ (Ds : List Nat) (W : World), MarksAt n0 Ds W →
    (∀ W', Kq n0 W W' → ∃ v, (results fn tmps).run P W' = .ok v W' ∧ R (.returned v) W') → LeavesInM Fence.wide n P fn tmps R (marks Ds) .returning W
  | [], W, _, h => h W (Kq.refl _ _)
  | D :: Ds, W, ⟨hn, hm⟩, h => by
    obtain ⟨h1, h2⟩ := hm D List.mem_cons_self
    have hq := kq_put W D _ (.deferred none) h1 h2 rfl
    refine ⟨by simp, .inl ⟨D, _, rfl, run_takeDeferred h2, leaves_marks Ds _ ⟨(List.nodup_cons.1 hn).2, fun D' hD' => ?_⟩ (fun W' hW' => h W' (hq.trans hW'))⟩⟩
    obtain ⟨h3, h4⟩ := hm D' (List.mem_cons_of_mem _ hD')
    exact ⟨h3, (World.putObj_heap_other (by intro e; subst e; exact (List.nodup_cons.1 hn).1 hD')).trans h4⟩


/-- The search in hand: the result's cell, the map, the struct, the box of its address. -/
def FS (n0 Br bm g Bx Bl : Nat) (ok : Nat → Prop) (vs : List Int) (w W : World) (ps : List Int) : Prop :=
  Sr n0 ok W g bm Bl (vd vs) ps ∧ W.heap[Br]? = some (.cells #[.int .i64 0, .int .i64 0, .slice none 0 0, .slice none 0 0] 27 (0, 0)) ∧
    W.heap[Bx]? = some (.cells #[.pointer (some ⟨g, 0, none⟩)] 47 (0, 0)) ∧ Lst n0 Bl vs W ∧ Below n0 w W ∧ (n0 ≤ Br ∧ Br < Bx ∧ bm < Bx ∧ g < Bx ∧ g ≠ bm ∧ Br ≠ g ∧ Br ≠ bm)
theorem Sr.ok_mono {n0 g bm Bl : Nat} {ok ok' : Nat → Prop} {W : World} {V : Int → Int} {ps : List Int} (h : Sr n0 ok W g bm Bl V ps) (hm : ∀ k, k < W.heap.size → ok k → ok' k) : Sr n0 ok' W g bm Bl V ps := by
  obtain ⟨v, h1, h2, h3, h4, h5⟩ := h
  exact ⟨v, h1, h2, h3, h4, Kd.R_mono (Kd.R_bound h5) (fun k hk => hm k hk.2.2.1 hk.1)⟩
theorem Sr.cells {n0 g bm Bl : Nat} {ok : Nat → Prop} {W : World} {V : Int → Int} {ps : List Int} (h : Sr n0 ok W g bm Bl V ps) : Sr n0 (fun k => ok k ∧ ∀ o, W.heap[k]? = some o → o.isCells = true) W g bm Bl V ps := by
  obtain ⟨v, h1, h2, h3, h4, h5⟩ := h
  exact ⟨v, h1, h2, h3, h4, Kd.R_mono (Kd.R_bound h5) (fun k hk => ⟨hk.1, fun o ho => by obtain ⟨-, -, -, q, -, cells, hc⟩ := hk; rw [hc] at ho; cases ho; rfl⟩)⟩
/-- Nothing but blocks that the search doesn't own has turned. -/
theorem Sr.move {n0 g bm Bl : Nat} {ok : Nat → Prop} {W W' : World} {V : Int → Int} {ps : List Int} (h : Sr n0 ok W g bm Bl V ps) (hm : ∀ k, k < W.heap.size → (k = g ∨ k = bm ∨ ok k) → W'.heap[k]? = W.heap[k]?) : Sr n0 ok W' g bm Bl V ps := by
  obtain ⟨v, h1, h2, h3, ⟨es, clock, h4, h4'⟩, h5⟩ := h
  exact ⟨v, (hm g (blk_lt h1) (.inl rfl)).trans h1, h2, h3, ⟨es, clock, (hm bm (blk_lt h4) (.inr (.inl rfl))).trans h4, h4'⟩, Kd.R_step h5 (fun k hk hlt => hm k hlt (.inr (.inr hk)))⟩
theorem FS.move {n0 Br bm g Bx Bl : Nat} {ok : Nat → Prop} {vs : List Int} {w W W' : World} {ps : List Int} (h : FS n0 Br bm g Bx Bl ok vs w W ps) (hm : ∀ k, k < W.heap.size → (k ≤ Bx ∨ ok k) → W'.heap[k]? = W.heap[k]?) (hb : Below n0 W W') : FS n0 Br bm g Bx Bl ok vs w W' ps := by
  obtain ⟨h1, h2, h3, h4, h5, h6⟩ := h
  refine ⟨Sr.move h1 (fun k hk hc => hm k hk (by rcases hc with rfl | rfl | hc <;> (first | exact .inl (by omega) | exact .inr hc))), (hm _ (blk_lt h2) (.inl (by omega))).trans h2, (hm _ (blk_lt h3) (.inl (by omega))).trans h3, h4.below hb, h5.trans hb, h6⟩
theorem FS.ok_mono {n0 Br bm g Bx Bl : Nat} {ok ok' : Nat → Prop} {vs : List Int} {w W : World} {ps : List Int} (h : FS n0 Br bm g Bx Bl ok vs w W ps) (hm : ∀ k, k < W.heap.size → ok k → ok' k) : FS n0 Br bm g Bx Bl ok' vs w W ps := ⟨Sr.ok_mono h.1 hm, h.2⟩

theorem ask_f (n0 Br bm g Bx Bl : Nat) (ok : Nat → Prop) (vs ps : List Int) (i : Int) (w W : World) (h : FS n0 Br bm g Bx Bl ok vs w W ps) (hok : ∀ k, ok k → Bx < k) (hfr : ∀ k, W.heap.size ≤ k → ok k) (hi : -1000 ≤ i ∧ i ≤ 1000) (hp : ps.length < 1000) :
    Calls Try.prog 19 #[.pointer (some ⟨g, 0, none⟩), .int .i64 i] W fun e w' => e = .returned (.int .i64 (vd vs i)) ∧ FS n0 Br bm g Bx Bl ok vs w w' (ps ++ [i]) ∧ Below n0 W w' ∧
      (∀ k, k < W.heap.size → Bx < k → ¬ ok k → w'.heap[k]? = W.heap[k]?) ∧ (∀ k o, W.heap[k]? = some o → o.isCells = false → k ≠ bm → w'.heap[k]? = some o) := by
  obtain ⟨h1, h2, h3, h4, h5, h6⟩ := h
  have h1b := Sr.cells h1
  have hgc : ∃ cs t, W.heap[g]? = some (.cells cs t (0, 0)) := by obtain ⟨v, hb, -⟩ := h1; exact ⟨_, _, hb⟩
  refine (ask_c n0 g bm Bl _ vs ps i W h4 h1b (fun hk => by have := hok _ hk.1; omega) h6.2.2.2.2.1 (fun hk => by have := hok _ hk.1; omega)
    (fun k hk => ⟨hfr k hk, fun o ho => absurd (blk_lt ho) (by omega)⟩) (wf_small hi.1 hi.2) hp).mono ?_
  rintro e W' ⟨rfl, s1, s2, s3, s4⟩
  refine ⟨rfl, ⟨Sr.ok_mono s1 (fun k _ hk => hk.1), (s3 _ (blk_lt h2) h6.2.2.2.2.2.1 h6.2.2.2.2.2.2 (fun hk => by have := hok _ hk.1; omega)).trans h2, (s3 _ (blk_lt h3) (by omega) (by omega) (fun hk => by have := hok _ hk.1; omega)).trans h3, h4.below s2, h5.trans s2, h6⟩, s2,
    fun k hk hb hn => s3 k hk (by omega) (by omega) (fun hc => hn hc.1), fun k o hk ho hb => (s3 k (blk_lt hk) ?_ hb (fun hc => by have := hc.2 o hk; rw [ho] at this; cases this)).trans hk⟩
  rintro rfl
  obtain ⟨cs, t, hb⟩ := hgc
  rw [hb] at hk; cases hk; cases ho

/-- The search with the boxes of the two ends. -/
def SS (n0 Br bm g Bx Bl Bg Bb : Nat) (ok : Nat → Prop) (vs : List Int) (w : World) (gd bd : Int) (ps : List Int) (W : World) : Prop :=
  FS n0 Br bm g Bx Bl ok vs w W ps ∧ W.heap[Bg]? = some (.cells #[.int .i64 gd] 3 (0, 0)) ∧ W.heap[Bb]? = some (.cells #[.int .i64 bd] 3 (0, 0)) ∧ Bx < Bg ∧ Bx < Bb ∧ Bg ≠ Bb ∧
    (∀ k, ok k → Bx < k ∧ k ≠ Bg ∧ k ≠ Bb) ∧ (∀ k, W.heap.size ≤ k → ok k)
theorem SS.n0_le {n0 Br bm g Bx Bl Bg Bb : Nat} {ok : Nat → Prop} {vs : List Int} {w W : World} {gd bd : Int} {ps : List Int} (h : SS n0 Br bm g Bx Bl Bg Bb ok vs w gd bd ps W) : n0 ≤ Bg ∧ n0 ≤ Bb := by
  obtain ⟨h1, -, -, h4, h5, -⟩ := h
  have := h1.2.2.2.2.2
  omega
theorem SS.move {n0 Br bm g Bx Bl Bg Bb : Nat} {ok : Nat → Prop} {vs : List Int} {w W W' : World} {gd bd gd' bd' : Int} {ps : List Int} (h : SS n0 Br bm g Bx Bl Bg Bb ok vs w gd bd ps W) (hm : ∀ k, k < W.heap.size → (k ≤ Bx ∨ ok k) → W'.heap[k]? = W.heap[k]?) (hb : Below n0 W W')
    (hg : W'.heap[Bg]? = some (.cells #[.int .i64 gd'] 3 (0, 0))) (hb2 : W'.heap[Bb]? = some (.cells #[.int .i64 bd'] 3 (0, 0))) : SS n0 Br bm g Bx Bl Bg Bb ok vs w gd' bd' ps W' := by
  obtain ⟨h1, h2, h3, h4, h5, h6, h7, h8⟩ := h
  exact ⟨h1.move hm hb, hg, hb2, h4, h5, h6, h7, fun k hk => h8 k (Nat.le_trans hb.size hk)⟩
theorem SS.setg {n0 Br bm g Bx Bl Bg Bb : Nat} {ok : Nat → Prop} {vs : List Int} {w W : World} {gd bd : Int} {ps : List Int} (h : SS n0 Br bm g Bx Bl Bg Bb ok vs w gd bd ps W) (gd' : Int) :
    SS n0 Br bm g Bx Bl Bg Bb ok vs w gd' bd ps (W.setCell ⟨Bg, 0, none⟩ (.int .i64 gd')) := by
  have hn := SS.n0_le h
  have ⟨h1, h2, h3, h4, h5, h6, h7, h8⟩ := h
  exact SS.move h (fun k _ hc => Below.heap_setCell _ _ _ _ (show k ≠ Bg from hc.elim (fun hc => by omega) (fun hc => (h7 k hc).2.1))) ((Below.refl n0 W).setCell (p := ⟨Bg, 0, none⟩) hn.1 _) (blk_put h2 0 _ rfl) (blk_far h3 (Ne.symm h6) _)
theorem SS.setb {n0 Br bm g Bx Bl Bg Bb : Nat} {ok : Nat → Prop} {vs : List Int} {w W : World} {gd bd : Int} {ps : List Int} (h : SS n0 Br bm g Bx Bl Bg Bb ok vs w gd bd ps W) (bd' : Int) :
    SS n0 Br bm g Bx Bl Bg Bb ok vs w gd bd' ps (W.setCell ⟨Bb, 0, none⟩ (.int .i64 bd')) := by
  have hn := SS.n0_le h
  have ⟨h1, h2, h3, h4, h5, h6, h7, h8⟩ := h
  exact SS.move h (fun k _ hc => Below.heap_setCell _ _ _ _ (show k ≠ Bb from hc.elim (fun hc => by omega) (fun hc => (h7 k hc).2.2))) ((Below.refl n0 W).setCell (p := ⟨Bb, 0, none⟩) hn.2 _) (blk_far h2 h6 _) (blk_put h3 0 _ rfl)
theorem SS.alloc {n0 Br bm g Bx Bl Bg Bb : Nat} {ok : Nat → Prop} {vs : List Int} {w W : World} {gd bd : Int} {ps : List Int} (h : SS n0 Br bm g Bx Bl Bg Bb ok vs w gd bd ps W) (o : Obj) : SS n0 Br bm g Bx Bl Bg Bb ok vs w gd bd ps (W.alloc o) := by
  have hn := SS.n0_le h
  have hl := blk_lt h.2.1
  exact SS.move h (fun k hk _ => Below.heap_alloc _ _ _ hk) ((Below.refl n0 W).alloc (by omega) o) (blk_alloc h.2.1 _) (blk_alloc h.2.2.1 _)
theorem ask_s (n0 Br bm g Bx Bl Bg Bb : Nat) (ok : Nat → Prop) (vs ps : List Int) (gd bd i : Int) (w W : World) (h : SS n0 Br bm g Bx Bl Bg Bb ok vs w gd bd ps W) (hi : -1000 ≤ i ∧ i ≤ 1000) (hp : ps.length < 1000) :
    Calls Try.prog 19 #[.pointer (some ⟨g, 0, none⟩), .int .i64 i] W fun e w' => e = .returned (.int .i64 (vd vs i)) ∧ SS n0 Br bm g Bx Bl Bg Bb ok vs w gd bd (ps ++ [i]) w' ∧ Below n0 W w' ∧
      (∀ k, k < W.heap.size → Bx < k → ¬ ok k → w'.heap[k]? = W.heap[k]?) ∧ (∀ k o, W.heap[k]? = some o → o.isCells = false → k ≠ bm → w'.heap[k]? = some o) := by
  obtain ⟨h1, h2, h3, h4, h5, h6, h7, h8⟩ := h
  refine (ask_f n0 Br bm g Bx Bl ok vs ps i w W h1 (fun k hk => (h7 k hk).1) h8 hi hp).mono ?_
  rintro e W' ⟨rfl, s1, s2, s3, s4⟩
  exact ⟨rfl, ⟨s1, (s3 _ (blk_lt h2) h4 (fun hc => (h7 _ hc).2.1 rfl)).trans h2, (s3 _ (blk_lt h3) h5 (fun hc => (h7 _ hc).2.2 rfl)).trans h3, h4, h5, h6, h7, fun k hk => h8 k (Nat.le_trans s2.size hk)⟩, s2, s3, s4⟩

/-- What Find answers. -/
def Res (w : World) (e : Ending) (w' : World) (x : Ans) : Prop :=
  ∃ A1 k1 A2 k2, e = .returned (.tuple #[.agg #[.int .i64 x.good, .int .i64 x.bad, .slice A1 x.between.length k1, .slice A2 x.probes.length k2], .int .i64 x.err]) ∧
    x.between.length ≤ k1 ∧ Kd.C (Kd.int .i64) w' A1 x.between.length x.between ∧ x.probes.length ≤ k2 ∧ Kd.C (Kd.int .i64) w' A2 x.probes.length x.probes ∧ Below w.heap.size w w'

theorem C_none (w : World) : Kd.C (Kd.int .i64) w none 0 ([] : List Int) := by
  obtain ⟨A, c, h1, h2, h3⟩ := Kd.R_reads (Kd.R_nil (Kd.int .i64) 3 w 0 (fun _ => True))
  cases h1; exact h3

theorem put4 {W : World} {B t : Nat} {a b c d : Value} (h : W.heap[B]? = some (.cells #[a, b, c, d] t (0, 0))) (a' b' c' d' : Value) :
    ((((W.setCell ⟨B, 0, none⟩ a').setCell ⟨B, 1, none⟩ b').setCell ⟨B, 2, none⟩ c').setCell ⟨B, 3, none⟩ d').heap[B]? = some (.cells #[a', b', c', d'] t (0, 0)) :=
  blk_put (blk_put (blk_put (blk_put h 0 a' rfl) 1 b' rfl) 2 c' rfl) 3 d' rfl
theorem below4 {n0 B : Nat} (hB : n0 ≤ B) (W : World) (a' b' c' d' : Value) : Below n0 W ((((W.setCell ⟨B, 0, none⟩ a').setCell ⟨B, 1, none⟩ b').setCell ⟨B, 2, none⟩ c').setCell ⟨B, 3, none⟩ d') :=
  ((((Below.refl n0 W).setCell (p := ⟨B, 0, none⟩) hB _).setCell (p := ⟨B, 1, none⟩) hB _).setCell (p := ⟨B, 2, none⟩) hB _).setCell (p := ⟨B, 3, none⟩) hB _
theorem info27 : (Try.prog.info? 27).map (·.size) = some 4 := by rfl


section
variable {ops : Array Oper} {rest : List Oper} {o : Oper} {a : Act} {Q : Exit → Act → World → Prop}
/-- append(a.Between, i), behind 'at_builtin': a struct of four cells (bisect's answer, or the reference's), of type ty. -/
theorem app_b (base g : Nat) (ty : TypeId) (wr : World) (hgd : o.guard = none) (s x : Operand) (ho : o.op = .call { callee := .builtin .append, args := #[s, x], argTypes := #[22, 22] })
    (v : Value) (cs : List Int) (p : Int) (hs : a.eval s = v) (hx : a.eval x = .slice (some ⟨wr.heap.size, 0, none⟩) 1 1)
    (c0 c1 c3 : Value) (hb : wr.heap[g]? = some (.cells #[c0, c1, v, c3] ty (0, 0))) (hg : base ≤ g) (hR : Kd.R (Kd.int .i64) 3 wr base (fun k => k ≠ g) v cs) (hl : cs.length + 1 ≤ 1000)
    (h : ∀ A1 k1 w1, w1.cell? ⟨g, 2, none⟩ = some v → w1.frozen? ⟨g, 2, none⟩ = false →
      Aside0 ((w1.setCell ⟨g, 2, none⟩ (.slice A1 (cs.length + 1) k1)).heap[g]? = some (.cells #[c0, c1, .slice A1 (cs.length + 1) k1, c3] ty (0, 0)) ∧ Kd.R (Kd.int .i64) 3 (w1.setCell ⟨g, 2, none⟩ (.slice A1 (cs.length + 1) k1)) base (fun k => k ≠ g) (.slice A1 (cs.length + 1) k1) (cs ++ [p]) ∧
        Below base wr (w1.setCell ⟨g, 2, none⟩ (.slice A1 (cs.length + 1) k1))) →
      wpList Try.prog ops Q rest (a.put o.dst (.slice A1 (cs.length + 1) k1)) w1) :
    wpList Try.prog ops Q (o :: rest) a (wr.alloc (.cells #[.int .i64 p] 3)) := by
  have hlt := blk_lt hb
  refine Kd.R_append (Kd.int .i64) (w0 := wr) base hgd s x 22 3 (.int .i64 0) 8 ho Try.underlying22 info_i64 rfl (by decide) (by omega) v cs p [.int .i64 p] (fun k => k ≠ g) (fun _ => False) hs hx rfl (fun _ hk => hk.elim)
    (fun k hk => by omega) hR (Below.refl _ _) (by omega) (by omega) ?_
  intro v1 w1 hown hbw hgr hat
  have hb1 := blk_grown hb hgr (fun e => hR.1 g e.symm rfl)
  obtain ⟨A1, k1, rfl, -, -⟩ := Kd.R_reads hown
  have hR1 := Kd.R_far hown (p := ⟨g, 2, none⟩) (fun k hk => hk) (.slice A1 (cs ++ [p]).length k1)
  rw [List.length_append, List.length_singleton] at hR1 ⊢
  exact h A1 k1 w1 ((blk_cell hb1 2).trans rfl) (blk_frozen hb1 2) ⟨blk_put hb1 2 (.slice A1 (cs.length + 1) k1) rfl, hR1, hbw.setCell (p := ⟨g, 2, none⟩) hg _⟩
end
theorem betw_succ (g b : Int) (k : Nat) (h : (k : Int) < b - g - 1) : (betw g b).take (k + 1) = (betw g b).take k ++ [g + 1 + (k : Int)] := by
  have hl : k < (betw g b).length := by unfold betw; simp; omega
  rw [List.take_succ_eq_append_getElem hl]; simp [betw]
theorem betw_length (g b : Int) : (betw g b).length = (b - g - 1).toNat := by simp [betw]
end Go.Proofs.Ytljjkdlnkklibaa.BisSt
