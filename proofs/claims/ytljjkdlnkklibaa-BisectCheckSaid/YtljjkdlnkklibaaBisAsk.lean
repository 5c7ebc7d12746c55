/- bisect: the probe of verdicts, possible, ask: walked. -/
import Derived.Lib.SliceRun
import Derived.Test.YtljjkdlnkklibaaProg
import Derived.Below
import Derived.Deep.Draws
import Derived.Deep.AppendLies
import Derived.Maps.AppendAt
import Derived.OwnWalk
import Derived.Laws.BytesArg
import Derived.Laws.MakeOwn
import Derived.Laws.OwnMore
import Derived.Deep.OwnRows
import Derived.Tactics
import Derived.Lib.ConvBytes
import Derived.Laws.Slices
import Derived.WalkKit
import Derived.KernelRfl
import Derived.RowKit3
import Derived.Deep.LoopGhost
import Derived.Deep.QuietTactic
import Derived.BigQuiet
import Derived.WideLaws
import Derived.Deep.DeepCutAuto
import Derived.Deep.CutBlock
import Derived.Deep.RegionHeld3
import Derived.Laws.Rows
import Derived.Lib.AppendStr
import Derived.ArgAppend
import Derived.Laws.IdiomCopy
import Derived.OrdersHeld
import Derived.Laws.BitsLemmas
import Derived.RowKit
import Derived.Test.YtljjkdlnkklibaaPw
import Derived.Test.YtljjkdlnkklibaaWWords
import Derived.Test.YtljjkdlnkklibaaWLast
import Derived.Test.YtljjkdlnkklibaaWTab
import Derived.Test.YtljjkdlnkklibaaWFour
import Derived.Test.YtljjkdlnkklibaaWQPut
import Derived.Test.YtljjkdlnkklibaaWApart
import Derived.Test.YtljjkdlnkklibaaWArr
import Derived.Test.YtljjkdlnkklibaaWZeros
import Derived.Test.YtljjkdlnkklibaaWFoot
import Derived.Test.YtljjkdlnkklibaaWKept
import Derived.Test.YtljjkdlnkklibaaWShare
import Derived.Test.YtljjkdlnkklibaaWN
import Derived.Test.YtljjkdlnkklibaaWFootNe
import Derived.Test.YtljjkdlnkklibaaWAt
import Derived.Test.YtljjkdlnkklibaaWEqStruct
import Derived.Test.YtljjkdlnkklibaaWRepsOne
import Derived.Test.YtljjkdlnkklibaaWInv
import Derived.Test.YtljjkdlnkklibaaWInvWords
import Derived.Test.YtljjkdlnkklibaaWGuard
import Derived.Test.YtljjkdlnkklibaaWNEv
import Derived.Test.YtljjkdlnkklibaaWMore
import Derived.Test.YtljjkdlnkklibaaBisPlain
import Derived.Maps.OwnSet
namespace Go.Proofs.Ytljjkdlnkklibaa.BisAsk
open Go.RowKit Go.Maps Go.Proofs.YtljjkdlnkklibaaW.PrintWords Go.Proofs.YtljjkdlnkklibaaW.PrintLast Go.Proofs.YtljjkdlnkklibaaW.PrintMore Go.Proofs.Ytljjkdlnkklibaa.BisPlain
set_option linter.unusedVariables false

theorem info_i64 : (Try.prog.info? 3).map (fun i => (i.zero, i.size, i.bytes)) = some (some (.int .i64 0), 1, 8) := by rfl
theorem law3 : Keyed Try.prog 3 := int_keyed Try.underlying3
theorem zero3 (w : World) : (zeroValue 3).run Try.prog w = .ok (.int .i64 0) w := by kernel_rfl

/-- A list in a box below n0: in every world that agrees below n0. -/
def Lst (n0 Bl : Nat) (vs : List Int) (W : World) : Prop :=
  ∃ A c, Bl < n0 ∧ ∀ W', Below n0 W W' → W'.heap[Bl]? = some (.cells #[.slice A vs.length c] 22 (0, 0)) ∧ Kd.C (Kd.int .i64) W' A vs.length vs
theorem Lst.below {n0 Bl : Nat} {vs : List Int} {W W1 : World} (h : Lst n0 Bl vs W) (hb : Below n0 W W1) : Lst n0 Bl vs W1 := by
  obtain ⟨A, c, h1, h2⟩ := h
  exact ⟨A, c, h1, fun W' hW' => h2 W' (hb.trans hW')⟩
theorem Lst.mk0 {Bl c : Nat} {A : Option Addr} {vs : List Int} {W : World} (h1 : W.heap[Bl]? = some (.cells #[.slice A vs.length c] 22 (0, 0))) (h2 : Kd.C (Kd.int .i64) W A vs.length vs) : Lst W.heap.size Bl vs W :=
  ⟨A, c, blk_lt h1, fun W' hW' => ⟨blk_below h1 hW', Kd.C_below h2 hW'⟩⟩

def pv (Bl : Nat) : Value := .func (.func 21) #[] #[.pointer (some ⟨Bl, 0, none⟩)]

set_option maxHeartbeats 2000000 in
set_option maxRecDepth 100000 in
theorem probe1_c (n0 Bl : Nat) (vs : List Int) (i : Int) (W : World) (hL : Lst n0 Bl vs W) :
    Calls Try.prog 21 #[.int .i64 i, .pointer (some ⟨Bl, 0, none⟩)] W fun e w' => e = .returned (.int .i64 (raw vs i)) ∧ W = w' := by
  obtain ⟨A, c, hlt, hL⟩ := hL
  obtain ⟨hb, hC⟩ := hL W (Below.refl _ _)
  clear hL
  have hc : W.cell? ⟨Bl, 0, none⟩ = some (.slice A vs.length c) := (blk_cell hb 0).trans rfl
  by_cases c1 : i < 0
  · have d1 : decide (i < 0) = true := decide_eq_true c1
    have hr : raw vs i = 2 := by unfold raw; rw [if_neg (by omega)]
    rw [hr]
    clear hr hb hC
    go_enter Try.func21, Try.ntmps21
    go_wp2
    go_ret
    exact ⟨rfl, rfl⟩
  · have d1 : decide (i < 0) = false := decide_eq_false c1
    by_cases c2 : (vs.length : Int) ≤ i
    · have d2 : decide ((vs.length : Int) ≤ i) = true := decide_eq_true c2
      have hr : raw vs i = 2 := by unfold raw; rw [if_neg (by omega)]
      rw [hr]
      clear hr hb hC
      go_enter Try.func21, Try.ntmps21
      go_wp2
      go_ret
      exact ⟨rfl, rfl⟩
    · have d2 : decide ((vs.length : Int) ≤ i) = false := decide_eq_false c2
      obtain ⟨ad, rfl, hx⟩ := Kd.at_int hC i (by omega) (by omega)
      have hr : raw vs i = rd vs i := by unfold raw rd; rw [if_pos (by omega)]
      rw [hr]
      have h0 : 0 ≤ i := by omega
      have h1 : i < (vs.length : Int) := by omega
      clear hr hb hC
      go_enter Try.func21, Try.ntmps21
      go_wp2
      go_ret
      exact ⟨rfl, rfl⟩


/-- What is known: which versions were probed, with which verdict. -/
def Dp (V : Int → Int) (ps : List Int) : DataW Unit := ps.foldl (fun D i => D.put (.int .i64 i) (.lit (.int .i64 (V i)))) (.map [])
theorem Dp_snoc (V : Int → Int) (ps : List Int) (i : Int) : Dp V (ps ++ [i]) = (Dp V ps).put (.int .i64 i) (.lit (.int .i64 (V i))) := by unfold Dp; rw [List.foldl_append]; rfl
theorem Dp_isMap (V : Int → Int) (ps : List Int) : IsMap (Dp V ps) := by
  have : ∀ (l : List Int) (D : DataW Unit), IsMap D → IsMap (l.foldl (fun D i => D.put (.int .i64 i) (.lit (.int .i64 (V i)))) D) := by
    intro l
    induction l with
    | nil => intro D h; exact h
    | cons x l ih => intro D h; exact ih _ (h.put _ _)
  exact this ps _ isMap_empty
theorem Dp_at (V : Int → Int) (ps : List Int) (i : Int) (z : DataW Unit) : (Dp V (ps ++ [i])).atKey (.int .i64 i) z = .lit (.int .i64 (V i)) := by
  rw [Dp_snoc]; exact atKey_put_same (Dp_isMap V ps) (show WideAt.IsKeyLit (.int .i64 i) from trivial) _ _
theorem Dp_has (V : Int → Int) (i : Int) (ps : List Int) : Maps.has (Dp V ps) (.int .i64 i) = ps.contains i := by
  have : ∀ (l : List Int) (D : DataW Unit), IsMap D → Maps.has (l.foldl (fun D i => D.put (.int .i64 i) (.lit (.int .i64 (V i)))) D) (.int .i64 i) = (Maps.has D (.int .i64 i) || l.contains i) := by
    intro l
    induction l with
    | nil => intro D h; simp
    | cons x l ih =>
      intro D h
      rw [List.foldl_cons, ih _ (h.put _ _)]
      by_cases c : i = x
      · subst c; rw [has_put_same h (show WideAt.IsKeyLit (.int .i64 i) from trivial)]; simp
      · rw [has_put_other (by intro e; cases e; exact c rfl)]
        rw [List.contains_cons, show (i == x) = false from beq_eq_false_iff_ne.mpr c, Bool.false_or]
  rw [Dp, this ps _ isMap_empty]; simp [Maps.has]

/-- A search at block g: its map at bm; the row of the probes is one of the ok blocks. -/
def Sr (n0 : Nat) (ok : Nat → Prop) (W : World) (g bm Bl : Nat) (V : Int → Int) (ps : List Int) : Prop :=
  ∃ v, W.heap[g]? = some (.cells #[pv Bl, .map (some bm), v] 50 (0, 0)) ∧ n0 ≤ g ∧ n0 ≤ bm ∧ W.ownsMap Try.prog 3 (plainElem Try.prog 3) bm ps.length (Dp V ps) ∧
    Kd.R (Kd.int .i64) 3 W n0 ok v ps

section
variable {ops : Array Oper} {rest : List Oper} {o : Oper} {a : Act} {Q : Exit → Act → World → Prop}
/-- append(s.order, i), behind 'at_builtin'. -/
theorem app_s (n0 g bm : Nat) (ok : Nat → Prop) (wr : World) (hgd : o.guard = none) (s x : Operand) (ho : o.op = .call { callee := .builtin .append, args := #[s, x], argTypes := #[22, 22] })
    (v : Value) (cs : List Int) (p : Int) (hs : a.eval s = v) (hx : a.eval x = .slice (some ⟨wr.heap.size, 0, none⟩) 1 1)
    (c0 c1 : Value) (hb : wr.heap[g]? = some (.cells #[c0, c1, v] 50 (0, 0))) (hg : n0 ≤ g) (hok : ¬ ok g) (hfresh : ∀ k, wr.heap.size ≤ k → ok k) (hR : Kd.R (Kd.int .i64) 3 wr n0 ok v cs) (hl : cs.length + 1 ≤ 1000)
    (h : ∀ A1 k1 w1, w1.cell? ⟨g, 2, none⟩ = some v → w1.frozen? ⟨g, 2, none⟩ = false →
      Aside0 ((w1.setCell ⟨g, 2, none⟩ (.slice A1 (cs.length + 1) k1)).heap[g]? = some (.cells #[c0, c1, .slice A1 (cs.length + 1) k1] 50 (0, 0)) ∧ Kd.R (Kd.int .i64) 3 (w1.setCell ⟨g, 2, none⟩ (.slice A1 (cs.length + 1) k1)) n0 ok (.slice A1 (cs.length + 1) k1) (cs ++ [p]) ∧
        Below n0 wr (w1.setCell ⟨g, 2, none⟩ (.slice A1 (cs.length + 1) k1)) ∧ (∀ k, k < wr.heap.size → k ≠ g → ¬ ok k → (w1.setCell ⟨g, 2, none⟩ (.slice A1 (cs.length + 1) k1)).heap[k]? = wr.heap[k]?)) →
      wpList Try.prog ops Q rest (a.put o.dst (.slice A1 (cs.length + 1) k1)) w1) :
    wpList Try.prog ops Q (o :: rest) a (wr.alloc (.cells #[.int .i64 p] 3)) := by
  have hlt := blk_lt hb
  refine Kd.R_append (Kd.int .i64) (w0 := wr) n0 hgd s x 22 3 (.int .i64 0) 8 ho Try.underlying22 info_i64 rfl (by decide) (by omega) v cs p [.int .i64 p] ok (fun _ => False) hs hx rfl (fun _ hk => hk.elim)
    hfresh hR (Below.refl _ _) (by omega) (by omega) ?_
  intro v1 w1 hown hbw hgr hat
  have hb1 := blk_grown hb hgr (fun e => hok (hR.1 g e.symm))
  obtain ⟨A1, k1, rfl, -, -⟩ := Kd.R_reads hown
  have hR1 := Kd.R_far hown (p := ⟨g, 2, none⟩) (fun k hk e => hok ((show k = g from e) ▸ hk)) (.slice A1 (cs ++ [p]).length k1)
  rw [List.length_append, List.length_singleton] at hR1 ⊢
  refine h A1 k1 w1 ((blk_cell hb1 2).trans rfl) (blk_frozen hb1 2) ⟨by simpa using blk_set hb1 2 (.slice A1 (cs.length + 1) k1), hR1, hbw.setCell (p := ⟨g, 2, none⟩) hg _, ?_⟩
  intro k hk hkg hko
  exact (Below.heap_setCell w1 ⟨g, 2, none⟩ _ k hkg).trans (hgr.block k hk (fun e => hko (hR.1 k e.symm)))
end

set_option maxHeartbeats 4000000 in
set_option maxRecDepth 100000 in
theorem ask_c (n0 g bm Bl : Nat) (ok : Nat → Prop) (vs ps : List Int) (i : Int) (W : World) (hL : Lst n0 Bl vs W) (hS : Sr n0 ok W g bm Bl (vd vs) ps) (hgk : ¬ ok g) (hgb : g ≠ bm) (hbk : ¬ ok bm) (hfr : ∀ k, W.heap.size ≤ k → ok k)
    (hi : (Lit.int .i64 i).wf = true) (hp : ps.length < 1000) :
    Calls Try.prog 19 #[.pointer (some ⟨g, 0, none⟩), .int .i64 i] W fun e w' => e = .returned (.int .i64 (vd vs i)) ∧ Sr n0 ok w' g bm Bl (vd vs) (ps ++ [i]) ∧ Below n0 W w' ∧
      (∀ k, k < W.heap.size → k ≠ g → k ≠ bm → ¬ ok k → w'.heap[k]? = W.heap[k]?) ∧ W.heap.size ≤ w'.heap.size := by
  obtain ⟨v, hb, hg, hbm, hown, hR⟩ := hS
  have hP := Aside0.mk (probe1_c n0 Bl vs i W hL)
  have hkey := keyOf_int_mk Try.underlying3 hi
  have hc0 : W.cell? ⟨g, 0, none⟩ = some (.func (.func 21) #[] #[.pointer (some ⟨Bl, 0, none⟩)]) := (blk_cell hb 0).trans rfl
  have hc1 : W.cell? ⟨g, 1, none⟩ = some (.map (some bm)) := (blk_cell hb 1).trans rfl
  obtain ⟨r, hr⟩ : ∃ r, raw vs i = r := ⟨_, rfl⟩
  have hvd : vd vs i = three r := by unfold vd; rw [hr]
  have HVD := Aside0.mk hvd
  rw [hr] at hP
  have HB := Aside0.mk hb
  have HR := Aside0.mk hR
  have HFR := Aside0.mk hfr
  have HL := Aside0.mk hp
  have HG := Aside0.mk hg
  have HBM := Aside0.mk hbm
  have HGB := Aside0.mk hgb
  have HGK := Aside0.mk hgk
  have HBK := Aside0.mk hbk
  have HOWN := Aside0.mk hown
  clear hvd hr hb hR hfr hp hg hbm hgb hgk hbk hown hL hi
  have key : ∀ x : Int, (x = 0 ∧ r = 0) ∨ (x = 1 ∧ r = 1) ∨ (x = 2 ∧ r ≠ 0 ∧ r ≠ 1) → x = three r → Calls Try.prog 19 #[.pointer (some ⟨g, 0, none⟩), .int .i64 i] W fun e w' => e = .returned (.int .i64 x) ∧ Sr n0 ok w' g bm Bl (vd vs) (ps ++ [i]) ∧ Below n0 W w' ∧
      (∀ k, k < W.heap.size → k ≠ g → k ≠ bm → ¬ ok k → w'.heap[k]? = W.heap[k]?) ∧ W.heap.size ≤ w'.heap.size := by
    intro x hx hx3
    have HX3 := Aside0.mk hx3
    clear hx3
    rcases hx with ⟨rfl, rfl⟩ | ⟨rfl, rfl⟩ | ⟨rfl, h0, h1⟩
    case' inr.inr => (have hb0 : (r != 0) = true := bne_iff_ne.mpr h0); (have hb1 : (r != 1) = true := bne_iff_ne.mpr h1); clear h0 h1
    all_goals
      go_enter Try.func19, Try.ntmps19
      go_wp2_with (first
        | (go_at_call 21; refine hP.out.mono ?_; rintro e w1 ⟨rfl, rfl⟩)
        | (at_mapUpdate; refine wpList_mapUpdate_in _ rfl (.tmp 21) (.tmp 22) (.tmp 23) 48 rfl 3 3 law3 Try.underlying48 _ bm ps.length (Dp (vd vs) ps) rfl HOWN.out (by have := HL.out; unfold maxLen; omega) _ _ _ rfl rfl hkey _ [] (plainElem_int Try.underlying3 (by decide)) ?_
           intro w1 hown1 hturn1
           have hgr1 := hturn1.grown
           have hbg := blk_grown HB.out hgr1 (by intro e; cases e; exact HGB.out rfl)
           have hcv : w1.cell? ⟨g, 2, none⟩ = some v := (blk_cell hbg 2).trans rfl
           have HOWN1 := Aside0.mk hown1
           have HGR1 := Aside0.mk hgr1
           have HBG := Aside0.mk hbg
           clear hown1 hturn1 hgr1 hbg)
        | ((with_reducible refine gate_builtin (b := .append) (xs := #[.tmp 28, .tmp 30]) rfl ?_); at_builtin
           refine app_s n0 g bm ok w1 rfl (.tmp 28) (.tmp 30) rfl v ps i rfl rfl _ _ HBG.out HG.out HGK.out (fun k hk => HFR.out k (Nat.le_trans HGR1.out.size hk)) (Kd.R_grown HR.out HGR1.out (fun k hk e => HBK.out (by cases e; exact hk))) (by have := HL.out; omega) ?_
           intro A1 k1 w2 hc2 hf2 HFIN))
      go_ret
      obtain ⟨f1, f2, f3, f4⟩ := HFIN.out
      refine ⟨by first | rfl | simp, ⟨_, by simpa using f1, HG.out, HBM.out, ?_, by simpa using f2⟩, ((Below.refl n0 W).grown HGR1.out (Nat.le_trans HG.out (Nat.le_of_lt (blk_lt HB.out))) (fun k e => by cases e; exact HBM.out)).trans f3, ?_, ?_⟩
      · obtain ⟨es, clock, e1, e2⟩ := HOWN1.out
        rw [Dp_snoc, HVD.out, ← HX3.out, List.length_append, List.length_singleton]
        exact ⟨es, clock, (f4 bm (blk_lt e1) (Ne.symm HGB.out) HBK.out).trans e1, e2⟩
      · intro k hk hkg hkb hko
        exact (f4 k (Nat.lt_of_lt_of_le hk HGR1.out.size) hkg hko).trans (HGR1.out.block k hk (by intro e; cases e; exact hkb rfl))
      · exact Nat.le_trans HGR1.out.size (by have := f3.size; omega)
  rw [HVD.out]
  refine key (three r) ?_ rfl
  unfold three
  by_cases h0 : r = 0
  · simp [h0]
  · by_cases h1 : r = 1
    · simp [h1]
    · simp [h0, h1]
end Go.Proofs.Ytljjkdlnkklibaa.BisAsk
