/- Written by a program of this session (pw.py, over the kit's printer): contracts, with their walks, of the Go functions that a law reaches; a text named ..Law.. proves the given statement of that law, with no condition of its own. -/
import Derived.Test.YtljjkdlnkklibaaPAx0
import Derived.Test.YtljjkdlnkklibaaPAx2
namespace Go.Proofs.Ytljjkdlnkklibaa.PA
open Go.Proofs.Ytljjkdlnkklibaa.BisPlain
open Go.Proofs.Ytljjkdlnkklibaa.BisPure
open Go.Proofs.Ytljjkdlnkklibaa.BisAsk
open Go.Proofs.Ytljjkdlnkklibaa.BisSt
open Go.Proofs.Ytljjkdlnkklibaa.Pw
open Go.RowKit Go.Proofs.YtljjkdlnkklibaaW.PrintWords Go.Proofs.YtljjkdlnkklibaaW.PrintLast Go.Proofs.YtljjkdlnkklibaaW.PrintMore
attribute [local go_sem] max2_int min2_int max_two min_two max_three min_three max_four min_four   -- for this text's walks alone
set_option linter.unusedVariables false
set_option linter.unusedSimpArgs false

/-! ### refuterlaw35_BisectCheck: function 5 -/
def refuterlaw35_BisectCheck.Pure : Prop := True
section
variable {ops : Array Oper} {o : Oper} {a : Act} {Q : Exit → Act → World → Prop} {Kc : Act → World → Prop}
/-- append(xs, ys...) to a row of one's own, at a step of a region that draws. -/
theorem appLstep35 (B : Nat) (wr : World) (hw : Region.wanted o (yielded ops a.tmps) = true) (s x : Operand) (ho : o.op = .call { callee := .builtin .append, args := #[s, x], argTypes := #[22, 22] })
    (v : Value) (cs ys : List Int) (A : Option Addr) (c : Nat) (hs : a.eval s = v) (hx : a.eval x = .slice A ys.length c) (hB : B ≤ wr.heap.size) (hR : Kd.R (Kd.int .i64) 3 wr B (fun _ => True) v cs) (hC : Kd.C (Kd.int .i64) wr A ys.length ys) (hl : cs.length + ys.length ≤ 10000)
    (h : ∀ v1 w1, Aside0 (Kd.R (Kd.int .i64) 3 w1 B (fun _ => True) v1 (cs ++ ys) ∧ Below B wr w1 ∧ wr.grownBy w1 v.ownBlock) → Kc (a.put o.dst v1) w1) :
    if Region.wanted o (yielded ops a.tmps) = true then Oper.wp Try.prog o a wr Kc Q else Kc (a.put o.dst undef) wr := by
  refine Kd.R_append_rows_step (Kd.int .i64) (w0 := wr) B hw s x 22 3 (.int .i64 0) 8 ho Try.underlying22 info_i64 rfl (by decide) (by decide) v cs ys A ys.length c (fun _ => True) (fun _ => False) hs hx hR hC (fun _ _ h => h) (fun _ hk => hk.elim)
    (fun _ _ => trivial) (Below.refl _ _) hB (by omega) ?_
  intro v1 w1 hown hbw hgr hat
  exact h v1 w1 ⟨hown, hbw, hgr⟩
end
theorem emptyR35 (W : World) (B g : Nat) (hg : B ≤ g) (h : W.heap[g]? = some (.cells #[] 3 (0, 0))) : Kd.R (Kd.int .i64) 3 W B (fun _ => True) (.slice (some ⟨g, 0, none⟩) 0 0) [] :=
  Kd.R_of_own (xs := ([] : List Int)) ⟨rfl, .inr ⟨g, 0, #[], rfl, hg, h, Nat.le_refl _, by simp [maxLen], rfl, rfl⟩⟩ (fun _ _ => trivial)
theorem below_set35 {B g : Nat} {w W : World} (h : Below B w W) (hg : B ≤ g) (j : Nat) (v : Value) : Below B w (W.setCell ⟨g, j, none⟩ v) := h.setCell (p := ⟨g, j, none⟩) hg v
theorem cell_alloc35 {W : World} {a : Addr} {v : Value} (h : W.cell? a = some v) (o : Obj) : (W.alloc o).cell? a = some v := pw_cell_below (below_alloc (Below.refl _ _) o) h
theorem cell_drew35 {W : World} {a : Addr} {v : Value} (h : W.cell? a = some v) : W.drew.cell? a = some v := h
theorem blk_new1 (W : World) (o o' : Obj) : ((W.alloc o).alloc o').heap[W.heap.size + 1]? = some o' := by
  have := blk_new (W.alloc o) o'
  rwa [World.size_alloc] at this
theorem cells4 {W : World} {B t : Nat} {a b c d : Value} (h : W.heap[B]? = some (.cells #[a, b, c, d] t (0, 0))) : (W.cell? ⟨B, 0, none⟩ = some a ∧ W.cell? ⟨B, 1, none⟩ = some b ∧ W.cell? ⟨B, 2, none⟩ = some c ∧ W.cell? ⟨B, 3, none⟩ = some d) ∧
    W.frozen? ⟨B, 0, none⟩ = false ∧ W.frozen? ⟨B, 1, none⟩ = false ∧ W.frozen? ⟨B, 2, none⟩ = false ∧ W.frozen? ⟨B, 3, none⟩ = false :=
  ⟨⟨(blk_cell h 0).trans rfl, (blk_cell h 1).trans rfl, (blk_cell h 2).trans rfl, (blk_cell h 3).trans rfl⟩, blk_frozen h 0, blk_frozen h 1, blk_frozen h 2, blk_frozen h 3⟩
theorem fin35 {W : World} {B g : Nat} {v a b c d : Value} {xs : List Int} (hR : Kd.R (Kd.int .i64) 3 W B (fun _ => True) v xs) (hb : W.heap[g]? = some (.cells #[a, b, c, d] 33 (0, 0))) (hg : B ≤ g) (a' b' c' d' : Value) :
    ((((W.setCell ⟨g, 0, none⟩ a').setCell ⟨g, 1, none⟩ b').setCell ⟨g, 2, none⟩ c').setCell ⟨g, 3, none⟩ d').heap[g]? = some (.cells #[a', b', c', d'] 33 (0, 0)) ∧
    Kd.R (Kd.int .i64) 3 ((((W.setCell ⟨g, 0, none⟩ a').setCell ⟨g, 1, none⟩ b').setCell ⟨g, 2, none⟩ c').setCell ⟨g, 3, none⟩ d') B (fun k => k ≠ g) v xs := by
  have h1 : Kd.R (Kd.int .i64) 3 W B (fun k => k ≠ g) v xs := Kd.R_mono (Kd.R_types hR hb (fun q hq => by simp [Kd.int, Kd.scalar] at hq; subst hq; decide)) (fun _ hk => by first | exact hk.2 | exact hk)
  exact ⟨put4 hb a' b' c' d', Kd.R_far (p := ⟨g, 3, none⟩) (Kd.R_far (p := ⟨g, 2, none⟩) (Kd.R_far (p := ⟨g, 1, none⟩) (Kd.R_far (p := ⟨g, 0, none⟩) h1 (fun _ hk => hk) _) (fun _ hk => hk) _) (fun _ hk => hk) _) (fun _ hk => hk) _⟩
theorem fin35' {W : World} {B : Nat} {v a b d : Value} {xs : List Int} (hB : B ≤ W.heap.size) (hR : Kd.R (Kd.int .i64) 3 W B (fun _ => True) v xs) :
    (W.alloc (.cells #[a, b, v, d] 33)).heap[W.heap.size]? = some (.cells #[a, b, v, d] 33 (0, 0)) ∧ Kd.R (Kd.int .i64) 3 (W.alloc (.cells #[a, b, v, d] 33)) B (fun k => k ≠ W.heap.size) v xs :=
  ⟨blk_new _ _, Kd.R_alloc (Kd.R_mono (Kd.R_bound hR) (fun k hk => by have := hk.2.2.1; omega)) _⟩
theorem R_put35' {W : World} {B n c : Nat} {A : Option Addr} {ok : Nat → Prop} {xs : List Int} (h : Kd.R (Kd.int .i64) 3 W B ok (.slice A n c) xs) (hn : xs.length = n) (h0 : 0 < n) :
    ∃ g, A = some ⟨g, 0, none⟩ ∧ B ≤ g ∧ ok g ∧ ∀ i : Int, 0 ≤ i → i < (n : Int) → W.cell? ⟨g, i.toNat, none⟩ = some (.int .i64 (rd xs i)) ∧ W.frozen? ⟨g, i.toNat, none⟩ = false ∧ ∀ x : Int, Kd.R (Kd.int .i64) 3 (W.setCell ⟨g, i.toNat, none⟩ (.int .i64 x)) B ok (.slice A n c) (xs.set i.toNat x) := by
  have ho := Kd.own_of_R h
  rw [hn] at ho
  obtain ⟨g, rfl⟩ : ∃ g, A = some ⟨g, 0, none⟩ := by
    rcases ho.2 with ⟨h2, _⟩ | ⟨g, cap, cur, h2, _⟩
    · injection h2 with h3 h4 h5; omega
    · injection h2 with h3 h4 h5; exact ⟨g, h3⟩
  have hg : B ≤ g := own_base ho g rfl
  refine ⟨g, rfl, hg, h.1 g rfl, fun i h0 h1 => ?_⟩
  obtain ⟨a1, a2⟩ := own_at ho i h0 h1
  refine ⟨a1, a2, fun x => ?_⟩
  have h3 := (own_store ho i x).1
  refine Kd.R_of_own ?_ h.1
  rw [List.length_set, hn]
  exact h3
/-- The changed answer at its block. -/
def BX35 (N : Nat) (W7 : World) (g : Nat) (W : World) : Prop :=
  ∃ x0 x1 A c bl, W.heap[g]? = some (.cells #[.int .i64 x0, .int .i64 x1, .slice A bl.length c, .slice none 0 0] 33 (0, 0)) ∧ Kd.R (Kd.int .i64) 3 W W7.heap.size (fun k => k ≠ g) (.slice A bl.length c) bl ∧ bl.length ≤ N ∧ Below W7.heap.size W7 W ∧ W7.heap.size ≤ g
theorem BX35.drewN {N : Nat} {W7 W : World} {g : Nat} (h : BX35 N W7 g W) (n : Nat) : BX35 N W7 g (W.drewN n) := by
  obtain ⟨x0, x1, A, c, bl, h1, h2, h3, h4, h5⟩ := h
  exact ⟨x0, x1, A, c, bl, h1, Kd.R_drewN h2 n, h3, pw_below_drewN h4 n, h5⟩
theorem bx35_put {W7 W : World} {g : Nat} {x0 x1 : Int} {A : Option Addr} {c : Nat} {bl : List Int} (h1 : W.heap[g]? = some (.cells #[.int .i64 x0, .int .i64 x1, .slice A bl.length c, .slice none 0 0] 33 (0, 0))) (h2 : Kd.R (Kd.int .i64) 3 W W7.heap.size (fun k => k ≠ g) (.slice A bl.length c) bl) (h3 : bl.length ≤ 500) (h4 : Below W7.heap.size W7 W) (h5 : W7.heap.size ≤ g) :
    (∀ x : Int, BX35 600 W7 g (W.setCell ⟨g, 0, none⟩ (.int .i64 x))) ∧ (∀ x : Int, BX35 600 W7 g (W.setCell ⟨g, 1, none⟩ (.int .i64 x))) ∧
    (∀ x y : Int, BX35 600 W7 g (((W.setCell ⟨g, 0, none⟩ (.int .i64 x)).setCell ⟨g, 1, none⟩ (.int .i64 y)).setCell ⟨g, 2, none⟩ (.slice none 0 0))) := by
  refine ⟨fun x => ⟨x, x1, A, c, bl, blk_put h1 0 _ rfl, Kd.R_far (p := ⟨g, 0, none⟩) h2 (fun _ hk => hk) _, by omega, h4.setCell (p := ⟨g, 0, none⟩) h5 _, h5⟩, fun x => ⟨x0, x, A, c, bl, blk_put h1 1 _ rfl, Kd.R_far (p := ⟨g, 1, none⟩) h2 (fun _ hk => hk) _, by omega, h4.setCell (p := ⟨g, 1, none⟩) h5 _, h5⟩, fun x y => ?_⟩
  exact ⟨x, y, none, 0, [], blk_put (blk_put (blk_put h1 0 _ rfl) 1 _ rfl) 2 _ rfl, Kd.R_nil _ _ _ _ _, by decide, ((h4.setCell (p := ⟨g, 0, none⟩) h5 _).setCell (p := ⟨g, 1, none⟩) h5 _).setCell (p := ⟨g, 2, none⟩) h5 _, h5⟩
theorem ansP_len2 (V : Int → Int) (n : Int) : (ansP V n).between.length ≤ 500 := by
  unfold ansP
  by_cases h : n < 2 ∨ 64 < n
  · rw [if_pos h]; decide
  · rw [if_neg h]
    unfold findP
    split
    · split
      · have h3 := searchP_rng V 64 (scanP V (n - 1).toNat 0 [n - 1]).1 (n - 1) (scanP V (n - 1).toNat 0 [n - 1]).2.1
        have h4 := scanP_ge V (n - 1).toNat 0 [n - 1]
        generalize scanP V (n - 1).toNat 0 [n - 1] = sc at *
        obtain ⟨g', b', ps', hs⟩ : ∃ g' b' ps', searchP V 64 sc.1 (n - 1) sc.2.1 = (g', b', ps') := ⟨_, _, _, rfl⟩
        rw [hs] at h3 ⊢
        dsimp only at h3
        show (betw g' b').length ≤ 500
        rw [betw_length]; omega
      · decide
    · decide
set_option maxHeartbeats 8000000 in
set_option maxRecDepth 100000 in
theorem BisectCheck_any (A0 : Option Addr) (c0 : Nat) (l : List Int) (n cut how by_ : Int) (w : World) (hR0 : Kd.C (Kd.int .i64) w A0 l.length l) (hc0 : l.length ≤ c0) (hx0 : ∀ x ∈ l, -9223372036854775808 ≤ x ∧ x ≤ 9223372036854775807)
    (hn : -9223372036854775808 ≤ n ∧ n ≤ 9223372036854775807) (hcut : -9223372036854775808 ≤ cut ∧ cut ≤ 9223372036854775807) (hhow : -9223372036854775808 ≤ how ∧ how ≤ 9223372036854775807) (hby : -9223372036854775808 ≤ by_ ∧ by_ ≤ 9223372036854775807) :
    Calls Try.prog 5 #[.slice A0 l.length c0, .int .i64 n, .int .i64 cut, .int .i64 how, .int .i64 by_] w fun e w' => e = .returned (.bool true) ∧ Below w.heap.size w w' := by
  have HR0 := Aside0.mk hR0
  have HC0 := Aside0.mk hc0
  have HX0 := Aside0.mk hx0
  have HN := Aside0.mk hn
  have HCUT := Aside0.mk hcut
  have HHOW := Aside0.mk hhow
  have HBY := Aside0.mk hby
  clear hR0 hc0 hx0 hn hcut hhow hby
  go_enter Try.func5, Try.ntmps5
  go_upto_region 2 with (first
    | (go_at_call 7; refine (Around_any n 14 _ (by decide) HN.out).mono ?_; rintro e w1 ⟨m0, rfl, hm0, hm1, ⟨n1, rfl⟩⟩))
  obtain ⟨m, rfl⟩ : ∃ m : Nat, m0 = (m : Int) := ⟨m0.toNat, by omega⟩
  have hm14 : m < 14 := by omega
  have HB1 : Aside0 (Below w.heap.size w (w.drewN n1)) := ⟨pw_below_drewN (Below.refl _ _) _⟩
  clear hm1
  go_upto_if 29 with (first
    | (go_at_call 7; refine (Around_any cut ((m : Int) + 1) _ (by omega) HCUT.out).mono ?_; rintro e w2 ⟨cu, rfl, hcu0, hcu1, ⟨n2, rfl⟩⟩; have HB2 : Aside0 (Below w.heap.size w (w.drewN (n1 + n2))) := ⟨pw_below_drewN (Below.refl _ _) _⟩)
    | (go_at_call 8; refine (Verdicts_any A0 c0 l (m : Int) cu _ (Kd.C_below HR0.out HB2.out) HC0.out HX0.out (by omega) (by omega)).mono ?_; rintro e w3 ⟨v3, xs, rfl, hl, hR, hB⟩; obtain ⟨Av, cv, e3, -, -⟩ := Kd.R_reads hR
       have hm : xs.length = m := by omega
       rw [hm] at e3; subst e3
       have HM := Aside0.mk hm; clear hm
       have HR3 := Aside0.mk (Kd.R_lower hR HB2.out.size); have HB3 := Aside0.mk (HB2.out.trans (hB.mono HB2.out.size)); clear hR hB hl))
  go_cut [] from 29 (fun wx => ∃ ys : List Int, Aside0 (ys.length = m) ∧ Aside0 (Kd.C (Kd.int .i64) wx Av ys.length ys) ∧ Aside0 (Below w.heap.size w wx))
  case first =>
    by_cases hm1 : 0 < m
    · have dm : decide (0 < m) = true := decide_eq_true hm1
      obtain ⟨gv, hA, hgv, hcell, hfr, hput⟩ := R_put35 HR3.out HM.out ((m : Int) - 1) (by omega) (by omega)
      have hR4 := hput 1
      rw [show ((m : Int) - 1).toNat = m - 1 by omega] at hcell hfr hR4
      have HR4 := Aside0.mk hR4
      have HG := Aside0.mk hgv
      clear hput hR4 hgv
      subst hA
      go_wp2
      go_meet
      refine ⟨xs.set (m - 1) 1, ⟨by rw [List.length_set]; exact HM.out⟩, ?_, ⟨HB3.out.setCell (p := ⟨gv, m - 1, none⟩) HG.out _⟩⟩
      obtain ⟨A3, c3, e3, hlc, hC⟩ := Kd.R_reads HR4.out
      injection e3 with e3 e4 e5
      subst e3
      exact ⟨hC⟩
    · have dm : decide (0 < m) = false := decide_eq_false hm1
      go_wp2
      go_meet
      obtain ⟨A3, c3, e3, hlc, hC⟩ := Kd.R_reads HR3.out
      injection e3 with e3 e4 e5
      subst e3
      exact ⟨xs, HM, ⟨hC⟩, HB3⟩
  case rest =>
    clear HM HR3 HB3
    obtain ⟨ys, HM, HC3, HB3⟩ := hcut
    have hlen := ansP_len (vd ys) (m : Int)
    have hlen2 := ansP_len2 (vd ys) (m : Int)
    obtain ⟨an, han⟩ : ∃ an, ansP (vd ys) (m : Int) = an := ⟨_, rfl⟩
    obtain ⟨ag, ab, abt, aps, ae⟩ := an
    rw [han] at hlen hlen2
    have HAN := Aside0.mk han
    have HLA : Aside0 (abt.length ≤ 500 ∧ aps.length ≤ 1000) := ⟨hlen2, hlen.2⟩
    clear han hlen hlen2
    go_upto_region 6 with (first
      | (go_at_call 12; have hp := RFind_any Av cv ys wc HC3.out; rw [HM.out] at hp; refine hp.mono ?_; clear hp; intro e w7 hR; rw [HAN.out] at hR; obtain ⟨A4, k4, A5, k5, rfl, l4, c4, l5, c5, hB⟩ := hR
         have HC4 := Aside0.mk c4; have HC5 := Aside0.mk c5; have HL4 := Aside0.mk l4; have HL5 := Aside0.mk l5; have HB7 := Aside0.mk hB; clear c4 c5 l4 l5 hB))
    obtain ⟨W7, hW7⟩ : ∃ W7, w7.alloc (.cells #[.int .i64 ag, .int .i64 ab, .slice A4 abt.length k4, .slice A5 aps.length k5] 33) = W7 := ⟨_, rfl⟩
    have hb13 : W7.heap[w7.heap.size]? = some (.cells #[.int .i64 ag, .int .i64 ab, .slice A4 abt.length k4, .slice A5 aps.length k5] 33 (0, 0)) := by rw [← hW7]; exact blk_new _ _
    have hB7 : Below w7.heap.size w7 W7 := by rw [← hW7]; exact below_alloc (Below.refl _ _) _
    rw [hW7]
    have HC4 := Aside0.mk (Kd.C_below HC4.out hB7)
    have HC5 := Aside0.mk (Kd.C_below HC5.out hB7)
    have HBcW := Aside0.mk (HB7.out.trans (hB7.mono HB7.out.size))
    generalize w7.heap.size = b13 at hb13 ⊢
    have HB13 := Aside0.mk hb13
    have HF : Aside0 (∀ W, Below W7.heap.size W7 W → W.cell? ⟨b13, 0, none⟩ = some (.int .i64 ag) ∧ W.cell? ⟨b13, 1, none⟩ = some (.int .i64 ab) ∧ W.cell? ⟨b13, 2, none⟩ = some (.slice A4 abt.length k4) ∧ W.cell? ⟨b13, 3, none⟩ = some (.slice A5 aps.length k5)) := ⟨fun W hW => by
      have h := blk_below hb13 hW
      exact ⟨(blk_cell h 0).trans rfl, (blk_cell h 1).trans rfl, (blk_cell h 2).trans rfl, (blk_cell h 3).trans rfl⟩⟩
    clear hb13 hB7 hW7 HB7
    go_cut [15] from 39 (fun v15 wx => ∃ (b15 : Nat) (v2 : Value), v15 = .pointer (some ⟨b15, 0, none⟩) ∧ W7.heap.size ≤ b15 ∧ Aside0 (wx.heap[b15]? = some (.cells #[.int .i64 ag, .int .i64 ab, v2, .slice none 0 0] 33 (0, 0)) ∧ Kd.R (Kd.int .i64) 3 wx W7.heap.size (fun k => k ≠ b15) v2 abt ∧ Below W7.heap.size W7 wx))
    case first =>
      obtain ⟨a0, a1, a2, -⟩ := HF.out W7 (Below.refl _ _)
      go_region_held3 (fun W' => W'.cell? ⟨b13, 0, none⟩ = some (.int .i64 ag) ∧ W'.cell? ⟨b13, 1, none⟩ = some (.int .i64 ab) ∧ W'.cell? ⟨b13, 2, none⟩ = some (.slice A4 abt.length k4)) (first | exact ⟨(HF.out _ (by repeat (with_reducible first | exact Below.refl _ _ | exact HBW1.out | refine below_drew ?_ | refine below_alloc ?_ _ | refine below_set35 ?_ (by first | exact Nat.le_refl _ | exact Nat.le_add_right _ _) _ _))).1, (HF.out _ (by repeat (with_reducible first | exact Below.refl _ _ | exact HBW1.out | refine below_drew ?_ | refine below_alloc ?_ _ | refine below_set35 ?_ (by first | exact Nat.le_refl _ | exact Nat.le_add_right _ _) _ _))).2.1, (HF.out _ (by repeat (with_reducible first | exact Below.refl _ _ | exact HBW1.out | refine below_drew ?_ | refine below_alloc ?_ _ | refine below_set35 ?_ (by first | exact Nat.le_refl _ | exact Nat.le_add_right _ _) _ _))).2.2.1⟩)
        (first
          | (refine appLstep35 W7.heap.size _ (by rfl) (.tmp 43) (.tmp 45) (by rfl) _ [] abt A4 k4 (by rfl) (by rfl) (by simp; try omega) (emptyR35 _ _ _ (by omega) (by first | exact blk_new W7 _ | exact blk_alloc (blk_new W7 _) _ | exact blk_new1 W7 _ _)) (Kd.C_below HC4.out (by repeat (with_reducible first | exact Below.refl _ _ | exact HBW1.out | refine below_drew ?_ | refine below_alloc ?_ _ | refine below_set35 ?_ (by first | exact Nat.le_refl _ | exact Nat.le_add_right _ _) _ _))) (by have := HLA.out.1; simp only [List.length_nil]; omega) ?_
             intro v1 w1 HA
             have hbw1 : Below W7.heap.size W7 w1 := Below.trans (by repeat (with_reducible first | exact Below.refl _ _ | refine below_drew ?_ | refine below_alloc ?_ _)) HA.out.2.1
             have HBW1 := Aside0.mk hbw1
             clear hbw1
             obtain ⟨e0, e1, e2, -⟩ := HF.out w1 HBW1.out
             obtain ⟨A15, c15, e15, -, -⟩ := Kd.R_reads HA.out.1
             subst e15
             first
               | (have hb15 : w1.heap[W7.heap.size + 1]? = some (.cells #[.int .i64 0, .int .i64 0, .slice none 0 0, .slice none 0 0] 33 (0, 0)) := blk_grown (by exact blk_new1 W7 _ _) HA.out.2.2 (by simp [Value.ownBlock])
                  obtain ⟨⟨z0, z1, z2, z3⟩, y0, y1, y2, y3⟩ := cells4 hb15
                  have HB15 := Aside0.mk hb15
                  clear hb15)
               | (have hb15 : w1.heap[W7.heap.size]? = some (.cells #[.int .i64 0, .int .i64 0, .slice none 0 0, .slice none 0 0] 33 (0, 0)) := blk_grown (by exact blk_alloc (blk_new W7 _) _) HA.out.2.2 (by simp [Value.ownBlock])
                  obtain ⟨⟨z0, z1, z2, z3⟩, y0, y1, y2, y3⟩ := cells4 hb15
                  have HB15 := Aside0.mk hb15
                  clear hb15)
               | skip))
      all_goals go_wp2
      all_goals go_meet
      all_goals have HA1 := HA.out.1
      all_goals rw [List.nil_append] at HA1
      · exact ⟨w1.heap.size, _, rfl, HBW1.out.size, ⟨(fin35' HBW1.out.size HA1).1, (fin35' HBW1.out.size HA1).2, HBW1.out.alloc HBW1.out.size _⟩⟩
      · exact ⟨W7.heap.size + 1, _, rfl, Nat.le_add_right _ _, ⟨(fin35 HA1 HB15.out (Nat.le_add_right _ _) _ _ _ _).1, (fin35 HA1 HB15.out (Nat.le_add_right _ _) _ _ _ _).2, HBW1.out.trans (below4 (Nat.le_add_right _ _) _ _ _ _ _)⟩⟩
      · exact ⟨W7.heap.size, _, rfl, Nat.le_refl _, ⟨(fin35 HA1 HB15.out (Nat.le_refl _) _ _ _ _).1, (fin35 HA1 HB15.out (Nat.le_refl _) _ _ _ _).2, HBW1.out.trans (below4 (Nat.le_refl _) _ _ _ _ _)⟩⟩
    case rest =>
      obtain ⟨b15, v2, rfl, hb15W, HX⟩ := hcut
      go_upto_block 0 with (first
        | (go_at_call 7; refine (Around_any how 5 _ (by decide) HHOW.out).mono ?_; rintro e w9 ⟨h, rfl, hh0, hh1, ⟨n9, rfl⟩⟩))
      have hBX : BX35 500 W7 b15 (wc.drewN n9) := by
        obtain ⟨h1, h2, h3⟩ := HX.out
        obtain ⟨A, c, rfl, -, -⟩ := Kd.R_reads h2
        exact BX35.drewN ⟨ag, ab, A, c, abt, h1, h2, by have := HLA.out.1; omega, h3, hb15W⟩ n9
      have HBX := Aside0.mk hBX
      clear hBX HX
      generalize wc.drewN n9 = w9 at *
      go_cut [] from 50 (fun wx => Aside0 (BX35 600 W7 b15 wx))
      case first =>
        obtain ⟨x0, x1, A6, c6, bl, h1, h2, h3, h4, h5⟩ := HBX.out
        obtain ⟨⟨z0, z1, z2, z3⟩, y0, y1, y2, y3⟩ := cells4 h1
        obtain ⟨P0, P1, P3⟩ := bx35_put h1 h2 h3 h4 h5
        have HP0 := Aside0.mk P0
        have HP1 := Aside0.mk P1
        have HP3 := Aside0.mk P3
        have H1 := Aside0.mk h1
        have H2 := Aside0.mk h2
        have H4 := Aside0.mk h4
        have H5 := Aside0.mk h5
        have H3 := Aside0.mk h3
        clear P0 P1 P3 h1 h2 h3 h4 h5
        rcases (by omega : h = 0 ∨ h = 1 ∨ h = 2 ∨ h = 3 ∨ h = 4) with rfl | rfl | rfl | rfl | rfl
        · go_wp2_with (first
            | (go_at_call 7; refine (Around_any by_ 16 _ (by decide) HBY.out).mono ?_; rintro e w10 ⟨s, rfl, hs0, hs1, ⟨n10, rfl⟩⟩))
          go_meet
          exact ⟨BX35.drewN (HP0.out (s - 1)) n10⟩
        · go_wp2_with (first
            | (go_at_call 7; refine (Around_any by_ 16 _ (by decide) HBY.out).mono ?_; rintro e w10 ⟨s, rfl, hs0, hs1, ⟨n10, rfl⟩⟩))
          go_meet
          exact ⟨BX35.drewN (HP1.out (s - 1)) n10⟩
        · go_wp2_with (first
            | ((with_reducible refine gate_builtin (b := .append) (xs := #[.tmp 65, .tmp 67]) rfl ?_); at_builtin
               refine app_b W7.heap.size b15 33 w9 rfl (.tmp 65) (.tmp 67) rfl _ bl by_ rfl rfl _ _ _ H1.out H5.out H2.out (by have := H3.out; omega) ?_
               intro A9 k9 w10 hc1 hf1 HF2))
          go_meet
          refine ⟨⟨x0, x1, A9, k9, bl ++ [by_], ?_⟩⟩
          rw [List.length_append, List.length_singleton]
          exact ⟨HF2.out.1, HF2.out.2.1, by have := H3.out; omega, H4.out.trans HF2.out.2.2, H5.out⟩
        · go_wp2_with (first
            | (go_at_call 7; refine (Around_any by_ 16 _ (by decide) HBY.out).mono ?_; rintro e w10 ⟨s, rfl, hs0, hs1, ⟨n10, rfl⟩⟩))
          go_meet
          exact ⟨BX35.drewN (HP3.out _ _) n10⟩
        · by_cases hl0 : 0 < bl.length
          · have dl : decide (0 < bl.length) = true := decide_eq_true hl0
            obtain ⟨g6, hA6, hg6, hne6, hput⟩ := R_put35' H2.out rfl hl0
            subst hA6
            have HPUT : Aside0 (∀ i : Int, 0 ≤ i → i < (bl.length : Int) → w9.cell? ⟨g6, i.toNat, none⟩ = some (.int .i64 (rd bl i)) ∧ w9.frozen? ⟨g6, i.toNat, none⟩ = false ∧ ∀ x : Int, BX35 600 W7 b15 (w9.setCell ⟨g6, i.toNat, none⟩ (.int .i64 x))) := ⟨fun i h0 h1 => by
              obtain ⟨q1, q2, q3⟩ := hput i h0 h1
              refine ⟨q1, q2, fun x => ⟨x0, x1, some ⟨g6, 0, none⟩, c6, bl.set i.toNat x, ?_, ?_, by rw [List.length_set]; have := H3.out; omega, H4.out.setCell (p := ⟨g6, i.toNat, none⟩) hg6 _, H5.out⟩⟩
              · rw [List.length_set]; exact blk_far H1.out (p := ⟨g6, i.toNat, none⟩) (fun e => hne6 e.symm) _
              · rw [List.length_set]; exact q3 x⟩
            have hnb : b15 ≠ g6 := fun e => hne6 e.symm
            clear hput hg6 hne6
            have hbl0 : (0 : Int) < (bl.length : Int) := by omega
            go_upto_region 20 with fail
            go_region_held3 (fun W' => W'.cell? ⟨b15, 2, none⟩ = some (.slice (some ⟨g6, 0, none⟩) bl.length c6)) (first | exact z2 | exact (cell_far (W := w9) (p := ⟨g6, _, none⟩) (a := ⟨b15, 2, none⟩) hnb _).trans z2)
              (first
                | (go_at_call_of 7 (Value.int .i64 16); refine (Around_any how 16 _ (by decide) HHOW.out).mono ?_; rintro e w11 ⟨s2, rfl, hs20, hs21, ⟨n11, rfl⟩⟩)
                | (go_at_call 7; refine (Around_any by_ (bl.length : Int) _ hbl0 HBY.out).mono ?_; rintro e w10 ⟨s, rfl, hs0, hs1, ⟨n10, rfl⟩⟩; obtain ⟨q1, q2, q3⟩ := HPUT.out s hs0 hs1; have HQ3 := Aside0.mk q3; clear q3))
            go_wp2
            go_meet
            exact ⟨BX35.drewN (HQ3.out s2) _⟩
          · have dl : decide (0 < bl.length) = false := decide_eq_false hl0
            go_wp2
            go_meet
            obtain ⟨x0, x1, A, c, bl, h1, h2, h3, h4, h5⟩ := HBX.out
            exact ⟨⟨x0, x1, A, c, bl, h1, h2, by omega, h4, h5⟩⟩
      case rest =>
        obtain ⟨x0, x1, A6, c6, bl, h1, h2, h3, h4, h5⟩ := hcut.out
        obtain ⟨⟨z0, z1, z2, z3⟩, -⟩ := cells4 h1
        obtain ⟨q0, q1, q2, q3⟩ := HF.out wc h4
        have hC6 := (Kd.R_reads' h2).2.2
        have HC6 := Aside0.mk hC6
        have HC4' := Aside0.mk (Kd.C_below HC4.out h4)
        have HBW := Aside0.mk (HB3.out.trans ((HBcW.out.trans (h4.mono HBcW.out.size)).mono HB3.out.size))
        have HC3' := Aside0.mk (Kd.C_below HC3.out (HBcW.out.trans (h4.mono HBcW.out.size)))
        clear h1 h2 h3 h4 h5 hC6 hcut HBX HC3 HC4 HC5 HBcW HB3 HF
        obtain ⟨WL, hWL⟩ : ∃ WL, wc.alloc (.cells #[.int .i64 ag, .int .i64 ab, .slice A4 abt.length k4, .slice A5 aps.length k5, .int .i64 x0, .int .i64 x1, .slice A6 bl.length c6, .slice none 0 0, .int .i64 0, .int .i64 0, .slice none 0 0, .slice none 0 0] 33) = WL := ⟨_, rfl⟩
        go_upto_block 1 with fail
        try rw [hWL]
        have hbL : WL.heap[wc.heap.size]? = some (.cells #[.int .i64 ag, .int .i64 ab, .slice A4 abt.length k4, .slice A5 aps.length k5, .int .i64 x0, .int .i64 x1, .slice A6 bl.length c6, .slice none 0 0, .int .i64 0, .int .i64 0, .slice none 0 0, .slice none 0 0] 33 (0, 0)) := by rw [← hWL]; exact blk_new _ _
        have hBL : Below wc.heap.size wc WL := by rw [← hWL]; exact below_alloc (Below.refl _ _) _
        have HC6L := Aside0.mk (Kd.C_below HC6.out hBL)
        have HC4L := Aside0.mk (Kd.C_below HC4'.out hBL)
        have HC3L := Aside0.mk (Kd.C_below HC3'.out hBL)
        have HBWL := Aside0.mk (HBW.out.trans (hBL.mono HBW.out.size))
        generalize wc.heap.size = bL at hbL ⊢
        have HBL := Aside0.mk hbL
        clear hWL hbL hBL HC6 HC4' HC3' HBW q0 q1 q2 q3 z0 z1 z2 z3
        have HSEL : Aside0 (∀ k : Nat, k < 3 → ∃ (g b : Int) (A : Option Addr) (c : Nat) (lst : List Int) (v3 : Value), Kd.C (Kd.int .i64) WL A lst.length lst ∧ ∀ W, Below WL.heap.size WL W →
            W.cell? ⟨bL, k * 4, none⟩ = some (.int .i64 g) ∧ W.cell? ⟨bL, k * 4 + 1, none⟩ = some (.int .i64 b) ∧ W.cell? ⟨bL, k * 4 + 2, none⟩ = some (.slice A lst.length c) ∧ W.cell? ⟨bL, k * 4 + 3, none⟩ = some v3 ∧ ∃ A' n' c', v3 = .slice A' n' c') := ⟨fun k hk => by
          have key : ∀ W, Below WL.heap.size WL W → ∀ j, W.cell? ⟨bL, j, none⟩ = (#[.int .i64 ag, .int .i64 ab, .slice A4 abt.length k4, .slice A5 aps.length k5, .int .i64 x0, .int .i64 x1, .slice A6 bl.length c6, .slice none 0 0, .int .i64 0, .int .i64 0, .slice none 0 0, .slice none 0 0] : Array Value)[j]? := fun W hW j => blk_cell (blk_below HBL.out hW) j
          rcases (by omega : k = 0 ∨ k = 1 ∨ k = 2) with rfl | rfl | rfl
          · exact ⟨ag, ab, A4, k4, abt, _, HC4L.out, fun W hW => ⟨key W hW 0, key W hW 1, key W hW 2, key W hW 3, _, _, _, rfl⟩⟩
          · exact ⟨x0, x1, A6, c6, bl, _, HC6L.out, fun W hW => ⟨key W hW 4, key W hW 5, key W hW 6, key W hW 7, _, _, _, rfl⟩⟩
          · exact ⟨0, 0, none, 0, [], _, C_none _, fun W hW => ⟨key W hW 8, key W hW 9, key W hW 10, key W hW 11, _, _, _, rfl⟩⟩⟩
        clear HBL HC6L HC4L
        go_cut [17] from 101 (fun v17 wx => Aside0 (Below WL.heap.size WL wx))
        case first =>
          go_wp2_with fail
          go_loopw [17] (fun v17 wr => ∃ k : Nat, v17 = .int .i64 (k : Int) ∧ k ≤ 3 ∧ Aside0 (Below WL.heap.size WL wr)) (fun v17 _ => 3 - (intOf v17).toNat)
          case atStart => exact ⟨0, rfl, by omega, ⟨Below.refl _ _⟩⟩
          case round =>
            obtain ⟨k, rfl, hk, HB⟩ := hrel
            by_cases hlt : k < 3
            · have dk : decide (k < 3) = true := decide_eq_true hlt
              obtain ⟨g, b, A, c, lst, v3, hC, hsel⟩ := HSEL.out k hlt
              obtain ⟨q0, q1, q2, q3, A', n', c', rfl⟩ := hsel wr HB.out
              have HSE := Aside0.mk hsel
              have HC := Aside0.mk hC
              have hk0 : (0 : Int) ≤ (k : Int) := by omega
              have hk3 : (k : Int) < 3 := by omega
              clear hsel hC
              go_upto_region 25 with fail
              go_region_held3 (fun W' => W'.cell? ⟨bL, k * 4, none⟩ = some (.int .i64 g) ∧ W'.cell? ⟨bL, k * 4 + 1, none⟩ = some (.int .i64 b) ∧ W'.cell? ⟨bL, k * 4 + 2, none⟩ = some (.slice A lst.length c) ∧ W'.cell? ⟨bL, k * 4 + 3, none⟩ = some (.slice A' n' c'))
                (refine ⟨?_, ?_, ?_, ?_⟩ <;> (repeat (with_reducible first | exact q0 | exact q1 | exact q2 | exact q3 | refine cell_drew35 ?_ | refine cell_alloc35 ?_ _)))
                (fail)
              obtain ⟨WX, hWX⟩ : ∃ WX, (wr.alloc (.cells #[.int .i64 g, .int .i64 b, .slice A lst.length c, .slice A' n' c'] 27)).drew = WX := ⟨_, rfl⟩
              have hbX : WX.heap[wr.heap.size]? = some (.cells #[.int .i64 g, .int .i64 b, .slice A lst.length c, .slice A' n' c'] 27 (0, 0)) := by rw [← hWX]; exact blk_new _ _
              have hBX : Below WL.heap.size WL WX := by rw [← hWX]; exact below_drew (below_alloc HB.out _)
              rw [hWX]
              generalize wr.heap.size = b18 at hbX ⊢
              have HBX := Aside0.mk hBX
              have HALL : Aside0 (∀ W, Below WX.heap.size WX W → W.cell? ⟨b18, 0, none⟩ = some (.int .i64 g) ∧ W.cell? ⟨b18, 1, none⟩ = some (.int .i64 b) ∧ W.cell? ⟨b18, 2, none⟩ = some (.slice A lst.length c) ∧ W.cell? ⟨b18, 3, none⟩ = some (.slice A' n' c') ∧ W.cell? ⟨bL, k * 4, none⟩ = some (.int .i64 g) ∧ W.cell? ⟨bL, k * 4 + 1, none⟩ = some (.int .i64 b) ∧ W.cell? ⟨bL, k * 4 + 2, none⟩ = some (.slice A lst.length c) ∧ W.cell? ⟨bL, k * 4 + 3, none⟩ = some (.slice A' n' c')) := ⟨fun W hW => by
                have h := blk_below hbX hW
                obtain ⟨f0, f1, f2, f3, -⟩ := HSE.out W (hBX.trans (hW.mono hBX.size))
                exact ⟨(blk_cell h 0).trans rfl, (blk_cell h 1).trans rfl, (blk_cell h 2).trans rfl, (blk_cell h 3).trans rfl, f0, f1, f2, f3⟩⟩
              have HCX := Aside0.mk (Kd.C_below HC.out hBX)
              have HVX := Aside0.mk (Kd.C_below HC3L.out hBX)
              clear q0 q1 q2 q3 hWX hbX hBX
              obtain ⟨r, hr⟩ : ∃ r, checkP (vd ys) (m : Int) g b lst = r := ⟨_, rfl⟩
              have HRR := Aside0.mk hr
              clear hr
              have hp := BisOut.probe_c Av cv ys (WX.drewN 1) (Kd.C_drewN HVX.out 1)
              rw [HM.out] at hp
              have HP := Aside0.mk hp
              clear hp
              have HQ : Aside0 (∀ W, Below WX.heap.size WX W → Calls Try.prog 16 #[.slice Av m cv, .agg #[.int .i64 g, .int .i64 b, .slice A lst.length c, .slice A' n' c']] W fun e w' => e = .returned (.int .i64 r) ∧ Below W.heap.size W w') := ⟨fun W hW => by
                have h := BisRChk.RCheck_c Av cv ys lst g b A c (.slice A' n' c') W (Kd.C_below HVX.out hW) (Kd.C_below HCX.out hW) (by rw [HM.out]; omega)
                rw [HM.out, HRR.out] at h
                exact h⟩
              obtain ⟨q0, q1, q2, q3, q4, q5, q6, q7⟩ := HALL.out WX (Below.refl _ _)
              have hrr : (r != r) = false := by simp
              go_upto_region 26 with fail
              go_region_held3 (fun W' => W'.cell? ⟨b18, 0, none⟩ = some (.int .i64 g) ∧ W'.cell? ⟨b18, 1, none⟩ = some (.int .i64 b) ∧ W'.cell? ⟨b18, 2, none⟩ = some (.slice A lst.length c) ∧ W'.cell? ⟨b18, 3, none⟩ = some (.slice A' n' c') ∧ W'.cell? ⟨bL, k * 4, none⟩ = some (.int .i64 g) ∧ W'.cell? ⟨bL, k * 4 + 1, none⟩ = some (.int .i64 b) ∧ W'.cell? ⟨bL, k * 4 + 2, none⟩ = some (.slice A lst.length c) ∧ W'.cell? ⟨bL, k * 4 + 3, none⟩ = some (.slice A' n' c')) (first | exact ⟨q0, q1, q2, q3, q4, q5, q6, q7⟩ | exact ⟨a0, a1, a2, a3, a4, a5, a6, a7⟩ | exact ⟨e0, e1, e2, e3, e4, e5, e6, e7⟩ | exact ⟨i0, i1, i2, i3, i4, i5, i6, i7⟩ | exact ⟨o0, o1, o2, o3, o4, o5, o6, o7⟩)
                (first
                  | (go_at_call 11; refine HP.out.mono ?_; rintro e w17 ⟨B2, rfl, hL, hB⟩; have hB := (pw_below_drewN (Below.refl WX.heap.size WX) 1).trans (hB.mono (Nat.le_refl _)); obtain ⟨a0, a1, a2, a3, a4, a5, a6, a7⟩ := HALL.out _ hB; have HL17 := Aside0.mk hL; have HB17 := Aside0.mk hB; clear hL hB)
                  | (go_at_call_of 15 Value.nilFunc; refine (BisChk.Check_nil (m : Int) g b (.slice A lst.length c) (.slice A' n' c') _).mono ?_; rintro e w20 ⟨rfl, hB⟩; have hB := HB19.out.trans (hB.mono HB19.out.size); obtain ⟨o0, o1, o2, o3, o4, o5, o6, o7⟩ := HALL.out _ hB; have HB20 := Aside0.mk hB; clear hB)
                  | (go_at_call 15; have hc := BisChk.Check_c B2 ys lst (m : Int) g b A c (.slice A' n' c') w17 HL17.out (Kd.C_below HCX.out HB17.out); rw [HRR.out] at hc; refine hc.mono ?_; clear hc; rintro e w18 ⟨rfl, hB⟩; have hB := HB17.out.trans (hB.mono HB17.out.size); obtain ⟨e0, e1, e2, e3, e4, e5, e6, e7⟩ := HALL.out _ hB; have HB18 := Aside0.mk hB; clear hB)
                  | (go_at_call 16; refine (HQ.out _ HB18.out).mono ?_; rintro e w19 ⟨rfl, hB⟩; have hB := HB18.out.trans (hB.mono HB18.out.size); obtain ⟨i0, i1, i2, i3, i4, i5, i6, i7⟩ := HALL.out _ hB; have HB19 := Aside0.mk hB; clear hB))
              go_wp2
              exact ⟨⟨k + 1, by simp, by omega, ⟨HBX.out.trans (HB20.out.mono HBX.out.size)⟩⟩, by simp [intOf]; omega⟩
            · have dk : decide (k < 3) = false := decide_eq_false hlt
              go_wp2
              go_meet
              exact HB
        case rest =>
          have HLV := fun W => refuterlaw35_lives.calls true W rfl
          go_wp2_with (first
            | (go_at_call 14; refine (HLV _).mono ?_; rintro e w12 ⟨rfl, hB⟩; have HB12 := Aside0.mk ((HBWL.out.trans (hcut.out.mono HBWL.out.size)).trans (hB.mono (HBWL.out.trans (hcut.out.mono HBWL.out.size)).size)); clear hB))
          go_ret
          exact ⟨rfl, HB12.out⟩
theorem refuterlaw35_BisectCheck.walk (P : refuterlaw35_BisectCheck.Pure) (a0 : Option Addr) (len0 cap0 : Nat) (z0 : List Int) (a1 a2 a3 a4 : Int) (w : World) (w0 : (a0 = none ∧ len0 = 0 ∧ cap0 = 0 ∧ z0 = []) ∨ ∃ x, a0 = some x ∧ len0 ≤ cap0 ∧ cap0 ≤ maxLen ∧ z0.length = cap0 ∧ (∀ i, i < z0.length → w.cell? (x.add i) = some (.int .i64 (z0.getD i 0))) ∧ ∀ n ∈ z0, (Lit.int .i64 n).wf = true) (_y0 : len0 * 8 ≤ 140737488351232) (w1 : (Lit.int .i64 a1).wf = true) (w2 : (Lit.int .i64 a2).wf = true) (w3 : (Lit.int .i64 a3).wf = true) (w4 : (Lit.int .i64 a4).wf = true) :
    Calls Try.prog 5 #[.slice a0 len0 cap0, .int .i64 a1, .int .i64 a2, .int .i64 a3, .int .i64 a4] w fun e w' => e = .returned (.bool true) ∧ Below w.heap.size w w' := by
  obtain ⟨l, rfl, hr0, hm0, hw0, hc0⟩ := ReadsInt.ofRowC w0
  have h1 := bounds_i64 w1
  have h2 := bounds_i64 w2
  have h3 := bounds_i64 w3
  have h4 := bounds_i64 w4
  exact BisectCheck_any a0 cap0 l a1 a2 a3 a4 w (Kd.C_of_reads (d := (0 : Int)) (h1 := fun _ => rfl) hr0) hc0 (fun x hx => by have := bounds_i64 (hw0 x hx); omega) (by omega) (by omega) (by omega) (by omega)

/-! ### refuterlaw35_BisectEdit: function 6 -/
def refuterlaw35_BisectEdit.Pure : Prop := True
section
variable {ops : Array Oper} {rest : List Oper} {o : Oper} {a : Act} {Q : Exit → Act → World → Prop}
/-- append(xs, ys...) to a row of one's own, behind 'at_builtin'. -/
theorem appL35 (B : Nat) (wr : World) (hgd : o.guard = none) (s x : Operand) (ho : o.op = .call { callee := .builtin .append, args := #[s, x], argTypes := #[22, 22] })
    (v : Value) (cs ys : List Int) (A : Option Addr) (c : Nat) (hs : a.eval s = v) (hx : a.eval x = .slice A ys.length c) (hB : B ≤ wr.heap.size) (hR : Kd.R (Kd.int .i64) 3 wr B (fun _ => True) v cs) (hC : Kd.C (Kd.int .i64) wr A ys.length ys) (hl : cs.length + ys.length ≤ 10000)
    (h : ∀ v1 w1, Aside0 (Kd.R (Kd.int .i64) 3 w1 B (fun _ => True) v1 (cs ++ ys) ∧ Below B wr w1) → wpList Try.prog ops Q rest (a.put o.dst v1) w1) :
    wpList Try.prog ops Q (o :: rest) a wr := by
  refine Kd.R_append_rows (Kd.int .i64) (w0 := wr) B hgd s x 22 3 (.int .i64 0) 8 ho Try.underlying22 info_i64 rfl (by decide) (by decide) v cs ys A ys.length c (fun _ => True) (fun _ => False) hs hx hR hC (fun _ _ h => h) (fun _ hk => hk.elim)
    (fun _ _ => trivial) (Below.refl _ _) hB (by omega) ?_
  intro v1 w1 hown hbw hgr hat
  exact h v1 w1 ⟨hown, hbw⟩
end
/-- What the search of the law finds. -/
theorem edit35 (xs : List Int) (m : Nat) (h2 : 2 ≤ m) (h64 : m ≤ 64) (hl : xs.length = m) :
    ansP (vd xs) m = ⟨0, 0, [], [], 25⟩ ∨ ∃ g b ps, ansP (vd xs) m = ⟨g, b, betw g b, ps, 0⟩ ∧ 0 ≤ g ∧ g < b ∧ b < m ∧ ps.Nodup ∧ (∀ x ∈ [g, b] ++ betw g b, x ∈ ps) ∧ checkP (vd xs) m g b (betw g b) = 0 ∧ ((∀ j : Nat, j < m → (rd xs j = 0 ∨ rd xs j = 1)) → b = g + 1) := by
  cases hf : findP (vd xs) m with
  | none => left; unfold ansP; rw [if_neg (by omega), hf]; rfl
  | some T =>
    obtain ⟨g, b, ps⟩ := T
    right
    obtain ⟨hi, hn⟩ := findP_inv (fun i => vd_cases xs i) (by omega) (by omega) hf
    refine ⟨g, b, ps, ?_, hi.g0, hi.gb, hi.bn, hi.nd, fun x hx => ?_, check_find (by omega) (by omega) hi hn, fun hw => ?_⟩
    · unfold ansP; rw [if_neg (by omega), hf]; rfl
    · rcases List.mem_append.1 hx with hx | hx
      · simp only [List.mem_cons, List.not_mem_nil, or_false] at hx
        rcases hx with rfl | rfl
        · exact hi.gm
        · exact hi.bm
      · obtain ⟨h3, h4⟩ := mem_betw.1 hx
        exact (betw_all hi hn x h3 h4).1
    · refine whole_next hi hn (fun i h0 h1 => ?_)
      have hV : vd xs i = three (rd xs i) := by unfold vd raw rd; rw [if_pos ⟨h0, by omega⟩]
      have := hw i.toNat (by omega)
      rw [show ((i.toNat : Nat) : Int) = i by omega] at this
      rw [hV]
      rcases this with h | h <;> rw [h] <;> decide
theorem nodup_rd {ps : List Int} (h : ps.Nodup) (k i : Nat) (hk : k < i) (hi : i < ps.length) : rd ps (k : Int) ≠ rd ps (i : Int) := by
  unfold rd
  rw [Int.toNat_natCast, Int.toNat_natCast, List.getD_eq_getElem?_getD, List.getD_eq_getElem?_getD, List.getElem?_eq_getElem hi, List.getElem?_eq_getElem (by omega)]
  exact List.pairwise_iff_getElem.1 h k i (by omega) hi hk
set_option maxHeartbeats 8000000 in
set_option maxRecDepth 100000 in
theorem BisectEdit_any (A0 : Option Addr) (c0 : Nat) (l : List Int) (n cut : Int) (w : World) (hR0 : Kd.C (Kd.int .i64) w A0 l.length l) (hc0 : l.length ≤ c0) (hx0 : ∀ x ∈ l, -9223372036854775808 ≤ x ∧ x ≤ 9223372036854775807)
    (hn : -9223372036854775808 ≤ n ∧ n ≤ 9223372036854775807) (hcut : -9223372036854775808 ≤ cut ∧ cut ≤ 9223372036854775807) :
    Calls Try.prog 6 #[.slice A0 l.length c0, .int .i64 n, .int .i64 cut] w fun e w' => e = .returned (.bool true) ∧ Below w.heap.size w w' := by
  have HR0 := Aside0.mk hR0
  have HC0 := Aside0.mk hc0
  have HX0 := Aside0.mk hx0
  have HN := Aside0.mk hn
  have HCUT := Aside0.mk hcut
  clear hR0 hc0 hx0 hn hcut
  go_enter Try.func6, Try.ntmps6
  go_upto_region 2 with (first
    | (go_at_call 7; refine (Around_any n 60 _ (by decide) HN.out).mono ?_; rintro e w1 ⟨m0, rfl, hm0, hm1, ⟨n1, rfl⟩⟩))
  obtain ⟨m, hm⟩ : ∃ m : Nat, 2 + m0 = (m : Int) := ⟨(2 + m0).toNat, by omega⟩
  rw [hm]
  have h2 : 2 ≤ m := by omega
  have h64 : m ≤ 64 := by omega
  have HB1 : Aside0 (Below w.heap.size w (w.drewN n1)) := ⟨pw_below_drewN (Below.refl _ _) _⟩
  clear hm hm0 hm1
  go_upto_region 3 with (first
    | (go_at_call 7; refine (Around_any cut ((m : Int) + 1) _ (by omega) HCUT.out).mono ?_; rintro e w2 ⟨cu, rfl, hcu0, hcu1, ⟨n2, rfl⟩⟩; have HB2 : Aside0 (Below w.heap.size w (w.drewN (n1 + n2))) := ⟨pw_below_drewN (Below.refl _ _) _⟩)
    | (go_at_call 8; refine (Verdicts_any A0 c0 l (m : Int) cu _ (Kd.C_below HR0.out HB2.out) HC0.out HX0.out (by omega) (by omega)).mono ?_; rintro e w3 ⟨v3, xs, rfl, hl, hR, hB⟩; obtain ⟨Av, cv, e3, -, -⟩ := Kd.R_reads hR
       have hm : xs.length = m := by omega
       rw [hm] at e3; subst e3
       have HM := Aside0.mk hm; clear hm
       have HR3 := Aside0.mk (Kd.R_lower hR HB2.out.size); have HB3 := Aside0.mk (HB2.out.trans (hB.mono HB2.out.size)); clear hR hB hl))
  obtain ⟨gv, hA, hgv, hcell, hfr, hput⟩ := R_put35 HR3.out HM.out ((m : Int) - 1) (by omega) (by omega)
  have hR4 := hput 1
  rw [show ((m : Int) - 1).toNat = m - 1 by omega] at hcell hfr hR4
  have HB4 : Aside0 (Below w.heap.size w (w3.setCell ⟨gv, m - 1, none⟩ (.int .i64 1))) := ⟨HB3.out.setCell (p := ⟨gv, m - 1, none⟩) hgv _⟩
  have HM4 : Aside0 ((xs.set (m - 1) 1).length = m) := ⟨by rw [List.length_set]; exact HM.out⟩
  generalize xs.set (m - 1) 1 = ys at hR4 HM4
  have HR4 := Aside0.mk hR4
  clear hput hR4 HR3 HB3 HM hgv HB1 HB2 hcu0 hcu1
  subst hA
  go_upto_region 4 with fail
  clear hcell hfr
  generalize w3.setCell ⟨gv, m - 1, none⟩ (.int .i64 1) = w4 at *
  obtain ⟨A3, c3, e3, hlc, hC⟩ := Kd.R_reads HR4.out
  rw [HM4.out] at e3
  injection e3 with e3 e4 e5
  subst e3 e5
  clear e4
  have HC3 := Aside0.mk hC
  have HE := edit35 ys m h2 h64 HM4.out
  clear hC hlc HR4
  obtain ⟨Av, hAv⟩ : ∃ Av, Av = some (⟨gv, 0, none⟩ : Addr) := ⟨_, rfl⟩
  rw [← hAv] at HC3 ⊢
  clear hAv
  rcases HE with hans | ⟨g, b, ps, hans, hg0, hgb, hbm, hnd, hin, hchk, hwh⟩
  · have HANS := Aside0.mk hans
    clear hans
    have HLV := fun W => refuterlaw35_lives.calls true W rfl
    go_wp2_with (first
      | (go_at_call 11; have hp := BisOut.probe_c Av cv ys w4 HC3.out; rw [HM4.out] at hp; refine hp.mono ?_; clear hp; rintro e w5 ⟨Bl, rfl, hL, hB⟩; have HL5 := Aside0.mk hL; have HB5 := Aside0.mk hB; clear hL hB)
      | (go_at_call 10; refine (Find_any Bl ys (m : Int) w5 HL5.out).mono ?_; intro e w6 hR; rw [HANS.out] at hR; obtain ⟨A1, k1, A2, k2, rfl, l1, c1, l2, c2, hB⟩ := hR; have HB6 := Aside0.mk (below_alloc (HB5.out.trans (hB.mono HB5.out.size)) (.cells #[.int .i64 0, .int .i64 0, .slice A1 0 k1, .slice A2 0 k2] 27)); clear c1 c2 l1 l2 hB)
      | (go_at_call 14; refine (HLV _).mono ?_; rintro e w12 ⟨rfl, hB⟩; have HB12 := Aside0.mk (HB6.out.trans (hB.mono HB6.out.size)); clear hB))
    go_ret
    exact ⟨rfl, HB4.out.trans (HB12.out.mono HB4.out.size)⟩
  · have HANS := Aside0.mk hans
    have HND := Aside0.mk hnd
    have HIN := Aside0.mk hin
    have HCHK := Aside0.mk hchk
    have HWH := Aside0.mk hwh
    have hpl := (ansP_len (vd ys) (m : Int))
    rw [hans] at hpl
    have HPL : Aside0 (ps.length ≤ 1000 ∧ (betw g b).length ≤ 1000) := ⟨hpl.2, hpl.1⟩
    clear hans hnd hin hchk hwh hpl
    go_upto_region 7 with (first
      | (go_at_call 11; have hp := BisOut.probe_c Av cv ys w4 HC3.out; rw [HM4.out] at hp; refine hp.mono ?_; clear hp; rintro e w5 ⟨Bl, rfl, hL, hB⟩; have HL5 := Aside0.mk hL; have HB5 := Aside0.mk hB; clear hL hB)
      | (go_at_call 10; refine (Find_any Bl ys (m : Int) w5 HL5.out).mono ?_; intro e w6 hR; rw [HANS.out] at hR; obtain ⟨A1, k1, A2, k2, rfl, l1, c1, l2, c2, hB⟩ := hR; have HC1 := Aside0.mk c1; have HC2 := Aside0.mk c2; have HL1 := Aside0.mk l1; have HL2 := Aside0.mk l2; have HB6 := Aside0.mk (HB5.out.trans (hB.mono HB5.out.size)); clear c1 c2 l1 l2 hB))
    obtain ⟨W6, hW6⟩ : ∃ W6, w6.alloc (.cells #[.int .i64 g, .int .i64 b, .slice A1 (betw g b).length k1, .slice A2 ps.length k2] 27) = W6 := ⟨_, rfl⟩
    have hb9 : W6.heap[w6.heap.size]? = some (.cells #[.int .i64 g, .int .i64 b, .slice A1 (betw g b).length k1, .slice A2 ps.length k2] 27 (0, 0)) := by rw [← hW6]; exact blk_new _ _
    have hB6 : Below w6.heap.size w6 W6 := by rw [← hW6]; exact below_alloc (Below.refl _ _) _
    rw [hW6]
    have HC1 := Aside0.mk (Kd.C_below HC1.out hB6)
    have HC2 := Aside0.mk (Kd.C_below HC2.out hB6)
    have HB66 := Aside0.mk (HB6.out.trans (hB6.mono HB6.out.size))
    generalize w6.heap.size = b9 at hb9 ⊢
    have HCW := Aside0.mk (Kd.C_below HC3.out HB66.out)
    have HBW := Aside0.mk (HB4.out.trans (HB66.out.mono HB4.out.size))
    have HF : Aside0 (∀ W, Below W6.heap.size W6 W → W.cell? ⟨b9, 0, none⟩ = some (.int .i64 g) ∧ W.cell? ⟨b9, 1, none⟩ = some (.int .i64 b) ∧ W.cell? ⟨b9, 2, none⟩ = some (.slice A1 (betw g b).length k1) ∧ W.cell? ⟨b9, 3, none⟩ = some (.slice A2 ps.length k2)) := ⟨fun W hW => by
      have h := blk_below hb9 hW
      exact ⟨(blk_cell h 0).trans rfl, (blk_cell h 1).trans rfl, (blk_cell h 2).trans rfl, (blk_cell h 3).trans rfl⟩⟩
    clear hb9 hB6 hW6 HB5 HB6 HL5 HC3 HB66 HB4
    obtain ⟨a0, a1, a2, a3⟩ := HF.out W6 (Below.refl _ _)
    have hp := BisOut.probe_c Av cv ys (W6.drewN 1) (Kd.C_drewN HCW.out 1)
    rw [HM4.out] at hp
    have HP := Aside0.mk hp
    clear hp
    go_region_held3 (fun W' => W'.cell? ⟨b9, 0, none⟩ = some (.int .i64 g) ∧ W'.cell? ⟨b9, 1, none⟩ = some (.int .i64 b) ∧ W'.cell? ⟨b9, 2, none⟩ = some (.slice A1 (betw g b).length k1) ∧ W'.cell? ⟨b9, 3, none⟩ = some (.slice A2 ps.length k2)) (first | exact ⟨a0, a1, a2, a3⟩ | exact ⟨e0, e1, e2, e3⟩ | exact ⟨q0, q1, q2, q3⟩)
      (first
        | (go_at_call 11; refine HP.out.mono ?_; rintro e w7 ⟨B2, rfl, hL, hB⟩; have hB := (pw_below_drewN (Below.refl W6.heap.size W6) 1).trans (hB.mono (Nat.le_refl _)); obtain ⟨e0, e1, e2, e3⟩ := HF.out _ hB; have HL7 := Aside0.mk hL; have HB7 := Aside0.mk hB; clear hL hB)
        | (go_at_call 15; have hc := BisChk.Check_c B2 ys (betw g b) (m : Int) g b A1 k1 (.slice A2 ps.length k2) w7 HL7.out (Kd.C_below HC1.out HB7.out); rw [HCHK.out] at hc; refine hc.mono ?_; clear hc; rintro e w8 ⟨rfl, hB⟩; have hB := HB7.out.trans (hB.mono HB7.out.size); obtain ⟨q0, q1, q2, q3⟩ := HF.out _ hB; have HB8 := Aside0.mk hB; clear hB))
    clear HP a0 a1 a2 a3 e0 e1 e2 e3 HL7 HB7
    have HBW0 := HBW.out
    go_wp2_with fail
    clear q0 q1 q2 q3
    go_loopw [11] (fun v11 wr => ∃ i : Nat, v11 = .int .i64 (i : Int) ∧ i ≤ ps.length ∧ Aside0 (Below W6.heap.size W6 wr)) (fun v11 _ => ps.length - (intOf v11).toNat)
    case atStart => exact ⟨0, rfl, Nat.zero_le _, HB8⟩
    case round =>
      obtain ⟨i, rfl, hi, HBi⟩ := hrel
      obtain ⟨q0, q1, q2, q3⟩ := HF.out wr HBi.out
      clear HBW0
      have hp1000 := HPL.out.1
      by_cases hlt : i < ps.length
      · have dk : decide (i < ps.length) = true := decide_eq_true hlt
        go_wp2_with fail
        go_loopw [12] (fun v12 wr2 => ∃ k : Nat, v12 = .int .i64 (k : Int) ∧ k ≤ i ∧ Aside0 (Below W6.heap.size W6 wr2)) (fun v12 _ => i - (intOf v12).toNat)
        case atStart => exact ⟨0, rfl, Nat.zero_le _, HBi⟩
        case round =>
          obtain ⟨k, rfl, hk, HBk⟩ := hrel
          clear q0 q1 q2 q3
          obtain ⟨q0, q1, q2, q3⟩ := HF.out wr HBk.out
          by_cases hki : k < i
          · have dki : decide (k < i) = true := decide_eq_true hki
            have hne := nodup_rd HND.out k i hki hlt
            have HC2k := Kd.C_below HC2.out HBk.out
            obtain ⟨ad, rfl, hx1⟩ := Kd.at_int HC2k (k : Int) (by omega) (by omega)
            obtain ⟨ad', e', hx2⟩ := Kd.at_int HC2k (i : Int) (by omega) (by omega)
            cases e'
            rw [Int.toNat_natCast] at hx1 hx2
            clear HC2k
            generalize rd ps (k : Int) = x1 at hx1 hne
            generalize rd ps (i : Int) = x2 at hx2 hne
            have dne : (x1 == x2) = false := beq_eq_false_iff_ne.mpr hne
            have hk0 : (0 : Int) ≤ (k : Int) := by omega
            have hi0 : (0 : Int) ≤ (i : Int) := by omega
            have hk1 : (k : Int) < (ps.length : Int) := by omega
            have hi1 : (i : Int) < (ps.length : Int) := by omega
            clear hne
            go_upto_region 15 with fail
            go_quiet (fail)
            go_wp2
            exact ⟨⟨k + 1, by simp, by omega, ⟨HBk.out.trans ⟨rfl, rfl, rfl, Nat.le_refl _, fun _ _ => rfl⟩⟩⟩, by simp [intOf]; omega⟩
          · have dki : decide (k < i) = false := decide_eq_false hki
            go_wp2
            exact ⟨⟨i + 1, by simp, by omega, HBk⟩, by simp [intOf]; omega⟩
      · have dk : decide (i < ps.length) = false := decide_eq_false hlt
        have hlr := litI_R wr [g, b] W6.heap.size HBi.out.size (by simp)
        have hlb : Below W6.heap.size W6 (wr.alloc (.cells #[.int .i64 g, .int .i64 b] 3)) := below_alloc HBi.out _
        have hlc := Kd.C_below HC1.out hlb
        have HLR := Aside0.mk hlr
        have HLB := Aside0.mk hlb
        have HLC := Aside0.mk hlc
        have hq2 : (wr.alloc (.cells #[.int .i64 g, .int .i64 b] 3)).cell? ⟨b9, 2, none⟩ = some (.slice A1 (betw g b).length k1) := (HF.out _ hlb).2.2.1
        clear hlr hlb hlc
        go_upto_block 4 with (first
          | ((with_reducible refine gate_builtin (b := .append) (xs := #[.tmp 78, .tmp 80]) rfl ?_); at_builtin
             refine appL35 W6.heap.size (wr.alloc (.cells #[.int .i64 g, .int .i64 b] 3)) rfl (.tmp 78) (.tmp 80) rfl _ [g, b] (betw g b) A1 k1 rfl rfl HLB.out.size HLR.out HLC.out (by have := HPL.out.2; simp only [List.length_cons, List.length_nil]; omega) ?_
             intro v13 w9 HA))
        clear hq2 q0 q1 q2 q3 HLR HLC
        have HB9 : Aside0 (Below W6.heap.size W6 w9) := ⟨HLB.out.trans HA.out.2⟩
        obtain ⟨A13, c13, e13, -, hC13⟩ := Kd.R_reads HA.out.1
        subst e13
        obtain ⟨N, hN⟩ : ∃ N, ([g, b] ++ betw g b).length = N := ⟨_, rfl⟩
        have hN1000 : N ≤ 1002 := by rw [← hN, List.length_append]; have := HPL.out.2; simp only [List.length_cons, List.length_nil]; omega
        generalize [g, b] ++ betw g b = nm at hN hC13 HIN HA
        rw [hN] at hC13 ⊢
        have HNM := Aside0.mk hN
        have HC13 := Aside0.mk hC13
        clear hN hC13 HLB dk
        go_cut [14] from 82 (fun v14 wx => Aside0 (Below W6.heap.size W6 wx))
        case first =>
          go_wp2_with fail
          go_loopw [14] (fun v14 wr2 => ∃ k : Nat, v14 = .int .i64 (k : Int) ∧ k ≤ N ∧ Aside0 (Below w9.heap.size w9 wr2)) (fun v14 _ => N - (intOf v14).toNat)
          case atStart => exact ⟨0, rfl, Nat.zero_le _, ⟨Below.refl _ _⟩⟩
          case round =>
            obtain ⟨k, rfl, hk, HBk⟩ := hrel
            have HBk6 : Aside0 (Below W6.heap.size W6 wr) := ⟨HB9.out.trans (HBk.out.mono HB9.out.size)⟩
            obtain ⟨q0, q1, q2, q3⟩ := HF.out wr HBk6.out
            by_cases hlt : k < N
            · have dk : decide (k < N) = true := decide_eq_true hlt
              obtain ⟨ad, had, hx1⟩ := Kd.at_int (Kd.C_below HC13.out HBk.out) (k : Int) (by omega) (by have := HNM.out; omega)
              subst had
              rw [Int.toNat_natCast] at hx1
              have hmem : rd nm (k : Int) ∈ ps := HIN.out _ (by
                unfold rd
                rw [Int.toNat_natCast, List.getD_eq_getElem?_getD, List.getElem?_eq_getElem (by have := HNM.out; omega)]
                exact List.getElem_mem _)
              generalize rd nm (k : Int) = x at hx1 hmem
              have hct : ps.contains x = true := by simpa using hmem
              have HCP := Kd.C_below HC2.out HBk6.out
              have HH := Aside0.mk (fun n => (BisRef2.has_c A2 k2 ps x HPL.out.1 (wr.drewN n) (Kd.C_drewN HCP n)).mono (R' := fun e2 w2 => e2 = .returned (.bool true) ∧ w2 = wr.drewN n) (fun _ _ h => ⟨by rw [h.1, hct], h.2.symm⟩))
              have hk0 : (0 : Int) ≤ (k : Int) := by omega
              have hk1 : (k : Int) < (N : Int) := by omega
              clear hmem hct HCP
              go_upto_region 21 with fail
              go_quiet ((go_at_call 17; refine Calls.quiet_of_same (HH.out _)))
              go_wp2
              exact ⟨⟨k + 1, by simp, by omega, ⟨HBk.out.trans ⟨rfl, rfl, rfl, Nat.le_refl _, fun _ _ => rfl⟩⟩⟩, by simp [intOf]; omega⟩
            · have dk : decide (k < N) = false := decide_eq_false hlt
              go_wp2
              go_meet
              exact HBk6
        case rest =>
          have HBc := hcut
          clear hcut HA HNM HC13 HB9 HIN
          have hm64 : (m : Int) ≤ 64 := by omega
          go_wp2_with fail
          go_loopw [15, 16] (fun v15 v16 wr2 => ∃ (k : Nat) (wh : Bool), v16 = .int .i64 (k : Int) ∧ k ≤ m ∧ v15 = .bool wh ∧ wr2 = wc ∧ Aside0 (wh = true → ∀ j : Nat, j < k → (rd ys j = 0 ∨ rd ys j = 1))) (fun v15 v16 _ => m - (intOf v16).toNat)
          case atStart => exact ⟨0, true, rfl, Nat.zero_le _, rfl, rfl, ⟨fun _ j hj => absurd hj (Nat.not_lt_zero _)⟩⟩
          case round =>
            obtain ⟨k, wh, rfl, hk, rfl, rfl, HW⟩ := hrel
            by_cases hlt : k < m
            · have dk : decide (k < m) = true := decide_eq_true hlt
              obtain ⟨ad, had, hx1⟩ := Kd.at_int (Kd.C_below HCW.out HBc.out) (k : Int) (by omega) (by have := HM4.out; omega)
              subst had
              rw [Int.toNat_natCast] at hx1
              have hst : ∀ w2 : Bool, (w2 = true → wh = true ∧ (rd ys (k : Int) = 0 ∨ rd ys (k : Int) = 1)) → (w2 = true → ∀ j : Nat, j < k + 1 → (rd ys j = 0 ∨ rd ys j = 1)) := fun w2 h h2 j hj => by
                by_cases c : j < k
                · exact HW.out (h h2).1 j c
                · obtain rfl : j = k := by omega
                  exact (h h2).2
              generalize hx : rd ys (k : Int) = x at hx1
              rw [hx] at hst
              have HST := Aside0.mk hst
              clear hst hx HW
              have hxc : x = 0 ∨ x = 1 ∨ ((x == 0) = false ∧ (x == 1) = false) := by
                by_cases c1 : x = 0
                · exact .inl c1
                · by_cases c2 : x = 1
                  · exact .inr (.inl c2)
                  · exact .inr (.inr ⟨beq_eq_false_iff_ne.mpr c1, beq_eq_false_iff_ne.mpr c2⟩)
              cases wh
              · clear hxc
                go_wp2
                exact ⟨⟨k + 1, false, by simp, by omega, rfl, by first | rfl | trivial, ⟨HST.out false (fun h => by cases h)⟩⟩, by simp [intOf]; omega⟩
              · rcases hxc with rfl | rfl | ⟨d1, d2⟩
                · go_wp2
                  exact ⟨⟨k + 1, true, by simp, by omega, rfl, by first | rfl | trivial, ⟨HST.out true (fun _ => ⟨rfl, .inl rfl⟩)⟩⟩, by simp [intOf]; omega⟩
                · go_wp2
                  exact ⟨⟨k + 1, true, by simp, by omega, rfl, by first | rfl | trivial, ⟨HST.out true (fun _ => ⟨rfl, .inr rfl⟩)⟩⟩, by simp [intOf]; omega⟩
                · go_wp2
                  exact ⟨⟨k + 1, false, by simp, by omega, rfl, by first | rfl | trivial, ⟨HST.out false (fun h => by cases h)⟩⟩, by simp [intOf]; omega⟩
            · have dk : decide (k < m) = false := decide_eq_false hlt
              obtain rfl : k = m := by omega
              have HLV := fun W => refuterlaw35_lives.calls true W rfl
              obtain ⟨q0, q1, q2, q3⟩ := HF.out wr HBc.out
              have HBF := Aside0.mk (HBW.out.trans (HBc.out.mono HBW.out.size))
              cases wh
              · clear HW
                go_wp2_with (first
                  | (go_at_call 14; refine (HLV _).mono ?_; rintro e w12 ⟨rfl, hB⟩; have HB12 := Aside0.mk (HBF.out.trans (hB.mono HBF.out.size)); clear hB))
                go_ret
                exact ⟨rfl, HB12.out⟩
              · have hbg : b = g + 1 := HWH.out (fun j hj => HW.out rfl j hj)
                subst hbg
                clear HW
                go_wp2_with (first
                  | (go_at_call 14; refine (HLV _).mono ?_; rintro e w12 ⟨rfl, hB⟩; have HB12 := Aside0.mk (HBF.out.trans (hB.mono HBF.out.size)); clear hB))
                go_ret
                exact ⟨rfl, HB12.out⟩
theorem refuterlaw35_BisectEdit.walk (P : refuterlaw35_BisectEdit.Pure) (a0 : Option Addr) (len0 cap0 : Nat) (z0 : List Int) (a1 : Int) (a2 : Int) (w : World) (w0 : (a0 = none ∧ len0 = 0 ∧ cap0 = 0 ∧ z0 = []) ∨ ∃ x, a0 = some x ∧ len0 ≤ cap0 ∧ cap0 ≤ maxLen ∧ z0.length = cap0 ∧ (∀ i, i < z0.length → w.cell? (x.add i) = some (.int .i64 (z0.getD i 0))) ∧ ∀ n ∈ z0, (Lit.int .i64 n).wf = true) (_y0 : len0 * 8 ≤ 140737488351232) (w1 : (Lit.int .i64 a1).wf = true) (w2 : (Lit.int .i64 a2).wf = true) :
    Calls Try.prog 6 #[.slice a0 len0 cap0, .int .i64 a1, .int .i64 a2] w fun e w' => e = .returned (.bool true) ∧ Below w.heap.size w w' := by
  obtain ⟨l, rfl, hr0, hm0, hw0, hc0⟩ := ReadsInt.ofRowC w0
  have h1 := bounds_i64 w1
  have h2 := bounds_i64 w2
  exact BisectEdit_any a0 cap0 l a1 a2 w (Kd.C_of_reads (d := (0 : Int)) (h1 := fun _ => rfl) hr0) hc0 (fun x hx => by have := bounds_i64 (hw0 x hx); omega) (by omega) (by omega)

end Go.Proofs.Ytljjkdlnkklibaa.PA
