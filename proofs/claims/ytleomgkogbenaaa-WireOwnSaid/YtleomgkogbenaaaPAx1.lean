/- Written by a program of this session (pw.py, over the kit's printer): contracts, with their walks, of the Go functions that a law reaches; a text named ..Law.. proves the given statement of that law, with no condition of its own. -/
import Derived.Test.YtleomgkogbenaaaPAx0
namespace Go.Proofs.Ytleomgkogbenaaa.PA
open Go.Proofs.Ytleomgkogbenaaa.HashPlain
open Go.Proofs.Ytleomgkogbenaaa.WirePlain
open Go.Proofs.Ytleomgkogbenaaa.WireWr
open Go.Proofs.Ytleomgkogbenaaa.WireRd
open Go.Proofs.Ytleomgkogbenaaa.Pw
open Go.RowKit Go.Proofs.YtleomgkogbenaaaW.PrintWords Go.Proofs.YtleomgkogbenaaaW.PrintLast Go.Proofs.YtleomgkogbenaaaW.PrintMore
attribute [local go_sem] max2_int min2_int max_two min_two max_three min_three max_four min_four   -- for this text's walks alone
set_option linter.unusedVariables false
set_option linter.unusedSimpArgs false

/-! ### refuterref01_Around: function 11 -/
def refuterref01_Around.f (a0 : Int) (a1 : Int) : Option (Int) := if a0 < 0 then (if a1 = 0 then (none) else (some (Int.tmod (wrap64 (-(wrap64 (a0 + 1)))) a1))) else (if a1 = 0 then (none) else (some (Int.tmod a0 a1)))
set_option maxHeartbeats 8000000 in
set_option maxRecDepth 100000 in
theorem refuterref01_Around.calls (a0 : Int) (a1 : Int) (r : Int) (w : World) (h : refuterref01_Around.f a0 a1 = some r) :
    Calls Try.prog 11 #[.int .i64 a0, .int .i64 a1] w fun e w' => e = .returned (.int .i64 r) ∧ Drawn0 w w' := by
  have H : (if a0 < 0 then (if a1 = 0 then (none) else (some (Int.tmod (wrap64 (-(wrap64 (a0 + 1)))) a1))) else (if a1 = 0 then (none) else (some (Int.tmod a0 a1)))) = some r := h
  clear h
  by_cases c3 : a0 < 0
  · rw [if_pos c3] at H
    have c3b0 : decide (a0 < 0) = true := decide_eq_true c3
    clear c3
    by_cases c4 : a1 = 0
    · rw [if_pos c4] at H
      exact absurd H (by simp)
    · rw [if_neg c4] at H
      have c4b0 : (a1 == 0) = false := beq_eq_false_iff_ne.mpr c4
      have c4b1 : (a1 != 0) = true := bne_iff_ne.mpr c4
      obtain rfl := Option.some.inj H
      go_enter Try.func11, Try.ntmps11
      go_wp2
      go_ret
      exact ⟨by first | rfl | (simp; done) | (simp [*]; done), by repeat (first | exact Drawn0.refl _ | apply Drawn0.step)⟩
  · rw [if_neg c3] at H
    have c3b0 : decide (a0 < 0) = false := decide_eq_false c3
    clear c3
    by_cases c5 : a1 = 0
    · rw [if_pos c5] at H
      exact absurd H (by simp)
    · rw [if_neg c5] at H
      have c5b0 : (a1 == 0) = false := beq_eq_false_iff_ne.mpr c5
      have c5b1 : (a1 != 0) = true := bne_iff_ne.mpr c5
      obtain rfl := Option.some.inj H
      go_enter Try.func11, Try.ntmps11
      go_wp2
      go_ret
      exact ⟨by first | rfl | (simp; done) | (simp [*]; done), by repeat (first | exact Drawn0.refl _ | apply Drawn0.step)⟩

-- NOT PRINTED: function 12 (wire_Writer_Uint)

/-! ### refuterref01_Bound: function 13 -/
def refuterref01_Bound.f (a0 : Int) (a1 : Int) : Option (Int) := (refuterref01_Around.f a0 (wrap64 ((wrap64 (2 * a1)) + 1))).bind fun t101 => (some (wrap64 (t101 - a1)))
set_option maxHeartbeats 8000000 in
set_option maxRecDepth 100000 in
theorem refuterref01_Bound.calls (a0 : Int) (a1 : Int) (r : Int) (w : World) (h : refuterref01_Bound.f a0 a1 = some r) :
    Calls Try.prog 13 #[.int .i64 a0, .int .i64 a1] w fun e w' => e = .returned (.int .i64 r) ∧ Drawn0 w w' := by
  have H : ((refuterref01_Around.f a0 (wrap64 ((wrap64 (2 * a1)) + 1))).bind fun t101 => (some (wrap64 (t101 - a1)))) = some r := h
  clear h
  replace H := Option.bind_eq_some_iff.mp H
  obtain ⟨t101, A30, H⟩ := H
  replace H : (some (wrap64 (t101 - a1))) = some r := H
  have A3 := Aside0.mk A30
  clear A30
  obtain rfl := Option.some.inj H
  go_enter Try.func13, Try.ntmps13
  go_wp2_with (first | ((with_reducible refine gate_callee (f := 11) rfl ?_); refine goesL_ (some 9) rfl rfl Try.func11 (by kernel_rfl) rfl #[.int .i64 a0, .int .i64 (wrap64 ((wrap64 (2 * a1)) + 1))] rfl (by (try simp only [List.map_toArray, List.map_cons, List.map_nil]); first | done | rfl | (simp only [List.length_drop, List.length_take]; rfl)) ?_; (with_reducible refine (refuterref01_Around.calls a0 (wrap64 ((wrap64 (2 * a1)) + 1)) t101 _ A3.out).mono ?_); rintro e w' ⟨rfl, ⟨nd, rfl⟩⟩; refine ⟨_, rfl, ?_⟩))
  go_ret
  exact ⟨by first | rfl | (simp; done) | (simp [*]; done), by repeat (first | exact Drawn0.refl _ | apply Drawn0.step)⟩

/-! ### wire_zigzag: function 38 -/
def wire_zigzag.f (a0 : Int) : Option (Int) := some (Go.bits .xor .u64 (IntKind.u64.wrap ((IntKind.u64.wrap (a0)) * 2)) (IntKind.u64.wrap (a0 / 9223372036854775808)))
set_option maxHeartbeats 8000000 in
set_option maxRecDepth 100000 in
theorem wire_zigzag.calls (a0 : Int) (r : Int) (w : World) (h : wire_zigzag.f a0 = some r) :
    Calls Try.prog 38 #[.int .i64 a0] w fun e w' => e = .returned (.int .u64 r) ∧ Drawn0 w w' := by
  have H : (some (Go.bits .xor .u64 (IntKind.u64.wrap ((IntKind.u64.wrap (a0)) * 2)) (IntKind.u64.wrap (a0 / 9223372036854775808)))) = some r := h
  clear h
  obtain rfl := Option.some.inj H
  go_enter Try.func38, Try.ntmps38
  go_wp2
  go_ret
  exact ⟨by first | rfl | (simp; done) | (simp [*]; done), by repeat (first | exact Drawn0.refl _ | apply Drawn0.step)⟩

-- NOT PRINTED: function 14 (wire_Writer_Int)

-- NOT PRINTED: function 15 (wire_Writer_Bool)

-- NOT PRINTED: function 39 (slices_Clone_byte_byte)

-- NOT PRINTED: function 16 (wire_Writer_Done)

-- NOT PRINTED: function 21 (wire_Read)

/-- A state of type 79 at block g of W; what its slices lead to came in by w0. -/
def IsS79 (w0 W : World) (g : Nat) (f0 : List Int) (f1 : Int) : Prop := ∃ A0 c0, W.heap[g]? = some (.cells #[.slice A0 f0.length c0, .int .i64 f1] 79 (0, 0)) ∧ w0.heap.size ≤ g ∧ Kd.C (Kd.int .u8) w0 A0 f0.length f0
theorem IsS79.grown {w0 W : World} {g : Nat} {f0 : List Int} {f1 : Int} {W1 : World} {row : Option Nat} (h : IsS79 w0 W g f0 f1) (hw : W.grownBy W1 row) (hne : some g ≠ row) : IsS79 w0 W1 g f0 f1 := by
  obtain ⟨A0, c0, hb, hg, hr0⟩ := h
  exact ⟨A0, c0, blk_grown hb hw hne, hg, hr0⟩
theorem IsS79.own_neN {w0 W : World} {g : Nat} {f0 : List Int} {f1 : Int} {α : Type} {d : Kd α} {e : Nat} {base : Nat} {ok : Nat → Prop} {v : Value} {xs : List α} (h : IsS79 w0 W g f0 f1) (ho : Kd.N d e W base ok v xs) (ht : e ≠ 79) : some g ≠ v.ownBlock := by
  obtain ⟨A0, c0, hb, hg, hr0⟩ := h
  exact Kd.N_ne ho hb ht
theorem IsS79.fresh {w0 W : World} {g : Nat} {f0 : List Int} {f1 : Int} (h : IsS79 w0 W g f0 f1) : ∀ k, W.heap.size ≤ k → k ≠ g := by
  obtain ⟨A0, c0, hb, hg, hr0⟩ := h
  exact Kd.freshB hb
theorem IsS79.kept {w0 W : World} {g : Nat} {f0 : List Int} {f1 : Int} {W1 : World} {S : Nat → Prop} (h : IsS79 w0 W g f0 f1) (hk : Kept W W1 S) (hne : ¬ S g) : IsS79 w0 W1 g f0 f1 := by
  obtain ⟨A0, c0, hb, hg, hr0⟩ := h
  exact ⟨A0, c0, blk_kept hb hk hne, hg, hr0⟩
theorem IsS79.below {w0 W : World} {g : Nat} {f0 : List Int} {f1 : Int} {W1 : World} (h : IsS79 w0 W g f0 f1) (hw : Below W.heap.size W W1) : IsS79 w0 W1 g f0 f1 := h.grown (grown_of_below hw none) (by simp)
theorem IsS79.alloc {w0 W : World} {g : Nat} {f0 : List Int} {f1 : Int} (h : IsS79 w0 W g f0 f1) (o : Obj) : IsS79 w0 (W.alloc o) g f0 f1 := h.below (below_alloc (Below.refl _ _) o)
theorem IsS79.drewN {w0 W : World} {g : Nat} {f0 : List Int} {f1 : Int} (h : IsS79 w0 W g f0 f1) (m : Nat) : IsS79 w0 (W.drewN m) g f0 f1 := h
theorem IsS79.drew {w0 W : World} {g : Nat} {f0 : List Int} {f1 : Int} (h : IsS79 w0 W g f0 f1) : IsS79 w0 W.drew g f0 f1 := h
theorem IsS79.at_ {w0 W : World} {g : Nat} {f0 : List Int} {f1 : Int} {w' : World} {m : Nat} (hq : W.drewN m = w') (h : IsS79 w0 W g f0 f1) : IsS79 w0 w' g f0 f1 := by subst hq; exact IsS79.drewN h m
theorem IsS79.apart {w0 W : World} {g : Nat} {f0 : List Int} {f1 : Int} {α : Type} {d : Kd α} {e : Nat} {base : Nat} {ok : Nat → Prop} {v : Value} {xs : List α} (h : IsS79 w0 W g f0 f1) (ho : d.R e W base ok v xs) (ht : ∀ q, q ∈ e :: d.E → q ≠ 79) : d.R e W base (fun k => ok k ∧ k ≠ g) v xs := by
  obtain ⟨A0, c0, hb, hg, hr0⟩ := h
  exact Kd.R_types ho hb ht
theorem IsS79.own_ne {w0 W : World} {g : Nat} {f0 : List Int} {f1 : Int} {α : Type} {d : Kd α} {e : Nat} {base : Nat} {ok : Nat → Prop} {v : Value} {xs : List α} (h : IsS79 w0 W g f0 f1) (ho : d.R e W base ok v xs) (ht : e ≠ 79) : some g ≠ v.ownBlock := by
  obtain ⟨A0, c0, hb, hg, hr0⟩ := h
  exact Kd.R_ne ho hb ht
theorem IsS79.apartQ {w0 W : World} {g : Nat} {f0 : List Int} {f1 : Int} {α : Type} {d : Kd α} {e : Nat} {base : Nat} {ok : Nat → Prop} {v : Value} {xs : List α} (h : IsS79 w0 W g f0 f1) (ho : d.Q e W base ok v xs) (ht : ∀ q, q ∈ e :: d.E → q ≠ 79) : d.Q e W base (fun k => ok k ∧ k ≠ g) v xs := by
  obtain ⟨A0, c0, hb, hg, hr0⟩ := h
  exact Kd.Q_types ho hb ht
theorem IsS79.own_neQ {w0 W : World} {g : Nat} {f0 : List Int} {f1 : Int} {α : Type} {d : Kd α} {e : Nat} {base : Nat} {ok : Nat → Prop} {v : Value} {xs : List α} (h : IsS79 w0 W g f0 f1) (ho : d.Q e W base ok v xs) (ht : e ≠ 79) : some g ≠ v.ownBlock := by
  obtain ⟨A0, c0, hb, hg, hr0⟩ := h
  exact Kd.Q_ne ho hb ht
theorem IsS79.apartS {w0 W : World} {g : Nat} {f0 : List Int} {f1 : Int} {α : Type} {d : Kd α} {e : Nat} {base : Nat} {ok : Nat → Prop} {v : Value} {xs : List α} (h : IsS79 w0 W g f0 f1) (ho : d.S e W base ok v xs) (ht : ∀ q, q ∈ e :: d.E → q ≠ 79) : d.S e W base (fun k => ok k ∧ k ≠ g) v xs := by
  obtain ⟨A0, c0, hb, hg, hr0⟩ := h
  exact Kd.S_types ho hb ht
theorem IsS79.own_neS {w0 W : World} {g : Nat} {f0 : List Int} {f1 : Int} {α : Type} {d : Kd α} {e : Nat} {base : Nat} {ok : Nat → Prop} {v : Value} {xs : List α} (h : IsS79 w0 W g f0 f1) (ho : d.S e W base ok v xs) (ht : e ≠ 79) : some g ≠ v.ownBlock := by
  obtain ⟨A0, c0, hb, hg, hr0⟩ := h
  exact Kd.S_ne ho hb ht
theorem IsS79.lt {w0 W : World} {g : Nat} {f0 : List Int} {f1 : Int} (h : IsS79 w0 W g f0 f1) : g < W.heap.size := by
  obtain ⟨A0, c0, hb, hg, hr0⟩ := h
  exact blk_lt hb
theorem IsS79.ge {w0 W : World} {g : Nat} {f0 : List Int} {f1 : Int} (h : IsS79 w0 W g f0 f1) : w0.heap.size ≤ g := by
  obtain ⟨A0, c0, hb, hg, hr0⟩ := h
  exact hg
theorem IsS79.ne_blk {w0 W : World} {g : Nat} {f0 : List Int} {f1 : Int} {a : Nat} {cs : Array Value} {t : TypeId} {fr : Nat × Nat} (h : IsS79 w0 W g f0 f1) (hb2 : W.heap[a]? = some (.cells cs t fr)) (ht : t ≠ 79) : g ≠ a := by
  obtain ⟨A0, c0, hb, hg, hr0⟩ := h
  rintro rfl
  rw [hb] at hb2
  injection hb2 with hb2
  injection hb2 with _ ht2
  exact ht ht2.symm
theorem IsS79.far {w0 W : World} {g : Nat} {f0 : List Int} {f1 : Int} {p : Addr} (h : IsS79 w0 W g f0 f1) (hne : g ≠ p.block) (u : Value) : IsS79 w0 (W.setCell p u) g f0 f1 := by
  obtain ⟨A0, c0, hb, hg, hr0⟩ := h
  exact ⟨A0, c0, blk_far hb hne u, hg, hr0⟩
theorem cellS79_0 {W : World} {g : Nat} {A0 : Option Addr} {c0 : Nat} {f0 : List Int} {f1 : Int} (h : W.heap[g]? = some (.cells #[.slice A0 f0.length c0, .int .i64 f1] 79 (0, 0))) : W.cell? ⟨g, 0, none⟩ = some (.slice A0 f0.length c0) := (blk_cell h 0).trans rfl
theorem cellS79_1 {W : World} {g : Nat} {A0 : Option Addr} {c0 : Nat} {f0 : List Int} {f1 : Int} (h : W.heap[g]? = some (.cells #[.slice A0 f0.length c0, .int .i64 f1] 79 (0, 0))) : W.cell? ⟨g, 1, none⟩ = some (.int .i64 f1) := (blk_cell h 1).trans rfl
theorem IsS79.set_1 {w0 W : World} {g : Nat} {f0 : List Int} {f1 : Int} (h : IsS79 w0 W g f0 f1) (x : Int) : IsS79 w0 (W.setCell ⟨g, 1, none⟩ (.int .i64 x)) g f0 x := by
  obtain ⟨A0, c0, hb, hg, hr0⟩ := h
  exact ⟨A0, c0, by simpa using blk_set hb 1 (.int .i64 x), hg, hr0⟩
theorem IsS79.new (w0 W : World) (A0 : Option Addr) (c0 : Nat) (f0 : List Int) (f1 : Int) (hB : Below w0.heap.size w0 W) (hr0 : Kd.C (Kd.int .u8) w0 A0 f0.length f0) : IsS79 w0 (W.alloc (.cells #[.slice A0 f0.length c0, .int .i64 f1] 79)) W.heap.size f0 f1 := ⟨A0, c0, by simpa using heap_alloc_new W _, hB.size, hr0⟩

/-! ### wire_Reader_End: function 25 -/
def wire_Reader_End.f (s0_0 : List Int) (s0_1 : Int) : Option (Int × Int) := if s0_1 = 0 then (if (s0_0.length : Int) > 0 then (some (2, s0_1)) else (some (s0_1, s0_1))) else (some (s0_1, s0_1))
set_option maxHeartbeats 8000000 in
set_option maxRecDepth 100000 in
theorem wire_Reader_End.calls (g : Nat) (s0_0 : List Int) (s0_1 : Int) (r1 : Int) (r2 : Int) (w0 w : World) (hI : IsS79 w0 w g s0_0 s0_1) (hB : Below w0.heap.size w0 w) (h : wire_Reader_End.f s0_0 s0_1 = some (r1, r2)) :
    Calls Try.prog 25 #[.pointer (some ⟨g, 0, none⟩)] w fun e w' => e = .returned (.int .i64 r1) ∧ IsS79 w0 w' g s0_0 r2 ∧ Below w0.heap.size w0 w' ∧ KeepBut w w' g none := by
  have HI0 := Aside0.mk hI
  have HK := Aside0.mk (KeepBut.refl w g none)
  have HL := Aside0.mk hB.size
  clear hI
  have HW0 := Aside0.mk hB.size
  have HB := Aside0.mk hB
  clear hB
  have H : (if s0_1 = 0 then (if (s0_0.length : Int) > 0 then (some (2, s0_1)) else (some (s0_1, s0_1))) else (some (s0_1, s0_1))) = some (r1, r2) := h
  clear h
  by_cases c2 : s0_1 = 0
  · rw [if_pos c2] at H
    have c2b0 : (s0_1 == 0) = true := beq_iff_eq.mpr c2
    have c2b1 : (s0_1 != 0) = false := bne_eq_false_iff_eq.mpr c2
    clear c2
    by_cases c3 : (s0_0.length : Int) > 0
    · rw [if_pos c3] at H
      have c3b0 : decide (0 < (s0_0.length : Int)) = true := decide_eq_true c3
      have c3b1 : decide (0 < s0_0.length) = true := decide_eq_true (by omega)
      clear c3
      simp only [Option.some.injEq, Prod.mk.injEq] at H
      obtain ⟨rfl, rfl⟩ := H
      obtain ⟨ASz4_0, cSz4_0, HGz4, hgz4, HSz4_0⟩ := HI0.out
      have hcz4_0 := cellS79_0 HGz4
      have hcz4_1 := cellS79_1 HGz4
      have hfz4_1 := blk_frozen HGz4 1
      clear HGz4 hgz4
      go_enter Try.func25, Try.ntmps25
      go_wp2
      go_ret
      exact ⟨by first | rfl | (simp [errW_none, errW_some] <;> rfl) | (simp [*, errW_none, errW_some] <;> rfl), by repeat (first | (with_reducible first | exact HI0.out | apply IsS79.alloc | apply IsS79.drewN | apply IsS79.drew | apply IsS79.set_1) | exact HI0.out), by repeat (first | (with_reducible first | exact HB.out | apply below_alloc | apply pw_below_drewN | apply below_drew1 | refine below_set ?_ (IsS79.ge HI0.out)) | exact HB.out), by repeat (first | (with_reducible first | exact HK.out | apply KeepBut.set_ | apply keep_drewN | apply keep_drew | apply keep_alloc) | exact HK.out)⟩
    · rw [if_neg c3] at H
      have c3b0 : decide (0 < (s0_0.length : Int)) = false := decide_eq_false c3
      have c3b1 : decide (0 < s0_0.length) = false := decide_eq_false (by omega)
      clear c3
      simp only [Option.some.injEq, Prod.mk.injEq] at H
      obtain ⟨rfl, rfl⟩ := H
      obtain ⟨ASz5_0, cSz5_0, HGz5, hgz5, HSz5_0⟩ := HI0.out
      have hcz5_0 := cellS79_0 HGz5
      have hcz5_1 := cellS79_1 HGz5
      have hfz5_1 := blk_frozen HGz5 1
      clear HGz5 hgz5
      go_enter Try.func25, Try.ntmps25
      go_wp2
      go_ret
      exact ⟨by first | rfl | (simp [errW_none, errW_some] <;> rfl) | (simp [*, errW_none, errW_some] <;> rfl), by repeat (first | (with_reducible first | exact HI0.out | apply IsS79.alloc | apply IsS79.drewN | apply IsS79.drew | apply IsS79.set_1) | exact HI0.out), by repeat (first | (with_reducible first | exact HB.out | apply below_alloc | apply pw_below_drewN | apply below_drew1 | refine below_set ?_ (IsS79.ge HI0.out)) | exact HB.out), by repeat (first | (with_reducible first | exact HK.out | apply KeepBut.set_ | apply keep_drewN | apply keep_drew | apply keep_alloc) | exact HK.out)⟩
  · rw [if_neg c2] at H
    have c2b0 : (s0_1 == 0) = false := beq_eq_false_iff_ne.mpr c2
    have c2b1 : (s0_1 != 0) = true := bne_iff_ne.mpr c2
    simp only [Option.some.injEq, Prod.mk.injEq] at H
    obtain ⟨rfl, rfl⟩ := H
    obtain ⟨ASz6_0, cSz6_0, HGz6, hgz6, HSz6_0⟩ := HI0.out
    have hcz6_0 := cellS79_0 HGz6
    have hcz6_1 := cellS79_1 HGz6
    have hfz6_1 := blk_frozen HGz6 1
    clear HGz6 hgz6
    go_enter Try.func25, Try.ntmps25
    go_wp2
    go_ret
    exact ⟨by first | rfl | (simp [errW_none, errW_some] <;> rfl) | (simp [*, errW_none, errW_some] <;> rfl), by repeat (first | (with_reducible first | exact HI0.out | apply IsS79.alloc | apply IsS79.drewN | apply IsS79.drew | apply IsS79.set_1) | exact HI0.out), by repeat (first | (with_reducible first | exact HB.out | apply below_alloc | apply pw_below_drewN | apply below_drew1 | refine below_set ?_ (IsS79.ge HI0.out)) | exact HB.out), by repeat (first | (with_reducible first | exact HK.out | apply KeepBut.set_ | apply keep_drewN | apply keep_drew | apply keep_alloc) | exact HK.out)⟩

/-! ### refuterref01_SameBytes: function 30 -/
def refuterref01_SameBytes.l0 : Nat → List Int → List Int → Int → Option (Bool)
  | 0, _, _, _ => none
  | k + 1, x0, x1, x5 => if x5 < (x0.length : Int) then (if 0 ≤ x5 then (if x5 < (x1.length : Int) then (if (rd x0 x5) = (rd x1 x5) then (refuterref01_SameBytes.l0 k x0 x1 (wrap64 (x5 + 1))) else (some false)) else (none)) else (none)) else (some true)
def refuterref01_SameBytes.f (k : Nat) (l0 : List Int) (l1 : List Int) : Option (Bool) := if (l0.length : Int) = (l1.length : Int) then (refuterref01_SameBytes.l0 k l0 l1 0) else (some false)
theorem refuterref01_SameBytes.mono_l : ∀ k, (∀ y0 y1 y2, LeO (refuterref01_SameBytes.l0 k y0 y1 y2) (refuterref01_SameBytes.l0 (k + 1) y0 y1 y2))
  | 0 => fun _ _ _ r h => by simp [refuterref01_SameBytes.l0] at h
  | k + 1 => by
    have ih0 := refuterref01_SameBytes.mono_l k
    · intro y0 y1 y2
      unfold refuterref01_SameBytes.l0
      repeat' first
      | (with_reducible exact ih0 _ _ _)
      | (with_reducible exact LeO.refl _)
      | (with_reducible exact LeO.none _)
      | (with_reducible refine LeO.ite ?_ ?_)
      | (with_reducible refine LeO.bind ?_ (fun _ => ?_))
      | exact ih0 _ _ _
      | exact LeO.none _
      | refine LeO.ite ?_ ?_
      | refine LeO.bind ?_ (fun _ => ?_)
theorem refuterref01_SameBytes.mono : ∀ a0 a1 k, LeO (refuterref01_SameBytes.f k a0 a1) (refuterref01_SameBytes.f (k + 1) a0 a1) := by
  intro a0 a1 k
  have ih0 := refuterref01_SameBytes.mono_l k
  unfold refuterref01_SameBytes.f
  repeat' first
      | (with_reducible exact ih0 _ _ _)
      | (with_reducible exact LeO.refl _)
      | (with_reducible exact LeO.none _)
      | (with_reducible refine LeO.ite ?_ ?_)
      | (with_reducible refine LeO.bind ?_ (fun _ => ?_))
      | exact ih0 _ _ _
      | exact LeO.none _
      | refine LeO.ite ?_ ?_
      | refine LeO.bind ?_ (fun _ => ?_)
set_option maxHeartbeats 8000000 in
set_option maxRecDepth 100000 in
theorem refuterref01_SameBytes.calls (k : Nat) (A0 : Option Addr) (c0 : Nat) (l0 : List Int) (A1 : Option Addr) (c1 : Nat) (l1 : List Int) (r : Bool) (w : World) (hr0 : Kd.C (Kd.int .u8) w A0 l0.length l0) (hc0 : l0.length ≤ c0) (hr1 : Kd.C (Kd.int .u8) w A1 l1.length l1) (hc1 : l1.length ≤ c1) (h : refuterref01_SameBytes.f k l0 l1 = some r) :
    Calls Try.prog 30 #[.slice A0 l0.length c0, .slice A1 l1.length c1] w fun e w' => e = .returned (.bool r) ∧ Drawn0 w w' := by
  have HR0 := Aside0.mk hr0
  have HC0 := Aside0.mk hc0
  clear hr0 hc0
  have HR1 := Aside0.mk hr1
  have HC1 := Aside0.mk hc1
  clear hr1 hc1
  have H : (if (l0.length : Int) = (l1.length : Int) then (refuterref01_SameBytes.l0 k l0 l1 0) else (some false)) = some r := h
  clear h
  by_cases c3 : (l0.length : Int) = (l1.length : Int)
  · rw [if_pos c3] at H
    have c3b0 : ((l0.length : Int) == (l1.length : Int)) = true := beq_iff_eq.mpr c3
    have c3b1 : ((l0.length : Int) != (l1.length : Int)) = false := bne_eq_false_iff_eq.mpr c3
    have c3b2 : (l0.length == l1.length) = true := by first | simpa using c3 | (simp at c3 ⊢; omega)
    clear c3
    have H' := Aside0.mk H
    clear H
    go_enter Try.func30, Try.ntmps30
    go_wp2
    repeat (go_quiet (fail); try go_wp2)
    go_loopg [5] k (fun kq v5 w' => ∃ (x5_1 : Int), v5 = .int .i64 x5_1 ∧ Aside0 (refuterref01_SameBytes.l0 kq l0 l1 x5_1 = some r) ∧ Aside0 (kq ≤ k) ∧ Drawn0 w w')
    case atStart => exact ⟨(0), (by first | rfl | (simp; done) | (simp [*]; done)), H', ⟨Nat.le_refl _⟩, by repeat (first | exact Drawn0.refl _ | apply Drawn0.step)⟩
    case round =>
      clear H'
      try clear c1
      try clear p2
      try clear c3
      try clear c3b0
      try clear c3b1
      try clear c3b2
      obtain ⟨x5_1, rfl, HA, HK1, ⟨m1, rfl⟩⟩ := hrel
      cases gk with
      | zero => exact absurd HA.out (by simp [refuterref01_SameBytes.l0])
      | succ k1 =>
        have H := HA.out
        clear HA
        simp only [refuterref01_SameBytes.l0] at H
        by_cases c4 : x5_1 < (l0.length : Int)
        · rw [if_pos c4] at H
          have c4b0 : decide (x5_1 < (l0.length : Int)) = true := decide_eq_true c4
          clear c4
          by_cases c5 : 0 ≤ x5_1
          · rw [if_pos c5] at H
            have c5b0 : decide (0 ≤ x5_1) = true := decide_eq_true c5
            clear c5
            by_cases c6 : x5_1 < (l1.length : Int)
            · rw [if_pos c6] at H
              have c6b0 : decide (x5_1 < (l1.length : Int)) = true := decide_eq_true c6
              clear c6
              by_cases c7 : (rd l0 x5_1) = (rd l1 x5_1)
              · rw [if_pos c7] at H
                have c7b0 : ((rd l0 x5_1) == (rd l1 x5_1)) = true := beq_iff_eq.mpr c7
                have c7b1 : ((rd l0 x5_1) != (rd l1 x5_1)) = false := bne_eq_false_iff_eq.mpr c7
                clear c7
                have H' := Aside0.mk H
                clear H
                have p103 : 0 ≤ (x5_1 : Int) := of_decide_eq_true (by first | (with_reducible assumption) | assumption)
                have q103 : x5_1 < (l0.length : Int) := of_decide_eq_true (by first | (with_reducible assumption) | assumption)
                obtain ⟨ad103, e103, hx103_0⟩ := Kd.at_int HR0.out x5_1 p103 q103
                cases e103
                replace p103 := eq_true p103
                replace q103 := eq_true q103
                have p104 : 0 ≤ (x5_1 : Int) := of_decide_eq_true (by first | (with_reducible assumption) | assumption)
                have q104 : x5_1 < (l1.length : Int) := of_decide_eq_true (by first | (with_reducible assumption) | assumption)
                obtain ⟨ad104, e104, hx104_0⟩ := Kd.at_int HR1.out x5_1 p104 q104
                cases e104
                replace p104 := eq_true p104
                replace q104 := eq_true q104
                go_wp2
                repeat (go_quiet (fail); try go_wp2)
                go_roundg k1
                case measure => have := HK1.out; omega
                case rel => exact ⟨(wrap64 (x5_1 + 1)), (by first | rfl | (simp; done) | (simp [*]; done)), H', ⟨by have := HK1.out; omega⟩, by repeat (first | exact Drawn0.refl _ | apply Drawn0.step)⟩
              · rw [if_neg c7] at H
                have c7b0 : ((rd l0 x5_1) == (rd l1 x5_1)) = false := beq_eq_false_iff_ne.mpr c7
                have c7b1 : ((rd l0 x5_1) != (rd l1 x5_1)) = true := bne_iff_ne.mpr c7
                obtain rfl := Option.some.inj H
                have p103 : 0 ≤ (x5_1 : Int) := of_decide_eq_true (by first | (with_reducible assumption) | assumption)
                have q103 : x5_1 < (l0.length : Int) := of_decide_eq_true (by first | (with_reducible assumption) | assumption)
                obtain ⟨ad103, e103, hx103_0⟩ := Kd.at_int HR0.out x5_1 p103 q103
                cases e103
                replace p103 := eq_true p103
                replace q103 := eq_true q103
                have p104 : 0 ≤ (x5_1 : Int) := of_decide_eq_true (by first | (with_reducible assumption) | assumption)
                have q104 : x5_1 < (l1.length : Int) := of_decide_eq_true (by first | (with_reducible assumption) | assumption)
                obtain ⟨ad104, e104, hx104_0⟩ := Kd.at_int HR1.out x5_1 p104 q104
                cases e104
                replace p104 := eq_true p104
                replace q104 := eq_true q104
                go_wp2
                repeat (go_quiet (fail); try go_wp2)
                go_ret
                exact ⟨by first | rfl | (simp; done) | (simp [*]; done), by repeat (first | exact Drawn0.refl _ | apply Drawn0.step)⟩
            · rw [if_neg c6] at H
              exact absurd H (by simp)
          · rw [if_neg c5] at H
            exact absurd H (by simp)
        · rw [if_neg c4] at H
          have c4b0 : decide (x5_1 < (l0.length : Int)) = false := decide_eq_false c4
          clear c4
          obtain rfl := Option.some.inj H
          go_wp2
          repeat (go_quiet (fail); try go_wp2)
          go_ret
          exact ⟨by first | rfl | (simp; done) | (simp [*]; done), by repeat (first | exact Drawn0.refl _ | apply Drawn0.step)⟩
  · rw [if_neg c3] at H
    have c3b0 : ((l0.length : Int) == (l1.length : Int)) = false := beq_eq_false_iff_ne.mpr c3
    have c3b1 : ((l0.length : Int) != (l1.length : Int)) = true := bne_iff_ne.mpr c3
    have c3b2 : (l0.length == l1.length) = false := by first | simpa using c3 | (simp at c3 ⊢; omega)
    obtain rfl := Option.some.inj H
    go_enter Try.func30, Try.ntmps30
    go_wp2
    repeat (go_quiet (fail); try go_wp2)
    go_ret
    exact ⟨by first | rfl | (simp; done) | (simp [*]; done), by repeat (first | exact Drawn0.refl _ | apply Drawn0.step)⟩

-- NOT PRINTED: function 40 (wire_Writer_Text)

/-! ### wire_Reader_fail: function 60 -/
def wire_Reader_fail.f (s0_0 : List Int) (s0_1 : Int) (a1 : Int) : Option (Int) := if s0_1 = 0 then (some a1) else (some s0_1)
set_option maxHeartbeats 8000000 in
set_option maxRecDepth 100000 in
theorem wire_Reader_fail.calls (g : Nat) (s0_0 : List Int) (s0_1 : Int) (a1 : Int) (r : Int) (w0 w : World) (hI : IsS79 w0 w g s0_0 s0_1) (hB : Below w0.heap.size w0 w) (h : wire_Reader_fail.f s0_0 s0_1 a1 = some r) :
    Calls Try.prog 60 #[.pointer (some ⟨g, 0, none⟩), .int .i64 a1] w fun e w' => e = .returned (.tuple #[]) ∧ IsS79 w0 w' g s0_0 r ∧ Below w0.heap.size w0 w' ∧ KeepBut w w' g none := by
  have HI0 := Aside0.mk hI
  have HK := Aside0.mk (KeepBut.refl w g none)
  have HL := Aside0.mk hB.size
  clear hI
  have HW0 := Aside0.mk hB.size
  have HB := Aside0.mk hB
  clear hB
  have H : (if s0_1 = 0 then (some a1) else (some s0_1)) = some r := h
  clear h
  by_cases c3 : s0_1 = 0
  · rw [if_pos c3] at H
    have c3b0 : (s0_1 == 0) = true := beq_iff_eq.mpr c3
    have c3b1 : (s0_1 != 0) = false := bne_eq_false_iff_eq.mpr c3
    clear c3
    obtain rfl := Option.some.inj H
    obtain ⟨ASz4_0, cSz4_0, HGz4, hgz4, HSz4_0⟩ := HI0.out
    have hcz4_0 := cellS79_0 HGz4
    have hcz4_1 := cellS79_1 HGz4
    have hfz4_1 := blk_frozen HGz4 1
    clear HGz4 hgz4
    go_enter Try.func60, Try.ntmps60
    go_wp2
    first | go_end0 | ((try simp only [Exit.inBlock, Exit.then]); refine bodyPost_ret (results_none rfl _ _ _) rfl ?_)
    exact ⟨by first | rfl | (simp [errW_none, errW_some] <;> rfl) | (simp [*, errW_none, errW_some] <;> rfl), by repeat (first | (with_reducible first | exact HI0.out | apply IsS79.alloc | apply IsS79.drewN | apply IsS79.drew | apply IsS79.set_1) | exact HI0.out), by repeat (first | (with_reducible first | exact HB.out | apply below_alloc | apply pw_below_drewN | apply below_drew1 | refine below_set ?_ (IsS79.ge HI0.out)) | exact HB.out), by repeat (first | (with_reducible first | exact HK.out | apply KeepBut.set_ | apply keep_drewN | apply keep_drew | apply keep_alloc) | exact HK.out)⟩
  · rw [if_neg c3] at H
    have c3b0 : (s0_1 == 0) = false := beq_eq_false_iff_ne.mpr c3
    have c3b1 : (s0_1 != 0) = true := bne_iff_ne.mpr c3
    obtain rfl := Option.some.inj H
    obtain ⟨ASz5_0, cSz5_0, HGz5, hgz5, HSz5_0⟩ := HI0.out
    have hcz5_0 := cellS79_0 HGz5
    have hcz5_1 := cellS79_1 HGz5
    have hfz5_1 := blk_frozen HGz5 1
    clear HGz5 hgz5
    go_enter Try.func60, Try.ntmps60
    go_wp2
    first | go_end0 | ((try simp only [Exit.inBlock, Exit.then]); refine bodyPost_ret (results_none rfl _ _ _) rfl ?_)
    exact ⟨by first | rfl | (simp [errW_none, errW_some] <;> rfl) | (simp [*, errW_none, errW_some] <;> rfl), by repeat (first | (with_reducible first | exact HI0.out | apply IsS79.alloc | apply IsS79.drewN | apply IsS79.drew | apply IsS79.set_1) | exact HI0.out), by repeat (first | (with_reducible first | exact HB.out | apply below_alloc | apply pw_below_drewN | apply below_drew1 | refine below_set ?_ (IsS79.ge HI0.out)) | exact HB.out), by repeat (first | (with_reducible first | exact HK.out | apply KeepBut.set_ | apply keep_drewN | apply keep_drew | apply keep_alloc) | exact HK.out)⟩

-- NOT PRINTED: function 56 (wire_Reader_next)

-- NOT PRINTED: function 41 (wire_Reader_Uint)

/-! ### wire_unzigzag: function 61 -/
def wire_unzigzag.f (a0 : Int) : Option (Int) := some (Go.bits .xor .i64 (wrap64 (a0 / 2)) (wrap64 (-(wrap64 (Go.bits .and .u64 a0 1)))))
set_option maxHeartbeats 8000000 in
set_option maxRecDepth 100000 in
theorem wire_unzigzag.calls (a0 : Int) (r : Int) (w : World) (h : wire_unzigzag.f a0 = some r) :
    Calls Try.prog 61 #[.int .u64 a0] w fun e w' => e = .returned (.int .i64 r) ∧ Drawn0 w w' := by
  have H : (some (Go.bits .xor .i64 (wrap64 (a0 / 2)) (wrap64 (-(wrap64 (Go.bits .and .u64 a0 1)))))) = some r := h
  clear h
  obtain rfl := Option.some.inj H
  go_enter Try.func61, Try.ntmps61
  go_wp2
  go_ret
  exact ⟨by first | rfl | (simp; done) | (simp [*]; done), by repeat (first | exact Drawn0.refl _ | apply Drawn0.step)⟩

-- NOT PRINTED: function 42 (wire_Reader_Int)

-- NOT PRINTED: function 55 (wire_list_byte)

-- NOT PRINTED: function 31 (wire_Reader_Raw)

-- NOT PRINTED: function 43 (wire_Reader_Text)

/-! ### refuterlaw02_lives: function 17 -/
def refuterlaw02_lives.f : Option Bool := some true
theorem sameBytes02_l0 (l : List Int) (hl : l.length ≤ 1000000000000) : ∀ (d i : Nat), l.length - i ≤ d → i ≤ l.length → refuterref01_SameBytes.l0 (d + 1) l l (i : Int) = some true := by
  intro d
  induction d with
  | zero => intro i h1 h2; simp only [refuterref01_SameBytes.l0]; rw [if_neg (by omega)]
  | succ d ih =>
    intro i h1 h2
    by_cases hlt : i < l.length
    · have hr := ih (i + 1) (by omega) (by omega)
      generalize d + 1 = d1 at hr
      simp only [refuterref01_SameBytes.l0]
      rw [if_pos (by omega), if_pos (by omega), if_pos (by omega), if_pos trivial, show wrap64 ((i : Int) + 1) = ((i + 1 : Nat) : Int) by unfold wrap64; omega]
      exact hr
    · generalize d + 1 = d1
      simp only [refuterref01_SameBytes.l0]; rw [if_neg (by omega)]
theorem sameBytes02_self (l : List Int) (hl : l.length ≤ 1000000000000) : refuterref01_SameBytes.f (l.length + 1) l l = some true := by
  unfold refuterref01_SameBytes.f
  rw [if_pos rfl]
  exact sameBytes02_l0 l hl l.length 0 (by omega) (by omega)
theorem sameBytes02_calls (l : List Int) (hl : l.length ≤ 1000000000000) (A0 : Option Addr) (c0 : Nat) (A1 : Option Addr) (c1 : Nat) (w : World) (hr0 : Kd.C (Kd.int .u8) w A0 l.length l) (hc0 : l.length ≤ c0) (hr1 : Kd.C (Kd.int .u8) w A1 l.length l) (hc1 : l.length ≤ c1) :
    Calls Try.prog 30 #[.slice A0 l.length c0, .slice A1 l.length c1] w fun e w' => e = .returned (.bool true) ∧ Drawn0 w w' :=
  refuterref01_SameBytes.calls (l.length + 1) A0 c0 l A1 c1 l true w hr0 hc0 hr1 hc1 (sameBytes02_self l hl)
theorem lives02_bytes : ([] ++ encU 300 ++ encI (-1)) ++ encRaw (bytesOf ⟨#[97, 98]⟩) = [172, 2, 1, 2, 97, 98] := by rw [show bytesOf ⟨#[97, 98]⟩ = [97, 98] from rfl, encU_300, encI_m1, encRaw_ab]; rfl
set_option maxHeartbeats 8000000 in
set_option maxRecDepth 100000 in
theorem lives02_any (w : World) : Calls Try.prog 17 #[] w fun e w' => e = .returned (.bool true) ∧ Below w.heap.size w w' := by
  have HW0 := Aside0.mk (WrW.new w)
  have HB0 : Aside0 (Below w.heap.size w (w.alloc (.cells #[.slice none 0 0] 26))) := ⟨below_alloc (Below.refl _ _) _⟩
  have L0 : Aside0 (([] : List Int).length + (encU 300).length ≤ 140737488355328) := ⟨by rw [encU_300]; decide⟩
  have L1 : Aside0 (([] ++ encU 300).length + 10 ≤ 140737488355328) := ⟨by rw [encU_300]; decide⟩
  have L2 : Aside0 (([] ++ encU 300 ++ encI (-1)).length + 10 + (⟨#[97, 98]⟩ : ByteArray).size ≤ 140737488355328) := ⟨by rw [encU_300, encI_m1]; decide⟩
  have HBY := Aside0.mk lives02_bytes
  go_enter Try.func17, Try.ntmps17
  go_wp2_with (first
    | (go_at_call 12; refine (Uint_w w.heap.size w.heap.size [] 300 _ HW0.out L0.out (by omega)).mono ?_; rintro e w1 ⟨rfl, HW, HB⟩; have HW1 := Aside0.mk HW; have HB1 := Aside0.mk HB; clear HW HB)
    | (go_at_call 14; refine (Int_w w.heap.size w.heap.size _ (-1) (by omega) (by omega) _ HW1.out L1.out).mono ?_; rintro e w2 ⟨rfl, HW, HB⟩; have HW2 := Aside0.mk HW; have HB2 := Aside0.mk HB; clear HW HB)
    | (go_at_call 40; refine (Text_w w.heap.size w.heap.size _ _ _ HW2.out L2.out).mono ?_; rintro e w3 ⟨rfl, HW, HB⟩; rw [HBY.out] at HW; have HW3 := Aside0.mk HW; have HB3 := Aside0.mk HB; clear HW HB)
    | (go_at_call 16; refine (Done_w w.heap.size w.heap.size _ _ HW3.out (by decide)).mono ?_; rintro e w4 ⟨v4, rfl, HO, HB⟩; obtain ⟨A4, c4, rfl, hlc, hn4, hC⟩ := C_row HO; have HC4 := Aside0.mk hC; have HN4 := Aside0.mk hn4; have HLC4 := Aside0.mk hlc; have HB4 := Aside0.mk HB; clear HO HB hC hlc hn4))
  have HB04 : Aside0 (Below w.heap.size w w4) := ⟨((HB0.out.trans HB1.out).trans (HB2.out.trans HB3.out)).trans (HB4.out.mono (((HB0.out.trans HB1.out).trans (HB2.out.trans HB3.out)).size))⟩
  refine (Read_r A4 c4 [172, 2, 1, 2, 97, 98] w4 HC4.out (by decide) HN4.out (by decide)).mono ?_
  rintro e w5 ⟨g1, b1, rfl, hR, hb1, hg1, hB⟩
  have HR5 := Aside0.mk hR
  have Hb1 := Aside0.mk hb1
  have HG1 := Aside0.mk hg1
  have HB5 := Aside0.mk hB
  clear hR hb1 hg1 hB HW0 HW1 HW2 HW3 HB0 HB1 HB2 HB3 HB4 L0 L1 L2 HBY HN4
  have HL := Aside0.mk (lit_R w5 [128, 0] w5.heap.size (Nat.le_refl _) (by decide))
  go_wp2_with (first
    | (go_at_call 21; obtain ⟨A6, c6, e6, hlc6, hn6, hC6⟩ := C_row HL.out; injection e6 with e6a e6b e6c; subst e6a e6c; refine (Read_r _ _ [128, 0] (w5.alloc (.cells (nums .u8 [128, 0]).toArray 5)) hC6 (by decide) hn6 (by decide)).mono ?_; rintro e w6 ⟨g2, b2, rfl, hR, hb2, hg2, hB⟩; have HR6 := Aside0.mk hR; have Hb2 := Aside0.mk hb2; have HG2 := Aside0.mk hg2; have HB6 := Aside0.mk hB; clear hR hb2 hg2 hB hlc6 hn6 hC6))
  have hlt1 := HR5.out.lt
  have hsz := World.size_alloc w5 (.cells (nums .u8 [128, 0]).toArray 5)
  have hg2 := HG2.out
  have hne : g1 ≠ g2 := by omega
  have hp2 : ¬ b2.P g1 := fun h => by have := (Hb2.out _ h).1; omega
  have hp1 : ¬ b1.P g2 := fun h => by have := (Hb1.out _ h).2; omega
  have hB56 : Below w5.heap.size w5 w6 := (below_alloc (Below.refl _ _) _).trans (HB6.out.mono (by omega))
  have HR1 := Aside0.mk (HR5.out.below hB56)
  have HB06 : Aside0 (Below w.heap.size w w6) := ⟨HB04.out.trans (HB5.out.mono HB04.out.size) |>.trans (hB56.mono (Nat.le_trans HB04.out.size HB5.out.size))⟩
  have HB46 : Aside0 (Below w4.heap.size w4 w6) := ⟨HB5.out.trans (hB56.mono HB5.out.size)⟩
  have HGE1 : Aside0 (w4.heap.size ≤ g1) := HG1
  have HGE : Aside0 (w.heap.size ≤ g1 ∧ w.heap.size ≤ g2 ∧ w4.heap.size ≤ w6.heap.size ∧ w4.heap.size ≤ g2) := ⟨by
    have h1 := HB04.out.size; have h2 := HB5.out.size; have h3 := HG1.out; have h4 := hB56.size
    exact ⟨by omega, by omega, by omega, by omega⟩⟩
  have HNE := Aside0.mk hne
  have HP1 := Aside0.mk hp1
  have HP2 := Aside0.mk hp2
  clear hlt1 hsz hg2 hne hp2 hp1 hB56 HR5 Hb1 Hb2 HG1 HG2 HB5 HB6 HL HB04
  go_wp2_with (first
    | (go_at_call 41; refine (Uint_r' st_1 _ HR1.out).mono ?_; rintro e w7 ⟨rfl, hR, hK⟩; have HR7 := Aside0.mk hR; have HK7 := Aside0.mk hK; clear hR hK)
    | (go_at_call_of 42 (Value.pointer (some ⟨g1, 0, none⟩)); refine (Int_r' st_2 _ HR7.out).mono ?_; rintro e w8 ⟨rfl, hR, hK⟩; have HR8 := Aside0.mk hR; have HK8 := Aside0.mk hK; clear hR hK)
    | (go_at_call 43; refine (Text_r' st_3 _ HR8.out).mono ?_; rintro e w9 ⟨rfl, hR, hK⟩; rw [show strOfNums [97, 98] = (⟨#[97, 98]⟩ : ByteArray) from rfl]; have HR9 := Aside0.mk hR; have HK9 := Aside0.mk ((HK7.out.trans HK8.out).trans hK); clear hR hK)
    | (go_at_call_of 42 (Value.pointer (some ⟨g2, 0, none⟩)); refine (Int_r' st_4 _ (HR6.out.other HK9.out HNE.out.symm HP2.out)).mono ?_; rintro e wa ⟨rfl, hR, hK⟩; have HRa := Aside0.mk hR; have HKa := Aside0.mk hK; clear hR hK))
  have HBa : Aside0 (Below w4.heap.size w4 wa) := ⟨(HB46.out.trans (HK9.out.below HGE.out.2.2.1 HGE1.out)).trans (HKa.out.below (Nat.le_trans HGE.out.2.2.1 HK9.out.keep.1) HGE.out.2.2.2)⟩
  have HB0a : Aside0 (Below w.heap.size w wa) := ⟨(HB06.out.trans (HK9.out.below HB06.out.size HGE.out.1)).trans (HKa.out.below (Nat.le_trans HB06.out.size HK9.out.keep.1) HGE.out.2.1)⟩
  have HR1a := Aside0.mk (HR9.out.other HKa.out HNE.out HP1.out)
  have HL := Aside0.mk (lit_R wa [172, 2, 1, 2, 97, 98] wa.heap.size (Nat.le_refl _) (by decide))
  clear HR6 HR9 HK9 HR8 HK8 HR7 HK7 HR1 HB06 HP1 HP2 HGE1 HGE HNE HB46 HKa
  generalize hWb : wa.alloc (.cells (nums .u8 [172, 2, 1, 2, 97, 98]).toArray 5) = wb at HL
  have HWb : Below wa.heap.size wa wb := by rw [← hWb]; exact below_alloc (Below.refl _ _) _
  have hWb' : wa.alloc (.cells #[.int .u8 172, .int .u8 2, .int .u8 1, .int .u8 2, .int .u8 97, .int .u8 98] 5) = wb := hWb
  rw [hWb']
  have HC := Aside0.mk (Kd.C_below HC4.out (HBa.out.trans (HWb.mono HBa.out.size)))
  have HR1b := Aside0.mk (HR1a.out.below HWb)
  have HR2b := Aside0.mk (HRa.out.below HWb)
  have HB0b : Aside0 (Below w.heap.size w wb) := ⟨HB0a.out.trans (HWb.mono HB0a.out.size)⟩
  clear hWb hWb' HWb HC4 HBa HRa HR1a HB0a
  go_wp2_with (first
    | (go_at_call 30; obtain ⟨A6, c6, e6, hlc6, hn6, hC6⟩ := C_row HL.out; injection e6 with e6a e6b e6c; subst e6a e6c; refine (sameBytes02_calls [172, 2, 1, 2, 97, 98] (by decide) _ _ _ _ _ HC.out HLC4.out hC6 hlc6).mono ?_; rintro e wc ⟨rfl, ⟨n1, rfl⟩⟩; clear hlc6 hn6 hC6)
    | (go_at_call_of 25 (Value.pointer (some ⟨g1, 0, none⟩)); refine (End_r' (st := .ok []) (n := 0) rfl _ (HR1b.out.drewN n1)).mono ?_; rintro e wc ⟨rfl, ⟨n2, rfl⟩⟩)
    | (go_at_call_of 25 (Value.pointer (some ⟨g2, 0, none⟩)); refine (End_r' (st := .err 2) (n := 2) rfl _ (HR2b.out.drewN (n1 + n2))).mono ?_; rintro e wc ⟨rfl, ⟨n3, rfl⟩⟩))
  go_ret
  exact ⟨rfl, pw_below_drewN HB0b.out _⟩
theorem refuterlaw02_lives.calls (r : Bool) (w : World) (h : refuterlaw02_lives.f = some r) : Calls Try.prog 17 #[] w fun e w' => e = .returned (.bool r) ∧ Below w.heap.size w w' := by
  obtain rfl := Option.some.inj h
  exact lives02_any w

/-! ### refuterlaw02_WireSizes: function 3 -/
def refuterlaw02_WireSizes.Pure : Prop := True
theorem tmod_small (x n : Int) (hn : 0 < n) (h0 : 0 ≤ x) : 0 ≤ Int.tmod x n ∧ Int.tmod x n < n := by
  rw [Int.tmod_eq_emod_of_nonneg h0]
  exact ⟨Int.emod_nonneg _ (by omega), Int.emod_lt_of_pos _ hn⟩
theorem around02 (a n : Int) (hn : 0 < n) (ha : -9223372036854775808 ≤ a ∧ a ≤ 9223372036854775807) : ∃ s : Int, 0 ≤ s ∧ s < n ∧ refuterref01_Around.f a n = some s := by
  unfold refuterref01_Around.f
  have hn0 : ¬ n = 0 := by omega
  rw [if_neg hn0, if_neg hn0]
  by_cases h : a < 0
  · rw [if_pos h, show wrap64 (-(wrap64 (a + 1))) = -(a + 1) by unfold wrap64; omega]
    exact ⟨_, (tmod_small _ n hn (by omega)).1, (tmod_small _ n hn (by omega)).2, rfl⟩
  · rw [if_neg h]
    exact ⟨_, (tmod_small _ n hn (by omega)).1, (tmod_small _ n hn (by omega)).2, rfl⟩
theorem wf_i64 (a : Int) (ha : (Lit.int .i64 a).wf = true) : -9223372036854775808 ≤ a ∧ a ≤ 9223372036854775807 := by
  have := bounds_i64 ha
  omega
theorem sizes_around (a : Int) (ha : (Lit.int .i64 a).wf = true) : ∃ s : Nat, s < 64 ∧ refuterref01_Around.f a 64 = some (s : Int) := by
  obtain ⟨s, h0, h1, h⟩ := around02 a 64 (by omega) (wf_i64 a ha)
  exact ⟨s.toNat, by omega, by rw [h]; congr 1; omega⟩
theorem sizes_bound (a : Int) (ha : (Lit.int .i64 a).wf = true) : ∃ m : Int, -63 ≤ m ∧ m ≤ 63 ∧ refuterref01_Bound.f a 63 = some m := by
  obtain ⟨s, h0, h1, h⟩ := around02 a 127 (by omega) (wf_i64 a ha)
  refine ⟨s - 63, by omega, by omega, ?_⟩
  unfold refuterref01_Bound.f
  rw [show wrap64 (wrap64 (2 * 63) + 1) = 127 by unfold wrap64; omega, h, Option.bind_some]
  congr 1
  unfold wrap64
  omega
def lenP (q : Nat) : Nat := if q = 0 then 0 else (encU q).length
theorem lenP_step (q : Nat) (h : 0 < q) : 1 + lenP (q / 128) = lenP q := by
  unfold lenP
  rw [if_neg (show ¬ q = 0 by omega)]
  by_cases c : q < 128
  · rw [if_pos (by omega), encU_small c]; rfl
  · rw [if_neg (by omega), encU_big c, List.length_cons]; omega
theorem lenP_start (k : Nat) : 1 + lenP (k / 128) = (encU k).length := by
  unfold lenP
  by_cases c : k < 128
  · rw [if_pos (by omega), encU_small c]; rfl
  · rw [if_neg (by omega), encU_big c, List.length_cons]; omega
set_option maxHeartbeats 8000000 in
set_option maxRecDepth 100000 in
theorem WireSizes_any (a0 : Nat) (a1 a2 : Int) (h0 : a0 < 18446744073709551616) (h1 : (Lit.int .i64 a1).wf = true) (h2 : (Lit.int .i64 a2).wf = true) (w : World) :
    Calls Try.prog 3 #[.int .u64 (a0 : Int), .int .i64 a1, .int .i64 a2] w fun e w' => e = .returned (.bool true) ∧ Below w.heap.size w w' := by
  obtain ⟨s, hs, hsf⟩ := sizes_around a2 h2
  obtain ⟨m, hm1, hm2, hmf⟩ := sizes_bound a1 h1
  have HSF := Aside0.mk hsf
  have HMF := Aside0.mk hmf
  clear hsf hmf
  go_enter Try.func3, Try.ntmps3
  go_wp2_with (first
    | (go_at_call 11; refine (refuterref01_Around.calls a2 64 (s : Int) _ HSF.out).mono ?_; rintro e w1 ⟨rfl, ⟨nd, rfl⟩⟩))
  have hk : ((a0 : Int) / 2 ^ s) = ((a0 / 2 ^ s : Nat) : Int) := by rw [Int.natCast_ediv]; norm_cast
  have hklt : a0 / 2 ^ s < 18446744073709551616 := Nat.lt_of_le_of_lt (Nat.div_le_self _ _) h0
  rw [hk]
  generalize a0 / 2 ^ s = K at hklt
  have HLS := Aside0.mk (lenP_start K)
  have HTEN := Aside0.mk (encU_ten K hklt)
  have hquo : ∀ q : Nat, q < 18446744073709551616 → IntKind.u64.wrap ((q : Int).tdiv 128) = ((q / 128 : Nat) : Int) := fun q h => by
    rw [Int.tdiv_eq_ediv_of_nonneg (by omega), IntKind.wrap_u64]; omega
  have HQUO := Aside0.mk hquo
  clear hquo
  go_loopw [8, 9] (fun v8 v9 wr => ∃ (z q : Nat), v8 = .int .i64 (z : Int) ∧ v9 = .int .u64 (q : Int) ∧ q < 18446744073709551616 ∧ Aside0 (z + lenP q = (encU K).length) ∧ wr = w.drewN nd) (fun _ v9 _ => (intOf v9).toNat)
  case atStart => exact ⟨1, K / 128, rfl, by rw [HQUO.out K hklt], by omega, HLS, rfl⟩
  case round =>
    obtain ⟨z, q, rfl, rfl, hq, HZ, rfl⟩ := hrel
    have hz10 : z ≤ 10 := by have := HZ.out; have := HTEN.out; omega
    by_cases hq0 : 0 < q
    · have hz1 : wrap64 ((z : Int) + 1) = (z : Int) + 1 := by unfold wrap64; omega
      go_wp2
      exact ⟨⟨z + 1, q / 128, rfl, by rw [Int.natCast_ediv]; rfl, by omega, ⟨by have := lenP_step q hq0; have := HZ.out; omega⟩, by first | rfl | trivial⟩, by simp only [intOf]; omega⟩
    · obtain rfl : q = 0 := by omega
      have hzl : Aside0 (z = (encU K).length) := ⟨by have := HZ.out; simp only [lenP, if_pos] at this; omega⟩
      have hneg : wrap64 (-m) = -m := by unfold wrap64; omega
      have hz63 : ∀ x : Int, -63 ≤ x → x ≤ 63 → (encI x).length = 1 := fun x h1 h2 => by
        unfold encI
        rw [encU_small (by unfold zig; split <;> omega)]; rfl
      have hm3 : Aside0 (([] ++ encI m ++ encI (-m) ++ encB (decide (0 < m))).length = 3) := ⟨by
        rw [List.length_append, List.length_append, List.length_append, hz63 m hm1 hm2, hz63 (-m) (by omega) (by omega)]
        unfold encB
        rw [encU_small (by split <;> omega)]; rfl⟩
      have HZ1 := Aside0.mk (hz63 m hm1 hm2)
      have HZ2 := Aside0.mk (hz63 (-m) (by omega) (by omega))
      clear hz63
      clear HZ
      have HW0 := Aside0.mk (WrW.new (w.drewN nd))
      have HLK : Aside0 (([] : List Int).length + (encU K).length ≤ 140737488355328) := ⟨by have := HTEN.out; simp only [List.length_nil]; omega⟩
      go_wp2_with (first
        | (go_at_call 12; refine (Uint_w w.heap.size w.heap.size [] K _ HW0.out HLK.out hklt).mono ?_; rintro e w1 ⟨rfl, HW, HB⟩; have HW1 := Aside0.mk HW; have HB1 := Aside0.mk HB; clear HW HB)
        | (go_at_call 13; refine (refuterref01_Bound.calls a1 63 m _ HMF.out).mono ?_; rintro e w2 ⟨rfl, ⟨n2, rfl⟩⟩; have HX0 := Aside0.mk (WrW.drewN (WrW.new w1) n2))
        | (go_at_call_of 14 (Value.int .i64 m); refine (Int_w w1.heap.size w1.heap.size [] m (by omega) (by omega) _ HX0.out (by decide)).mono ?_; rintro e w3 ⟨rfl, HW, HB⟩; have HX1 := Aside0.mk HW; have HB3 := Aside0.mk HB; clear HW HB)
        | (go_at_call_of 14 (Value.int .i64 (-m)); refine (Int_w w1.heap.size w1.heap.size _ (-m) (by omega) (by omega) _ HX1.out (by rw [List.length_append, HZ1.out]; decide)).mono ?_; rintro e w4 ⟨rfl, HW, HB⟩; have HX2 := Aside0.mk HW; have HB4 := Aside0.mk HB; clear HW HB)
        | (go_at_call 15; refine (Bool_w w1.heap.size w1.heap.size _ _ _ HX2.out (by rw [List.length_append, List.length_append, HZ1.out, HZ2.out]; decide)).mono ?_; rintro e w5 ⟨rfl, HW, HB⟩; have HX3 := Aside0.mk HW; have HB5 := Aside0.mk HB; clear HW HB))
      have hb15 : Below w1.heap.size w1 w5 := ((pw_below_drewN (below_alloc (Below.refl _ _) _) n2).trans HB3.out).trans (HB4.out.trans HB5.out)
      have hb05 : Below w.heap.size w w5 := by
        have h1 : Below w.heap.size w w1 := ((pw_below_drewN (Below.refl w.heap.size w) nd).alloc (Nat.le_refl _) _).trans HB1.out
        exact h1.trans (hb15.mono h1.size)
      have HW5 := Aside0.mk (WrW.kept HW1.out hb15)
      have HB05 := Aside0.mk hb05
      have HK1 : Aside0 ((([] : List Int) ++ encU K).length = z ∧ z ≤ 10) := ⟨by rw [List.nil_append]; exact hzl.out.symm, hz10⟩
      clear hb15 hb05 HB1 HB3 HB4 HB5 HX0 HX1 HX2 HW0 HW1 HLK
      have HLV := fun W => refuterlaw02_lives.calls true W rfl
      go_wp2_with (first
        | (go_at_call_of 16 (Value.pointer (some ⟨w.heap.size, 0, none⟩)); refine (Done_w w.heap.size w.heap.size _ _ HW5.out (by rw [HK1.out.1]; have := HK1.out.2; omega)).mono ?_; rintro e w6 ⟨v6, rfl, HO, HB⟩; obtain ⟨A6, c6, rfl, -, -, -⟩ := C_row HO; rw [HK1.out.1]; have HX6 := Aside0.mk (WrW.kept HX3.out HB); have HB6 := Aside0.mk (HB05.out.trans (HB.mono HB05.out.size)); clear HO HB)
        | (go_at_call_of 16 (Value.pointer (some ⟨w1.heap.size, 0, none⟩)); refine (Done_w w1.heap.size w1.heap.size _ _ HX6.out (by rw [hm3.out]; decide)).mono ?_; rintro e w7 ⟨v7, rfl, HO, HB⟩; obtain ⟨A7, c7, rfl, -, -, -⟩ := C_row HO; rw [hm3.out]; have HB7 := Aside0.mk (HB6.out.trans (HB.mono HB6.out.size)); clear HO HB)
        | (go_at_call 17; refine (HLV _).mono ?_; rintro e w8 ⟨rfl, HB⟩; have HB8 := Aside0.mk (HB7.out.trans (HB.mono HB7.out.size)); clear HB))
      go_ret
      exact ⟨rfl, HB8.out⟩
theorem refuterlaw02_WireSizes.walk (P : refuterlaw02_WireSizes.Pure) (a0 : Int) (a1 : Int) (a2 : Int) (w : World) (w0 : (Lit.int .u64 a0).wf = true) (w1 : (Lit.int .i64 a1).wf = true) (w2 : (Lit.int .i64 a2).wf = true) :
    Calls Try.prog 3 #[.int .u64 a0, .int .i64 a1, .int .i64 a2] w fun e w' => e = .returned (.bool true) ∧ Below w.heap.size w w' := by
  have h := bounds_u64 w0
  obtain ⟨n, rfl⟩ := Int.eq_ofNat_of_zero_le h.1
  exact WireSizes_any n a1 a2 (by omega) w1 w2 w

/-! ### refuterref02_Uint: function 44 -/
def refuterref02_Uint.l0 : Nat → Int → List Int → Option (List Int)
  | 0, _, _ => none
  | k + 1, x0, x3 => if x0 > 127 then (if x3.length < 140737488355328 then (refuterref02_Uint.l0 k (IntKind.u64.wrap (Int.tdiv x0 128)) (x3 ++ [(IntKind.u64.wrap (128 + (Int.tmod x0 128))) % 256])) else (none)) else (if x3.length < 140737488355328 then (some (x3 ++ [(x0) % 256])) else (none))
def refuterref02_Uint.f (k : Nat) (a0 : Int) : Option (List Int) := refuterref02_Uint.l0 k a0 ([] : List Int)
theorem refuterref02_Uint.mono_l : ∀ k, (∀ y0 y1, LeO (refuterref02_Uint.l0 k y0 y1) (refuterref02_Uint.l0 (k + 1) y0 y1))
  | 0 => fun _ _ r h => by simp [refuterref02_Uint.l0] at h
  | k + 1 => by
    have ih0 := refuterref02_Uint.mono_l k
    · intro y0 y1
      unfold refuterref02_Uint.l0
      repeat' first
      | (with_reducible exact ih0 _ _)
      | (with_reducible exact LeO.refl _)
      | (with_reducible exact LeO.none _)
      | (with_reducible refine LeO.ite ?_ ?_)
      | (with_reducible refine LeO.bind ?_ (fun _ => ?_))
      | exact ih0 _ _
      | exact LeO.none _
      | refine LeO.ite ?_ ?_
      | refine LeO.bind ?_ (fun _ => ?_)
theorem refuterref02_Uint.mono : ∀ a0 k, LeO (refuterref02_Uint.f k a0) (refuterref02_Uint.f (k + 1) a0) := by
  intro a0 k
  have ih0 := refuterref02_Uint.mono_l k
  unfold refuterref02_Uint.f
  repeat' first
      | (with_reducible exact ih0 _ _)
      | (with_reducible exact LeO.refl _)
      | (with_reducible exact LeO.none _)
      | (with_reducible refine LeO.ite ?_ ?_)
      | (with_reducible refine LeO.bind ?_ (fun _ => ?_))
      | exact ih0 _ _
      | exact LeO.none _
      | refine LeO.ite ?_ ?_
      | refine LeO.bind ?_ (fun _ => ?_)
set_option maxHeartbeats 8000000 in
set_option maxRecDepth 100000 in
theorem refuterref02_Uint.calls (k : Nat) (a0 : Int) (r : List Int) (w : World) (h : refuterref02_Uint.f k a0 = some r) :
    Calls Try.prog 44 #[.int .u64 a0] w fun e w' => ∃ v0_ : Value, e = .returned (v0_) ∧ Kd.R (Kd.int .u8) 5 w' w.heap.size (fun _ => True) v0_ r ∧ Below w.heap.size w w' := by
  have HB := Aside0.mk (Below.refl w.heap.size w)
  have H : (refuterref02_Uint.l0 k a0 ([] : List Int)) = some r := h
  clear h
  have H' := Aside0.mk H
  clear H
  go_enter Try.func44, Try.ntmps44
  go_wp2
  go_loopg [0, 3] k (fun kq v0 v3 w' => ∃ (x0_1 : Int) (x3_1 : List Int), v0 = .int .u64 x0_1 ∧ Aside0 (refuterref02_Uint.l0 kq x0_1 x3_1 = some r) ∧ Aside0 (kq ≤ k) ∧ Aside0 (Kd.R (Kd.int .u8) 5 w' w.heap.size (fun _ => True) v3 x3_1) ∧ Aside0 (Below w.heap.size w w'))
  case atStart => exact ⟨(a0), (([] : List Int)), (by first | rfl | (simp; done) | (simp [*]; done)), H', ⟨Nat.le_refl _⟩, ⟨by first | exact Kd.R_nil _ _ _ _ _ | exact Kd.N_nil _ _ _ _ _ | exact Kd.V_nil _ _ _ _ _ | exact Kd.Q_nil _ _ _ _ _ | exact Kd.S_nil _ _ _ _ _⟩, ⟨by repeat (first | (with_reducible first | exact HB.out | apply below_alloc | apply pw_below_drewN | apply below_drew1) | exact HB.out)⟩⟩
  case round =>
    clear H'
    obtain ⟨x0_1, x3_1, rfl, HA, HK1, HO_3, HB⟩ := hrel
    cases gk with
    | zero => exact absurd HA.out (by simp [refuterref02_Uint.l0])
    | succ k1 =>
      have H := HA.out
      clear HA
      simp only [refuterref02_Uint.l0] at H
      by_cases c2 : x0_1 > 127
      · rw [if_pos c2] at H
        have c2b0 : decide (127 < x0_1) = true := decide_eq_true c2
        clear c2
        by_cases c3 : x3_1.length < 140737488355328
        · rw [if_pos c3] at H
          have LMc3 := Aside0.mk c3
          clear c3
          obtain ⟨y107, hy107⟩ : ∃ y_ : List Int, y_ = (x3_1 ++ [(IntKind.u64.wrap (128 + (Int.tmod x0_1 128))) % 256]) := ⟨_, rfl⟩
          replace H : (refuterref02_Uint.l0 k1 (IntKind.u64.wrap (Int.tdiv x0_1 128)) y107) = some r := by first | (rw [hy107]; with_reducible exact H) | (have H2_ := (Option.bind_some _ _).symm.trans H; rw [hy107]; with_reducible exact H2_) | (have H2_ := (Option.bind_some _ _).symm.trans H; with_reducible exact H2_) | with_reducible exact H | (rw [hy107]; exact H) | exact H
          have Ny107 := Aside0.mk hy107
          clear hy107
          have H' := Aside0.mk H
          clear H
          go_wp2_with (first | ((with_reducible refine gate_builtin (b := .append) (xs := #[.tmp 6, .tmp 11]) rfl ?_); at_builtin; refine Kd.R_append (Kd.int .u8) (w0 := w) w.heap.size rfl (.tmp 6) (.tmp 11) 24 5 (.int .u8 0) 1 rfl Try.underlying24 info5 rfl (by decide) (by omega) u3 x3_1 ((IntKind.u64.wrap (128 + (Int.tmod x0_1 128))) % 256) [.int .u8 ((IntKind.u64.wrap (128 + (Int.tmod x0_1 128))) % 256)] (fun _ => True) (fun _ => False) rfl rfl ?aP (fun _ hk => hk.elim) ?aF ?aO ?aB ?aS ?aL ?_; (case aP => exact rfl); (case aB => exact (by repeat (first | (with_reducible first | exact HB.out | apply below_alloc | apply pw_below_drewN | apply below_drew1) | exact HB.out))); (case aF => exact (fun _ _ => trivial)); (case aO => exact (by (with_reducible repeat (first | apply Kd.R_alloc | apply Kd.R_drewN | apply Kd.R_drew)); exact HO_3.out)); (case aS => exact (below_size (by repeat (first | (with_reducible first | exact HB.out | apply below_alloc | apply pw_below_drewN | apply below_drew1) | exact HB.out)))); (case aL => have := LMc3.out; omega); intro v108 w4 ho hb hg hat; rw [← Ny107.out] at ho; have n0_ := Aside0.mk (hb); have n1_ := Aside0.mk (ho); clear HB; clear HO_3; have HB := n0_; have HO109 := n1_; clear n0_ n1_; clear ho hb hg hat))
          go_roundg k1
          case measure => have := HK1.out; omega
          case rel => exact ⟨(IntKind.u64.wrap (Int.tdiv x0_1 128)), (y107), (by first | rfl | (simp; done) | (simp [*]; done)), H', ⟨by have := HK1.out; omega⟩, ⟨by (with_reducible repeat (first | apply Kd.R_alloc | apply Kd.R_drewN | apply Kd.R_drew)); exact HO109.out⟩, ⟨by repeat (first | (with_reducible first | exact HB.out | apply below_alloc | apply pw_below_drewN | apply below_drew1) | exact HB.out)⟩⟩
        · rw [if_neg c3] at H
          exact absurd H (by simp)
      · rw [if_neg c2] at H
        have c2b0 : decide (127 < x0_1) = false := decide_eq_false c2
        clear c2
        by_cases c5 : x3_1.length < 140737488355328
        · rw [if_pos c5] at H
          have LMc5 := Aside0.mk c5
          clear c5
          obtain ⟨y110, hy110⟩ : ∃ y_ : List Int, y_ = (x3_1 ++ [(x0_1) % 256]) := ⟨_, rfl⟩
          replace H : (some y110) = some r := by first | (rw [hy110]; with_reducible exact H) | (have H2_ := (Option.bind_some _ _).symm.trans H; rw [hy110]; with_reducible exact H2_) | (have H2_ := (Option.bind_some _ _).symm.trans H; with_reducible exact H2_) | with_reducible exact H | (rw [hy110]; exact H) | exact H
          have Ny110 := Aside0.mk hy110
          clear hy110
          obtain rfl := Option.some.inj H
          go_wp2_with (first | ((with_reducible refine gate_builtin (b := .append) (xs := #[.tmp 15, .tmp 18]) rfl ?_); at_builtin; refine Kd.R_append (Kd.int .u8) (w0 := w) w.heap.size rfl (.tmp 15) (.tmp 18) 24 5 (.int .u8 0) 1 rfl Try.underlying24 info5 rfl (by decide) (by omega) u3 x3_1 ((x0_1) % 256) [.int .u8 ((x0_1) % 256)] (fun _ => True) (fun _ => False) rfl rfl ?aP (fun _ hk => hk.elim) ?aF ?aO ?aB ?aS ?aL ?_; (case aP => exact rfl); (case aB => exact (by repeat (first | (with_reducible first | exact HB.out | apply below_alloc | apply pw_below_drewN | apply below_drew1) | exact HB.out))); (case aF => exact (fun _ _ => trivial)); (case aO => exact (by (with_reducible repeat (first | apply Kd.R_alloc | apply Kd.R_drewN | apply Kd.R_drew)); exact HO_3.out)); (case aS => exact (below_size (by repeat (first | (with_reducible first | exact HB.out | apply below_alloc | apply pw_below_drewN | apply below_drew1) | exact HB.out)))); (case aL => have := LMc5.out; omega); intro v111 w6 ho hb hg hat; rw [← Ny110.out] at ho; have n0_ := Aside0.mk (hb); have n1_ := Aside0.mk (ho); clear HB; clear HO_3; have HB := n0_; have HO112 := n1_; clear n0_ n1_; clear ho hb hg hat))
          go_ret
          exact ⟨_, by first | rfl | (simp [errW_none, errW_some] <;> rfl) | (simp [*, errW_none, errW_some] <;> rfl), by (with_reducible repeat (first | apply Kd.R_alloc | apply Kd.R_drewN | apply Kd.R_drew)); exact HO112.out, by repeat (first | (with_reducible first | exact HB.out | apply below_alloc | apply pw_below_drewN | apply below_drew1) | exact HB.out)⟩
        · rw [if_neg c5] at H
          exact absurd H (by simp)

/-! ### refuterref02_Zigzag: function 62 -/
def refuterref02_Zigzag.f (a0 : Int) : Option (Int) := if a0 < 0 then (some (IntKind.u64.wrap ((IntKind.u64.wrap (2 * (IntKind.u64.wrap (wrap64 (-(wrap64 (a0 + 1))))))) + 1))) else (some (IntKind.u64.wrap (2 * (IntKind.u64.wrap (a0)))))
set_option maxHeartbeats 8000000 in
set_option maxRecDepth 100000 in
theorem refuterref02_Zigzag.calls (a0 : Int) (r : Int) (w : World) (h : refuterref02_Zigzag.f a0 = some r) :
    Calls Try.prog 62 #[.int .i64 a0] w fun e w' => e = .returned (.int .u64 r) ∧ Drawn0 w w' := by
  have H : (if a0 < 0 then (some (IntKind.u64.wrap ((IntKind.u64.wrap (2 * (IntKind.u64.wrap (wrap64 (-(wrap64 (a0 + 1))))))) + 1))) else (some (IntKind.u64.wrap (2 * (IntKind.u64.wrap (a0)))))) = some r := h
  clear h
  by_cases c2 : a0 < 0
  · rw [if_pos c2] at H
    have c2b0 : decide (a0 < 0) = true := decide_eq_true c2
    clear c2
    obtain rfl := Option.some.inj H
    go_enter Try.func62, Try.ntmps62
    go_wp2
    go_ret
    exact ⟨by first | rfl | (simp; done) | (simp [*]; done), by repeat (first | exact Drawn0.refl _ | apply Drawn0.step)⟩
  · rw [if_neg c2] at H
    have c2b0 : decide (a0 < 0) = false := decide_eq_false c2
    clear c2
    obtain rfl := Option.some.inj H
    go_enter Try.func62, Try.ntmps62
    go_wp2
    go_ret
    exact ⟨by first | rfl | (simp; done) | (simp [*]; done), by repeat (first | exact Drawn0.refl _ | apply Drawn0.step)⟩

/-! ### refuterref02_Int: function 45 -/
def refuterref02_Int.f (k : Nat) (a0 : Int) : Option (List Int) := (refuterref02_Zigzag.f a0).bind fun t113 => ((refuterref02_Uint.f k t113).bind fun t114 => (some t114))
theorem refuterref02_Int.mono : ∀ a0 k, LeO (refuterref02_Int.f k a0) (refuterref02_Int.f (k + 1) a0) := by
  intro a0 k
  unfold refuterref02_Int.f
  repeat' first
      | (with_reducible exact refuterref02_Uint.mono _ _)
      | (with_reducible exact LeO.refl _)
      | (with_reducible exact LeO.none _)
      | (with_reducible refine LeO.ite ?_ ?_)
      | (with_reducible refine LeO.bind ?_ (fun _ => ?_))
      | exact refuterref02_Uint.mono _ _
      | exact LeO.none _
      | refine LeO.ite ?_ ?_
      | refine LeO.bind ?_ (fun _ => ?_)
set_option maxHeartbeats 8000000 in
set_option maxRecDepth 100000 in
theorem refuterref02_Int.calls (k : Nat) (a0 : Int) (r : List Int) (w : World) (h : refuterref02_Int.f k a0 = some r) :
    Calls Try.prog 45 #[.int .i64 a0] w fun e w' => ∃ v0_ : Value, e = .returned (v0_) ∧ Kd.R (Kd.int .u8) 5 w' w.heap.size (fun _ => True) v0_ r ∧ Below w.heap.size w w' := by
  have HB := Aside0.mk (Below.refl w.heap.size w)
  have H : ((refuterref02_Zigzag.f a0).bind fun t113 => ((refuterref02_Uint.f k t113).bind fun t114 => (some t114))) = some r := h
  clear h
  replace H := Option.bind_eq_some_iff.mp H
  obtain ⟨t113, A20, H⟩ := H
  replace H : ((refuterref02_Uint.f k t113).bind fun t114 => (some t114)) = some r := H
  have A2 := Aside0.mk A20
  clear A20
  replace H := Option.bind_eq_some_iff.mp H
  obtain ⟨t114, A30, H⟩ := H
  replace H : (some t114) = some r := H
  have A3 := Aside0.mk A30
  clear A30
  obtain rfl := Option.some.inj H
  go_enter Try.func45, Try.ntmps45
  go_wp2_with (first | ((with_reducible refine gate_callee (f := 62) rfl ?_); refine goesL_ (some 4) rfl rfl Try.func62 (by kernel_rfl) rfl #[.int .i64 a0] rfl (by (try simp only [List.map_toArray, List.map_cons, List.map_nil]); first | done | rfl | (simp only [List.length_drop, List.length_take]; rfl)) ?_; (with_reducible refine (refuterref02_Zigzag.calls a0 t113 _ A2.out).mono ?_); rintro e w' ⟨rfl, ⟨nd, rfl⟩⟩; refine ⟨_, rfl, ?_⟩) | ((with_reducible refine gate_callee (f := 44) rfl ?_); refine goesL_ (some 5) rfl rfl Try.func44 (by kernel_rfl) rfl #[.int .u64 t113] rfl (by (try simp only [List.map_toArray, List.map_cons, List.map_nil]); first | done | rfl | (simp only [List.length_drop, List.length_take]; rfl)) ?_; (with_reducible refine (refuterref02_Uint.calls k t113 t114 _ A3.out).mono ?_); rintro e w4 ⟨v115, rfl, ho0, hb⟩; refine ⟨_, rfl, ?_⟩; have n0_ := Aside0.mk (Kd.R_lower ho0 (below_size (by repeat (first | (with_reducible first | exact HB.out | apply below_alloc | apply pw_below_drewN | apply below_drew1) | exact HB.out)))); have n1_ := Aside0.mk (below_step (by repeat (first | (with_reducible first | exact HB.out | apply below_alloc | apply pw_below_drewN | apply below_drew1) | exact HB.out)) hb); clear HB; have HO116 := n0_; have HB := n1_; clear n0_ n1_; (try clear hb); (try clear hb2); (try clear hk); (try clear hi); (try clear ho0)))
  go_ret
  exact ⟨_, by first | rfl | (simp [errW_none, errW_some] <;> rfl) | (simp [*, errW_none, errW_some] <;> rfl), by (with_reducible repeat (first | apply Kd.R_alloc | apply Kd.R_drewN | apply Kd.R_drew)); exact HO116.out, by repeat (first | (with_reducible first | exact HB.out | apply below_alloc | apply pw_below_drewN | apply below_drew1) | exact HB.out)⟩

/-! ### refuterref02_Bool: function 46 -/
def refuterref02_Bool.f (a0 : Bool) : Option (List Int) := if a0 = true then (some (([1] : List Int))) else (some (([0] : List Int)))
set_option maxHeartbeats 8000000 in
set_option maxRecDepth 100000 in
theorem refuterref02_Bool.calls (a0 : Bool) (r : List Int) (w : World) (h : refuterref02_Bool.f a0 = some r) :
    Calls Try.prog 46 #[.bool a0] w fun e w' => ∃ v0_ : Value, e = .returned (v0_) ∧ Kd.R (Kd.int .u8) 5 w' w.heap.size (fun _ => True) v0_ r ∧ Below w.heap.size w w' := by
  have HB := Aside0.mk (Below.refl w.heap.size w)
  have H : (if a0 = true then (some (([1] : List Int))) else (some (([0] : List Int)))) = some r := h
  clear h
  by_cases c2 : a0 = true
  · subst c2
    have H1 : (some (([1] : List Int))) = some r := by rw [if_pos rfl] at H; exact H
    clear H
    have H := H1
    clear H1
    obtain ⟨y117, hy117⟩ : ∃ y_ : List Int, y_ = (([1] : List Int)) := ⟨_, rfl⟩
    replace H : (some y117) = some r := by first | (rw [hy117]; with_reducible exact H) | (have H2_ := (Option.bind_some _ _).symm.trans H; rw [hy117]; with_reducible exact H2_) | (have H2_ := (Option.bind_some _ _).symm.trans H; with_reducible exact H2_) | with_reducible exact H | (rw [hy117]; exact H) | exact H
    have Ny117 := Aside0.mk hy117
    clear hy117
    obtain rfl := Option.some.inj H
    go_enter Try.func46, Try.ntmps46
    go_wp2_with (first | ((with_reducible refine gate_dst (N := 4) rfl ?_); refine Kd.R_lit (Kd.int .u8) _ 5 ?hg (N := 4) ?hd (xs := ([1] : List Int)) (inner := [.int .u8 1]) (ok := fun _ => True) (okp := fun _ => True) ?hr ?hp (fun _ hk => hk) trivial (Below.refl _ _) (Nat.le_refl _) (by simp) ?_; (case hd => rfl); (case hg => rfl); (case hr => first | (go_simp; done) | (go_simp; rfl)); (case hp => exact (Reps.one (show Kd.M (Kd.int .u8) _ _ _ 1 [.int .u8 1] from rfl) (Reps.none _ _))); intro v118 w3 ho4 hb hg_ hnew_; clear hg_ hnew_; (first | rw [← Ny117.out] at ho4 | (simp only [Int.reduceToNat] at ho4; rw [← Ny117.out] at ho4)); have n0_ := Aside0.mk (Kd.R_lower ho4 (below_size (by repeat (first | (with_reducible first | exact HB.out | apply below_alloc | apply pw_below_drewN | apply below_drew1) | exact HB.out)))); have n1_ := Aside0.mk (below_step (by repeat (first | (with_reducible first | exact HB.out | apply below_alloc | apply pw_below_drewN | apply below_drew1) | exact HB.out)) hb); clear HB; have HO119 := n0_; have HB := n1_; clear n0_ n1_; clear hb ho4))
    go_ret
    exact ⟨_, by first | rfl | (simp [errW_none, errW_some] <;> rfl) | (simp [*, errW_none, errW_some] <;> rfl), by (with_reducible repeat (first | apply Kd.R_alloc | apply Kd.R_drewN | apply Kd.R_drew)); exact HO119.out, by repeat (first | (with_reducible first | exact HB.out | apply below_alloc | apply pw_below_drewN | apply below_drew1) | exact HB.out)⟩
  · replace c2 := Bool.eq_false_iff.mpr c2
    subst c2
    have H1 : (some (([0] : List Int))) = some r := by rw [if_neg (show ¬ (false = true) by decide)] at H; exact H
    clear H
    have H := H1
    clear H1
    obtain ⟨y120, hy120⟩ : ∃ y_ : List Int, y_ = (([0] : List Int)) := ⟨_, rfl⟩
    replace H : (some y120) = some r := by first | (rw [hy120]; with_reducible exact H) | (have H2_ := (Option.bind_some _ _).symm.trans H; rw [hy120]; with_reducible exact H2_) | (have H2_ := (Option.bind_some _ _).symm.trans H; with_reducible exact H2_) | with_reducible exact H | (rw [hy120]; exact H) | exact H
    have Ny120 := Aside0.mk hy120
    clear hy120
    obtain rfl := Option.some.inj H
    go_enter Try.func46, Try.ntmps46
    go_wp2_with (first | ((with_reducible refine gate_dst (N := 5) rfl ?_); refine Kd.R_lit (Kd.int .u8) _ 5 ?hg (N := 5) ?hd (xs := ([0] : List Int)) (inner := [.int .u8 0]) (ok := fun _ => True) (okp := fun _ => True) ?hr ?hp (fun _ hk => hk) trivial (Below.refl _ _) (Nat.le_refl _) (by simp) ?_; (case hd => rfl); (case hg => rfl); (case hr => first | (go_simp; done) | (go_simp; rfl)); (case hp => exact (Reps.one (show Kd.M (Kd.int .u8) _ _ _ 0 [.int .u8 0] from rfl) (Reps.none _ _))); intro v121 w5 ho6 hb hg_ hnew_; clear hg_ hnew_; (first | rw [← Ny120.out] at ho6 | (simp only [Int.reduceToNat] at ho6; rw [← Ny120.out] at ho6)); have n0_ := Aside0.mk (Kd.R_lower ho6 (below_size (by repeat (first | (with_reducible first | exact HB.out | apply below_alloc | apply pw_below_drewN | apply below_drew1) | exact HB.out)))); have n1_ := Aside0.mk (below_step (by repeat (first | (with_reducible first | exact HB.out | apply below_alloc | apply pw_below_drewN | apply below_drew1) | exact HB.out)) hb); clear HB; have HO122 := n0_; have HB := n1_; clear n0_ n1_; clear hb ho6))
    go_ret
    exact ⟨_, by first | rfl | (simp [errW_none, errW_some] <;> rfl) | (simp [*, errW_none, errW_some] <;> rfl), by (with_reducible repeat (first | apply Kd.R_alloc | apply Kd.R_drewN | apply Kd.R_drew)); exact HO122.out, by repeat (first | (with_reducible first | exact HB.out | apply below_alloc | apply pw_below_drewN | apply below_drew1) | exact HB.out)⟩

/-! ### refuterref02_Raw: function 47 -/
def refuterref02_Raw.f (k : Nat) (l0 : List Int) : Option (List Int) := (refuterref02_Uint.f k (IntKind.u64.wrap ((l0.length : Int)))).bind fun t123 => (if t123.length + l0.length < 140737488355328 then (some (t123 ++ l0)) else (none))
theorem refuterref02_Raw.mono : ∀ a0 k, LeO (refuterref02_Raw.f k a0) (refuterref02_Raw.f (k + 1) a0) := by
  intro a0 k
  unfold refuterref02_Raw.f
  repeat' first
      | (with_reducible exact refuterref02_Uint.mono _ _)
      | (with_reducible exact LeO.refl _)
      | (with_reducible exact LeO.none _)
      | (with_reducible refine LeO.ite ?_ ?_)
      | (with_reducible refine LeO.bind ?_ (fun _ => ?_))
      | exact refuterref02_Uint.mono _ _
      | exact LeO.none _
      | refine LeO.ite ?_ ?_
      | refine LeO.bind ?_ (fun _ => ?_)
set_option maxHeartbeats 8000000 in
set_option maxRecDepth 100000 in
theorem refuterref02_Raw.calls (k : Nat) (A0 : Option Addr) (c0 : Nat) (l0 : List Int) (r : List Int) (w : World) (hr0 : Kd.C (Kd.int .u8) w A0 l0.length l0) (hc0 : l0.length ≤ c0) (h : refuterref02_Raw.f k l0 = some r) :
    Calls Try.prog 47 #[.slice A0 l0.length c0] w fun e w' => ∃ v0_ : Value, e = .returned (v0_) ∧ Kd.R (Kd.int .u8) 5 w' w.heap.size (fun _ => True) v0_ r ∧ Below w.heap.size w w' := by
  have HR0 := Aside0.mk hr0
  have HC0 := Aside0.mk hc0
  clear hr0 hc0
  have HB := Aside0.mk (Below.refl w.heap.size w)
  have H : ((refuterref02_Uint.f k (IntKind.u64.wrap ((l0.length : Int)))).bind fun t123 => (if t123.length + l0.length < 140737488355328 then (some (t123 ++ l0)) else (none))) = some r := h
  clear h
  replace H := Option.bind_eq_some_iff.mp H
  obtain ⟨t123, A20, H⟩ := H
  replace H : (if t123.length + l0.length < 140737488355328 then (some (t123 ++ l0)) else (none)) = some r := H
  have A2 := Aside0.mk A20
  clear A20
  by_cases c3 : t123.length + l0.length < 140737488355328
  · rw [if_pos c3] at H
    have LMc3 := Aside0.mk c3
    clear c3
    obtain ⟨y126, hy126⟩ : ∃ y_ : List Int, y_ = (t123 ++ l0) := ⟨_, rfl⟩
    replace H : (some y126) = some r := by first | (rw [hy126]; with_reducible exact H) | (have H2_ := (Option.bind_some _ _).symm.trans H; rw [hy126]; with_reducible exact H2_) | (have H2_ := (Option.bind_some _ _).symm.trans H; with_reducible exact H2_) | with_reducible exact H | (rw [hy126]; exact H) | exact H
    have Ny126 := Aside0.mk hy126
    clear hy126
    obtain rfl := Option.some.inj H
    go_enter Try.func47, Try.ntmps47
    go_wp2_with (first | ((with_reducible refine gate_callee (f := 44) rfl ?_); refine goesL_ (some 6) rfl rfl Try.func44 (by kernel_rfl) rfl #[.int .u64 (IntKind.u64.wrap ((l0.length : Int)))] rfl (by (try simp only [List.map_toArray, List.map_cons, List.map_nil]); first | done | rfl | (simp only [List.length_drop, List.length_take]; rfl)) ?_; (with_reducible refine (refuterref02_Uint.calls k (IntKind.u64.wrap ((l0.length : Int))) t123 _ A2.out).mono ?_); rintro e w4 ⟨v124, rfl, ho0, hb⟩; refine ⟨_, rfl, ?_⟩; have n0_ := Aside0.mk (Kd.R_lower ho0 (below_size (by repeat (first | (with_reducible first | exact HB.out | apply below_alloc | apply pw_below_drewN | apply below_drew1) | exact HB.out)))); have n1_ := Aside0.mk (below_step (by repeat (first | (with_reducible first | exact HB.out | apply below_alloc | apply pw_below_drewN | apply below_drew1) | exact HB.out)) hb); clear HB; have HO125 := n0_; have HB := n1_; clear n0_ n1_; (try clear hb); (try clear hb2); (try clear hk); (try clear hi); (try clear ho0)) | ((with_reducible refine gate_builtin (b := .append) (xs := #[.tmp 6, .tmp 7]) rfl ?_); at_builtin; refine Kd.R_append_rows (Kd.int .u8) (w0 := w) w.heap.size rfl (.tmp 6) (.tmp 7) 24 5 (.int .u8 0) 1 rfl Try.underlying24 info5 rfl (by decide) (by omega) v124 t123 l0 _ _ _ (fun _ => True) (fun _ => False) rfl rfl ?aO ?aR (fun _ _ h => h) (fun _ h => h.elim) ?aF ?aB ?aS ?aL ?_; (case aR => repeat (first | exact (Kd.C_below HR0.out HB.out) | (with_reducible refine Kd.C_alloc ?_ _) | (with_reducible refine Kd.C_drewN ?_ _) | (with_reducible refine Kd.C_drew ?_))); (case aB => exact (by repeat (first | (with_reducible first | exact HB.out | apply below_alloc | apply pw_below_drewN | apply below_drew1) | exact HB.out))); (case aF => exact (fun _ _ => trivial)); (case aO => exact (by (with_reducible repeat (first | apply Kd.R_alloc | apply Kd.R_drewN | apply Kd.R_drew)); exact HO125.out)); (case aS => exact (below_size (by repeat (first | (with_reducible first | exact HB.out | apply below_alloc | apply pw_below_drewN | apply below_drew1) | exact HB.out)))); (case aL => have := LMc3.out; omega); intro v127 w5 ho hb hg hat; rw [← Ny126.out] at ho; have n0_ := Aside0.mk (hb); have n1_ := Aside0.mk (ho); clear HB; clear HO125; have HB := n0_; have HO128 := n1_; clear n0_ n1_; clear ho hb hg hat))
    go_ret
    exact ⟨_, by first | rfl | (simp [errW_none, errW_some] <;> rfl) | (simp [*, errW_none, errW_some] <;> rfl), by (with_reducible repeat (first | apply Kd.R_alloc | apply Kd.R_drewN | apply Kd.R_drew)); exact HO128.out, by repeat (first | (with_reducible first | exact HB.out | apply below_alloc | apply pw_below_drewN | apply below_drew1) | exact HB.out)⟩
  · rw [if_neg c3] at H
    exact absurd H (by simp)

end Go.Proofs.Ytleomgkogbenaaa.PA
