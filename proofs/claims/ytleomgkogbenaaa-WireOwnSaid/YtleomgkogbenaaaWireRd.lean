/- The Reader: its methods, walked. -/
import Derived.Test.YtleomgkogbenaaaWireSt
import Derived.Test.YtleomgkogbenaaaWireWr
namespace Go.Proofs.Ytleomgkogbenaaa.WireRd
open Go.RowKit Go.Proofs.YtleomgkogbenaaaW.PrintWords Go.Proofs.YtleomgkogbenaaaW.PrintLast Go.Proofs.YtleomgkogbenaaaW.PrintMore Go.Proofs.Ytleomgkogbenaaa.WirePlain Go.Proofs.Ytleomgkogbenaaa.WireWr
set_option linter.unusedVariables false

def stIs : St → List Int → Int → Prop
  | .ok l, bs, e => l = bs ∧ e = 0
  | .err k, _, e => e = k ∧ k ≠ 0
/-- Nothing has turned but block g and what is new. -/
structure Keeps (W W' : World) (g : Nat) : Prop where
  os : W'.os = W.os
  tape : W'.tape = W.tape
  output : W'.output = W.output
  keep : KeepBut W W' g none
theorem Keeps.refl (W : World) (g : Nat) : Keeps W W g := ⟨rfl, rfl, rfl, KeepBut.refl _ _ _⟩
theorem Keeps.trans {W W1 W2 : World} {g : Nat} (h : Keeps W W1 g) (k : Keeps W1 W2 g) : Keeps W W2 g := ⟨k.os.trans h.os, k.tape.trans h.tape, k.output.trans h.output, h.keep.trans k.keep (.inl rfl)⟩
theorem Keeps.set_ {W W1 : World} {g : Nat} (h : Keeps W W1 g) (i : Nat) (u : Value) : Keeps W (W1.setCell ⟨g, i, none⟩ u) g := ⟨h.os, h.tape, h.output, h.keep.set_ i u⟩
theorem Keeps.drewN {W W1 : World} {g : Nat} (h : Keeps W W1 g) (n : Nat) : Keeps W (W1.drewN n) g := ⟨h.os, h.tape, h.output, keep_drewN h.keep n⟩
theorem Keeps.of_below {W W1 : World} (h : Below W.heap.size W W1) (g : Nat) : Keeps W W1 g := ⟨h.os, h.tape, h.output, KeepBut.of_below h g none⟩
theorem Keeps.belowB {W W1 W2 : World} {g : Nat} (h : Keeps W W1 g) (k : Below W.heap.size W1 W2) : Keeps W W2 g :=
  ⟨k.os.trans h.os, k.tape.trans h.tape, k.output.trans h.output, Nat.le_trans h.keep.1 k.size, fun i hi hg hr => (k.block i hi).trans (h.keep.2 i hi hg hr)⟩
theorem Keeps.below {B g : Nat} {W W1 : World} (h : Keeps W W1 g) (hB : B ≤ W.heap.size) (hg : B ≤ g) : Below B W W1 :=
  ⟨h.os, h.tape, h.output, h.keep.1, fun i hi => h.keep.2 i (by omega) (by omega) (by simp)⟩
/-- Blocks that stay as they were in a world. -/
structure Rb where
  P : Nat → Prop
  w : World
def Rb.pres (b : Rb) (W : World) : Prop := ∀ k, b.P k → W.heap[k]? = b.w.heap[k]? ∧ k < W.heap.size
theorem Rb.pres_set {b : Rb} {W : World} {g : Nat} (h : b.pres W) (hg : ¬ b.P g) (i : Nat) (u : Value) : b.pres (W.setCell ⟨g, i, none⟩ u) := fun k hk =>
  ⟨(Below.heap_setCell W ⟨g, i, none⟩ u k (fun (e : k = g) => hg (by rw [← e]; exact hk))).trans (h k hk).1, by simpa [World.setCell] using (h k hk).2⟩
theorem Rb.pres_below {b : Rb} {W W' : World} (h : b.pres W) (hk : Below W.heap.size W W') : b.pres W' := fun k hp => ⟨(hk.block k (h k hp).2).trans (h k hp).1, Nat.lt_of_lt_of_le (h k hp).2 hk.size⟩
theorem Rb.pres_keep {b : Rb} {W W' : World} {g : Nat} (h : b.pres W) (hk : Keeps W W' g) (hg : ¬ b.P g) : b.pres W' := fun k hp => ⟨(hk.keep.2 k (h k hp).2 (fun (e : k = g) => hg (by rw [← e]; exact hp)) (by simp)).trans (h k hp).1, Nat.lt_of_lt_of_le (h k hp).2 hk.keep.1⟩
/-- A reader (of type T) at block g of W, in the state st; its bytes lie in the blocks that b names, and are read as they were. -/
def RdW (T : Nat) (b : Rb) (W : World) (g : Nat) (st : St) : Prop :=
  b.pres W ∧ ¬ b.P g ∧ ∃ A c bs e, W.heap[g]? = some (.cells #[.slice A bs.length c, .int .i64 e] T (0, 0)) ∧ (∀ W', b.pres W' → Kd.C (Kd.int .u8) W' A bs.length bs) ∧ bs.length ≤ c ∧ (∀ x ∈ bs, 0 ≤ x ∧ x < 256) ∧ bs.length ≤ 17592186044416 ∧ stIs st bs e
theorem RdW.below {T g : Nat} {w0 : Rb} {W W' : World} {st : St} (h : RdW T w0 W g st) (hk : Below W.heap.size W W') : RdW T w0 W' g st := by
  obtain ⟨hB, hg, A, c, bs, e, hb, hr⟩ := h
  exact ⟨Rb.pres_below hB hk, hg, A, c, bs, e, (hk.block g (blk_lt hb)).trans hb, hr⟩
theorem RdW.other {T g g' : Nat} {w0 : Rb} {W W' : World} {st : St} (h : RdW T w0 W g st) (hk : Keeps W W' g') (hne : g ≠ g') (hB : ¬ w0.P g') : RdW T w0 W' g st := by
  obtain ⟨hB0, hg, A, c, bs, e, hb, hr⟩ := h
  exact ⟨Rb.pres_keep hB0 hk hB, hg, A, c, bs, e, hk.keep.blk hb hne (by simp), hr⟩
theorem RdW.drewN {T g : Nat} {w0 : Rb} {W : World} {st : St} (h : RdW T w0 W g st) (n : Nat) : RdW T w0 (W.drewN n) g st := h.below (pw_below_drewN (Below.refl _ _) n)

set_option maxHeartbeats 8000000 in
set_option maxRecDepth 100000 in
theorem fail_r (w0 : Rb) (g : Nat) (st : St) (k : Int) (hk : k ≠ 0) (w : World) (hI : RdW 79 w0 w g st) :
    Calls Try.prog 60 #[.pointer (some ⟨g, 0, none⟩), .int .i64 k] w fun e w' => e = .returned (.tuple #[]) ∧ RdW 79 w0 w' g (failS k st) ∧ Keeps w w' g := by
  obtain ⟨hB, hg, A, c, bs, e, hb, hC, hlc, hx, hll, hst⟩ := hI
  have hc1 : w.cell? ⟨g, 1, none⟩ = some (.int .i64 e) := (blk_cell hb 1).trans rfl
  have hf1 := blk_frozen hb 1
  have hb2 := blk_set hb 1 (.int .i64 k)
  have HK := Aside0.mk hk
  cases st with
  | ok l =>
    obtain ⟨rfl, rfl⟩ := hst
    have H : Aside0 (RdW 79 w0 (w.setCell ⟨g, 1, none⟩ (.int .i64 k)) g (failS k (.ok l))) := ⟨Rb.pres_set hB hg 1 _, hg, A, c, l, k, by simpa using hb2, hC, hlc, hx, hll, rfl, hk⟩
    clear hb hb2 hC hlc hx hg hB hk
    go_enter Try.func60, Try.ntmps60
    go_wp2
    first | go_end0 | ((try simp only [Exit.inBlock, Exit.then]); refine bodyPost_ret (results_none rfl _ _ _) rfl ?_)
    exact ⟨rfl, H.out, (Keeps.refl w g).set_ 1 _⟩
  | err l =>
    obtain ⟨rfl, he⟩ := hst
    have H : Aside0 (RdW 79 w0 w g (.err e)) := ⟨hB, hg, A, c, bs, e, hb, hC, hlc, hx, hll, rfl, he⟩
    have hb0 : (e == 0) = false := beq_eq_false_iff_ne.mpr he
    clear hb hb2 hC hlc hx hg hB hk
    go_enter Try.func60, Try.ntmps60
    go_wp2
    first | go_end0 | ((try simp only [Exit.inBlock, Exit.then]); refine bodyPost_ret (results_none rfl _ _ _) rfl ?_)
    exact ⟨rfl, H.out, Keeps.refl w g⟩

set_option maxHeartbeats 8000000 in
set_option maxRecDepth 100000 in
theorem next_r (w0 : Rb) (g : Nat) (st : St) (w : World) (hI : RdW 79 w0 w g st) :
    Calls Try.prog 56 #[.pointer (some ⟨g, 0, none⟩)] w fun e w' => e = .returned (.int .u8 (nextS st).1) ∧ RdW 79 w0 w' g (nextS st).2 ∧ Keeps w w' g := by
  have HI := Aside0.mk hI
  obtain ⟨hB, hg, A, c, bs, e, hb, hC, hlc, hx, hll, hst⟩ := hI
  have hc0 : w.cell? ⟨g, 0, none⟩ = some (.slice A bs.length c) := (blk_cell hb 0).trans rfl
  have hc1 : w.cell? ⟨g, 1, none⟩ = some (.int .i64 e) := (blk_cell hb 1).trans rfl
  have hf0 := blk_frozen hb 0
  match st, hst with
  | .ok (x :: r), hst =>
    obtain ⟨rfl, rfl⟩ := hst
    obtain ⟨ad, e1, hxc⟩ := Kd.at_int (hC w hB) 0 (by omega) (by simp)
    subst e1
    obtain ⟨A', hcut, hrd, hlc'⟩ := print_drop_of (P := Try.prog) (Value.int .u8) 0 24 5 .i64 Try.underlying24 (i := (Try.prog.info? 5).get (by rfl)) (by rfl) (by rfl) (some ad) c (x :: r) 1 (by omega) (by simp only [List.length_cons]; omega) hlc
    have hC' := fun W' (hp : w0.pres W') => Kd.C_of_reads (d := (0 : Int)) (h1 := fun _ => rfl) (hrd W' (Kd.reads_of_C (d := (0 : Int)) (h1 := fun _ => rfl) (hC W' hp)))
    have hrx : rd (x :: r) 0 = x := by simp [rd]
    rw [hrx] at hxc
    have e1 : Int.toNat 1 = 1 := rfl
    have e0 : Int.toNat 0 = 0 := rfl
    rw [e1] at hcut hlc'
    simp only [e1] at hC'
    rw [e0, show ad.add 0 = ad by simp [Addr.add]] at hxc
    rw [List.drop_one, List.tail_cons] at hlc'
    simp only [List.drop_one, List.tail_cons] at hcut hC'
    clear hrd hrx e1 e0
    have hlen : (((x :: r).length : Int) == 0) = false := by simp only [List.length_cons, beq_eq_false_iff_ne]; omega
    have hpos : (0 : Int) < ((x :: r).length : Int) := by simp only [List.length_cons]; omega
    have hb2 := blk_set hb 0 (.slice A' r.length (c - 1))
    have H : Aside0 (RdW 79 w0 (w.setCell ⟨g, 0, none⟩ (.slice A' r.length (c - 1))) g (.ok r)) := ⟨Rb.pres_set hB hg 0 _, hg, A', c - 1, r, 0, by simpa using hb2, hC', hlc', fun y hy => hx y (List.mem_cons_of_mem _ hy), by simp only [List.length_cons] at hll; omega, rfl, rfl⟩
    generalize (x :: r).length = n at hc0 hcut hlen hpos
    clear hb hb2 hC hlc hx hg hB hC' hlc' hst HI hll
    go_enter Try.func56, Try.ntmps56
    go_wp2
    go_ret
    exact ⟨rfl, H.out, (Keeps.refl w g).set_ 0 _⟩
  | .ok [], hst =>
    obtain ⟨rfl, rfl⟩ := hst
    clear hb hC hlc hx hg hB hll
    have hfl := fun W (h : RdW 79 w0 W g (.ok [])) => fail_r w0 g (.ok []) 3 (by decide) W h
    have HFL := Aside0.mk hfl
    clear hfl hst
    simp only [List.length_nil] at hc0
    go_enter Try.func56, Try.ntmps56
    go_wp2_with (first
      | (go_at_call 60; refine (HFL.out _ HI.out).mono ?_; rintro e w1 ⟨rfl, HW, HK⟩
         have HW1 := Aside0.mk HW; have HK1 := Aside0.mk HK
         obtain ⟨_, _, A1, c1, bs1, e1, hb1, _, _, _, _, rfl, _⟩ := HW
         have hcc : w1.cell? ⟨g, 1, none⟩ = some (.int .i64 3) := (blk_cell hb1 1).trans rfl
         clear hb1 HK))
    go_ret
    exact ⟨rfl, HW1.out, HK1.out⟩
  | .err k, hst =>
    obtain ⟨rfl, hk⟩ := hst
    have hk0 : (e != 0) = true := bne_iff_ne.mpr hk
    by_cases hz : bs.length = 0
    · have hfl := fun W (h : RdW 79 w0 W g (.err e)) => fail_r w0 g (.err e) 3 (by decide) W h
      have HFL := Aside0.mk hfl
      rw [hz] at hc0
      clear hb hC hlc hx hg hB hll hfl hz
      go_enter Try.func56, Try.ntmps56
      go_wp2_with (first
        | (go_at_call 60; refine (HFL.out _ HI.out).mono ?_; rintro e w1 ⟨rfl, HW, HK⟩
           have HW1 := Aside0.mk HW; have HK1 := Aside0.mk HK
           obtain ⟨_, _, A1, c1, bs1, e1, hb1, _, _, _, _, rfl, _⟩ := HW
           have hcc : w1.cell? ⟨g, 1, none⟩ = some (.int .i64 e1) := (blk_cell hb1 1).trans rfl
           clear hb1 HK))
      go_ret
      exact ⟨rfl, HW1.out, HK1.out⟩
    · have hlen : ((bs.length : Int) == 0) = false := by simp only [beq_eq_false_iff_ne]; omega
      clear hb hC hlc hx hg hB hll hz
      go_enter Try.func56, Try.ntmps56
      go_wp2
      go_ret
      exact ⟨rfl, HI.out, Keeps.refl w g⟩

/-- What the walk reads off a reader's block. -/
theorem RdW.cells {T g : Nat} {w0 : Rb} {W : World} {st : St} (h : RdW T w0 W g st) : ∃ e : Int, W.cell? ⟨g, 1, none⟩ = some (.int .i64 e) ∧ (match st with | .ok _ => e = 0 | .err k => e = k ∧ k ≠ 0) := by
  obtain ⟨_, _, A, c, bs, e, hb, _, _, _, _, hst⟩ := h
  refine ⟨e, (blk_cell hb 1).trans rfl, ?_⟩
  cases st with
  | ok l => exact hst.2
  | err k => exact hst
theorem RdW.byte {T g : Nat} {w0 : Rb} {W : World} {x : Int} {r : List Int} (h : RdW T w0 W g (.ok (x :: r))) : 0 ≤ x ∧ x < 256 := by
  obtain ⟨_, _, A, c, bs, e, hb, _, _, hx, _, rfl, _⟩ := h
  exact hx x List.mem_cons_self

set_option maxHeartbeats 8000000 in
set_option maxRecDepth 100000 in
theorem Uint_r (w0 : Rb) (g : Nat) (st : St) (w : World) (hI : RdW 79 w0 w g st) :
    Calls Try.prog 41 #[.pointer (some ⟨g, 0, none⟩)] w fun e w' => e = .returned (.int .u64 ((uintS st).1 : Int)) ∧ RdW 79 w0 w' g (uintS st).2 ∧ Keeps w w' g := by
  have HI := Aside0.mk hI
  have HK0 := Aside0.mk (Keeps.refl w g)
  clear hI
  generalize htar : uintS st = tar
  have HT : Aside0 ((∃ bs, st = .ok bs ∧ finU 0 0 (decU 0 bs) = tar) ∨ (∃ k, st = .err k ∧ (0, .err k) = tar)) := ⟨by
    cases st with
    | ok bs => exact .inl ⟨bs, rfl, htar⟩
    | err k => exact .inr ⟨k, rfl, htar⟩⟩
  clear htar
  go_enter Try.func41, Try.ntmps41
  go_wp2
  go_loopw [3, 4] (fun v3 v4 wr => ∃ (acc i : Int) (s : St), v3 = .int .u64 acc ∧ v4 = .int .i64 i ∧ Aside0 (RdW 79 w0 wr g s) ∧ Aside0 (Keeps w wr g) ∧
      Aside0 ((∃ (bs : List Int) (j a : Nat), s = .ok bs ∧ i = (j : Int) ∧ acc = (a : Int) ∧ j ≤ 9 ∧ a < 128 ^ j ∧ finU a j (decU j bs) = tar) ∨ (∃ k, s = .err k ∧ 0 ≤ i ∧ i ≤ 10 ∧ (0, .err k) = tar))) (fun _ v4 _ => 20 - (intOf v4).toNat)
  case atStart =>
    refine ⟨0, 0, st, rfl, rfl, HI, HK0, ⟨?_⟩⟩
    rcases HT.out with ⟨bs, h1, h2⟩ | ⟨k, h1, h2⟩
    · exact .inl ⟨bs, 0, 0, h1, rfl, rfl, by omega, by simp, h2⟩
    · exact .inr ⟨k, h1, by omega, by omega, h2⟩
  case round =>
    clear HT HI HK0
    obtain ⟨acc, i, s, rfl, rfl, HR, HK, HT⟩ := hrel
    obtain ⟨ev, hc1, he⟩ := HR.out.cells
    rcases HT.out with ⟨bs, j, a, rfl, rfl, rfl, hj, ha, ht⟩ | ⟨k, rfl, hi0, hi, ht⟩
    · obtain rfl : ev = 0 := he
      clear HT
      cases bs with
      | nil =>
        have htar : (0, St.err 3) = tar := ht
        clear ht
        have hnx : ∀ W, RdW 79 w0 W g (.ok []) → Calls Try.prog 56 #[.pointer (some ⟨g, 0, none⟩)] W fun e w' => e = .returned (.int .u8 0) ∧ RdW 79 w0 w' g (.err 3) ∧ Keeps W w' g := fun W h => next_r w0 g (.ok []) W h
        have hfl : ∀ W, RdW 79 w0 W g (.err 3) → Calls Try.prog 60 #[.pointer (some ⟨g, 0, none⟩), .int .i64 2] W fun e w' => e = .returned (.tuple #[]) ∧ RdW 79 w0 w' g (.err 3) ∧ Keeps W w' g := fun W h => fail_r w0 g (.err 3) 2 (by decide) W h
        have HNX := Aside0.mk hnx; have HFL := Aside0.mk hfl; have HTAR := Aside0.mk htar; have HA := Aside0.mk ha
        clear hnx hfl htar ha
        have hw1 : wrap64 ((j : Int) + 1) = (j : Int) + 1 := by unfold wrap64; omega
        have hw7 : wrap64 (7 * (j : Int)) = 7 * (j : Int) := by unfold wrap64; omega
        by_cases h0 : j = 0
        · subst h0
          go_wp2_with (first
            | (go_at_call 56; refine (HNX.out _ HR.out).mono ?_; rintro e w1 ⟨rfl, HW, HKK⟩; have HW1 := Aside0.mk HW; have HK1 := Aside0.mk HKK; obtain ⟨ev1, hcw, he1⟩ := HW.cells; obtain ⟨rfl, -⟩ := he1; clear HW HKK)
            | (go_at_call 60; refine (HFL.out _ HW1.out).mono ?_; rintro e w2 ⟨rfl, HW, HKK⟩; have HW2 := Aside0.mk HW; have HK2 := Aside0.mk HKK; obtain ⟨ev2, hcw2, he2⟩ := HW.cells; obtain ⟨rfl, -⟩ := he2; clear HW HKK))
          exact ⟨⟨_, _, .err 3, rfl, rfl, HW1, ⟨HK.out.trans HK1.out⟩, ⟨.inr ⟨3, rfl, by omega, by omega, HTAR.out⟩⟩⟩, by simp only [intOf]; omega⟩
        · have h0b : (0 : Int) < (j : Int) := by omega
          go_wp2_with (first
            | (go_at_call 56; refine (HNX.out _ HR.out).mono ?_; rintro e w1 ⟨rfl, HW, HKK⟩; have HW1 := Aside0.mk HW; have HK1 := Aside0.mk HKK; obtain ⟨ev1, hcw, he1⟩ := HW.cells; obtain ⟨rfl, -⟩ := he1; clear HW HKK)
            | (go_at_call 60; refine (HFL.out _ HW1.out).mono ?_; rintro e w2 ⟨rfl, HW, HKK⟩; have HW2 := Aside0.mk HW; have HK2 := Aside0.mk HKK; obtain ⟨ev2, hcw2, he2⟩ := HW.cells; obtain ⟨rfl, -⟩ := he2; clear HW HKK))
          all_goals exact ⟨⟨_, _, .err 3, rfl, rfl, HW2, ⟨(HK.out.trans HK1.out).trans HK2.out⟩, ⟨.inr ⟨3, rfl, by omega, by omega, HTAR.out⟩⟩⟩, by simp only [intOf]; omega⟩
      | cons ci r =>
        have hby := HR.out.byte
        obtain ⟨c, rfl⟩ := Int.eq_ofNat_of_zero_le hby.1
        have hc256 : c < 256 := by omega
        clear hby
        have hnx : ∀ W, RdW 79 w0 W g (.ok ((c : Int) :: r)) → Calls Try.prog 56 #[.pointer (some ⟨g, 0, none⟩)] W fun e w' => e = .returned (.int .u8 (c : Int)) ∧ RdW 79 w0 w' g (.ok r) ∧ Keeps W w' g := fun W h => next_r w0 g (.ok ((c : Int) :: r)) W h
        have hfl : ∀ W, RdW 79 w0 W g (.ok r) → Calls Try.prog 60 #[.pointer (some ⟨g, 0, none⟩), .int .i64 2] W fun e w' => e = .returned (.tuple #[]) ∧ RdW 79 w0 w' g (.err 2) ∧ Keeps W w' g := fun W h => fail_r w0 g (.ok r) 2 (by decide) W h
        have HNX := Aside0.mk hnx; have HFL := Aside0.mk hfl
        have hw1 : wrap64 ((j : Int) + 1) = (j : Int) + 1 := by unfold wrap64; omega
        have hw7 : wrap64 (7 * (j : Int)) = 7 * (j : Int) := by unfold wrap64; omega
        clear hnx hfl
        by_cases hP : (j = 9 ∧ (1 : Int) < (c : Int)) ∨ (0 < j ∧ (c : Int) = 0)
        · have htar : (0, St.err 2) = tar := by rw [← ht, decU, if_pos hP]; rfl
          have HTAR := Aside0.mk htar
          have HA := Aside0.mk ha
          clear htar ht ha
          rcases hP with ⟨rfl, h1⟩ | ⟨h0, h1⟩
          · go_wp2_with (first
            | (go_at_call 56; refine (HNX.out _ HR.out).mono ?_; rintro e w1 ⟨rfl, HW, HKK⟩; have HW1 := Aside0.mk HW; have HK1 := Aside0.mk HKK; obtain ⟨ev1, hcw, he1⟩ := HW.cells; obtain rfl := he1; clear HW HKK)
            | (go_at_call 60; refine (HFL.out _ HW1.out).mono ?_; rintro e w2 ⟨rfl, HW, HKK⟩; have HW2 := Aside0.mk HW; have HK2 := Aside0.mk HKK; obtain ⟨ev2, hcw2, he2⟩ := HW.cells; obtain ⟨rfl, -⟩ := he2; clear HW HKK))
            all_goals exact ⟨⟨_, _, .err 2, rfl, rfl, HW2, ⟨(HK.out.trans HK1.out).trans HK2.out⟩, ⟨.inr ⟨2, rfl, by omega, by omega, HTAR.out⟩⟩⟩, by simp only [intOf]; omega⟩
          · obtain rfl : c = 0 := by omega
            have h0b : (0 : Int) < (j : Int) := by omega
            go_wp2_with (first
            | (go_at_call 56; refine (HNX.out _ HR.out).mono ?_; rintro e w1 ⟨rfl, HW, HKK⟩; have HW1 := Aside0.mk HW; have HK1 := Aside0.mk HKK; obtain ⟨ev1, hcw, he1⟩ := HW.cells; obtain rfl := he1; clear HW HKK)
            | (go_at_call 60; refine (HFL.out _ HW1.out).mono ?_; rintro e w2 ⟨rfl, HW, HKK⟩; have HW2 := Aside0.mk HW; have HK2 := Aside0.mk HKK; obtain ⟨ev2, hcw2, he2⟩ := HW.cells; obtain ⟨rfl, -⟩ := he2; clear HW HKK))
            all_goals exact ⟨⟨_, _, .err 2, rfl, rfl, HW2, ⟨(HK.out.trans HK1.out).trans HK2.out⟩, ⟨.inr ⟨2, rfl, by omega, by omega, HTAR.out⟩⟩⟩, by simp only [intOf]; omega⟩
        · rw [decU, if_neg hP] at ht
          have hm : c % 128 < 128 := by omega
          have hand : Go.bits .andNot .u8 (c : Int) 128 = ((c % 128 : Nat) : Int) := andnot128 c hc256
          have h9c : j = 9 → c % 128 ≤ 1 := by omega
          have hor := shl_or a (c % 128) j (by rw [pow128]; exact ha) (fit_shl j (c % 128) hj hm h9c) (acc_lt j a hj ha)
          rw [pow128] at hor
          generalize hmm : c % 128 = m at hm hand hor
          have HMM := Aside0.mk hmm
          clear hmm h9c
          have HA := Aside0.mk ha
          have HTT := Aside0.mk ht
          have HO := Aside0.mk hor
          have HP := Aside0.mk hP
          clear ha ht hor hP
          by_cases h9 : j = 9
          · subst h9
            obtain rfl : c = 1 := by have := HP.out; omega
            go_wp2_with (first
              | (go_at_call 56; refine (HNX.out _ HR.out).mono ?_; rintro e w1 ⟨rfl, HW, HKK⟩; have HW1 := Aside0.mk HW; have HK1 := Aside0.mk HKK; obtain ⟨ev1, hcw, he1⟩ := HW.cells; obtain rfl := he1; clear HW HKK))
            have htar : (a + 128 ^ 9 * 1, St.ok r) = tar := by have h := HTT.out; rw [if_pos (by omega), Int.toNat_natCast] at h; exact h
            have hmc : m = 1 := by have := HMM.out; omega
            go_ret
            refine ⟨?_, by rw [← htar]; exact HW1.out, HK.out.trans HK1.out⟩
            have hO := HO.out
            subst hmc
            rw [← htar]
            refine Eq.trans ?_ (congrArg (fun x => Ending.returned (.int .u64 x)) hO)
            rfl
          · have h9b : ((j : Int) == 9) = false := by simp only [beq_eq_false_iff_ne]; omega
            by_cases h0 : j = 0
            · subst h0
              clear h9 h9b
              by_cases h128 : c < 128
              · go_wp2_with (first
                | (go_at_call 56; refine (HNX.out _ HR.out).mono ?_; rintro e w1 ⟨rfl, HW, HKK⟩; have HW1 := Aside0.mk HW; have HK1 := Aside0.mk HKK; obtain ⟨ev1, hcw, he1⟩ := HW.cells; obtain rfl := he1; clear HW HKK))
                have htar : (a + 128 ^ 0 * c, St.ok r) = tar := by have h := HTT.out; rw [if_pos (by omega), Int.toNat_natCast] at h; exact h
                have hmc : m = c := by have := HMM.out; omega
                go_ret
                refine ⟨?_, by rw [← htar]; exact HW1.out, HK.out.trans HK1.out⟩
                have hO := HO.out
                rw [show ((m : Int) * 2 ^ (7 * 0)) = (m : Int) by simp, show IntKind.u64.wrap (m : Int) = (m : Int) by rw [IntKind.wrap_u64]; omega] at hO
                rw [hO, ← htar, hmc]; rfl
              · go_wp2_with (first
                | (go_at_call 56; refine (HNX.out _ HR.out).mono ?_; rintro e w1 ⟨rfl, HW, HKK⟩; have HW1 := Aside0.mk HW; have HK1 := Aside0.mk HKK; obtain ⟨ev1, hcw, he1⟩ := HW.cells; obtain rfl := he1; clear HW HKK))
                have htar : finU (a + 128 ^ 0 * m) (0 + 1) (decU (0 + 1) r) = tar := by
                  have h := HTT.out
                  rw [if_neg (by omega), finU_step, show ((c : Int) - 128).toNat = m by have := HMM.out; omega] at h
                  exact h
                have hj8 : 0 + 1 ≤ 9 := by have := HP.out; omega
                have hO := HO.out
                rw [show ((m : Int) * 2 ^ (7 * 0)) = (m : Int) by simp, show IntKind.u64.wrap (m : Int) = (m : Int) by rw [IntKind.wrap_u64]; omega] at hO
                exact ⟨⟨_, _, .ok r, congrArg _ hO, rfl, HW1, ⟨HK.out.trans HK1.out⟩, ⟨.inl ⟨r, 0 + 1, a + 128 ^ 0 * m, rfl, by first | rfl | omega, rfl, hj8, acc_next _ _ _ HA.out hm, htar⟩⟩⟩, by simp only [intOf]; omega⟩
            · have h0b : (0 : Int) < (j : Int) := by omega
              have hcb : ((c : Int) == 0) = false := by have := HP.out; simp only [beq_eq_false_iff_ne]; omega
              clear h9 h0
              by_cases h128 : c < 128
              · go_wp2_with (first
                | (go_at_call 56; refine (HNX.out _ HR.out).mono ?_; rintro e w1 ⟨rfl, HW, HKK⟩; have HW1 := Aside0.mk HW; have HK1 := Aside0.mk HKK; obtain ⟨ev1, hcw, he1⟩ := HW.cells; obtain rfl := he1; clear HW HKK))
                have htar : (a + 128 ^ j * c, St.ok r) = tar := by have h := HTT.out; rw [if_pos (by omega), Int.toNat_natCast] at h; exact h
                have hmc : m = c := by have := HMM.out; omega
                go_ret
                refine ⟨?_, by rw [← htar]; exact HW1.out, HK.out.trans HK1.out⟩
                have hO := HO.out
                rw [hO, ← htar, hmc]; rfl
              · go_wp2_with (first
                | (go_at_call 56; refine (HNX.out _ HR.out).mono ?_; rintro e w1 ⟨rfl, HW, HKK⟩; have HW1 := Aside0.mk HW; have HK1 := Aside0.mk HKK; obtain ⟨ev1, hcw, he1⟩ := HW.cells; obtain rfl := he1; clear HW HKK))
                have htar : finU (a + 128 ^ j * m) (j + 1) (decU (j + 1) r) = tar := by
                  have h := HTT.out
                  rw [if_neg (by omega), finU_step, show ((c : Int) - 128).toNat = m by have := HMM.out; omega] at h
                  exact h
                have hj8 : j + 1 ≤ 9 := by have := HP.out; omega
                have hO := HO.out
                exact ⟨⟨_, _, .ok r, congrArg _ hO, rfl, HW1, ⟨HK.out.trans HK1.out⟩, ⟨.inl ⟨r, j + 1, a + 128 ^ j * m, rfl, by first | rfl | omega, rfl, hj8, acc_next _ _ _ HA.out hm, htar⟩⟩⟩, by simp only [intOf]; omega⟩
    · have hne : (ev == 0) = false := beq_eq_false_iff_ne.mpr (by rw [he.1]; exact he.2)
      have HTAR := Aside0.mk ht
      clear HT he ht
      go_wp2
      go_ret
      refine ⟨?_, ?_, HK.out⟩
      · rw [← HTAR.out]; rfl
      · rw [← HTAR.out]; exact HR.out
end Go.Proofs.Ytleomgkogbenaaa.WireRd
