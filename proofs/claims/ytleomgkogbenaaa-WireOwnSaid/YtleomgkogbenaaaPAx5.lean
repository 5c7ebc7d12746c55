/- Written by a program of this session (pw.py, over the kit's printer): contracts, with their walks, of the Go functions that a law reaches; a text named ..Law.. proves the given statement of that law, with no condition of its own. -/
import Derived.Test.YtleomgkogbenaaaPAx0
import Derived.Test.YtleomgkogbenaaaPAx1
import Derived.Test.YtleomgkogbenaaaPAx2
import Derived.Test.YtleomgkogbenaaaPAx3
import Derived.Test.YtleomgkogbenaaaPAx4
namespace Go.Proofs.Ytleomgkogbenaaa.PA
open Go.Proofs.Ytleomgkogbenaaa.HashPlain
open Go.Proofs.Ytleomgkogbenaaa.WirePlain
open Go.Proofs.Ytleomgkogbenaaa.WireWr
open Go.Proofs.Ytleomgkogbenaaa.WireRd
open Go.Proofs.Ytleomgkogbenaaa.Pw
open Go.RowKit Go.Proofs.YtleomgkogbenaaaW.PrintWords Go.Proofs.YtleomgkogbenaaaW.PrintLast Go.Proofs.YtleomgkogbenaaaW.PrintMore
attribute [local go_sem] max2_int min2_int max_two min_two max_three min_three max_four min_four   -- for this text's walks alone
set_option linter.unusedVariables false
set_option linter.unusedSimpArgs false

/-! ### refuterlaw02_WireOwn: function 5 -/
def refuterlaw02_WireOwn.Pure : Prop := True
/-- Nothing has turned but blocks from a up to b, and what is new. -/
structure Off (a b : Nat) (W W' : World) : Prop where
  os : W'.os = W.os
  tape : W'.tape = W.tape
  output : W'.output = W.output
  size : W.heap.size ≤ W'.heap.size
  block : ∀ j, j < W.heap.size → (j < a ∨ b ≤ j) → W'.heap[j]? = W.heap[j]?
theorem Off.refl (a b : Nat) (W : World) : Off a b W W := ⟨rfl, rfl, rfl, Nat.le_refl _, fun _ _ _ => rfl⟩
theorem Off.set_ {a b : Nat} {W W' : World} (h : Off a b W W') {p : Addr} (h1 : a ≤ p.block) (h2 : p.block < b) (u : Value) : Off a b W (W'.setCell p u) :=
  ⟨h.os, h.tape, h.output, by simpa [World.setCell] using h.size, fun j hj hab => (Below.heap_setCell W' p u j (by omega)).trans (h.block j hj hab)⟩
theorem Off.below {a b : Nat} {W W' : World} (h : Off a b W W') : Below (min a W.heap.size) W W' := ⟨h.os, h.tape, h.output, h.size, fun j hj => h.block j (by omega) (by omega)⟩
theorem Off.belowA {a b B : Nat} {W W' : World} (h : Off a b W W') (h1 : B ≤ a) (h2 : B ≤ W.heap.size) : Below B W W' := ⟨h.os, h.tape, h.output, h.size, fun j hj => h.block j (by omega) (by omega)⟩
theorem R_off {k : IntKind} {e B a b : Nat} {W W' : World} {v : Value} {xs : List Int} (h : Kd.R (Kd.int k) e W B (fun _ => True) v xs) (hB : b ≤ B) (ho : Off a b W W') : Kd.R (Kd.int k) e W' B (fun _ => True) v xs :=
  Kd.R_mono (Kd.R_move (Kd.R_bound h) (fun j hj => ho.block j hj.2.2.1 (Or.inr (Nat.le_trans hB hj.2.1)))) (fun _ _ => trivial)
theorem RdW_off {T g a b : Nat} {w0 : Rb} {W W' : World} {st : St} (h : RdW T w0 W g st) (hg : g < a ∨ b ≤ g) (hP : ∀ j, w0.P j → (j < a ∨ b ≤ j)) (ho : Off a b W W') : RdW T w0 W' g st := by
  obtain ⟨hB, hn, A, c, bs, e, hb, hr⟩ := h
  exact ⟨fun j hj => ⟨(ho.block j (hB j hj).2 (hP j hj)).trans (hB j hj).1, Nat.lt_of_lt_of_le (hB j hj).2 ho.size⟩, hn, A, c, bs, e, (ho.block g (blk_lt hb) hg).trans hb, hr⟩
theorem WrW_same {base g : Nat} {W W' : World} {bs : List Int} (h : WrW base W g bs) (hn : ∀ j, base ≤ j → j < W.heap.size → W'.heap[j]? = W.heap[j]?) : WrW base W' g bs := by
  obtain ⟨v, hb, hg, hR⟩ := h
  exact ⟨v, (hn g hg (blk_lt hb)).trans hb, hg, Kd.R_mono (Kd.R_move (Kd.R_bound hR) (fun j hj => hn j hj.2.1 hj.2.2.1)) (fun j hj => hj.1)⟩
/-- A store into a row of the law's own. -/
theorem fill_step {k : IntKind} {e B b : Nat} {W W' : World} {gb n cap i : Nat} {ys : List Int} (x : Int) (h : Kd.R (Kd.int k) e W' B (fun _ => True) (.slice (some ⟨gb, 0, none⟩) n cap) ys) (ho : Off B b W W') (h1 : B ≤ gb) (h2 : gb < b) :
    Kd.R (Kd.int k) e (W'.setCell ⟨gb, i, none⟩ (.int k x)) B (fun _ => True) (.slice (some ⟨gb, 0, none⟩) n cap) (ys.set i x) ∧ Off B b W (W'.setCell ⟨gb, i, none⟩ (.int k x)) := by
  have h3 := (Kd.R_putg h (i : Int) x).1
  rw [Int.toNat_natCast] at h3
  exact ⟨h3, ho.set_ (p := ⟨gb, i, none⟩) h1 h2 _⟩
section
variable {ops : Array Oper} {rest : List Oper} {o : Oper} {a : Act} {Q : Exit → Act → World → Prop}
/-- append([]byte{}, xs...), behind 'at_builtin'. -/
theorem appClone (B : Nat) (W : World) (hgd : o.guard = none) (s y : Operand) (ho : o.op = .call { callee := .builtin .append, args := #[s, y], argTypes := #[24, 24] })
    (v1 : Value) (A : Option Addr) (c : Nat) (xs : List Int) (hs : a.eval s = v1) (hy : a.eval y = .slice A xs.length c) (hv : (Kd.int .u8).R 5 W B (fun _ => True) v1 []) (hC : Kd.C (Kd.int .u8) W A xs.length xs) (hB : B ≤ W.heap.size) (hl : xs.length ≤ 1000000)
    (h : ∀ v2 w2, Aside0 ((Kd.int .u8).R 5 w2 B (fun _ => True) v2 xs) → Aside0 (Below B W w2) → wpList Try.prog ops Q rest (a.put o.dst v2) w2) :
    wpList Try.prog ops Q (o :: rest) a W := by
  refine Kd.R_append_rows (Kd.int .u8) (w0 := W) B hgd s y 24 5 (.int .u8 0) 1 ho Try.underlying24 info_u8 rfl (by decide) (by omega) v1 [] xs A xs.length c (fun _ => True) (fun _ => False) hs hy hv hC (fun _ _ h => h) (fun _ h => h.elim) (fun _ _ => trivial) (Below.refl _ _) hB (by simp only [List.length_nil]; omega) ?_
  intro v2 w2 hr hb hg hat
  exact h v2 w2 ⟨hr⟩ ⟨hb⟩
end
theorem fewO (l : List Int) (n : Int) (hn0 : 0 ≤ n) (hn : n ≤ 1000) : refuterref01_Few.f l n = some (l.take n.toNat) := by
  unfold refuterref01_Few.f
  have h1 : 0 ≤ mn (l.length : Int) n ∧ mn (l.length : Int) n ≤ (l.length : Int) ∧ mn (l.length : Int) n ≤ n ∧ (mn (l.length : Int) n = (l.length : Int) ∧ (l.length : Int) ≤ n ∨ mn (l.length : Int) n = n) := by unfold mn; split <;> omega
  obtain ⟨h1, h2, h3, h4⟩ := h1
  have ht : l.take (mn (l.length : Int) n).toNat = l.take n.toNat := by
    rcases h4 with ⟨e, h5⟩ | e
    · rw [e, Int.toNat_natCast, List.take_of_length_le (Nat.le_refl _), List.take_of_length_le (by omega)]
    · rw [e]
  rw [if_pos h1, if_pos h2, ht, if_pos (by simp only [List.length_nil, List.length_take]; omega)]
  rfl
theorem intsO (l : List Int) (n : Int) (hn0 : 0 ≤ n) (hn : n ≤ 1000) : refuterref01_Ints.f l n = some (l.take n.toNat) := by
  unfold refuterref01_Ints.f
  have h1 : 0 ≤ mn (l.length : Int) n ∧ mn (l.length : Int) n ≤ (l.length : Int) ∧ mn (l.length : Int) n ≤ n ∧ (mn (l.length : Int) n = (l.length : Int) ∧ (l.length : Int) ≤ n ∨ mn (l.length : Int) n = n) := by unfold mn; split <;> omega
  obtain ⟨h1, h2, h3, h4⟩ := h1
  have ht : l.take (mn (l.length : Int) n).toNat = l.take n.toNat := by
    rcases h4 with ⟨e, h5⟩ | e
    · rw [e, Int.toNat_natCast, List.take_of_length_le (Nat.le_refl _), List.take_of_length_le (by omega)]
    · rw [e]
  rw [if_pos h1, if_pos h2, ht, if_pos (by simp only [List.length_nil, List.length_take]; omega)]
  rfl
set_option maxHeartbeats 16000000 in
set_option maxRecDepth 100000 in
theorem WireOwn_any (A0 : Option Addr) (c0 : Nat) (raw : List Int) (A9 : Option Addr) (c9 : Nat) (li : List Int) (w : World) (hR0 : Kd.C (Kd.int .u8) w A0 raw.length raw) (hc0 : raw.length ≤ c0) (hx0 : ∀ x ∈ raw, 0 ≤ x ∧ x < 256) (hR1 : Kd.C (Kd.int .i64) w A9 li.length li) (hc1 : li.length ≤ c9) (hx1 : ∀ x ∈ li, -9223372036854775808 ≤ x ∧ x ≤ 9223372036854775807) :
    Calls Try.prog 5 #[.slice A0 raw.length c0, .slice A9 li.length c9] w fun e w' => e = .returned (.bool true) ∧ Below w.heap.size w w' := by
  have HR0 := Aside0.mk hR0
  have HC0 := Aside0.mk hc0
  have HR1 := Aside0.mk hR1
  have HC1 := Aside0.mk hc1
  have HFEW := Aside0.mk (fewO raw 30 (by omega) (by omega))
  have HINT := Aside0.mk (intsO li 10 (by omega) (by omega))
  have HFB : Aside0 ((∀ y ∈ raw.take (30 : Int).toNat, 0 ≤ y ∧ y < 256) ∧ (raw.take (30 : Int).toNat).length ≤ 30) := ⟨fun y hy => hx0 y (List.mem_of_mem_take hy), by rw [List.length_take]; omega⟩
  have HIB : Aside0 (InR (li.take (10 : Int).toNat) ∧ (li.take (10 : Int).toNat).length ≤ 10) := ⟨fun y hy => by have := hx1 y (List.mem_of_mem_take hy); omega, by rw [List.length_take]; omega⟩
  generalize raw.take (30 : Int).toNat = F at HFEW HFB
  generalize li.take (10 : Int).toNat = I at HINT HIB
  have HLV := Aside0.mk (fun W => refuterlaw02_lives.calls true W rfl)
  clear hR0 hc0 hx0 hR1 hc1 hx1
  have HEL : Aside0 ((encRaw F ++ encInts I).length ≤ 200 ∧ (encRaw F).length ≤ 40) := ⟨by
    have h1 := encU_ten F.length (by have := HFB.out.2; omega)
    have h2 := encU_ten I.length (by have := HIB.out.2; omega)
    have h3 := encList_len I HIB.out.1
    have h4 := HFB.out.2
    have h5 := HIB.out.2
    unfold encRaw encInts
    rw [List.length_append, List.length_append, List.length_append]
    omega⟩
  have HEB : Aside0 (∀ y ∈ encRaw F ++ encInts I, 0 ≤ y ∧ y < 256) := ⟨fun y hy => by
    rcases List.mem_append.mp hy with h | h
    · exact encRaw_byte F HFB.out.1 y h
    · exact encInts_byte I y h⟩
  have HRAW : Aside0 (rawS (.ok (encRaw F ++ encInts I)) = (F, .ok (encInts I))) := ⟨rawS_enc F (encInts I) (by have := HFB.out.2; omega)⟩
  have HINS : Aside0 (intsS (.ok (encInts I)) = (I, .ok [])) := ⟨by have := intsS_enc I [] (by have := HIB.out.2; omega) HIB.out.1; rw [List.append_nil] at this; exact this⟩
  have HENN : Aside0 ([] ++ encRaw F ++ encInts I = encRaw F ++ encInts I) := ⟨by rw [List.nil_append]⟩
  generalize hE : encRaw F ++ encInts I = E at HEL HEB HRAW HENN
  clear hE
  go_enter Try.func5, Try.ntmps5
  go_wp2_with (first
    | (go_at_call 20; refine (refuterref01_Few.calls A0 c0 raw 30 F _ HR0.out HC0.out HFEW.out).mono ?_; rintro e w1 ⟨v1, rfl, hO, hB⟩; obtain ⟨A1, c1, rfl, -, -⟩ := Kd.R_reads hO; have HO1 := Aside0.mk hO; have HB1 := Aside0.mk hB; clear hO hB)
    | (go_at_call 27; refine (refuterref01_Ints.calls A9 c9 li 10 I _ (Kd.C_below HR1.out HB1.out) HC1.out HINT.out).mono ?_; rintro e w2 ⟨v2, rfl, hO, hB⟩; obtain ⟨A2, c2, rfl, -, -⟩ := Kd.R_reads hO; have HO2 := Aside0.mk hO; have HB12 := Aside0.mk hB; have HX0 := Aside0.mk (WrW.new w2); have HB23 : Aside0 (Below w2.heap.size w2 (w2.alloc (.cells #[.slice none 0 0] 26))) := (Aside0.mk (below_alloc (Below.refl _ _) _)); clear hO hB)
    | (go_at_call 28; refine (Raw_w w2.heap.size w2.heap.size [] A1 c1 F _ HX0.out (Kd.R_reads' (Kd.R_below (Kd.R_below HO1.out HB12.out) HB23.out)).2.2 (by have := HFB.out.2; simp only [List.length_nil]; omega) HFB.out.1).mono ?_; rintro e w4 ⟨rfl, HW, HB⟩; have HX4 := Aside0.mk HW; have HB24 := Aside0.mk (HB23.out.trans HB); clear HW HB)
    | (go_at_call 29; refine (Ints_w w2.heap.size w2.heap.size ([] ++ encRaw F) A2 c2 I _ HX4.out HB24.out.size (fun W hW => (Kd.R_reads' (Kd.R_below HO2.out (HB24.out.trans hW))).2.2) (by have := HEL.out.2; have := HIB.out.2; rw [List.nil_append]; omega) HIB.out.1).mono ?_; rintro e w5 ⟨rfl, HW, HB⟩; rw [HENN.out] at HW; have HX5 := Aside0.mk HW; have HB25 := Aside0.mk (HB24.out.trans HB); clear HW HB)
    | (go_at_call 16; refine (Done_w w2.heap.size w2.heap.size _ _ HX5.out (by have := HEL.out.1; omega)).mono ?_; rintro e w6 ⟨v6, rfl, hO, hB⟩; obtain ⟨A6, c6, rfl, -, -⟩ := Kd.R_reads hO; have HO6 := Aside0.mk hO; have HB56 := Aside0.mk hB; clear hO hB)
    | ((with_reducible refine gate_dst (N := 27) rfl ?_)
       refine Kd.R_lit (Kd.int .u8) w6.heap.size 5 ?hg (N := 27) ?hd (xs := ([] : List Int)) (inner := []) (ok := fun _ => True) (okp := fun _ => True) ?hr ?hp (fun _ hk => hk) trivial (Below.refl w6.heap.size w6) (Nat.le_refl _) (by simp) ?_
       (case hd => rfl)
       (case hg => rfl)
       (case hr => first | (go_simp; done) | (go_simp; rfl))
       (case hp => exact (Reps.none _ _))
       intro v7 w7 ho hb hg_ hnew_
       have HO7 := Aside0.mk ho; have HB67 := Aside0.mk hb
       clear hg_ hnew_ ho hb)
    | ((with_reducible refine gate_builtin (b := .append) (xs := #[.tmp 27, .tmp 28]) rfl ?_); at_builtin
       refine appClone w6.heap.size w7 rfl (.tmp 27) (.tmp 28) rfl v7 A6 c6 E rfl rfl HO7.out (Kd.R_reads' (Kd.R_below HO6.out HB67.out)).2.2 HB67.out.size (by have := HEL.out.1; omega) ?_
       intro v8 w8 HO8 HB78
       obtain ⟨A8, c8, rfl, -, -⟩ := Kd.R_reads HO8.out))
  have HB68 := Aside0.mk (HB67.out.trans HB78.out)
  have HS : Aside0 (w.heap.size ≤ w1.heap.size ∧ w1.heap.size ≤ w2.heap.size ∧ w2.heap.size ≤ w5.heap.size ∧ w5.heap.size ≤ w6.heap.size ∧ w6.heap.size ≤ w8.heap.size) := ⟨HB1.out.size, HB12.out.size, HB25.out.size, HB56.out.size, HB68.out.size⟩
  have HB28 := Aside0.mk (HB25.out.trans ((HB56.out.trans (HB68.out.mono HB56.out.size)).mono HB25.out.size))
  have HB18 := Aside0.mk (HB12.out.trans (HB28.out.mono HB12.out.size))
  have HB08 := Aside0.mk (HB1.out.trans (HB18.out.mono HB1.out.size))
  have HP1 := Aside0.mk (Kd.R_below HO1.out HB18.out)
  have HP2 := Aside0.mk (Kd.R_below HO2.out HB28.out)
  have HP6 := Aside0.mk (Kd.R_below HO6.out HB68.out)
  have HL1 : Aside0 (∀ j, (Value.slice A1 F.length c1).ownBlock = some j → j < w1.heap.size) := ⟨fun j hj => by obtain ⟨inn, ho⟩ := Kd.R_own HO1.out; exact own_lt ho j hj⟩
  have HL2 : Aside0 (∀ j, (Value.slice A2 I.length c2).ownBlock = some j → j < w2.heap.size) := ⟨fun j hj => by obtain ⟨inn, ho⟩ := Kd.R_own HO2.out; exact own_lt ho j hj⟩
  have HL6 : Aside0 (∀ j, (Value.slice A6 E.length c6).ownBlock = some j → j < w6.heap.size) := ⟨fun j hj => by obtain ⟨inn, ho⟩ := Kd.R_own HO6.out; exact own_lt ho j hj⟩
  have HN : Aside0 (F.length ≤ 30 ∧ I.length ≤ 10 ∧ E.length ≤ 200) := ⟨HFB.out.2, HIB.out.2, HEL.out.1⟩
  clear HO1 HO2 HO6 HO7 HB12 HB23 HB24 HB67 HB78 HX0 HX4 HENN HFB HFEW HB1 HB18
  go_loopw [10] (fun vi wr => ∃ (k : Nat) (ys : List Int), vi = .int .i64 (k : Int) ∧ k ≤ F.length ∧ ys.length = F.length ∧ Aside0 ((Kd.int .u8).R 5 wr w.heap.size (fun _ => True) (.slice A1 F.length c1) ys) ∧ Aside0 (Off w.heap.size w1.heap.size w8 wr)) (fun vi _ => F.length - (intOf vi).toNat)
  case atStart => exact ⟨0, _, rfl, Nat.zero_le _, rfl, HP1, ⟨Off.refl _ _ _⟩⟩
  case round =>
    obtain ⟨k, ys, rfl, hk, hyl, HRY, HOFa⟩ := hrel
    have HYL := Aside0.mk hyl
    clear hyl
    by_cases hlt : k < F.length
    · obtain ⟨gb, cap, he, hgb, -⟩ := Kd.R_form HRY.out (by have := HYL.out; omega)
      injection he with he1 he2 he3
      subst he1
      subst he3
      have hgl := HL1.out gb (by simp [Value.ownBlock])
      obtain ⟨hcx, hcf⟩ := Kd.R_celln (d := 0) HRY.out (k : Int) (by omega) (by omega)
      rw [Int.toNat_natCast] at hcx hcf
      have hst := fill_step (i := k) 7 HRY.out HOFa.out hgb hgl
      have HS1 := Aside0.mk hst.1
      have HS2 := Aside0.mk hst.2
      have hk1 : wrap64 ((k : Int) + 1) = (k : Int) + 1 := by have := HN.out.1; unfold wrap64; omega
      clear hst he2 hgb hgl
      go_wp2
      exact ⟨⟨k + 1, ys.set k 7, by first | (rw [hk1]; rfl) | rfl, by omega, by rw [List.length_set]; exact HYL.out, HS1, HS2⟩, by first | (rw [hk1]; simp only [intOf]; omega) | (simp only [intOf]; omega)⟩
    · have hd1 : decide (k < F.length) = false := decide_eq_false hlt
      obtain ⟨W_a, hW_a⟩ : ∃ W_ : World, W_ = wr := ⟨_, rfl⟩
      subst hW_a
      clear HRY HYL hk
      go_wp2
      clear hd1 hlt
      have HP2a : Aside0 ((Kd.int .i64).R 3 W_a w1.heap.size (fun _ => True) (.slice A2 I.length c2) I) := ⟨R_off HP2.out (Nat.le_refl _) HOFa.out⟩
      clear HP2 HP1 HL1
      go_loopw [11] (fun vi wr => ∃ (k : Nat) (ys : List Int), vi = .int .i64 (k : Int) ∧ k ≤ I.length ∧ ys.length = I.length ∧ Aside0 ((Kd.int .i64).R 3 wr w1.heap.size (fun _ => True) (.slice A2 I.length c2) ys) ∧ Aside0 (Off w1.heap.size w2.heap.size W_a wr)) (fun vi _ => I.length - (intOf vi).toNat)
      case atStart => exact ⟨0, _, rfl, Nat.zero_le _, rfl, HP2a, ⟨Off.refl _ _ _⟩⟩
      case round =>
        obtain ⟨k, ys, rfl, hk, hyl, HRY, HOFb⟩ := hrel
        have HYL := Aside0.mk hyl
        clear hyl
        by_cases hlt : k < I.length
        · obtain ⟨gb, cap, he, hgb, -⟩ := Kd.R_form HRY.out (by have := HYL.out; omega)
          injection he with he1 he2 he3
          subst he1
          subst he3
          have hgl := HL2.out gb (by simp [Value.ownBlock])
          obtain ⟨hcx, hcf⟩ := Kd.R_celln (d := 0) HRY.out (k : Int) (by omega) (by omega)
          rw [Int.toNat_natCast] at hcx hcf
          have hst := fill_step (i := k) 7 HRY.out HOFb.out hgb hgl
          have HS1 := Aside0.mk hst.1
          have HS2 := Aside0.mk hst.2
          have hk1 : wrap64 ((k : Int) + 1) = (k : Int) + 1 := by have := HN.out.2.1; unfold wrap64; omega
          clear hst he2 hgb hgl
          go_wp2
          exact ⟨⟨k + 1, ys.set k 7, by first | (rw [hk1]; rfl) | rfl, by omega, by rw [List.length_set]; exact HYL.out, HS1, HS2⟩, by first | (rw [hk1]; simp only [intOf]; omega) | (simp only [intOf]; omega)⟩
        · have hd1 : decide (k < I.length) = false := decide_eq_false hlt
          obtain ⟨W_b, hW_b⟩ : ∃ W_ : World, W_ = wr := ⟨_, rfl⟩
          subst hW_b
          clear HRY HYL hk
          go_wp2
          clear hd1 hlt
          have HP6b : Aside0 ((Kd.int .u8).R 5 W_b w5.heap.size (fun _ => True) (.slice A6 E.length c6) E) := ⟨R_off (R_off HP6.out (by have := HS.out; omega) HOFa.out) (by have := HS.out; omega) HOFb.out⟩
          clear HP6 HP2a HL2
          go_loopw [12] (fun vi wr => ∃ (k : Nat) (ys : List Int), vi = .int .i64 (k : Int) ∧ k ≤ E.length ∧ ys.length = E.length ∧ Aside0 ((Kd.int .u8).R 5 wr w5.heap.size (fun _ => True) (.slice A6 E.length c6) ys) ∧ Aside0 (Off w5.heap.size w6.heap.size W_b wr)) (fun vi _ => E.length - (intOf vi).toNat)
          case atStart => exact ⟨0, _, rfl, Nat.zero_le _, rfl, HP6b, ⟨Off.refl _ _ _⟩⟩
          case round =>
            obtain ⟨k, ys, rfl, hk, hyl, HRY, HOFc⟩ := hrel
            have HYL := Aside0.mk hyl
            clear hyl
            by_cases hlt : k < E.length
            · obtain ⟨gb, cap, he, hgb, -⟩ := Kd.R_form HRY.out (by have := HYL.out; omega)
              injection he with he1 he2 he3
              subst he1
              subst he3
              have hgl := HL6.out gb (by simp [Value.ownBlock])
              obtain ⟨hcx, hcf⟩ := Kd.R_celln (d := 0) HRY.out (k : Int) (by omega) (by omega)
              rw [Int.toNat_natCast] at hcx hcf
              have hst := fill_step (i := k) 9 HRY.out HOFc.out hgb hgl
              have HS1 := Aside0.mk hst.1
              have HS2 := Aside0.mk hst.2
              have hk1 : wrap64 ((k : Int) + 1) = (k : Int) + 1 := by have := HN.out.2.2; unfold wrap64; omega
              clear hst he2 hgb hgl
              go_wp2
              exact ⟨⟨k + 1, ys.set k 9, by first | (rw [hk1]; rfl) | rfl, by omega, by rw [List.length_set]; exact HYL.out, HS1, HS2⟩, by first | (rw [hk1]; simp only [intOf]; omega) | (simp only [intOf]; omega)⟩
            · have hd1 : decide (k < E.length) = false := decide_eq_false hlt
              obtain ⟨W_c, hW_c⟩ : ∃ W_ : World, W_ = wr := ⟨_, rfl⟩
              subst hW_c
              clear HRY HYL hk
              have HXc : Aside0 (WrW w2.heap.size W_c w2.heap.size E) := ⟨WrW_same HX5.out (fun j h1 h2 => by
                have hs := HS.out
                have ha := HOFa.out.size
                have hb := HOFb.out.size
                have e1 : w8.heap[j]? = w5.heap[j]? := (HB56.out.trans (HB68.out.mono HB56.out.size)).block j h2
                have e2 := HOFa.out.block j (by omega) (Or.inr (by omega))
                have e3 := HOFb.out.block j (by omega) (Or.inr (by omega))
                have e4 := HOFc.out.block j (by omega) (Or.inl (by omega))
                exact e4.trans (e3.trans (e2.trans e1)))⟩
              have HO8c : Aside0 ((Kd.int .u8).R 5 W_c w6.heap.size (fun _ => True) (.slice A8 E.length c8) E) := ⟨R_off (R_off (R_off HO8.out (by have := HS.out; omega) HOFa.out) (by have := HS.out; omega) HOFb.out) (Nat.le_refl _) HOFc.out⟩
              have HBc : Aside0 (Below w.heap.size w W_c) := ⟨by
                have hs := HS.out
                have ha := HOFa.out.size
                have hb := HOFb.out.size
                exact HB08.out.trans ((HOFa.out.belowA (Nat.le_refl _) (by omega)).trans ((HOFb.out.belowA (by omega) (by omega)).trans (HOFc.out.belowA (by omega) (by omega))))⟩
              clear HP6b HL6 HX5 HO8 HB56 HB68 HB25 HB28 HB08 HOFa HOFb HOFc
              have HEL1 := Aside0.mk (Nat.le_trans HN.out.2.2 (show 200 ≤ 1000000000000 by decide))
              have HIL1 := Aside0.mk (Nat.le_trans HN.out.2.1 (show 10 ≤ 1000000000000 by decide))
              go_wp2_with (first
                | (go_at_call 16; refine (Done_w w2.heap.size w2.heap.size E _ HXc.out (by have := HN.out.2.2; omega)).mono ?_; rintro e w11 ⟨v11, rfl, hO, hB⟩; obtain ⟨A11, c11, rfl, hlc, -, hC⟩ := C_row hO; have HC11 := Aside0.mk hC; have HLC11 := Aside0.mk hlc; have HO8d := Aside0.mk (Kd.R_below HO8c.out hB); have HBd := Aside0.mk (HBc.out.trans (hB.mono HBc.out.size)); clear hO hB hlc hC)
                | (go_at_call 30; refine (sameBytes02_calls E HEL1.out A11 c11 A8 c8 _ HC11.out HLC11.out (Kd.R_reads' HO8d.out).2.2 (Kd.R_reads' HO8d.out).2.1).mono ?_; rintro e w12 ⟨rfl, hd⟩; have HO8e := Aside0.mk (Kd.R_below HO8d.out hd.below); have HBe := Aside0.mk (HBd.out.trans (hd.below.mono HBd.out.size)); clear hd)
                | ((with_reducible refine gate_dst (N := 61) rfl ?_)
                   refine Kd.R_lit (Kd.int .u8) w12.heap.size 5 ?hg (N := 61) ?hd (xs := ([] : List Int)) (inner := []) (ok := fun _ => True) (okp := fun _ => True) ?hr ?hp (fun _ hk => hk) trivial (Below.refl w12.heap.size w12) (Nat.le_refl _) (by simp) ?_
                   (case hd => rfl)
                   (case hg => rfl)
                   (case hr => first | (go_simp; done) | (go_simp; rfl))
                   (case hp => exact (Reps.none _ _))
                   intro v13 w13 ho hb hg_ hnew_
                   have HO13 := Aside0.mk ho; have HB13 := Aside0.mk hb
                   clear hg_ hnew_ ho hb)
                | ((with_reducible refine gate_builtin (b := .append) (xs := #[.tmp 61, .tmp 62]) rfl ?_); at_builtin
                   refine appClone w12.heap.size w13 rfl (.tmp 61) (.tmp 62) rfl v13 A8 c8 E rfl rfl HO13.out (Kd.R_reads' (Kd.R_below HO8e.out HB13.out)).2.2 HB13.out.size (by have := HN.out.2.2; omega) ?_
                   intro v14 w14 HO14 HB14
                   obtain ⟨A14, c14, rfl, -, hn14, hC14⟩ := C_row HO14.out
                   have HC14 := Aside0.mk hC14
                   have HN14 := Aside0.mk hn14
                   have HB124 := Aside0.mk (HB13.out.trans HB14.out)
                   clear hC14 hn14)
                | (go_at_call 21; refine (Read_r A14 c14 E _ HC14.out (by have := HN.out.2.2; omega) HN14.out HEB.out).mono ?_; rintro e w15 ⟨g, b, rfl, hRd, hb, hg, hB⟩; have HRD := Aside0.mk hRd; have HPB := Aside0.mk hb; have HGG := Aside0.mk hg; have HB145 := Aside0.mk hB; clear hRd hb hg hB))
              have HB05 : Aside0 (Below w.heap.size w w15) := ⟨HBe.out.trans ((HB124.out.trans (HB145.out.mono HB124.out.size)).mono HBe.out.size)⟩
              have HQ14 := Aside0.mk (Kd.R_below HO14.out HB145.out)
              have HL14 : Aside0 (∀ j, (Value.slice A14 E.length c14).ownBlock = some j → j < w14.heap.size) := ⟨fun j hj => by obtain ⟨inn, ho⟩ := Kd.R_own HO14.out; exact own_lt ho j hj⟩
              have HSZ : Aside0 (w.heap.size ≤ w12.heap.size ∧ w12.heap.size ≤ w14.heap.size ∧ w14.heap.size ≤ w15.heap.size ∧ g < w15.heap.size) := ⟨HBe.out.size, HB124.out.size, HB145.out.size, HRD.out.lt⟩
              clear HXc HO8c HO8d HO8e HBc HBd HBe HC11 HLC11 HO13 HB13 HO14 HB14 HC14 HN14 HB124 HB145
              go_loopw [15] (fun vi wr => ∃ (k : Nat) (ys : List Int), vi = .int .i64 (k : Int) ∧ k ≤ E.length ∧ ys.length = E.length ∧ Aside0 ((Kd.int .u8).R 5 wr w12.heap.size (fun _ => True) (.slice A14 E.length c14) ys) ∧ Aside0 (Off w12.heap.size w14.heap.size w15 wr)) (fun vi _ => E.length - (intOf vi).toNat)
              case atStart => exact ⟨0, _, rfl, Nat.zero_le _, rfl, HQ14, ⟨Off.refl _ _ _⟩⟩
              case round =>
                obtain ⟨k, ys, rfl, hk, hyl, HRY, HOFd⟩ := hrel
                have HYL := Aside0.mk hyl
                clear hyl
                by_cases hlt : k < E.length
                · obtain ⟨gb, cap, he, hgb, -⟩ := Kd.R_form HRY.out (by have := HYL.out; omega)
                  injection he with he1 he2 he3
                  subst he1
                  subst he3
                  have hgl := HL14.out gb (by simp [Value.ownBlock])
                  obtain ⟨hcx, hcf⟩ := Kd.R_celln (d := 0) HRY.out (k : Int) (by omega) (by omega)
                  rw [Int.toNat_natCast] at hcx hcf
                  have hst := fill_step (i := k) 255 HRY.out HOFd.out hgb hgl
                  have HS1 := Aside0.mk hst.1
                  have HS2 := Aside0.mk hst.2
                  have hk1 : wrap64 ((k : Int) + 1) = (k : Int) + 1 := by have := HN.out.2.2; unfold wrap64; omega
                  clear hst he2 hgb hgl
                  go_wp2
                  exact ⟨⟨k + 1, ys.set k 255, by first | (rw [hk1]; rfl) | rfl, by omega, by rw [List.length_set]; exact HYL.out, HS1, HS2⟩, by first | (rw [hk1]; simp only [intOf]; omega) | (simp only [intOf]; omega)⟩
                · have hd1 : decide (k < E.length) = false := decide_eq_false hlt
                  obtain ⟨W_d, hW_d⟩ : ∃ W_ : World, W_ = wr := ⟨_, rfl⟩
                  subst hW_d
                  clear HRY HYL hk
                  have HRDd : Aside0 (RdW 79 b W_d g (.ok E)) := ⟨RdW_off HRD.out (Or.inr HGG.out) (fun j hj => Or.inr (HPB.out j hj).1) HOFd.out⟩
                  have HBd : Aside0 (Below w.heap.size w W_d) := ⟨HB05.out.trans (HOFd.out.belowA HSZ.out.1 HB05.out.size)⟩
                  have HSD : Aside0 (w.heap.size ≤ g ∧ g < W_d.heap.size ∧ ∀ j, b.P j → j < W_d.heap.size) := ⟨by
                    have h1 := HSZ.out; have h2 := HGG.out; have h3 := HOFd.out.size
                    exact ⟨by omega, by omega, fun j hj => by have := (HPB.out j hj).2; omega⟩⟩
                  clear HRD HPB HGG HB05 HQ14 HL14 HSZ HOFd
                  go_wp2_with (first
                    | (go_at_call 31; refine (Raw_r' HRAW.out _ HRDd.out).mono ?_; rintro e w16 ⟨v16, rfl, hO, hRd, hK⟩; obtain ⟨A16, c16, rfl, -, -⟩ := Kd.R_reads hO; have HO16 := Aside0.mk hO; have HRD16 := Aside0.mk hRd; have HB16 := Aside0.mk (HBd.out.trans (hK.below HBd.out.size HSD.out.1)); have HSE : Aside0 (W_d.heap.size ≤ w16.heap.size) := (Aside0.mk hK.keep.1); clear hO hRd hK))
                  have HL16 : Aside0 (∀ j, (Value.slice A16 F.length c16).ownBlock = some j → j < w16.heap.size) := ⟨fun j hj => by obtain ⟨inn, ho⟩ := Kd.R_own HO16.out; exact own_lt ho j hj⟩
                  clear hlt hd1
                  go_loopw [17] (fun vi wr => ∃ (k : Nat) (ys : List Int), vi = .int .i64 (k : Int) ∧ k ≤ F.length ∧ ys.length = F.length ∧ Aside0 ((Kd.int .u8).R 5 wr W_d.heap.size (fun _ => True) (.slice A16 F.length c16) ys) ∧ Aside0 (Off W_d.heap.size w16.heap.size w16 wr)) (fun vi _ => F.length - (intOf vi).toNat)
                  case atStart => exact ⟨0, _, rfl, Nat.zero_le _, rfl, HO16, ⟨Off.refl _ _ _⟩⟩
                  case round =>
                    obtain ⟨k, ys, rfl, hk, hyl, HRY, HOFe⟩ := hrel
                    have HYL := Aside0.mk hyl
                    clear hyl
                    by_cases hlt : k < F.length
                    · obtain ⟨gb, cap, he, hgb, -⟩ := Kd.R_form HRY.out (by have := HYL.out; omega)
                      injection he with he1 he2 he3
                      subst he1
                      subst he3
                      have hgl := HL16.out gb (by simp [Value.ownBlock])
                      obtain ⟨hcx, hcf⟩ := Kd.R_celln (d := 0) HRY.out (k : Int) (by omega) (by omega)
                      rw [Int.toNat_natCast] at hcx hcf
                      have hst := fill_step (i := k) 1 HRY.out HOFe.out hgb hgl
                      have HS1 := Aside0.mk hst.1
                      have HS2 := Aside0.mk hst.2
                      have hk1 : wrap64 ((k : Int) + 1) = (k : Int) + 1 := by have := HN.out.1; unfold wrap64; omega
                      clear hst he2 hgb hgl
                      go_wp2
                      exact ⟨⟨k + 1, ys.set k 1, by first | (rw [hk1]; rfl) | rfl, by omega, by rw [List.length_set]; exact HYL.out, HS1, HS2⟩, by first | (rw [hk1]; simp only [intOf]; omega) | (simp only [intOf]; omega)⟩
                    · have hd1 : decide (k < F.length) = false := decide_eq_false hlt
                      obtain ⟨W_e, hW_e⟩ : ∃ W_ : World, W_ = wr := ⟨_, rfl⟩
                      subst hW_e
                      clear HRY HYL hk
                      have HRDe : Aside0 (RdW 79 b W_e g (.ok (encInts I))) := ⟨RdW_off HRD16.out (Or.inl HSD.out.2.1) (fun j hj => Or.inl (HSD.out.2.2 j hj)) HOFe.out⟩
                      have HBe : Aside0 (Below w.heap.size w W_e) := ⟨HB16.out.trans (HOFe.out.belowA HBd.out.size HB16.out.size)⟩
                      clear HRD16 HB16 HO16 HL16 HOFe HRDd
                      go_wp2_with (first
                        | (go_at_call 33; refine (Ints_r' HINS.out _ HRDe.out).mono ?_; rintro e w17 ⟨v17, rfl, hO, hRd, hK⟩; obtain ⟨A17, c17, rfl, -, -⟩ := Kd.R_reads hO; have HO17 := Aside0.mk hO; have HRD17 := Aside0.mk hRd; have HB17 := Aside0.mk (HBe.out.trans (hK.below HBe.out.size HSD.out.1)); clear hO hRd hK)
                        | (go_at_call 27; refine (refuterref01_Ints.calls A9 c9 li 10 I _ (Kd.C_below HR1.out HB17.out) HC1.out HINT.out).mono ?_; rintro e w18 ⟨v18, rfl, hO, hB⟩; obtain ⟨A18, c18, rfl, -, -⟩ := Kd.R_reads hO; have HO18 := Aside0.mk hO; have HO17' := Aside0.mk (Kd.R_below HO17.out hB); have HRD18 := Aside0.mk (HRD17.out.below hB); have HB18 := Aside0.mk (HB17.out.trans (hB.mono HB17.out.size)); clear hO hB)
                        | (go_at_call 32; refine (refuterref01_SameInts.calls (I.length + 1) A17 c17 I A18 c18 I true _ (Kd.R_reads' HO17'.out).2.2 (Kd.R_reads' HO17'.out).2.1 (Kd.R_reads' HO18.out).2.2 (Kd.R_reads' HO18.out).2.1 (sameI_self I HIL1.out)).mono ?_; rintro e w19 ⟨rfl, hd⟩; have HRD19 := Aside0.mk (HRD18.out.below hd.below); have HB19 := Aside0.mk (HB18.out.trans (hd.below.mono HB18.out.size)); clear hd)
                        | (go_at_call 25; refine (End_r' (st := .ok []) (n := 0) rfl _ HRD19.out).mono ?_; rintro e w20 ⟨rfl, hd⟩; have HB20 := Aside0.mk (HB19.out.trans (hd.below.mono HB19.out.size)); clear hd)
                        | (go_at_call 17; refine (HLV.out _).mono ?_; rintro e w21 ⟨rfl, HB⟩; have HB21 := Aside0.mk (HB20.out.trans (HB.mono HB20.out.size)); clear HB))
                      go_ret
                      exact ⟨rfl, HB21.out⟩
theorem refuterlaw02_WireOwn.walk (P : refuterlaw02_WireOwn.Pure) (a0 : Option Addr) (len0 cap0 : Nat) (z0 : List Int) (a1 : Option Addr) (len1 cap1 : Nat) (z1 : List Int) (w : World)
    (w0 : (a0 = none ∧ len0 = 0 ∧ cap0 = 0 ∧ z0 = []) ∨ ∃ x, a0 = some x ∧ len0 ≤ cap0 ∧ cap0 ≤ maxLen ∧ z0.length = cap0 ∧ (∀ i, i < z0.length → w.cell? (x.add i) = some (.int .u8 (z0.getD i 0))) ∧ ∀ n ∈ z0, (Lit.int .u8 n).wf = true) (_y0 : len0 * 1 ≤ 140737488351232)
    (w1 : (a1 = none ∧ len1 = 0 ∧ cap1 = 0 ∧ z1 = []) ∨ ∃ x, a1 = some x ∧ len1 ≤ cap1 ∧ cap1 ≤ maxLen ∧ z1.length = cap1 ∧ (∀ i, i < z1.length → w.cell? (x.add i) = some (.int .i64 (z1.getD i 0))) ∧ ∀ n ∈ z1, (Lit.int .i64 n).wf = true) (_y1 : len1 * 8 ≤ 140737488351232) :
    Calls Try.prog 5 #[.slice a0 len0 cap0, .slice a1 len1 cap1] w fun e w' => e = .returned (.bool true) ∧ Below w.heap.size w w' := by
  obtain ⟨l0, rfl, hr0, hm0, hw0, hc0⟩ := ReadsInt.ofRowC w0
  obtain ⟨l1, rfl, hr1, hm1, hw1, hc1⟩ := ReadsInt.ofRowC w1
  exact WireOwn_any _ _ l0 _ _ l1 w (Kd.C_of_reads (d := (0 : Int)) (h1 := fun _ => rfl) hr0) hc0 (fun x hx => by have := bounds_u8 (hw0 x hx); omega) (Kd.C_of_reads (d := (0 : Int)) (h1 := fun _ => rfl) hr1) hc1 (wf_all hw1)

/-! ### refuterlaw02_write: function 34 -/
set_option maxHeartbeats 8000000 in
set_option maxRecDepth 100000 in
theorem write_w (base g : Nat) (bs : List Int) (x : S47) (A3 : Option Addr) (c3 : Nat) (A4 : Option Addr) (c4 : Nat) (w : World) (hI : WrW base w g bs) (hb : base ≤ w.heap.size)
    (g3 : ∀ W, Below base w W → Kd.C (Kd.int .u8) W A3 x.f3.length x.f3) (g4 : ∀ W, Below base w W → Kd.C (Kd.int .i64) W A4 x.f4.length x.f4) (hv : CanV x) (hl : bs.length + 100000 ≤ 140737488355328) :
    Calls Try.prog 34 #[.pointer (some ⟨g, 0, none⟩), .agg #[.int .i64 x.f0, .int .u64 x.f1, .int .i64 x.f2, .slice A3 x.f3.length c3, .slice A4 x.f4.length c4]] w fun e w' => e = .returned (.tuple #[]) ∧ WrW base w' g (bs ++ encV x) ∧ Below base w w' := by
  obtain ⟨⟨u0, u1⟩, ⟨n0, n1⟩, hby, hin, hl3, hl4⟩ := hv
  obtain ⟨k, u, n, b, l⟩ := x
  simp only at g3 g4 u0 u1 n0 n1 hby hin hl3 hl4 ⊢
  have hB1 : Below base w (w.alloc (.cells #[.int .i64 k, .int .u64 u, .int .i64 n, .slice A3 b.length c3, .slice A4 l.length c4] 47)) := (below_alloc (Below.refl _ _) _).mono hb
  have hI1 := Aside0.mk (hI.kept (below_alloc (Below.refl _ _) (.cells #[.int .i64 k, .int .u64 u, .int .i64 n, .slice A3 b.length c3, .slice A4 l.length c4] 47)))
  have HB1 := Aside0.mk hB1
  have HL := Aside0.mk hl
  have HL3 := Aside0.mk hl3
  have HL4 := Aside0.mk hl4
  have HC3 := Aside0.mk (g3 _ hB1)
  have HC4 : Aside0 (∀ W, Below base (w.alloc (.cells #[.int .i64 k, .int .u64 u, .int .i64 n, .slice A3 b.length c3, .slice A4 l.length c4] 47)) W → Kd.C (Kd.int .i64) W A4 l.length l) := ⟨fun W h => g4 W (hB1.trans h)⟩
  have hcs := fun W (h : Kd.C (Kd.int .u8) W A3 b.length b) => Kd.C_string (P := Try.prog) Try.underlying24 Try.underlying5 Try.underlying9 (c := c3) h
  have hcv := hcs _ (g3 _ hB1)
  have HBY := Aside0.mk hby
  have HIN := Aside0.mk hin
  have HSZ : Aside0 ((strOfNums b).size = b.length) := ⟨by unfold strOfNums; simp [ByteArray.size]⟩
  have HBS : Aside0 (base ≤ (w.alloc (.cells #[.int .i64 k, .int .u64 u, .int .i64 n, .slice A3 b.length c3, .slice A4 l.length c4] 47)).heap.size) := ⟨by rw [World.size_alloc]; omega⟩
  clear hI hl hl3 hl4 g3 g4 hB1 hby hin hcs
  have hend : ∀ (e : Ending) (w' : World) (bs' : List Int) (en : List Int), encV ⟨k, u, n, b, l⟩ = en → bs' = bs ++ en → e = .returned (.tuple #[]) → WrW base w' g bs' → Below base (w.alloc (.cells #[.int .i64 k, .int .u64 u, .int .i64 n, .slice A3 b.length c3, .slice A4 l.length c4] 47)) w' → e = .returned (.tuple #[]) ∧ WrW base w' g (bs ++ encV ⟨k, u, n, b, l⟩) ∧ Below base w w' := by
    intro e w' bs' en h1 h2 h3 h4 h5
    subst h2
    rw [h1]
    exact ⟨h3, h4, HB1.out.trans h5⟩
  have HEND := Aside0.mk hend
  clear hend
  by_cases e0 : k = 0
  · subst e0
    obtain ⟨u', rfl⟩ := Int.eq_ofNat_of_zero_le u0
    have hten : Aside0 (bs.length + (encU u').length ≤ 140737488355328) := ⟨by have := HL.out; have := encU_ten u' (by omega); omega⟩
    have hu' : u' < 18446744073709551616 := by omega
    go_enter Try.func34, Try.ntmps34
    go_wp2_with (first
      | (go_at_call 12; refine (Uint_w base g bs u' _ hI1.out hten.out hu').mono ?_; rintro e w2 ⟨rfl, HW, HB⟩))
    first | go_end0 | ((try simp only [Exit.inBlock, Exit.then]); refine bodyPost_ret (results_none rfl _ _ _) rfl ?_)
    exact HEND.out _ _ _ (encU u') (by simp [encV]) rfl rfl HW HB
  by_cases e1 : k = 1
  · subst e1
    go_enter Try.func34, Try.ntmps34
    go_wp2_with (first
      | (go_at_call 14; refine (Int_w base g bs n n0 n1 _ hI1.out (by have := HL.out; omega)).mono ?_; rintro e w2 ⟨rfl, HW, HB⟩))
    first | go_end0 | ((try simp only [Exit.inBlock, Exit.then]); refine bodyPost_ret (results_none rfl _ _ _) rfl ?_)
    exact HEND.out _ _ _ (encI n) (by simp [encV]) rfl rfl HW HB
  by_cases e2 : k = 2
  · subst e2
    go_enter Try.func34, Try.ntmps34
    go_wp2_with (first
      | (go_at_call 15; refine (Bool_w base g bs _ _ hI1.out (by have := HL.out; omega)).mono ?_; rintro e w2 ⟨rfl, HW, HB⟩))
    first | go_end0 | ((try simp only [Exit.inBlock, Exit.then]); refine bodyPost_ret (results_none rfl _ _ _) rfl ?_)
    exact HEND.out _ _ _ (encB (n == 1)) (by simp [encV]) rfl rfl HW HB
  have hk0 : (k == 0) = false := beq_eq_false_iff_ne.mpr e0
  have hk1 : (k == 1) = false := beq_eq_false_iff_ne.mpr e1
  have hk2 : (k == 2) = false := beq_eq_false_iff_ne.mpr e2
  by_cases e3 : k = 3
  · subst e3
    go_enter Try.func34, Try.ntmps34
    go_wp2_with (first
      | (go_at_call 40; refine (Text_w base g bs (strOfNums b) _ hI1.out (by have := HL.out; have := HL3.out; rw [HSZ.out]; omega)).mono ?_; rintro e w2 ⟨rfl, HW, HB⟩))
    first | go_end0 | ((try simp only [Exit.inBlock, Exit.then]); refine bodyPost_ret (results_none rfl _ _ _) rfl ?_)
    exact HEND.out _ _ _ (encRaw b) (by simp [encV]) (by rw [bytesOf_strOfNums b HBY.out]) rfl HW HB
  have hk3 : (k == 3) = false := beq_eq_false_iff_ne.mpr e3
  by_cases e4 : k = 4
  · subst e4
    go_enter Try.func34, Try.ntmps34
    go_wp2_with (first
      | (go_at_call 28; refine (Raw_w base g bs A3 c3 b _ hI1.out HC3.out (by have := HL.out; have := HL3.out; omega) HBY.out).mono ?_; rintro e w2 ⟨rfl, HW, HB⟩))
    first | go_end0 | ((try simp only [Exit.inBlock, Exit.then]); refine bodyPost_ret (results_none rfl _ _ _) rfl ?_)
    exact HEND.out _ _ _ (encRaw b) (by simp [encV]) rfl rfl HW HB
  have hk4 : (k == 4) = false := beq_eq_false_iff_ne.mpr e4
  have hen : Aside0 (encV ⟨k, u, n, b, l⟩ = encInts l) := ⟨by simp [encV, e0, e1, e2, e3, e4]⟩
  clear e0 e1 e2 e3 e4
  go_enter Try.func34, Try.ntmps34
  go_wp2_with (first
    | (go_at_call 29; refine (Ints_w base g bs A4 c4 l _ hI1.out HBS.out HC4.out (by have := HL.out; have := HL4.out; omega) HIN.out).mono ?_; rintro e w2 ⟨rfl, HW, HB⟩))
  first | go_end0 | ((try simp only [Exit.inBlock, Exit.then]); refine bodyPost_ret (results_none rfl _ _ _) rfl ?_)
  exact HEND.out _ _ _ (encInts l) hen.out rfl rfl HW HB

/-! ### refuterlaw02_WireWrites: function 6 -/
def refuterlaw02_WireWrites.Pure : Prop := True
theorem fewW (l : List Int) (n : Int) (hn0 : 0 ≤ n) (hn : n ≤ 1000) : refuterref01_Few.f l n = some (l.take n.toNat) := by
  unfold refuterref01_Few.f
  have h1 : 0 ≤ mn (l.length : Int) n ∧ mn (l.length : Int) n ≤ (l.length : Int) ∧ mn (l.length : Int) n ≤ n ∧ (mn (l.length : Int) n = (l.length : Int) ∧ (l.length : Int) ≤ n ∨ mn (l.length : Int) n = n) := by unfold mn; split <;> omega
  obtain ⟨h1, h2, h3, h4⟩ := h1
  have ht : l.take (mn (l.length : Int) n).toNat = l.take n.toNat := by
    rcases h4 with ⟨e, h5⟩ | e
    · rw [e, Int.toNat_natCast, List.take_of_length_le (Nat.le_refl _), List.take_of_length_le (by omega)]
    · rw [e]
  rw [if_pos h1, if_pos h2, ht, if_pos (by simp only [List.length_nil, List.length_take]; omega)]
  rfl
theorem intsW (l : List Int) (n : Int) (hn0 : 0 ≤ n) (hn : n ≤ 1000) : refuterref01_Ints.f l n = some (l.take n.toNat) := by
  unfold refuterref01_Ints.f
  have h1 : 0 ≤ mn (l.length : Int) n ∧ mn (l.length : Int) n ≤ (l.length : Int) ∧ mn (l.length : Int) n ≤ n ∧ (mn (l.length : Int) n = (l.length : Int) ∧ (l.length : Int) ≤ n ∨ mn (l.length : Int) n = n) := by unfold mn; split <;> omega
  obtain ⟨h1, h2, h3, h4⟩ := h1
  have ht : l.take (mn (l.length : Int) n).toNat = l.take n.toNat := by
    rcases h4 with ⟨e, h5⟩ | e
    · rw [e, Int.toNat_natCast, List.take_of_length_le (Nat.le_refl _), List.take_of_length_le (by omega)]
    · rw [e]
  rw [if_pos h1, if_pos h2, ht, if_pos (by simp only [List.length_nil, List.length_take]; omega)]
  rfl
set_option maxHeartbeats 8000000 in
set_option maxRecDepth 100000 in
theorem WireWrites_any (A0 : Option Addr) (c0 : Nat) (l : List Int) (u : Nat) (n : Int) (A3 : Option Addr) (c3 : Nat) (raw : List Int) (A4 : Option Addr) (c4 : Nat) (li : List Int) (w : World) (hR0 : Kd.C (Kd.int .i64) w A0 l.length l) (hx0 : ∀ x ∈ l, -9223372036854775808 ≤ x ∧ x ≤ 9223372036854775807) (hu : u < 18446744073709551616) (hn : -9223372036854775808 ≤ n ∧ n ≤ 9223372036854775807)
    (hR3 : Kd.C (Kd.int .u8) w A3 raw.length raw) (hc3 : raw.length ≤ c3) (hx3 : ∀ x ∈ raw, 0 ≤ x ∧ x < 256) (hR4 : Kd.C (Kd.int .i64) w A4 li.length li) (hc4 : li.length ≤ c4) (hx4 : ∀ x ∈ li, -9223372036854775808 ≤ x ∧ x ≤ 9223372036854775807) :
    Calls Try.prog 6 #[.slice A0 l.length c0, .int .u64 (u : Int), .int .i64 n, .slice A3 raw.length c3, .slice A4 li.length c4] w fun e w' => e = .returned (.bool true) ∧ Below w.heap.size w w' := by
  have HR0 := Aside0.mk hR0
  have HX0 := Aside0.mk hx0
  have HUN : Aside0 ((0 ≤ (u : Int) ∧ (u : Int) < 18446744073709551616) ∧ -9223372036854775808 ≤ n ∧ n < 9223372036854775808) := ⟨by omega, by omega⟩
  have HR3 := Aside0.mk hR3
  have HC3 := Aside0.mk hc3
  have HR4 := Aside0.mk hR4
  have HC4 := Aside0.mk hc4
  have HFEW := Aside0.mk (fewW raw 200 (by omega) (by omega))
  have HINT := Aside0.mk (intsW li 20 (by omega) (by omega))
  have HFB : Aside0 ((∀ y ∈ raw.take (200 : Int).toNat, 0 ≤ y ∧ y < 256) ∧ (raw.take (200 : Int).toNat).length ≤ 200) := ⟨fun y hy => hx3 y (List.mem_of_mem_take hy), by rw [List.length_take]; omega⟩
  have HIB : Aside0 (InR (li.take (20 : Int).toNat) ∧ (li.take (20 : Int).toNat).length ≤ 20) := ⟨fun y hy => by have := hx4 y (List.mem_of_mem_take hy); omega, by rw [List.length_take]; omega⟩
  generalize raw.take (200 : Int).toNat = F at HFEW HFB
  generalize li.take (20 : Int).toNat = I at HINT HIB
  have hut := Try.underlying47
  clear hR0 hx0 hu hn hR3 hc3 hx3 hR4 hc4 hx4
  go_enter Try.func6, Try.ntmps6
  go_wp2_with (first
    | (go_at_call 19; refine (Vals_c A0 c0 l _ HR0.out HX0.out).mono ?_; rintro e w1 ⟨v1, xs, rfl, hO, hl8, hg, hB⟩; have HO1 := Aside0.mk hO; have HL8 := Aside0.mk hl8; have HG := Aside0.mk hg; have HB1 := Aside0.mk hB; clear hO hl8 hg hB)
    | (go_at_call 20; refine (refuterref01_Few.calls A3 c3 raw 200 F _ (Kd.C_below HR3.out HB1.out) HC3.out HFEW.out).mono ?_; rintro e w2 ⟨v2, rfl, hO, hB⟩; obtain ⟨AF, cF, rfl, -, -⟩ := Kd.R_reads hO; have HO2 := Aside0.mk (Kd.R_lower hO HB1.out.size); have HP2 := Aside0.mk (Kd.R_below HO1.out hB); have HB2 := Aside0.mk (HB1.out.trans (hB.mono HB1.out.size)); clear hO hB HO1)
    | (go_at_call 27; refine (refuterref01_Ints.calls A4 c4 li 20 I _ (Kd.C_below HR4.out HB2.out) HC4.out HINT.out).mono ?_; rintro e w3 ⟨v3, rfl, hO, hB⟩; obtain ⟨AI, cI, rfl, -, -⟩ := Kd.R_reads hO; have HO3 := Aside0.mk (Kd.R_lower hO HB2.out.size); have HQ3 := Aside0.mk (Kd.R_below HO2.out hB); have HP3 := Aside0.mk (Kd.R_below HP2.out hB); have HB3 := Aside0.mk (HB2.out.trans (hB.mono HB2.out.size)); clear hO hB HO2 HP2)
    | ((with_reducible refine gate_builtin (b := .append) (xs := #[.tmp 15, .tmp 27]) rfl ?_); at_builtin
       refine appVs w.heap.size w3 ?hgd (.tmp 15) (.tmp 27) ?ho v1 xs [⟨0, (u : Int), 0, [], []⟩, ⟨1, 0, n, [], []⟩, ⟨4, 0, 0, F, []⟩, ⟨5, 0, 0, [], I⟩, ⟨2, 0, 1, [], []⟩] [.int .i64 0, .int .u64 (u : Int), .int .i64 0, .slice none 0 0, .slice none 0 0, .int .i64 1, .int .u64 0, .int .i64 n, .slice none 0 0, .slice none 0 0, .int .i64 4, .int .u64 0, .int .i64 0, .slice AF F.length cF, .slice none 0 0, .int .i64 5, .int .u64 0, .int .i64 0, .slice none 0 0, .slice AI I.length cI, .int .i64 2, .int .u64 0, .int .i64 1, .slice none 0 0, .slice none 0 0] ?hs ?hx ?hrep HP3.out HB3.out.size (show 5 ≤ 1000 by decide) (by have := HL8.out; omega) ?_
       (case hgd => rfl)
       (case ho => rfl)
       (case hs => rfl)
       (case hx => rfl)
       (case hrep =>
         have h0 := Reps.snoc (ps := []) (cs := []) (Reps.none (k47.M w3 w.heap.size (fun k => True ∧ some k ≠ v1.ownBlock)) 5) (k47_mkM w3 w.heap.size _ ⟨0, (u : Int), 0, [], []⟩ (Kd.R_nil _ _ _ _ _) (Kd.R_nil _ _ _ _ _)) rfl
         have h1 := Reps.snoc h0 (k47_mkM w3 w.heap.size _ ⟨1, 0, n, [], []⟩ (Kd.R_nil _ _ _ _ _) (Kd.R_nil _ _ _ _ _)) rfl
         have h2 := Reps.snoc h1 (k47_mkM w3 w.heap.size _ ⟨4, 0, 0, F, []⟩ (Kd.R_apartR HQ3.out HP3.out (fun q hq => by simp [Kd.int, Kd.scalar] at hq; subst hq; decide)) (Kd.R_nil _ _ _ _ _)) rfl
         have h3 := Reps.snoc h2 (k47_mkM w3 w.heap.size _ ⟨5, 0, 0, [], I⟩ (Kd.R_nil _ _ _ _ _) (Kd.R_apartR HO3.out HP3.out (fun q hq => by simp [Kd.int, Kd.scalar] at hq; subst hq; decide))) rfl
         have h4 := Reps.snoc h3 (k47_mkM w3 w.heap.size _ ⟨2, 0, 1, [], []⟩ (Kd.R_nil _ _ _ _ _) (Kd.R_nil _ _ _ _ _)) rfl
         exact h4)
       intro v4 w4 HO4 HB4
       obtain ⟨all, hall⟩ : ∃ all, all = xs ++ [(⟨0, (u : Int), 0, [], []⟩ : S47), ⟨1, 0, n, [], []⟩, ⟨4, 0, 0, F, []⟩, ⟨5, 0, 0, [], I⟩, ⟨2, 0, 1, [], []⟩] := ⟨_, rfl⟩
       have HCA : Aside0 (∀ x ∈ all, CanV x) := ⟨fun x hx => by
         rw [hall] at hx
         rcases List.mem_append.mp hx with h | h
         · exact canV_of_gen (HG.out x h)
         · simp only [List.mem_cons, List.not_mem_nil, or_false] at h
           rcases h with rfl | rfl | rfl | rfl | rfl
           · exact ⟨HUN.out.1, by simp only; omega, by simp, (fun y hy => nomatch hy), by simp, by simp⟩
           · exact ⟨by simp only; omega, HUN.out.2, by simp, (fun y hy => nomatch hy), by simp, by simp⟩
           · exact ⟨by simp only; omega, by simp only; omega, HFB.out.1, (fun y hy => nomatch hy), Nat.le_trans HFB.out.2 (by decide), by simp⟩
           · exact ⟨by simp only; omega, by simp only; omega, by simp, HIB.out.1, by simp, Nat.le_trans HIB.out.2 (by decide)⟩
           · exact ⟨by simp only; omega, by simp only; omega, by simp, (fun y hy => nomatch hy), by simp, by simp⟩⟩
       have HLA : Aside0 (all.length ≤ 13) := ⟨by have := HL8.out; rw [hall, List.length_append]; simp only [List.length_cons, List.length_nil]; omega⟩
       rw [← hall] at HO4
       obtain ⟨A5, c5, rfl, hlc5, hC5⟩ := Kd.R_reads HO4.out
       have HC5 := Aside0.mk hC5
       have HLC5 := Aside0.mk hlc5
       have HBW4 := Aside0.mk (HB3.out.trans HB4.out)
       clear hall HO4 HB4 HP3 HQ3 HO3 HL8 HG HB1 HB2 HB3 hlc5 hC5 HFB HIB HUN HFEW HINT))
  have HW0 := Aside0.mk (WrW.new w4)
  have HB0 : Aside0 (Below w4.heap.size w4 (w4.alloc (.cells #[.slice none 0 0] 26))) := ⟨below_alloc (Below.refl _ _) _⟩
  go_loopw [13] (fun v13 wr => ∃ k : Nat, v13 = .int .i64 (k : Int) ∧ k ≤ all.length ∧ Aside0 (WrW w4.heap.size wr w4.heap.size (encVs (all.take k))) ∧ Aside0 (Below w4.heap.size w4 wr)) (fun v13 _ => all.length - (intOf v13).toNat)
  case atStart => exact ⟨0, rfl, Nat.zero_le _, ⟨by simpa [encVs] using HW0.out⟩, HB0⟩
  case round =>
    clear HW0 HB0
    obtain ⟨k, rfl, hk, HW, HB⟩ := hrel
    by_cases hlt : k < all.length
    · obtain ⟨ad, A7, c7, A8, c8, e1, hx0, hx1, hx2, hx3, hx4, l7, g7, l8, g8⟩ := at_T47 HC5.out (k : Int) (by omega) (by omega)
      subst e1
      rw [Int.toNat_natCast] at hx0 hx1 hx2 hx3 hx4
      have HT := Aside0.mk (List.take_succ_eq_append_getElem hlt)
      have hr := rd_T_mem all k hlt
      rw [hr] at hx0 hx1 hx2 hx3 hx4 g7 g8
      have HCX := Aside0.mk (HCA.out all[k] (List.getElem_mem hlt))
      have HLK : Aside0 ((encVs (all.take k)).length + 100000 ≤ 140737488355328 ∧ (encVs (all.take (k + 1))).length ≤ 1000000) := ⟨by
        have h1 := encVs_len (all.take k) (fun x hm => HCA.out x (List.mem_of_mem_take hm)); have h2 := encVs_len (all.take (k + 1)) (fun x hm => HCA.out x (List.mem_of_mem_take hm)); have := HLA.out
        rw [List.length_take] at h1 h2; omega⟩
      obtain ⟨KE, hKE⟩ := refEncode (all.take (k + 1)) (fun x hm => HCA.out x (List.mem_of_mem_take hm)) (by rw [List.length_take]; have := HLA.out; omega)
      have HKE := Aside0.mk hKE
      have hcut : ∀ W : World, (Instr.slice 35 (.slice (some ad) all.length c5) none (some (.int .i64 ((k : Int) + 1))) none).run Try.prog W = .ok (.slice (some ad) (k + 1) c5) W := fun W => by
        have h := cut_to (P := Try.prog) 35 47 .i64 Try.underlying35 (i := (Try.prog.info? 47).get (by rfl)) (by rfl) (some ad) all.length c5 ((k : Int) + 1) (by omega) (by omega) HLC5.out W
        rw [show ((k : Int) + 1).toNat = k + 1 by omega] at h
        exact h
      have HCT : Aside0 (Kd.C k47 w4 (some ad) (all.take (k + 1)).length (all.take (k + 1)) ∧ (all.take (k + 1)).length = k + 1) := ⟨Kd.C_take HC5.out (by omega), by rw [List.length_take]; omega⟩
      clear hr l7 l8 hKE
      generalize all[k] = x at hx0 hx1 hx2 hx3 hx4 HT HCX g7 g8
      have G7 : Aside0 (∀ W, Below w4.heap.size wr W → Kd.C (Kd.int .u8) W A7 x.f3.length x.f3) := ⟨fun W h => Kd.C_below g7 (HB.out.trans h)⟩
      have G8 : Aside0 (∀ W, Below w4.heap.size wr W → Kd.C (Kd.int .i64) W A8 x.f4.length x.f4) := ⟨fun W h => Kd.C_below g8 (HB.out.trans h)⟩
      replace hx0 := pw_cell_below HB.out hx0
      replace hx1 := pw_cell_below HB.out hx1
      replace hx2 := pw_cell_below HB.out hx2
      replace hx3 := pw_cell_below HB.out hx3
      replace hx4 := pw_cell_below HB.out hx4
      have hk1 : wrap64 ((k : Int) + 1) = (k : Int) + 1 := by have := HLA.out; unfold wrap64; omega
      have hki : IntKind.i64.wrap ((k : Int) + 1) = (k : Int) + 1 := by have := HLA.out; exact IntWalk.i64_in _ ⟨by omega, by omega⟩
      clear g7 g8
      go_wp2_with (first
        | (go_at_call 34; refine (write_w w4.heap.size w4.heap.size _ x A7 c7 A8 c8 _ HW.out HB.out.size G7.out G8.out HCX.out HLK.out.1).mono ?_; rintro e w5 ⟨rfl, HW5, HB5⟩; rw [← encVs_snoc, ← HT.out] at HW5; have HW5 := Aside0.mk HW5; have HB5 := Aside0.mk (HB.out.trans HB5)))
      have HENC : Aside0 (∀ W, Below w4.heap.size w4 W → Calls Try.prog 18 #[.slice (some ad) (k + 1) c5] W fun e w' => ∃ v, e = .returned v ∧ Kd.R (Kd.int .u8) 5 w' W.heap.size (fun _ => True) v (encVs (all.take (k + 1))) ∧ Below W.heap.size W w') := ⟨fun W h => by
        have h2 := refuterref02_Encode.calls KE (some ad) c5 (all.take (k + 1)) (encVs (all.take (k + 1))) W (Kd.C_below HCT.out.1 h) (by rw [HCT.out.2]; have := HLC5.out; omega) HKE.out
        rw [HCT.out.2] at h2
        exact h2⟩
      have HW5d : Aside0 (WrW w4.heap.size w5.drew w4.heap.size (encVs (all.take (k + 1)))) := ⟨WrW.drewN HW5.out 1⟩
      have HB5d : Aside0 (Below w4.heap.size w4 w5.drew) := ⟨below_drew HB5.out⟩
      have HL1 : Aside0 ((encVs (all.take (k + 1))).length ≤ 1000000000000) := ⟨Nat.le_trans HLK.out.2 (by decide)⟩
      generalize hE : encVs (all.take (k + 1)) = E at HENC HW5 HW5d HLK HL1
      have HEE := Aside0.mk hE
      clear hE
      clear hx0 hx1 hx2 hx3 hx4 HT HCX G7 G8 HKE HB5 HCT
      go_region_with (first
        | (go_at_call 16; refine (Done_w w4.heap.size w4.heap.size E _ HW5d.out (by have := HLK.out.2; omega)).mono ?_; rintro e w6 ⟨v6, rfl, HO, HB6⟩; obtain ⟨A9, c9, rfl, hlc, -, hC⟩ := C_row HO; have HC6 := Aside0.mk hC; have HLC6 := Aside0.mk hlc; have HB46 := Aside0.mk (HB5d.out.trans (HB6.mono HB5d.out.size)); have HW6 := Aside0.mk (HW5d.out.kept HB6); clear HO HB6 hC hlc)
        | (go_at_call 18; refine (HENC.out _ HB46.out).mono ?_; rintro e w7 ⟨v7, rfl, HO, HB7⟩; obtain ⟨A10, c10, rfl, hlc, -, hC⟩ := C_row HO; have HC7 := Aside0.mk hC; have HLC7 := Aside0.mk hlc; have HC6' := Aside0.mk (Kd.C_below HC6.out HB7); have HB47 := Aside0.mk (HB46.out.trans (HB7.mono HB46.out.size)); have HW7 := Aside0.mk (HW6.out.kept HB7); clear HO HB7 hC hlc)
        | (go_at_call 30; refine (sameBytes02_calls E HL1.out A9 c9 A10 c10 _ HC6'.out HLC6.out HC7.out HLC7.out).mono ?_; rintro e w8 ⟨rfl, hd⟩; have HW8 := Aside0.mk (HW7.out.kept hd.below); have HB48 := Aside0.mk (HB47.out.trans (hd.below.mono HB47.out.size)); clear hd))
      all_goals
        go_wp2
        exact ⟨⟨k + 1, by first | (rw [hk1]; rfl) | rfl, by omega, ⟨by rw [HEE.out]; exact HW8.out⟩, HB48⟩, by first | (rw [hk1]; simp only [intOf]; omega) | (simp only [intOf]; omega)⟩
    · have HLV := fun W => refuterlaw02_lives.calls true W rfl
      go_wp2_with (first
        | (go_at_call 17; refine (HLV _).mono ?_; rintro e w9 ⟨rfl, HB9⟩; have HB9 := Aside0.mk (HB.out.trans (HB9.mono HB.out.size))))
      go_ret
      exact ⟨rfl, HBW4.out.trans (HB9.out.mono HBW4.out.size)⟩
theorem refuterlaw02_WireWrites.walk (P : refuterlaw02_WireWrites.Pure) (a0 : Option Addr) (len0 cap0 : Nat) (z0 : List Int) (a1 : Int) (a2 : Int) (a3 : Option Addr) (len3 cap3 : Nat) (z3 : List Int) (a4 : Option Addr) (len4 cap4 : Nat) (z4 : List Int) (w : World)
    (w0 : (a0 = none ∧ len0 = 0 ∧ cap0 = 0 ∧ z0 = []) ∨ ∃ x, a0 = some x ∧ len0 ≤ cap0 ∧ cap0 ≤ maxLen ∧ z0.length = cap0 ∧ (∀ i, i < z0.length → w.cell? (x.add i) = some (.int .i64 (z0.getD i 0))) ∧ ∀ n ∈ z0, (Lit.int .i64 n).wf = true) (_y0 : len0 * 8 ≤ 140737488351232) (w1 : (Lit.int .u64 a1).wf = true) (w2 : (Lit.int .i64 a2).wf = true)
    (w3 : (a3 = none ∧ len3 = 0 ∧ cap3 = 0 ∧ z3 = []) ∨ ∃ x, a3 = some x ∧ len3 ≤ cap3 ∧ cap3 ≤ maxLen ∧ z3.length = cap3 ∧ (∀ i, i < z3.length → w.cell? (x.add i) = some (.int .u8 (z3.getD i 0))) ∧ ∀ n ∈ z3, (Lit.int .u8 n).wf = true) (_y3 : len3 * 1 ≤ 140737488351232)
    (w4 : (a4 = none ∧ len4 = 0 ∧ cap4 = 0 ∧ z4 = []) ∨ ∃ x, a4 = some x ∧ len4 ≤ cap4 ∧ cap4 ≤ maxLen ∧ z4.length = cap4 ∧ (∀ i, i < z4.length → w.cell? (x.add i) = some (.int .i64 (z4.getD i 0))) ∧ ∀ n ∈ z4, (Lit.int .i64 n).wf = true) (_y4 : len4 * 8 ≤ 140737488351232) :
    Calls Try.prog 6 #[.slice a0 len0 cap0, .int .u64 a1, .int .i64 a2, .slice a3 len3 cap3, .slice a4 len4 cap4] w fun e w' => e = .returned (.bool true) ∧ Below w.heap.size w w' := by
  obtain ⟨l0, rfl, hr0, hm0, hw0, hc0⟩ := ReadsInt.ofRowC w0
  obtain ⟨l3, rfl, hr3, hm3, hw3, hc3⟩ := ReadsInt.ofRowC w3
  obtain ⟨l4, rfl, hr4, hm4, hw4, hc4⟩ := ReadsInt.ofRowC w4
  have h := bounds_u64 w1
  have h2 := bounds_i64 w2
  obtain ⟨n, rfl⟩ := Int.eq_ofNat_of_zero_le h.1
  exact WireWrites_any _ _ l0 n a2 _ _ l3 _ _ l4 w (Kd.C_of_reads (d := (0 : Int)) (h1 := fun _ => rfl) hr0) (wf_all hw0) (by omega) (by omega) (Kd.C_of_reads (d := (0 : Int)) (h1 := fun _ => rfl) hr3) hc3 (fun x hx => by have := bounds_u8 (hw3 x hx); omega) (Kd.C_of_reads (d := (0 : Int)) (h1 := fun _ => rfl) hr4) hc4 (wf_all hw4)

/-! ### refuterlaw02_encode: function 35 -/
set_option maxHeartbeats 8000000 in
set_option maxRecDepth 100000 in
theorem encode_c (A : Option Addr) (c : Nat) (l : List S47) (w : World) (hR : Kd.C k47 w A l.length l) (hv : ∀ x ∈ l, CanV x) (hl : l.length ≤ 100) :
    Calls Try.prog 35 #[.slice A l.length c] w fun e w' => ∃ v, e = .returned v ∧ Kd.R (Kd.int .u8) 5 w' w.heap.size (fun _ => True) v (encVs l) ∧ Below w.heap.size w w' := by
  have HR := Aside0.mk hR
  have HV := Aside0.mk hv
  have HL := Aside0.mk hl
  have HW0 := Aside0.mk (WrW.new w)
  have HB0 : Aside0 (Below w.heap.size w (w.alloc (.cells #[.slice none 0 0] 26))) := ⟨below_alloc (Below.refl _ _) _⟩
  have hu := Try.underlying47
  clear hR hv hl
  go_enter Try.func35, Try.ntmps35
  go_wp2
  go_loopw [4] (fun i wr => ∃ k : Nat, k ≤ l.length ∧ i = .int .i64 k ∧ Aside0 (WrW w.heap.size wr w.heap.size (encVs (l.take k))) ∧ Aside0 (Below w.heap.size w wr)) (fun i _ => l.length - (intOf i).toNat)
  case atStart => exact ⟨0, Nat.zero_le _, rfl, ⟨by simpa [encVs] using HW0.out⟩, HB0⟩
  case round =>
    clear HW0 HB0
    obtain ⟨k, hk, rfl, HW, HB⟩ := hrel
    by_cases hlt : k < l.length
    · obtain ⟨ad, A3, c3, A4, c4, e1, hx0, hx1, hx2, hx3, hx4, l3, g3, l4, g4⟩ := at_T47 HR.out (k : Int) (by omega) (by omega)
      subst e1
      rw [Int.toNat_natCast] at hx0 hx1 hx2 hx3 hx4
      have HT := Aside0.mk (List.take_succ_eq_append_getElem hlt)
      have hr := rd_T_mem l k hlt
      rw [hr] at hx0 hx1 hx2 hx3 hx4 g3 g4
      have HC := Aside0.mk (HV.out l[k] (List.getElem_mem hlt))
      have HLK : Aside0 ((encVs (l.take k)).length + 100000 ≤ 140737488355328) := ⟨by
        have h1 := encVs_len (l.take k) (fun x hm => HV.out x (List.mem_of_mem_take hm)); have := HL.out
        rw [List.length_take] at h1; omega⟩
      clear hr l3 l4
      generalize l[k] = x at hx0 hx1 hx2 hx3 hx4 HT HC g3 g4
      have G3 : Aside0 (∀ W, Below w.heap.size wr W → Kd.C (Kd.int .u8) W A3 x.f3.length x.f3) := ⟨fun W h => Kd.C_below g3 (HB.out.trans h)⟩
      have G4 : Aside0 (∀ W, Below w.heap.size wr W → Kd.C (Kd.int .i64) W A4 x.f4.length x.f4) := ⟨fun W h => Kd.C_below g4 (HB.out.trans h)⟩
      replace hx0 := pw_cell_below HB.out hx0
      replace hx1 := pw_cell_below HB.out hx1
      replace hx2 := pw_cell_below HB.out hx2
      replace hx3 := pw_cell_below HB.out hx3
      replace hx4 := pw_cell_below HB.out hx4
      clear g3 g4
      have hk1 : wrap64 ((k : Int) + 1) = (k : Int) + 1 := by have := HL.out; unfold wrap64; omega
      go_wp2_with (first
        | (go_at_call 34; refine (write_w w.heap.size w.heap.size _ x A3 c3 A4 c4 _ HW.out HB.out.size G3.out G4.out HC.out HLK.out).mono ?_; rintro e w3 ⟨rfl, HW3, HB3⟩; have HW3 := Aside0.mk HW3; have HB3 := Aside0.mk HB3))
      exact ⟨⟨k + 1, by omega, by rw [hk1]; rfl, ⟨by rw [HT.out, encVs_snoc]; exact HW3.out⟩, ⟨HB.out.trans HB3.out⟩⟩, by rw [hk1]; simp only [intOf]; omega⟩
    · have hall : l.take k = l := List.take_of_length_le (by omega)
      rw [hall] at HW
      go_wp2_with (first
        | (go_at_call 16; refine (Done_w w.heap.size w.heap.size _ _ HW.out (by have := encVs_len l HV.out; have := HL.out; omega)).mono ?_; rintro e w4 ⟨v4, rfl, HO, HB4⟩; have HO := Aside0.mk HO; have HB4 := Aside0.mk HB4))
      go_ret
      exact ⟨_, rfl, Kd.R_lower HO.out HB.out.size, HB.out.trans (HB4.out.mono HB.out.size)⟩

/-! ### refuterlaw02_WireRound: function 7 -/
def refuterlaw02_WireRound.Pure : Prop := True
set_option maxHeartbeats 8000000 in
set_option maxRecDepth 100000 in
theorem WireRound_any (A : Option Addr) (c : Nat) (l : List Int) (u : Nat) (n : Int) (w : World) (hR : Kd.C (Kd.int .i64) w A l.length l) (hx : ∀ x ∈ l, -9223372036854775808 ≤ x ∧ x ≤ 9223372036854775807) (hu : u < 18446744073709551616) (hn : -9223372036854775808 ≤ n ∧ n ≤ 9223372036854775807) :
    Calls Try.prog 7 #[.slice A l.length c, .int .u64 (u : Int), .int .i64 n] w fun e w' => e = .returned (.bool true) ∧ Below w.heap.size w w' := by
  have HR := Aside0.mk hR
  have HX := Aside0.mk hx
  have HG2 : Aside0 (GenV (⟨0, (u : Int), 0, [], []⟩ : S47) ∧ GenV (⟨1, 0, n, [], []⟩ : S47)) := ⟨Or.inl ⟨rfl, by show (0 : Int) ≤ (u : Int); omega, by show (u : Int) < _; omega, rfl, rfl, rfl⟩, Or.inr (Or.inl ⟨rfl, rfl, hn.1, by show n < _; omega, rfl, rfl⟩)⟩
  have hut := Try.underlying47
  clear hR hx hu hn
  go_enter Try.func7, Try.ntmps7
  go_wp2_with (first
    | (go_at_call 19; refine (Vals_c A c l _ HR.out HX.out).mono ?_; rintro e w1 ⟨v1, xs, rfl, hO, hl8, hg, hB⟩; have HO1 := Aside0.mk hO; have HL8 := Aside0.mk hl8; have HG := Aside0.mk hg; have HB1 := Aside0.mk hB; clear hO hl8 hg hB)
    | ((with_reducible refine gate_builtin (b := .append) (xs := #[.tmp 11, .tmp 16]) rfl ?_); at_builtin
       refine appVs w.heap.size w1 ?hgd (.tmp 11) (.tmp 16) ?ho v1 xs [⟨0, (u : Int), 0, [], []⟩, ⟨1, 0, n, [], []⟩] [.int .i64 0, .int .u64 (u : Int), .int .i64 0, .slice none 0 0, .slice none 0 0, .int .i64 1, .int .u64 0, .int .i64 n, .slice none 0 0, .slice none 0 0] ?hs ?hx (Reps.snoc (ps := [⟨0, (u : Int), 0, [], []⟩]) (cs := [.int .i64 0, .int .u64 (u : Int), .int .i64 0, .slice none 0 0, .slice none 0 0]) (Reps.snoc (ps := []) (cs := []) (Reps.none _ _) (k47_mkM w1 w.heap.size _ ⟨0, (u : Int), 0, [], []⟩ (Kd.R_nil _ _ _ _ _) (Kd.R_nil _ _ _ _ _)) rfl) (k47_mkM w1 w.heap.size _ ⟨1, 0, n, [], []⟩ (Kd.R_nil _ _ _ _ _) (Kd.R_nil _ _ _ _ _)) rfl) HO1.out HB1.out.size (show 2 ≤ 1000 by decide) (by have := HL8.out; omega) ?_
       (case hgd => rfl)
       (case ho => rfl)
       (case hs => rfl)
       (case hx => rfl)
       intro v2 w2 HO2 HB2
       obtain ⟨all, hall⟩ : ∃ all, all = xs ++ [(⟨0, (u : Int), 0, [], []⟩ : S47), ⟨1, 0, n, [], []⟩] := ⟨_, rfl⟩
       have HGA : Aside0 (∀ x ∈ all, GenV x) := ⟨fun x hx => by
         rw [hall] at hx
         rcases List.mem_append.mp hx with h | h
         · exact HG.out x h
         · rcases List.mem_cons.mp h with h | h
           · rw [h]; exact HG2.out.1
           · rw [List.mem_singleton.mp h]; exact HG2.out.2⟩
       have HLA : Aside0 (all.length ≤ 10) := ⟨by have := HL8.out; rw [hall, List.length_append]; simp only [List.length_cons, List.length_nil]; omega⟩
       rw [← hall] at HO2
       obtain ⟨A2, c2, rfl, hlc2, hC2⟩ := Kd.R_reads HO2.out
       have HC2 := Aside0.mk hC2
       have HBW2 := Aside0.mk (HB1.out.trans HB2.out)
       clear hall HO2 HB2 HO1 HL8 HG HB1 HG2 hlc2 hC2)
    | (go_at_call 35; refine (encode_c A2 c2 all _ HC2.out (fun x hx => canV_of_gen (HGA.out x hx)) (by have := HLA.out; omega)).mono ?_; rintro e w3 ⟨v3, rfl, HO, HB⟩; obtain ⟨A3, c3, rfl, -, hn3, hC⟩ := C_row HO; have HC3 := Aside0.mk hC; have HN3 := Aside0.mk hn3; have HB3 := Aside0.mk HB; clear HO HB hC hn3)
    | (go_at_call 21; refine (Read_r A3 c3 (encVs all) _ HC3.out (by have := encVs_len all (fun x hx => canV_of_gen (HGA.out x hx)); have := HLA.out; omega) HN3.out (encVs_byte all (fun x hx => canV_of_gen (HGA.out x hx)))).mono ?_; rintro e w4 ⟨g, b, rfl, hRd, hb, hg, hB⟩; have HRD := Aside0.mk hRd; have HGG := Aside0.mk hg; have HB4 := Aside0.mk hB; clear hRd hb hg hB))
  have HB24 : Aside0 (Below w2.heap.size w2 w4) := ⟨HB3.out.trans (HB4.out.mono HB3.out.size)⟩
  have HGE : Aside0 (w2.heap.size ≤ g) := ⟨Nat.le_trans HB3.out.size HGG.out⟩
  clear HC3 HN3 HB3 HB4 HGG
  go_loopw [9] (fun v9 wr => ∃ k : Nat, v9 = .int .i64 (k : Int) ∧ k ≤ all.length ∧ Aside0 (RdW 79 b wr g (.ok (encVs (all.drop k)))) ∧ Aside0 (Keeps w4 wr g)) (fun v9 _ => all.length - (intOf v9).toNat)
  case atStart => exact ⟨0, rfl, Nat.zero_le _, HRD, ⟨Keeps.refl _ _⟩⟩
  case round =>
    clear HRD
    obtain ⟨k, rfl, hk, HRD, HK⟩ := hrel
    have hB2r : Below w2.heap.size w2 wr := HB24.out.trans (HK.out.below HB24.out.size HGE.out)
    have HB2r := Aside0.mk hB2r
    by_cases hlt : k < all.length
    · obtain ⟨ad, A5, c5, A6, c6, e1, hx0, hx1, hx2, hx3, hx4, l5, g5, l6, g6⟩ := at_T47 HC2.out (k : Int) (by omega) (by omega)
      subst e1
      rw [Int.toNat_natCast] at hx0 hx1 hx2 hx3 hx4
      have hr := rd_T_mem all k hlt
      rw [hr] at hx0 hx1 hx2 hx3 hx4 g5 g6 l5 l6
      have HGX := Aside0.mk (HGA.out all[k] (List.getElem_mem hlt))
      have hdr : encVs (all.drop k) = encV all[k] ++ encVs (all.drop (k + 1)) := by rw [List.drop_eq_getElem_cons hlt, encVs_cons]
      have HRS : Aside0 (readS all[k].f0 (.ok (encVs (all.drop k))) = (all[k], .ok (encVs (all.drop (k + 1))))) := ⟨by rw [hdr]; exact readS_enc _ HGX.out _⟩
      clear hr hdr
      generalize all[k] = x at hx0 hx1 hx2 hx3 hx4 g5 g6 l5 l6 HGX HRS
      have HXL : Aside0 (x.f3.length ≤ 5000 ∧ x.f4.length ≤ 5000) := ⟨(canV_of_gen HGX.out).2.2.2.2⟩
      have HF : Aside0 (∀ W, Below w2.heap.size w2 W → (W.cell? (ad.add (k * 5)) = some (.int .i64 x.f0) ∧ W.cell? ⟨(ad.add (k * 5)).block, (ad.add (k * 5)).off + 1, none⟩ = some (.int .u64 x.f1) ∧ W.cell? ⟨(ad.add (k * 5)).block, (ad.add (k * 5)).off + 2, none⟩ = some (.int .i64 x.f2) ∧ W.cell? ⟨(ad.add (k * 5)).block, (ad.add (k * 5)).off + 3, none⟩ = some (.slice A5 x.f3.length c5) ∧ W.cell? ⟨(ad.add (k * 5)).block, (ad.add (k * 5)).off + 4, none⟩ = some (.slice A6 x.f4.length c6)) ∧ Kd.C (Kd.int .u8) W A5 x.f3.length x.f3 ∧ Kd.C (Kd.int .i64) W A6 x.f4.length x.f4) :=
        ⟨fun W h => ⟨⟨pw_cell_below h hx0, pw_cell_below h hx1, pw_cell_below h hx2, pw_cell_below h hx3, pw_cell_below h hx4⟩, Kd.C_below g5 h, Kd.C_below g6 h⟩⟩
      have L5 := Aside0.mk l5
      have L6 := Aside0.mk l6
      clear hx0 hx1 hx2 hx3 hx4 g5 g6 l5 l6
      obtain ⟨⟨hx0, hx1, hx2, hx3, hx4⟩, -, -⟩ := HF.out wr hB2r
      have HB2d : Aside0 (Below w2.heap.size w2 wr.drew) := ⟨below_drew hB2r⟩
      have HKd : Aside0 (Keeps w4 wr.drew g) := ⟨HK.out.drewN 1⟩
      have hRd : RdW 79 b wr.drew g (.ok (encVs (all.drop k))) := HRD.out.drewN 1
      have hk1 : wrap64 ((k : Int) + 1) = (k : Int) + 1 := by have := HLA.out; unfold wrap64; omega
      clear hB2r
      go_wp2
      go_region_held3 (fun W' => W'.cell? (ad.add (k * 5)) = some (.int .i64 x.f0) ∧ W'.cell? ⟨(ad.add (k * 5)).block, (ad.add (k * 5)).off + 1, none⟩ = some (.int .u64 x.f1) ∧ W'.cell? ⟨(ad.add (k * 5)).block, (ad.add (k * 5)).off + 2, none⟩ = some (.int .i64 x.f2) ∧ W'.cell? ⟨(ad.add (k * 5)).block, (ad.add (k * 5)).off + 3, none⟩ = some (.slice A5 x.f3.length c5) ∧ W'.cell? ⟨(ad.add (k * 5)).block, (ad.add (k * 5)).off + 4, none⟩ = some (.slice A6 x.f4.length c6)) (first | exact ⟨hz0, hz1, hz2, hz3, hz4⟩ | exact ⟨hy0, hy1, hy2, hy3, hy4⟩ | exact ⟨hx0, hx1, hx2, hx3, hx4⟩) (first
        | (go_at_call 23; refine (read_one b g x.f0 x _ _ HRS.out _ (by assumption)).mono ?_; rintro e w5 ⟨A7, c7, A8, c8, rfl, l7, l8, h7, h8, hRd5, hK5⟩; have L7 := Aside0.mk l7; have L8 := Aside0.mk l8; have H7 := Aside0.mk h7; have H8 := Aside0.mk h8; have HRD5 := Aside0.mk hRd5; have HK5 := Aside0.mk hK5; have hB5 := HB2d.out.trans (hK5.below HB2d.out.size HGE.out); obtain ⟨⟨hy0, hy1, hy2, hy3, hy4⟩, g5, g6⟩ := HF.out w5 hB5; have G5 := Aside0.mk g5; have G6 := Aside0.mk g6; clear l7 l8 h7 h8 hRd5 hK5 hB5 g5 g6)
        | (go_at_call 22; refine (same_c x (by have := HXL.out; omega) (by have := HXL.out; omega) A7 c7 A8 c8 A5 c5 A6 c6 _ (H7.out _ (NewP.refl _ _)) L7.out (H8.out _ (NewP.refl _ _)) L8.out G5.out L5.out G6.out L6.out).mono ?_; rintro e w6 ⟨rfl, hB6⟩; have HB6 := Aside0.mk hB6; have hz0 := pw_cell_below hB6 hy0; have hz1 := pw_cell_below hB6 hy1; have hz2 := pw_cell_below hB6 hy2; have hz3 := pw_cell_below hB6 hy3; have hz4 := pw_cell_below hB6 hy4; clear hB6))
      all_goals
        go_wp2
        exact ⟨⟨k + 1, by first | (rw [hk1]; rfl) | rfl, by omega, ⟨HRD5.out.below HB6.out⟩, ⟨(HKd.out.trans HK5.out).belowB (HB6.out.mono (Nat.le_trans HKd.out.keep.1 HK5.out.keep.1))⟩⟩, by first | (rw [hk1]; simp only [intOf]; omega) | (simp only [intOf]; omega)⟩
    · have hd : all.drop k = [] := List.drop_eq_nil_of_le (by omega)
      have HRE : Aside0 (RdW 79 b wr g (.ok [])) := ⟨by have h := HRD.out; rw [hd] at h; exact h⟩
      clear hd hB2r HRD
      have HLV := fun W => refuterlaw02_lives.calls true W rfl
      go_wp2_with (first
        | (go_at_call 25; refine (End_r' (st := .ok []) (n := 0) rfl _ HRE.out).mono ?_; rintro e w5 ⟨rfl, hd⟩; have HB5 := Aside0.mk (HB2r.out.trans (hd.below.mono HB2r.out.size)); clear hd)
        | (go_at_call 17; refine (HLV _).mono ?_; rintro e w6 ⟨rfl, HB⟩; have HB6 := Aside0.mk (HB5.out.trans (HB.mono HB5.out.size)); clear HB))
      go_ret
      exact ⟨rfl, HBW2.out.trans (HB6.out.mono HBW2.out.size)⟩
theorem refuterlaw02_WireRound.walk (P : refuterlaw02_WireRound.Pure) (a0 : Option Addr) (len0 cap0 : Nat) (z0 : List Int) (a1 : Int) (a2 : Int) (w : World) (w0 : (a0 = none ∧ len0 = 0 ∧ cap0 = 0 ∧ z0 = []) ∨ ∃ x, a0 = some x ∧ len0 ≤ cap0 ∧ cap0 ≤ maxLen ∧ z0.length = cap0 ∧ (∀ i, i < z0.length → w.cell? (x.add i) = some (.int .i64 (z0.getD i 0))) ∧ ∀ n ∈ z0, (Lit.int .i64 n).wf = true) (_y0 : len0 * 8 ≤ 140737488351232) (w1 : (Lit.int .u64 a1).wf = true) (w2 : (Lit.int .i64 a2).wf = true) :
    Calls Try.prog 7 #[.slice a0 len0 cap0, .int .u64 a1, .int .i64 a2] w fun e w' => e = .returned (.bool true) ∧ Below w.heap.size w w' := by
  obtain ⟨l, rfl, hr0, hm0, hw0, hc0⟩ := ReadsInt.ofRowC w0
  have h := bounds_u64 w1
  have h2 := bounds_i64 w2
  obtain ⟨n, rfl⟩ := Int.eq_ofNat_of_zero_le h.1
  exact WireRound_any _ _ l n a2 w (Kd.C_of_reads (d := (0 : Int)) (h1 := fun _ => rfl) hr0) (wf_all hw0) (by omega) (by omega)

end Go.Proofs.Ytleomgkogbenaaa.PA
