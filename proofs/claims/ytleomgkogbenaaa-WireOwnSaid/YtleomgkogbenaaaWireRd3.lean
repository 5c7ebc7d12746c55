/- The Reader: lists. -/
import Derived.Test.YtleomgkogbenaaaWireRd2
namespace Go.Proofs.Ytleomgkogbenaaa.WireRd
open Go.RowKit Go.Proofs.YtleomgkogbenaaaW.PrintWords Go.Proofs.YtleomgkogbenaaaW.PrintLast Go.Proofs.YtleomgkogbenaaaW.PrintMore Go.Proofs.Ytleomgkogbenaaa.WirePlain Go.Proofs.Ytleomgkogbenaaa.WireWr
set_option linter.unusedVariables false

theorem RdW.belowB {T g B : Nat} {w0 : Rb} {W W' : World} {st : St} (h : RdW T w0 W g st) (hk : Below B W W') (hB : g < B) (hP : ∀ k, w0.P k → k < B) : RdW T w0 W' g st := by
  obtain ⟨hB0, hg, A, c, bs, e, hb, hr⟩ := h
  exact ⟨fun k hp => ⟨(hk.block k (hP k hp)).trans (hB0 k hp).1, Nat.lt_of_lt_of_le (hB0 k hp).2 hk.size⟩, hg, A, c, bs, e, (hk.block g hB).trans hb, hr⟩
theorem RdW.lt {T g : Nat} {w0 : Rb} {W : World} {st : St} (h : RdW T w0 W g st) : g < W.heap.size := by
  obtain ⟨_, _, A, c, bs, e, hb, _⟩ := h
  exact blk_lt hb
/-- What the walk reads off a reader's block, the slice too. -/
theorem RdW.cells2 {T g : Nat} {w0 : Rb} {W : World} {st : St} (h : RdW T w0 W g st) : ∃ (A : Option Addr) (c m : Nat) (e : Int), W.cell? ⟨g, 0, none⟩ = some (.slice A m c) ∧ W.cell? ⟨g, 1, none⟩ = some (.int .i64 e) ∧ m ≤ 17592186044416 ∧ (match st with | .ok l => e = 0 ∧ m = l.length | .err k => e = k ∧ k ≠ 0) := by
  obtain ⟨_, _, A, c, bs, e, hb, _, _, _, hl, hst⟩ := h
  refine ⟨A, c, bs.length, e, (blk_cell hb 0).trans rfl, (blk_cell hb 1).trans rfl, hl, ?_⟩
  cases st with
  | ok l => exact ⟨hst.2, by rw [hst.1]⟩
  | err k => exact hst
theorem uintS_err {st : St} {n : Nat} {e : Int} (h : uintS st = (n, .err e)) : n = 0 := by
  cases st with
  | err k => injection h with h1 h2; exact h1.symm
  | ok bs =>
    have h : finU 0 0 (decU 0 bs) = (n, .err e) := h
    cases hd : decU 0 bs with
    | bad k => rw [hd] at h; injection h with h1 h2; exact h1.symm
    | val m r => rw [hd] at h; injection h with h1 h2; cases h2

section
variable {ops : Array Oper} {rest : List Oper} {o : Oper} {a : Act} {Q : Exit → Act → World → Prop}
/-- append(out, x), behind 'at_builtin', beside a state. -/
theorem app_own (k : IntKind) (t e : TypeId) (by_ : Nat) (B : Nat) (wr : World) (hgd : o.guard = none) (s x : Operand) (ho : o.op = .call { callee := .builtin .append, args := #[s, x], argTypes := #[t, t] })
    (ht : Try.prog.underlying t = some (.slice e)) (hinfo : (Try.prog.info? e).map (fun i => (i.zero, i.size, i.bytes)) = some (some (.int k 0), 1, by_)) (hb0 : 0 < by_)
    (v : Value) (cs : List Int) (p : Int) (hs : a.eval s = v) (hx : a.eval x = .slice (some ⟨wr.heap.size, 0, none⟩) 1 1)
    (hR : Kd.R (Kd.int k) e wr B (fun _ => True) v cs) (hB : B ≤ wr.heap.size) (hl : (cs.length + 1) * by_ ≤ 140737488355328)
    (h : ∀ v1 w1, Aside0 (Kd.R (Kd.int k) e w1 B (fun _ => True) v1 (cs ++ [p])) → Aside0 (Below B wr w1) → wpList Try.prog ops Q rest (a.put o.dst v1) w1) :
    wpList Try.prog ops Q (o :: rest) a (wr.alloc (.cells #[.int k p] e)) := by
  refine Kd.R_append (Kd.int k) (w0 := wr) B hgd s x t e (.int k 0) by_ ho ht hinfo rfl (show 0 < 1 by decide) hb0 v cs p [.int k p] (fun _ => True) (fun _ => False) hs hx rfl (fun _ hk => hk.elim)
    (fun k hk => trivial) hR (Below.refl _ _) hB hl ?_
  intro v1 w1 hown hbw hgr hat
  exact h v1 w1 ⟨hown⟩ ⟨hbw⟩
end
theorem info_int : (Try.prog.info? 3).map (fun i => (i.zero, i.size, i.bytes)) = some (some (.int .i64 0), 1, 8) := by rfl

set_option maxHeartbeats 8000000 in
set_option maxRecDepth 100000 in
theorem list_byte_r (w0 : Rb) (g : Nat) (st : St) (w : World) (hI : RdW 79 w0 w g st) :
    Calls Try.prog 55 #[.pointer (some ⟨g, 0, none⟩), .func (.func 56) #[.pointer (some ⟨g, 0, none⟩)] #[]] w fun e w' => ∃ v, e = .returned v ∧ Kd.R (Kd.int .u8) 5 w' w.heap.size (fun _ => True) v (rawS st).1 ∧ RdW 79 w0 w' g (rawS st).2 ∧ Keeps w w' g := by
  have HI := Aside0.mk hI
  have HN := Aside0.mk hI.uint_lt
  have HG := Aside0.mk hI.lt
  have HPB : Aside0 (∀ k, w0.P k → k < w.heap.size) := ⟨fun k hk => (hI.1 k hk).2⟩
  clear hI
  have hU : ∀ W, RdW 79 w0 W g st → Calls Try.prog 41 #[.pointer (some ⟨g, 0, none⟩)] W fun e w' => e = .returned (.int .u64 ((uintS st).1 : Int)) ∧ RdW 79 w0 w' g (uintS st).2 ∧ Keeps W w' g := fun W h => Uint_r w0 g st W h
  generalize htar : rawS st = tar
  have HT : Aside0 ((match lenS st with | (n, .ok bs) => (bs.take n, St.ok (bs.drop n)) | (_, .err e) => ([], .err e)) = tar) := ⟨htar⟩
  clear htar
  unfold lenS at HT
  generalize hun : uintS st = un at hU HT HN
  obtain ⟨n, st1⟩ := un
  have HUN := Aside0.mk hun
  have HU := Aside0.mk hU
  clear hun hU
  cases st1 with
  | err k =>
    obtain rfl := uintS_err HUN.out
    go_enter Try.func55, Try.ntmps55
    go_wp2_with (first
      | (go_at_call 41; refine (HU.out _ HI.out).mono ?_; rintro e w1 ⟨rfl, HW, HKK⟩; have HW1 := Aside0.mk HW; have HK1 := Aside0.mk HKK; obtain ⟨A1, c1, m1, e1, hcw0, hcw1, hm1, he1⟩ := HW.cells2; replace he1 : e1 = k ∧ k ≠ 0 := he1; clear HW HKK))
    have hne : (e1 == 0) = false := beq_eq_false_iff_ne.mpr (by rw [he1.1]; exact he1.2)
    have hne2 : (e1 != 0) = true := bne_iff_ne.mpr (by rw [he1.1]; exact he1.2)
    go_loopw [6, 7] (fun v6 v7 wr => v6 = .slice none 0 0 ∧ v7 = .int .u64 0 ∧ wr = w1) (fun _ _ _ => 0)
    case atStart => exact ⟨rfl, rfl, rfl⟩
    case round =>
      obtain ⟨rfl, rfl, rfl⟩ := hrel
      go_wp2
      go_ret
      refine ⟨_, rfl, ?_, ?_, HK1.out⟩
      · rw [← HT.out]; exact Kd.R_nil _ _ _ _ _
      · rw [← HT.out]; exact HW1.out
  | ok bs =>
    by_cases hlt : bs.length < n
    · have hfl : ∀ W, RdW 79 w0 W g (.ok bs) → Calls Try.prog 60 #[.pointer (some ⟨g, 0, none⟩), .int .i64 3] W fun e w' => e = .returned (.tuple #[]) ∧ RdW 79 w0 w' g (.err 3) ∧ Keeps W w' g := fun W h => fail_r w0 g (.ok bs) 3 (by decide) W h
      have HFL := Aside0.mk hfl
      have HT2 : Aside0 (([], St.err 3) = tar) := ⟨by have h := HT.out; simp only [if_pos hlt] at h; exact h⟩
      clear HT hfl
      go_enter Try.func55, Try.ntmps55
      go_wp2_with (first
        | (go_at_call 41; refine (HU.out _ HI.out).mono ?_; rintro e w1 ⟨rfl, HW, HKK⟩; have HW1 := Aside0.mk HW; have HK1 := Aside0.mk HKK; obtain ⟨A1, c1, m1, e1, hcw0, hcw1, hm1, he1⟩ := HW.cells2; obtain ⟨rfl, rfl⟩ := he1; have hwl : IntKind.u64.wrap (bs.length : Int) = (bs.length : Int) := (by rw [IntKind.wrap_u64]; omega); clear HW HKK)
        | (go_at_call 60; refine (HFL.out _ HW1.out).mono ?_; rintro e w2 ⟨rfl, HW, HKK⟩; have HW2 := Aside0.mk HW; have HK2 := Aside0.mk HKK; obtain ⟨ev2, hcw2, he2⟩ := HW.cells; obtain ⟨rfl, -⟩ := he2; clear HW HKK))
      go_loopw [6, 7] (fun v6 v7 wr => v6 = .slice none 0 0 ∧ v7 = .int .u64 0 ∧ wr = w2) (fun _ _ _ => 0)
      case atStart => exact ⟨rfl, rfl, rfl⟩
      case round =>
        obtain ⟨rfl, rfl, rfl⟩ := hrel
        go_wp2
        go_ret
        refine ⟨_, rfl, ?_, ?_, HK1.out.trans HK2.out⟩
        · rw [← HT2.out]; exact Kd.R_nil _ _ _ _ _
        · rw [← HT2.out]; exact HW2.out
    · have HT2 : Aside0 ((bs.take n, St.ok (bs.drop n)) = tar) := ⟨by have h := HT.out; simp only [if_neg hlt] at h; exact h⟩
      clear HT
      go_enter Try.func55, Try.ntmps55
      go_wp2_with (first
        | (go_at_call 41; refine (HU.out _ HI.out).mono ?_; rintro e w1 ⟨rfl, HW, HKK⟩; have HW1 := Aside0.mk HW; have HK1 := Aside0.mk HKK; obtain ⟨A1, c1, m1, e1, hcw0, hcw1, hm1, he1⟩ := HW.cells2; obtain ⟨rfl, rfl⟩ := he1; have hwl : IntKind.u64.wrap (bs.length : Int) = (bs.length : Int) := (by rw [IntKind.wrap_u64]; omega); clear HW HKK))
      go_loopw [6, 7] (fun v6 v7 wr => ∃ k : Nat, k ≤ n ∧ v7 = .int .u64 (k : Int) ∧ Aside0 (Kd.R (Kd.int .u8) 5 wr w.heap.size (fun _ => True) v6 (bs.take k)) ∧ Aside0 (RdW 79 w0 wr g (.ok (bs.drop k))) ∧ Aside0 (Keeps w wr g)) (fun _ v7 _ => n - (intOf v7).toNat)
      case atStart => exact ⟨0, Nat.zero_le _, rfl, ⟨by exact Kd.R_nil _ _ _ _ _⟩, ⟨by simpa using HW1.out⟩, HK1⟩
      case round =>
        clear hcw0 hcw1 HW1 HK1
        obtain ⟨k, hk, rfl, HO, HW, HK⟩ := hrel
        obtain ⟨e1, hcw1, he1⟩ := HW.out.cells
        obtain rfl : e1 = 0 := he1
        by_cases hkn : k < n
        · have hkl : k < bs.length := by omega
          have hnx : ∀ W, RdW 79 w0 W g (.ok (bs.drop k)) → Calls Try.prog 56 #[.pointer (some ⟨g, 0, none⟩)] W fun e w' => e = .returned (.int .u8 bs[k]) ∧ RdW 79 w0 w' g (.ok (bs.drop (k + 1))) ∧ Keeps W w' g := fun W h => by
            have := next_r w0 g (.ok (bs.drop k)) W h
            rw [List.drop_eq_getElem_cons hkl] at this
            exact this
          have HTK := Aside0.mk (List.take_succ_eq_append_getElem hkl)
          have HNX := Aside0.mk hnx
          clear hnx
          generalize bs[k] = x at HNX HTK
          go_wp2_with (first
            | (go_at_call 56; refine (HNX.out _ HW.out).mono ?_; rintro e w2 ⟨rfl, HW', HKK⟩; have HW2 := Aside0.mk HW'; have HK2 := Aside0.mk HKK; clear HW' HKK)
            | ((with_reducible refine gate_builtin (b := .append) (xs := #[.tmp 32, .tmp 35]) rfl ?_); at_builtin
               refine app_own .u8 24 5 1 w.heap.size w2 rfl (.tmp 32) (.tmp 35) rfl Try.underlying24 info_u8 (by decide) u6 (bs.take k) x rfl rfl (Kd.R_keep (ok := fun k => k ≠ g) (Kd.R_mono (Kd.R_bound HO.out) (fun j hj => by have := HG.out; have := hj.2.1; omega)) HK2.out.keep (fun _ h => h) |> fun h => Kd.R_mono h (fun _ _ => trivial)) (Nat.le_trans HK.out.keep.1 HK2.out.keep.1) (by rw [List.length_take]; omega) ?_
               intro v1 w3 HO3 HB3))
          exact ⟨⟨k + 1, by omega, rfl, ⟨by rw [HTK.out]; exact HO3.out⟩, ⟨HW2.out.belowB HB3.out HG.out HPB.out⟩, ⟨(HK.out.trans HK2.out).belowB HB3.out⟩⟩, by simp only [intOf]; omega⟩
        · obtain rfl : k = n := by omega
          go_wp2
          go_ret
          refine ⟨_, rfl, ?_, ?_, HK.out⟩
          · rw [← HT2.out]; exact HO.out
          · rw [← HT2.out]; exact HW.out

theorem intsN_err (n : Nat) (acc : List Int) (e : Int) (h : n ≠ 0) : intsN n acc (.err e) = ([], .err e) := by
  cases n with
  | zero => exact absurd rfl h
  | succ n => rfl
set_option maxHeartbeats 8000000 in
set_option maxRecDepth 100000 in
theorem list_int_r (w0 : Rb) (g : Nat) (st : St) (w : World) (hI : RdW 79 w0 w g st) :
    Calls Try.prog 57 #[.pointer (some ⟨g, 0, none⟩), .func (.func 42) #[.pointer (some ⟨g, 0, none⟩)] #[]] w fun e w' => ∃ v, e = .returned v ∧ Kd.R (Kd.int .i64) 3 w' w.heap.size (fun _ => True) v (intsS st).1 ∧ RdW 79 w0 w' g (intsS st).2 ∧ Keeps w w' g := by
  have HI := Aside0.mk hI
  have HN := Aside0.mk hI.uint_lt
  have HG := Aside0.mk hI.lt
  have HPB : Aside0 (∀ k, w0.P k → k < w.heap.size) := ⟨fun k hk => (hI.1 k hk).2⟩
  clear hI
  have hU : ∀ W, RdW 79 w0 W g st → Calls Try.prog 41 #[.pointer (some ⟨g, 0, none⟩)] W fun e w' => e = .returned (.int .u64 ((uintS st).1 : Int)) ∧ RdW 79 w0 w' g (uintS st).2 ∧ Keeps W w' g := fun W h => Uint_r w0 g st W h
  generalize htar : intsS st = tar
  have HT : Aside0 ((match lenS st with | (n, .ok bs) => (match intsN n [] (.ok bs) with | (l, .ok r) => (l, St.ok r) | (_, .err e) => ([], .err e)) | (_, .err e) => ([], .err e)) = tar) := ⟨htar⟩
  clear htar
  unfold lenS at HT
  generalize hun : uintS st = un at hU HT HN
  obtain ⟨n, st1⟩ := un
  have HUN := Aside0.mk hun
  have HU := Aside0.mk hU
  clear hun hU
  cases st1 with
  | err k =>
    obtain rfl := uintS_err HUN.out
    go_enter Try.func57, Try.ntmps57
    go_wp2_with (first
      | (go_at_call 41; refine (HU.out _ HI.out).mono ?_; rintro e w1 ⟨rfl, HW, HKK⟩; have HW1 := Aside0.mk HW; have HK1 := Aside0.mk HKK; obtain ⟨A1, c1, m1, e1, hcw0, hcw1, hm1, he1⟩ := HW.cells2; replace he1 : e1 = k ∧ k ≠ 0 := he1; clear HW HKK))
    have hne : (e1 == 0) = false := beq_eq_false_iff_ne.mpr (by rw [he1.1]; exact he1.2)
    have hne2 : (e1 != 0) = true := bne_iff_ne.mpr (by rw [he1.1]; exact he1.2)
    go_loopw [6, 7] (fun v6 v7 wr => v6 = .slice none 0 0 ∧ v7 = .int .u64 0 ∧ wr = w1) (fun _ _ _ => 0)
    case atStart => exact ⟨rfl, rfl, rfl⟩
    case round =>
      obtain ⟨rfl, rfl, rfl⟩ := hrel
      go_wp2
      go_ret
      refine ⟨_, rfl, ?_, ?_, HK1.out⟩
      · rw [← HT.out]; exact Kd.R_nil _ _ _ _ _
      · rw [← HT.out]; exact HW1.out
  | ok bs =>
    by_cases hlt : bs.length < n
    · have hfl : ∀ W, RdW 79 w0 W g (.ok bs) → Calls Try.prog 60 #[.pointer (some ⟨g, 0, none⟩), .int .i64 3] W fun e w' => e = .returned (.tuple #[]) ∧ RdW 79 w0 w' g (.err 3) ∧ Keeps W w' g := fun W h => fail_r w0 g (.ok bs) 3 (by decide) W h
      have HFL := Aside0.mk hfl
      have HT2 : Aside0 (([], St.err 3) = tar) := ⟨by have h := HT.out; simp only [if_pos hlt] at h; exact h⟩
      clear HT hfl
      go_enter Try.func57, Try.ntmps57
      go_wp2_with (first
        | (go_at_call 41; refine (HU.out _ HI.out).mono ?_; rintro e w1 ⟨rfl, HW, HKK⟩; have HW1 := Aside0.mk HW; have HK1 := Aside0.mk HKK; obtain ⟨A1, c1, m1, e1, hcw0, hcw1, hm1, he1⟩ := HW.cells2; obtain ⟨rfl, rfl⟩ := he1; have hwl : IntKind.u64.wrap (bs.length : Int) = (bs.length : Int) := (by rw [IntKind.wrap_u64]; omega); clear HW HKK)
        | (go_at_call 60; refine (HFL.out _ HW1.out).mono ?_; rintro e w2 ⟨rfl, HW, HKK⟩; have HW2 := Aside0.mk HW; have HK2 := Aside0.mk HKK; obtain ⟨ev2, hcw2, he2⟩ := HW.cells; obtain ⟨rfl, -⟩ := he2; clear HW HKK))
      go_loopw [6, 7] (fun v6 v7 wr => v6 = .slice none 0 0 ∧ v7 = .int .u64 0 ∧ wr = w2) (fun _ _ _ => 0)
      case atStart => exact ⟨rfl, rfl, rfl⟩
      case round =>
        obtain ⟨rfl, rfl, rfl⟩ := hrel
        go_wp2
        go_ret
        refine ⟨_, rfl, ?_, ?_, HK1.out.trans HK2.out⟩
        · rw [← HT2.out]; exact Kd.R_nil _ _ _ _ _
        · rw [← HT2.out]; exact HW2.out
    · have HT2 : Aside0 ((match intsN n [] (.ok bs) with | (l, .ok r) => (l, St.ok r) | (_, .err e) => ([], .err e)) = tar) := ⟨by have h := HT.out; simp only [if_neg hlt] at h; exact h⟩
      have HNL : Aside0 (n ≤ bs.length) := ⟨by omega⟩
      clear HT
      go_enter Try.func57, Try.ntmps57
      go_wp2_with (first
        | (go_at_call 41; refine (HU.out _ HI.out).mono ?_; rintro e w1 ⟨rfl, HW, HKK⟩; have HW1 := Aside0.mk HW; have HK1 := Aside0.mk HKK; obtain ⟨A1, c1, m1, e1, hcw0, hcw1, hm1, he1⟩ := HW.cells2; obtain ⟨rfl, rfl⟩ := he1; have hwl : IntKind.u64.wrap (bs.length : Int) = (bs.length : Int) := (by rw [IntKind.wrap_u64]; omega); clear HW HKK))
      go_loopw [6, 7] (fun v6 v7 wr => ∃ (k : Nat) (out : List Int) (s : St), k ≤ n ∧ v7 = .int .u64 (k : Int) ∧ out.length = k ∧ Aside0 (intsN (n - k) out s = intsN n [] (.ok bs)) ∧ Aside0 (Kd.R (Kd.int .i64) 3 wr w.heap.size (fun _ => True) v6 out) ∧ Aside0 (RdW 79 w0 wr g s) ∧ Aside0 (Keeps w wr g)) (fun _ v7 _ => n - (intOf v7).toNat)
      case atStart => exact ⟨0, [], .ok bs, Nat.zero_le _, rfl, rfl, ⟨rfl⟩, ⟨by exact Kd.R_nil _ _ _ _ _⟩, HW1, HK1⟩
      case round =>
        clear hcw0 hcw1 HW1 HK1
        obtain ⟨k, out, s, hk, rfl, hol, HE, HO, HW, HK⟩ := hrel
        obtain ⟨e1, hcw1, he1⟩ := HW.out.cells
        cases s with
        | err q =>
          replace he1 : e1 = q ∧ q ≠ 0 := he1
          have hne : (e1 == 0) = false := beq_eq_false_iff_ne.mpr (by rw [he1.1]; exact he1.2)
          have hne2 : (e1 != 0) = true := bne_iff_ne.mpr (by rw [he1.1]; exact he1.2)
          have HT3 : Aside0 (([], St.err q) = tar) := ⟨by
            have h := HT2.out
            rw [← HE.out] at h
            by_cases hz : n - k = 0
            · rw [hz] at h; exact h
            · rw [intsN_err _ _ _ hz] at h; exact h⟩
          clear he1
          by_cases hkn : k < n
          · go_wp2
            go_ret
            refine ⟨_, rfl, ?_, ?_, HK.out⟩
            · rw [← HT3.out]; exact Kd.R_nil _ _ _ _ _
            · rw [← HT3.out]; exact HW.out
          · go_wp2
            go_ret
            refine ⟨_, rfl, ?_, ?_, HK.out⟩
            · rw [← HT3.out]; exact Kd.R_nil _ _ _ _ _
            · rw [← HT3.out]; exact HW.out
        | ok cs =>
          obtain rfl : e1 = 0 := he1
          by_cases hkn : k < n
          · have hnx : ∀ W, RdW 79 w0 W g (.ok cs) → Calls Try.prog 42 #[.pointer (some ⟨g, 0, none⟩)] W fun e w' => e = .returned (.int .i64 (intS (.ok cs)).1) ∧ RdW 79 w0 w' g (intS (.ok cs)).2 ∧ Keeps W w' g := fun W h => Int_r w0 g (.ok cs) W h
            have HE2 : Aside0 (intsN (n - (k + 1)) (out ++ [(intS (.ok cs)).1]) (intS (.ok cs)).2 = intsN n [] (.ok bs)) := ⟨by
              have h := HE.out
              rw [show n - k = (n - (k + 1)) + 1 by omega] at h
              exact h⟩
            have HNX := Aside0.mk hnx
            have HLL : Aside0 ((out.length + 1) * 8 ≤ 140737488355328) := ⟨by have := HNL.out; omega⟩
            clear hnx HE
            generalize (intS (.ok cs)).1 = x at HNX HE2
            generalize (intS (.ok cs)).2 = s2 at HNX HE2
            go_wp2_with (first
              | (go_at_call 42; refine (HNX.out _ HW.out).mono ?_; rintro e w2 ⟨rfl, HW', HKK⟩; have HW2 := Aside0.mk HW'; have HK2 := Aside0.mk HKK; clear HW' HKK)
              | ((with_reducible refine gate_builtin (b := .append) (xs := #[.tmp 32, .tmp 35]) rfl ?_); at_builtin
                 refine app_own .i64 33 3 8 w.heap.size w2 rfl (.tmp 32) (.tmp 35) rfl Try.underlying33 info_int (by decide) u6 out x rfl rfl (Kd.R_keep (ok := fun k => k ≠ g) (Kd.R_mono (Kd.R_bound HO.out) (fun j hj => by have := HG.out; have := hj.2.1; omega)) HK2.out.keep (fun _ h => h) |> fun h => Kd.R_mono h (fun _ _ => trivial)) (Nat.le_trans HK.out.keep.1 HK2.out.keep.1) HLL.out ?_
                 intro v1 w3 HO3 HB3))
            exact ⟨⟨k + 1, out ++ [x], s2, by omega, rfl, by rw [List.length_append, hol]; rfl, HE2, HO3, ⟨HW2.out.belowB HB3.out HG.out HPB.out⟩, ⟨(HK.out.trans HK2.out).belowB HB3.out⟩⟩, by simp only [intOf]; omega⟩
          · have HT3 : Aside0 ((out, St.ok cs) = tar) := ⟨by
              have h := HT2.out
              rw [← HE.out, show n - k = 0 by omega] at h
              exact h⟩
            go_wp2
            go_ret
            refine ⟨_, rfl, ?_, ?_, HK.out⟩
            · rw [← HT3.out]; exact HO.out
            · rw [← HT3.out]; exact HW.out

set_option maxHeartbeats 8000000 in
set_option maxRecDepth 100000 in
theorem Raw_r (w0 : Rb) (g : Nat) (st : St) (w : World) (hI : RdW 79 w0 w g st) :
    Calls Try.prog 31 #[.pointer (some ⟨g, 0, none⟩)] w fun e w' => ∃ v, e = .returned v ∧ Kd.R (Kd.int .u8) 5 w' w.heap.size (fun _ => True) v (rawS st).1 ∧ RdW 79 w0 w' g (rawS st).2 ∧ Keeps w w' g := by
  have HI := Aside0.mk hI
  clear hI
  go_enter Try.func31, Try.ntmps31
  go_wp2_with (first
    | (go_at_call 55; refine (list_byte_r w0 g st _ HI.out).mono ?_; rintro e w1 ⟨v1, rfl, HO, HW, HKK⟩; have HO1 := Aside0.mk HO; have HW1 := Aside0.mk HW; have HK1 := Aside0.mk HKK; clear HO HW HKK))
  go_ret
  exact ⟨_, rfl, HO1.out, HW1.out, HK1.out⟩

set_option maxHeartbeats 8000000 in
set_option maxRecDepth 100000 in
theorem Ints_r (w0 : Rb) (g : Nat) (st : St) (w : World) (hI : RdW 79 w0 w g st) :
    Calls Try.prog 33 #[.pointer (some ⟨g, 0, none⟩)] w fun e w' => ∃ v, e = .returned v ∧ Kd.R (Kd.int .i64) 3 w' w.heap.size (fun _ => True) v (intsS st).1 ∧ RdW 79 w0 w' g (intsS st).2 ∧ Keeps w w' g := by
  have HI := Aside0.mk hI
  clear hI
  go_enter Try.func33, Try.ntmps33
  go_wp2_with (first
    | (go_at_call 57; refine (list_int_r w0 g st _ HI.out).mono ?_; rintro e w1 ⟨v1, rfl, HO, HW, HKK⟩; have HO1 := Aside0.mk HO; have HW1 := Aside0.mk HW; have HK1 := Aside0.mk HKK; clear HO HW HKK))
  go_ret
  exact ⟨_, rfl, HO1.out, HW1.out, HK1.out⟩

set_option maxHeartbeats 8000000 in
set_option maxRecDepth 100000 in
theorem Text_r (w0 : Rb) (g : Nat) (st : St) (w : World) (hI : RdW 79 w0 w g st) :
    Calls Try.prog 43 #[.pointer (some ⟨g, 0, none⟩)] w fun e w' => e = .returned (.string (strOfNums (rawS st).1)) ∧ RdW 79 w0 w' g (rawS st).2 ∧ Keeps w w' g := by
  have HI := Aside0.mk hI
  clear hI
  go_enter Try.func43, Try.ntmps43
  go_wp2_with (first
    | (go_at_call 31; refine (Raw_r w0 g st _ HI.out).mono ?_; rintro e w1 ⟨v1, rfl, HO, HW, HKK⟩; have HW1 := Aside0.mk HW; have HK1 := Aside0.mk HKK
       obtain ⟨A1, c1, rfl, -, hC⟩ := Kd.R_reads HO
       have hcv := Kd.C_string Try.underlying24 Try.underlying5 Try.underlying9 (c := c1) hC
       clear HO HW HKK hC))
  go_ret
  exact ⟨rfl, HW1.out, HK1.out⟩

theorem R_none {k : IntKind} {e base c : Nat} {ok : Nat → Prop} {W : World} {xs : List Int} {m : Nat} (hR : Kd.R (Kd.int k) e W base ok (.slice none m c) xs) : c = 0 ∧ m = 0 := by
  obtain ⟨-, inner, ho, -⟩ := hR
  rcases ho.2 with ⟨h, _⟩ | ⟨g', cap, cur, h, _⟩
  · injection h with _ h1 h2
    exact ⟨h2, h1⟩
  · injection h with h _ _
    cases h

set_option maxHeartbeats 8000000 in
set_option maxRecDepth 100000 in
/-- Read: the reader is new, and so are the blocks that its bytes lie in: those from lo to hi. -/
theorem Read_r (A : Option Addr) (c : Nat) (xs : List Int) (w : World) (hR : Kd.C (Kd.int .u8) w A xs.length xs) (hl : xs.length ≤ 17592186044416) (hn : A = none → c = 0 ∧ xs.length = 0) (hx : ∀ x ∈ xs, 0 ≤ x ∧ x < 256) :
    Calls Try.prog 21 #[.slice A xs.length c] w fun e w' => ∃ (g : Nat) (b : Rb), e = .returned (.pointer (some ⟨g, 0, none⟩)) ∧ RdW 79 b w' g (.ok xs) ∧ (∀ k, b.P k → w.heap.size ≤ k ∧ k < g) ∧ w.heap.size ≤ g ∧ Below w.heap.size w w' := by
  have HR := Aside0.mk hR
  have HL := Aside0.mk hl
  have HN := Aside0.mk hn
  have HX := Aside0.mk hx
  clear hR hl hn hx
  go_enter Try.func21, Try.ntmps21
  go_wp2_with (first
    | (go_at_call 39; refine (Clone_w A c xs w HR.out (by have := HL.out; omega) HN.out).mono ?_; rintro e w1 ⟨v1, rfl, HO, HB⟩; have HB1 := Aside0.mk HB
       obtain ⟨A1, c1, rfl, hlc, hC⟩ := Kd.R_reads HO
       have HO1 := Aside0.mk HO
       have HLC := Aside0.mk hlc
       clear HO HB hC hlc))
  go_ret
  refine ⟨_, ⟨fun k => w.heap.size ≤ k ∧ k < w1.heap.size, w1⟩, rfl, ⟨fun k hk => ⟨Below.heap_alloc _ _ _ (by have := hk.2; omega), by rw [World.size_alloc]; have := hk.2; omega⟩, fun h => by have := h.2; omega, A1, c1, xs, 0, ?_, ?_, HLC.out, HX.out, HL.out, rfl, rfl⟩, fun k hk => hk, HB1.out.size, HB1.out.trans (below_alloc (Below.refl _ _) _ |>.mono HB1.out.size)⟩
  · simpa using heap_alloc_new w1 (.cells #[.slice A1 xs.length c1, .int .i64 0] 79)
  · intro W' hp
    refine (Kd.R_reads' (Kd.R_move (Kd.R_bound HO1.out) (fun k hk => (hp k ⟨hk.2.1, hk.2.2.1⟩).1))).2.2
end Go.Proofs.Ytleomgkogbenaaa.WireRd
