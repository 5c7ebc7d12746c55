/- The Writer: its methods, walked. -/
import Derived.Test.YtleomgkogbenaaaWirePlain
import Derived.Lib.SliceRun
import Derived.Test.YtleomgkogbenaaaProg
import Derived.Below
import Derived.Deep.Draws
import Derived.Deep.AppendLies
import Derived.Maps.AppendAt
import Derived.OwnWalk
import Derived.Laws.BytesArg
import Derived.Laws.MakeOwn
import Derived.Laws.OwnMore
import Derived.Deep.OwnRows
import Derived.Tactics
import Derived.Lib.ConvBytes
import Derived.Laws.Slices
import Derived.WalkKit
import Derived.KernelRfl
import Derived.RowKit3
import Derived.Deep.LoopGhost
import Derived.Deep.QuietTactic
import Derived.BigQuiet
import Derived.WideLaws
import Derived.Deep.DeepCutAuto
import Derived.Deep.CutBlock
import Derived.Deep.RegionHeld3
import Derived.Laws.Rows
import Derived.Lib.AppendStr
import Derived.ArgAppend
import Derived.Laws.IdiomCopy
import Derived.OrdersHeld
import Derived.Laws.BitsLemmas
import Derived.RowKit
import Derived.Test.YtleomgkogbenaaaPw
import Derived.Test.YtleomgkogbenaaaWWords
import Derived.Test.YtleomgkogbenaaaWLast
import Derived.Test.YtleomgkogbenaaaWTab
import Derived.Test.YtleomgkogbenaaaWFour
import Derived.Test.YtleomgkogbenaaaWQPut
import Derived.Test.YtleomgkogbenaaaWApart
import Derived.Test.YtleomgkogbenaaaWArr
import Derived.Test.YtleomgkogbenaaaWZeros
import Derived.Test.YtleomgkogbenaaaWFoot
import Derived.Test.YtleomgkogbenaaaWKept
import Derived.Test.YtleomgkogbenaaaWShare
import Derived.Test.YtleomgkogbenaaaWN
import Derived.Test.YtleomgkogbenaaaWFootNe
import Derived.Test.YtleomgkogbenaaaWAt
import Derived.Test.YtleomgkogbenaaaWEqStruct
import Derived.Test.YtleomgkogbenaaaWRepsOne
import Derived.Test.YtleomgkogbenaaaWInv
import Derived.Test.YtleomgkogbenaaaWInvWords
import Derived.Test.YtleomgkogbenaaaWGuard
import Derived.Test.YtleomgkogbenaaaWNEv
import Derived.Test.YtleomgkogbenaaaWMore
namespace Go.Proofs.Ytleomgkogbenaaa.WireWr
open Go.RowKit Go.Proofs.YtleomgkogbenaaaW.PrintWords Go.Proofs.YtleomgkogbenaaaW.PrintLast Go.Proofs.YtleomgkogbenaaaW.PrintMore Go.Proofs.Ytleomgkogbenaaa.WirePlain
set_option linter.unusedVariables false

theorem info_u8 : (Try.prog.info? 5).map (fun i => (i.zero, i.size, i.bytes)) = some (some (.int .u8 0), 1, 1) := by rfl

/-- A Writer at block g of W that holds the bytes bs; it, and its bytes, are no older than base. -/
def WrW (base : Nat) (W : World) (g : Nat) (bs : List Int) : Prop :=
  ∃ v, W.heap[g]? = some (.cells #[v] 26 (0, 0)) ∧ base ≤ g ∧ Kd.R (Kd.int .u8) 5 W base (fun k => k ≠ g) v bs
theorem WrW.kept {base g : Nat} {W W' : World} {bs : List Int} (h : WrW base W g bs) (hk : Below W.heap.size W W') : WrW base W' g bs := by
  obtain ⟨v, hb, hg, hR⟩ := h
  exact ⟨v, (hk.block g (blk_lt hb)).trans hb, hg, Kd.R_below hR hk⟩
theorem WrW.put {base g : Nat} {W1 : World} {v v1 : Value} {bs : List Int} (hb : W1.heap[g]? = some (.cells #[v] 26 (0, 0))) (hg : base ≤ g) (hR : Kd.R (Kd.int .u8) 5 W1 base (fun k => k ≠ g) v1 bs) :
    WrW base (W1.setCell ⟨g, 0, none⟩ v1) g bs :=
  ⟨v1, by simpa using blk_set hb 0 v1, hg, Kd.R_far hR (fun k hk => hk) v1⟩

section
variable {ops : Array Oper} {rest : List Oper} {o : Oper} {a : Act} {Q : Exit → Act → World → Prop}
/-- append(w.b, x), behind 'at_builtin'. -/
theorem app1 (base g : Nat) (wr : World) (hgd : o.guard = none) (s x : Operand) (ho : o.op = .call { callee := .builtin .append, args := #[s, x], argTypes := #[24, 24] })
    (v : Value) (cs : List Int) (p : Int) (hs : a.eval s = v) (hx : a.eval x = .slice (some ⟨wr.heap.size, 0, none⟩) 1 1)
    (hb : wr.heap[g]? = some (.cells #[v] 26 (0, 0))) (hg : base ≤ g) (hR : Kd.R (Kd.int .u8) 5 wr base (fun k => k ≠ g) v cs) (hl : cs.length + 1 ≤ 140737488355328)
    (h : ∀ A1 c1 w1, w1.cell? ⟨g, 0, none⟩ = some v → w1.frozen? ⟨g, 0, none⟩ = false → Aside0 (WrW base (w1.setCell ⟨g, 0, none⟩ (.slice A1 (cs.length + 1) c1)) g (cs ++ [p])) →
      Aside0 (Below base wr (w1.setCell ⟨g, 0, none⟩ (.slice A1 (cs.length + 1) c1))) → wpList Try.prog ops Q rest (a.put o.dst (.slice A1 (cs.length + 1) c1)) w1) :
    wpList Try.prog ops Q (o :: rest) a (wr.alloc (.cells #[.int .u8 p] 5)) := by
  have hlt := blk_lt hb
  refine Kd.R_append (Kd.int .u8) (w0 := wr) base hgd s x 24 5 (.int .u8 0) 1 ho Try.underlying24 info_u8 rfl (by decide) (by omega) v cs p [.int .u8 p] (fun k => k ≠ g) (fun _ => False) hs hx rfl (fun _ hk => hk.elim)
    (fun k hk => by omega) hR (Below.refl _ _) (by omega) (by omega) ?_
  intro v1 w1 hown hbw hgr hat
  have hb1 := blk_grown hb hgr (fun e => hR.1 g e.symm rfl)
  obtain ⟨A1, c1, rfl, -, -⟩ := Kd.R_reads hown
  have hf := WrW.put hb1 hg hown
  rw [List.length_append, List.length_singleton] at hf ⊢
  exact h A1 c1 w1 ((blk_cell hb1 0).trans rfl) (blk_frozen hb1 0) ⟨hf⟩ ⟨hbw.setCell (p := ⟨g, 0, none⟩) hg _⟩
end

set_option maxHeartbeats 8000000 in
set_option maxRecDepth 100000 in
theorem Uint_w (base g : Nat) (bs : List Int) (n : Nat) (w : World) (hI : WrW base w g bs) (hl : bs.length + (encU n).length ≤ 140737488355328) (hn : n < 18446744073709551616) :
    Calls Try.prog 12 #[.pointer (some ⟨g, 0, none⟩), .int .u64 (n : Int)] w fun e w' => e = .returned (.tuple #[]) ∧ WrW base w' g (bs ++ encU n) ∧ Below base w w' := by
  have HB0 := Aside0.mk (Below.refl base w)
  have HI0 := Aside0.mk hI
  have HL := Aside0.mk hl
  clear hI hl
  generalize hall : bs ++ encU n = all
  have hal : Aside0 (all.length ≤ 140737488355328) := ⟨by have := HL.out; rw [← hall, List.length_append]; exact this⟩
  have HALL := Aside0.mk hall
  clear hall HL
  go_enter Try.func12, Try.ntmps12
  go_wp2
  go_loopw [1] (fun i wr => ∃ (k : Nat) (cs : List Int), i = .int .u64 (k : Int) ∧ k < 18446744073709551616 ∧ Aside0 (cs ++ encU k = all) ∧ Aside0 (WrW base wr g cs) ∧ Aside0 (Below base w wr)) (fun i _ => (intOf i).toNat)
  case atStart => exact ⟨n, bs, rfl, hn, HALL, HI0, HB0⟩
  case round =>
    obtain ⟨k, cs, rfl, hk, HA, HI, HB⟩ := hrel
    obtain ⟨v, hb, hg, hR⟩ := HI.out
    have hc : wr.cell? ⟨g, 0, none⟩ = some v := (blk_cell hb 0).trans rfl
    have hf := blk_frozen hb 0
    have HBK := Aside0.mk hb
    have HG := Aside0.mk hg
    have HR := Aside0.mk hR
    clear hb hg hR
    by_cases c : k < 128
    · have cb : decide ((128 : Int) ≤ (k : Int)) = false := decide_eq_false (by omega)
      have hll : Aside0 (cs.length + 1 ≤ 140737488355328) := ⟨by have := hal.out; rw [← HA.out, encU_small c] at this; simpa using this⟩
      have hall : all = cs ++ [(k : Int)] := by rw [← HA.out, encU_small c]
      subst hall
      go_wp2_with (first
        | ((with_reducible refine gate_builtin (b := .append) (xs := #[.tmp 24, .tmp 27]) rfl ?_); at_builtin
           refine app1 base g wr rfl (.tmp 24) (.tmp 27) rfl v cs (k : Int) rfl rfl HBK.out HG.out HR.out hll.out ?_
           intro A1 c1 w1 hc1 hf1 HFIN HBB))
      first | go_end0 | ((try simp only [Exit.inBlock, Exit.then]); refine bodyPost_ret (results_none rfl _ _ _) rfl ?_)
      exact ⟨rfl, HFIN.out, HB.out.trans HBB.out⟩
    · have cb : decide ((128 : Int) ≤ (k : Int)) = true := decide_eq_true (by omega)
      have hall : (cs ++ [((k % 128 + 128 : Nat) : Int)]) ++ encU (k / 128) = all := by rw [← HA.out, encU_big c, List.append_assoc, List.singleton_append]
      have hll : Aside0 (cs.length + 1 ≤ 140737488355328) := ⟨by have := hal.out; rw [← hall, List.length_append, List.length_append] at this; simp only [List.length_singleton] at this; omega⟩
      have HALL := Aside0.mk hall
      clear hall
      have hbits : Go.bits .or .u8 ((k : Int) % 256) 128 = ((k % 128 + 128 : Nat) : Int) := by
        have h := or_more (k % 256) (by omega)
        rw [show ((k % 256 : Nat) : Int) = (k : Int) % 256 by omega, show k % 256 % 128 = k % 128 by omega] at h
        exact h
      generalize hxk : ((k % 128 + 128 : Nat) : Int) = xk at hbits HALL
      have HBI := Aside0.mk hbits
      clear hbits hxk
      go_wp2_with (first
        | ((with_reducible refine gate_builtin (b := .append) (xs := #[.tmp 12, .tmp 16]) rfl ?_); at_builtin
           rw [HBI.out]
           refine app1 base g wr rfl (.tmp 12) (.tmp 16) rfl v cs xk rfl rfl HBK.out HG.out HR.out hll.out ?_
           intro A1 c1 w1 hc1 hf1 HFIN HBB))
      refine ⟨⟨k / 128, cs ++ [xk], by rw [Int.natCast_ediv]; rfl, by omega, HALL, HFIN, ⟨HB.out.trans HBB.out⟩⟩, by simp only [intOf]; omega⟩

theorem encU_len : ∀ (m n : Nat), n < 128 ^ m → 1 ≤ m → (encU n).length ≤ m
  | 0, n, _, h1 => by omega
  | m + 1, n, h, _ => by
    by_cases c : n < 128
    · rw [encU_small c]; simp
    · rw [encU_big c, List.length_cons]
      have hm : 1 ≤ m := by
        cases m with
        | zero => simp at h; omega
        | succ m => omega
      have := encU_len m (n / 128) (by rw [Nat.pow_succ] at h; exact Nat.div_lt_of_lt_mul (by omega)) hm
      omega
theorem encU_ten (n : Nat) (h : n < 18446744073709551616) : (encU n).length ≤ 10 := encU_len 10 n (by omega) (by omega)
theorem zig_lt (n : Int) (h1 : -9223372036854775808 ≤ n) (h2 : n < 9223372036854775808) : zig n < 18446744073709551616 := by
  unfold zig; split <;> omega

theorem encList_snoc (l : List Int) (x : Int) : encList (l ++ [x]) = encList l ++ encI x := by
  induction l with
  | nil => simp [encList]
  | cons a r ih => rw [List.cons_append, encList, encList, ih, List.append_assoc]
theorem encList_len (l : List Int) (h : ∀ x ∈ l, -9223372036854775808 ≤ x ∧ x < 9223372036854775808) : (encList l).length ≤ 10 * l.length := by
  induction l with
  | nil => simp [encList]
  | cons a r ih =>
    have h1 := h a List.mem_cons_self
    have h2 := encU_ten (zig a) (zig_lt a h1.1 h1.2)
    have h3 := ih (fun x hm => h x (List.mem_cons_of_mem _ hm))
    rw [encList, List.length_append, List.length_cons]
    unfold encI
    omega

set_option maxHeartbeats 8000000 in
set_option maxRecDepth 100000 in
theorem Int_w (base g : Nat) (bs : List Int) (n : Int) (h1 : -9223372036854775808 ≤ n) (h2 : n < 9223372036854775808) (w : World) (hI : WrW base w g bs) (hl : bs.length + 10 ≤ 140737488355328) :
    Calls Try.prog 14 #[.pointer (some ⟨g, 0, none⟩), .int .i64 n] w fun e w' => e = .returned (.tuple #[]) ∧ WrW base w' g (bs ++ encI n) ∧ Below base w w' := by
  have HI := Aside0.mk hI
  have HL := Aside0.mk hl
  have HZ := Aside0.mk (zig_lt n h1 h2)
  have HG := Aside0.mk (zig_go n h1 h2)
  have hz : ∀ w, Calls Try.prog 38 #[.int .i64 n] w fun e w' => e = .returned (.int .u64 (zig n : Int)) ∧ Drawn0 w w' := fun w => by
    rw [← HG.out]
    go_enter Try.func38, Try.ntmps38
    go_wp2
    go_ret
    exact ⟨by first | rfl | (simp; done) | (simp [*]; done), by repeat (first | exact Drawn0.refl _ | apply Drawn0.step)⟩
  have HZW := Aside0.mk hz
  clear hI hl hz
  go_enter Try.func14, Try.ntmps14
  go_wp2_with (first
    | (go_at_call 38; refine (HZW.out _).mono ?_; rintro e w1 ⟨rfl, ⟨nd, rfl⟩⟩)
    | (go_at_call 12; refine (Uint_w base g bs (zig n) (w.drewN nd) HI.out (by have := HL.out; have := encU_ten _ HZ.out; omega) HZ.out).mono ?_; rintro e w2 ⟨rfl, HW, HB⟩))
  first | go_end0 | ((try simp only [Exit.inBlock, Exit.then]); refine bodyPost_ret (results_none rfl _ _ _) rfl ?_)
  exact ⟨rfl, HW, (pw_below_drewN (Below.refl _ _) nd).trans HB⟩

set_option maxHeartbeats 8000000 in
set_option maxRecDepth 100000 in
theorem Bool_w (base g : Nat) (bs : List Int) (b : Bool) (w : World) (hI : WrW base w g bs) (hl : bs.length + 10 ≤ 140737488355328) :
    Calls Try.prog 15 #[.pointer (some ⟨g, 0, none⟩), .bool b] w fun e w' => e = .returned (.tuple #[]) ∧ WrW base w' g (bs ++ encB b) ∧ Below base w w' := by
  have HI := Aside0.mk hI
  have HL := Aside0.mk hl
  clear hI hl
  have h0 := fun W (hw : WrW base W g bs) => Uint_w base g bs 0 W hw (by have := HL.out; have := encU_ten 0 (by omega); omega) (by omega)
  have h1 := fun W (hw : WrW base W g bs) => Uint_w base g bs 1 W hw (by have := HL.out; have := encU_ten 1 (by omega); omega) (by omega)
  have H0 := Aside0.mk h0
  have H1 := Aside0.mk h1
  clear h0 h1
  cases b with
  | true =>
    go_enter Try.func15, Try.ntmps15
    go_wp2_with (first
      | (go_at_call 12; refine (H1.out _ HI.out).mono ?_; rintro e w2 ⟨rfl, HW, HB⟩))
    first | go_end0 | ((try simp only [Exit.inBlock, Exit.then]); refine bodyPost_ret (results_none rfl _ _ _) rfl ?_)
    exact ⟨rfl, HW, HB⟩
  | false =>
    go_enter Try.func15, Try.ntmps15
    go_wp2_with (first
      | (go_at_call 12; refine (H0.out _ HI.out).mono ?_; rintro e w2 ⟨rfl, HW, HB⟩))
    first | go_end0 | ((try simp only [Exit.inBlock, Exit.then]); refine bodyPost_ret (results_none rfl _ _ _) rfl ?_)
    exact ⟨rfl, HW, HB⟩

section
variable {ops : Array Oper} {rest : List Oper} {o : Oper} {a : Act} {Q : Exit → Act → World → Prop}
/-- append(w.b, s...), behind 'at_builtin'. -/
theorem app_str (base g : Nat) (wr : World) (hgd : o.guard = none) (s x : Operand) (ho : o.op = .call { callee := .builtin .append, args := #[s, x], argTypes := #[24, 9] })
    (v : Value) (cs : List Int) (y : ByteArray) (hs : a.eval s = v) (hx : a.eval x = .string y)
    (hb : wr.heap[g]? = some (.cells #[v] 26 (0, 0))) (hg : base ≤ g) (hR : Kd.R (Kd.int .u8) 5 wr base (fun k => k ≠ g) v cs) (hl : cs.length + y.size ≤ 140737488355328)
    (h : ∀ A1 c1 w1, w1.cell? ⟨g, 0, none⟩ = some v → w1.frozen? ⟨g, 0, none⟩ = false → Aside0 (WrW base (w1.setCell ⟨g, 0, none⟩ (.slice A1 (cs.length + y.size) c1)) g (cs ++ bytesOf y)) →
      Aside0 (Below base wr (w1.setCell ⟨g, 0, none⟩ (.slice A1 (cs.length + y.size) c1))) → wpList Try.prog ops Q rest (a.put o.dst (.slice A1 (cs.length + y.size) c1)) w1) :
    wpList Try.prog ops Q (o :: rest) a wr := by
  have hlt := blk_lt hb
  refine print_append_str (w0 := wr) base hgd s x 24 9 5 ho Try.underlying24 Try.underlying9 info_u8 v cs y hs hx (Kd.own_of_R hR) (Below.refl _ _) (by omega) hl ?_
  intro v1 w1 hown hbw hgr
  have hb1 := blk_grown hb hgr (fun e => hR.1 g e.symm rfl)
  have hR1 : Kd.R (Kd.int .u8) 5 w1 base (fun k => k ≠ g) v1 (cs ++ bytesOf y) := Kd.R_of_own hown (fun k hk e => own_ne hown hb1 (by decide) (by rw [hk, e]))
  obtain ⟨A1, c1, rfl, -, -⟩ := Kd.R_reads hR1
  have hf := WrW.put hb1 hg hR1
  rw [List.length_append, bytesOf_length] at hf ⊢
  exact h A1 c1 w1 ((blk_cell hb1 0).trans rfl) (blk_frozen hb1 0) ⟨hf⟩ ⟨hbw.setCell (p := ⟨g, 0, none⟩) hg _⟩
end

set_option maxHeartbeats 8000000 in
set_option maxRecDepth 100000 in
theorem Text_w (base g : Nat) (bs : List Int) (s : ByteArray) (w : World) (hI : WrW base w g bs) (hl : bs.length + 10 + s.size ≤ 140737488355328) :
    Calls Try.prog 40 #[.pointer (some ⟨g, 0, none⟩), .string s] w fun e w' => e = .returned (.tuple #[]) ∧ WrW base w' g (bs ++ encRaw (bytesOf s)) ∧ Below base w w' := by
  have HI := Aside0.mk hI
  have HL := Aside0.mk hl
  have hlt : s.size < 18446744073709551616 := by omega
  have h0 := fun W (hw : WrW base W g bs) => Uint_w base g bs s.size W hw (by have := encU_ten s.size hlt; omega) hlt
  have H0 := Aside0.mk h0
  have HLT := Aside0.mk hlt
  clear hI hl h0 hlt
  have hwr : IntKind.u64.wrap (s.size : Int) = ((s.size : Nat) : Int) := by have := HLT.out; rw [IntKind.wrap_u64]; omega
  have HLL : ∀ cs, Aside0 (cs = bs ++ encU s.size → cs.length + s.size ≤ 140737488355328) := fun cs => ⟨fun e => by have := HL.out; have := encU_ten s.size HLT.out; rw [e, List.length_append]; omega⟩
  go_enter Try.func40, Try.ntmps40
  go_wp2_with (first
    | (go_at_call 12; refine (H0.out _ HI.out).mono ?_; rintro e w2 ⟨rfl, HW, HB⟩
       generalize hcs : bs ++ encU s.size = cs at HW
       have HCS := Aside0.mk hcs
       obtain ⟨v, hb, hg, hR⟩ := HW
       have hc : w2.cell? ⟨g, 0, none⟩ = some v := (blk_cell hb 0).trans rfl
       have hf := blk_frozen hb 0
       have HBK := Aside0.mk hb
       have HG := Aside0.mk hg
       have HR := Aside0.mk hR
       have HB := Aside0.mk HB
       clear hcs hb hg hR)
    | ((with_reducible refine gate_builtin (b := .append) (xs := #[.tmp 13, .tmp 14]) rfl ?_); at_builtin
       refine app_str base g w2 rfl (.tmp 13) (.tmp 14) rfl v cs s rfl rfl HBK.out HG.out HR.out ((HLL cs).out HCS.out.symm) ?_
       intro A1 c1 w1 hc1 hf1 HFIN HBB))
  first | go_end0 | ((try simp only [Exit.inBlock, Exit.then]); refine bodyPost_ret (results_none rfl _ _ _) rfl ?_)
  refine ⟨rfl, ?_, HB.out.trans HBB.out⟩
  have h := HFIN.out
  unfold encRaw
  rw [bytesOf_length, ← List.append_assoc, HCS.out]
  exact h

theorem bytesOf_strOfNums (xs : List Int) (hx : ∀ x ∈ xs, 0 ≤ x ∧ x < 256) : bytesOf (strOfNums xs) = xs := by
  unfold bytesOf strOfNums
  rw [List.map_map]
  conv => rhs; rw [← List.map_id xs]
  refine List.map_congr_left (fun x hm => ?_)
  have h := hx x hm
  simp only [Function.comp, UInt8.toNat_ofNat', id]
  omega

set_option maxHeartbeats 8000000 in
set_option maxRecDepth 100000 in
/-- Raw: the bytes are read in the world of the call. -/
theorem Raw_w (base g : Nat) (bs : List Int) (A : Option Addr) (c : Nat) (xs : List Int) (w : World) (hI : WrW base w g bs) (hR : Kd.C (Kd.int .u8) w A xs.length xs) (hl : bs.length + 10 + xs.length ≤ 140737488355328) (hx : ∀ x ∈ xs, 0 ≤ x ∧ x < 256) :
    Calls Try.prog 28 #[.pointer (some ⟨g, 0, none⟩), .slice A xs.length c] w fun e w' => e = .returned (.tuple #[]) ∧ WrW base w' g (bs ++ encRaw xs) ∧ Below base w w' := by
  have HI := Aside0.mk hI
  have hsz : (strOfNums xs).size = xs.length := by unfold strOfNums; simp [ByteArray.size]
  have h0 := fun W (hw : WrW base W g bs) => Text_w base g bs (strOfNums xs) W hw (by omega)
  rw [bytesOf_strOfNums xs hx] at h0
  have H0 := Aside0.mk h0
  have HR := Aside0.mk hR
  clear hI hl h0 hsz hR
  have hcv := Kd.C_string Try.underlying24 Try.underlying5 Try.underlying9 (c := c) HR.out
  go_enter Try.func28, Try.ntmps28
  go_wp2_with (first
    | (go_at_call 40; refine (H0.out _ HI.out).mono ?_; rintro e w2 ⟨rfl, HW, HB⟩))
  first | go_end0 | ((try simp only [Exit.inBlock, Exit.then]); refine bodyPost_ret (results_none rfl _ _ _) rfl ?_)
  exact ⟨rfl, HW, HB⟩

set_option maxHeartbeats 8000000 in
set_option maxRecDepth 100000 in
theorem Ints_w (base g : Nat) (bs : List Int) (A : Option Addr) (c : Nat) (xs : List Int) (w : World) (hI : WrW base w g bs) (hb : base ≤ w.heap.size) (hR : ∀ W, Below base w W → Kd.C (Kd.int .i64) W A xs.length xs) (hl : bs.length + 20 + 10 * xs.length ≤ 140737488355328)
    (hx : ∀ x ∈ xs, -9223372036854775808 ≤ x ∧ x < 9223372036854775808) :
    Calls Try.prog 29 #[.pointer (some ⟨g, 0, none⟩), .slice A xs.length c] w fun e w' => e = .returned (.tuple #[]) ∧ WrW base w' g (bs ++ encInts xs) ∧ Below base w w' := by
  have HI := Aside0.mk hI
  have HL := Aside0.mk hl
  have hlt : xs.length < 18446744073709551616 := by omega
  have h0 := fun W (hw : WrW base W g bs) => Uint_w base g bs xs.length W hw (by have := encU_ten xs.length hlt; omega) hlt
  have H0 := Aside0.mk h0
  have HLT := Aside0.mk hlt
  have HR := Aside0.mk hR
  have HX := Aside0.mk hx
  clear hI hl h0 hlt hR hx
  have hwr : IntKind.u64.wrap (xs.length : Int) = ((xs.length : Nat) : Int) := by have := HLT.out; rw [IntKind.wrap_u64]; omega
  go_enter Try.func29, Try.ntmps29
  go_wp2_with (first
    | (go_at_call 12; refine (H0.out _ HI.out).mono ?_; rintro e w2 ⟨rfl, HW0, HB0⟩
       have HW := Aside0.mk HW0; have HB := Aside0.mk HB0; clear HW0 HB0))
  go_loopw [13] (fun i wr => ∃ k : Nat, k ≤ xs.length ∧ i = .int .i64 k ∧ Aside0 (WrW base wr g (bs ++ encU xs.length ++ encList (xs.take k))) ∧ Aside0 (Below base w wr)) (fun i _ => xs.length - (intOf i).toNat)
  case atStart => exact ⟨0, Nat.zero_le _, rfl, ⟨by simpa [encList] using HW.out⟩, HB⟩
  case round =>
    clear HW HB
    obtain ⟨k, hk, rfl, HW, HB⟩ := hrel
    by_cases hlt : k < xs.length
    · obtain ⟨ad, e1, hx⟩ := Kd.at_int (HR.out wr HB.out) (k : Int) (by omega) (by omega)
      cases e1
      rw [Int.toNat_natCast] at hx
      have hr : rd xs (k : Int) = xs[k] := by unfold rd; simp [hlt]
      rw [hr] at hx
      clear hr
      have HT := Aside0.mk (List.take_succ_eq_append_getElem hlt)
      have HXK := Aside0.mk (HX.out xs[k] (List.getElem_mem hlt))
      have HLK : Aside0 ((bs ++ encU xs.length ++ encList (xs.take k)).length + 10 ≤ 140737488355328) := ⟨by
        have h1 := encList_len (xs.take k) (fun x hm => HX.out x (List.mem_of_mem_take hm)); have h2 := encU_ten xs.length HLT.out; have := HL.out
        rw [List.length_take] at h1
        rw [List.length_append, List.length_append]; omega⟩
      generalize xs[k] = x at hx HT HXK
      have hk1 : wrap64 ((k : Int) + 1) = (k : Int) + 1 := by have := HL.out; unfold wrap64; omega
      go_wp2_with (first
        | (go_at_call 14; refine (Int_w base g _ x HXK.out.1 HXK.out.2 wr HW.out HLK.out).mono ?_; rintro e w3 ⟨rfl, HW3, HB3⟩
           have HW3 := Aside0.mk HW3; have HB3 := Aside0.mk HB3))
      exact ⟨⟨k + 1, by omega, by rw [hk1]; rfl, ⟨by rw [HT.out, encList_snoc, ← List.append_assoc]; exact HW3.out⟩, ⟨HB.out.trans HB3.out⟩⟩, by rw [hk1]; simp only [intOf]; omega⟩
    · have hall : xs.take k = xs := List.take_of_length_le (by omega)
      rw [hall] at HW
      go_wp2
      first | go_end0 | ((try simp only [Exit.inBlock, Exit.then]); refine bodyPost_ret (results_none rfl _ _ _) rfl ?_)
      refine ⟨rfl, ?_, HB.out⟩
      unfold encInts
      rw [← List.append_assoc]
      exact HW.out

set_option maxHeartbeats 8000000 in
set_option maxRecDepth 100000 in
theorem Clone_w (A : Option Addr) (c : Nat) (xs : List Int) (w : World) (hR : Kd.C (Kd.int .u8) w A xs.length xs) (hl : xs.length ≤ 140737488355328) (hn : A = none → c = 0 ∧ xs.length = 0) :
    Calls Try.prog 39 #[.slice A xs.length c] w fun e w' => ∃ v, e = .returned v ∧ Kd.R (Kd.int .u8) 5 w' w.heap.size (fun _ => True) v xs ∧ Below w.heap.size w w' := by
  have HR := Aside0.mk hR
  have HL := Aside0.mk hl
  clear hR hl
  have heq := fun (W : World) (n' c' : Nat) => Lib.run_eql_slice_nil W 24 5 A n' c' 0 0 Try.underlying24
  cases A with
  | none =>
    obtain ⟨rfl, h0⟩ := hn rfl
    obtain rfl := List.length_eq_zero_iff.mp h0
    have heq0 := fun W => heq W 0 0
    clear heq
    simp only [Option.isNone_none] at heq0
    go_enter Try.func39, Try.ntmps39
    go_wp2
    go_ret
    exact ⟨_, rfl, Kd.R_nil _ _ _ _ _, Below.refl _ _⟩
  | some ad =>
    have heq0 := fun W => heq W xs.length c
    clear heq
    simp only [Option.isNone_some] at heq0
    go_enter Try.func39, Try.ntmps39
    go_wp2_with (first
      | ((with_reducible refine gate_dst (N := 5) rfl ?_)
         refine Kd.R_lit (Kd.int .u8) w.heap.size 5 ?hg (N := 5) ?hd (xs := ([] : List Int)) (inner := []) (ok := fun _ => True) (okp := fun _ => True) ?hr ?hp (fun _ hk => hk) trivial (Below.refl w.heap.size w) (Nat.le_refl _) (by simp) ?_
         (case hd => rfl)
         (case hg => rfl)
         (case hr => first | (go_simp; done) | (go_simp; rfl))
         (case hp => exact (Reps.none _ _))
         intro v1 w1 ho hb hg_ hnew_
         have HO := Aside0.mk ho; have HB := Aside0.mk hb
         clear hg_ hnew_ ho hb)
      | ((with_reducible refine gate_builtin (b := .append) (xs := #[.tmp 5, .tmp 6]) rfl ?_); at_builtin
         refine Kd.R_append_rows (Kd.int .u8) (w0 := w) w.heap.size rfl (.tmp 5) (.tmp 6) 24 5 (.int .u8 0) 1 rfl Try.underlying24 info_u8 rfl (by decide) (by omega) v1 [] xs _ _ _ (fun _ => True) (fun _ => False) rfl rfl HO.out (Kd.C_below HR.out (by have := HB.out; exact this)) (fun _ _ h => h) (fun _ h => h.elim) (fun _ _ => trivial) HB.out HB.out.size (by have := HL.out; simp only [List.length_nil]; omega) ?_
         intro v2 w2 ho hb hg hat
         have HO2 := Aside0.mk ho; have HB2 := Aside0.mk hb
         clear ho hb hg hat))
    go_ret
    exact ⟨_, rfl, HO2.out, HB2.out⟩

set_option maxHeartbeats 8000000 in
set_option maxRecDepth 100000 in
theorem Done_w (base g : Nat) (bs : List Int) (w : World) (hI : WrW base w g bs) (hl : bs.length ≤ 140737488355328) :
    Calls Try.prog 16 #[.pointer (some ⟨g, 0, none⟩)] w fun e w' => ∃ v, e = .returned v ∧ Kd.R (Kd.int .u8) 5 w' w.heap.size (fun _ => True) v bs ∧ Below w.heap.size w w' := by
  obtain ⟨v, hb, hg, hR⟩ := hI
  obtain ⟨A, c, rfl, hlc, hC⟩ := Kd.R_reads hR
  have hn : A = none → c = 0 ∧ bs.length = 0 := by
    rintro rfl
    obtain ⟨-, inner, ho, -⟩ := hR
    rcases ho.2 with ⟨h, _⟩ | ⟨g', cap, cur, h, _⟩
    · injection h with _ h1 h2
      exact ⟨h2, h1⟩
    · injection h with h _ _
      cases h
  have hc : w.cell? ⟨g, 0, none⟩ = some (.slice A bs.length c) := (blk_cell hb 0).trans rfl
  have hC' := fun W => Clone_w A c bs W
  have HC := Aside0.mk hC
  have HN := Aside0.mk hn
  have HL := Aside0.mk hl
  clear hb hg hR hlc hn hC hl hC'
  go_enter Try.func16, Try.ntmps16
  go_wp2_with (first
    | (go_at_call 39; refine (Clone_w A c bs w HC.out HL.out HN.out).mono ?_; rintro e w2 ⟨v, rfl, HO, HB⟩
       have HO := Aside0.mk HO; have HB := Aside0.mk HB))
  go_ret
  exact ⟨_, rfl, HO.out, HB.out⟩
end Go.Proofs.Ytleomgkogbenaaa.WireWr
