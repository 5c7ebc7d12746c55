/- hash.Bytes computes the sum of the slice's words followed by its length. -/
import Derived.Test.YtleomgkogbenaaaHashSum
import Derived.Maps.AppendAt
namespace Go.Proofs.Ytleomgkogbenaaa.HashBytes
open Go.RowKit Go.Shelf Go.Proofs.Ytleomgkogbenaaa.HashPlain Go.Proofs.Ytleomgkogbenaaa.HashIter Go.Proofs.Ytleomgkogbenaaa.HashSum
open Go.Proofs.YtleomgkogbenaaaW.PrintWords Go.Proofs.YtleomgkogbenaaaW.PrintLast Go.Proofs.YtleomgkogbenaaaW.PrintMore
attribute [local go_sem] Oper.semAt_some

theorem infoInt : (Try.prog.info? 3).map (fun i => (i.zero, i.size, i.bytes)) = some (some (.int .i64 0), 1, 8) := by kernel_rfl

/-- What Bytes computes. -/
def hbytes (b zs : List Int) : Int := hsum b ((hwords zs).map wrap64 ++ [(zs.length : Int)])

theorem own_not_cells {w : World} {base : Nat} {e : TypeId} {size n D : Nat} {v : Value} {xs : List Value} {o : Obj} (h : w.ownsRow base e size v n xs) (hD : w.heap[D]? = some o) (ho : o.isCells = false) : some D ≠ v.ownBlock := by
  rcases h.2 with ⟨rfl, _⟩ | ⟨g, cap, cur, rfl, _, hg, _⟩
  · simp [Value.ownBlock]
  · intro e'
    obtain rfl : D = g := by simpa [Value.ownBlock] using e'
    rw [hg] at hD; cases hD; cases ho

set_option maxRecDepth 100000 in
set_option maxHeartbeats 2000000 in
theorem Bytes_any (s : ByteArray) (hlen : s.size ≤ 140737488351232) (A : Option Addr) (c : Nat) (zs : List Int) (hl : zs.length ≤ 17592186044000) (hz : ∀ x ∈ zs, Byte x) (w : World) (hR : Kd.C (Kd.int .u8) w A zs.length zs) :
    Calls Try.prog 37 #[.string s, .slice A zs.length c] w fun e w' => e = .returned (.int .u64 (hbytes (bytesOf s) zs)) ∧ Below w.heap.size w w' := by
  obtain ⟨i0, hi, hz0, hz1, hz2⟩ := info_parts infoInt
  refine (callsIn_wide (n := 6)).1 ?_
  refine callsIn_of_wp_marks Try.func37 rfl trivial ?_ rfl
  simp only [Try.ntmps37, List.size_toArray, List.length_cons, List.length_nil, Nat.reduceAdd, Nat.reduceSub, Array.replicate_succ, Array.replicate_zero, List.push_toArray, List.append_toArray, List.nil_append, List.cons_append]
  have HL := Aside0.mk hlen
  have HR := Aside0.mk hR
  have HZ := Aside0.mk hz
  have HI := Aside0.mk hi
  have HZ0 := Aside0.mk hz0
  have HZ1 := Aside0.mk hz1
  have HZ2 := Aside0.mk hz2
  clear hR hz hi hz0 hz1 hz2
  gi_wp2_with (refine ⟨trivial, ?_⟩; gi_at_call 58; refine (words_bytes_in Fence.wide _ trivial rfl _ _ _ _).mono ?_; rintro e w' ⟨rfl, rfl⟩)
  obtain ⟨W1, hW1⟩ : ∃ W1, (w.alloc (.cells #[.slice none 0 0] 33)).alloc (.cells #[.slice A zs.length c] 24) = W1 := ⟨_, rfl⟩
  have hsz : W1.heap.size = w.heap.size + 2 := by rw [← hW1]; simp
  have bO : Boxed W1 w.heap.size 33 (.slice none 0 0) := by rw [← hW1]; exact (Boxed.new w 33 (.slice none 0 0)).alloc _
  have bN : Boxed W1 (w.heap.size + 1) 24 (.slice A zs.length c) := by rw [← hW1]; have := Boxed.new (w.alloc (.cells #[.slice none 0 0] 33)) 24 (.slice A zs.length c); rwa [World.size_alloc] at this
  have hB1 : Below w.heap.size w W1 := by rw [← hW1]; exact ((Below.refl _ w).alloc (Nat.le_refl _) _).alloc (by simp) _
  rw [hW1]
  refine wpIn_rangeFunc_ownG rfl (by omega) (gf := 65) (lb := #[.pointer (some ⟨w.heap.size + 1, 0, none⟩)]) rfl trivial (enters_of Try.func65 (by kernel_rfl) rfl)
    (bytes_stops Fence.wide _ trivial rfl (by omega) (w.heap.size + 1) w.heap.size c A zs (by omega) HZ.out W1 hB1.size bN (fun w' h => Kd.C_below HR.out (hB1.trans h))) Kw.trans (kw_b (by omega) (by omega)) (Below.refl _ _) (fun _ => rfl)
    (fun pre W => (∃ v, Boxed W w.heap.size 33 v ∧ W.ownsRow w.heap.size 3 1 v pre.length ((pre.map wrap64).map (Value.int .i64)) ∧ True) ∧ (Boxed W (w.heap.size + 1) 24 (.slice A zs.length c) ∧ Below w.heap.size w W))
    (fun _ _ _ => False)
    (OwnFrom.and (Own.from (holdsRow_own w.heap.size w.heap.size 33 3 1 (fun pre : List Int => pre.length) (fun pre => (pre.map wrap64).map (Value.int .i64)) (fun _ _ => True)) _) (OwnFrom.and (fun _ X Y row hs hg hr => hs.kept hg (fun e => by
      obtain ⟨_, o, ho, hcc⟩ := hr _ e.symm
      rw [show X.heap[w.heap.size + 1]? = _ from hs] at ho; cases ho; cases hcc)) (ownFrom_below (Nat.le_refl _) (by omega))))
    (fun _ _ _ _ _ hs _ _ => hs)
    ⟨⟨_, bO, World.ownsRow_nil _ _ _ _, trivial⟩, bN, hB1⟩
    (fun x => { tmps := #[.string s, .slice A zs.length c, undef, undef, .int .u64 0, .pointer (some ⟨w.heap.size, 0, none⟩), .int .u64 x, .slice A zs.length c, .func (.func 65) #[] #[.pointer (some ⟨w.heap.size + 1, 0, none⟩)], .int .u64 x, undef, undef, undef, undef, undef, undef, undef, undef, undef, undef, undef, undef], defers := [] }) ?assign ?body ?done ?stop
  case assign =>
    intro l x W K hK
    gi_wp2
    exact hK
  case body =>
    rintro l pre x W ⟨⟨v, hv, hrow, _⟩, hbx, hB⟩ hlt
    have hc := hv.cell
    have HX := Aside0.mk hbx
    have HV := Aside0.mk hv
    have HROW := Aside0.mk hrow
    clear hbx hv hrow
    gi_wp2_with (gi_at_builtin; refine wpListIn_append_own _ rfl _ _ 33 rfl w.heap.size 3 i0 (.int .i64 0) 1 8 Try.underlying33 HI.out HZ0.out HZ1.out HZ2.out rfl (by decide) _ _ _ rfl (HROW.out.alloc _) ⟨W.heap.size, 0, none⟩ 1 1 [.int .i64 (wrap64 x)] rfl rfl (cell_one_new _ _ _) (by simp [Value.oneCell']) (by unfold maxLen; omega) (by omega) (by have := hB.size; simp; omega) ?_; intro v' w1 hown' hgrow _; obtain ⟨g', cap', rfl⟩ := ownsRow_succ hown'; obtain ⟨hv1, hv2, hr2, hk2, hb2⟩ := HV.out.appended (by decide) HROW.out hB.size (Nat.le_refl _) hown' hgrow; have hc1 := hv1.cell; have hf1 := hv1.frozen)
    have hBs2 := (Below.heap_setCell w1 ⟨w.heap.size, 0, none⟩ (.slice (some ⟨g', 0, none⟩) (pre.length + 1) cap') (w.heap.size + 1) (by simp)).trans
      ((hgrow.block (w.heap.size + 1) (by have := HX.out.lt; simp; omega) (HX.out.not_row (by decide) HROW.out)).trans (Below.heap_alloc W _ _ HX.out.lt))
    exact ⟨hk2.from _, ⟨hb2, hBs2⟩, ⟨⟨_, hv2, by simpa using hr2, trivial⟩, hBs2.trans HX.out, hB.trans hb2⟩⟩
  case done =>
    rintro D xs W hD rfl ⟨⟨v, hv, hrow, _⟩, hbx, hB⟩ hK
    have hc := hv.cell
    have hlw := hwords_length zs
    have hDlt := (Array.getElem?_eq_some_iff.1 hK).1
    generalize hws : hwords zs = ws at hrow hlw
    have HWS := Aside0.mk hws
    have HLW := Aside0.mk hlw
    have HX := Aside0.mk hbx
    have HV := Aside0.mk hv
    have HROW := Aside0.mk hrow
    have HK := Aside0.mk hK
    have hle : ws.length ≤ zs.length := by omega
    clear hbx hv hrow hws hlw hK
    gi_wp2_with (gi_at_builtin; refine wpListIn_append_own _ rfl _ _ 33 rfl w.heap.size 3 i0 (.int .i64 0) 1 8 Try.underlying33 HI.out HZ0.out HZ1.out HZ2.out rfl (by decide) _ _ _ rfl (HROW.out.alloc _) ⟨W.heap.size, 0, none⟩ 1 1 [.int .i64 (zs.length : Int)] rfl rfl (cell_one_new _ _ _) (by simp [Value.oneCell']) (by unfold maxLen; omega) (by omega) (by have := hB.size; simp; omega) ?_; intro v' w1 hown' hgrow _; obtain ⟨g', cap', rfl⟩ := ownsRow_succ hown')
    have hne : some D ≠ v.ownBlock := own_not_cells HROW.out HK.out rfl
    have hD1 : w1.heap[D]? = some (.deferred (some [])) := (hgrow.block D (by simp; omega) hne).trans ((Below.heap_alloc W _ _ hDlt).trans HK.out)
    have hLen : (ws.map wrap64 ++ [(zs.length : Int)]).length = ws.length + 1 := by simp
    have hC : Kd.C (Kd.int .i64) w1 (some ⟨g', 0, none⟩) (ws.map wrap64 ++ [(zs.length : Int)]).length (ws.map wrap64 ++ [(zs.length : Int)]) := by
      obtain ⟨A', c', hv', hr'⟩ := own_reads (k := .i64) (xs := ws.map wrap64 ++ [(zs.length : Int)]) (by simpa [nums] using hown')
      obtain ⟨rfl, _, _⟩ : A' = some ⟨g', 0, none⟩ ∧ True ∧ True := by injection hv' with h1 h2 h3; exact ⟨h1.symm, trivial, trivial⟩
      rw [hLen]
      exact Kd.C_of_reads (d := (0 : Int)) (h1 := fun _ => rfl) hr'
    have hB1' : Below w.heap.size w w1 := (hB.alloc hB.size _).grown hgrow (by have := hB.size; simp; omega) (fun k e => own_base HROW.out k e)
    have hS := Sum_any s HL.out (some ⟨g', 0, none⟩) cap' (ws.map wrap64 ++ [(zs.length : Int)]) (by rw [hLen]; omega) w1 hC
    rw [hLen] at hS
    refine ⟨trivial, callsIn_wide.2 (hS.mono ?_)⟩
    rintro e w2 ⟨rfl, hb2⟩
    have hD2 : w2.heap[D]? = some (.deferred (some [])) := (hb2.block D (Array.getElem?_eq_some_iff.1 hD1).1).trans hD1
    have hB2' : Below w.heap.size w w2 := hB1'.trans (hb2.mono hB1'.size)
    clear hS hC hb2 hgrow hown' hB1' hLen
    have HD2 := Aside0.mk hD2
    clear hD2 hD1
    gi_wp2
    refine ⟨by simp, .inl ⟨_, _, rfl, run_takeDeferred HD2.out, ?_⟩⟩
    refine ⟨_, results_tmp rfl _ _ _, ?_, hB2'.trans (belowK_b (w := w) (Nat.le_refl _) _ D _ _ (by omega) HD2.out rfl rfl)⟩
    show Ending.returned (.int .u64 _) = _
    unfold hbytes
    rw [HWS.out]
  case stop =>
    rintro D c pre W _ _ h _
    exact h.elim
end Go.Proofs.Ytleomgkogbenaaa.HashBytes
