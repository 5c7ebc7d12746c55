/- hash.Sum computes hsum: the walk of the loop over the iterator, of the loop over the integers, and the return. -/
import Derived.Test.YtleomgkogbenaaaHashIter
namespace Go.Proofs.Ytleomgkogbenaaa.HashSum
open Go.RowKit Go.Shelf Go.Proofs.Ytleomgkogbenaaa.HashPlain Go.Proofs.Ytleomgkogbenaaa.HashIter
open Go.Proofs.YtleomgkogbenaaaW.PrintWords Go.Proofs.YtleomgkogbenaaaW.PrintLast Go.Proofs.YtleomgkogbenaaaW.PrintMore
attribute [local go_sem] Oper.semAt_some

theorem words_string_in (F : Fence) (n : Nat) (h5 : F.fn 66) (hro : F.round = none) (s : ByteArray) (w : World) :
    CallsIn F n Try.prog 66 #[.string s] w fun e w' => e = .returned (.func (.func 68) #[] #[.pointer (some ⟨w.heap.size, 0, none⟩)]) ∧ w' = w.alloc (.cells #[.string s] 9) := by
  refine callsIn_of_wp Try.func66 rfl h5 ?_ hro
  simp only [Try.ntmps66, List.size_toArray, List.length_cons, List.length_nil, Nat.reduceAdd, Nat.reduceSub, Array.replicate_succ, Array.replicate_zero, List.push_toArray, List.append_toArray, List.nil_append, List.cons_append]
  gi_wp2
  go_ret
  exact ⟨rfl, rfl⟩

theorem words_bytes_in (F : Fence) (n : Nat) (h5 : F.fn 58) (hro : F.round = none) (a : Option Addr) (len cap : Nat) (w : World) :
    CallsIn F n Try.prog 58 #[.slice a len cap] w fun e w' => e = .returned (.func (.func 65) #[] #[.pointer (some ⟨w.heap.size, 0, none⟩)]) ∧ w' = w.alloc (.cells #[.slice a len cap] 24) := by
  refine callsIn_of_wp Try.func58 rfl h5 ?_ hro
  simp only [Try.ntmps58, List.size_toArray, List.length_cons, List.length_nil, Nat.reduceAdd, Nat.reduceSub, Array.replicate_succ, Array.replicate_zero, List.push_toArray, List.append_toArray, List.nil_append, List.cons_append]
  gi_wp2
  go_ret
  exact ⟨rfl, rfl⟩

theorem mix_in (F : Fence) (n : Nat) (h6 : F.fn 67) (hro : F.round = none) (s x : Int) (w : World) :
    CallsIn F n Try.prog 67 #[.int .u64 s, .int .u64 x] w fun e w' => e = .returned (.int .u64 (hmix s x)) ∧ w = w' := by
  refine callsIn_of_wp Try.func67 rfl h6 ?_ hro
  simp only [Try.ntmps67, List.size_toArray, List.length_cons, List.length_nil, Nat.reduceAdd, Nat.reduceSub, Array.replicate_succ, Array.replicate_zero, List.push_toArray, List.append_toArray, List.nil_append, List.cons_append]
  gi_wp2
  go_ret
  exact ⟨rfl, rfl⟩

theorem string_stops (F : Fence) (n : Nat) (h7 : F.fn 68) (hro : F.round = none) (hn : 1 ≤ n) (Bs n₀ : Nat) (s : ByteArray) (hlen : s.size ≤ 140737488351232) (w : World)
    (hBs : w.heap[Bs]? = some (.cells #[.string s] 9 (0, 0))) :
    SeqStopsK F n Try.prog 68 #[.pointer (some ⟨Bs, 0, none⟩)] (fun x : Int => #[Value.int .u64 x]) (Kw n₀ Bs) (fun ys => ys = hwords (bytesOf s)) (fun pre => pre <+: hwords (bytesOf s)) s.size w :=
  fun l J Jx W hW _ _ hY h0 => string1_in F n h7 hro hn l Bs n₀ s hlen J Jx hY W ((hW.block Bs (Array.getElem?_eq_some_iff.1 hBs).1).trans hBs) h0

theorem bytes_stops (F : Fence) (n : Nat) (h7 : F.fn 65) (hro : F.round = none) (hn : 1 ≤ n) (Bs n₀ cap : Nat) (A : Option Addr) (zs : List Int) (hlen : zs.length ≤ 140737488351232) (hz : ∀ x ∈ zs, Byte x) (w : World)
    (hn₀ : n₀ ≤ w.heap.size) (hBs : w.heap[Bs]? = some (.cells #[.slice A zs.length cap] 24 (0, 0)))
    (hc : ∀ w', Below n₀ w w' → Kd.C (Kd.int .u8) w' A zs.length zs) :
    SeqStopsK F n Try.prog 65 #[.pointer (some ⟨Bs, 0, none⟩)] (fun x : Int => #[Value.int .u64 x]) (Kw n₀ Bs) (fun ys => ys = hwords zs) (fun pre => pre <+: hwords zs) zs.length w :=
  fun l J Jx W hW _ _ hY h0 => bytes1_in F n h7 hro hn l Bs n₀ cap A zs hlen hz J Jx hY W ((hW.block Bs (Array.getElem?_eq_some_iff.1 hBs).1).trans hBs) (fun w' h => hc w' ((hW.mono hn₀).trans h)) h0

theorem kw_b {n₀ Bs : Nat} {w : World} (hn : n₀ ≤ w.heap.size) (hB : Bs < w.heap.size) (W : World) (l : Nat) (o o' : Obj) (hl : w.heap.size ≤ l) (h : W.heap[l]? = some o) (hc : o.isCells = false) (hw : o.isWalk = false) : Kw n₀ Bs W (W.putObj l o') :=
  ⟨belowK_b hn W l o o' hl h hc hw, World.putObj_heap_other (by omega)⟩

set_option maxRecDepth 100000 in
set_option maxHeartbeats 2000000 in
theorem Sum_any (s : ByteArray) (hlen : s.size ≤ 140737488351232) (A : Option Addr) (c : Nat) (l : List Int) (hl : l.length ≤ 140737488351232) (w : World) (hR : Kd.C (Kd.int .i64) w A l.length l) :
    Calls Try.prog 59 #[.string s, .slice A l.length c] w fun e w' => e = .returned (.int .u64 (hsum (bytesOf s) l)) ∧ Below w.heap.size w w' := by
  refine (callsIn_wide (n := 6)).1 ?_
  refine callsIn_of_wp_marks Try.func59 rfl trivial ?_ rfl
  simp only [Try.ntmps59, List.size_toArray, List.length_cons, List.length_nil, Nat.reduceAdd, Nat.reduceSub, Array.replicate_succ, Array.replicate_zero, List.push_toArray, List.append_toArray, List.nil_append, List.cons_append]
  have HL := Aside0.mk hlen
  have HR := Aside0.mk hR
  clear hR
  gi_wp2_with (refine ⟨trivial, ?_⟩; gi_at_call 66; refine (words_string_in Fence.wide _ trivial rfl _ _).mono ?_; rintro e w' ⟨rfl, rfl⟩)
  obtain ⟨W1, hW1⟩ : ∃ W1, (w.alloc (.cells #[.int .u64 0] 22)).alloc (.cells #[.string s] 9) = W1 := ⟨_, rfl⟩
  have hsz : W1.heap.size = w.heap.size + 2 := by rw [← hW1]; simp
  have hb0 : W1.heap[w.heap.size]? = some (.cells #[.int .u64 0] 22 (0, 0)) := by rw [← hW1]; exact (Below.heap_alloc _ _ _ (by simp)).trans (heap_alloc_new w _)
  have hb1 : W1.heap[w.heap.size + 1]? = some (.cells #[.string s] 9 (0, 0)) := by rw [← hW1]; have := heap_alloc_new (w.alloc (.cells #[.int .u64 0] 22)) (.cells #[.string s] 9); rwa [World.size_alloc] at this
  have hB1 : Below w.heap.size w W1 := by rw [← hW1]; exact ((Below.refl _ w).alloc (Nat.le_refl _) _).alloc (by simp) _
  rw [hW1]
  refine wpIn_rangeFunc_ownF rfl (by omega) (gf := 68) (lb := #[.pointer (some ⟨w.heap.size + 1, 0, none⟩)]) rfl trivial (enters_of Try.func68 (by kernel_rfl) rfl)
    (string_stops Fence.wide _ trivial rfl (by omega) (w.heap.size + 1) w.heap.size s HL.out W1 hb1) Kw.trans (kw_b (by omega) (by omega)) (Below.refl _ _) (fun _ => rfl)
    (fun pre W => (W.cell? ⟨w.heap.size, 0, none⟩ = some (.int .u64 (pre.foldl hmix 0)) ∧ W.frozen? ⟨w.heap.size, 0, none⟩ = false) ∧ Below w.heap.size w W)
    (fun _ _ _ => False)
    (OwnFrom.and (Own.from (fun s A B row hs hg hr => ⟨cell_kept hs.1 hg hr, (frozen_kept hs.1 hg hr).trans hs.2⟩) _) (ownFrom_below (Nat.le_refl _) (by omega)))
    (fun _ _ _ _ _ hs _ _ => hs)
    ⟨⟨by rw [cell_of_row W1 w.heap.size 0 _ _ (0, 0) hb0]; rfl, by simp [World.frozen?, hb0]⟩, hB1⟩
    (fun x => { tmps := #[.string s, .slice A l.length c, undef, undef, .int .u64 0, .pointer (some ⟨w.heap.size, 0, none⟩), .int .u64 x, undef, undef, .string s, .func (.func 68) #[] #[.pointer (some ⟨w.heap.size + 1, 0, none⟩)], .int .u64 x, undef, undef, undef, undef, undef, undef, undef, undef, undef, undef, undef, undef, undef, undef, undef, undef, undef, undef, undef, undef, undef, undef, undef, undef, undef], defers := [] }) ?assign ?body ?done ?stop
  case assign =>
    intro l x W K hK
    gi_wp2
    exact hK
  case body =>
    rintro l pre x W ⟨⟨hc, hf⟩, hB⟩ hlt
    gi_wp2_with (refine ⟨trivial, ?_⟩; gi_at_call 67; refine (CallsIn.inRound l (mix_in Fence.wide _ trivial rfl _ _ _)).mono ?_; rintro e w' ⟨rfl, rfl⟩)
    exact ⟨KeepsOthers.setCell _ _ _, ⟨(Below.refl _ W).setCell (p := ⟨w.heap.size, 0, none⟩) (Nat.le_refl _) _, Below.heap_setCell _ _ _ _ (by simp)⟩,
      ⟨by rw [List.foldl_append]; exact World.cell?_setCell_same' _ _ _ (by rw [hc]; rfl), by rw [World.frozen?_setCell]; exact hf⟩, hB.setCell (p := ⟨w.heap.size, 0, none⟩) (Nat.le_refl _) _⟩
  case done =>
    rintro D xs W hD rfl ⟨⟨hc, hf⟩, hB⟩ hK
    have hDlt := (Array.getElem?_eq_some_iff.1 hK).1
    generalize hs0 : (hwords (bytesOf s)).foldl hmix 0 = s0 at hc
    have HS0 := Aside0.mk hs0
    clear hs0
    gi_wp2_with (refine ⟨trivial, ?_⟩; gi_at_call 67; refine (mix_in Fence.wide _ trivial rfl _ _ _).mono ?_; rintro e w' ⟨rfl, rfl⟩)
    gi_loopw [26] (fun i wr => ∃ k : Nat, k ≤ l.length ∧ i = .int .i64 k ∧ wr.cell? ⟨w.heap.size, 0, none⟩ = some (.int .u64 ((l.take k).foldl (fun s n => hmix s (IntKind.u64.wrap n)) (hmix (hmix s0 (s.size : Int)) (l.length : Int)))) ∧ wr.frozen? ⟨w.heap.size, 0, none⟩ = false ∧ Below w.heap.size w wr ∧ Aside0 (wr.heap[D]? = some (.deferred (some []))))
      (fun i _ => l.length - (intOf i).toNat)
    case atStart =>
      exact ⟨0, Nat.zero_le _, rfl, World.cell?_setCell_same' _ _ _ (by rw [hc]; rfl), by rw [World.frozen?_setCell]; exact hf, hB.setCell (p := ⟨w.heap.size, 0, none⟩) (Nat.le_refl _) _,
        ⟨(Below.heap_setCell _ _ _ _ (by simp; omega)).trans hK⟩⟩
    case round =>
      obtain ⟨k, hk, rfl, hc, hf, hB, HK⟩ := hrel
      by_cases hlt : k < l.length
      · obtain ⟨ad, e1, hx⟩ := Kd.at_int HR.out (k : Int) (by omega) (by omega)
        cases e1
        rw [Int.toNat_natCast] at hx
        replace hx := (hB.cell (World.block_lt_of_cell? w _ hx)).trans hx
        have hr : rd l (k : Int) = l[k] := by unfold rd; simp [hlt]
        rw [hr] at hx
        clear hr
        have HT := Aside0.mk (List.take_succ_eq_append_getElem hlt)
        generalize l[k] = x at hx HT
        gi_wp2_with (refine ⟨trivial, ?_⟩; gi_at_call 67; refine (mix_in Fence.wide _ trivial rfl _ _ _).mono ?_; rintro e w' ⟨rfl, rfl⟩)
        refine ⟨⟨k + 1, by omega, by simp, ?_, by rw [World.frozen?_setCell]; exact hf, hB.setCell (p := ⟨w.heap.size, 0, none⟩) (Nat.le_refl _) _, ⟨(Below.heap_setCell _ _ _ _ (by simp; omega)).trans HK.out⟩⟩, by simp [intOf]; omega⟩
        rw [HT.out, List.foldl_append]
        exact World.cell?_setCell_same' _ _ _ (by rw [hc]; rfl)
      · have hall : l.take k = l := List.take_of_length_le (by omega)
        rw [hall] at hc
        clear hall
        gi_wp2_with (refine ⟨trivial, ?_⟩; gi_at_call 67; refine (mix_in Fence.wide _ trivial rfl _ _ _).mono ?_; rintro e w' ⟨rfl, rfl⟩)
        refine ⟨by simp, .inl ⟨_, _, rfl, run_takeDeferred HK.out, ?_⟩⟩
        refine ⟨_, results_tmp rfl _ _ _, ?_, hB.trans (belowK_b (w := w) (Nat.le_refl _) _ D _ _ (by omega) HK.out rfl rfl)⟩
        show Ending.returned (.int .u64 _) = _
        unfold hsum
        rw [HS0.out, bytesOf_length]
  case stop =>
    rintro D c pre W _ _ h _
    exact h.elim
end Go.Proofs.Ytleomgkogbenaaa.HashSum
