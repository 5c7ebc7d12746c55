/- The iterators over the words of a string and of a byte slice: their contracts, for every loop body that keeps the box and what lay below a bound. -/
import Derived.RangeFuncNested
import Derived.RangeFuncBound
import Derived.RangeFuncBox
import Derived.RangeFuncCalls
import Derived.RangeFuncLeaves
import Derived.Shelf.Abstract
import Derived.Shelf.RegionOpen
import Derived.WalkKit
import Derived.OwnWalkIn
import Derived.TacticsInMore
import Derived.LoopNIn
import Derived.LoopIn
import Derived.KernelRfl
import Derived.Test.YtleomgkogbenaaaProg
import Derived.Test.YtleomgkogbenaaaWWords
import Derived.Test.YtleomgkogbenaaaWMore
import Derived.Test.YtleomgkogbenaaaHashPlain
namespace Go.Proofs.Ytleomgkogbenaaa.HashIter
open Go.RowKit Go.Shelf Go.Proofs.Ytleomgkogbenaaa.HashPlain
open Go.Proofs.YtleomgkogbenaaaW.PrintWords Go.Proofs.YtleomgkogbenaaaW.PrintLast Go.Proofs.YtleomgkogbenaaaW.PrintMore
attribute [local go_sem] Oper.semAt_some
attribute [local go_sem] max2_int min2_int max_two min_two max_three min_three max_four min_four

/-- What a round keeps: all that lay below n₀, and the iterator's own box. -/
def Kw (n₀ Bs : Nat) (W W' : World) : Prop := Below n₀ W W' ∧ W'.heap[Bs]? = W.heap[Bs]?
theorem Kw.refl (n₀ Bs : Nat) (W : World) : Kw n₀ Bs W W := ⟨Below.refl _ _, rfl⟩
theorem Kw.trans {n₀ Bs : Nat} {A B C : World} (h : Kw n₀ Bs A B) (k : Kw n₀ Bs B C) : Kw n₀ Bs A C := ⟨h.1.trans k.1, k.2.trans h.2⟩

theorem box_cell {W : World} {B T : Nat} {v : Value} (h : W.heap[B]? = some (.cells #[v] T (0, 0))) : W.cell? ⟨B, 0, none⟩ = some v := by
  rw [cell_of_row W B 0 _ T (0, 0) h]; rfl

set_option maxRecDepth 100000 in
set_option maxHeartbeats 1000000 in
theorem bytes1_in (F : Fence) (n : Nat) (h7 : F.fn 65) (hro : F.round = none) (hn : 1 ≤ n) (l Bs n₀ cap : Nat) (A : Option Addr) (zs : List Int) (hlen : zs.length ≤ 140737488351232) (hz : ∀ x ∈ zs, Byte x) (J Jx : List Int → World → Prop)
    (hY : ∀ pre x W, J pre W → pre.length < zs.length → YieldAt F (n - 1) Try.prog l #[.int .u64 x] W fun e W' =>
      (e = .returned (.bool true) ∧ J (pre ++ [x]) W' ∧ Kw n₀ Bs W W') ∨ (e = .returned (.bool false) ∧ Jx (pre ++ [x]) W'))
    (W : World) (hBs : W.heap[Bs]? = some (.cells #[.slice A zs.length cap] 24 (0, 0)))
    (hc : ∀ w', Below n₀ W w' → Kd.C (Kd.int .u8) w' A zs.length zs) (h0 : J [] W) :
    CallsIn F n Try.prog 65 #[.func (.yield l) #[] #[], .pointer (some ⟨Bs, 0, none⟩)] W fun e W' => (∃ v, e = .returned v) ∧
      ((∃ ys, ys = hwords zs ∧ J ys W') ∨ (∃ pre, pre <+: hwords zs ∧ Jx pre W')) := by
  have HBs := Aside0.mk hBs
  have HC := Aside0.mk hc
  have HY := Aside0.mk hY
  have HZ := Aside0.mk hz
  clear hBs hc hY hz
  obtain ⟨N, hN⟩ : ∃ N, N = zs.length := ⟨_, rfl⟩
  have HN := Aside0.mk hN
  rw [← hN] at HBs HC hlen
  clear hN
  refine callsIn_of_wp Try.func65 rfl h7 ?_ hro
  simp only [Try.ntmps65, List.size_toArray, List.length_cons, List.length_nil, Nat.reduceAdd, Nat.reduceSub, Array.replicate_succ, Array.replicate_zero, List.push_toArray, List.append_toArray, List.nil_append, List.cons_append]
  gi_wp2
  gi_loopw [3] (fun i wr => ∃ k : Nat, 8 * k < N + 8 ∧ i = .int .i64 (8 * (k : Int)) ∧ J (hwords (zs.take (8 * k))) wr ∧ Kw n₀ Bs W wr)
    (fun i _ => N + 8 - (intOf i).toNat)
  case atStart => exact ⟨0, by omega, rfl, by simpa [hwords_nil] using h0, Kw.refl _ _ _⟩
  case round =>
    obtain ⟨k, hk, rfl, hJs, hnx⟩ := hrel
    have hcx := box_cell (hnx.2.trans HBs.out)
    by_cases hlt : 8 * k < N
    · gi_wp2
      gi_loop [4, 5] (fun w i => ∃ j : Nat, j ≤ 8 ∧ 8 * k + j ≤ N ∧ i = .int .i64 (8 * (k : Int) + (j : Int)) ∧ w = .int .u64 (hword ((zs.drop (8 * k)).take j)))
        (fun _ i => N - (intOf i).toNat)
      case atStart => exact ⟨0, by omega, by omega, by simp, by simp [hword]⟩
      case round =>
        obtain ⟨j, hj, hjl, rfl, rfl⟩ := hrel
        by_cases hjj : j < 8 ∧ 8 * k + j < N
        · have hN := HN.out
          obtain ⟨ad, e1, hx⟩ := Kd.at_int (HC.out wr hnx.1) (8 * (k : Int) + (j : Int)) (by omega) (by omega)
          cases e1
          rw [show (8 * (k : Int) + (j : Int)).toNat = 8 * k + j by omega] at hx
          have hlt2 : 8 * k + j < zs.length := by omega
          have hb0 : rd zs (8 * (k : Int) + (j : Int)) = zs[8 * k + j] := by
            unfold rd; rw [show (8 * (k : Int) + (j : Int)).toNat = 8 * k + j by omega]; simp [hlt2]
          have hB := HZ.out _ (List.getElem_mem hlt2)
          have hst : (zs.drop (8 * k)).take (j + 1) = (zs.drop (8 * k)).take j ++ [zs[8 * k + j]] := by
            rw [List.take_succ_eq_append_getElem (by rw [List.length_drop]; omega)]; simp
          rw [hb0] at hx
          clear hb0
          generalize zs[8 * k + j] = b0 at hx hB hst
          have hr := hword_range ((zs.drop (8 * k)).take j) (fun x hx => HZ.out _ (List.mem_of_mem_drop (List.mem_of_mem_take hx)))
          rw [List.length_take_of_le (by rw [List.length_drop]; omega)] at hr
          have hlen1 : ((zs.drop (8 * k)).take j).length = j := List.length_take_of_le (by rw [List.length_drop]; omega)
          have hsn := hword_snoc ((zs.drop (8 * k)).take j) b0
          rw [hlen1, ← hst] at hsn
          have HS := Aside0.mk (hsn.trans (or_step _ b0 j hjj.1 hB hr.1 hr.2).symm)
          have hmin : 8 * (k : Int) + (j : Int) < if (N : Int) < 8 * (k : Int) + 8 then (N : Int) else 8 * (k : Int) + 8 := by split <;> omega
          clear hN hlt2 hB hst hr hlen1 hsn
          gi_wp2
          refine ⟨⟨j + 1, by omega, by omega, by simp; omega, by rw [HS.out]⟩, by simp [intOf]; omega⟩
        · have hN := HN.out
          have hmin : ¬ (8 * (k : Int) + (j : Int) < if (N : Int) < 8 * (k : Int) + 8 then (N : Int) else 8 * (k : Int) + 8) := by split <;> omega
          have hw8 : (zs.drop (8 * k)).take j = (zs.drop (8 * k)).take 8 := by
            rcases Nat.lt_or_ge j 8 with h8 | h8
            · rw [List.take_of_length_le (by rw [List.length_drop]; omega), List.take_of_length_le (by rw [List.length_drop]; omega)]
            · rw [show j = 8 by omega]
          have hsu := hwords_take_succ zs k (by omega)
          rw [← hw8] at hsu
          have hle := hwords_length (zs.take (8 * k))
          rw [List.length_take] at hle
          generalize hword ((zs.drop (8 * k)).take j) = wv at hsu
          obtain ⟨fn, tmps, assign, body, hy, hR⟩ := HY.out _ wv wr hJs (by omega)
          have HSU := Aside0.mk hsu
          clear hN hw8 hsu hle
          gi_wp2
          all_goals
            refine hR.mono ?_
            rintro e W3 (⟨rfl, hJ3, hk3⟩ | ⟨rfl, hJx3⟩)
            · gi_wp2
              go_roundw
              case rel => exact ⟨k + 1, by omega, by simp; omega, by rw [show 8 * (k + 1) = 8 * k + 8 by omega, HSU.out]; exact hJ3, hnx.trans hk3⟩
              case measure => simp [intOf]; omega
            · gi_wp2
              refine bodyPost_ret (results_none rfl _ _ _) rfl ?_
              exact ⟨⟨_, rfl⟩, .inr ⟨_, HSU.out ▸ hwords_take_prefix zs (k + 1), hJx3⟩⟩
    · have hN := HN.out
      have hall : zs.take (8 * k) = zs := List.take_of_length_le (by omega)
      rw [hall] at hJs
      clear hN hall
      gi_wp2
      go_end0
      exact ⟨⟨_, rfl⟩, .inl ⟨_, rfl, hJs⟩⟩
theorem bytesOf_byte (s : ByteArray) : ∀ x ∈ bytesOf s, Byte x := by
  intro x hx
  unfold bytesOf at hx
  obtain ⟨b, _, rfl⟩ := List.mem_map.1 hx
  have := b.toNat_lt
  unfold Byte
  omega
theorem bytesOf_get (s : ByteArray) (i : Nat) (h : i < s.size) : (bytesOf s)[i]? = some ((s[i]'h).toNat : Int) := by
  unfold bytesOf
  rw [List.getElem?_map, Array.getElem?_toList, Array.getElem?_eq_getElem (by exact h)]
  rfl

set_option maxRecDepth 100000 in
set_option maxHeartbeats 1000000 in
theorem string1_in (F : Fence) (n : Nat) (h7 : F.fn 68) (hro : F.round = none) (hn : 1 ≤ n) (l Bs n₀ : Nat) (s : ByteArray) (hlen : s.size ≤ 140737488351232) (J Jx : List Int → World → Prop)
    (hY : ∀ pre x W, J pre W → pre.length < s.size → YieldAt F (n - 1) Try.prog l #[.int .u64 x] W fun e W' =>
      (e = .returned (.bool true) ∧ J (pre ++ [x]) W' ∧ Kw n₀ Bs W W') ∨ (e = .returned (.bool false) ∧ Jx (pre ++ [x]) W'))
    (W : World) (hBs : W.heap[Bs]? = some (.cells #[.string s] 9 (0, 0))) (h0 : J [] W) :
    CallsIn F n Try.prog 68 #[.func (.yield l) #[] #[], .pointer (some ⟨Bs, 0, none⟩)] W fun e W' => (∃ v, e = .returned v) ∧
      ((∃ ys, ys = hwords (bytesOf s) ∧ J ys W') ∨ (∃ pre, pre <+: hwords (bytesOf s) ∧ Jx pre W')) := by
  have HBs := Aside0.mk hBs
  have HY := Aside0.mk hY
  clear hBs hY
  obtain ⟨zs, hzs⟩ : ∃ zs, bytesOf s = zs := ⟨_, rfl⟩
  have HN : Aside0 (zs.length = s.size) := ⟨by rw [← hzs, bytesOf_length]⟩
  have HZ : Aside0 (∀ x ∈ zs, Byte x) := ⟨by rw [← hzs]; exact bytesOf_byte s⟩
  have HI : Aside0 (∀ i (h : i < s.size), zs[i]? = some ((s[i]'h).toNat : Int)) := ⟨by rw [← hzs]; exact bytesOf_get s⟩
  rw [hzs]
  clear hzs
  refine callsIn_of_wp Try.func68 rfl h7 ?_ hro
  simp only [Try.ntmps68, List.size_toArray, List.length_cons, List.length_nil, Nat.reduceAdd, Nat.reduceSub, Array.replicate_succ, Array.replicate_zero, List.push_toArray, List.append_toArray, List.nil_append, List.cons_append]
  gi_wp2
  gi_loopw [3] (fun i wr => ∃ k : Nat, 8 * k < s.size + 8 ∧ i = .int .i64 (8 * (k : Int)) ∧ J (hwords (zs.take (8 * k))) wr ∧ Kw n₀ Bs W wr)
    (fun i _ => s.size + 8 - (intOf i).toNat)
  case atStart => exact ⟨0, by omega, rfl, by simpa [hwords_nil] using h0, Kw.refl _ _ _⟩
  case round =>
    obtain ⟨k, hk, rfl, hJs, hnx⟩ := hrel
    have hcx := box_cell (hnx.2.trans HBs.out)
    by_cases hlt : 8 * k < s.size
    · have hltd : decide (8 * (k : Int) < (s.size : Int)) = true := decide_eq_true (by omega)
      gi_wp2
      gi_loop [4, 5] (fun w i => ∃ j : Nat, j ≤ 8 ∧ 8 * k + j ≤ s.size ∧ i = .int .i64 (8 * (k : Int) + (j : Int)) ∧ w = .int .u64 (hword ((zs.drop (8 * k)).take j)))
        (fun _ i => s.size - (intOf i).toNat)
      case atStart => exact ⟨0, by omega, by omega, by simp, by simp [hword]⟩
      case round =>
        obtain ⟨j, hj, hjl, rfl, rfl⟩ := hrel
        by_cases hjj : j < 8 ∧ 8 * k + j < s.size
        · have hN := HN.out
          have hlt2 : 8 * k + j < s.size := by omega
          have hB : Byte ((s[8 * k + j]'hlt2).toNat : Int) := by have := (s[8 * k + j]'hlt2).toNat_lt; unfold Byte; omega
          have hst : (zs.drop (8 * k)).take (j + 1) = (zs.drop (8 * k)).take j ++ [((s[8 * k + j]'hlt2).toNat : Int)] := by
            rw [List.take_succ_eq_append_getElem (by rw [List.length_drop]; omega), List.getElem_drop]; have := HI.out _ hlt2; rw [List.getElem?_eq_getElem (by omega)] at this; rw [Option.some.inj this]
          have hr := hword_range ((zs.drop (8 * k)).take j) (fun x hx => HZ.out _ (List.mem_of_mem_drop (List.mem_of_mem_take hx)))
          rw [List.length_take_of_le (by rw [List.length_drop]; omega)] at hr
          have hlen1 : ((zs.drop (8 * k)).take j).length = j := List.length_take_of_le (by rw [List.length_drop]; omega)
          have hsn := hword_snoc ((zs.drop (8 * k)).take j) ((s[8 * k + j]'hlt2).toNat : Int)
          rw [hlen1, ← hst] at hsn
          have HS := Aside0.mk (hsn.trans (or_step _ ((s[8 * k + j]'hlt2).toNat : Int) j hjj.1 hB hr.1 hr.2).symm)
          have hmin : 8 * (k : Int) + (j : Int) < if (s.size : Int) < 8 * (k : Int) + 8 then (s.size : Int) else 8 * (k : Int) + 8 := by split <;> omega
          clear hN hB hst hr hlen1 hsn
          gi_wp2
          all_goals
            go_round
            case rel => exact ⟨j + 1, by omega, by omega, by simp; omega, by rw [HS.out]⟩
            case measure => simp [intOf]; omega
        · have hN := HN.out
          have hmin : ¬ (8 * (k : Int) + (j : Int) < if (s.size : Int) < 8 * (k : Int) + 8 then (s.size : Int) else 8 * (k : Int) + 8) := by split <;> omega
          have hw8 : (zs.drop (8 * k)).take j = (zs.drop (8 * k)).take 8 := by
            rcases Nat.lt_or_ge j 8 with h8 | h8
            · rw [List.take_of_length_le (by rw [List.length_drop]; omega), List.take_of_length_le (by rw [List.length_drop]; omega)]
            · rw [show j = 8 by omega]
          have hsu := hwords_take_succ zs k (by omega)
          rw [← hw8] at hsu
          have hle := hwords_length (zs.take (8 * k))
          rw [List.length_take] at hle
          generalize hword ((zs.drop (8 * k)).take j) = wv at hsu
          obtain ⟨fn, tmps, assign, body, hy, hR⟩ := HY.out _ wv wr hJs (by omega)
          have HSU := Aside0.mk hsu
          clear hN hw8 hsu hle
          gi_wp2
          all_goals
            refine hR.mono ?_
            rintro e W3 (⟨rfl, hJ3, hk3⟩ | ⟨rfl, hJx3⟩)
            · gi_wp2
              go_roundw
              case rel => exact ⟨k + 1, by omega, by simp; omega, by rw [show 8 * (k + 1) = 8 * k + 8 by omega, HSU.out]; exact hJ3, hnx.trans hk3⟩
              case measure => simp [intOf]; omega
            · gi_wp2
              refine bodyPost_ret (results_none rfl _ _ _) rfl ?_
              exact ⟨⟨_, rfl⟩, .inr ⟨_, HSU.out ▸ hwords_take_prefix zs (k + 1), hJx3⟩⟩
    · have hN := HN.out
      have hall : zs.take (8 * k) = zs := List.take_of_length_le (by omega)
      rw [hall] at hJs
      clear hN hall
      gi_wp2
      go_end0
      exact ⟨⟨_, rfl⟩, .inl ⟨_, rfl, hJs⟩⟩
end Go.Proofs.Ytleomgkogbenaaa.HashIter
