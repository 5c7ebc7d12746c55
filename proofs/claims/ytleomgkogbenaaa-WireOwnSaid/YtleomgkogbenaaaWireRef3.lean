/- The reference's Reader: lists. -/
import Derived.Test.YtleomgkogbenaaaWireRef2
namespace Go.Proofs.Ytleomgkogbenaaa.WireRd
open Go.RowKit Go.Proofs.YtleomgkogbenaaaW.PrintWords Go.Proofs.YtleomgkogbenaaaW.PrintLast Go.Proofs.YtleomgkogbenaaaW.PrintMore Go.Proofs.Ytleomgkogbenaaa.WirePlain Go.Proofs.Ytleomgkogbenaaa.WireWr
set_option linter.unusedVariables false

set_option maxHeartbeats 8000000 in
set_option maxRecDepth 100000 in
theorem Ints_f (w0 : Rb) (g : Nat) (st : St) (w : World) (hI : RdW 44 w0 w g st) :
    Calls Try.prog 54 #[.pointer (some ⟨g, 0, none⟩)] w fun e w' => ∃ v, e = .returned v ∧ Kd.R (Kd.int .i64) 3 w' w.heap.size (fun _ => True) v (intsS st).1 ∧ RdW 44 w0 w' g (intsS st).2 ∧ Keeps w w' g := by
  have HI := Aside0.mk hI
  have HG := Aside0.mk hI.lt
  have HPB : Aside0 (∀ k, w0.P k → k < w.heap.size) := ⟨fun k hk => (hI.1 k hk).2⟩
  have hbound : ∀ n bs, lenS st = (n, .ok bs) → n ≤ bs.length ∧ bs.length ≤ 17592186044416 := by
    intro n bs h
    have hlen : ∀ l, st = .ok l → l.length ≤ 17592186044416 := by
      intro l e
      obtain ⟨_, _, _, _, bs', e', _, _, _, _, hl, hst⟩ := hI
      subst e
      rw [hst.1]; exact hl
    cases st with
    | err e => simp [lenS, uintS] at h
    | ok l =>
      have hl := hlen l rfl
      unfold lenS at h
      cases hu : uintS (.ok l) with
      | mk m s =>
        rw [hu] at h
        cases s with
        | err e => simp at h
        | ok r =>
          simp only at h
          have hr : r.length ≤ l.length := by
            replace hu : finU 0 0 (decU 0 l) = (m, .ok r) := hu
            have key : ∀ (bs : List Int) (i n : Nat) (r : List Int), decU i bs = .val n r → r.length ≤ bs.length := by
              intro bs
              induction bs with
              | nil => intro i n r h; rw [decU] at h; cases h
              | cons c bs ih =>
                intro i n r h
                rw [decU] at h
                by_cases h1 : (i = 9 ∧ 1 < c) ∨ (0 < i ∧ c = 0)
                · rw [if_pos h1] at h; cases h
                rw [if_neg h1] at h
                by_cases h2 : c < 128
                · rw [if_pos h2] at h
                  injection h with hn hr
                  subst hr
                  simp
                · rw [if_neg h2] at h
                  cases hd : decU (i + 1) bs with
                  | bad e => rw [hd] at h; cases h
                  | val n' r' =>
                    rw [hd] at h
                    injection h with hn hr
                    subst hr
                    have := ih (i + 1) n' r' hd
                    rw [List.length_cons]; omega
            cases hd : decU 0 l with
            | bad e => rw [hd] at hu; simp [finU] at hu
            | val n' r' =>
              rw [hd] at hu
              simp only [finU, Prod.mk.injEq, St.ok.injEq] at hu
              rw [← hu.2]
              exact key l 0 n' r' hd
          by_cases c : r.length < m
          · rw [if_pos c] at h; simp at h
          · rw [if_neg c] at h
            simp only [Prod.mk.injEq, St.ok.injEq] at h
            obtain ⟨rfl, rfl⟩ := h
            omega
  clear hI
  have hU : ∀ W, RdW 44 w0 W g st → Calls Try.prog 64 #[.pointer (some ⟨g, 0, none⟩)] W fun e w' => e = .returned (.int .i64 ((lenS st).1 : Int)) ∧ RdW 44 w0 w' g (lenS st).2 ∧ Keeps W w' g := fun W h => length_f w0 g st W h
  generalize htar : intsS st = tar
  have HT : Aside0 ((match lenS st with | (n, .ok bs) => (match intsN n [] (.ok bs) with | (l, .ok r) => (l, St.ok r) | (_, .err e) => ([], .err e)) | (_, .err e) => ([], .err e)) = tar) := ⟨htar⟩
  have hz : ∀ n e, lenS st = (n, .err e) → n = 0 := by
    intro n e h
    unfold lenS at h
    cases hu : uintS st with
    | mk m s =>
      rw [hu] at h
      cases s with
      | err e => simp only [Prod.mk.injEq] at h; exact h.1.symm
      | ok r =>
        simp only at h
        by_cases c : r.length < m
        · rw [if_pos c] at h; simp only [Prod.mk.injEq] at h; exact h.1.symm
        · rw [if_neg c] at h; simp at h
  clear htar
  generalize hun : lenS st = un at hU HT hbound hz
  obtain ⟨n, st1⟩ := un
  have HU := Aside0.mk hU
  clear hun hU
  cases st1 with
  | err k =>
    obtain rfl := hz n k rfl
    clear hz hbound
    go_enter Try.func54, Try.ntmps54
    go_wp2_with (first
      | (go_at_call 64; refine (HU.out _ HI.out).mono ?_; rintro e w1 ⟨rfl, HW, HKK⟩; have HW1 := Aside0.mk HW; have HK1 := Aside0.mk HKK; obtain ⟨e1, hc1, he⟩ := HW.cells; replace he : e1 = k ∧ k ≠ 0 := he; have hne : (e1 == 0) = false := beq_eq_false_iff_ne.mpr (by rw [he.1]; exact he.2); have hne2 : (e1 != 0) = true := bne_iff_ne.mpr (by rw [he.1]; exact he.2); clear HW HKK he))
    go_loopw [4, 5] (fun v4 v5 wr => v4 = .slice none 0 0 ∧ v5 = .int .i64 0 ∧ wr = w1) (fun _ _ _ => 0)
    case atStart => exact ⟨rfl, rfl, rfl⟩
    case round =>
      obtain ⟨rfl, rfl, rfl⟩ := hrel
      go_wp2
      go_ret
      refine ⟨_, rfl, ?_, ?_, HK1.out⟩
      · rw [← HT.out]; exact Kd.R_nil _ _ _ _ _
      · rw [← HT.out]; exact HW1.out
  | ok bs =>
    obtain ⟨hnl, hbl⟩ := hbound n bs rfl
    have HT2 : Aside0 ((match intsN n [] (.ok bs) with | (l, .ok r) => (l, St.ok r) | (_, .err e) => ([], .err e)) = tar) := ⟨HT.out⟩
    have HNL : Aside0 (n ≤ bs.length ∧ bs.length ≤ 17592186044416) := ⟨hnl, hbl⟩
    clear HT hz hbound hnl hbl
    go_enter Try.func54, Try.ntmps54
    go_wp2_with (first
      | (go_at_call 64; refine (HU.out _ HI.out).mono ?_; rintro e w1 ⟨rfl, HW, HKK⟩; have HW1 := Aside0.mk HW; have HK1 := Aside0.mk HKK; clear HW HKK))
    go_loopw [4, 5] (fun v4 v5 wr => ∃ (k : Nat) (out : List Int) (s : St), k ≤ n ∧ v5 = .int .i64 (k : Int) ∧ out.length = k ∧ Aside0 (intsN (n - k) out s = intsN n [] (.ok bs)) ∧ Aside0 (Kd.R (Kd.int .i64) 3 wr w.heap.size (fun _ => True) v4 out) ∧ Aside0 (RdW 44 w0 wr g s) ∧ Aside0 (Keeps w wr g)) (fun _ v5 _ => n - (intOf v5).toNat)
    case atStart => exact ⟨0, [], .ok bs, Nat.zero_le _, rfl, rfl, ⟨rfl⟩, ⟨by exact Kd.R_nil _ _ _ _ _⟩, HW1, HK1⟩
    case round =>
      clear HW1 HK1
      obtain ⟨k, out, s, hk, rfl, hol, HE, HO, HW, HK⟩ := hrel
      obtain ⟨e1, hcw1, he1⟩ := HW.out.cells
      cases s with
      | err q =>
        replace he1 : e1 = q ∧ q ≠ 0 := he1
        have hne : (e1 == 0) = false := beq_eq_false_iff_ne.mpr (by rw [he1.1]; exact he1.2)
        have hne2 : (e1 != 0) = true := bne_iff_ne.mpr (by rw [he1.1]; exact he1.2)
        have HT3 : Aside0 (([], St.err q) = tar) := ⟨by
          have h := HT2.out
          rw [← HE.out] at h
          by_cases hz : n - k = 0
          · rw [hz] at h; exact h
          · rw [intsN_err _ _ _ hz] at h; exact h⟩
        clear he1
        by_cases hkn : k < n
        · go_wp2
          go_ret
          refine ⟨_, rfl, ?_, ?_, HK.out⟩
          · rw [← HT3.out]; exact Kd.R_nil _ _ _ _ _
          · rw [← HT3.out]; exact HW.out
        · go_wp2
          go_ret
          refine ⟨_, rfl, ?_, ?_, HK.out⟩
          · rw [← HT3.out]; exact Kd.R_nil _ _ _ _ _
          · rw [← HT3.out]; exact HW.out
      | ok cs =>
        obtain rfl : e1 = 0 := he1
        by_cases hkn : k < n
        · have hnx : ∀ W, RdW 44 w0 W g (.ok cs) → Calls Try.prog 51 #[.pointer (some ⟨g, 0, none⟩)] W fun e w' => e = .returned (.int .i64 (intS (.ok cs)).1) ∧ RdW 44 w0 w' g (intS (.ok cs)).2 ∧ Keeps W w' g := fun W h => Int_f w0 g (.ok cs) W h
          have HE2 : Aside0 (intsN (n - (k + 1)) (out ++ [(intS (.ok cs)).1]) (intS (.ok cs)).2 = intsN n [] (.ok bs)) := ⟨by
            have h := HE.out
            rw [show n - k = (n - (k + 1)) + 1 by omega] at h
            exact h⟩
          have HNX := Aside0.mk hnx
          have HLL : Aside0 ((out.length + 1) * 8 ≤ 140737488355328) := ⟨by have := HNL.out; omega⟩
          have hw1 : wrap64 ((k : Int) + 1) = (k : Int) + 1 := by have := HNL.out; unfold wrap64; omega
          clear hnx HE
          generalize (intS (.ok cs)).1 = x at HNX HE2
          generalize (intS (.ok cs)).2 = s2 at HNX HE2
          go_wp2_with (first
            | (go_at_call 51; refine (HNX.out _ HW.out).mono ?_; rintro e w2 ⟨rfl, HW', HKK⟩; have HW2 := Aside0.mk HW'; have HK2 := Aside0.mk HKK; clear HW' HKK)
            | ((with_reducible refine gate_builtin (b := .append) (xs := #[.tmp 20, .tmp 23]) rfl ?_); at_builtin
               refine app_own .i64 33 3 8 w.heap.size w2 rfl (.tmp 20) (.tmp 23) rfl Try.underlying33 info_int (by decide) u4 out x rfl rfl (Kd.R_keep (ok := fun k => k ≠ g) (Kd.R_mono (Kd.R_bound HO.out) (fun j hj => by have := HG.out; have := hj.2.1; omega)) HK2.out.keep (fun _ h => h) |> fun h => Kd.R_mono h (fun _ _ => trivial)) (Nat.le_trans HK.out.keep.1 HK2.out.keep.1) HLL.out ?_
               intro v1 w3 HO3 HB3))
          exact ⟨⟨k + 1, out ++ [x], s2, by omega, by rw [hw1]; rfl, by rw [List.length_append, hol]; rfl, HE2, HO3, ⟨HW2.out.belowB HB3.out HG.out HPB.out⟩, ⟨(HK.out.trans HK2.out).belowB HB3.out⟩⟩, by rw [hw1]; simp only [intOf]; omega⟩
        · have HT3 : Aside0 ((out, St.ok cs) = tar) := ⟨by
            have h := HT2.out
            rw [← HE.out, show n - k = 0 by omega] at h
            exact h⟩
          go_wp2
          go_ret
          refine ⟨_, rfl, ?_, ?_, HK.out⟩
          · rw [← HT3.out]; exact HO.out
          · rw [← HT3.out]; exact HW.out
end Go.Proofs.Ytleomgkogbenaaa.WireRd
