/- Written by a program of this session (pw.py, over the kit's printer): contracts, with their walks, of the Go functions that a law reaches; a text named ..Law.. proves the given statement of that law, with no condition of its own. -/
import Derived.Test.YtljjkdlnkklibaaPAx0
import Derived.Test.YtljjkdlnkklibaaPAx1
namespace Go.Proofs.Ytljjkdlnkklibaa.PA
open Go.Proofs.Ytljjkdlnkklibaa.BisPlain
open Go.Proofs.Ytljjkdlnkklibaa.BisPure
open Go.Proofs.Ytljjkdlnkklibaa.BisAsk
open Go.Proofs.Ytljjkdlnkklibaa.BisSt
open Go.Proofs.Ytljjkdlnkklibaa.Pw
open Go.RowKit Go.Proofs.YtljjkdlnkklibaaW.PrintWords Go.Proofs.YtljjkdlnkklibaaW.PrintLast Go.Proofs.YtljjkdlnkklibaaW.PrintMore
attribute [local go_sem] max2_int min2_int max_two min_two max_three min_three max_four min_four   -- for this text's walks alone
set_option linter.unusedVariables false
set_option linter.unusedSimpArgs false

/-! ### refuterlaw35_lives: function 14 -/
def refuterlaw35_lives.f : Option Bool := some true
theorem Find_any (Bl : Nat) (vs : List Int) (n : Int) (w : World) (hL : Lst w.heap.size Bl vs w) :
    Calls Try.prog 10 #[.int .i64 n, pv Bl] w fun e w' => Res w e w' (ansP (vd vs) n) := by
  by_cases h : n < 2 ∨ 64 < n
  · exact BisOut.Find_out n h Bl (vd vs) w
  · exact BisFind.Find_c Bl vs n w hL (by omega) (by omega)
theorem RFind_any (A : Option Addr) (c : Nat) (vs : List Int) (w : World) (hC : Kd.C (Kd.int .i64) w A vs.length vs) :
    Calls Try.prog 12 #[.slice A vs.length c] w fun e w' => Res w e w' (ansP (vd vs) vs.length) := by
  by_cases h : (vs.length : Int) < 2 ∨ 64 < (vs.length : Int)
  · exact BisRFind.RFind_out A c vs w h
  · exact BisRFind.RFind_c A c vs w hC (by omega) (by omega)
theorem sameInts35_l0 (l : List Int) (hl : l.length ≤ 1000000000000) : ∀ (d i : Nat), l.length - i ≤ d → i ≤ l.length → refuterref01_SameInts.l0 (d + 1) l l (i : Int) = some true := by
  intro d
  induction d with
  | zero => intro i h1 h2; simp only [refuterref01_SameInts.l0]; rw [if_neg (by omega)]
  | succ d ih =>
    intro i h1 h2
    by_cases hlt : i < l.length
    · have hr := ih (i + 1) (by omega) (by omega)
      generalize d + 1 = d1 at hr
      simp only [refuterref01_SameInts.l0]
      rw [if_pos (by omega), if_pos (by omega), if_pos (by omega), if_pos trivial, show wrap64 ((i : Int) + 1) = ((i + 1 : Nat) : Int) by unfold wrap64; omega]
      exact hr
    · generalize d + 1 = d1
      simp only [refuterref01_SameInts.l0]; rw [if_neg (by omega)]
theorem sameInts35_self (l : List Int) (hl : l.length ≤ 1000000000000) : refuterref01_SameInts.f (l.length + 1) l l = some true := by
  unfold refuterref01_SameInts.f
  rw [if_pos rfl]
  exact sameInts35_l0 l hl l.length 0 (by omega) (by omega)
theorem sameInts35_calls (l : List Int) (hl : l.length ≤ 1000000000000) (A0 : Option Addr) (c0 : Nat) (A1 : Option Addr) (c1 : Nat) (w : World) (hr0 : Kd.C (Kd.int .i64) w A0 l.length l) (hc0 : l.length ≤ c0) (hr1 : Kd.C (Kd.int .i64) w A1 l.length l) (hc1 : l.length ≤ c1) :
    Calls Try.prog 24 #[.slice A0 l.length c0, .slice A1 l.length c1] w fun e w' => e = .returned (.bool true) ∧ Drawn0 w w' :=
  refuterref01_SameInts.calls (l.length + 1) A0 c0 l A1 c1 l true w hr0 hc0 hr1 hc1 (sameInts35_self l hl)
theorem litI_R (W : World) (xs : List Int) (B : Nat) (hB : B ≤ W.heap.size) (hl : xs.length ≤ 1000) : Kd.R (Kd.int .i64) 3 (W.alloc (.cells (nums .i64 xs).toArray 3)) B (fun _ => True) (.slice (some ⟨W.heap.size, 0, none⟩) xs.length xs.length) xs := by
  have hs : (nums .i64 xs).toArray.size = xs.length := by simp [nums]
  have h := World.ownsRow_lit (base := B) (e := 3) (size := 1) W (nums .i64 xs).toArray xs.length hB (by simp only [maxLen]; omega) (by rw [hs, Nat.mul_one])
  have h2 : (W.alloc (.cells (nums .i64 xs).toArray 3)).ownsRow B 3 1 (.slice (some ⟨W.heap.size, 0, none⟩) xs.length xs.length) xs.length (nums .i64 xs) := by simpa using h
  exact Kd.R_of_own h2 (fun _ _ => trivial)
theorem litI_C (W : World) (xs : List Int) (hl : xs.length ≤ 1000) : Kd.C (Kd.int .i64) (W.alloc (.cells (nums .i64 xs).toArray 3)) (some ⟨W.heap.size, 0, none⟩) xs.length xs := (Kd.R_reads' (litI_R W xs W.heap.size (Nat.le_refl _) hl)).2.2
theorem scanP_len (V : Int → Int) : ∀ (k : Nat) (g : Int) (ps : List Int), (scanP V k g ps).2.1.length ≤ ps.length + k
  | 0, _, _ => Nat.le_refl _
  | k + 1, g, ps => by
    unfold scanP
    split
    · have := scanP_len V k (g + 1) (ps ++ [g])
      rw [List.length_append, List.length_singleton] at this
      omega
    · simp
theorem searchP_len (V : Int → Int) : ∀ (k : Nat) (g b : Int) (ps : List Int), (searchP V k g b ps).2.2.length ≤ ps.length + k
  | 0, _, _, _ => Nat.le_refl _
  | k + 1, g, b, ps => by
    unfold searchP
    split
    · simp
    · rename_i i _
      split
      · have := searchP_len V k i b (ps ++ [i]); rw [List.length_append, List.length_singleton] at this; omega
      · split
        · have := searchP_len V k g i (ps ++ [i]); rw [List.length_append, List.length_singleton] at this; omega
        · have := searchP_len V k g b (ps ++ [i]); rw [List.length_append, List.length_singleton] at this; omega
theorem searchP_rng (V : Int → Int) : ∀ (k : Nat) (g b : Int) (ps : List Int), g ≤ (searchP V k g b ps).1 ∧ (searchP V k g b ps).2.1 ≤ b
  | 0, _, _, _ => ⟨Int.le_refl _, Int.le_refl _⟩
  | k + 1, g, b, ps => by
    unfold searchP
    split
    · exact ⟨Int.le_refl _, Int.le_refl _⟩
    · rename_i i hi
      have hz := nextP_some hi
      split
      · have := searchP_rng V k i b (ps ++ [i]); omega
      · split
        · have := searchP_rng V k g i (ps ++ [i]); omega
        · have := searchP_rng V k g b (ps ++ [i]); omega
theorem scanP_ge (V : Int → Int) : ∀ (k : Nat) (g : Int) (ps : List Int), g ≤ (scanP V k g ps).1
  | 0, _, _ => Int.le_refl _
  | k + 1, g, ps => by
    unfold scanP
    split
    · have := scanP_ge V k (g + 1) (ps ++ [g]); omega
    · exact Int.le_refl _
/-- The lists of an answer are short. -/
theorem ansP_len (V : Int → Int) (n : Int) : (ansP V n).between.length ≤ 1000 ∧ (ansP V n).probes.length ≤ 1000 := by
  unfold ansP
  by_cases h : n < 2 ∨ 64 < n
  · rw [if_pos h]; exact ⟨by decide, by decide⟩
  · rw [if_neg h]
    unfold findP
    split
    · split
      · have h1 := scanP_len V (n - 1).toNat 0 [n - 1]
        have h2 := searchP_len V 64 (scanP V (n - 1).toNat 0 [n - 1]).1 (n - 1) (scanP V (n - 1).toNat 0 [n - 1]).2.1
        have h3 := searchP_rng V 64 (scanP V (n - 1).toNat 0 [n - 1]).1 (n - 1) (scanP V (n - 1).toNat 0 [n - 1]).2.1
        have h4 := scanP_ge V (n - 1).toNat 0 [n - 1]
        rw [List.length_singleton] at h1
        generalize scanP V (n - 1).toNat 0 [n - 1] = sc at *
        obtain ⟨g', b', ps', hs⟩ : ∃ g' b' ps', searchP V 64 sc.1 (n - 1) sc.2.1 = (g', b', ps') := ⟨_, _, _, rfl⟩
        rw [hs] at h2 h3 ⊢
        dsimp only at h2 h3
        refine ⟨?_, ?_⟩
        · show (betw g' b').length ≤ 1000
          rw [betw_length]; omega
        · show ps'.length ≤ 1000
          omega
      · exact ⟨by decide, by decide⟩
    · exact ⟨by decide, by decide⟩
theorem lives35_ans : ansP (vd [0, 0, 0, 2, 1, 1, 1]) 7 = ⟨2, 4, [3], [6, 0, 3, 4, 2], 0⟩ := by rfl
section
variable {ops : Array Oper} {rest : List Oper} {o : Oper} {a : Act} {Q : Exit → Act → World → Prop}
/-- append(xs, x) to a row of one's own, behind 'at_builtin'. -/
theorem app35 (B : Nat) (wr : World) (hgd : o.guard = none) (s x : Operand) (ho : o.op = .call { callee := .builtin .append, args := #[s, x], argTypes := #[22, 22] })
    (v : Value) (cs : List Int) (p : Int) (hs : a.eval s = v) (hx : a.eval x = .slice (some ⟨wr.heap.size, 0, none⟩) 1 1) (hB : B ≤ wr.heap.size) (hR : Kd.R (Kd.int .i64) 3 wr B (fun _ => True) v cs) (hl : cs.length + 1 ≤ 1000)
    (h : ∀ v1 w1, Aside0 (Kd.R (Kd.int .i64) 3 w1 B (fun _ => True) v1 (cs ++ [p]) ∧ Below B wr w1) → wpList Try.prog ops Q rest (a.put o.dst v1) w1) :
    wpList Try.prog ops Q (o :: rest) a (wr.alloc (.cells #[.int .i64 p] 3)) := by
  refine Kd.R_append (Kd.int .i64) (w0 := wr) B hgd s x 22 3 (.int .i64 0) 8 ho Try.underlying22 info_i64 rfl (by decide) (by decide) v cs p [.int .i64 p] (fun _ => True) (fun _ => False) hs hx rfl (fun _ hk => hk.elim)
    (fun _ _ => trivial) hR (Below.refl _ _) hB (by omega) ?_
  intro v1 w1 hown hbw hgr hat
  exact h v1 w1 ⟨hown, hbw⟩
end
/-- A row of numbers of one's own: one of them may be set. -/
theorem R_put35 {W : World} {B n c : Nat} {A : Option Addr} {xs : List Int} (h : Kd.R (Kd.int .i64) 3 W B (fun _ => True) (.slice A n c) xs) (hn : xs.length = n) (i : Int) (h0 : 0 ≤ i) (h1 : i < (n : Int)) :
    ∃ g, A = some ⟨g, 0, none⟩ ∧ B ≤ g ∧ W.cell? ⟨g, i.toNat, none⟩ = some (.int .i64 (rd xs i)) ∧ W.frozen? ⟨g, i.toNat, none⟩ = false ∧ ∀ x : Int, Kd.R (Kd.int .i64) 3 (W.setCell ⟨g, i.toNat, none⟩ (.int .i64 x)) B (fun _ => True) (.slice A n c) (xs.set i.toNat x) := by
  have ho := Kd.own_of_R h
  rw [hn] at ho
  obtain ⟨g, rfl⟩ : ∃ g, A = some ⟨g, 0, none⟩ := by
    rcases ho.2 with ⟨h2, _⟩ | ⟨g, cap, cur, h2, _⟩
    · injection h2 with h3 h4 h5; omega
    · injection h2 with h3 h4 h5; exact ⟨g, h3⟩
  have hg : B ≤ g := own_base ho g rfl
  obtain ⟨a1, a2⟩ := own_at ho i h0 h1
  refine ⟨g, rfl, hg, a1, a2, fun x => ?_⟩
  have h3 := (own_store ho i x).1
  refine Kd.R_of_own ?_ (fun _ _ => trivial)
  rw [List.length_set, hn]
  exact h3
theorem tmod35 (x n : Int) (hn : 0 < n) (h0 : 0 ≤ x) : 0 ≤ Int.tmod x n ∧ Int.tmod x n < n := by
  rw [Int.tmod_eq_emod_of_nonneg h0]
  exact ⟨Int.emod_nonneg _ (by omega), Int.emod_lt_of_pos _ hn⟩
theorem around35 (a n : Int) (hn : 0 < n) (ha : -9223372036854775808 ≤ a ∧ a ≤ 9223372036854775807) : ∃ s : Int, 0 ≤ s ∧ s < n ∧ refuterref01_Around.f a n = some s := by
  unfold refuterref01_Around.f
  have hn0 : ¬ n = 0 := by omega
  rw [if_neg hn0, if_neg hn0]
  by_cases h : a < 0
  · rw [if_pos h, show wrap64 (-(wrap64 (a + 1))) = -(a + 1) by unfold wrap64; omega]
    exact ⟨_, (tmod35 _ n hn (by omega)).1, (tmod35 _ n hn (by omega)).2, rfl⟩
  · rw [if_neg h]
    exact ⟨_, (tmod35 _ n hn (by omega)).1, (tmod35 _ n hn (by omega)).2, rfl⟩
theorem pick35 (l : List Int) (hx : ∀ x ∈ l, -9223372036854775808 ≤ x ∧ x ≤ 9223372036854775807) (i n : Int) (hn : 0 < n) : ∃ s : Int, 0 ≤ s ∧ s < n ∧ refuterref01_Pick.f l i n = some s := by
  unfold refuterref01_Pick.f
  by_cases h0 : i < 0
  · rw [if_pos h0]; exact ⟨0, by omega, hn, rfl⟩
  · rw [if_neg h0]
    by_cases h1 : i ≥ (l.length : Int)
    · rw [if_pos h1]; exact ⟨0, by omega, hn, rfl⟩
    · rw [if_neg h1, if_pos (by omega), if_pos (by omega)]
      have hr : rd l i ∈ l := by
        unfold rd
        rw [List.getD_eq_getElem?_getD, List.getElem?_eq_getElem (by omega)]
        exact List.getElem_mem _
      obtain ⟨s, a, b, h⟩ := around35 (rd l i) n hn (hx _ hr)
      rw [h]
      exact ⟨s, a, b, rfl⟩
theorem verdicts35_j (k : Nat) (l : List Int) (many cut : Int) (xs : List Int) (i t v : Int) (hl : xs.length < 17592186044416) (hi : 0 ≤ i ∧ i < 1000) : ∃ y, refuterref35_Verdicts.j1 (k + 1) l many cut xs i t v = refuterref35_Verdicts.l0 k l many cut (xs ++ [y]) (i + 1) := by
  have hw : wrap64 (i + 1) = i + 1 := by unfold wrap64; omega
  simp only [refuterref35_Verdicts.j1, if_pos hl, hw]
  by_cases c1 : Int.tmod t 5 = 0
  · rw [if_pos c1]
    by_cases c2 : Int.tmod t 31 = 1
    · rw [if_pos c2]; exact ⟨_, rfl⟩
    · rw [if_neg c2]; exact ⟨_, rfl⟩
  · rw [if_neg c1]
    by_cases c2 : Int.tmod t 31 = 1
    · rw [if_pos c2]; exact ⟨_, rfl⟩
    · rw [if_neg c2]; exact ⟨_, rfl⟩
theorem verdicts35_l (l : List Int) (hx : ∀ x ∈ l, -9223372036854775808 ≤ x ∧ x ≤ 9223372036854775807) (many cut : Int) (hm : many ≤ 100) : ∀ (d : Nat) (i : Int) (xs : List Int), many - i ≤ d → 0 ≤ i → i ≤ many → (xs.length : Int) = i → ∃ r, refuterref35_Verdicts.l0 (2 * d + 1) l many cut xs i = some r ∧ (r.length : Int) = many := by
  intro d
  induction d with
  | zero =>
    intro i xs h1 h2 h3 h4
    refine ⟨xs, ?_, by omega⟩
    simp only [refuterref35_Verdicts.l0]
    rw [if_neg (by omega)]
  | succ d ih =>
    intro i xs h1 h2 h3 h4
    by_cases hlt : i < many
    · obtain ⟨t, t0, t1, ht⟩ := pick35 l hx i 1000 (by omega)
      obtain ⟨y0, hy0⟩ := verdicts35_j (2 * d + 1) l many cut xs i t 0 (by omega) ⟨by omega, by omega⟩
      obtain ⟨y1, hy1⟩ := verdicts35_j (2 * d + 1) l many cut xs i t 1 (by omega) ⟨by omega, by omega⟩
      rw [show 2 * (d + 1) + 1 = (2 * d + 1 + 1) + 1 by omega]
      rw [refuterref35_Verdicts.l0, if_pos hlt, ht]
      by_cases hc : i ≥ cut
      · obtain ⟨r, hr, hl⟩ := ih (i + 1) (xs ++ [y1]) (by omega) (by omega) (by omega) (by rw [List.length_append, List.length_singleton]; omega)
        refine ⟨r, ?_, hl⟩
        show (if i ≥ cut then refuterref35_Verdicts.j1 (2 * d + 1 + 1) l many cut xs i t 1 else refuterref35_Verdicts.j1 (2 * d + 1 + 1) l many cut xs i t 0) = some r
        rw [if_pos hc, hy1, hr]
      · obtain ⟨r, hr, hl⟩ := ih (i + 1) (xs ++ [y0]) (by omega) (by omega) (by omega) (by rw [List.length_append, List.length_singleton]; omega)
        refine ⟨r, ?_, hl⟩
        show (if i ≥ cut then refuterref35_Verdicts.j1 (2 * d + 1 + 1) l many cut xs i t 1 else refuterref35_Verdicts.j1 (2 * d + 1 + 1) l many cut xs i t 0) = some r
        rw [if_neg hc, hy0, hr]
    · refine ⟨xs, ?_, by omega⟩
      generalize 2 * (d + 1) = e
      simp only [refuterref35_Verdicts.l0]
      rw [if_neg hlt]
theorem verdicts35 (l : List Int) (hx : ∀ x ∈ l, -9223372036854775808 ≤ x ∧ x ≤ 9223372036854775807) (many cut : Int) (h0 : 0 ≤ many) (hm : many ≤ 100) : ∃ k r, refuterref35_Verdicts.f k l many cut = some r ∧ (r.length : Int) = many := by
  obtain ⟨r, hr, hl⟩ := verdicts35_l l hx many cut hm many.toNat 0 [] (by omega) (by omega) h0 rfl
  exact ⟨_, r, hr, hl⟩
/-- The verdicts, called. -/
theorem Verdicts_any (A0 : Option Addr) (c0 : Nat) (l : List Int) (many cut : Int) (w : World) (hr0 : Kd.C (Kd.int .i64) w A0 l.length l) (hc0 : l.length ≤ c0) (hx : ∀ x ∈ l, -9223372036854775808 ≤ x ∧ x ≤ 9223372036854775807) (h0 : 0 ≤ many) (hm : many ≤ 100) :
    Calls Try.prog 8 #[.slice A0 l.length c0, .int .i64 many, .int .i64 cut] w fun e w' => ∃ (v0_ : Value) (r : List Int), e = .returned v0_ ∧ (r.length : Int) = many ∧ Kd.R (Kd.int .i64) 3 w' w.heap.size (fun _ => True) v0_ r ∧ Below w.heap.size w w' := by
  obtain ⟨k, r, h, hl⟩ := verdicts35 l hx many cut h0 hm
  refine (refuterref35_Verdicts.calls k A0 c0 l many cut r w hr0 hc0 h).mono ?_
  rintro e w' ⟨v, h1, h2, h3⟩
  exact ⟨v, r, h1, hl, h2, h3⟩
theorem Around_any (a n : Int) (w : World) (hn : 0 < n) (ha : -9223372036854775808 ≤ a ∧ a ≤ 9223372036854775807) :
    Calls Try.prog 7 #[.int .i64 a, .int .i64 n] w fun e w' => ∃ s : Int, e = .returned (.int .i64 s) ∧ 0 ≤ s ∧ s < n ∧ Drawn0 w w' := by
  obtain ⟨s, h0, h1, h⟩ := around35 a n hn ha
  refine (refuterref01_Around.calls a n s w h).mono ?_
  rintro e w' ⟨h2, h3⟩
  exact ⟨s, h2, h0, h1, h3⟩
theorem Pick_any (A0 : Option Addr) (c0 : Nat) (l : List Int) (i n : Int) (w : World) (hr0 : Kd.C (Kd.int .i64) w A0 l.length l) (hc0 : l.length ≤ c0) (hx : ∀ x ∈ l, -9223372036854775808 ≤ x ∧ x ≤ 9223372036854775807) (hn : 0 < n) :
    Calls Try.prog 9 #[.slice A0 l.length c0, .int .i64 i, .int .i64 n] w fun e w' => ∃ s : Int, e = .returned (.int .i64 s) ∧ 0 ≤ s ∧ s < n ∧ Drawn0 w w' := by
  obtain ⟨s, h0, h1, h⟩ := pick35 l hx i n hn
  refine (refuterref01_Pick.calls A0 c0 l i n s w hr0 hc0 h).mono ?_
  rintro e w' ⟨h2, h3⟩
  exact ⟨s, h2, h0, h1, h3⟩
set_option maxHeartbeats 8000000 in
set_option maxRecDepth 100000 in
theorem lives35_any (w : World) : Calls Try.prog 14 #[] w fun e w' => e = .returned (.bool true) ∧ Below w.heap.size w w' := by
  have HL0 := Aside0.mk (litI_C w [0, 0, 0, 2, 1, 1, 1] (by decide))
  have hb0 : Below w.heap.size w (w.alloc (.cells #[.int .i64 0, .int .i64 0, .int .i64 0, .int .i64 2, .int .i64 1, .int .i64 1, .int .i64 1] 3)) := below_alloc (Below.refl _ _) _
  have HB0 := Aside0.mk hb0
  clear hb0
  go_enter Try.func14, Try.ntmps14
  go_wp2_with (first
    | (go_at_call 11; refine (BisOut.probe_c (some ⟨w.heap.size, 0, none⟩) 7 [0, 0, 0, 2, 1, 1, 1] _ HL0.out).mono ?_; rintro e w1 ⟨Bl, rfl, hL, hB⟩; have HL1 := Aside0.mk hL; have HB1 := Aside0.mk (HB0.out.trans (hB.mono HB0.out.size)); clear hL hB)
    | (go_at_call 10; refine (Find_any Bl [0, 0, 0, 2, 1, 1, 1] 7 w1 HL1.out).mono ?_; intro e w2 hR; rw [lives35_ans] at hR; obtain ⟨A1, k1, A2, k2, rfl, l1, c1, l2, c2, hB⟩ := hR; have HC1 := Aside0.mk c1; have HC2 := Aside0.mk c2; have HL1' := Aside0.mk l1; have HL2' := Aside0.mk l2; have HB2 := Aside0.mk (HB1.out.trans (hB.mono HB1.out.size)); clear c1 c2 l1 l2 hB))
  have hB3 : Below w2.heap.size w2 ((w2.alloc (.cells #[.int .i64 2, .int .i64 4, .slice A1 1 k1, .slice A2 5 k2] 27)).alloc (.cells #[.int .i64 3] 3)) := below_alloc (below_alloc (Below.refl _ _) _) _
  have hc3 : Kd.C (Kd.int .i64) ((w2.alloc (.cells #[.int .i64 2, .int .i64 4, .slice A1 1 k1, .slice A2 5 k2] 27)).alloc (.cells #[.int .i64 3] 3)) (some ⟨w2.heap.size + 1, 0, none⟩) 1 [3] := by
    have := litI_C (w2.alloc (.cells #[.int .i64 2, .int .i64 4, .slice A1 1 k1, .slice A2 5 k2] 27)) [3] (by decide)
    rw [World.size_alloc] at this
    exact this
  have hb3 : ((w2.alloc (.cells #[.int .i64 2, .int .i64 4, .slice A1 1 k1, .slice A2 5 k2] 27)).alloc (.cells #[.int .i64 3] 3)).cell? ⟨w2.heap.size, 3, none⟩ = some (.slice A2 5 k2) := (blk_cell (blk_alloc (blk_new w2 _) _) 3).trans rfl
  have HB3 := Aside0.mk (HB2.out.trans (hB3.mono HB2.out.size))
  have HC1' := Aside0.mk (Kd.C_below HC1.out hB3)
  have HC2' := Aside0.mk (Kd.C_below HC2.out hB3)
  have HC3 := Aside0.mk hc3
  clear hB3 hc3
  generalize (w2.alloc (.cells #[.int .i64 2, .int .i64 4, .slice A1 1 k1, .slice A2 5 k2] 27)).alloc (.cells #[.int .i64 3] 3) = w3 at HB3 HC1' HC2' HC3 hb3 ⊢
  refine (sameInts35_calls [3] (by decide) A1 k1 _ _ w3 HC1'.out HL1'.out HC3.out (Nat.le_refl 1)).mono ?_
  rintro e w4 ⟨rfl, n4, rfl⟩
  have HC4 := Aside0.mk (litI_C (w3.drewN n4) [6, 0, 3, 4, 2] (by decide))
  have hB4 : Below w3.heap.size w3 ((w3.drewN n4).alloc (.cells #[.int .i64 6, .int .i64 0, .int .i64 3, .int .i64 4, .int .i64 2] 3)) := below_alloc (pw_below_drewN (Below.refl _ _) _) _
  have HC2b := Aside0.mk (Kd.C_below HC2'.out hB4)
  have HB4 := Aside0.mk (HB3.out.trans (hB4.mono HB3.out.size))
  clear hB4
  go_wp2_with (first
    | (go_at_call 24; refine (sameInts35_calls [6, 0, 3, 4, 2] (by decide) A2 k2 _ _ _ HC2b.out HL2'.out HC4.out (Nat.le_refl 5)).mono ?_; rintro e w5 ⟨rfl, n5, rfl⟩))
  go_ret
  exact ⟨rfl, pw_below_drewN HB4.out _⟩
theorem refuterlaw35_lives.calls (r : Bool) (w : World) (h : refuterlaw35_lives.f = some r) : Calls Try.prog 14 #[] w fun e w' => e = .returned (.bool r) ∧ Below w.heap.size w w' := by
  obtain rfl := Option.some.inj h
  exact lives35_any w

/-! ### refuterlaw35_BisectFind: function 3 -/
def refuterlaw35_BisectFind.Pure : Prop := True
theorem same35 (ag ab : Int) (abt aps : List Int) (h1 : abt.length ≤ 1000000000000) (h2 : aps.length ≤ 1000000000000) (A1 : Option Addr) (k1 : Nat) (A2 : Option Addr) (k2 : Nat) (A4 : Option Addr) (k4 : Nat) (A5 : Option Addr) (k5 : Nat) (w : World)
    (c1 : Kd.C (Kd.int .i64) w A1 abt.length abt) (l1 : abt.length ≤ k1) (c2 : Kd.C (Kd.int .i64) w A2 aps.length aps) (l2 : aps.length ≤ k2) (c4 : Kd.C (Kd.int .i64) w A4 abt.length abt) (l4 : abt.length ≤ k4) (c5 : Kd.C (Kd.int .i64) w A5 aps.length aps) (l5 : aps.length ≤ k5) :
    Calls Try.prog 13 #[.agg #[.int .i64 ag, .int .i64 ab, .slice A1 abt.length k1, .slice A2 aps.length k2], .agg #[.int .i64 ag, .int .i64 ab, .slice A4 abt.length k4, .slice A5 aps.length k5]] w fun e w' => e = .returned (.bool true) ∧ Below w.heap.size w w' := by
  obtain ⟨k, g1, g2⟩ : ∃ k, refuterref01_SameInts.f k abt abt = some true ∧ refuterref01_SameInts.f k aps aps = some true := together (g := fun k => refuterref01_SameInts.f k abt abt) (f := fun k => refuterref01_SameInts.f k aps aps) (refuterref01_SameInts.mono abt abt) (refuterref01_SameInts.mono aps aps) ⟨_, sameInts35_self abt h1⟩ ⟨_, sameInts35_self aps h2⟩
  refine refuterlaw35_same.calls k ag ab A1 k1 abt A2 k2 aps ag ab A4 k4 abt A5 k5 aps true w c1 l1 c2 l2 c4 l4 c5 l5 ?_
  unfold refuterlaw35_same.f
  rw [if_pos rfl, if_pos rfl, g1]
  show (if true = true then ((refuterref01_SameInts.f k aps aps).bind fun t132 => (some t132)) else (some false)) = some true
  rw [if_pos rfl, g2]
  rfl
set_option maxHeartbeats 8000000 in
set_option maxRecDepth 100000 in
theorem BisectFind_any (A0 : Option Addr) (c0 : Nat) (l : List Int) (n cut : Int) (wild : Bool) (w : World) (hR0 : Kd.C (Kd.int .i64) w A0 l.length l) (hc0 : l.length ≤ c0) (hx0 : ∀ x ∈ l, -9223372036854775808 ≤ x ∧ x ≤ 9223372036854775807)
    (hn : -9223372036854775808 ≤ n ∧ n ≤ 9223372036854775807) (hcut : -9223372036854775808 ≤ cut ∧ cut ≤ 9223372036854775807) :
    Calls Try.prog 3 #[.slice A0 l.length c0, .int .i64 n, .int .i64 cut, .bool wild] w fun e w' => e = .returned (.bool true) ∧ Below w.heap.size w w' := by
  have HR0 := Aside0.mk hR0
  have HC0 := Aside0.mk hc0
  have HX0 := Aside0.mk hx0
  have HN := Aside0.mk hn
  have HCUT := Aside0.mk hcut
  clear hR0 hc0 hx0 hn hcut
  go_enter Try.func3, Try.ntmps3
  go_upto_if 24 with (first
    | (go_at_call 7; refine (Around_any n 70 _ (by decide) HN.out).mono ?_; rintro e w1 ⟨m, rfl, hm0, hm1, ⟨n1, rfl⟩⟩))
  go_cut [9] from 24 (fun v9 wx => ∃ m : Nat, v9 = .int .i64 (m : Int) ∧ (m : Int) < 70 ∧ Aside0 (Below w.heap.size w wx))
  case first =>
    have HB1 : Aside0 (Below w.heap.size w (w.drewN n1)) := ⟨pw_below_drewN (Below.refl _ _) _⟩
    go_wp2_with (first
      | (go_at_call 7; refine (Around_any n 14 _ (by decide) HN.out).mono ?_; rintro e w2 ⟨m2, rfl, hm20, hm21, ⟨n2, rfl⟩⟩))
    · go_meet
      exact ⟨m2.toNat, by rw [Int.toNat_of_nonneg hm20], by omega, ⟨pw_below_drewN (Below.refl _ _) _⟩⟩
    · go_meet
      exact ⟨m.toNat, by rw [Int.toNat_of_nonneg hm0], by omega, HB1⟩
  case rest =>
    obtain ⟨m, rfl, hm70, HB1⟩ := hcut
    go_upto_if 34 with (first
      | (go_at_call 7; refine (Around_any cut ((m : Int) + 1) _ (by omega) HCUT.out).mono ?_; rintro e w2 ⟨cu, rfl, hcu0, hcu1, ⟨n2, rfl⟩⟩; have HB2 : Aside0 (Below w.heap.size w (wc.drewN n2)) := ⟨pw_below_drewN HB1.out _⟩)
      | (go_at_call 8; refine (Verdicts_any A0 c0 l (m : Int) cu _ (Kd.C_below HR0.out HB2.out) HC0.out HX0.out (by omega) (by omega)).mono ?_; rintro e w3 ⟨v3, xs, rfl, hl, hR, hB⟩; obtain ⟨Av, cv, e3, -, -⟩ := Kd.R_reads hR
         have hm : xs.length = m := by omega
         rw [hm] at e3; subst e3
         have HM := Aside0.mk hm; clear hm
         have HR3 := Aside0.mk (Kd.R_lower hR HB2.out.size); have HB3 := Aside0.mk (HB2.out.trans (hB.mono HB2.out.size)); clear hR hB hl))
    have hm0 : (0 : Int) ≤ (m : Int) := by omega
    go_cut [11] from 34 (fun v11 wx => ∃ xs : List Int, Aside0 (xs.length = m) ∧ Aside0 (Kd.R (Kd.int .i64) 3 wx w.heap.size (fun _ => True) (.slice Av m cv) xs) ∧ Aside0 (Below w.heap.size w wx))
    case first =>
      cases wild
      · go_wp2
        go_meet
        exact ⟨xs, HM, HR3, HB3⟩
      · go_wp2_with fail
        go_loopw [11] (fun v11 wr => ∃ (k : Nat) (xs : List Int), v11 = .int .i64 (k : Int) ∧ k ≤ m ∧ Aside0 (xs.length = m) ∧ Aside0 (Kd.R (Kd.int .i64) 3 wr w.heap.size (fun _ => True) (.slice Av m cv) xs) ∧ Aside0 (Below w.heap.size w wr)) (fun v11 _ => m - (intOf v11).toNat)
        case atStart => exact ⟨0, xs, rfl, Nat.zero_le _, HM, HR3, HB3⟩
        case round =>
          obtain ⟨k, ys, rfl, hk, HL, HR, HB⟩ := hrel
          by_cases hlt : k < m
          · have dk : decide (k < m) = true := decide_eq_true hlt
            go_wp2_with (first
              | (go_at_call 9; refine (Pick_any A0 c0 l (k : Int) 4 _ (Kd.C_below HR0.out HB.out) HC0.out HX0.out (by decide)).mono ?_; rintro e w4 ⟨s, rfl, hs0, hs1, ⟨n4, rfl⟩⟩
                 obtain ⟨g, rfl, hg, hcell, hfr, hput⟩ := R_put35 (Kd.R_drewN HR.out n4) HL.out (k : Int) (by omega) (by omega)
                 rw [Int.toNat_natCast] at hcell hfr hput
                 have HPUT := Aside0.mk (hput s); have HG := Aside0.mk hg; clear hput hg))
            refine ⟨⟨k + 1, ys.set k s, rfl, by omega, ⟨by rw [List.length_set]; exact HL.out⟩, HPUT, ⟨(pw_below_drewN HB.out n4).setCell (p := ⟨g, k, none⟩) HG.out _⟩⟩, by simp [intOf]; omega⟩
          · have dk : decide (k < m) = false := decide_eq_false hlt
            go_wp2
            go_meet
            exact ⟨ys, HL, HR, HB⟩
    case rest =>
      clear HM HR3 HB3
      obtain ⟨xs, HM, HR3, HB3⟩ := hcut
      go_upto_region 10 with fail
      generalize wc = wd at *
      go_cut [53] from 47 (fun v53 wx => ∃ b : Bool, v53 = .bool b ∧ wx = wd ∧ (b = true → 0 < m))
      case first =>
        by_cases hm1 : 0 < m
        · have dm : decide (0 < m) = true := decide_eq_true hm1
          go_wp2
          go_meet
          exact ⟨_, rfl, rfl, fun _ => hm1⟩
        · have dm : decide (0 < m) = false := decide_eq_false hm1
          go_wp2
          go_meet
          exact ⟨_, rfl, rfl, fun h => by cases h⟩
      case rest =>
      obtain ⟨b, rfl, rfl, hbm⟩ := hcut
      go_upto_if 53 with fail
      go_cut [] from 53 (fun wx => ∃ xs : List Int, Aside0 (xs.length = m) ∧ Aside0 (Kd.R (Kd.int .i64) 3 wx w.heap.size (fun _ => True) (.slice Av m cv) xs) ∧ Aside0 (Below w.heap.size w wx))
      case first =>
        cases b
        · clear hbm
          go_wp2
          go_meet
          exact ⟨xs, HM, HR3, HB3⟩
        · have hm1 := hbm rfl
          clear hbm
          obtain ⟨g, hA, hg, hcell, hfr, hput⟩ := R_put35 HR3.out HM.out ((m : Int) - 1) (by omega) (by omega)
          have HPUT := Aside0.mk (hput 1)
          have HG := Aside0.mk hg
          subst hA
          rw [show ((m : Int) - 1).toNat = m - 1 by omega] at hcell hfr HPUT
          clear hput hg
          go_wp2
          go_meet
          exact ⟨xs.set (m - 1) 1, ⟨by rw [List.length_set]; exact HM.out⟩, HPUT, ⟨HB3.out.setCell (p := ⟨g, m - 1, none⟩) HG.out _⟩⟩
      case rest =>
        clear hbm
        clear HM HR3 HB3
        obtain ⟨xs, HM, HR3, HB3⟩ := hcut
        obtain ⟨A3, c3, e3, hlc, hC⟩ := Kd.R_reads HR3.out
        rw [HM.out] at e3
        injection e3 with e3 e4 e5
        subst e3 e5
        clear e4
        have HC3 := Aside0.mk hC
        have HLC3 := Aside0.mk hlc
        clear hC hlc HR3
        have hneg : wrap64 (-(m : Int)) = -(m : Int) := by unfold wrap64; omega
        have hneg2 : IntKind.i64.wrap (-(m : Int)) = -(m : Int) := Go.IntWalk.i64_in _ (by omega)
        obtain ⟨an, han⟩ : ∃ an, ansP (vd xs) m = an := ⟨_, rfl⟩
        obtain ⟨ag, ab, abt, aps, ae⟩ := an
        have HAN := Aside0.mk han
        have HAN2 : Aside0 (ansP (vd xs) (-(m : Int)) = ⟨0, 0, [], [], 5⟩) := ⟨by unfold ansP; rw [if_pos (by omega)]⟩
        clear han
        go_upto_region 13 with (first
          | (go_at_call 11; have hp := BisOut.probe_c Av cv xs wc HC3.out; rw [HM.out] at hp; refine hp.mono ?_; clear hp; rintro e w5 ⟨Bl, rfl, hL, hB⟩; have HL5 := Aside0.mk hL; have HB5 := Aside0.mk hB; clear hL hB)
          | (go_at_call 10; refine (Find_any Bl xs (m : Int) w5 HL5.out).mono ?_; intro e w6 hR; rw [HAN.out] at hR; obtain ⟨A1, k1, A2, k2, rfl, l1, c1, l2, c2, hB⟩ := hR; have HC1 := Aside0.mk c1; have HC2 := Aside0.mk c2; have HL1 := Aside0.mk l1; have HL2 := Aside0.mk l2; have HB6 := Aside0.mk (HB5.out.trans (hB.mono HB5.out.size)); clear c1 c2 l1 l2 hB))
        have HLA : Aside0 (abt.length ≤ 1000000000000 ∧ aps.length ≤ 1000000000000) := ⟨by
          have h := ansP_len (vd xs) (m : Int)
          rw [HAN.out] at h
          exact ⟨by have := h.1; dsimp only at this; omega, by have := h.2; dsimp only at this; omega⟩⟩
        obtain ⟨W6, hW6⟩ : ∃ W6, w6.alloc (.cells #[.int .i64 ag, .int .i64 ab, .slice A1 abt.length k1, .slice A2 aps.length k2] 27) = W6 := ⟨_, rfl⟩
        have hb12 : W6.heap[w6.heap.size]? = some (.cells #[.int .i64 ag, .int .i64 ab, .slice A1 abt.length k1, .slice A2 aps.length k2] 27 (0, 0)) := by rw [← hW6]; exact blk_new _ _
        have hB6 : Below w6.heap.size w6 W6 := by rw [← hW6]; exact below_alloc (Below.refl _ _) _
        rw [hW6]
        have HC1 := Aside0.mk (Kd.C_below HC1.out hB6)
        have HC2 := Aside0.mk (Kd.C_below HC2.out hB6)
        have HBB := Aside0.mk (HB6.out.trans (hB6.mono HB6.out.size))
        generalize w6.heap.size = b12 at hb12 ⊢
        have HB12 := Aside0.mk hb12
        clear hb12 hB6 hW6 HB5 HB6 HL5
        go_upto_region 14 with (first
          | (go_at_call 12; have hp := RFind_any Av cv xs W6 (Kd.C_below HC3.out HBB.out); rw [HM.out] at hp; refine hp.mono ?_; clear hp; intro e w7 hR; rw [HAN.out] at hR; obtain ⟨A4, k4, A5, k5, rfl, l4, c4, l5, c5, hB⟩ := hR
             have HC4 := Aside0.mk c4; have HC5 := Aside0.mk c5; have HL4 := Aside0.mk l4; have HL5 := Aside0.mk l5; have HB12' := Aside0.mk (blk_below HB12.out hB); have HC1' := Aside0.mk (Kd.C_below HC1.out hB); have HC2' := Aside0.mk (Kd.C_below HC2.out hB); have HBB' := Aside0.mk (HBB.out.trans (hB.mono HBB.out.size)); clear c4 c5 l4 l5 hB))
        clear HB12 HC1 HC2 HBB
        obtain ⟨W7, hW7⟩ : ∃ W7, w7.alloc (.cells #[.int .i64 ag, .int .i64 ab, .slice A4 abt.length k4, .slice A5 aps.length k5] 33) = W7 := ⟨_, rfl⟩
        have hb14 : W7.heap[w7.heap.size]? = some (.cells #[.int .i64 ag, .int .i64 ab, .slice A4 abt.length k4, .slice A5 aps.length k5] 33 (0, 0)) := by rw [← hW7]; exact blk_new _ _
        have hB7 : Below w7.heap.size w7 W7 := by rw [← hW7]; exact below_alloc (Below.refl _ _) _
        rw [hW7]
        have HC1 := Aside0.mk (Kd.C_below HC1'.out hB7)
        have HC2 := Aside0.mk (Kd.C_below HC2'.out hB7)
        have HC4 := Aside0.mk (Kd.C_below HC4.out hB7)
        have HC5 := Aside0.mk (Kd.C_below HC5.out hB7)
        have HB12 := Aside0.mk (blk_below HB12'.out hB7)
        have HBB := Aside0.mk (HBB'.out.trans (hB7.mono HBB'.out.size))
        generalize w7.heap.size = b14 at hb14 ⊢
        have HB14 := Aside0.mk hb14
        clear hb14 hB7 hW7 HB12' HC1' HC2' HBB'
        go_upto_region 15 with (first
          | (go_at_call 10; refine (BisOut.Find_nil (m : Int) W7).mono ?_; intro e w8 hR; obtain ⟨A6, k6, A7, k7, rfl, l6, c6, l7, c7, hB⟩ := hR
             clear l6 c6 l7 c7; have hB := hB.trans ((Below.refl w8.heap.size w8).alloc (Nat.le_refl _) (.cells #[.int .i64 0, .int .i64 0, .slice A6 0 k6, .slice A7 0 k7] 27) |>.mono hB.size)
             have HB78 := Aside0.mk hB; clear hB))
        have HC1' := Aside0.mk (Kd.C_below HC1.out HB78.out)
        have HC2' := Aside0.mk (Kd.C_below HC2.out HB78.out)
        have HC4' := Aside0.mk (Kd.C_below HC4.out HB78.out)
        have HC5' := Aside0.mk (Kd.C_below HC5.out HB78.out)
        have HB12' := Aside0.mk (blk_below HB12.out HB78.out)
        have HB14' := Aside0.mk (blk_below HB14.out HB78.out)
        have HBB' := Aside0.mk (HBB.out.trans (HB78.out.mono HBB.out.size))
        generalize w8.alloc (.cells #[.int .i64 0, .int .i64 0, .slice A6 0 k6, .slice A7 0 k7] 27) = W8 at *
        clear HC1 HC2 HC4 HC5 HB12 HB14 HBB HB78
        go_upto_region 16 with (first
          | (go_at_call 11; have hp := BisOut.probe_c Av cv xs W8 (Kd.C_below HC3.out HBB'.out); rw [HM.out] at hp; refine hp.mono ?_; clear hp; rintro e w9 ⟨B2, rfl, hL, hB⟩; have HL9 := Aside0.mk hL; have HB9 := Aside0.mk hB; clear hL hB)
          | (go_at_call 10; refine (Find_any B2 xs (-(m : Int)) w9 HL9.out).mono ?_; intro e w10 hR; rw [HAN2.out] at hR; obtain ⟨A8, k8, A9, k9, rfl, l8, c8, l9, c9, hB⟩ := hR; clear l8 c8 l9 c9
             have hB := (HB9.out.trans (hB.mono HB9.out.size)).trans ((Below.refl w10.heap.size w10).alloc (Nat.le_refl _) (.cells #[.int .i64 0, .int .i64 0, .slice A8 0 k8, .slice A9 0 k9] 27) |>.mono (HB9.out.trans (hB.mono HB9.out.size)).size)
             have HB10 := Aside0.mk hB; clear hB))
        have HC1 := Aside0.mk (Kd.C_below HC1'.out HB10.out)
        have HC2 := Aside0.mk (Kd.C_below HC2'.out HB10.out)
        have HC4 := Aside0.mk (Kd.C_below HC4'.out HB10.out)
        have HC5 := Aside0.mk (Kd.C_below HC5'.out HB10.out)
        have hb12 := blk_below HB12'.out HB10.out
        have hb14 := blk_below HB14'.out HB10.out
        have HBB := Aside0.mk (HBB'.out.trans (HB10.out.mono HBB'.out.size))
        generalize w10.alloc (.cells #[.int .i64 0, .int .i64 0, .slice A8 0 k8, .slice A9 0 k9] 27) = W10 at *
        have a0 : W10.cell? ⟨b12, 0, none⟩ = some (.int .i64 ag) := (blk_cell hb12 0).trans rfl
        have a1 : W10.cell? ⟨b12, 1, none⟩ = some (.int .i64 ab) := (blk_cell hb12 1).trans rfl
        have a2 : W10.cell? ⟨b12, 2, none⟩ = some (.slice A1 abt.length k1) := (blk_cell hb12 2).trans rfl
        have a3 : W10.cell? ⟨b12, 3, none⟩ = some (.slice A2 aps.length k2) := (blk_cell hb12 3).trans rfl
        have e0 : W10.cell? ⟨b14, 0, none⟩ = some (.int .i64 ag) := (blk_cell hb14 0).trans rfl
        have e1 : W10.cell? ⟨b14, 1, none⟩ = some (.int .i64 ab) := (blk_cell hb14 1).trans rfl
        have e2 : W10.cell? ⟨b14, 2, none⟩ = some (.slice A4 abt.length k4) := (blk_cell hb14 2).trans rfl
        have e3 : W10.cell? ⟨b14, 3, none⟩ = some (.slice A5 aps.length k5) := (blk_cell hb14 3).trans rfl
        clear hb12 hb14 HC1' HC2' HC4' HC5' HB12' HB14' HBB' HB9 HL9 HB10
        have HSM := Aside0.mk (same35 ag ab abt aps HLA.out.1 HLA.out.2 A1 k1 A2 k2 A4 k4 A5 k5 W10 HC1.out HL1.out HC2.out HL2.out HC4.out HL4.out HC5.out HL5.out)
        have HLV := fun W => refuterlaw35_lives.calls true W rfl
        go_wp2_with (first
          | (go_at_call 13; refine HSM.out.mono ?_; rintro e w11 ⟨rfl, hB⟩; have HB11 := Aside0.mk (HBB.out.trans (hB.mono HBB.out.size)); clear hB)
          | (go_at_call 14; refine (HLV _).mono ?_; rintro e w12 ⟨rfl, hB⟩; have HB12 := Aside0.mk (HB11.out.trans (hB.mono HB11.out.size)); clear hB))
        go_ret
        exact ⟨rfl, HB3.out.trans (HB12.out.mono HB3.out.size)⟩
theorem refuterlaw35_BisectFind.walk (P : refuterlaw35_BisectFind.Pure) (a0 : Option Addr) (len0 cap0 : Nat) (z0 : List Int) (a1 : Int) (a2 : Int) (a3 : Bool) (w : World) (w0 : (a0 = none ∧ len0 = 0 ∧ cap0 = 0 ∧ z0 = []) ∨ ∃ x, a0 = some x ∧ len0 ≤ cap0 ∧ cap0 ≤ maxLen ∧ z0.length = cap0 ∧ (∀ i, i < z0.length → w.cell? (x.add i) = some (.int .i64 (z0.getD i 0))) ∧ ∀ n ∈ z0, (Lit.int .i64 n).wf = true) (_y0 : len0 * 8 ≤ 140737488351232) (w1 : (Lit.int .i64 a1).wf = true) (w2 : (Lit.int .i64 a2).wf = true) :
    Calls Try.prog 3 #[.slice a0 len0 cap0, .int .i64 a1, .int .i64 a2, .bool a3] w fun e w' => e = .returned (.bool true) ∧ Below w.heap.size w w' := by
  obtain ⟨l, rfl, hr0, hm0, hw0, hc0⟩ := ReadsInt.ofRowC w0
  have h1 := bounds_i64 w1
  have h2 := bounds_i64 w2
  exact BisectFind_any a0 cap0 l a1 a2 a3 w (Kd.C_of_reads (d := (0 : Int)) (h1 := fun _ => rfl) hr0) hc0 (fun x hx => by have := bounds_i64 (hw0 x hx); omega) (by omega) (by omega)

/-! ### refuterlaw35_BisectFirst: function 4 -/
def refuterlaw35_BisectFirst.Pure : Prop := True
def PB (first m : Int) (whole : Bool) (i x : Int) : Prop := (i < first ∧ x = 0) ∨ (first ≤ i ∧ x = 1) ∨ (x = 2 ∧ whole = false ∧ 0 < i ∧ i < m - 1)
theorem three_of (x : Int) (h : x = 0 ∨ x = 1 ∨ x = 2) : three x = x := by rcases h with rfl | rfl | rfl <;> rfl
theorem first35 (xs : List Int) (m : Nat) (first : Int) (whole : Bool) (h2 : 2 ≤ m) (h64 : m ≤ 64) (hl : xs.length = m) (hf1 : 1 ≤ first) (hf2 : first ≤ (m : Int) - 1) (hP : ∀ i : Nat, i < m → PB first m whole i (rd xs i)) :
    ∃ g b ps, ansP (vd xs) m = ⟨g, b, betw g b, ps, 0⟩ ∧ 0 ≤ g ∧ g < m ∧ 0 ≤ b ∧ b < m ∧ (∀ j : Nat, j < m → (rd xs j = 0 ∨ rd xs j = 1 ∨ rd xs j = 2)) ∧ rd xs g = 0 ∧ rd xs b = 1 ∧ (∀ j : Nat, g < j → j < m → rd xs j ≠ 0) ∧ (∀ j : Nat, j < b → rd xs j ≠ 1) ∧
      (whole = true → ps.length ≤ 2 + halves 64 (m - 1)) := by
  have h3 : ∀ j : Nat, j < m → (rd xs j = 0 ∨ rd xs j = 1 ∨ rd xs j = 2) := fun j hj => by
    rcases hP j hj with h | h | h
    · exact .inl h.2
    · exact .inr (.inl h.2)
    · exact .inr (.inr h.1)
  have hV : ∀ i : Int, 0 ≤ i → i < m → vd xs i = rd xs i := fun i h0 h1 => by
    have h4 := h3 i.toNat (by omega)
    rw [show ((i.toNat : Nat) : Int) = i by omega] at h4
    have : vd xs i = three (rd xs i) := by unfold vd raw rd; rw [if_pos ⟨h0, by omega⟩]
    rw [this, three_of _ h4]
  have hP' : ∀ i : Int, 0 ≤ i → i < m → PB first m whole i (rd xs i) := fun i h0 h1 => by
    have h4 := hP i.toNat (by omega)
    rwa [show ((i.toNat : Nat) : Int) = i by omega] at h4
  have v0 : vd xs 0 = 0 := by
    rw [hV 0 (by omega) (by omega)]
    rcases hP' 0 (by omega) (by omega) with h | h | h
    · exact h.2
    · omega
    · omega
  have vl : vd xs ((m : Int) - 1) = 1 := by
    rw [hV _ (by omega) (by omega)]
    rcases hP' ((m : Int) - 1) (by omega) (by omega) with h | h | h
    · omega
    · exact h.2
    · omega
  obtain ⟨g, b, ps, hf⟩ := find_some (V := vd xs) (n := (m : Int)) (by omega) vl v0
  obtain ⟨hi, hn⟩ := findP_inv (fun i => vd_cases xs i) (by omega) (by omega) hf
  have q0 := hi.g0; have q1 := hi.gb; have q2 := hi.bn
  have vg := hi.vg; have vb := hi.vb
  rw [hV g (by omega) (by omega)] at vg
  rw [hV b (by omega) (by omega)] at vb
  refine ⟨g, b, ps, ?_, q0, by omega, by omega, q2, h3, vg, vb, fun j a c => ?_, fun j c => ?_, fun hw => ?_⟩
  · unfold ansP; rw [if_neg (by omega), hf]; rfl
  · intro e
    by_cases cb : (j : Int) < b
    · have := (betw_all hi hn j a cb).2
      rw [hV j (by omega) (by omega)] at this; omega
    · have hfb : first ≤ b := by
        rcases hP' b (by omega) (by omega) with h | h | h <;> omega
      rcases hP' j (by omega) (by omega) with h | h | h <;> omega
  · intro e
    by_cases cb : g < (j : Int)
    · have := (betw_all hi hn j cb c).2
      rw [hV j (by omega) (by omega)] at this; omega
    · have hfg : g < first := by
        rcases hP' g (by omega) (by omega) with h | h | h <;> omega
      rcases hP' j (by omega) (by omega) with h | h | h <;> omega
  · have := find_len (V := vd xs) (n := (m : Int)) (by omega) (fun i h0 h1 => by
      rw [hV i h0 h1]
      rcases hP' i h0 h1 with h | h | h
      · exact .inl h.2
      · exact .inr h.2
      · rw [hw] at h; exact absurd h.2.1 (by decide)) v0 hf 64 (by omega)
    rwa [show ((m : Int) - 1).toNat = m - 1 by omega] at this
theorem rd_snoc (xs : List Int) (x : Int) (i : Nat) (h : i ≤ xs.length) : rd (xs ++ [x]) i = if i < xs.length then rd xs i else x := by
  unfold rd
  rw [Int.toNat_natCast, List.getD_eq_getElem?_getD, List.getD_eq_getElem?_getD]
  by_cases c : i < xs.length
  · rw [if_pos c, List.getElem?_append_left c]
  · rw [if_neg c, List.getElem?_append_right (by omega), show i - xs.length = 0 by omega]; rfl
theorem halves_le : ∀ (f k : Nat), halves f k ≤ f
  | 0, _ => Nat.le_refl _
  | f + 1, k => by
    unfold halves
    split
    · have := halves_le f ((k + 1) / 2); omega
    · omega
theorem step35 {first m : Int} {whole : Bool} {k : Nat} {xs : List Int} (h : xs.length = k ∧ ∀ i : Nat, i < k → PB first m whole i (rd xs i)) (x : Int) (hx : PB first m whole k x) :
    (xs ++ [x]).length = k + 1 ∧ ∀ i : Nat, i < k + 1 → PB first m whole i (rd (xs ++ [x]) i) := by
  refine ⟨by rw [List.length_append, List.length_singleton, h.1], fun i hi => ?_⟩
  rw [rd_snoc xs x i (by omega)]
  by_cases c : i < xs.length
  · rw [if_pos c]; exact h.2 i (by omega)
  · rw [if_neg c]
    obtain rfl : i = k := by omega
    exact hx
set_option maxHeartbeats 8000000 in
set_option maxRecDepth 100000 in
theorem BisectFirst_any (n cut : Int) (A0 : Option Addr) (c0 : Nat) (l : List Int) (whole : Bool) (w : World) (hR0 : Kd.C (Kd.int .i64) w A0 l.length l) (hc0 : l.length ≤ c0) (hx0 : ∀ x ∈ l, -9223372036854775808 ≤ x ∧ x ≤ 9223372036854775807)
    (hn : -9223372036854775808 ≤ n ∧ n ≤ 9223372036854775807) (hcut : -9223372036854775808 ≤ cut ∧ cut ≤ 9223372036854775807) :
    Calls Try.prog 4 #[.int .i64 n, .int .i64 cut, .slice A0 l.length c0, .bool whole] w fun e w' => e = .returned (.bool true) ∧ Below w.heap.size w w' := by
  have HR0 := Aside0.mk hR0
  have HC0 := Aside0.mk hc0
  have HX0 := Aside0.mk hx0
  have HN := Aside0.mk hn
  have HCUT := Aside0.mk hcut
  clear hR0 hc0 hx0 hn hcut
  go_enter Try.func4, Try.ntmps4
  go_upto_region 2 with (first
    | (go_at_call 7; refine (Around_any n 63 _ (by decide) HN.out).mono ?_; rintro e w1 ⟨m0, rfl, hm0, hm1, ⟨n1, rfl⟩⟩))
  obtain ⟨m, hm⟩ : ∃ m : Nat, 2 + m0 = (m : Int) := ⟨(2 + m0).toNat, by omega⟩
  rw [hm]
  have h2 : 2 ≤ m := by omega
  have h64 : m ≤ 64 := by omega
  clear hm hm0 hm1
  go_upto_block 0 with (first
    | (go_at_call 7; refine (Around_any cut ((m : Int) - 1) _ (by omega) HCUT.out).mono ?_; rintro e w2 ⟨f0, rfl, hf0, hf1, ⟨n2, rfl⟩⟩))
  obtain ⟨first, hfi⟩ : ∃ first : Int, 1 + f0 = first := ⟨_, rfl⟩
  rw [hfi]
  have hf1' : 1 ≤ first := by omega
  have hf2' : first ≤ (m : Int) - 1 := by omega
  have HB2 : Aside0 (Below w.heap.size w (w.drewN (n1 + n2))) := ⟨pw_below_drewN (Below.refl _ _) _⟩
  clear hfi hf0 hf1
  go_cut [11, 12, 13] from 29 (fun v11 v12 v13 wx => ∃ xs : List Int, Aside0 (xs.length = m ∧ ∀ i : Nat, i < m → PB first m whole i (rd xs i)) ∧ Aside0 (Kd.R (Kd.int .i64) 3 wx w.heap.size (fun _ => True) v11 xs) ∧ Aside0 (Below w.heap.size w wx))
  case first =>
    go_wp2_with fail
    go_loopg [11, 12] m (fun gk v11 v12 wr => ∃ (k : Nat) (xs : List Int) (v : Value), v11 = v ∧ v12 = .int .i64 (k : Int) ∧ k ≤ m ∧ gk = m - k ∧ Aside0 (xs.length = k ∧ ∀ i : Nat, i < k → PB first m whole i (rd xs i)) ∧ Aside0 (Kd.R (Kd.int .i64) 3 wr w.heap.size (fun _ => True) v xs) ∧ Aside0 (Below w.heap.size w wr))
    case atStart => exact ⟨0, [], _, rfl, rfl, Nat.zero_le _, rfl, ⟨rfl, fun i hi => absurd hi (Nat.not_lt_zero _)⟩, ⟨Kd.R_nil _ _ _ _ _⟩, HB2⟩
    case round =>
      obtain ⟨k, xs, v, rfl, rfl, hk, hgk, HX, HR, HB⟩ := hrel
      by_cases hlt : k < m
      · have dk : decide (k < m) = true := decide_eq_true hlt
        obtain ⟨s, hs0, hs1, hs⟩ := pick35 l HX0.out (k : Int) 3 (by decide)
        have HS := Aside0.mk hs
        clear hs
        have hfc : (decide (first ≤ (k : Int)) = true ∧ first ≤ (k : Int)) ∨ (decide (first ≤ (k : Int)) = false ∧ (k : Int) < first) := by
          by_cases c : first ≤ (k : Int)
          · exact .inl ⟨decide_eq_true c, c⟩
          · exact .inr ⟨decide_eq_false c, by omega⟩
        have hpc : (decide (0 < k) = false ∧ ¬ 0 < k) ∨ (decide (0 < k) = true ∧ 0 < k ∧ decide ((k : Int) < (m : Int) - 1) = false) ∨ (decide (0 < k) = true ∧ 0 < k ∧ decide ((k : Int) < (m : Int) - 1) = true ∧ (k : Int) < (m : Int) - 1 ∧ s = 0) ∨ (decide (0 < k) = true ∧ 0 < k ∧ decide ((k : Int) < (m : Int) - 1) = true ∧ (s == 0) = false) := by
          by_cases a : 0 < k
          · by_cases b : (k : Int) < (m : Int) - 1
            · by_cases c : s = 0
              · exact .inr (.inr (.inl ⟨decide_eq_true a, a, decide_eq_true b, b, c⟩))
              · exact .inr (.inr (.inr ⟨decide_eq_true a, a, decide_eq_true b, beq_eq_false_iff_ne.mpr c⟩))
            · exact .inr (.inl ⟨decide_eq_true a, a, decide_eq_false b⟩)
          · exact .inl ⟨decide_eq_false a, a⟩
        have hnk : wrap64 ((k : Int) + 1) = (k : Int) + 1 := by unfold wrap64; omega
        clear hnk
        cases whole
        · rcases hfc with ⟨e1, e2⟩ | ⟨e1, e2⟩
          all_goals rcases hpc with ⟨e3, e4⟩ | ⟨e3, e4, e5⟩ | ⟨e3, e4, e5, e6, rfl⟩ | ⟨e3, e4, e5, e6⟩
          all_goals try (exfalso; omega)
          all_goals
            (go_wp2_with (first
            | (go_at_call 9; refine (refuterref01_Pick.calls A0 c0 l (k : Int) 3 _ _ (Kd.C_below HR0.out HB.out) HC0.out HS.out).mono ?_; rintro e w4 ⟨rfl, ⟨n4, rfl⟩⟩)
            | ((with_reducible refine gate_builtin (b := .append) (xs := #[.tmp 55, .tmp 57]) rfl ?_); at_builtin
               refine app35 w.heap.size _ rfl (.tmp 55) (.tmp 57) rfl _ xs _ rfl rfl (by first | exact HB.out.size | exact (pw_below_drewN HB.out _).size) (by first | exact HR.out | exact Kd.R_drewN HR.out _) (by have := HX.out.1; omega) ?_
               intro v5 w5 HA)))
            (go_roundg (gk - 1))
            (case measure => omega)
            (case rel => exact ⟨k + 1, _, _, rfl, by simp, by omega, by omega, ⟨step35 HX.out _ (by first | exact .inl ⟨by omega, rfl⟩ | exact .inr (.inl ⟨by omega, rfl⟩) | exact .inr (.inr ⟨rfl, rfl, by omega, by omega⟩))⟩, ⟨HA.out.1⟩, ⟨by first | exact HB.out.trans HA.out.2 | exact (pw_below_drewN HB.out _).trans HA.out.2⟩⟩)
        · rcases hfc with ⟨e1, e2⟩ | ⟨e1, e2⟩
          all_goals clear hpc
          all_goals
            (go_wp2_with (first
            | (go_at_call 9; refine (refuterref01_Pick.calls A0 c0 l (k : Int) 3 _ _ (Kd.C_below HR0.out HB.out) HC0.out HS.out).mono ?_; rintro e w4 ⟨rfl, ⟨n4, rfl⟩⟩)
            | ((with_reducible refine gate_builtin (b := .append) (xs := #[.tmp 55, .tmp 57]) rfl ?_); at_builtin
               refine app35 w.heap.size _ rfl (.tmp 55) (.tmp 57) rfl _ xs _ rfl rfl (by first | exact HB.out.size | exact (pw_below_drewN HB.out _).size) (by first | exact HR.out | exact Kd.R_drewN HR.out _) (by have := HX.out.1; omega) ?_
               intro v5 w5 HA)))
            (go_roundg (gk - 1))
            (case measure => omega)
            (case rel => exact ⟨k + 1, _, _, rfl, by simp, by omega, by omega, ⟨step35 HX.out _ (by first | exact .inl ⟨by omega, rfl⟩ | exact .inr (.inl ⟨by omega, rfl⟩) | exact .inr (.inr ⟨rfl, rfl, by omega, by omega⟩))⟩, ⟨HA.out.1⟩, ⟨by first | exact HB.out.trans HA.out.2 | exact (pw_below_drewN HB.out _).trans HA.out.2⟩⟩)
      · have dk : decide (k < m) = false := decide_eq_false hlt
        obtain rfl : k = m := by omega
        go_wp2
        go_meet
        exact ⟨xs, HX, HR, HB⟩
  case rest =>
    obtain ⟨xs, HX, HR, HB⟩ := hcut
    obtain ⟨Av, cv, rfl, hlc, hC⟩ := Kd.R_reads HR.out
    rw [HX.out.1] at hlc ⊢
    have HC3 := Aside0.mk hC
    obtain ⟨g, b, ps, hans, hg0, hgm, hb0, hbm, h3, hg, hb, hgu, hbd, hlen⟩ := first35 xs m first whole h2 h64 HX.out.1 hf1' hf2' HX.out.2
    have hpl := (ansP_len (vd xs) (m : Int)).2
    rw [hans] at hpl
    have HANS := Aside0.mk hans
    have H3 := Aside0.mk h3
    have HG := Aside0.mk hg
    have HBB := Aside0.mk hb
    have HGU := Aside0.mk hgu
    have HBD := Aside0.mk hbd
    have HLEN := Aside0.mk hlen
    have HPL := Aside0.mk hpl
    clear hC hans h3 hg hb hgu hbd hlen hpl HR hlc
    go_upto_block 2 with (first
      | (go_at_call 11; have hp := BisOut.probe_c Av cv xs wc HC3.out; rw [HX.out.1] at hp; refine hp.mono ?_; clear hp; rintro e w5 ⟨Bl, rfl, hL, hB⟩; have HL5 := Aside0.mk hL; have HB5 := Aside0.mk hB; clear hL hB)
      | (go_at_call 10; refine (Find_any Bl xs (m : Int) w5 HL5.out).mono ?_; intro e w6 hR; rw [HANS.out] at hR; obtain ⟨A1, k1, A2, k2, rfl, l1, c1, l2, c2, hB⟩ := hR; have HB6 := Aside0.mk (HB5.out.trans (hB.mono HB5.out.size)); clear c1 c2 l1 l2 hB))
    obtain ⟨W6, hW6⟩ : ∃ W6, w6.alloc (.cells #[.int .i64 g, .int .i64 b, .slice A1 (betw g b).length k1, .slice A2 ps.length k2] 27) = W6 := ⟨_, rfl⟩
    have hb14 : W6.heap[w6.heap.size]? = some (.cells #[.int .i64 g, .int .i64 b, .slice A1 (betw g b).length k1, .slice A2 ps.length k2] 27 (0, 0)) := by rw [← hW6]; exact blk_new _ _
    have hB6 : Below w6.heap.size w6 W6 := by rw [← hW6]; exact below_alloc (Below.refl _ _) _
    rw [hW6]
    have HB66 := Aside0.mk (HB6.out.trans (hB6.mono HB6.out.size))
    generalize w6.heap.size = b14 at hb14 ⊢
    have a0 : W6.cell? ⟨b14, 0, none⟩ = some (.int .i64 g) := (blk_cell hb14 0).trans rfl
    have a1 : W6.cell? ⟨b14, 1, none⟩ = some (.int .i64 b) := (blk_cell hb14 1).trans rfl
    have a3 : W6.cell? ⟨b14, 3, none⟩ = some (.slice A2 ps.length k2) := (blk_cell hb14 3).trans rfl
    have HCW := Aside0.mk (Kd.C_below HC3.out HB66.out)
    have HBW := Aside0.mk (HB.out.trans (HB66.out.mono HB.out.size))
    clear hb14 hB6 hW6 HB5 HB6 HL5 HC3 HB66
    go_cut [16, 17, 18] from 70 (fun v16 v17 v18 wx => v16 = .int .i64 g ∧ v17 = .int .i64 b ∧ wx = W6)
    case first =>
      go_wp2_with fail
      go_loopw [16, 17, 18] (fun v16 v17 v18 wr => ∃ (k : Nat) (gk bk : Int), v18 = .int .i64 (k : Int) ∧ k ≤ m ∧ v16 = .int .i64 gk ∧ v17 = .int .i64 bk ∧ wr = W6 ∧ (g < (k : Int) → gk = g) ∧ ((m : Int) - 1 - (k : Int) < b → bk = b)) (fun v16 v17 v18 _ => m - (intOf v18).toNat)
      case atStart => exact ⟨0, 0, (m : Int) - 1, rfl, Nat.zero_le _, rfl, rfl, rfl, fun h => by omega, fun h => by omega⟩
      case round =>
        obtain ⟨k, gk, bk, rfl, hk, rfl, rfl, rfl, hgk, hbk⟩ := hrel
        by_cases hlt : k < m
        · have dk : decide (k < m) = true := decide_eq_true hlt
          obtain ⟨ad, rfl, hx1⟩ := Kd.at_int HCW.out (k : Int) (by omega) (by have := HX.out.1; omega)
          obtain ⟨ad', e', hx2⟩ := Kd.at_int HCW.out ((m : Int) - 1 - (k : Int)) (by omega) (by have := HX.out.1; omega)
          cases e'
          rw [Int.toNat_natCast] at hx1
          rw [show ((m : Int) - 1 - (k : Int)).toNat = m - 1 - k by omega] at hx2
          have hgu := fun h => HGU.out k h hlt
          have hbd := fun h => HBD.out (m - 1 - k) h
          have hgg : (k : Int) = g → rd xs (k : Int) = 0 := fun h => by rw [h]; exact HG.out
          have hbb : (m : Int) - 1 - (k : Int) = b → rd xs ((m : Int) - 1 - (k : Int)) = 1 := fun h => by rw [h]; exact HBB.out
          rw [show ((m - 1 - k : Nat) : Int) = (m : Int) - 1 - (k : Int) by omega] at hbd
          generalize rd xs (k : Int) = x1 at hx1 hgu hgg
          generalize rd xs ((m : Int) - 1 - (k : Int)) = x2 at hx2 hbd hbb
          have hgk' : x1 = 0 → (g < ((k + 1 : Nat) : Int) → (k : Int) = g) := fun h1 h2 => Classical.byContradiction fun hc => hgu (by omega) h1
          have hgk'' : ¬ x1 = 0 → (g < ((k + 1 : Nat) : Int) → gk = g) := fun h1 h2 => hgk (by have : ¬ (k : Int) = g := fun h => h1 (hgg h); omega)
          have hbk' : x2 = 1 → ((m : Int) - 1 - ((k + 1 : Nat) : Int) < b → (m : Int) - 1 - (k : Int) = b) := fun h1 h2 => Classical.byContradiction fun hc => hbd (by omega) h1
          have hbk'' : ¬ x2 = 1 → ((m : Int) - 1 - ((k + 1 : Nat) : Int) < b → bk = b) := fun h1 h2 => hbk (by have : ¬ (m : Int) - 1 - (k : Int) = b := fun h => h1 (hbb h); omega)
          have K1 := Aside0.mk hgk'
          have K2 := Aside0.mk hgk''
          have K3 := Aside0.mk hbk'
          have K4 := Aside0.mk hbk''
          clear hgu hbd hgg hbb hgk' hgk'' hbk' hbk'' hgk hbk
          by_cases c1 : x1 = 0
          all_goals by_cases c2 : x2 = 1
          all_goals first | subst c1 | have d1 : (x1 == 0) = false := beq_eq_false_iff_ne.mpr c1
          all_goals first | subst c2 | have d2 : (x2 == 1) = false := beq_eq_false_iff_ne.mpr c2
          all_goals
            go_wp2
            refine ⟨⟨k + 1, _, _, by simp, by omega, rfl, rfl, by first | rfl | trivial, by first | exact K1.out rfl | exact K2.out c1, by first | exact K3.out rfl | exact K4.out c2⟩, by simp [intOf]; omega⟩
        · have dk : decide (k < m) = false := decide_eq_false hlt
          obtain rfl : k = m := by omega
          obtain rfl : gk = g := hgk (by omega)
          obtain rfl : bk = b := hbk (by omega)
          go_wp2
          go_meet
          exact ⟨rfl, rfl, rfl⟩
    case rest =>
      obtain ⟨rfl, rfl, rfl⟩ := hcut
      have HHV := Aside0.mk (halves_mono 64 (m - 1) (m - 1) (Nat.le_refl _))
      obtain ⟨H, hH⟩ : ∃ H, halves 64 (m - 1) = H := ⟨_, rfl⟩
      have hH64 : H ≤ 64 := by rw [← hH]; exact halves_le _ _
      rw [hH] at HLEN
      have HH := Aside0.mk hH
      clear hH HHV
      have a0' := a0
      go_upto_block 4 with fail
      go_cut [19, 20] from 95 (fun v19 v20 wx => v19 = .int .i64 (H : Int) ∧ wx = wc)
      case first =>
        go_wp2_with fail
        go_loopw [19, 20] (fun v19 v20 wr => ∃ (h k f : Nat), v19 = .int .i64 (h : Int) ∧ v20 = .int .i64 (k : Int) ∧ 1 ≤ k ∧ k ≤ 63 ∧ k ≤ f ∧ h + halves f k = H ∧ wr = wc) (fun v19 v20 _ => (intOf v20).toNat)
        case atStart => exact ⟨0, m - 1, 64, rfl, by simp; omega, by omega, by omega, by omega, by rw [HH.out]; omega, rfl⟩
        case round =>
          obtain ⟨h, k, f, rfl, rfl, hk1, hk63, hkf, hh, rfl⟩ := hrel
          by_cases hlt : 1 < k
          · have dk : decide (1 < k) = true := decide_eq_true hlt
            obtain ⟨f, rfl⟩ : ∃ f', f = f' + 1 := ⟨f - 1, by omega⟩
            rw [halves, if_pos hlt] at hh
            have HHH := Aside0.mk hh
            have hh64 : h ≤ 64 := by omega
            clear hh
            go_wp2
            exact ⟨⟨h + 1, (k + 1) / 2, f, by simp, by simp, by omega, by omega, by omega, by have := HHH.out; omega, by first | rfl | trivial⟩, by simp [intOf]; omega⟩
          · have dk : decide (1 < k) = false := decide_eq_false hlt
            have hh0 : h = H := by
              cases f with
              | zero => omega
              | succ f => rw [halves, if_neg hlt] at hh; omega
            subst hh0
            clear hh
            go_wp2
            go_meet
            exact ⟨rfl, rfl⟩
      case rest =>
        obtain ⟨rfl, rfl⟩ := hcut
        have HLV := fun W => refuterlaw35_lives.calls true W rfl
        have hpl := HPL.out
        cases whole
        · clear HLEN
          go_wp2_with (first
            | (go_at_call 14; refine (HLV _).mono ?_; rintro e w12 ⟨rfl, hB⟩; have HB12 := Aside0.mk (HBW.out.trans (hB.mono HBW.out.size)); clear hB))
          go_ret
          exact ⟨rfl, HB12.out⟩
        · have hl := HLEN.out rfl
          have dl : decide ((ps.length : Int) ≤ 2 + (H : Int)) = true := decide_eq_true (by omega)
          clear HLEN
          go_wp2_with (first
            | (go_at_call 14; refine (HLV _).mono ?_; rintro e w12 ⟨rfl, hB⟩; have HB12 := Aside0.mk (HBW.out.trans (hB.mono HBW.out.size)); clear hB))
          go_ret
          exact ⟨rfl, HB12.out⟩
theorem refuterlaw35_BisectFirst.walk (P : refuterlaw35_BisectFirst.Pure) (a0 : Int) (a1 : Int) (a2 : Option Addr) (len2 cap2 : Nat) (z2 : List Int) (a3 : Bool) (w : World) (w0 : (Lit.int .i64 a0).wf = true) (w1 : (Lit.int .i64 a1).wf = true) (w2 : (a2 = none ∧ len2 = 0 ∧ cap2 = 0 ∧ z2 = []) ∨ ∃ x, a2 = some x ∧ len2 ≤ cap2 ∧ cap2 ≤ maxLen ∧ z2.length = cap2 ∧ (∀ i, i < z2.length → w.cell? (x.add i) = some (.int .i64 (z2.getD i 0))) ∧ ∀ n ∈ z2, (Lit.int .i64 n).wf = true) (_y2 : len2 * 8 ≤ 140737488351232) :
    Calls Try.prog 4 #[.int .i64 a0, .int .i64 a1, .slice a2 len2 cap2, .bool a3] w fun e w' => e = .returned (.bool true) ∧ Below w.heap.size w w' := by
  obtain ⟨l, rfl, hr0, hm0, hw0, hc0⟩ := ReadsInt.ofRowC w2
  have h1 := bounds_i64 w0
  have h2 := bounds_i64 w1
  exact BisectFirst_any a0 a1 a2 cap2 l a3 w (Kd.C_of_reads (d := (0 : Int)) (h1 := fun _ => rfl) hr0) hc0 (fun x hx => by have := bounds_i64 (hw0 x hx); omega) (by omega) (by omega)

-- NOT PRINTED: function 15 (bisect_Check)

-- NOT PRINTED: function 16 (refuterref35_Check)

end Go.Proofs.Ytljjkdlnkklibaa.PA
