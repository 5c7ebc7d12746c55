/- What the search for the first bad version finds: its answer is right, no version is probed twice, few are probed. No program in sight. -/
import Derived.Test.YtljjkdlnkklibaaBisPlain
namespace Go.Proofs.Ytljjkdlnkklibaa.BisPure
open Go.Proofs.Ytljjkdlnkklibaa.BisPlain
set_option linter.unusedVariables false

structure Inv (V : Int → Int) (n g b : Int) (ps : List Int) : Prop where
  g0 : 0 ≤ g
  gb : g < b
  bn : b < n
  vg : V g = 0
  vb : V b = 1
  nd : ps.Nodup
  gm : g ∈ ps
  bm : b ∈ ps
  rg : ∀ p ∈ ps, 0 ≤ p ∧ p < n
  br : ∀ p ∈ ps, g < p → p < b → V p = 2

theorem nodup_snoc {ps : List Int} {i : Int} (h : ps.Nodup) (hi : i ∉ ps) : (ps ++ [i]).Nodup := by
  rw [List.nodup_append]
  exact ⟨h, by simp, fun x hx y hy e => by simp at hy; subst hy; subst e; exact hi hx⟩
theorem Inv.step {V : Int → Int} (hV : ∀ i, V i = 0 ∨ V i = 1 ∨ V i = 2) {n g b i : Int} {ps : List Int} (h : Inv V n g b ps) (h1 : g < i) (h2 : i < b) (h3 : i ∉ ps) :
    (V i = 0 → Inv V n i b (ps ++ [i])) ∧ (V i = 1 → Inv V n g i (ps ++ [i])) ∧ (V i = 2 → Inv V n g b (ps ++ [i])) := by
  have g0 := h.g0; have bn := h.bn
  have hrg : ∀ p ∈ ps ++ [i], 0 ≤ p ∧ p < n := fun p hp => by
    rcases List.mem_append.1 hp with hp | hp
    · exact h.rg p hp
    · simp at hp; omega
  have hnd := nodup_snoc h.nd h3
  have hin : ∀ p ∈ ps, p ∈ ps ++ [i] := fun p hp => List.mem_append.2 (.inl hp)
  have hi : i ∈ ps ++ [i] := by simp
  refine ⟨fun hv => ⟨by omega, by omega, by omega, hv, h.vb, hnd, hi, hin _ h.bm, hrg, fun p hp a c => ?_⟩, fun hv => ⟨by omega, by omega, by omega, h.vg, hv, hnd, hin _ h.gm, hi, hrg, fun p hp a c => ?_⟩,
    fun hv => ⟨by omega, by omega, by omega, h.vg, h.vb, hnd, hin _ h.gm, hin _ h.bm, hrg, fun p hp a c => ?_⟩⟩
  · rcases List.mem_append.1 hp with hp | hp
    · exact h.br p hp (by omega) c
    · simp at hp; omega
  · rcases List.mem_append.1 hp with hp | hp
    · exact h.br p hp a (by omega)
    · simp at hp; omega
  · rcases List.mem_append.1 hp with hp | hp
    · exact h.br p hp a c
    · simp at hp; subst hp; exact hv
theorem searchP_inv {V : Int → Int} (hV : ∀ i, V i = 0 ∨ V i = 1 ∨ V i = 2) {n : Int} (hn : n ≤ 64) : ∀ (k : Nat) (g b : Int) (ps : List Int), Inv V n g b ps → left ps g b ≤ k → ∀ g' b' ps', searchP V k g b ps = (g', b', ps') → Inv V n g' b' ps' ∧ nextP ps' g' b' = none
  | 0, g, b, ps, h, hl, g', b', ps', he => by
    simp only [searchP, Prod.mk.injEq] at he
    obtain ⟨rfl, rfl, rfl⟩ := he
    refine ⟨h, ?_⟩
    cases ho : nextP ps g b with
    | none => rfl
    | some i =>
      have hzb := nextP_some ho
      have := left_lt h.g0 (by have := h.bn; omega) hzb (Int.le_refl g) (Int.le_refl b)
      omega
  | k + 1, g, b, ps, h, hl, g', b', ps', he => by
    unfold searchP at he
    cases ho : nextP ps g b with
    | none =>
      rw [ho] at he
      simp only [Prod.mk.injEq] at he
      obtain ⟨rfl, rfl, rfl⟩ := he
      exact ⟨h, ho⟩
    | some i =>
      rw [ho] at he
      have hzb := nextP_some ho
      obtain ⟨s0, s1, s2⟩ := h.step hV hzb.1 hzb.2.1 hzb.2.2
      have hb : b ≤ 64 := by have := h.bn; omega
      dsimp only at he
      by_cases c0 : V i = 0
      · rw [if_pos c0] at he
        exact searchP_inv hV hn k _ _ _ (s0 c0) (by have := left_lt (g' := i) (b' := b) h.g0 hb hzb (by omega) (by omega); omega) _ _ _ he
      · rw [if_neg c0] at he
        by_cases c1 : V i = 1
        · rw [if_pos c1] at he
          exact searchP_inv hV hn k _ _ _ (s1 c1) (by have := left_lt (g' := g) (b' := i) h.g0 hb hzb (by omega) (by omega); omega) _ _ _ he
        · rw [if_neg c1] at he
          exact searchP_inv hV hn k _ _ _ (s2 (by rcases hV i with h | h | h <;> simp_all)) (by have := left_lt (g' := g) (b' := b) h.g0 hb hzb (by omega) (by omega); omega) _ _ _ he

/-- The first versions: what was probed. -/
structure Scan (V : Int → Int) (n g : Int) (ps : List Int) : Prop where
  g0 : 0 ≤ g
  nd : ps.Nodup
  lm : n - 1 ∈ ps
  rg : ∀ p ∈ ps, p = n - 1 ∨ (0 ≤ p ∧ p < g)
theorem scanP_inv {V : Int → Int} {n : Int} : ∀ (k : Nat) (g : Int) (ps : List Int), Scan V n g ps → g + k = n - 1 → ∀ g' ps' v, scanP V k g ps = (g', ps', v) → v ≠ 2 → V g' = v ∧ Scan V n (g' + 1) ps' ∧ g' ∈ ps' ∧ 0 ≤ g' ∧ g' < n - 1
  | 0, g, ps, h, hk, g', ps', v, he, hv => by
    simp only [scanP, Prod.mk.injEq] at he
    exact absurd he.2.2.symm hv
  | k + 1, g, ps, h, hk, g', ps', v, he, hv => by
    unfold scanP at he
    have hgn : g ∉ ps := fun hm => by rcases h.rg g hm with h1 | h1 <;> omega
    have hs : Scan V n (g + 1) (ps ++ [g]) := ⟨by have := h.g0; omega, nodup_snoc h.nd hgn, List.mem_append.2 (.inl h.lm), fun p hp => by
      rcases List.mem_append.1 hp with hp | hp
      · rcases h.rg p hp with h1 | h1
        · exact .inl h1
        · exact .inr (by omega)
      · simp at hp; have := h.g0; exact .inr (by omega)⟩
    by_cases c : V g = 2
    · rw [if_pos c] at he
      exact scanP_inv k _ _ hs (by omega) _ _ _ he hv
    · rw [if_neg c] at he
      simp only [Prod.mk.injEq] at he
      obtain ⟨rfl, rfl, rfl⟩ := he
      exact ⟨rfl, hs, by simp, h.g0, by omega⟩
theorem scan_start (V : Int → Int) (n : Int) (hn : 2 ≤ n) : Scan V n 0 [n - 1] := ⟨by omega, by simp, by simp, fun p hp => by simp at hp; exact .inl hp⟩

theorem findP_inv {V : Int → Int} (hV : ∀ i, V i = 0 ∨ V i = 1 ∨ V i = 2) {n : Int} (h2 : 2 ≤ n) (h64 : n ≤ 64) {g b : Int} {ps : List Int} (h : findP V n = some (g, b, ps)) : Inv V n g b ps ∧ nextP ps g b = none := by
  unfold findP at h
  by_cases c1 : V (n - 1) = 1
  · rw [if_pos c1] at h
    obtain ⟨g', ps', v, hs⟩ : ∃ g' ps' v, scanP V (n - 1).toNat 0 [n - 1] = (g', ps', v) := ⟨_, _, _, rfl⟩
    rw [hs] at h
    by_cases c2 : v = 0
    · rw [if_pos c2] at h
      dsimp only at h
      have h := Option.some.inj h
      obtain ⟨i1, i2, i3, i4, i5⟩ := scanP_inv (n - 1).toNat 0 _ (scan_start V n h2) (by omega) _ _ _ hs (by omega)
      refine searchP_inv hV h64 64 _ _ _ ⟨i4, i5, by omega, by rw [i1, c2], c1, i2.nd, i3, i2.lm, fun p hp => ?_, fun p hp a c => ?_⟩ (left_le _ _ _) _ _ _ h
      · rcases i2.rg p hp with h1 | h1 <;> omega
      · rcases i2.rg p hp with h1 | h1 <;> omega
    · rw [if_neg c2] at h; cases h
  · rw [if_neg c1] at h; cases h

theorem betw_all {V : Int → Int} {n g b : Int} {ps : List Int} (h : Inv V n g b ps) (hn : nextP ps g b = none) (i : Int) (h1 : g < i) (h2 : i < b) : i ∈ ps ∧ V i = 2 := by
  have hm := nextP_none h.g0 (Int.le_of_lt h.gb) hn i h1 h2
  exact ⟨hm, h.br i hm h1 h2⟩
theorem mem_betw {g b i : Int} : i ∈ betw g b ↔ g < i ∧ i < b := by
  unfold betw
  simp only [List.mem_map, List.mem_range]
  constructor
  · rintro ⟨k, hk, rfl⟩; omega
  · rintro ⟨h1, h2⟩; exact ⟨(i - g - 1).toNat, by omega, by omega⟩
theorem chk_range {V : Int → Int} {g : Int} : ∀ (m s : Nat), (∀ i : Nat, s ≤ i → i < s + m → V (g + 1 + (i : Int)) = 2) → chkP V g (s : Int) ((List.range' s m).map fun k : Nat => g + 1 + (k : Int)) = true
  | 0, s, _ => rfl
  | m + 1, s, h => by
    rw [List.range'_succ, List.map_cons, chkP, if_pos rfl, if_pos (h s (Nat.le_refl _) (by omega))]
    exact chk_range m (s + 1) (fun i h1 h2 => h i (by omega) (by omega))
theorem check_find {V : Int → Int} {n g b : Int} {ps : List Int} (h2 : 2 ≤ n) (h64 : n ≤ 64) (h : Inv V n g b ps) (hn : nextP ps g b = none) : checkP V n g b (betw g b) = 0 := by
  have h0 := h.g0; have h1 := h.gb; have h3 := h.bn
  unfold checkP
  rw [if_neg (by omega), if_neg (by have : ((betw g b).length : Int) = b - g - 1 := by simp [betw]; omega
                                    omega), if_pos h.vg, if_pos h.vb, if_pos]
  unfold betw
  rw [List.range_eq_range']
  exact chk_range _ 0 (fun i _ hi => (betw_all h hn _ (by omega) (by omega)).2)
theorem whole_next {V : Int → Int} {n g b : Int} {ps : List Int} (h : Inv V n g b ps) (hn : nextP ps g b = none) (hw : ∀ i, 0 ≤ i → i < n → V i ≠ 2) : b = g + 1 := by
  have h0 := h.g0; have h1 := h.gb; have h3 := h.bn
  refine Classical.byContradiction fun hc => ?_
  exact hw (g + 1) (by omega) (by omega) (betw_all h hn (g + 1) (by omega) (by omega)).2

/-- How often k can be halved, rounded up. -/
def halves : Nat → Nat → Nat
  | 0, _ => 0
  | f + 1, k => if 1 < k then 1 + halves f ((k + 1) / 2) else 0
theorem halves_mono : ∀ (f a b : Nat), a ≤ b → halves f a ≤ halves f b
  | 0, _, _, _ => Nat.le_refl _
  | f + 1, a, b, h => by
    unfold halves
    by_cases ca : 1 < a
    · rw [if_pos ca, if_pos (by omega)]
      have := halves_mono f ((a + 1) / 2) ((b + 1) / 2) (by omega)
      omega
    · rw [if_neg ca]; omega
theorem next_mid {ps : List Int} {g b : Int} (hg : 0 ≤ g) (h : g + 1 < b) (hp : ∀ p ∈ ps, ¬ (g < p ∧ p < b)) : nextP ps g b = some ((g + b) / 2) := by
  unfold nextP
  obtain ⟨k, hk⟩ : ∃ k, (b - g).toNat = k + 1 := ⟨(b - g).toNat - 1, by omega⟩
  rw [hk, nextFrom, Int.tdiv_eq_ediv_of_nonneg (by omega), if_pos, Int.add_zero]
  rw [cand_true, Int.add_zero]
  exact ⟨by omega, by omega, fun hm => hp _ hm ⟨by omega, by omega⟩⟩
theorem search_len {V : Int → Int} {n : Int} (hw : ∀ i, 0 ≤ i → i < n → V i = 0 ∨ V i = 1) : ∀ (k f : Nat) (g b : Int) (ps : List Int), 0 ≤ g → g < b → b < n → (∀ p ∈ ps, ¬ (g < p ∧ p < b)) → (b - g).toNat ≤ f → ∀ g' b' ps', searchP V k g b ps = (g', b', ps') → ps'.length ≤ ps.length + halves f (b - g).toNat
  | 0, f, g, b, ps, h0, h1, h2, h3, hf, g', b', ps', he => by
    simp only [searchP, Prod.mk.injEq] at he
    obtain ⟨-, -, rfl⟩ := he
    omega
  | k + 1, f, g, b, ps, h0, h1, h2, h3, hf, g', b', ps', he => by
    unfold searchP at he
    by_cases hc : g + 1 < b
    · rw [next_mid h0 hc h3] at he
      dsimp only at he
      obtain ⟨f, rfl⟩ : ∃ f', f = f' + 1 := ⟨f - 1, by omega⟩
      have hm1 : g < (g + b) / 2 := by omega
      have hm2 : (g + b) / 2 < b := by omega
      have hm3 : ((g + b) / 2 - g).toNat ≤ ((b - g).toNat + 1) / 2 := by omega
      have hm4 : (b - (g + b) / 2).toNat ≤ ((b - g).toNat + 1) / 2 := by omega
      generalize (g + b) / 2 = i at he hm1 hm2 hm3 hm4
      have hh : halves (f + 1) (b - g).toNat = 1 + halves f (((b - g).toNat + 1) / 2) := by rw [halves, if_pos (by omega)]
      rcases hw i (by omega) (by omega) with hv | hv
      · rw [if_pos hv] at he
        have := search_len hw k f i b (ps ++ [i]) (by omega) hm2 h2 (fun p hp => by
          rcases List.mem_append.1 hp with hp | hp
          · have := h3 p hp; omega
          · simp at hp; omega) (by omega) _ _ _ he
        have h5 := halves_mono f _ _ hm4
        rw [List.length_append, List.length_singleton] at this
        omega
      · rw [if_neg (by omega), if_pos hv] at he
        have := search_len hw k f g i (ps ++ [i]) h0 hm1 (by omega) (fun p hp => by
          rcases List.mem_append.1 hp with hp | hp
          · have := h3 p hp; omega
          · simp at hp; omega) (by omega) _ _ _ he
        have h5 := halves_mono f _ _ hm3
        rw [List.length_append, List.length_singleton] at this
        omega
    · have hb : b = g + 1 := by omega
      have hn : nextP ps g b = none := by
        cases ho : nextP ps g b with
        | none => rfl
        | some i => have := nextP_some ho; omega
      rw [hn] at he
      simp only [Prod.mk.injEq] at he
      obtain ⟨-, -, rfl⟩ := he
      omega
theorem find_len {V : Int → Int} {n : Int} (h2 : 2 ≤ n) (hw : ∀ i, 0 ≤ i → i < n → V i = 0 ∨ V i = 1) (hg : V 0 = 0) {g b : Int} {ps : List Int} (h : findP V n = some (g, b, ps)) (f : Nat) (hf : (n - 1).toNat ≤ f) : ps.length ≤ 2 + halves f (n - 1).toNat := by
  unfold findP at h
  by_cases c1 : V (n - 1) = 1
  · rw [if_pos c1] at h
    obtain ⟨k, hk⟩ : ∃ k, (n - 1).toNat = k + 1 := ⟨(n - 1).toNat - 1, by omega⟩
    have hs : scanP V (n - 1).toNat 0 [n - 1] = (0, [n - 1] ++ [0], 0) := by rw [hk, scanP, if_neg (by omega), hg]
    rw [hs, if_pos rfl] at h
    have h := Option.some.inj h
    have := search_len hw 64 f 0 (n - 1) _ (Int.le_refl 0) (by omega) (by omega) (fun p hp => by simp at hp; omega) (by omega) _ _ _ h
    rw [Int.sub_zero] at this
    simpa using this
  · rw [if_neg c1] at h; cases h
/-- A search that begins well finds. -/
theorem find_some {V : Int → Int} {n : Int} (h2 : 2 ≤ n) (hl : V (n - 1) = 1) (hg : V 0 = 0) : ∃ g b ps, findP V n = some (g, b, ps) := by
  unfold findP
  obtain ⟨k, hk⟩ : ∃ k, (n - 1).toNat = k + 1 := ⟨(n - 1).toNat - 1, by omega⟩
  have hs : scanP V (n - 1).toNat 0 [n - 1] = (0, [n - 1] ++ [0], 0) := by rw [hk, scanP, if_neg (by omega), hg]
  rw [if_pos hl, hs, if_pos rfl]
  exact ⟨_, _, _, rfl⟩
end Go.Proofs.Ytljjkdlnkklibaa.BisPure
