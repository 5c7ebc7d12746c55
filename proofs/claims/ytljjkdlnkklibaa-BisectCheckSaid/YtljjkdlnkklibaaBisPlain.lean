/- The search for the first bad version, in plain words. No program in sight. -/
import Derived.RowKit
namespace Go.Proofs.Ytljjkdlnkklibaa.BisPlain

/-- What a probe over a list answers, and the verdict made of it. -/
def raw (vs : List Int) (i : Int) : Int := if 0 ≤ i ∧ i < (vs.length : Int) then vs.getD i.toNat 0 else 2
def three (v : Int) : Int := if v = 0 then 0 else if v = 1 then 1 else 2
def vd (vs : List Int) (i : Int) : Int := three (raw vs i)
theorem three_cases (v : Int) : three v = 0 ∨ three v = 1 ∨ three v = 2 := by unfold three; split <;> (try split) <;> simp
theorem vd_cases (vs : List Int) (i : Int) : vd vs i = 0 ∨ vd vs i = 1 ∨ vd vs i = 2 := three_cases _

/-- A version between two that isn't known. -/
def cand (ps : List Int) (g b i : Int) : Bool := decide (g < i) && decide (i < b) && !ps.contains i
theorem cand_true {ps : List Int} {g b i : Int} : cand ps g b i = true ↔ g < i ∧ i < b ∧ i ∉ ps := by
  unfold cand; simp only [Bool.and_eq_true, decide_eq_true_eq, Bool.not_eq_true', and_assoc, List.contains_eq_mem, decide_eq_false_iff_not]
theorem cand_false {ps : List Int} {g b i : Int} : cand ps g b i = false ↔ ¬ (g < i ∧ i < b ∧ i ∉ ps) := by
  rw [← cand_true]; simp
def nextFrom (ps : List Int) (g b m : Int) : Nat → Int → Option Int
  | 0, _ => none
  | k + 1, d => if cand ps g b (m + d) = true then some (m + d) else if cand ps g b (m - d) = true then some (m - d) else nextFrom ps g b m k (d + 1)
def nextP (ps : List Int) (g b : Int) : Option Int := nextFrom ps g b (Int.tdiv (g + b) 2) (b - g).toNat 0

theorem nextFrom_some {ps : List Int} {g b m : Int} : ∀ (k : Nat) (d i : Int), nextFrom ps g b m k d = some i → cand ps g b i = true
  | 0, _, _, h => by simp [nextFrom] at h
  | k + 1, d, i, h => by
    unfold nextFrom at h
    split at h
    · cases h; assumption
    · split at h
      · cases h; assumption
      · exact nextFrom_some k _ _ h
theorem nextP_some {ps : List Int} {g b i : Int} (h : nextP ps g b = some i) : g < i ∧ i < b ∧ i ∉ ps := cand_true.1 (nextFrom_some _ _ _ h)
theorem nextFrom_none {ps : List Int} {g b m : Int} : ∀ (k : Nat) (d : Int), nextFrom ps g b m k d = none → ∀ e : Nat, e < k → cand ps g b (m + (d + e)) = false ∧ cand ps g b (m - (d + e)) = false
  | 0, _, _, e, he => by omega
  | k + 1, d, h, e, he => by
    unfold nextFrom at h
    split at h
    · cases h
    · split at h
      · cases h
      · rename_i h1 h2
        match e with
        | 0 => simp only [Bool.not_eq_true] at h1 h2; simpa using ⟨h1, h2⟩
        | e + 1 =>
          have := nextFrom_none k (d + 1) h e (by omega)
          rw [show d + ((e + 1 : Nat) : Int) = d + 1 + (e : Int) by omega]
          exact this
theorem nextP_none {ps : List Int} {g b : Int} (hg : 0 ≤ g) (hb : g ≤ b) (h : nextP ps g b = none) (i : Int) (h1 : g < i) (h2 : i < b) : i ∈ ps := by
  have hm : 0 ≤ g + b := by omega
  have h3 := nextFrom_none _ _ h ((i - Int.tdiv (g + b) 2).natAbs) (by rw [Int.tdiv_eq_ediv_of_nonneg hm]; omega)
  have : cand ps g b i = false := by
    by_cases c : Int.tdiv (g + b) 2 ≤ i
    · have := h3.1; rwa [show Int.tdiv (g + b) 2 + (0 + ((i - Int.tdiv (g + b) 2).natAbs : Int)) = i by omega] at this
    · have := h3.2; rwa [show Int.tdiv (g + b) 2 - (0 + ((i - Int.tdiv (g + b) 2).natAbs : Int)) = i by omega] at this
  rw [cand_false] at this
  exact Classical.byContradiction fun hn => this ⟨h1, h2, hn⟩

theorem countP_lt {α : Type} (p q : α → Bool) : ∀ (l : List α), (∀ x ∈ l, q x = true → p x = true) → (x : α) → x ∈ l → p x = true → q x = false → l.countP q < l.countP p
  | [], _, _, hx, _, _ => by simp at hx
  | y :: l, h, x, hx, hp, hq => by
    have hle : l.countP q ≤ l.countP p := List.countP_mono_left fun z hz => h z (List.mem_cons_of_mem _ hz)
    rw [List.countP_cons, List.countP_cons]
    rcases List.mem_cons.1 hx with rfl | hx
    · rw [hp, hq]; simp only [if_true, Bool.false_eq_true, if_false]; omega
    · have := countP_lt p q l (fun z hz => h z (List.mem_cons_of_mem _ hz)) x hx hp hq
      have : (if q y = true then 1 else 0) ≤ (if p y = true then 1 else 0) := by
        by_cases c : q y = true
        · rw [if_pos c, if_pos (h y List.mem_cons_self c)]; omega
        · rw [if_neg c]; omega
      omega
/-- How many versions are still to be probed, at most. -/
def left (ps : List Int) (g b : Int) : Nat := (List.range 64).countP fun k : Nat => cand ps g b (k : Int)
theorem left_le (ps : List Int) (g b : Int) : left ps g b ≤ 64 := by
  have := List.countP_le_length (p := fun k : Nat => cand ps g b (k : Int)) (l := List.range 64)
  rw [List.length_range] at this; exact this
theorem left_lt {ps : List Int} {g b g' b' i : Int} (hg : 0 ≤ g) (hb : b ≤ 64) (h : g < i ∧ i < b ∧ i ∉ ps) (h1 : g ≤ g') (h2 : b' ≤ b) : left (ps ++ [i]) g' b' < left ps g b := by
  refine countP_lt _ _ _ (fun x _ hx => ?_) i.toNat (List.mem_range.2 (by omega)) ?_ ?_
  · rw [cand_true] at hx ⊢
    exact ⟨by omega, by omega, fun hm => hx.2.2 (List.mem_append.2 (.inl hm))⟩
  · rw [show ((i.toNat : Nat) : Int) = i by omega, cand_true]; exact h
  · rw [show ((i.toNat : Nat) : Int) = i by omega, cand_false]; simp

def searchP (V : Int → Int) : Nat → Int → Int → List Int → Int × Int × List Int
  | 0, g, b, ps => (g, b, ps)
  | k + 1, g, b, ps =>
    match nextP ps g b with
    | none => (g, b, ps)
    | some i => if V i = 0 then searchP V k i b (ps ++ [i]) else if V i = 1 then searchP V k g i (ps ++ [i]) else searchP V k g b (ps ++ [i])
theorem searchP_none {V : Int → Int} {g b : Int} {ps : List Int} (h : nextP ps g b = none) : ∀ k, searchP V k g b ps = (g, b, ps)
  | 0 => rfl
  | k + 1 => by unfold searchP; rw [h]
/-- The first versions are probed until one is not broken: the version, the probes, its verdict. -/
def scanP (V : Int → Int) : Nat → Int → List Int → Int × List Int × Int
  | 0, g, ps => (g, ps, 2)
  | k + 1, g, ps => if V g = 2 then scanP V k (g + 1) (ps ++ [g]) else (g, ps ++ [g], V g)
def findP (V : Int → Int) (n : Int) : Option (Int × Int × List Int) :=
  if V (n - 1) = 1 then
    if (scanP V (n - 1).toNat 0 [n - 1]).2.2 = 0 then some (searchP V 64 (scanP V (n - 1).toNat 0 [n - 1]).1 (n - 1) (scanP V (n - 1).toNat 0 [n - 1]).2.1) else none
  else none
def betw (g b : Int) : List Int := (List.range (b - g - 1).toNat).map fun k : Nat => g + 1 + (k : Int)
/-- The answer: good, bad, between, probes, error. -/
structure Ans where
  good : Int
  bad : Int
  between : List Int
  probes : List Int
  err : Int
def ansO : Option (Int × Int × List Int) → Ans
  | none => ⟨0, 0, [], [], 25⟩
  | some (g, b, ps) => ⟨g, b, betw g b, ps, 0⟩
def ansP (V : Int → Int) (n : Int) : Ans := if n < 2 ∨ 64 < n then ⟨0, 0, [], [], 5⟩ else ansO (findP V n)
def chkP (V : Int → Int) (g : Int) : Int → List Int → Bool
  | _, [] => true
  | k, i :: r => if i = g + 1 + k then (if V i = 2 then chkP V g (k + 1) r else false) else false
def checkP (V : Int → Int) (n g b : Int) (l : List Int) : Int :=
  if n < 2 ∨ 64 < n then 5 else
  if g < 0 ∨ n ≤ b ∨ b ≤ g ∨ (l.length : Int) ≠ b - g - 1 then 18 else
  if V g = 0 then (if V b = 1 then (if chkP V g 0 l = true then 0 else 18) else 18) else 18
end Go.Proofs.Ytljjkdlnkklibaa.BisPlain
