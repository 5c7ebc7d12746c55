/- For all hashes (no condition), the law HashPairs of package hash returns true: Pair is injective in each argument, and the sum of the two. -/
import Derived.Test.YtjekglbodhlfcaaHashLaw
namespace Go.Proofs.Ytjekglbodhlfcaa.Pure
open Go Go.RowKit Go.Proofs.Ytjekglbodhlfcaa.PA Go.Proofs.YtjekglbodhlfcaaW.PrintWords Go.Proofs.YtjekglbodhlfcaaW.PrintLast Go.Proofs.YtjekglbodhlfcaaW.PrintMore Go.Proofs.Ytjekglbodhlfcaa.HashPlain

theorem pair_bytes : ∀ x ∈ ([112, 97, 105, 114] : List Int), Byte x := by
  intro x hx; simp at hx; rcases hx with rfl | rfl | rfl | rfl <;> (unfold Byte; omega)
theorem u64_wf {x : Int} (h : (Lit.int .u64 x).wf = true) : U64 x := by have := bounds_u64 h; unfold U64; omega
theorem pair_left (a b c : Int) (ha : U64 a) (hb : U64 b) : (hsum [112, 97, 105, 114] [wrap64 a, wrap64 c] == hsum [112, 97, 105, 114] [wrap64 b, wrap64 c]) = (a == b) := by
  by_cases h : a = b
  · subst h; simp
  · have hne : hsum [112, 97, 105, 114] [wrap64 a, wrap64 c] ≠ hsum [112, 97, 105, 114] [wrap64 b, wrap64 c] := fun e => by
      have := hsum_word [112, 97, 105, 114] pair_bytes (by decide) [] (wrap64 a) (wrap64 b) [wrap64 c] (by simp) e
      rw [wrapu_wrap64' a ha, wrapu_wrap64' b hb] at this
      exact h this
    rw [beq_eq_false_iff_ne.2 hne, beq_eq_false_iff_ne.2 h]
theorem pair_right (a b c : Int) (ha : U64 a) (hb : U64 b) : (hsum [112, 97, 105, 114] [wrap64 c, wrap64 a] == hsum [112, 97, 105, 114] [wrap64 c, wrap64 b]) = (a == b) := by
  by_cases h : a = b
  · subst h; simp
  · have hne : hsum [112, 97, 105, 114] [wrap64 c, wrap64 a] ≠ hsum [112, 97, 105, 114] [wrap64 c, wrap64 b] := fun e => by
      have := hsum_word [112, 97, 105, 114] pair_bytes (by decide) [wrap64 c] (wrap64 a) (wrap64 b) [] (by simp) e
      rw [wrapu_wrap64' a ha, wrapu_wrap64' b hb] at this
      exact h this
    rw [beq_eq_false_iff_ne.2 hne, beq_eq_false_iff_ne.2 h]
theorem pairs_end (f g : Option Int) (p q : Bool) (z : Int) (h1 : (p == q) = true) (hf : f = some z) (hg : g = some z) : (if (p == q) = true then (f.bind fun t239 => (g.bind fun t243 => (if t239 = t243 then ((refuterlaw01_lives.f).bind fun t244 => (some t244)) else (some false)))) else (some false)) = some true := by
  rw [if_pos h1, hf, bsome, hg, bsome, if_pos rfl, lives_f, bsome]
theorem HashPairs : refuterlaw01_HashPairs.Pure := by
  intro a b c ha hb _
  unfold refuterlaw01_HashPairs.f
  rw [pair_f a c, bsome, pair_f b c, bsome, pair_left a b c (u64_wf ha) (u64_wf hb), if_pos (by simp)]
  rw [pair_f c a, bsome, pair_f c b, bsome, pair_right a b c (u64_wf ha) (u64_wf hb)]
  exact pairs_end _ _ _ _ _ (by simp) (pair_f a b) (sum_f _ _ (by decide) (by simp))
end Go.Proofs.Ytjekglbodhlfcaa.Pure
