/- For every list of integers and every byte slice (no condition), the law HashArguments of package hash returns true: hashing leaves its arguments and repeats its value. -/
import Derived.Test.YtjekglbodhlfcaaHashLaw
namespace Go.Proofs.Ytjekglbodhlfcaa.Pure
open Go Go.RowKit Go.Proofs.Ytjekglbodhlfcaa.PA Go.Proofs.YtjekglbodhlfcaaW.PrintWords Go.Proofs.YtjekglbodhlfcaaW.PrintLast Go.Proofs.YtjekglbodhlfcaaW.PrintMore Go.Proofs.Ytjekglbodhlfcaa.HashPlain

theorem HashArguments : refuterlaw01_HashArguments.Pure := by
  intro l b _ _ _ _ _ hb
  refine ⟨1002, ?_⟩
  have hl : (l.take (10 : Int).toNat).length ≤ 10 := by rw [List.length_take]; exact Nat.min_le_left _ _
  have hc : (b.take (30 : Int).toNat).length ≤ 30 := by rw [List.length_take]; exact Nat.min_le_left _ _
  have hbb := take_mem (n := (30 : Int).toNat) (bytes_wf hb)
  unfold refuterlaw01_HashArguments.f
  rw [ints_f l 10 (by omega) (by omega), few_f b 30 (by omega) (by omega)]
  simp only [bsome]
  rw [sum_f _ _ (by decide) (by omega), bytes_f _ _ (by decide) (by omega) hbb]
  simp only [bsome]
  rw [sameInts_self _ (by omega) _ (by omega)]
  simp only [bsome]
  rw [if_pos trivial, sameBytes_self _ (by omega) _ (by omega)]
  simp only [bsome]
  rw [if_pos trivial, if_pos trivial, if_pos trivial, lives_f, bsome]
end Go.Proofs.Ytjekglbodhlfcaa.Pure
