/- For every label and every list of integers (no condition), the law HashSum of package hash returns true: Sum agrees with the reference. -/
import Derived.Test.YtjekglbodhlfcaaHashLaw
namespace Go.Proofs.Ytjekglbodhlfcaa.Pure
open Go Go.RowKit Go.Proofs.Ytjekglbodhlfcaa.PA Go.Proofs.YtjekglbodhlfcaaW.PrintWords Go.Proofs.YtjekglbodhlfcaaW.PrintLast Go.Proofs.YtjekglbodhlfcaaW.PrintMore Go.Proofs.Ytjekglbodhlfcaa.HashPlain

theorem HashSum : refuterlaw01_HashSum.Pure := by
  intro a l _ _ _ _
  unfold refuterlaw01_HashSum.f
  obtain ⟨s, hs, hs2⟩ := short_f a 40 (by omega)
  have hl : (l.take (12 : Int).toNat).length ≤ 12 := by rw [List.length_take]; exact Nat.min_le_left _ _
  rw [hs, ints_f l 12 (by omega) (by omega)]
  simp only [bsome]
  have e1 := sum_f s (l.take (12 : Int).toNat) (by omega) (by omega)
  have e2 := refsum_f s (l.take (12 : Int).toNat) (by omega) (by omega)
  have e3 := sum_f s [] (by omega) (Nat.zero_le _)
  have e4 := refsum_f s [] (by omega) (Nat.zero_le _)
  generalize hsum (bytesOf s) (l.take (12 : Int).toNat) = x at e1 e2
  generalize hsum (bytesOf s) [] = y at e3 e4
  rw [e1, e2, e3, e4, lives_f]
  simp only [bsome, if_true]
end Go.Proofs.Ytjekglbodhlfcaa.Pure
