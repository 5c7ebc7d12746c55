/- Small lemmas that the texts of this session's printing use. -/
import Derived.Test.YtljjkdlnkklibaaWWords
namespace Go.Proofs.Ytljjkdlnkklibaa.Pw
open Go Go.RowKit Go.Proofs.YtljjkdlnkklibaaW.PrintWords
theorem reads_row_len {α : Type} {R : α → List Value → Prop} {size : Nat} {w : World} {A : Option Addr} {m m' : Nat} {xs : List α} (h : m = m') (k : ReadsRow R size w A m xs) : ReadsRow R size w A m' xs := h ▸ k
end Go.Proofs.Ytljjkdlnkklibaa.Pw
