/- The Reader's and the Writer's contracts, told for use. -/
import Derived.Test.YtleomgkogbenaaaWireRd3
namespace Go.Proofs.Ytleomgkogbenaaa.WireRd
open Go.RowKit Go.Proofs.YtleomgkogbenaaaW.PrintWords Go.Proofs.YtleomgkogbenaaaW.PrintLast Go.Proofs.YtleomgkogbenaaaW.PrintMore Go.Proofs.Ytleomgkogbenaaa.WirePlain Go.Proofs.Ytleomgkogbenaaa.WireWr
set_option linter.unusedVariables false

theorem Uint_r' {w0 : Rb} {g : Nat} {st st' : St} {n : Nat} (h : uintS st = (n, st')) (w : World) (hI : RdW 79 w0 w g st) :
    Calls Try.prog 41 #[.pointer (some ⟨g, 0, none⟩)] w fun e w' => e = .returned (.int .u64 (n : Int)) ∧ RdW 79 w0 w' g st' ∧ Keeps w w' g := by
  have := Uint_r w0 g st w hI; rw [h] at this; exact this
theorem Int_r' {w0 : Rb} {g : Nat} {st st' : St} {n : Int} (h : intS st = (n, st')) (w : World) (hI : RdW 79 w0 w g st) :
    Calls Try.prog 42 #[.pointer (some ⟨g, 0, none⟩)] w fun e w' => e = .returned (.int .i64 n) ∧ RdW 79 w0 w' g st' ∧ Keeps w w' g := by
  have := Int_r w0 g st w hI; rw [h] at this; exact this
theorem Bool_r' {w0 : Rb} {g : Nat} {st st' : St} {n : Bool} (h : boolS st = (n, st')) (w : World) (hI : RdW 79 w0 w g st) :
    Calls Try.prog 49 #[.pointer (some ⟨g, 0, none⟩)] w fun e w' => e = .returned (.bool n) ∧ RdW 79 w0 w' g st' ∧ Keeps w w' g := by
  have := Bool_r w0 g st w hI; rw [h] at this; exact this
theorem Raw_r' {w0 : Rb} {g : Nat} {st st' : St} {l : List Int} (h : rawS st = (l, st')) (w : World) (hI : RdW 79 w0 w g st) :
    Calls Try.prog 31 #[.pointer (some ⟨g, 0, none⟩)] w fun e w' => ∃ v, e = .returned v ∧ Kd.R (Kd.int .u8) 5 w' w.heap.size (fun _ => True) v l ∧ RdW 79 w0 w' g st' ∧ Keeps w w' g := by
  have := Raw_r w0 g st w hI; rw [h] at this; exact this
theorem Ints_r' {w0 : Rb} {g : Nat} {st st' : St} {l : List Int} (h : intsS st = (l, st')) (w : World) (hI : RdW 79 w0 w g st) :
    Calls Try.prog 33 #[.pointer (some ⟨g, 0, none⟩)] w fun e w' => ∃ v, e = .returned v ∧ Kd.R (Kd.int .i64) 3 w' w.heap.size (fun _ => True) v l ∧ RdW 79 w0 w' g st' ∧ Keeps w w' g := by
  have := Ints_r w0 g st w hI; rw [h] at this; exact this
theorem Text_r' {w0 : Rb} {g : Nat} {st st' : St} {l : List Int} (h : rawS st = (l, st')) (w : World) (hI : RdW 79 w0 w g st) :
    Calls Try.prog 43 #[.pointer (some ⟨g, 0, none⟩)] w fun e w' => e = .returned (.string (strOfNums l)) ∧ RdW 79 w0 w' g st' ∧ Keeps w w' g := by
  have := Text_r w0 g st w hI; rw [h] at this; exact this
theorem End_r' {w0 : Rb} {g : Nat} {st : St} {n : Int} (h : endS st = n) (w : World) (hI : RdW 79 w0 w g st) :
    Calls Try.prog 25 #[.pointer (some ⟨g, 0, none⟩)] w fun e w' => e = .returned (.int .i64 n) ∧ Drawn0 w w' := by
  have := End_r w0 g st w hI; rw [h] at this; exact this

theorem WrW.new (w : World) : WrW w.heap.size (w.alloc (.cells #[.slice none 0 0] 26)) w.heap.size [] :=
  ⟨_, by simpa using heap_alloc_new w (.cells #[.slice none 0 0] 26), Nat.le_refl _, Kd.R_nil _ _ _ _ _⟩
theorem WrW.drewN {base g : Nat} {W : World} {bs : List Int} (h : WrW base W g bs) (n : Nat) : WrW base (W.drewN n) g bs := h.kept (pw_below_drewN (Below.refl _ _) n)
/-- A literal of bytes, behind its making. -/
theorem lit_R (W : World) (xs : List Int) (B : Nat) (hB : B ≤ W.heap.size) (hl : xs.length ≤ 1000) : Kd.R (Kd.int .u8) 5 (W.alloc (.cells (nums .u8 xs).toArray 5)) B (fun _ => True) (.slice (some ⟨W.heap.size, 0, none⟩) xs.length xs.length) xs := by
  have hs : (nums .u8 xs).toArray.size = xs.length := by simp [nums]
  have h := World.ownsRow_lit (base := B) (e := 5) (size := 1) W (nums .u8 xs).toArray xs.length hB (by simp only [maxLen]; omega) (by rw [hs, Nat.mul_one])
  have h2 : (W.alloc (.cells (nums .u8 xs).toArray 5)).ownsRow B 5 1 (.slice (some ⟨W.heap.size, 0, none⟩) xs.length xs.length) xs.length (nums .u8 xs) := by simpa using h
  exact Kd.R_of_own h2 (fun _ _ => trivial)
theorem C_row {k : IntKind} {e B : Nat} {W : World} {v : Value} {xs : List Int} (h : Kd.R (Kd.int k) e W B (fun _ => True) v xs) : ∃ A c, v = .slice A xs.length c ∧ xs.length ≤ c ∧ (A = none → c = 0 ∧ xs.length = 0) ∧ Kd.C (Kd.int k) W A xs.length xs := by
  obtain ⟨A, c, rfl, hl, hC⟩ := Kd.R_reads h
  exact ⟨A, c, rfl, hl, fun ha => by subst ha; exact R_none h, hC⟩

theorem encU_300 : encU 300 = [172, 2] := by rw [encU_big (by omega), encU_small (by omega)]; rfl
theorem encI_m1 : encI (-1) = [1] := by show encU 1 = _; rw [encU_small (by omega)]; rfl
theorem encRaw_ab : encRaw [97, 98] = [2, 97, 98] := by show encU 2 ++ _ = _; rw [encU_small (by omega)]; rfl
theorem st_1 : uintS (.ok [172, 2, 1, 2, 97, 98]) = (300, .ok [1, 2, 97, 98]) := by rfl
theorem st_2 : intS (.ok [1, 2, 97, 98]) = (-1, .ok [2, 97, 98]) := by rfl
theorem st_3 : rawS (.ok [2, 97, 98]) = ([97, 98], .ok []) := by rfl
theorem st_4 : intS (.ok [128, 0]) = (0, .err 2) := by rfl
end Go.Proofs.Ytleomgkogbenaaa.WireRd
