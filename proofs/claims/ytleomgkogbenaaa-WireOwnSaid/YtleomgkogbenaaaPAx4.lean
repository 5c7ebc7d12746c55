/- Written by a program of this session (pw.py, over the kit's printer): contracts, with their walks, of the Go functions that a law reaches; a text named ..Law.. proves the given statement of that law, with no condition of its own. -/
import Derived.Test.YtleomgkogbenaaaPAx0
import Derived.Test.YtleomgkogbenaaaPAx1
import Derived.Test.YtleomgkogbenaaaPAx2
import Derived.Test.YtleomgkogbenaaaPAx3
namespace Go.Proofs.Ytleomgkogbenaaa.PA
open Go.Proofs.Ytleomgkogbenaaa.HashPlain
open Go.Proofs.Ytleomgkogbenaaa.WirePlain
open Go.Proofs.Ytleomgkogbenaaa.WireWr
open Go.Proofs.Ytleomgkogbenaaa.WireRd
open Go.Proofs.Ytleomgkogbenaaa.Pw
open Go.RowKit Go.Proofs.YtleomgkogbenaaaW.PrintWords Go.Proofs.YtleomgkogbenaaaW.PrintLast Go.Proofs.YtleomgkogbenaaaW.PrintMore
attribute [local go_sem] max2_int min2_int max_two min_two max_three min_three max_four min_four   -- for this text's walks alone
set_option linter.unusedVariables false
set_option linter.unusedSimpArgs false

/-! ### refuterlaw02_read: function 23 -/
/-- A value of a kind, read in a state. -/
def readS (k : Int) (s : St) : S47 × St :=
  if k = 0 then (⟨k, (uintS s).1, 0, [], []⟩, (uintS s).2) else if k = 1 then (⟨k, 0, (intS s).1, [], []⟩, (intS s).2) else if k = 2 then (⟨k, 0, if (boolS s).1 then 1 else 0, [], []⟩, (boolS s).2) else
  if k = 3 ∨ k = 4 then (⟨k, 0, 0, (rawS s).1, []⟩, (rawS s).2) else (⟨k, 0, 0, [], (intsS s).1⟩, (intsS s).2)
theorem decU_suffix : ∀ (bs : List Int) (i n : Nat) (r : List Int), decU i bs = .val n r → ∃ p, bs = p ++ r := by
  intro bs
  induction bs with
  | nil => intro i n r h; rw [decU] at h; cases h
  | cons c bs ih =>
    intro i n r h
    rw [decU] at h
    by_cases h1 : (i = 9 ∧ 1 < c) ∨ (0 < i ∧ c = 0)
    · rw [if_pos h1] at h; cases h
    rw [if_neg h1] at h
    by_cases h2 : c < 128
    · rw [if_pos h2] at h
      injection h with hn hr
      exact ⟨[c], by rw [hr]; rfl⟩
    · rw [if_neg h2] at h
      cases hd : decU (i + 1) bs with
      | bad e => rw [hd] at h; cases h
      | val n' r' =>
        rw [hd] at h
        injection h with hn hr
        obtain ⟨p, hp⟩ := ih (i + 1) n' r' hd
        exact ⟨c :: p, by rw [hp, hr]; rfl⟩
theorem uintS_suffix (bs r : List Int) (n : Nat) (h : uintS (.ok bs) = (n, .ok r)) : ∃ p, bs = p ++ r := by
  replace h : finU 0 0 (decU 0 bs) = (n, .ok r) := h
  cases hd : decU 0 bs with
  | bad e => rw [hd] at h; simp [finU] at h
  | val n' r' =>
    rw [hd] at h
    simp only [finU, Prod.mk.injEq, St.ok.injEq] at h
    rw [← h.2]
    exact decU_suffix bs 0 n' r' hd
theorem rawS_sub (bs : List Int) : (∀ x ∈ (rawS (.ok bs)).1, x ∈ bs) ∧ (rawS (.ok bs)).1.length ≤ bs.length := by
  unfold rawS lenS
  cases hu : uintS (.ok bs) with
  | mk n s =>
    cases s with
    | err e => simp
    | ok r =>
      obtain ⟨p, rfl⟩ := uintS_suffix bs r n hu
      simp only
      by_cases c : r.length < n
      · rw [if_pos c]; simp
      · rw [if_neg c]
        exact ⟨fun x hx => List.mem_append_right _ (List.mem_of_mem_take hx), by simp only [List.length_take, List.length_append]; omega⟩
theorem readS_err (k e : Int) : readS k (.err e) = (⟨k, 0, 0, [], []⟩, .err e) := by
  unfold readS
  have hr : rawS (.err e) = ([], .err e) := rfl
  have hi : intsS (.err e) = ([], .err e) := rfl
  have hb : boolS (.err e) = (false, .err e) := rfl
  rw [uintS_of_err, intS_of_err, hr, hi, hb]
  split
  · rfl
  split
  · rfl
  split
  · rfl
  split <;> rfl
theorem readS_enc (x : S47) (h : GenV x) (r : List Int) : readS x.f0 (.ok (encV x ++ r)) = (x, .ok r) := by
  obtain ⟨k, u, n, b, l⟩ := x
  unfold GenV at h
  unfold readS encV
  simp only at h ⊢
  rcases h with ⟨rfl, h1, h2, rfl, rfl, rfl⟩ | ⟨rfl, rfl, h1, h2, rfl, rfl⟩ | ⟨rfl, rfl, h1, rfl, rfl⟩ | ⟨h0, rfl, rfl, h1, h2, rfl⟩ | ⟨rfl, rfl, rfl, rfl, h1, h2⟩
  · rw [if_pos rfl, if_pos rfl, uintS_enc _ r (by omega)]
    simp only [Int.toNat_of_nonneg h1]
  · rw [if_neg (by decide), if_pos rfl, if_neg (by decide), if_pos rfl, intS_enc _ r h1 h2]
  · simp only [show ((2 : Int) = 0) = False by simp, show ((2 : Int) = 1) = False by simp, if_false, if_true]
    rcases h1 with rfl | rfl
    · rw [show ((0 : Int) == 1) = false from rfl, boolS_enc]; rfl
    · rw [show ((1 : Int) == 1) = true from rfl, boolS_enc]; rfl
  · rw [if_neg (by omega), if_neg (by omega), if_neg (by omega), if_pos h0, if_neg (by omega), if_neg (by omega), if_neg (by omega), if_pos h0, rawS_enc _ r (by omega)]
  · rw [if_neg (by decide), if_neg (by decide), if_neg (by decide), if_neg (by decide), if_neg (by decide), if_neg (by decide), if_neg (by decide), if_neg (by decide), intsS_enc _ r (by omega) h1]
theorem readS_prefix (x : S47) (h : GenV x) (p q : List Int) (hpq : p ++ q = encV x) (hq : q ≠ []) : (readS x.f0 (.ok p)).2 = .err 3 := by
  obtain ⟨k, u, n, b, l⟩ := x
  unfold GenV at h
  unfold encV at hpq
  unfold readS
  simp only at h hpq ⊢
  rcases h with ⟨rfl, h1, h2, rfl, rfl, rfl⟩ | ⟨rfl, rfl, h1, h2, rfl, rfl⟩ | ⟨rfl, rfl, h1, rfl, rfl⟩ | ⟨h0, rfl, rfl, h1, h2, rfl⟩ | ⟨rfl, rfl, rfl, rfl, h1, h2⟩
  · rw [if_pos rfl] at hpq ⊢
    rw [uintS_prefix _ p q (by omega) hpq hq]
  · rw [if_neg (by decide), if_pos rfl] at hpq ⊢
    rw [intS_prefix _ p q h1 h2 hpq hq]
  · rw [if_neg (by decide), if_neg (by decide), if_pos rfl] at hpq ⊢
    rw [boolS_prefix _ p q hpq hq]
  · rw [if_neg (by omega), if_neg (by omega), if_neg (by omega), if_pos h0] at hpq ⊢
    rw [rawS_prefix _ p q (by omega) hpq hq]
  · rw [if_neg (by decide), if_neg (by decide), if_neg (by decide), if_neg (by decide)] at hpq ⊢
    rw [intsS_prefix _ p q (by omega) h1 hpq hq]
theorem encInts_len (l : List Int) : l.length ≤ (encInts l).length := by
  have := encList_pos l
  unfold encInts
  rw [List.length_append]
  omega
theorem readS_back (k : Int) (bs r : List Int) (x : S47) (hk : 0 ≤ k ∧ k < 6) (hx : ∀ y ∈ bs, 0 ≤ y ∧ y < 256) (hl : bs.length ≤ 5000) (h : readS k (.ok bs) = (x, .ok r)) : bs = encV x ++ r ∧ CanV x := by
  unfold readS at h
  by_cases e0 : k = 0
  · rw [if_pos e0] at h
    simp only [Prod.mk.injEq] at h
    obtain ⟨rfl, h2⟩ := h
    obtain ⟨e, hb⟩ := uintS_back bs r (uintS (.ok bs)).1 hx (by rw [← h2])
    exact ⟨by simpa [encV, e0] using e, ⟨by simp only; omega, by simp only; omega, by simp, (fun y hy => (nomatch hy)), by simp, by simp⟩⟩
  rw [if_neg e0] at h
  by_cases e1 : k = 1
  · rw [if_pos e1] at h
    simp only [Prod.mk.injEq] at h
    obtain ⟨rfl, h2⟩ := h
    obtain ⟨e, hb⟩ := intS_back bs r (intS (.ok bs)).1 hx (by rw [← h2])
    exact ⟨by simpa [encV, e1] using e, ⟨by simp only; omega, hb, by simp, (fun y hy => (nomatch hy)), by simp, by simp⟩⟩
  rw [if_neg e1] at h
  by_cases e2 : k = 2
  · rw [if_pos e2] at h
    simp only [Prod.mk.injEq] at h
    obtain ⟨rfl, h2⟩ := h
    have e := boolS_back bs r (boolS (.ok bs)).1 hx (by rw [← h2])
    refine ⟨?_, ⟨by simp only; omega, by simp only; split <;> omega, by simp, (fun y hy => (nomatch hy)), by simp, by simp⟩⟩
    generalize (boolS (.ok bs)).1 = b at e
    cases b
    · simpa [encV, e2] using e
    · simpa [encV, e2] using e
  rw [if_neg e2] at h
  by_cases e34 : k = 3 ∨ k = 4
  · rw [if_pos e34] at h
    simp only [Prod.mk.injEq] at h
    obtain ⟨rfl, h2⟩ := h
    have e := rawS_back bs r (rawS (.ok bs)).1 hx (by rw [← h2])
    have hs := rawS_sub bs
    exact ⟨by simpa [encV, e0, e1, e2, e34] using e, ⟨by simp only; omega, by simp only; omega, fun y hy => hx y (hs.1 y hy), (fun y hy => (nomatch hy)), by simp only; omega, by simp⟩⟩
  · rw [if_neg e34] at h
    simp only [Prod.mk.injEq] at h
    obtain ⟨rfl, h2⟩ := h
    obtain ⟨e, hR⟩ := intsS_back bs r (intsS (.ok bs)).1 hx (by rw [← h2])
    have hs := encInts_len (intsS (.ok bs)).1
    have hl2 : (encInts (intsS (.ok bs)).1).length ≤ bs.length := by
      have := congrArg List.length e
      rw [List.length_append] at this
      omega
    exact ⟨by simpa [encV, e0, e1, e2, e34] using e, ⟨by simp only; omega, by simp only; omega, by simp, hR, by simp, by simp only; omega⟩⟩
theorem sameI_l0 (l : List Int) (hl : l.length ≤ 1000000000000) : ∀ (d i : Nat), l.length - i ≤ d → i ≤ l.length → refuterref01_SameInts.l0 (d + 1) l l (i : Int) = some true := by
  intro d
  induction d with
  | zero => intro i h1 h2; simp only [refuterref01_SameInts.l0]; rw [if_neg (by omega)]
  | succ d ih =>
    intro i h1 h2
    by_cases hlt : i < l.length
    · have hr := ih (i + 1) (by omega) (by omega)
      generalize d + 1 = d1 at hr
      simp only [refuterref01_SameInts.l0]
      rw [if_pos (by omega), if_pos (by omega), if_pos (by omega), if_pos trivial, show wrap64 ((i : Int) + 1) = ((i + 1 : Nat) : Int) by unfold wrap64; omega]
      exact hr
    · generalize d + 1 = d1
      simp only [refuterref01_SameInts.l0]; rw [if_neg (by omega)]
theorem sameI_self (l : List Int) (hl : l.length ≤ 1000000000000) : refuterref01_SameInts.f (l.length + 1) l l = some true := by
  unfold refuterref01_SameInts.f
  rw [if_pos rfl]
  exact sameI_l0 l hl l.length 0 (by omega) (by omega)
theorem sameV_self (x : S47) (h3 : x.f3.length ≤ 1000000000000) (h4 : x.f4.length ≤ 1000000000000) : ∃ K, refuterref02_Same.f K x.f0 x.f1 x.f2 x.f3 x.f4 x.f0 x.f1 x.f2 x.f3 x.f4 = some true := by
  have hb : refuterref01_SameBytes.f (x.f3.length + 1 + x.f4.length) x.f3 x.f3 = some true := at_rounds (fun k => refuterref01_SameBytes.mono _ _ k) (by omega) (sameBytes02_self x.f3 h3)
  have hi : refuterref01_SameInts.f (x.f3.length + 1 + x.f4.length) x.f4 x.f4 = some true := at_rounds (fun k => refuterref01_SameInts.mono _ _ k) (by omega) (sameI_self x.f4 h4)
  refine ⟨x.f3.length + 1 + x.f4.length, ?_⟩
  unfold refuterref02_Same.f
  rw [hb, bsome_, hi, bsome_, if_pos rfl, if_pos rfl, if_pos rfl, if_pos rfl]
/-- Same, at two readings of one value. -/
theorem same_c (x : S47) (h3 : x.f3.length ≤ 1000000000000) (h4 : x.f4.length ≤ 1000000000000) (A3 : Option Addr) (c3 : Nat) (A4 : Option Addr) (c4 : Nat) (B3 : Option Addr) (d3 : Nat) (B4 : Option Addr) (d4 : Nat) (w : World)
    (hr3 : Kd.C (Kd.int .u8) w A3 x.f3.length x.f3) (hc3 : x.f3.length ≤ c3) (hr4 : Kd.C (Kd.int .i64) w A4 x.f4.length x.f4) (hc4 : x.f4.length ≤ c4) (hs3 : Kd.C (Kd.int .u8) w B3 x.f3.length x.f3) (hd3 : x.f3.length ≤ d3) (hs4 : Kd.C (Kd.int .i64) w B4 x.f4.length x.f4) (hd4 : x.f4.length ≤ d4) :
    Calls Try.prog 22 #[.agg #[.int .i64 x.f0, .int .u64 x.f1, .int .i64 x.f2, .slice A3 x.f3.length c3, .slice A4 x.f4.length c4], .agg #[.int .i64 x.f0, .int .u64 x.f1, .int .i64 x.f2, .slice B3 x.f3.length d3, .slice B4 x.f4.length d4]] w fun e w' => e = .returned (.bool true) ∧ Below w.heap.size w w' := by
  obtain ⟨K, hK⟩ := sameV_self x h3 h4
  exact refuterref02_Same.calls K _ _ _ A3 c3 _ A4 c4 _ _ _ _ B3 d3 _ B4 d4 _ true w hr3 hc3 hr4 hc4 hs3 hd3 hs4 hd4 hK
/-- The blocks from B on are as they were in w. -/
def NewP (B : Nat) (w W : World) : Prop := w.heap.size ≤ W.heap.size ∧ ∀ k, B ≤ k → k < w.heap.size → W.heap[k]? = w.heap[k]?
theorem C_of_block {k : IntKind} {w W : World} {ad : Addr} {n : Nat} {xs : List Int} (h : ReadsInt w k (some ad) n xs) (hb : W.heap[ad.block]? = w.heap[ad.block]?) : Kd.C (Kd.int k) W (some ad) n xs := by
  refine Kd.C_of_reads (d := (0 : Int)) (h1 := fun _ => rfl) ⟨h.1, h.2.1, fun hn => ?_⟩
  obtain ⟨ad', e, hc⟩ := h.2.2 hn
  cases e
  refine ⟨ad, rfl, fun j hj => ?_⟩
  have h1 := hc j hj
  have h2 : W.heap[(ad.add j).block]? = w.heap[(ad.add j).block]? := by rw [add_block]; exact hb
  simpa [World.cell?, h2] using h1
theorem NewP.of_below {B : Nat} {w W : World} (h : Below w.heap.size w W) : NewP B w W := ⟨h.size, fun k _ hk => h.block k hk⟩
theorem NewP.of_keeps {B g : Nat} {w W : World} (h : Keeps w W g) (hg : g < B) : NewP B w W := ⟨h.keep.1, fun k hB hk => h.keep.2 k hk (by omega) (by simp)⟩
theorem NewP.trans {B : Nat} {w w1 W : World} (h : NewP B w w1) (k : NewP B w1 W) : NewP B w W := ⟨Nat.le_trans h.1 k.1, fun i hi hl => (k.2 i hi (Nat.lt_of_lt_of_le hl h.1)).trans (h.2 i hi hl)⟩
theorem R_newP {k : IntKind} {e B : Nat} {w W : World} {v : Value} {xs : List Int} (h : Kd.R (Kd.int k) e w B (fun _ => True) v xs) (hn : NewP B w W) : Kd.R (Kd.int k) e W B (fun _ => True) v xs :=
  Kd.R_mono (Kd.R_move (Kd.R_bound h) (fun j hj => hn.2 j hj.2.1 hj.2.2.1)) (fun _ _ => trivial)
/-- What a value's slice reads as from now on. -/
theorem R_newC {k : IntKind} {e B : Nat} {w : World} {v : Value} {xs : List Int} (h : Kd.R (Kd.int k) e w B (fun _ => True) v xs) : ∃ A c, v = .slice A xs.length c ∧ xs.length ≤ c ∧ ∀ W, NewP B w W → Kd.C (Kd.int k) W A xs.length xs := by
  obtain ⟨A, c, rfl, hl, -⟩ := Kd.R_reads h
  exact ⟨A, c, rfl, hl, fun W hW => (Kd.R_reads' (R_newP h hW)).2.2⟩
theorem NewP.mono {B B' : Nat} {w W : World} (h : NewP B w W) (hb : B ≤ B') : NewP B' w W := ⟨h.1, fun k hk => h.2 k (Nat.le_trans hb hk)⟩
theorem C_nilW (k : IntKind) (W : World) : Kd.C (Kd.int k) W none 0 [] := ⟨rfl, by simp, fun h => absurd h (Nat.lt_irrefl 0)⟩
theorem Keeps.alloc {W W1 : World} {g : Nat} (h : Keeps W W1 g) (o : Obj) : Keeps W (W1.alloc o) g := h.belowB ((Below.refl W.heap.size W1).alloc h.keep.1 o)
theorem Keeps.farB {W W1 : World} {g : Nat} (h : Keeps W W1 g) {p : Addr} (hp : W.heap.size ≤ p.block) (u : Value) : Keeps W (W1.setCell p u) g := h.belowB ((Below.refl W.heap.size W1).setCell hp u)
/-- The two blocks of 'read', as the walk reads them. -/
theorem read_blocks {w w1 : World} {g : Nat} {k : Int} (hg : g < w.heap.size) (hK : Keeps ((w.alloc (.cells #[.int .i64 0, .int .u64 0, .int .i64 0, .slice none 0 0, .slice none 0 0] 47)).alloc (.cells #[.int .i64 k, .int .u64 0, .int .i64 0, .slice none 0 0, .slice none 0 0] 47)) w1 g) :
    w1.heap[w.heap.size]? = some (.cells #[.int .i64 0, .int .u64 0, .int .i64 0, .slice none 0 0, .slice none 0 0] 47 (0, 0)) ∧ w1.heap[w.heap.size + 1]? = some (.cells #[.int .i64 k, .int .u64 0, .int .i64 0, .slice none 0 0, .slice none 0 0] 47 (0, 0)) := by
  refine ⟨hK.keep.blk (blk_alloc (blk_new w _) _) (by omega) (by simp), hK.keep.blk ?_ (by omega) (by simp)⟩
  have := blk_new (w.alloc (.cells #[.int .i64 0, .int .u64 0, .int .i64 0, .slice none 0 0, .slice none 0 0] 47)) (.cells #[.int .i64 k, .int .u64 0, .int .i64 0, .slice none 0 0, .slice none 0 0] 47)
  rwa [World.size_alloc] at this
theorem RdW_raw_bytes {T g : Nat} {w0 : Rb} {W : World} {st : St} (h : RdW T w0 W g st) : ∀ x ∈ (rawS st).1, 0 ≤ x ∧ x < 256 := by
  obtain ⟨_, _, A, c, bs, e, hb, _, _, hx, _, hst⟩ := h
  cases st with
  | ok l => obtain ⟨rfl, -⟩ := hst; exact fun x hm => hx x ((rawS_sub l).1 x hm)
  | err k => intro x hm; simp [rawS, lenS, uintS] at hm
theorem RdW_raw_len {T g : Nat} {w0 : Rb} {W : World} {st : St} (h : RdW T w0 W g st) : (rawS st).1.length ≤ 17592186044416 := by
  obtain ⟨_, _, A, c, bs, e, hb, _, _, _, hl, hst⟩ := h
  cases st with
  | ok l => obtain ⟨rfl, -⟩ := hst; exact Nat.le_trans (rawS_sub l).2 hl
  | err k => simp [rawS, lenS, uintS]
theorem NewP.refl (B : Nat) (w : World) : NewP B w w := ⟨Nat.le_refl _, fun _ _ _ => rfl⟩
theorem NewP.set_ {B : Nat} {w W : World} (h : NewP B w W) {p : Addr} (hp : p.block < B) (u : Value) : NewP B w (W.setCell p u) :=
  ⟨by simpa [World.setCell] using h.1, fun k hk hl => (Below.heap_setCell W p u k (by omega)).trans (h.2 k hk hl)⟩
/-- The end of 'read': the result's block is filled. -/
theorem read_fin {T : Nat} {w0 : Rb} {g : Nat} {w w1 w2 W1 : World} {st' : St} {o1 o2 : Obj} (hg : g < w.heap.size) (hP : ∀ j, w0.P j → j < w.heap.size) (hR : RdW T w0 w1 g st') (hK : Keeps ((w.alloc o1).alloc o2) w1 g) (hB : Below w.heap.size w1 W1) (hN : NewP (w.heap.size + 2) w2 W1) (v0 v1 v2 v3 v4 : Value) :
    RdW T w0 (((((W1.setCell ⟨w.heap.size, 0, none⟩ v0).setCell ⟨w.heap.size, 1, none⟩ v1).setCell ⟨w.heap.size, 2, none⟩ v2).setCell ⟨w.heap.size, 3, none⟩ v3).setCell ⟨w.heap.size, 4, none⟩ v4) g st' ∧
    Keeps w (((((W1.setCell ⟨w.heap.size, 0, none⟩ v0).setCell ⟨w.heap.size, 1, none⟩ v1).setCell ⟨w.heap.size, 2, none⟩ v2).setCell ⟨w.heap.size, 3, none⟩ v3).setCell ⟨w.heap.size, 4, none⟩ v4) g ∧
    NewP (w.heap.size + 2) w2 (((((W1.setCell ⟨w.heap.size, 0, none⟩ v0).setCell ⟨w.heap.size, 1, none⟩ v1).setCell ⟨w.heap.size, 2, none⟩ v2).setCell ⟨w.heap.size, 3, none⟩ v3).setCell ⟨w.heap.size, 4, none⟩ v4) := by
  have h5 := ((((hB.setCell (p := ⟨w.heap.size, 0, none⟩) (Nat.le_refl _) v0).setCell (p := ⟨w.heap.size, 1, none⟩) (Nat.le_refl _) v1).setCell (p := ⟨w.heap.size, 2, none⟩) (Nat.le_refl _) v2).setCell (p := ⟨w.heap.size, 3, none⟩) (Nat.le_refl _) v3).setCell (p := ⟨w.heap.size, 4, none⟩) (Nat.le_refl _) v4
  have hlt : w.heap.size < w.heap.size + 2 := by omega
  refine ⟨hR.belowB h5 hg hP, ?_, ((((hN.set_ (p := ⟨w.heap.size, 0, none⟩) hlt v0).set_ (p := ⟨w.heap.size, 1, none⟩) hlt v1).set_ (p := ⟨w.heap.size, 2, none⟩) hlt v2).set_ (p := ⟨w.heap.size, 3, none⟩) hlt v3).set_ (p := ⟨w.heap.size, 4, none⟩) hlt v4⟩
  exact ((Keeps.of_below (below_alloc (below_alloc (Below.refl _ _) o1) o2) g).trans hK).belowB h5
theorem NewP.one {w w1 : World} (j : Nat) (u : Value) : NewP (w.heap.size + 2) w1 (w1.setCell ⟨w.heap.size + 1, j, none⟩ u) := (NewP.refl _ _).set_ (p := ⟨w.heap.size + 1, j, none⟩) (by show w.heap.size + 1 < _; omega) u
theorem Below.one {w w1 : World} (j : Nat) (u : Value) : Below w.heap.size w1 (w1.setCell ⟨w.heap.size + 1, j, none⟩ u) := (Below.refl _ _).setCell (p := ⟨w.heap.size + 1, j, none⟩) (by show _ ≤ w.heap.size + 1; omega) u
set_option maxHeartbeats 8000000 in
set_option maxRecDepth 100000 in
theorem read_r (w0 : Rb) (g : Nat) (st : St) (k : Int) (w : World) (hI : RdW 79 w0 w g st) :
    Calls Try.prog 23 #[.pointer (some ⟨g, 0, none⟩), .int .i64 k] w fun e w' => ∃ A3 c3 A4 c4, e = .returned (.agg #[.int .i64 (readS k st).1.f0, .int .u64 (readS k st).1.f1, .int .i64 (readS k st).1.f2, .slice A3 (readS k st).1.f3.length c3, .slice A4 (readS k st).1.f4.length c4]) ∧
      (readS k st).1.f3.length ≤ c3 ∧ (readS k st).1.f4.length ≤ c4 ∧ (∀ W, NewP w.heap.size w' W → Kd.C (Kd.int .u8) W A3 (readS k st).1.f3.length (readS k st).1.f3) ∧ (∀ W, NewP w.heap.size w' W → Kd.C (Kd.int .i64) W A4 (readS k st).1.f4.length (readS k st).1.f4) ∧
      RdW 79 w0 w' g (readS k st).2 ∧ Keeps w w' g := by
  have hu := Try.underlying47
  have hb2 : Below w.heap.size w ((w.alloc (.cells #[.int .i64 0, .int .u64 0, .int .i64 0, .slice none 0 0, .slice none 0 0] 47)).alloc (.cells #[.int .i64 k, .int .u64 0, .int .i64 0, .slice none 0 0, .slice none 0 0] 47)) := below_alloc (below_alloc (Below.refl _ _) _) _
  have HI := Aside0.mk (hI.below hb2)
  have HG := Aside0.mk hI.lt
  have HP : Aside0 (∀ j, w0.P j → j < w.heap.size) := ⟨fun j hj => (hI.1 j hj).2⟩
  have HB2 := Aside0.mk hb2
  have HRB := Aside0.mk (RdW_raw_bytes hI)
  have HRL := Aside0.mk (RdW_raw_len hI)
  have hsz2 : ((w.alloc (.cells #[.int .i64 0, .int .u64 0, .int .i64 0, .slice none 0 0, .slice none 0 0] 47)).alloc (.cells #[.int .i64 k, .int .u64 0, .int .i64 0, .slice none 0 0, .slice none 0 0] 47)).heap.size = w.heap.size + 2 := by rw [World.size_alloc, World.size_alloc]
  have HSZ := Aside0.mk hsz2
  clear hI hb2 hsz2
  by_cases e0 : k = 0
  · subst e0
    have hs : Aside0 (readS 0 st = (⟨0, (uintS st).1, 0, [], []⟩, (uintS st).2)) := ⟨by simp [readS]⟩
    rw [hs.out]
    go_enter Try.func23, Try.ntmps23
    go_wp2_with (first
      | (go_at_call 41; refine (Uint_r w0 g st _ HI.out).mono ?_; rintro e w1 ⟨rfl, HW, HKK⟩; have HW1 := Aside0.mk HW; have HK1 := Aside0.mk HKK; obtain ⟨hb4, hb5⟩ := read_blocks HG.out HKK; obtain ⟨⟨c40, c41, c42, c43, c44⟩, f40, f41, f42, f43, f44⟩ := five_cells hb4; obtain ⟨⟨c50, c51, c52, c53, c54⟩, f50, f51, f52, f53, f54⟩ := five_cells hb5; clear HW HKK hb4 hb5))
    obtain ⟨q1, q2, q3⟩ := read_fin HG.out HP.out HW1.out HK1.out (Below.one 1 (.int .u64 ((uintS st).1 : Int))) (NewP.one 1 (.int .u64 ((uintS st).1 : Int))) (.int .i64 0) (.int .u64 ((uintS st).1 : Int)) (.int .i64 0) (.slice none 0 0) (.slice none 0 0)
    exact bodyPost_ret (v := .agg #[.int .i64 0, .int .u64 ((uintS st).1 : Int), .int .i64 0, .slice none 0 0, .slice none 0 0]) (by simp [results, Try.results23, go_sem, c40, c41, c42, c43, c44]) rfl ⟨none, 0, none, 0, rfl, Nat.le_refl _, Nat.le_refl _, fun W _ => C_nilW .u8 W, fun W _ => C_nilW .i64 W, q1, q2⟩
  by_cases e1 : k = 1
  · subst e1
    have hs : Aside0 (readS 1 st = (⟨1, 0, (intS st).1, [], []⟩, (intS st).2)) := ⟨by simp [readS]⟩
    rw [hs.out]
    go_enter Try.func23, Try.ntmps23
    go_wp2_with (first
      | (go_at_call 42; refine (Int_r w0 g st _ HI.out).mono ?_; rintro e w1 ⟨rfl, HW, HKK⟩; have HW1 := Aside0.mk HW; have HK1 := Aside0.mk HKK; obtain ⟨hb4, hb5⟩ := read_blocks HG.out HKK; obtain ⟨⟨c40, c41, c42, c43, c44⟩, f40, f41, f42, f43, f44⟩ := five_cells hb4; obtain ⟨⟨c50, c51, c52, c53, c54⟩, f50, f51, f52, f53, f54⟩ := five_cells hb5; clear HW HKK hb4 hb5))
    obtain ⟨q1, q2, q3⟩ := read_fin HG.out HP.out HW1.out HK1.out (Below.one 2 (.int .i64 (intS st).1)) (NewP.one 2 (.int .i64 (intS st).1)) (.int .i64 1) (.int .u64 0) (.int .i64 (intS st).1) (.slice none 0 0) (.slice none 0 0)
    exact bodyPost_ret (v := .agg #[.int .i64 1, .int .u64 0, .int .i64 (intS st).1, .slice none 0 0, .slice none 0 0]) (by simp [results, Try.results23, go_sem, c40, c41, c42, c43, c44]) rfl ⟨none, 0, none, 0, rfl, Nat.le_refl _, Nat.le_refl _, fun W _ => C_nilW .u8 W, fun W _ => C_nilW .i64 W, q1, q2⟩
  by_cases e2 : k = 2
  · subst e2
    cases hbs : (boolS st).1 with
    | true =>
      have hs : Aside0 (readS 2 st = (⟨2, 0, 1, [], []⟩, (boolS st).2)) := ⟨by simp [readS, hbs]⟩
      rw [hs.out]
      have HBS : Aside0 (∀ W, RdW 79 w0 W g st → Calls Try.prog 49 #[.pointer (some ⟨g, 0, none⟩)] W fun e w' => e = .returned (.bool true) ∧ RdW 79 w0 w' g (boolS st).2 ∧ Keeps W w' g) := ⟨fun W h => by have := Bool_r w0 g st W h; rw [hbs] at this; exact this⟩
      clear hbs
      go_enter Try.func23, Try.ntmps23
      go_wp2_with (first
        | (go_at_call 49; refine (HBS.out _ HI.out).mono ?_; rintro e w1 ⟨rfl, HW, HKK⟩; have HW1 := Aside0.mk HW; have HK1 := Aside0.mk HKK; obtain ⟨hb4, hb5⟩ := read_blocks HG.out HKK; obtain ⟨⟨c40, c41, c42, c43, c44⟩, f40, f41, f42, f43, f44⟩ := five_cells hb4; obtain ⟨⟨c50, c51, c52, c53, c54⟩, f50, f51, f52, f53, f54⟩ := five_cells hb5; clear HW HKK hb4 hb5))
      obtain ⟨q1, q2, q3⟩ := read_fin HG.out HP.out HW1.out HK1.out (Below.one 2 (.int .i64 1)) (NewP.one 2 (.int .i64 1)) (.int .i64 2) (.int .u64 0) (.int .i64 1) (.slice none 0 0) (.slice none 0 0)
      exact bodyPost_ret (v := .agg #[.int .i64 2, .int .u64 0, .int .i64 1, .slice none 0 0, .slice none 0 0]) (by simp [results, Try.results23, go_sem, c40, c41, c42, c43, c44]) rfl ⟨none, 0, none, 0, rfl, Nat.le_refl _, Nat.le_refl _, fun W _ => C_nilW .u8 W, fun W _ => C_nilW .i64 W, q1, q2⟩
    | false =>
      have hs : Aside0 (readS 2 st = (⟨2, 0, 0, [], []⟩, (boolS st).2)) := ⟨by simp [readS, hbs]⟩
      rw [hs.out]
      have HBS : Aside0 (∀ W, RdW 79 w0 W g st → Calls Try.prog 49 #[.pointer (some ⟨g, 0, none⟩)] W fun e w' => e = .returned (.bool false) ∧ RdW 79 w0 w' g (boolS st).2 ∧ Keeps W w' g) := ⟨fun W h => by have := Bool_r w0 g st W h; rw [hbs] at this; exact this⟩
      clear hbs
      go_enter Try.func23, Try.ntmps23
      go_wp2_with (first
        | (go_at_call 49; refine (HBS.out _ HI.out).mono ?_; rintro e w1 ⟨rfl, HW, HKK⟩; have HW1 := Aside0.mk HW; have HK1 := Aside0.mk HKK; obtain ⟨hb4, hb5⟩ := read_blocks HG.out HKK; obtain ⟨⟨c40, c41, c42, c43, c44⟩, f40, f41, f42, f43, f44⟩ := five_cells hb4; obtain ⟨⟨c50, c51, c52, c53, c54⟩, f50, f51, f52, f53, f54⟩ := five_cells hb5; clear HW HKK hb4 hb5))
      obtain ⟨q1, q2, q3⟩ := read_fin HG.out HP.out HW1.out HK1.out (Below.refl _ _) (NewP.refl _ _) (.int .i64 2) (.int .u64 0) (.int .i64 0) (.slice none 0 0) (.slice none 0 0)
      exact bodyPost_ret (v := .agg #[.int .i64 2, .int .u64 0, .int .i64 0, .slice none 0 0, .slice none 0 0]) (by simp [results, Try.results23, go_sem, c40, c41, c42, c43, c44]) rfl ⟨none, 0, none, 0, rfl, Nat.le_refl _, Nat.le_refl _, fun W _ => C_nilW .u8 W, fun W _ => C_nilW .i64 W, q1, q2⟩
  by_cases e4 : k = 4
  · subst e4
    have hs : Aside0 (readS 4 st = (⟨4, 0, 0, (rawS st).1, []⟩, (rawS st).2)) := ⟨by simp [readS]⟩
    rw [hs.out]
    go_enter Try.func23, Try.ntmps23
    go_wp2_with (first
      | (go_at_call 31; refine (Raw_r w0 g st _ HI.out).mono ?_; rintro e w1 ⟨v1, rfl, HO, HW, HKK⟩; have HW1 := Aside0.mk HW; have HK1 := Aside0.mk HKK; obtain ⟨hb4, hb5⟩ := read_blocks HG.out HKK; obtain ⟨⟨c40, c41, c42, c43, c44⟩, f40, f41, f42, f43, f44⟩ := five_cells hb4; obtain ⟨⟨c50, c51, c52, c53, c54⟩, f50, f51, f52, f53, f54⟩ := five_cells hb5; clear HW HKK hb4 hb5; rw [HSZ.out] at HO; obtain ⟨A3, c3, rfl, hl3, hC⟩ := R_newC HO; have HC := Aside0.mk hC; have HL3 := Aside0.mk hl3; clear HO hC hl3))
    obtain ⟨q1, q2, q3⟩ := read_fin HG.out HP.out HW1.out HK1.out (Below.one 3 (.slice A3 (rawS st).1.length c3)) (NewP.one 3 (.slice A3 (rawS st).1.length c3)) (.int .i64 4) (.int .u64 0) (.int .i64 0) (.slice A3 (rawS st).1.length c3) (.slice none 0 0)
    exact bodyPost_ret (v := .agg #[.int .i64 4, .int .u64 0, .int .i64 0, .slice A3 (rawS st).1.length c3, .slice none 0 0]) (by simp [results, Try.results23, go_sem, c40, c41, c42, c43, c44]) rfl ⟨A3, c3, none, 0, rfl, HL3.out, Nat.le_refl _, fun W h => HC.out W (q3.trans (h.mono (by omega))), fun W _ => C_nilW .i64 W, q1, q2⟩
  by_cases e3 : k = 3
  · subst e3
    have hs : Aside0 (readS 3 st = (⟨3, 0, 0, (rawS st).1, []⟩, (rawS st).2)) := ⟨by simp [readS]⟩
    rw [hs.out]
    have HSN : Aside0 ((strOfNums (rawS st).1).size = (rawS st).1.length) := ⟨by unfold strOfNums; simp [ByteArray.size]⟩
    have hcv := fun W => print_bytes (P := Try.prog) 9 24 5 Try.underlying9 Try.underlying24 Try.underlying5 (strOfNums (rawS st).1) W

    go_enter Try.func23, Try.ntmps23
    go_wp2_with (first
      | (go_at_call 43; refine (Text_r w0 g st _ HI.out).mono ?_; rintro e w1 ⟨rfl, HW, HKK⟩; have HW1 := Aside0.mk HW; have HK1 := Aside0.mk HKK; obtain ⟨hb4, hb5⟩ := read_blocks HG.out HKK; have hbb := bytes_below (Below.refl w1.heap.size w1) (Nat.le_refl _) 5 (strOfNums (rawS st).1); obtain ⟨⟨c40, c41, c42, c43, c44⟩, f40, f41, f42, f43, f44⟩ := five_cells (blk_below hb4 hbb); obtain ⟨⟨c50, c51, c52, c53, c54⟩, f50, f51, f52, f53, f54⟩ := five_cells (blk_below hb5 hbb); have HBB := Aside0.mk hbb; clear HW HKK hb4 hb5 hbb))
    have hsz := HK1.out.keep.1
    rw [HSZ.out] at hsz
    obtain ⟨q1, q2, q3⟩ := read_fin HG.out HP.out HW1.out HK1.out ((HBB.out.mono (show w.heap.size ≤ w1.heap.size by omega)).trans (Below.one 3 (.slice (some ⟨w1.heap.size, 0, none⟩) (strOfNums (rawS st).1).size (grownCap w1 (strOfNums (rawS st).1).size 0 5)))) (NewP.one 3 (.slice (some ⟨w1.heap.size, 0, none⟩) (strOfNums (rawS st).1).size (grownCap w1 (strOfNums (rawS st).1).size 0 5))) (.int .i64 3) (.int .u64 0) (.int .i64 0) (.slice (some ⟨w1.heap.size, 0, none⟩) (strOfNums (rawS st).1).size (grownCap w1 (strOfNums (rawS st).1).size 0 5)) (.slice none 0 0)
    have hgc := grownCap_ge w1 (strOfNums (rawS st).1).size 0 5
    have hrd := bytes_reads w1 5 (strOfNums (rawS st).1) (by rw [HSN.out]; have := HRL.out; omega)
    rw [bytesOf_strOfNums _ HRB.out, HSN.out] at hrd
    rw [HSN.out] at hgc
    refine bodyPost_ret (v := .agg #[.int .i64 3, .int .u64 0, .int .i64 0, .slice (some ⟨w1.heap.size, 0, none⟩) (strOfNums (rawS st).1).size (grownCap w1 (strOfNums (rawS st).1).size 0 5), .slice none 0 0]) (by simp [results, Try.results23, go_sem, c40, c41, c42, c43, c44]) rfl ?_
    rw [HSN.out] at q1 q2 q3 ⊢
    refine ⟨some ⟨w1.heap.size, 0, none⟩, _, none, 0, rfl, hgc, Nat.le_refl _, fun W h => C_of_block hrd ?_, fun W _ => C_nilW .i64 W, q1, q2⟩
    have h2 := q3.trans (h.mono (show w.heap.size ≤ w.heap.size + 2 by omega))
    exact h2.2 w1.heap.size (by omega) (by rw [Lib.bytesWorld_size]; omega)
  have hs : Aside0 (readS k st = (⟨k, 0, 0, [], (intsS st).1⟩, (intsS st).2)) := ⟨by simp [readS, e0, e1, e2, e3, e4]⟩
  rw [hs.out]
  have hk0 : (k == 0) = false := beq_eq_false_iff_ne.mpr e0
  have hk1 : (k == 1) = false := beq_eq_false_iff_ne.mpr e1
  have hk2 : (k == 2) = false := beq_eq_false_iff_ne.mpr e2
  have hk3 : (k == 3) = false := beq_eq_false_iff_ne.mpr e3
  have hk4 : (k == 4) = false := beq_eq_false_iff_ne.mpr e4
  clear e0 e1 e2 e3 e4
  go_enter Try.func23, Try.ntmps23
  go_wp2_with (first
    | (go_at_call 33; refine (Ints_r w0 g st _ HI.out).mono ?_; rintro e w1 ⟨v1, rfl, HO, HW, HKK⟩; have HW1 := Aside0.mk HW; have HK1 := Aside0.mk HKK; obtain ⟨hb4, hb5⟩ := read_blocks HG.out HKK; obtain ⟨⟨c40, c41, c42, c43, c44⟩, f40, f41, f42, f43, f44⟩ := five_cells hb4; obtain ⟨⟨c50, c51, c52, c53, c54⟩, f50, f51, f52, f53, f54⟩ := five_cells hb5; clear HW HKK hb4 hb5; rw [HSZ.out] at HO; obtain ⟨A3, c3, rfl, hl3, hC⟩ := R_newC HO; have HC := Aside0.mk hC; have HL3 := Aside0.mk hl3; clear HO hC hl3))
  obtain ⟨q1, q2, q3⟩ := read_fin HG.out HP.out HW1.out HK1.out (Below.one 4 (.slice A3 (intsS st).1.length c3)) (NewP.one 4 (.slice A3 (intsS st).1.length c3)) (.int .i64 k) (.int .u64 0) (.int .i64 0) (.slice none 0 0) (.slice A3 (intsS st).1.length c3)
  exact bodyPost_ret (v := .agg #[.int .i64 k, .int .u64 0, .int .i64 0, .slice none 0 0, .slice A3 (intsS st).1.length c3]) (by simp [results, Try.results23, go_sem, c40, c41, c42, c43, c44]) rfl ⟨none, 0, A3, c3, rfl, Nat.le_refl _, HL3.out, fun W _ => C_nilW .u8 W, fun W h => HC.out W (q3.trans (h.mono (by omega))), q1, q2⟩
theorem read_one (b : Rb) (g : Nat) (k : Int) (x : S47) (st st' : St) (hx : readS k st = (x, st')) (w : World) (hI : RdW 79 b w g st) :
    Calls Try.prog 23 #[.pointer (some ⟨g, 0, none⟩), .int .i64 k] w fun e w' => ∃ A3 c3 A4 c4, e = .returned (.agg #[.int .i64 x.f0, .int .u64 x.f1, .int .i64 x.f2, .slice A3 x.f3.length c3, .slice A4 x.f4.length c4]) ∧
      x.f3.length ≤ c3 ∧ x.f4.length ≤ c4 ∧ (∀ W, NewP w.heap.size w' W → Kd.C (Kd.int .u8) W A3 x.f3.length x.f3) ∧ (∀ W, NewP w.heap.size w' W → Kd.C (Kd.int .i64) W A4 x.f4.length x.f4) ∧ RdW 79 b w' g st' ∧ Keeps w w' g := by
  have h := read_r b g st k w hI
  rw [hx] at h
  exact h
theorem wf_all {l : List Int} (h : ∀ x ∈ l, (Lit.int .i64 x).wf = true) : ∀ x ∈ l, -9223372036854775808 ≤ x ∧ x ≤ 9223372036854775807 := fun x hx => by
  have := bounds_i64 (h x hx)
  omega

-- NOT PRINTED: function 50 (refuterref02_Reader_Uint)

/-! ### refuterref02_Back: function 63 -/
def refuterref02_Back.f (a0 : Int) : Option (Int) := if (Int.tmod a0 2) = 1 then (some (wrap64 ((wrap64 (-(wrap64 (IntKind.u64.wrap (Int.tdiv a0 2))))) - 1))) else (some (wrap64 (IntKind.u64.wrap (Int.tdiv a0 2))))
set_option maxHeartbeats 8000000 in
set_option maxRecDepth 100000 in
theorem refuterref02_Back.calls (a0 : Int) (r : Int) (w : World) (h : refuterref02_Back.f a0 = some r) :
    Calls Try.prog 63 #[.int .u64 a0] w fun e w' => e = .returned (.int .i64 r) ∧ Drawn0 w w' := by
  have H : (if (Int.tmod a0 2) = 1 then (some (wrap64 ((wrap64 (-(wrap64 (IntKind.u64.wrap (Int.tdiv a0 2))))) - 1))) else (some (wrap64 (IntKind.u64.wrap (Int.tdiv a0 2))))) = some r := h
  clear h
  by_cases c2 : (Int.tmod a0 2) = 1
  · rw [if_pos c2] at H
    have c2b0 : ((Int.tmod a0 2) == 1) = true := beq_iff_eq.mpr c2
    have c2b1 : ((Int.tmod a0 2) != 1) = false := bne_eq_false_iff_eq.mpr c2
    clear c2
    obtain rfl := Option.some.inj H
    go_enter Try.func63, Try.ntmps63
    go_wp2
    go_ret
    exact ⟨by first | rfl | (simp; done) | (simp [*]; done), by repeat (first | exact Drawn0.refl _ | apply Drawn0.step)⟩
  · rw [if_neg c2] at H
    have c2b0 : ((Int.tmod a0 2) == 1) = false := beq_eq_false_iff_ne.mpr c2
    have c2b1 : ((Int.tmod a0 2) != 1) = true := bne_iff_ne.mpr c2
    obtain rfl := Option.some.inj H
    go_enter Try.func63, Try.ntmps63
    go_wp2
    go_ret
    exact ⟨by first | rfl | (simp; done) | (simp [*]; done), by repeat (first | exact Drawn0.refl _ | apply Drawn0.step)⟩

-- NOT PRINTED: function 51 (refuterref02_Reader_Int)

-- NOT PRINTED: function 52 (refuterref02_Reader_Bool)

-- NOT PRINTED: function 64 (refuterref02_Reader_length)

-- NOT PRINTED: function 53 (refuterref02_Reader_Raw)

-- NOT PRINTED: function 54 (refuterref02_Reader_Ints)

/-! ### refuterref02_Reader_Read: function 24 -/
set_option maxHeartbeats 8000000 in
set_option maxRecDepth 100000 in
theorem Read_f (w0 : Rb) (g : Nat) (st : St) (k : Int) (w : World) (hI : RdW 44 w0 w g st) :
    Calls Try.prog 24 #[.pointer (some ⟨g, 0, none⟩), .int .i64 k] w fun e w' => ∃ A3 c3 A4 c4, e = .returned (.agg #[.int .i64 (readS k st).1.f0, .int .u64 (readS k st).1.f1, .int .i64 (readS k st).1.f2, .slice A3 (readS k st).1.f3.length c3, .slice A4 (readS k st).1.f4.length c4]) ∧
      (readS k st).1.f3.length ≤ c3 ∧ (readS k st).1.f4.length ≤ c4 ∧ (∀ W, w0.pres W → NewP w.heap.size w' W → Kd.C (Kd.int .u8) W A3 (readS k st).1.f3.length (readS k st).1.f3) ∧ (∀ W, NewP w.heap.size w' W → Kd.C (Kd.int .i64) W A4 (readS k st).1.f4.length (readS k st).1.f4) ∧
      RdW 44 w0 w' g (readS k st).2 ∧ Keeps w w' g := by
  have hu := Try.underlying47
  have hb2 : Below w.heap.size w ((w.alloc (.cells #[.int .i64 0, .int .u64 0, .int .i64 0, .slice none 0 0, .slice none 0 0] 47)).alloc (.cells #[.int .i64 k, .int .u64 0, .int .i64 0, .slice none 0 0, .slice none 0 0] 47)) := below_alloc (below_alloc (Below.refl _ _) _) _
  have HI := Aside0.mk (hI.below hb2)
  have HG := Aside0.mk hI.lt
  have HP : Aside0 (∀ j, w0.P j → j < w.heap.size) := ⟨fun j hj => (hI.1 j hj).2⟩
  have HB2 := Aside0.mk hb2
  have hsz2 : ((w.alloc (.cells #[.int .i64 0, .int .u64 0, .int .i64 0, .slice none 0 0, .slice none 0 0] 47)).alloc (.cells #[.int .i64 k, .int .u64 0, .int .i64 0, .slice none 0 0, .slice none 0 0] 47)).heap.size = w.heap.size + 2 := by rw [World.size_alloc, World.size_alloc]
  have HSZ := Aside0.mk hsz2
  clear hI hb2 hsz2
  by_cases e0 : k = 0
  · subst e0
    have hs : Aside0 (readS 0 st = (⟨0, (uintS st).1, 0, [], []⟩, (uintS st).2)) := ⟨by simp [readS]⟩
    rw [hs.out]
    go_enter Try.func24, Try.ntmps24
    go_wp2_with (first
      | (go_at_call 50; refine (Uint_f w0 g st _ HI.out).mono ?_; rintro e w1 ⟨rfl, HW, HKK⟩; have HW1 := Aside0.mk HW; have HK1 := Aside0.mk HKK; obtain ⟨hb4, hb5⟩ := read_blocks HG.out HKK; obtain ⟨⟨c40, c41, c42, c43, c44⟩, f40, f41, f42, f43, f44⟩ := five_cells hb4; obtain ⟨⟨c50, c51, c52, c53, c54⟩, f50, f51, f52, f53, f54⟩ := five_cells hb5; clear HW HKK hb4 hb5))
    obtain ⟨q1, q2, q3⟩ := read_fin HG.out HP.out HW1.out HK1.out (Below.one 1 (.int .u64 ((uintS st).1 : Int))) (NewP.one 1 (.int .u64 ((uintS st).1 : Int))) (.int .i64 0) (.int .u64 ((uintS st).1 : Int)) (.int .i64 0) (.slice none 0 0) (.slice none 0 0)
    exact bodyPost_ret (v := .agg #[.int .i64 0, .int .u64 ((uintS st).1 : Int), .int .i64 0, .slice none 0 0, .slice none 0 0]) (by simp [results, Try.results24, go_sem, c40, c41, c42, c43, c44]) rfl ⟨none, 0, none, 0, rfl, Nat.le_refl _, Nat.le_refl _, fun W _ _ => C_nilW .u8 W, fun W _ => C_nilW .i64 W, q1, q2⟩
  by_cases e1 : k = 1
  · subst e1
    have hs : Aside0 (readS 1 st = (⟨1, 0, (intS st).1, [], []⟩, (intS st).2)) := ⟨by simp [readS]⟩
    rw [hs.out]
    go_enter Try.func24, Try.ntmps24
    go_wp2_with (first
      | (go_at_call 51; refine (Int_f w0 g st _ HI.out).mono ?_; rintro e w1 ⟨rfl, HW, HKK⟩; have HW1 := Aside0.mk HW; have HK1 := Aside0.mk HKK; obtain ⟨hb4, hb5⟩ := read_blocks HG.out HKK; obtain ⟨⟨c40, c41, c42, c43, c44⟩, f40, f41, f42, f43, f44⟩ := five_cells hb4; obtain ⟨⟨c50, c51, c52, c53, c54⟩, f50, f51, f52, f53, f54⟩ := five_cells hb5; clear HW HKK hb4 hb5))
    obtain ⟨q1, q2, q3⟩ := read_fin HG.out HP.out HW1.out HK1.out (Below.one 2 (.int .i64 (intS st).1)) (NewP.one 2 (.int .i64 (intS st).1)) (.int .i64 1) (.int .u64 0) (.int .i64 (intS st).1) (.slice none 0 0) (.slice none 0 0)
    exact bodyPost_ret (v := .agg #[.int .i64 1, .int .u64 0, .int .i64 (intS st).1, .slice none 0 0, .slice none 0 0]) (by simp [results, Try.results24, go_sem, c40, c41, c42, c43, c44]) rfl ⟨none, 0, none, 0, rfl, Nat.le_refl _, Nat.le_refl _, fun W _ _ => C_nilW .u8 W, fun W _ => C_nilW .i64 W, q1, q2⟩
  by_cases e2 : k = 2
  · subst e2
    cases hbs : (boolS st).1 with
    | true =>
      have hs : Aside0 (readS 2 st = (⟨2, 0, 1, [], []⟩, (boolS st).2)) := ⟨by simp [readS, hbs]⟩
      rw [hs.out]
      have HBS : Aside0 (∀ W, RdW 44 w0 W g st → Calls Try.prog 52 #[.pointer (some ⟨g, 0, none⟩)] W fun e w' => e = .returned (.bool true) ∧ RdW 44 w0 w' g (boolS st).2 ∧ Keeps W w' g) := ⟨fun W h => by have := Bool_f w0 g st W h; rw [hbs] at this; exact this⟩
      clear hbs
      go_enter Try.func24, Try.ntmps24
      go_wp2_with (first
        | (go_at_call 52; refine (HBS.out _ HI.out).mono ?_; rintro e w1 ⟨rfl, HW, HKK⟩; have HW1 := Aside0.mk HW; have HK1 := Aside0.mk HKK; obtain ⟨hb4, hb5⟩ := read_blocks HG.out HKK; obtain ⟨⟨c40, c41, c42, c43, c44⟩, f40, f41, f42, f43, f44⟩ := five_cells hb4; obtain ⟨⟨c50, c51, c52, c53, c54⟩, f50, f51, f52, f53, f54⟩ := five_cells hb5; clear HW HKK hb4 hb5))
      obtain ⟨q1, q2, q3⟩ := read_fin HG.out HP.out HW1.out HK1.out (Below.one 2 (.int .i64 1)) (NewP.one 2 (.int .i64 1)) (.int .i64 2) (.int .u64 0) (.int .i64 1) (.slice none 0 0) (.slice none 0 0)
      exact bodyPost_ret (v := .agg #[.int .i64 2, .int .u64 0, .int .i64 1, .slice none 0 0, .slice none 0 0]) (by simp [results, Try.results24, go_sem, c40, c41, c42, c43, c44]) rfl ⟨none, 0, none, 0, rfl, Nat.le_refl _, Nat.le_refl _, fun W _ _ => C_nilW .u8 W, fun W _ => C_nilW .i64 W, q1, q2⟩
    | false =>
      have hs : Aside0 (readS 2 st = (⟨2, 0, 0, [], []⟩, (boolS st).2)) := ⟨by simp [readS, hbs]⟩
      rw [hs.out]
      have HBS : Aside0 (∀ W, RdW 44 w0 W g st → Calls Try.prog 52 #[.pointer (some ⟨g, 0, none⟩)] W fun e w' => e = .returned (.bool false) ∧ RdW 44 w0 w' g (boolS st).2 ∧ Keeps W w' g) := ⟨fun W h => by have := Bool_f w0 g st W h; rw [hbs] at this; exact this⟩
      clear hbs
      go_enter Try.func24, Try.ntmps24
      go_wp2_with (first
        | (go_at_call 52; refine (HBS.out _ HI.out).mono ?_; rintro e w1 ⟨rfl, HW, HKK⟩; have HW1 := Aside0.mk HW; have HK1 := Aside0.mk HKK; obtain ⟨hb4, hb5⟩ := read_blocks HG.out HKK; obtain ⟨⟨c40, c41, c42, c43, c44⟩, f40, f41, f42, f43, f44⟩ := five_cells hb4; obtain ⟨⟨c50, c51, c52, c53, c54⟩, f50, f51, f52, f53, f54⟩ := five_cells hb5; clear HW HKK hb4 hb5))
      obtain ⟨q1, q2, q3⟩ := read_fin HG.out HP.out HW1.out HK1.out (Below.refl _ _) (NewP.refl _ _) (.int .i64 2) (.int .u64 0) (.int .i64 0) (.slice none 0 0) (.slice none 0 0)
      exact bodyPost_ret (v := .agg #[.int .i64 2, .int .u64 0, .int .i64 0, .slice none 0 0, .slice none 0 0]) (by simp [results, Try.results24, go_sem, c40, c41, c42, c43, c44]) rfl ⟨none, 0, none, 0, rfl, Nat.le_refl _, Nat.le_refl _, fun W _ _ => C_nilW .u8 W, fun W _ => C_nilW .i64 W, q1, q2⟩
  by_cases e4 : k = 4
  · subst e4
    have hs : Aside0 (readS 4 st = (⟨4, 0, 0, (rawS st).1, []⟩, (rawS st).2)) := ⟨by simp [readS]⟩
    rw [hs.out]
    go_enter Try.func24, Try.ntmps24
    go_wp2_with (first
      | (go_at_call 53; refine (Raw_f w0 g st _ HI.out).mono ?_; rintro e w1 ⟨A3, c3, rfl, hl3, hC, HW, HKK⟩; have HW1 := Aside0.mk HW; have HK1 := Aside0.mk HKK; obtain ⟨hb4, hb5⟩ := read_blocks HG.out HKK; obtain ⟨⟨c40, c41, c42, c43, c44⟩, f40, f41, f42, f43, f44⟩ := five_cells hb4; obtain ⟨⟨c50, c51, c52, c53, c54⟩, f50, f51, f52, f53, f54⟩ := five_cells hb5; clear HW HKK hb4 hb5; have HC := Aside0.mk hC; have HL3 := Aside0.mk hl3; clear hC hl3))
    obtain ⟨q1, q2, q3⟩ := read_fin HG.out HP.out HW1.out HK1.out (Below.one 3 (.slice A3 (rawS st).1.length c3)) (NewP.one 3 (.slice A3 (rawS st).1.length c3)) (.int .i64 4) (.int .u64 0) (.int .i64 0) (.slice A3 (rawS st).1.length c3) (.slice none 0 0)
    exact bodyPost_ret (v := .agg #[.int .i64 4, .int .u64 0, .int .i64 0, .slice A3 (rawS st).1.length c3, .slice none 0 0]) (by simp [results, Try.results24, go_sem, c40, c41, c42, c43, c44]) rfl ⟨A3, c3, none, 0, rfl, HL3.out, Nat.le_refl _, fun W h _ => HC.out W h, fun W _ => C_nilW .i64 W, q1, q2⟩
  by_cases e3 : k = 3
  · subst e3
    have hs : Aside0 (readS 3 st = (⟨3, 0, 0, (rawS st).1, []⟩, (rawS st).2)) := ⟨by simp [readS]⟩
    rw [hs.out]
    go_enter Try.func24, Try.ntmps24
    go_wp2_with (first
      | (go_at_call 53; refine (Raw_f w0 g st _ HI.out).mono ?_; rintro e w1 ⟨A3, c3, rfl, hl3, hC, HW, HKK⟩; have HW1 := Aside0.mk HW; have HK1 := Aside0.mk HKK; obtain ⟨hb4, hb5⟩ := read_blocks HG.out HKK; obtain ⟨⟨c40, c41, c42, c43, c44⟩, f40, f41, f42, f43, f44⟩ := five_cells hb4; obtain ⟨⟨c50, c51, c52, c53, c54⟩, f50, f51, f52, f53, f54⟩ := five_cells hb5; clear HW HKK hb4 hb5; have HC := Aside0.mk hC; have HL3 := Aside0.mk hl3; clear hC hl3))
    obtain ⟨q1, q2, q3⟩ := read_fin HG.out HP.out HW1.out HK1.out (Below.one 3 (.slice A3 (rawS st).1.length c3)) (NewP.one 3 (.slice A3 (rawS st).1.length c3)) (.int .i64 3) (.int .u64 0) (.int .i64 0) (.slice A3 (rawS st).1.length c3) (.slice none 0 0)
    exact bodyPost_ret (v := .agg #[.int .i64 3, .int .u64 0, .int .i64 0, .slice A3 (rawS st).1.length c3, .slice none 0 0]) (by simp [results, Try.results24, go_sem, c40, c41, c42, c43, c44]) rfl ⟨A3, c3, none, 0, rfl, HL3.out, Nat.le_refl _, fun W h _ => HC.out W h, fun W _ => C_nilW .i64 W, q1, q2⟩
  have hs : Aside0 (readS k st = (⟨k, 0, 0, [], (intsS st).1⟩, (intsS st).2)) := ⟨by simp [readS, e0, e1, e2, e3, e4]⟩
  rw [hs.out]
  have hk0 : (k == 0) = false := beq_eq_false_iff_ne.mpr e0
  have hk1 : (k == 1) = false := beq_eq_false_iff_ne.mpr e1
  have hk2 : (k == 2) = false := beq_eq_false_iff_ne.mpr e2
  have hk3 : (k == 3) = false := beq_eq_false_iff_ne.mpr e3
  have hk4 : (k == 4) = false := beq_eq_false_iff_ne.mpr e4
  clear e0 e1 e2 e3 e4
  go_enter Try.func24, Try.ntmps24
  go_wp2_with (first
    | (go_at_call 54; refine (Ints_f w0 g st _ HI.out).mono ?_; rintro e w1 ⟨v1, rfl, HO, HW, HKK⟩; have HW1 := Aside0.mk HW; have HK1 := Aside0.mk HKK; obtain ⟨hb4, hb5⟩ := read_blocks HG.out HKK; obtain ⟨⟨c40, c41, c42, c43, c44⟩, f40, f41, f42, f43, f44⟩ := five_cells hb4; obtain ⟨⟨c50, c51, c52, c53, c54⟩, f50, f51, f52, f53, f54⟩ := five_cells hb5; clear HW HKK hb4 hb5; rw [HSZ.out] at HO; obtain ⟨A3, c3, rfl, hl3, hC⟩ := R_newC HO; have HC := Aside0.mk hC; have HL3 := Aside0.mk hl3; clear HO hC hl3))
  obtain ⟨q1, q2, q3⟩ := read_fin HG.out HP.out HW1.out HK1.out (Below.one 4 (.slice A3 (intsS st).1.length c3)) (NewP.one 4 (.slice A3 (intsS st).1.length c3)) (.int .i64 k) (.int .u64 0) (.int .i64 0) (.slice none 0 0) (.slice A3 (intsS st).1.length c3)
  exact bodyPost_ret (v := .agg #[.int .i64 k, .int .u64 0, .int .i64 0, .slice none 0 0, .slice A3 (intsS st).1.length c3]) (by simp [results, Try.results24, go_sem, c40, c41, c42, c43, c44]) rfl ⟨none, 0, A3, c3, rfl, Nat.le_refl _, HL3.out, fun W _ _ => C_nilW .u8 W, fun W h => HC.out W (q3.trans (h.mono (by omega))), q1, q2⟩

/-- A state of type 44 at block g of W; what its slices lead to came in by w0. -/
def IsS44 (w0 W : World) (g : Nat) (f0 : List Int) (f1 : Int) : Prop := ∃ A0 c0, W.heap[g]? = some (.cells #[.slice A0 f0.length c0, .int .i64 f1] 44 (0, 0)) ∧ w0.heap.size ≤ g ∧ Kd.C (Kd.int .u8) w0 A0 f0.length f0
theorem IsS44.grown {w0 W : World} {g : Nat} {f0 : List Int} {f1 : Int} {W1 : World} {row : Option Nat} (h : IsS44 w0 W g f0 f1) (hw : W.grownBy W1 row) (hne : some g ≠ row) : IsS44 w0 W1 g f0 f1 := by
  obtain ⟨A0, c0, hb, hg, hr0⟩ := h
  exact ⟨A0, c0, blk_grown hb hw hne, hg, hr0⟩
theorem IsS44.own_neN {w0 W : World} {g : Nat} {f0 : List Int} {f1 : Int} {α : Type} {d : Kd α} {e : Nat} {base : Nat} {ok : Nat → Prop} {v : Value} {xs : List α} (h : IsS44 w0 W g f0 f1) (ho : Kd.N d e W base ok v xs) (ht : e ≠ 44) : some g ≠ v.ownBlock := by
  obtain ⟨A0, c0, hb, hg, hr0⟩ := h
  exact Kd.N_ne ho hb ht
theorem IsS44.fresh {w0 W : World} {g : Nat} {f0 : List Int} {f1 : Int} (h : IsS44 w0 W g f0 f1) : ∀ k, W.heap.size ≤ k → k ≠ g := by
  obtain ⟨A0, c0, hb, hg, hr0⟩ := h
  exact Kd.freshB hb
theorem IsS44.kept {w0 W : World} {g : Nat} {f0 : List Int} {f1 : Int} {W1 : World} {S : Nat → Prop} (h : IsS44 w0 W g f0 f1) (hk : Kept W W1 S) (hne : ¬ S g) : IsS44 w0 W1 g f0 f1 := by
  obtain ⟨A0, c0, hb, hg, hr0⟩ := h
  exact ⟨A0, c0, blk_kept hb hk hne, hg, hr0⟩
theorem IsS44.below {w0 W : World} {g : Nat} {f0 : List Int} {f1 : Int} {W1 : World} (h : IsS44 w0 W g f0 f1) (hw : Below W.heap.size W W1) : IsS44 w0 W1 g f0 f1 := h.grown (grown_of_below hw none) (by simp)
theorem IsS44.alloc {w0 W : World} {g : Nat} {f0 : List Int} {f1 : Int} (h : IsS44 w0 W g f0 f1) (o : Obj) : IsS44 w0 (W.alloc o) g f0 f1 := h.below (below_alloc (Below.refl _ _) o)
theorem IsS44.drewN {w0 W : World} {g : Nat} {f0 : List Int} {f1 : Int} (h : IsS44 w0 W g f0 f1) (m : Nat) : IsS44 w0 (W.drewN m) g f0 f1 := h
theorem IsS44.drew {w0 W : World} {g : Nat} {f0 : List Int} {f1 : Int} (h : IsS44 w0 W g f0 f1) : IsS44 w0 W.drew g f0 f1 := h
theorem IsS44.at_ {w0 W : World} {g : Nat} {f0 : List Int} {f1 : Int} {w' : World} {m : Nat} (hq : W.drewN m = w') (h : IsS44 w0 W g f0 f1) : IsS44 w0 w' g f0 f1 := by subst hq; exact IsS44.drewN h m
theorem IsS44.apart {w0 W : World} {g : Nat} {f0 : List Int} {f1 : Int} {α : Type} {d : Kd α} {e : Nat} {base : Nat} {ok : Nat → Prop} {v : Value} {xs : List α} (h : IsS44 w0 W g f0 f1) (ho : d.R e W base ok v xs) (ht : ∀ q, q ∈ e :: d.E → q ≠ 44) : d.R e W base (fun k => ok k ∧ k ≠ g) v xs := by
  obtain ⟨A0, c0, hb, hg, hr0⟩ := h
  exact Kd.R_types ho hb ht
theorem IsS44.own_ne {w0 W : World} {g : Nat} {f0 : List Int} {f1 : Int} {α : Type} {d : Kd α} {e : Nat} {base : Nat} {ok : Nat → Prop} {v : Value} {xs : List α} (h : IsS44 w0 W g f0 f1) (ho : d.R e W base ok v xs) (ht : e ≠ 44) : some g ≠ v.ownBlock := by
  obtain ⟨A0, c0, hb, hg, hr0⟩ := h
  exact Kd.R_ne ho hb ht
theorem IsS44.apartQ {w0 W : World} {g : Nat} {f0 : List Int} {f1 : Int} {α : Type} {d : Kd α} {e : Nat} {base : Nat} {ok : Nat → Prop} {v : Value} {xs : List α} (h : IsS44 w0 W g f0 f1) (ho : d.Q e W base ok v xs) (ht : ∀ q, q ∈ e :: d.E → q ≠ 44) : d.Q e W base (fun k => ok k ∧ k ≠ g) v xs := by
  obtain ⟨A0, c0, hb, hg, hr0⟩ := h
  exact Kd.Q_types ho hb ht
theorem IsS44.own_neQ {w0 W : World} {g : Nat} {f0 : List Int} {f1 : Int} {α : Type} {d : Kd α} {e : Nat} {base : Nat} {ok : Nat → Prop} {v : Value} {xs : List α} (h : IsS44 w0 W g f0 f1) (ho : d.Q e W base ok v xs) (ht : e ≠ 44) : some g ≠ v.ownBlock := by
  obtain ⟨A0, c0, hb, hg, hr0⟩ := h
  exact Kd.Q_ne ho hb ht
theorem IsS44.apartS {w0 W : World} {g : Nat} {f0 : List Int} {f1 : Int} {α : Type} {d : Kd α} {e : Nat} {base : Nat} {ok : Nat → Prop} {v : Value} {xs : List α} (h : IsS44 w0 W g f0 f1) (ho : d.S e W base ok v xs) (ht : ∀ q, q ∈ e :: d.E → q ≠ 44) : d.S e W base (fun k => ok k ∧ k ≠ g) v xs := by
  obtain ⟨A0, c0, hb, hg, hr0⟩ := h
  exact Kd.S_types ho hb ht
theorem IsS44.own_neS {w0 W : World} {g : Nat} {f0 : List Int} {f1 : Int} {α : Type} {d : Kd α} {e : Nat} {base : Nat} {ok : Nat → Prop} {v : Value} {xs : List α} (h : IsS44 w0 W g f0 f1) (ho : d.S e W base ok v xs) (ht : e ≠ 44) : some g ≠ v.ownBlock := by
  obtain ⟨A0, c0, hb, hg, hr0⟩ := h
  exact Kd.S_ne ho hb ht
theorem IsS44.lt {w0 W : World} {g : Nat} {f0 : List Int} {f1 : Int} (h : IsS44 w0 W g f0 f1) : g < W.heap.size := by
  obtain ⟨A0, c0, hb, hg, hr0⟩ := h
  exact blk_lt hb
theorem IsS44.ge {w0 W : World} {g : Nat} {f0 : List Int} {f1 : Int} (h : IsS44 w0 W g f0 f1) : w0.heap.size ≤ g := by
  obtain ⟨A0, c0, hb, hg, hr0⟩ := h
  exact hg
theorem IsS44.ne_blk {w0 W : World} {g : Nat} {f0 : List Int} {f1 : Int} {a : Nat} {cs : Array Value} {t : TypeId} {fr : Nat × Nat} (h : IsS44 w0 W g f0 f1) (hb2 : W.heap[a]? = some (.cells cs t fr)) (ht : t ≠ 44) : g ≠ a := by
  obtain ⟨A0, c0, hb, hg, hr0⟩ := h
  rintro rfl
  rw [hb] at hb2
  injection hb2 with hb2
  injection hb2 with _ ht2
  exact ht ht2.symm
theorem IsS44.far {w0 W : World} {g : Nat} {f0 : List Int} {f1 : Int} {p : Addr} (h : IsS44 w0 W g f0 f1) (hne : g ≠ p.block) (u : Value) : IsS44 w0 (W.setCell p u) g f0 f1 := by
  obtain ⟨A0, c0, hb, hg, hr0⟩ := h
  exact ⟨A0, c0, blk_far hb hne u, hg, hr0⟩
theorem cellS44_0 {W : World} {g : Nat} {A0 : Option Addr} {c0 : Nat} {f0 : List Int} {f1 : Int} (h : W.heap[g]? = some (.cells #[.slice A0 f0.length c0, .int .i64 f1] 44 (0, 0))) : W.cell? ⟨g, 0, none⟩ = some (.slice A0 f0.length c0) := (blk_cell h 0).trans rfl
theorem cellS44_1 {W : World} {g : Nat} {A0 : Option Addr} {c0 : Nat} {f0 : List Int} {f1 : Int} (h : W.heap[g]? = some (.cells #[.slice A0 f0.length c0, .int .i64 f1] 44 (0, 0))) : W.cell? ⟨g, 1, none⟩ = some (.int .i64 f1) := (blk_cell h 1).trans rfl
theorem IsS44.set_1 {w0 W : World} {g : Nat} {f0 : List Int} {f1 : Int} (h : IsS44 w0 W g f0 f1) (x : Int) : IsS44 w0 (W.setCell ⟨g, 1, none⟩ (.int .i64 x)) g f0 x := by
  obtain ⟨A0, c0, hb, hg, hr0⟩ := h
  exact ⟨A0, c0, by simpa using blk_set hb 1 (.int .i64 x), hg, hr0⟩
theorem IsS44.new (w0 W : World) (A0 : Option Addr) (c0 : Nat) (f0 : List Int) (f1 : Int) (hB : Below w0.heap.size w0 W) (hr0 : Kd.C (Kd.int .u8) w0 A0 f0.length f0) : IsS44 w0 (W.alloc (.cells #[.slice A0 f0.length c0, .int .i64 f1] 44)) W.heap.size f0 f1 := ⟨A0, c0, by simpa using heap_alloc_new W _, hB.size, hr0⟩

/-! ### refuterref02_Reader_End: function 26 -/
def refuterref02_Reader_End.f (s0_0 : List Int) (s0_1 : Int) : Option (Int × Int) := if s0_1 = 0 then (if (s0_0.length : Int) > 0 then (some (2, s0_1)) else (some (s0_1, s0_1))) else (some (s0_1, s0_1))
set_option maxHeartbeats 8000000 in
set_option maxRecDepth 100000 in
theorem refuterref02_Reader_End.calls (g : Nat) (s0_0 : List Int) (s0_1 : Int) (r1 : Int) (r2 : Int) (w0 w : World) (hI : IsS44 w0 w g s0_0 s0_1) (hB : Below w0.heap.size w0 w) (h : refuterref02_Reader_End.f s0_0 s0_1 = some (r1, r2)) :
    Calls Try.prog 26 #[.pointer (some ⟨g, 0, none⟩)] w fun e w' => e = .returned (.int .i64 r1) ∧ IsS44 w0 w' g s0_0 r2 ∧ Below w0.heap.size w0 w' ∧ KeepBut w w' g none := by
  have HI0 := Aside0.mk hI
  have HK := Aside0.mk (KeepBut.refl w g none)
  have HL := Aside0.mk hB.size
  clear hI
  have HW0 := Aside0.mk hB.size
  have HB := Aside0.mk hB
  clear hB
  have H : (if s0_1 = 0 then (if (s0_0.length : Int) > 0 then (some (2, s0_1)) else (some (s0_1, s0_1))) else (some (s0_1, s0_1))) = some (r1, r2) := h
  clear h
  by_cases c2 : s0_1 = 0
  · rw [if_pos c2] at H
    have c2b0 : (s0_1 == 0) = true := beq_iff_eq.mpr c2
    have c2b1 : (s0_1 != 0) = false := bne_eq_false_iff_eq.mpr c2
    clear c2
    by_cases c3 : (s0_0.length : Int) > 0
    · rw [if_pos c3] at H
      have c3b0 : decide (0 < (s0_0.length : Int)) = true := decide_eq_true c3
      have c3b1 : decide (0 < s0_0.length) = true := decide_eq_true (by omega)
      clear c3
      simp only [Option.some.injEq, Prod.mk.injEq] at H
      obtain ⟨rfl, rfl⟩ := H
      obtain ⟨ASz4_0, cSz4_0, HGz4, hgz4, HSz4_0⟩ := HI0.out
      have hcz4_0 := cellS44_0 HGz4
      have hcz4_1 := cellS44_1 HGz4
      have hfz4_1 := blk_frozen HGz4 1
      clear HGz4 hgz4
      go_enter Try.func26, Try.ntmps26
      go_wp2
      go_ret
      exact ⟨by first | rfl | (simp [errW_none, errW_some] <;> rfl) | (simp [*, errW_none, errW_some] <;> rfl), by repeat (first | (with_reducible first | exact HI0.out | apply IsS44.alloc | apply IsS44.drewN | apply IsS44.drew | apply IsS44.set_1) | exact HI0.out), by repeat (first | (with_reducible first | exact HB.out | apply below_alloc | apply pw_below_drewN | apply below_drew1 | refine below_set ?_ (IsS44.ge HI0.out)) | exact HB.out), by repeat (first | (with_reducible first | exact HK.out | apply KeepBut.set_ | apply keep_drewN | apply keep_drew | apply keep_alloc) | exact HK.out)⟩
    · rw [if_neg c3] at H
      have c3b0 : decide (0 < (s0_0.length : Int)) = false := decide_eq_false c3
      have c3b1 : decide (0 < s0_0.length) = false := decide_eq_false (by omega)
      clear c3
      simp only [Option.some.injEq, Prod.mk.injEq] at H
      obtain ⟨rfl, rfl⟩ := H
      obtain ⟨ASz5_0, cSz5_0, HGz5, hgz5, HSz5_0⟩ := HI0.out
      have hcz5_0 := cellS44_0 HGz5
      have hcz5_1 := cellS44_1 HGz5
      have hfz5_1 := blk_frozen HGz5 1
      clear HGz5 hgz5
      go_enter Try.func26, Try.ntmps26
      go_wp2
      go_ret
      exact ⟨by first | rfl | (simp [errW_none, errW_some] <;> rfl) | (simp [*, errW_none, errW_some] <;> rfl), by repeat (first | (with_reducible first | exact HI0.out | apply IsS44.alloc | apply IsS44.drewN | apply IsS44.drew | apply IsS44.set_1) | exact HI0.out), by repeat (first | (with_reducible first | exact HB.out | apply below_alloc | apply pw_below_drewN | apply below_drew1 | refine below_set ?_ (IsS44.ge HI0.out)) | exact HB.out), by repeat (first | (with_reducible first | exact HK.out | apply KeepBut.set_ | apply keep_drewN | apply keep_drew | apply keep_alloc) | exact HK.out)⟩
  · rw [if_neg c2] at H
    have c2b0 : (s0_1 == 0) = false := beq_eq_false_iff_ne.mpr c2
    have c2b1 : (s0_1 != 0) = true := bne_iff_ne.mpr c2
    simp only [Option.some.injEq, Prod.mk.injEq] at H
    obtain ⟨rfl, rfl⟩ := H
    obtain ⟨ASz6_0, cSz6_0, HGz6, hgz6, HSz6_0⟩ := HI0.out
    have hcz6_0 := cellS44_0 HGz6
    have hcz6_1 := cellS44_1 HGz6
    have hfz6_1 := blk_frozen HGz6 1
    clear HGz6 hgz6
    go_enter Try.func26, Try.ntmps26
    go_wp2
    go_ret
    exact ⟨by first | rfl | (simp [errW_none, errW_some] <;> rfl) | (simp [*, errW_none, errW_some] <;> rfl), by repeat (first | (with_reducible first | exact HI0.out | apply IsS44.alloc | apply IsS44.drewN | apply IsS44.drew | apply IsS44.set_1) | exact HI0.out), by repeat (first | (with_reducible first | exact HB.out | apply below_alloc | apply pw_below_drewN | apply below_drew1 | refine below_set ?_ (IsS44.ge HI0.out)) | exact HB.out), by repeat (first | (with_reducible first | exact HK.out | apply KeepBut.set_ | apply keep_drewN | apply keep_drew | apply keep_alloc) | exact HK.out)⟩

/-! ### refuterlaw02_WireReads: function 4 -/
def refuterlaw02_WireReads.Pure : Prop := True
/-- What is left is an end of the bytes. -/
def Suf (D : List Int) (st : St) : Prop := (∃ p r, st = .ok r ∧ D = p ++ r) ∨ ∃ e, st = .err e
theorem rawS_err_nil (st : St) (e : Int) (h : (rawS st).2 = .err e) : (rawS st).1 = [] := by
  unfold rawS at h ⊢
  cases hl : lenS st with
  | mk n s =>
    rw [hl] at h
    cases s with
    | ok bs => simp at h
    | err e => rfl
theorem intsS_err_nil (st : St) (e : Int) (h : (intsS st).2 = .err e) : (intsS st).1 = [] := by
  unfold intsS at h ⊢
  cases hl : lenS st with
  | mk n s =>
    rw [hl] at h
    cases s with
    | err e => rfl
    | ok bs =>
      simp only at h ⊢
      cases hn : intsN n [] (.ok bs) with
      | mk l' s' =>
        rw [hn] at h
        cases s' with
        | ok r => simp at h
        | err e => rfl
theorem readS_err_nil (k : Int) (st : St) (e : Int) (h : (readS k st).2 = .err e) : (readS k st).1.f3 = [] ∧ (readS k st).1.f4 = [] := by
  unfold readS at h ⊢
  by_cases e0 : k = 0
  · rw [if_pos e0]; exact ⟨rfl, rfl⟩
  rw [if_neg e0] at h ⊢
  by_cases e1 : k = 1
  · rw [if_pos e1]; exact ⟨rfl, rfl⟩
  rw [if_neg e1] at h ⊢
  by_cases e2 : k = 2
  · rw [if_pos e2]; exact ⟨rfl, rfl⟩
  rw [if_neg e2] at h ⊢
  by_cases e3 : k = 3 ∨ k = 4
  · rw [if_pos e3] at h ⊢; exact ⟨rawS_err_nil st e h, rfl⟩
  · rw [if_neg e3] at h ⊢; exact ⟨rfl, intsS_err_nil st e h⟩
theorem Suf_step (D : List Int) (st : St) (k : Int) (hk : 0 ≤ k ∧ k < 6) (hD : ∀ y ∈ D, 0 ≤ y ∧ y < 256) (hl : D.length ≤ 5000) (h : Suf D st) : Suf D (readS k st).2 ∧ (readS k st).1.f3.length ≤ 1000000000000 ∧ (readS k st).1.f4.length ≤ 1000000000000 := by
  rcases h with ⟨p, r, rfl, hp⟩ | ⟨e, rfl⟩
  · cases hr : (readS k (.ok r)).2 with
    | err e =>
      obtain ⟨h3, h4⟩ := readS_err_nil k _ e hr
      rw [h3, h4]
      exact ⟨Or.inr ⟨e, rfl⟩, by simp, by simp⟩
    | ok r' =>
      have hlr : r.length ≤ 5000 := by rw [hp, List.length_append] at hl; omega
      obtain ⟨hb, hcan⟩ := readS_back k r r' (readS k (.ok r)).1 hk (fun y hy => hD y (by rw [hp]; exact List.mem_append_right _ hy)) hlr (by rw [← hr])
      have h3 := hcan.2.2.2.2.1
      have h4 := hcan.2.2.2.2.2
      exact ⟨Or.inl ⟨p ++ encV (readS k (.ok r)).1, r', rfl, by rw [List.append_assoc, ← hb]; exact hp⟩, by omega, by omega⟩
  · rw [readS_err]; exact ⟨Or.inr ⟨e, rfl⟩, by simp, by simp⟩
theorem read_two (b : Rb) (g : Nat) (k : Int) (x : S47) (st st' : St) (hx : readS k st = (x, st')) (w : World) (hI : RdW 44 b w g st) :
    Calls Try.prog 24 #[.pointer (some ⟨g, 0, none⟩), .int .i64 k] w fun e w' => ∃ A3 c3 A4 c4, e = .returned (.agg #[.int .i64 x.f0, .int .u64 x.f1, .int .i64 x.f2, .slice A3 x.f3.length c3, .slice A4 x.f4.length c4]) ∧
      x.f3.length ≤ c3 ∧ x.f4.length ≤ c4 ∧ (∀ W, b.pres W → NewP w.heap.size w' W → Kd.C (Kd.int .u8) W A3 x.f3.length x.f3) ∧ (∀ W, NewP w.heap.size w' W → Kd.C (Kd.int .i64) W A4 x.f4.length x.f4) ∧ RdW 44 b w' g st' ∧ Keeps w w' g := by
  have h := Read_f b g st k w hI
  rw [hx] at h
  exact h
/-- The reference's reader, as the law makes it: over bytes that came before. -/
theorem RdW_box (w6 W : World) (A : Option Addr) (c : Nat) (D : List Int) (hC : Kd.C (Kd.int .u8) w6 A D.length D) (hlc : D.length ≤ c) (hB : Below w6.heap.size w6 W) (hx : ∀ y ∈ D, 0 ≤ y ∧ y < 256) (hl : D.length ≤ 17592186044416) :
    RdW 44 ⟨fun k => k < w6.heap.size, w6⟩ (W.alloc (.cells #[.slice A D.length c, .int .i64 0] 44)) W.heap.size (.ok D) := by
  have hB2 : Below w6.heap.size w6 (W.alloc (.cells #[.slice A D.length c, .int .i64 0] 44)) := hB.alloc hB.size _
  refine ⟨fun k hk => ⟨hB2.block k hk, Nat.lt_of_lt_of_le hk hB2.size⟩, fun h => absurd h (Nat.not_lt.mpr hB.size), A, c, D, 0, blk_new _ _, fun W' hp => ?_, hlc, hx, hl, rfl, rfl⟩
  exact Kd.Heap.C (Kd.heap_int .u8) (fun k hk => (hp k hk).1) hC
theorem fewR (l : List Int) : refuterref01_Few.f l 60 = some (l.take 60) := by
  unfold refuterref01_Few.f
  have h1 : 0 ≤ mn (l.length : Int) 60 ∧ mn (l.length : Int) 60 ≤ (l.length : Int) ∧ mn (l.length : Int) 60 ≤ 60 ∧ (mn (l.length : Int) 60 = (l.length : Int) ∨ mn (l.length : Int) 60 = 60) := by unfold mn; split <;> omega
  obtain ⟨h1, h2, h3, h4⟩ := h1
  have ht : l.take (mn (l.length : Int) 60).toNat = l.take 60 := by
    rcases h4 with e | e
    · rw [e, Int.toNat_natCast, List.take_of_length_le (Nat.le_refl _), List.take_of_length_le (by omega)]
    · rw [e]; rfl
  rw [if_pos h1, if_pos h2, ht, if_pos (by simp only [List.length_nil, List.length_take]; omega)]
  rfl
theorem wf_bytesR {l : List Int} (h : ∀ x ∈ l, (Lit.int .u8 x).wf = true) : ∀ x ∈ l, 0 ≤ x ∧ x < 256 := fun x hx => by
  have := bounds_u8 (h x hx)
  omega
set_option maxHeartbeats 16000000 in
set_option maxRecDepth 100000 in
theorem WireReads_any (A0 : Option Addr) (c0 : Nat) (raw : List Int) (A1 : Option Addr) (c1 : Nat) (l : List Int) (at_ cb : Int) (A4 : Option Addr) (c4 : Nat) (kinds : List Int) (w : World)
    (hR0 : Kd.C (Kd.int .u8) w A0 raw.length raw) (hc0 : raw.length ≤ c0) (hb0 : ∀ x ∈ raw, 0 ≤ x ∧ x < 256) (hR1 : Kd.C (Kd.int .i64) w A1 l.length l) (hx1 : ∀ x ∈ l, -9223372036854775808 ≤ x ∧ x ≤ 9223372036854775807) (hat : -9223372036854775808 ≤ at_ ∧ at_ ≤ 9223372036854775807) (hcb : 0 ≤ cb ∧ cb < 256)
    (hR4 : Kd.C (Kd.int .i64) w A4 kinds.length kinds) (hx4 : ∀ x ∈ kinds, -9223372036854775808 ≤ x ∧ x ≤ 9223372036854775807) :
    Calls Try.prog 4 #[.slice A0 raw.length c0, .slice A1 l.length c1, .int .i64 at_, .int .u8 cb, .slice A4 kinds.length c4] w fun e w' => e = .returned (.bool true) ∧ Below w.heap.size w w' := by
  have HR0 := Aside0.mk hR0
  have HC0 := Aside0.mk hc0
  have HY0 := Aside0.mk hb0
  have HR1 := Aside0.mk hR1
  have HX1 := Aside0.mk hx1
  have HAT := Aside0.mk hat
  have HCB := Aside0.mk hcb
  have HR4 := Aside0.mk hR4
  have HX4 := Aside0.mk hx4
  have hut := Try.underlying47
  have HLV := Aside0.mk (fun W => refuterlaw02_lives.calls true W rfl)
  clear hR0 hc0 hb0 hR1 hx1 hat hcb hR4 hx4
  go_enter Try.func4, Try.ntmps4
  go_wp2_with (first
    | (go_at_call 19; refine (Vals_c A1 c1 l _ HR1.out HX1.out).mono ?_; rintro e w1 ⟨v1, xs, rfl, hO, hl8, hg, hB⟩; obtain ⟨A2, c2, rfl, hlx, hC⟩ := Kd.R_reads hO; have HLX := Aside0.mk hlx; have HC1 := Aside0.mk hC; have HL8 := Aside0.mk hl8; have HGA := Aside0.mk hg; have HB1 := Aside0.mk hB; clear hO hl8 hg hB hC hlx))
  obtain ⟨KE, hKE⟩ := refEncode xs (fun x hx => canV_of_gen (HGA.out x hx)) (by have := HL8.out; omega)
  have HENC : Aside0 (∀ W, Kd.C k47 W A2 xs.length xs → Calls Try.prog 18 #[.slice A2 xs.length c2] W fun e w' => ∃ v, e = .returned v ∧ Kd.R (Kd.int .u8) 5 w' W.heap.size (fun _ => True) v (encVs xs) ∧ Below W.heap.size W w') := ⟨fun W h => refuterref02_Encode.calls KE A2 c2 xs (encVs xs) W h HLX.out hKE⟩
  clear hKE
  have HBY : Aside0 (∀ y ∈ encVs xs, 0 ≤ y ∧ y < 256) := ⟨encVs_byte xs (fun x hx => canV_of_gen (HGA.out x hx))⟩
  have HLEN : Aside0 ((encVs xs).length ≤ 1600) := ⟨by have := encVs_small xs HGA.out; have := HL8.out; omega⟩
  generalize encVs xs = bs at HENC HBY HLEN
  by_cases hz : bs = []
  case' pos =>
    subst hz
    obtain ⟨T, hTe⟩ : ∃ T : List Int, T = [] := ⟨_, rfl⟩
    rw [← hTe] at HENC
    have HTB : Aside0 (∀ y ∈ T, 0 ≤ y ∧ y < 256) := ⟨by rw [hTe]; exact fun y hy => nomatch hy⟩
    have HTL : Aside0 (T.length ≤ 1600) := ⟨by rw [hTe]; decide⟩
    have hT0 : decide ((0 : Int) < (T.length : Int)) = false := decide_eq_false (by rw [hTe]; decide)
    have hT0n : decide (0 < T.length) = false := decide_eq_false (by rw [hTe]; decide)
    clear hTe HBY HLEN
    go_wp2_with (first
      | (go_at_call 18; refine (HENC.out _ HC1.out).mono ?_; rintro e w4 ⟨v2, rfl, HO, HB⟩; obtain ⟨A3, c3, rfl, hlc2, hn2, hC⟩ := C_row HO; have HC3 := Aside0.mk hC; have HN3 := Aside0.mk hn2; have HLC3 := Aside0.mk hlc2; have HB14 := Aside0.mk HB; clear HO HB hC hn2 hlc2))
    clear hT0 hT0n
  case' neg =>
    have hpos : 0 < bs.length := List.length_pos_iff.mpr hz
    have hlen := HLEN.out
    obtain ⟨s, hs, hsf⟩ := aroundV at_ (bs.length : Int) (by omega) HAT.out
    have HSF := Aside0.mk hsf
    have hsn : s < bs.length := by omega
    clear hz hsf
    have HTS : Aside0 ((bs.set s cb).length = bs.length ∧ ∀ y ∈ bs.set s cb, 0 ≤ y ∧ y < 256) := ⟨List.length_set, fun y hy => by rcases List.mem_or_eq_of_mem_set hy with h | rfl; exact HBY.out y h; exact HCB.out⟩
    go_wp2_with (first
      | (go_at_call 18; refine (HENC.out _ HC1.out).mono ?_; rintro e w2 ⟨v2, rfl, HO, HB⟩; obtain ⟨gb, c3, rfl, hgb, hgl, -⟩ := Kd.R_form HO hpos; have HO2 := Aside0.mk HO; have HB12 := Aside0.mk HB; have HGB := Aside0.mk hgb; clear HO HB hgb hgl)
      | (go_at_call 11; refine (refuterref01_Around.calls at_ (bs.length : Int) (s : Int) _ HSF.out).mono ?_; rintro e w3 ⟨rfl, hd⟩; have HO3 := Aside0.mk (Kd.R_below HO2.out hd.below); have HB13 := Aside0.mk (HB12.out.trans (hd.below.mono HB12.out.size)); obtain ⟨hcx, hcf⟩ := Kd.R_celln (d := 0) HO3.out (s : Int) (by omega) (by omega); rw [Int.toNat_natCast] at hcx hcf; have HP3 := Aside0.mk (Kd.R_putg HO3.out (s : Int) cb).1; clear hd HO2))
    rw [Int.toNat_natCast] at HP3
    obtain ⟨w4, hw4⟩ : ∃ w4, w4 = w3.setCell ⟨gb, s, none⟩ (.int .u8 cb) := ⟨_, rfl⟩
    rw [← hw4] at HP3
    rw [← hw4]
    have HB14 : Aside0 (Below w1.heap.size w1 w4) := ⟨by rw [hw4]; exact HB13.out.setCell (p := ⟨gb, s, none⟩) HGB.out _⟩
    obtain ⟨A3, c3', hee, hlc, hn3, hC⟩ := C_row HP3.out
    have HC3 := Aside0.mk hC
    have HN3 := Aside0.mk hn3
    have HLC3 := Aside0.mk hlc
    injection hee with he1 he2 he3
    subst he1 he3
    rw [← HTS.out.1]
    have HTB : Aside0 (∀ y ∈ bs.set s cb, 0 ≤ y ∧ y < 256) := ⟨HTS.out.2⟩
    have HTL : Aside0 ((bs.set s cb).length ≤ 1600) := ⟨by rw [HTS.out.1]; exact HLEN.out⟩
    clear hw4 hcx hcf HP3 HO3 HB13 HB12 HGB he2 hC hn3 hlc HTS HSF hsn hs hpos hlen HENC HBY HLEN
    generalize bs.set s cb = T at HC3 HN3 HLC3 HTB HTL ⊢
    generalize (some (⟨gb, 0, none⟩ : Addr)) = A3 at HC3 HN3 ⊢
  all_goals
    have HB04 := Aside0.mk (HB1.out.trans (HB14.out.mono HB1.out.size))
    have HFEW := Aside0.mk (fewR raw)
    refine (refuterref01_Few.calls A0 c0 raw 60 (raw.take 60) w4 (Kd.C_below HR0.out HB04.out) HC0.out HFEW.out).mono ?_
    rintro e w5 ⟨v5, rfl, hO, hB⟩
    have HFB : Aside0 (∀ y ∈ raw.take 60, 0 ≤ y ∧ y < 256) := ⟨fun y hy => HY0.out y (List.mem_of_mem_take hy)⟩
    have HFL : Aside0 ((raw.take 60).length ≤ 60) := ⟨by rw [List.length_take]; omega⟩
    generalize raw.take 60 = F at hO HFB HFL
    obtain ⟨A5, c5, rfl, hlc5, hn5, hC5⟩ := C_row hO
    obtain ⟨w6, hw6⟩ : ∃ w6, w6 = w5.alloc (.cells #[.slice A5 F.length c5, .slice A3 T.length c3] 24) := ⟨_, rfl⟩
    have hb56 : Below w5.heap.size w5 w6 := by rw [hw6]; exact below_alloc (Below.refl _ _) _
    have HC5 := Aside0.mk (Kd.C_below hC5 hb56)
    have HN5 := Aside0.mk hn5
    have HLC5 := Aside0.mk hlc5
    have HC6 := Aside0.mk (Kd.C_below (Kd.C_below HC3.out hB) hb56)
    have HB06 := Aside0.mk (HB04.out.trans ((hB.trans (hb56.mono hB.size)).mono HB04.out.size))
    have HNB : Aside0 (w6.heap[w5.heap.size]? = some (.cells #[.slice A5 F.length c5, .slice A3 T.length c3] 24 (0, 0))) := ⟨by rw [hw6]; exact blk_new _ _⟩
    have HW6 := Aside0.mk hw6.symm
    clear hO hB hC5 hn5 hlc5 HFEW hw6 hb56 HC3 HB04 HB14
    go_wp2
    rw [HW6.out]
    go_loopw [13] (fun v13 wr => ∃ i : Nat, v13 = .int .i64 (i : Int) ∧ i ≤ 2 ∧ Aside0 (Below w6.heap.size w6 wr)) (fun v13 _ => 2 - (intOf v13).toNat)
    case atStart => exact ⟨0, rfl, by omega, ⟨Below.refl _ _⟩⟩
    case round =>
      obtain ⟨i, rfl, hi, HBR⟩ := hrel
      obtain ⟨W0, hW0⟩ : ∃ W0 : World, W0 = wr := ⟨_, rfl⟩
      subst hW0
      by_cases hi2 : i < 2
      · have hD : ∃ (D : List Int) (AD : Option Addr) (cD : Nat), W0.cell? ⟨w5.heap.size, i, none⟩ = some (.slice AD D.length cD) ∧ Aside0 (Kd.C (Kd.int .u8) w6 AD D.length D ∧ D.length ≤ cD ∧ (AD = none → cD = 0 ∧ D.length = 0) ∧ (∀ y ∈ D, 0 ≤ y ∧ y < 256) ∧ D.length ≤ 1600) := by
          have hb := blk_below HNB.out HBR.out
          by_cases h0 : i = 0
          · subst h0
            exact ⟨F, A5, c5, (blk_cell hb 0).trans rfl, ⟨HC5.out, HLC5.out, HN5.out, HFB.out, by have := HFL.out; omega⟩⟩
          · obtain rfl : i = 1 := by omega
            exact ⟨T, A3, c3, (blk_cell hb 1).trans rfl, ⟨HC6.out, HLC3.out, HN3.out, HTB.out, HTL.out⟩⟩
        obtain ⟨D, AD, cD, hcD, HD⟩ := hD
        have hi1 : wrap64 ((i : Int) + 1) = (i : Int) + 1 := by unfold wrap64; omega
        have hd1 : decide ((i : Int) < 2) = true := decide_eq_true (by omega)
        go_wp2_with (first
          | (go_at_call 21; refine (Read_r AD cD D _ (Kd.C_below HD.out.1 HBR.out) (by have := HD.out.2.2.2.2; omega) HD.out.2.2.1 HD.out.2.2.2.1).mono ?_; rintro e w21 ⟨g1, b1, rfl, hRd, hb, hg, hB⟩; have HRD1 := Aside0.mk hRd; have HGL1 := Aside0.mk hRd.lt; have HPB1 : Aside0 (∀ j, b1.P j → j < g1) := (Aside0.mk (fun j hj => (hb j hj).2)); have HGW1 : Aside0 (w6.heap.size ≤ g1) := (Aside0.mk (Nat.le_trans HBR.out.size hg)); have HB21 := Aside0.mk (HBR.out.trans (hB.mono HBR.out.size)); have hcD2 := pw_cell_below hB hcD; clear hRd hb hg hB))
        have HRD2 : Aside0 (RdW 44 ⟨fun j => j < w6.heap.size, w6⟩ (w21.alloc (.cells #[.slice AD D.length cD, .int .i64 0] 44)) w21.heap.size (.ok D)) := ⟨RdW_box w6 w21 AD cD D HD.out.1 HD.out.2.1 HB21.out HD.out.2.2.2.1 (by have := HD.out.2.2.2.2; omega)⟩
        have HRD1' : Aside0 (RdW 79 b1 (w21.alloc (.cells #[.slice AD D.length cD, .int .i64 0] 44)) g1 (.ok D)) := ⟨HRD1.out.below (below_alloc (Below.refl _ _) _)⟩
        have HB22 : Aside0 (Below w6.heap.size w6 (w21.alloc (.cells #[.slice AD D.length cD, .int .i64 0] 44))) := ⟨HB21.out.alloc HB21.out.size _⟩
        have HNE : Aside0 (g1 ≠ w21.heap.size ∧ ¬ b1.P w21.heap.size ∧ w6.heap.size ≤ w21.heap.size) := ⟨by
          have h1 := HGL1.out
          exact ⟨by omega, fun h => by have := HPB1.out _ h; omega, HB21.out.size⟩⟩
        generalize w21.alloc (.cells #[.slice AD D.length cD, .int .i64 0] 44) = w22 at HRD2 HRD1' HB22 ⊢
        generalize w21.heap.size = g2 at HRD2 HNE ⊢
        have HWI := Aside0.mk hi1
        clear HRD1 HGL1 HPB1 HB21 hcD hcD2 hd1 hi1
        go_loopw [16] (fun v16 wr => ∃ (k : Nat) (st : St), v16 = .int .i64 (k : Int) ∧ k ≤ kinds.length ∧ k ≤ 10 ∧ Aside0 (Suf D st) ∧ Aside0 (RdW 79 b1 wr g1 st) ∧ Aside0 (RdW 44 ⟨fun j => j < w6.heap.size, w6⟩ wr g2 st) ∧ Aside0 (Below w6.heap.size w6 wr)) (fun v16 _ => 10 - (intOf v16).toNat)
        case atStart => exact ⟨0, .ok D, rfl, Nat.zero_le _, by omega, ⟨Or.inl ⟨[], D, rfl, rfl⟩⟩, HRD1', HRD2, HB22⟩
        case round =>
          clear HRD1' HRD2 HB22
          obtain ⟨k, st, rfl, hk, hk10, HSUF, HRD1, HRD2, HBI⟩ := hrel
          have HBWr := Aside0.mk (HB06.out.trans (HBI.out.mono HB06.out.size))
          by_cases hlt : k < kinds.length
          · by_cases hlt10 : k < 10
            · obtain ⟨ad, e1, hx⟩ := Kd.at_int (Kd.C_below HR4.out HBWr.out) (k : Int) (by omega) (by omega)
              obtain rfl : A4 = some ad := e1
              rw [Int.toNat_natCast] at hx
              have hr : rd kinds (k : Int) = kinds[k] := by unfold rd; simp [hlt]
              rw [hr] at hx
              have hxr := HX4.out kinds[k] (List.getElem_mem hlt)
              generalize kinds[k] = q at hx hxr
              obtain ⟨kd, hkd, hkf⟩ := aroundV q 6 (by omega) hxr
              have HKF := Aside0.mk hkf
              have HST := Aside0.mk (Suf_step D st (kd : Int) ⟨by omega, hkd⟩ HD.out.2.2.2.1 (by have := HD.out.2.2.2.2; omega) HSUF.out)
              generalize hrx : readS (kd : Int) st = rx at HST
              obtain ⟨y, st'⟩ := rx
              have HRX := Aside0.mk hrx
              obtain ⟨m, hm⟩ : ∃ m, endS st' = m := ⟨_, rfl⟩
              have HM := Aside0.mk hm
              have hk1 : wrap64 ((k : Int) + 1) = (k : Int) + 1 := by unfold wrap64; omega
              have hmm : (m != m) = false := by simp
              have hd2 : decide ((k : Int) < (kinds.length : Int)) = true := decide_eq_true (by omega)
              have hd3 : decide ((k : Int) < 10) = true := decide_eq_true (by omega)
              clear hr hxr hkf hrx hkd hm
              go_wp2_with (first
                | (go_at_call 11; refine (refuterref01_Around.calls q 6 (kd : Int) _ HKF.out).mono ?_; rintro e w31 ⟨rfl, hd⟩; have HA1 := Aside0.mk (HRD1.out.below hd.below); have HA2 := Aside0.mk (HRD2.out.below hd.below); have HA3 := Aside0.mk (HBI.out.trans (hd.below.mono HBI.out.size)); clear hd)
                | (go_at_call 23; refine (read_one b1 g1 (kd : Int) y st st' HRX.out _ HA1.out).mono ?_; rintro e w32 ⟨A10, c10, A11, c11, rfl, l10, l11, h10, h11, hRd, hK⟩; have L10 := Aside0.mk l10; have L11 := Aside0.mk l11; have H10 := Aside0.mk h10; have H11 := Aside0.mk h11; have HE1 := Aside0.mk hRd; have HE2 := Aside0.mk (HA2.out.other hK HNE.out.1.symm (Nat.not_lt.mpr HGW1.out)); have HE3 := Aside0.mk (HA3.out.trans (hK.below HA3.out.size HGW1.out)); have HS32 : Aside0 (w31.heap.size ≤ w32.heap.size ∧ g2 < w31.heap.size) := (Aside0.mk ⟨hK.keep.1, HA2.out.lt⟩); clear l10 l11 h10 h11 hRd hK)
                | (go_at_call 24; refine (read_two ⟨fun j => j < w6.heap.size, w6⟩ g2 (kd : Int) y st st' HRX.out _ HE2.out).mono ?_; rintro e w33 ⟨A12, c12, A13, c13, rfl, l12, l13, h12, h13, hRd, hK⟩; have L12 := Aside0.mk l12; have L13 := Aside0.mk l13; have H12 := Aside0.mk (h12 _ hRd.1 (NewP.refl _ _)); have H13 := Aside0.mk (h13 _ (NewP.refl _ _)); have H10' := Aside0.mk (H10.out _ (NewP.of_keeps hK HS32.out.2)); have H11' := Aside0.mk (H11.out _ (NewP.of_keeps hK HS32.out.2)); have HF2 := Aside0.mk hRd; have HF1 := Aside0.mk (HE1.out.other hK HNE.out.1 HNE.out.2.1); have HF3 := Aside0.mk (HE3.out.trans (hK.below HE3.out.size HNE.out.2.2)); clear l12 l13 h12 h13 hRd hK)
                | (go_at_call 22; refine (same_c y HST.out.2.1 HST.out.2.2 A10 c10 A11 c11 A12 c12 A13 c13 _ H10'.out L10.out H11'.out L11.out H12.out L12.out H13.out L13.out).mono ?_; rintro e w34 ⟨rfl, hB⟩; have HG1 := Aside0.mk (HF1.out.below hB); have HG2 := Aside0.mk (HF2.out.below hB); have HG3 := Aside0.mk (HF3.out.trans (hB.mono HF3.out.size)); clear hB)
                | (go_at_call 25; refine (End_r' HM.out _ HG1.out).mono ?_; rintro e w35 ⟨rfl, hd⟩; have HH1 := Aside0.mk (HG1.out.below hd.below); have HH2 := Aside0.mk (HG2.out.below hd.below); have HH3 := Aside0.mk (HG3.out.trans (hd.below.mono HG3.out.size)); clear hd)
                | (go_at_call 26; refine (End_f _ g2 st' _ HH2.out).mono ?_; rintro e w36 ⟨rfl, hd⟩; rw [HM.out]; have HI1 := Aside0.mk (HH1.out.below hd.below); have HI2 := Aside0.mk (HH2.out.below hd.below); have HI3 := Aside0.mk (HH3.out.trans (hd.below.mono HH3.out.size)); clear hd))
              exact ⟨⟨k + 1, st', by first | (rw [hk1]; rfl) | rfl, by omega, by omega, ⟨HST.out.1⟩, HI1, HI2, HI3⟩, by first | (rw [hk1]; simp only [intOf]; omega) | (simp only [intOf]; omega)⟩
            · have hd2 : decide ((k : Int) < (kinds.length : Int)) = true := decide_eq_true (by omega)
              have hd3 : decide ((k : Int) < 10) = false := decide_eq_false (by omega)
              clear hlt10
              have hi1 := HWI.out
              go_wp2
              exact ⟨⟨i + 1, by first | (rw [hi1]; rfl) | rfl, by omega, HBI⟩, by first | (rw [hi1]; simp only [intOf]; omega) | (simp only [intOf]; omega)⟩
          · have hd2 : decide (k < kinds.length) = false := decide_eq_false hlt
            have hi1 := HWI.out
            go_wp2
            exact ⟨⟨i + 1, by first | (rw [hi1]; rfl) | rfl, by omega, HBI⟩, by first | (rw [hi1]; simp only [intOf]; omega) | (simp only [intOf]; omega)⟩
      · have hd1 : decide ((i : Int) < 2) = false := decide_eq_false (by omega)
        clear hi2
        go_wp2_with (first
          | (go_at_call 17; refine (HLV.out _).mono ?_; rintro e w42 ⟨rfl, HB⟩; have HBE := Aside0.mk (HBR.out.trans (HB.mono HBR.out.size)); clear HB))
        go_ret
        exact ⟨rfl, HB06.out.trans (HBE.out.mono HB06.out.size)⟩
theorem refuterlaw02_WireReads.walk (P : refuterlaw02_WireReads.Pure) (a0 : Option Addr) (len0 cap0 : Nat) (z0 : List Int) (a1 : Option Addr) (len1 cap1 : Nat) (z1 : List Int) (a2 : Int) (a3 : Int) (a4 : Option Addr) (len4 cap4 : Nat) (z4 : List Int) (w : World)
    (w0 : (a0 = none ∧ len0 = 0 ∧ cap0 = 0 ∧ z0 = []) ∨ ∃ x, a0 = some x ∧ len0 ≤ cap0 ∧ cap0 ≤ maxLen ∧ z0.length = cap0 ∧ (∀ i, i < z0.length → w.cell? (x.add i) = some (.int .u8 (z0.getD i 0))) ∧ ∀ n ∈ z0, (Lit.int .u8 n).wf = true) (_y0 : len0 * 1 ≤ 140737488351232)
    (w1 : (a1 = none ∧ len1 = 0 ∧ cap1 = 0 ∧ z1 = []) ∨ ∃ x, a1 = some x ∧ len1 ≤ cap1 ∧ cap1 ≤ maxLen ∧ z1.length = cap1 ∧ (∀ i, i < z1.length → w.cell? (x.add i) = some (.int .i64 (z1.getD i 0))) ∧ ∀ n ∈ z1, (Lit.int .i64 n).wf = true) (_y1 : len1 * 8 ≤ 140737488351232) (w2 : (Lit.int .i64 a2).wf = true) (w3 : (Lit.int .u8 a3).wf = true)
    (w4 : (a4 = none ∧ len4 = 0 ∧ cap4 = 0 ∧ z4 = []) ∨ ∃ x, a4 = some x ∧ len4 ≤ cap4 ∧ cap4 ≤ maxLen ∧ z4.length = cap4 ∧ (∀ i, i < z4.length → w.cell? (x.add i) = some (.int .i64 (z4.getD i 0))) ∧ ∀ n ∈ z4, (Lit.int .i64 n).wf = true) (_y4 : len4 * 8 ≤ 140737488351232) :
    Calls Try.prog 4 #[.slice a0 len0 cap0, .slice a1 len1 cap1, .int .i64 a2, .int .u8 a3, .slice a4 len4 cap4] w fun e w' => e = .returned (.bool true) ∧ Below w.heap.size w w' := by
  obtain ⟨l0, rfl, hr0, hm0, hw0, hc0⟩ := ReadsInt.ofRowC w0
  obtain ⟨l1, rfl, hr1, hm1, hw1, hc1⟩ := ReadsInt.ofRowC w1
  obtain ⟨l4, rfl, hr4, hm4, hw4, hc4⟩ := ReadsInt.ofRowC w4
  have h := bounds_i64 w2
  have h2 := bounds_u8 w3
  exact WireReads_any _ _ l0 _ _ l1 a2 a3 _ _ l4 w (Kd.C_of_reads (d := (0 : Int)) (h1 := fun _ => rfl) hr0) hc0 (wf_bytesR hw0) (Kd.C_of_reads (d := (0 : Int)) (h1 := fun _ => rfl) hr1) (wf_all hw1) (by omega) (by omega) (Kd.C_of_reads (d := (0 : Int)) (h1 := fun _ => rfl) hr4) (wf_all hw4)

/-! ### refuterref01_Ints: function 27 -/
def refuterref01_Ints.f (l0 : List Int) (a1 : Int) : Option (List Int) := if 0 ≤ (mn (l0.length : Int) a1) then (if (mn (l0.length : Int) a1) ≤ (l0.length : Int) then (if ([] : List Int).length + (l0.take ((mn (l0.length : Int) a1) : Int).toNat).length < 17592186044416 then (some (([] : List Int) ++ (l0.take ((mn (l0.length : Int) a1) : Int).toNat))) else (none)) else (none)) else (none)
set_option maxHeartbeats 8000000 in
set_option maxRecDepth 100000 in
theorem refuterref01_Ints.calls (A0 : Option Addr) (c0 : Nat) (l0 : List Int) (a1 : Int) (r : List Int) (w : World) (hr0 : Kd.C (Kd.int .i64) w A0 l0.length l0) (hc0 : l0.length ≤ c0) (h : refuterref01_Ints.f l0 a1 = some r) :
    Calls Try.prog 27 #[.slice A0 l0.length c0, .int .i64 a1] w fun e w' => ∃ v0_ : Value, e = .returned (v0_) ∧ Kd.R (Kd.int .i64) 3 w' w.heap.size (fun _ => True) v0_ r ∧ Below w.heap.size w w' := by
  have HR0 := Aside0.mk hr0
  have HC0 := Aside0.mk hc0
  clear hr0 hc0
  have HB := Aside0.mk (Below.refl w.heap.size w)
  have H : (if 0 ≤ (mn (l0.length : Int) a1) then (if (mn (l0.length : Int) a1) ≤ (l0.length : Int) then (if ([] : List Int).length + (l0.take ((mn (l0.length : Int) a1) : Int).toNat).length < 17592186044416 then (some (([] : List Int) ++ (l0.take ((mn (l0.length : Int) a1) : Int).toNat))) else (none)) else (none)) else (none)) = some r := h
  clear h
  obtain ⟨ji3, hji3⟩ : ∃ j_ : Int, (mn (l0.length : Int) a1) = j_ := ⟨_, rfl⟩
  replace H : (if 0 ≤ (ji3) then (if (ji3) ≤ (l0.length : Int) then (if ([] : List Int).length + (l0.take ((ji3) : Int).toNat).length < 17592186044416 then (some (([] : List Int) ++ (l0.take ((ji3) : Int).toNat))) else (none)) else (none)) else (none)) = some r := by first | (rw [hji3] at H; exact H) | (simp only [hji3] at H ⊢; exact H)
  have hji3_ : (if a1 < (l0.length : Int) then a1 else (l0.length : Int)) = ji3 := hji3
  by_cases c4 : 0 ≤ (ji3)
  · rw [if_pos c4] at H
    have c4b0 := eq_true c4
    have c4b1 : decide (0 ≤ (ji3)) = true := decide_eq_true c4
    clear c4
    by_cases c5 : (ji3) ≤ (l0.length : Int)
    · rw [if_pos c5] at H
      have c5b0 := eq_true c5
      have c5b1 : decide ((ji3) ≤ (l0.length : Int)) = true := decide_eq_true c5
      clear c5
      by_cases c6 : ([] : List Int).length + (l0.take ((ji3) : Int).toNat).length < 17592186044416
      · rw [if_pos c6] at H
        have LMc6 := Aside0.mk c6
        clear c6
        obtain ⟨y189, hy189⟩ : ∃ y_ : List Int, y_ = (([] : List Int) ++ (l0.take ((ji3) : Int).toNat)) := ⟨_, rfl⟩
        replace H : (some y189) = some r := by first | (rw [hy189]; with_reducible exact H) | (have H2_ := (Option.bind_some _ _).symm.trans H; rw [hy189]; with_reducible exact H2_) | (have H2_ := (Option.bind_some _ _).symm.trans H; with_reducible exact H2_) | with_reducible exact H | (rw [hy189]; exact H) | exact H
        have Ny189 := Aside0.mk hy189
        clear hy189
        obtain rfl := Option.some.inj H
        obtain ⟨i07, hi07, _, hsz7, _⟩ := info_parts info3
        obtain ⟨hcut7, hA7, hC7⟩ := print_take_of (P := Try.prog) (Value.int .i64) 0 33 3 .i64 Try.underlying33 hi07 hsz7 A0 c0 l0 (ji3) (of_decide_eq_true (by first | (with_reducible assumption) | assumption)) (of_decide_eq_true (by first | (with_reducible assumption) | assumption)) HC0.out
        have HR188 := Aside0.mk (Kd.C_of_reads (h1 := fun _ => rfl) (hA7 _ (Kd.reads_of_C HR0.out)))
        have HC188 := Aside0.mk hC7
        clear hA7 hC7 hi07 hsz7
        go_enter Try.func27, Try.ntmps27
        go_wp2_with (first | ((with_reducible refine gate_builtin (b := .append) (xs := #[.tmp 6, .tmp 12]) rfl ?_); at_builtin; refine Kd.R_append_rows (Kd.int .i64) (w0 := w) w.heap.size rfl (.tmp 6) (.tmp 12) 33 3 (.int .i64 0) 8 rfl Try.underlying33 info3 rfl (by decide) (by omega) (.slice none 0 0) ([] : List Int) (l0.take ((ji3) : Int).toNat) _ _ _ (fun _ => True) (fun _ => False) rfl rfl ?aO ?aR (fun _ _ h => h) (fun _ h => h.elim) ?aF ?aB ?aS ?aL ?_; (case aR => first | (refine reads_row_len (show (l0.take ((ji3) : Int).toNat).length = (ji3).toNat from (by rw [List.length_take]; have h_ : ((ji3) : Int) ≤ (l0.length : Int) := of_decide_eq_true (by first | (with_reducible assumption) | assumption); omega)) ?_; repeat (first | exact HR188.out | (with_reducible refine Kd.C_alloc ?_ _) | (with_reducible refine Kd.C_drewN ?_ _) | (with_reducible refine Kd.C_drew ?_))) | (repeat (first | exact HR188.out | (with_reducible refine Kd.C_alloc ?_ _) | (with_reducible refine Kd.C_drewN ?_ _) | (with_reducible refine Kd.C_drew ?_)))); (case aB => exact (by repeat (first | (with_reducible first | exact HB.out | apply below_alloc | apply pw_below_drewN | apply below_drew1) | exact HB.out))); (case aF => exact (fun _ _ => trivial)); (case aO => exact ((Kd.R_nil _ _ _ _ (fun _ => True)))); (case aS => exact (below_size (by repeat (first | (with_reducible first | exact HB.out | apply below_alloc | apply pw_below_drewN | apply below_drew1) | exact HB.out)))); (case aL => have := LMc6.out; have hlx_ := (show (l0.take ((ji3) : Int).toNat).length = (ji3).toNat from (by rw [List.length_take]; have h_ : ((ji3) : Int) ≤ (l0.length : Int) := of_decide_eq_true (by first | (with_reducible assumption) | assumption); omega)); omega); intro v190 w8 ho hb hg hat; rw [← Ny189.out] at ho; have n0_ := Aside0.mk (hb); have n1_ := Aside0.mk (ho); clear HB; have HB := n0_; have HO191 := n1_; clear n0_ n1_; clear ho hb hg hat))
        go_ret
        exact ⟨_, by first | rfl | (simp [errW_none, errW_some] <;> rfl) | (simp only [← hji3]; first | rfl | (simp [errW_none, errW_some] <;> rfl)) | (simp [*, errW_none, errW_some] <;> rfl), by (with_reducible repeat (first | apply Kd.R_alloc | apply Kd.R_drewN | apply Kd.R_drew)); exact HO191.out, by repeat (first | (with_reducible first | exact HB.out | apply below_alloc | apply pw_below_drewN | apply below_drew1) | exact HB.out)⟩
      · rw [if_neg c6] at H
        exact absurd H (by simp)
    · rw [if_neg c5] at H
      exact absurd H (by simp)
  · rw [if_neg c4] at H
    exact absurd H (by simp)

-- NOT PRINTED: function 28 (wire_Writer_Raw)

-- NOT PRINTED: function 29 (wire_Writer_Ints)

end Go.Proofs.Ytleomgkogbenaaa.PA
