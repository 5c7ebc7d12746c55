/- Written by a program of this session (pw.py, over the kit's printer): contracts, with their walks, of the Go functions that a law reaches; a text named ..Law.. proves the given statement of that law, with no condition of its own. -/
import Derived.Test.YtleomgkogbenaaaPAx0
import Derived.Test.YtleomgkogbenaaaPAx1
import Derived.Test.YtleomgkogbenaaaPAx3
namespace Go.Proofs.Ytleomgkogbenaaa.PA
open Go.Proofs.Ytleomgkogbenaaa.HashPlain
open Go.Proofs.Ytleomgkogbenaaa.WirePlain
open Go.Proofs.Ytleomgkogbenaaa.WireWr
open Go.Proofs.Ytleomgkogbenaaa.WireRd
open Go.Proofs.Ytleomgkogbenaaa.Pw
open Go.RowKit Go.Proofs.YtleomgkogbenaaaW.PrintWords Go.Proofs.YtleomgkogbenaaaW.PrintLast Go.Proofs.YtleomgkogbenaaaW.PrintMore
attribute [local go_sem] max2_int min2_int max_two min_two max_three min_three max_four min_four   -- for this text's walks alone
set_option linter.unusedVariables false
set_option linter.unusedSimpArgs false

/-! ### refuterlaw02_read: function 23 -/
/-- A value of a kind, read in a state. -/
def readS (k : Int) (s : St) : S47 × St :=
  if k = 0 then (⟨k, (uintS s).1, 0, [], []⟩, (uintS s).2) else if k = 1 then (⟨k, 0, (intS s).1, [], []⟩, (intS s).2) else if k = 2 then (⟨k, 0, if (boolS s).1 then 1 else 0, [], []⟩, (boolS s).2) else
  if k = 3 ∨ k = 4 then (⟨k, 0, 0, (rawS s).1, []⟩, (rawS s).2) else (⟨k, 0, 0, [], (intsS s).1⟩, (intsS s).2)
theorem decU_suffix : ∀ (bs : List Int) (i n : Nat) (r : List Int), decU i bs = .val n r → ∃ p, bs = p ++ r := by
  intro bs
  induction bs with
  | nil => intro i n r h; rw [decU] at h; cases h
  | cons c bs ih =>
    intro i n r h
    rw [decU] at h
    by_cases h1 : (i = 9 ∧ 1 < c) ∨ (0 < i ∧ c = 0)
    · rw [if_pos h1] at h; cases h
    rw [if_neg h1] at h
    by_cases h2 : c < 128
    · rw [if_pos h2] at h
      injection h with hn hr
      exact ⟨[c], by rw [hr]; rfl⟩
    · rw [if_neg h2] at h
      cases hd : decU (i + 1) bs with
      | bad e => rw [hd] at h; cases h
      | val n' r' =>
        rw [hd] at h
        injection h with hn hr
        obtain ⟨p, hp⟩ := ih (i + 1) n' r' hd
        exact ⟨c :: p, by rw [hp, hr]; rfl⟩
theorem uintS_suffix (bs r : List Int) (n : Nat) (h : uintS (.ok bs) = (n, .ok r)) : ∃ p, bs = p ++ r := by
  replace h : finU 0 0 (decU 0 bs) = (n, .ok r) := h
  cases hd : decU 0 bs with
  | bad e => rw [hd] at h; simp [finU] at h
  | val n' r' =>
    rw [hd] at h
    simp only [finU, Prod.mk.injEq, St.ok.injEq] at h
    rw [← h.2]
    exact decU_suffix bs 0 n' r' hd
theorem rawS_sub (bs : List Int) : (∀ x ∈ (rawS (.ok bs)).1, x ∈ bs) ∧ (rawS (.ok bs)).1.length ≤ bs.length := by
  unfold rawS lenS
  cases hu : uintS (.ok bs) with
  | mk n s =>
    cases s with
    | err e => simp
    | ok r =>
      obtain ⟨p, rfl⟩ := uintS_suffix bs r n hu
      simp only
      by_cases c : r.length < n
      · rw [if_pos c]; simp
      · rw [if_neg c]
        exact ⟨fun x hx => List.mem_append_right _ (List.mem_of_mem_take hx), by simp only [List.length_take, List.length_append]; omega⟩
theorem readS_err (k e : Int) : readS k (.err e) = (⟨k, 0, 0, [], []⟩, .err e) := by
  unfold readS
  have hr : rawS (.err e) = ([], .err e) := rfl
  have hi : intsS (.err e) = ([], .err e) := rfl
  have hb : boolS (.err e) = (false, .err e) := rfl
  rw [uintS_of_err, intS_of_err, hr, hi, hb]
  split
  · rfl
  split
  · rfl
  split
  · rfl
  split <;> rfl
theorem readS_enc (x : S47) (h : GenV x) (r : List Int) : readS x.f0 (.ok (encV x ++ r)) = (x, .ok r) := by
  obtain ⟨k, u, n, b, l⟩ := x
  unfold GenV at h
  unfold readS encV
  simp only at h ⊢
  rcases h with ⟨rfl, h1, h2, rfl, rfl, rfl⟩ | ⟨rfl, rfl, h1, h2, rfl, rfl⟩ | ⟨rfl, rfl, h1, rfl, rfl⟩ | ⟨h0, rfl, rfl, h1, h2, rfl⟩ | ⟨rfl, rfl, rfl, rfl, h1, h2⟩
  · rw [if_pos rfl, if_pos rfl, uintS_enc _ r (by omega)]
    simp only [Int.toNat_of_nonneg h1]
  · rw [if_neg (by decide), if_pos rfl, if_neg (by decide), if_pos rfl, intS_enc _ r h1 h2]
  · simp only [show ((2 : Int) = 0) = False by simp, show ((2 : Int) = 1) = False by simp, if_false, if_true]
    rcases h1 with rfl | rfl
    · rw [show ((0 : Int) == 1) = false from rfl, boolS_enc]; rfl
    · rw [show ((1 : Int) == 1) = true from rfl, boolS_enc]; rfl
  · rw [if_neg (by omega), if_neg (by omega), if_neg (by omega), if_pos h0, if_neg (by omega), if_neg (by omega), if_neg (by omega), if_pos h0, rawS_enc _ r (by omega)]
  · rw [if_neg (by decide), if_neg (by decide), if_neg (by decide), if_neg (by decide), if_neg (by decide), if_neg (by decide), if_neg (by decide), if_neg (by decide), intsS_enc _ r (by omega) h1]
theorem readS_prefix (x : S47) (h : GenV x) (p q : List Int) (hpq : p ++ q = encV x) (hq : q ≠ []) : (readS x.f0 (.ok p)).2 = .err 3 := by
  obtain ⟨k, u, n, b, l⟩ := x
  unfold GenV at h
  unfold encV at hpq
  unfold readS
  simp only at h hpq ⊢
  rcases h with ⟨rfl, h1, h2, rfl, rfl, rfl⟩ | ⟨rfl, rfl, h1, h2, rfl, rfl⟩ | ⟨rfl, rfl, h1, rfl, rfl⟩ | ⟨h0, rfl, rfl, h1, h2, rfl⟩ | ⟨rfl, rfl, rfl, rfl, h1, h2⟩
  · rw [if_pos rfl] at hpq ⊢
    rw [uintS_prefix _ p q (by omega) hpq hq]
  · rw [if_neg (by decide), if_pos rfl] at hpq ⊢
    rw [intS_prefix _ p q h1 h2 hpq hq]
  · rw [if_neg (by decide), if_neg (by decide), if_pos rfl] at hpq ⊢
    rw [boolS_prefix _ p q hpq hq]
  · rw [if_neg (by omega), if_neg (by omega), if_neg (by omega), if_pos h0] at hpq ⊢
    rw [rawS_prefix _ p q (by omega) hpq hq]
  · rw [if_neg (by decide), if_neg (by decide), if_neg (by decide), if_neg (by decide)] at hpq ⊢
    rw [intsS_prefix _ p q (by omega) h1 hpq hq]
theorem encInts_len (l : List Int) : l.length ≤ (encInts l).length := by
  have := encList_pos l
  unfold encInts
  rw [List.length_append]
  omega
theorem readS_back (k : Int) (bs r : List Int) (x : S47) (hk : 0 ≤ k ∧ k < 6) (hx : ∀ y ∈ bs, 0 ≤ y ∧ y < 256) (hl : bs.length ≤ 5000) (h : readS k (.ok bs) = (x, .ok r)) : bs = encV x ++ r ∧ CanV x := by
  unfold readS at h
  by_cases e0 : k = 0
  · rw [if_pos e0] at h
    simp only [Prod.mk.injEq] at h
    obtain ⟨rfl, h2⟩ := h
    obtain ⟨e, hb⟩ := uintS_back bs r (uintS (.ok bs)).1 hx (by rw [← h2])
    exact ⟨by simpa [encV, e0] using e, ⟨by simp only; omega, by simp only; omega, by simp, (fun y hy => (nomatch hy)), by simp, by simp⟩⟩
  rw [if_neg e0] at h
  by_cases e1 : k = 1
  · rw [if_pos e1] at h
    simp only [Prod.mk.injEq] at h
    obtain ⟨rfl, h2⟩ := h
    obtain ⟨e, hb⟩ := intS_back bs r (intS (.ok bs)).1 hx (by rw [← h2])
    exact ⟨by simpa [encV, e1] using e, ⟨by simp only; omega, hb, by simp, (fun y hy => (nomatch hy)), by simp, by simp⟩⟩
  rw [if_neg e1] at h
  by_cases e2 : k = 2
  · rw [if_pos e2] at h
    simp only [Prod.mk.injEq] at h
    obtain ⟨rfl, h2⟩ := h
    have e := boolS_back bs r (boolS (.ok bs)).1 hx (by rw [← h2])
    refine ⟨?_, ⟨by simp only; omega, by simp only; split <;> omega, by simp, (fun y hy => (nomatch hy)), by simp, by simp⟩⟩
    generalize (boolS (.ok bs)).1 = b at e
    cases b
    · simpa [encV, e2] using e
    · simpa [encV, e2] using e
  rw [if_neg e2] at h
  by_cases e34 : k = 3 ∨ k = 4
  · rw [if_pos e34] at h
    simp only [Prod.mk.injEq] at h
    obtain ⟨rfl, h2⟩ := h
    have e := rawS_back bs r (rawS (.ok bs)).1 hx (by rw [← h2])
    have hs := rawS_sub bs
    exact ⟨by simpa [encV, e0, e1, e2, e34] using e, ⟨by simp only; omega, by simp only; omega, fun y hy => hx y (hs.1 y hy), (fun y hy => (nomatch hy)), by simp only; omega, by simp⟩⟩
  · rw [if_neg e34] at h
    simp only [Prod.mk.injEq] at h
    obtain ⟨rfl, h2⟩ := h
    obtain ⟨e, hR⟩ := intsS_back bs r (intsS (.ok bs)).1 hx (by rw [← h2])
    have hs := encInts_len (intsS (.ok bs)).1
    have hl2 : (encInts (intsS (.ok bs)).1).length ≤ bs.length := by
      have := congrArg List.length e
      rw [List.length_append] at this
      omega
    exact ⟨by simpa [encV, e0, e1, e2, e34] using e, ⟨by simp only; omega, by simp only; omega, by simp, hR, by simp, by simp only; omega⟩⟩
theorem sameI_l0 (l : List Int) (hl : l.length ≤ 1000000000000) : ∀ (d i : Nat), l.length - i ≤ d → i ≤ l.length → refuterref01_SameInts.l0 (d + 1) l l (i : Int) = some true := by
  intro d
  induction d with
  | zero => intro i h1 h2; simp only [refuterref01_SameInts.l0]; rw [if_neg (by omega)]
  | succ d ih =>
    intro i h1 h2
    by_cases hlt : i < l.length
    · have hr := ih (i + 1) (by omega) (by omega)
      generalize d + 1 = d1 at hr
      simp only [refuterref01_SameInts.l0]
      rw [if_pos (by omega), if_pos (by omega), if_pos (by omega), if_pos trivial, show wrap64 ((i : Int) + 1) = ((i + 1 : Nat) : Int) by unfold wrap64; omega]
      exact hr
    · generalize d + 1 = d1
      simp only [refuterref01_SameInts.l0]; rw [if_neg (by omega)]
theorem sameI_self (l : List Int) (hl : l.length ≤ 1000000000000) : refuterref01_SameInts.f (l.length + 1) l l = some true := by
  unfold refuterref01_SameInts.f
  rw [if_pos rfl]
  exact sameI_l0 l hl l.length 0 (by omega) (by omega)
theorem sameV_self (x : S47) (h3 : x.f3.length ≤ 1000000000000) (h4 : x.f4.length ≤ 1000000000000) : ∃ K, refuterref02_Same.f K x.f0 x.f1 x.f2 x.f3 x.f4 x.f0 x.f1 x.f2 x.f3 x.f4 = some true := by
  have hb : refuterref01_SameBytes.f (x.f3.length + 1 + x.f4.length) x.f3 x.f3 = some true := at_rounds (fun k => refuterref01_SameBytes.mono _ _ k) (by omega) (sameBytes02_self x.f3 h3)
  have hi : refuterref01_SameInts.f (x.f3.length + 1 + x.f4.length) x.f4 x.f4 = some true := at_rounds (fun k => refuterref01_SameInts.mono _ _ k) (by omega) (sameI_self x.f4 h4)
  refine ⟨x.f3.length + 1 + x.f4.length, ?_⟩
  unfold refuterref02_Same.f
  rw [hb, bsome_, hi, bsome_, if_pos rfl, if_pos rfl, if_pos rfl, if_pos rfl]
/-- Same, at two readings of one value. -/
theorem same_c (x : S47) (h3 : x.f3.length ≤ 1000000000000) (h4 : x.f4.length ≤ 1000000000000) (A3 : Option Addr) (c3 : Nat) (A4 : Option Addr) (c4 : Nat) (B3 : Option Addr) (d3 : Nat) (B4 : Option Addr) (d4 : Nat) (w : World)
    (hr3 : Kd.C (Kd.int .u8) w A3 x.f3.length x.f3) (hc3 : x.f3.length ≤ c3) (hr4 : Kd.C (Kd.int .i64) w A4 x.f4.length x.f4) (hc4 : x.f4.length ≤ c4) (hs3 : Kd.C (Kd.int .u8) w B3 x.f3.length x.f3) (hd3 : x.f3.length ≤ d3) (hs4 : Kd.C (Kd.int .i64) w B4 x.f4.length x.f4) (hd4 : x.f4.length ≤ d4) :
    Calls Try.prog 22 #[.agg #[.int .i64 x.f0, .int .u64 x.f1, .int .i64 x.f2, .slice A3 x.f3.length c3, .slice A4 x.f4.length c4], .agg #[.int .i64 x.f0, .int .u64 x.f1, .int .i64 x.f2, .slice B3 x.f3.length d3, .slice B4 x.f4.length d4]] w fun e w' => e = .returned (.bool true) ∧ Below w.heap.size w w' := by
  obtain ⟨K, hK⟩ := sameV_self x h3 h4
  exact refuterref02_Same.calls K _ _ _ A3 c3 _ A4 c4 _ _ _ _ B3 d3 _ B4 d4 _ true w hr3 hc3 hr4 hc4 hs3 hd3 hs4 hd4 hK
/-- The blocks from B on are as they were in w. -/
def NewP (B : Nat) (w W : World) : Prop := w.heap.size ≤ W.heap.size ∧ ∀ k, B ≤ k → k < w.heap.size → W.heap[k]? = w.heap[k]?
theorem C_of_block {k : IntKind} {w W : World} {ad : Addr} {n : Nat} {xs : List Int} (h : ReadsInt w k (some ad) n xs) (hb : W.heap[ad.block]? = w.heap[ad.block]?) : Kd.C (Kd.int k) W (some ad) n xs := by
  refine Kd.C_of_reads (d := (0 : Int)) (h1 := fun _ => rfl) ⟨h.1, h.2.1, fun hn => ?_⟩
  obtain ⟨ad', e, hc⟩ := h.2.2 hn
  cases e
  refine ⟨ad, rfl, fun j hj => ?_⟩
  have h1 := hc j hj
  have h2 : W.heap[(ad.add j).block]? = w.heap[(ad.add j).block]? := by rw [add_block]; exact hb
  simpa [World.cell?, h2] using h1
theorem NewP.of_below {B : Nat} {w W : World} (h : Below w.heap.size w W) : NewP B w W := ⟨h.size, fun k _ hk => h.block k hk⟩
theorem NewP.of_keeps {B g : Nat} {w W : World} (h : Keeps w W g) (hg : g < B) : NewP B w W := ⟨h.keep.1, fun k hB hk => h.keep.2 k hk (by omega) (by simp)⟩
theorem NewP.trans {B : Nat} {w w1 W : World} (h : NewP B w w1) (k : NewP B w1 W) : NewP B w W := ⟨Nat.le_trans h.1 k.1, fun i hi hl => (k.2 i hi (Nat.lt_of_lt_of_le hl h.1)).trans (h.2 i hi hl)⟩
theorem R_newP {k : IntKind} {e B : Nat} {w W : World} {v : Value} {xs : List Int} (h : Kd.R (Kd.int k) e w B (fun _ => True) v xs) (hn : NewP B w W) : Kd.R (Kd.int k) e W B (fun _ => True) v xs :=
  Kd.R_mono (Kd.R_move (Kd.R_bound h) (fun j hj => hn.2 j hj.2.1 hj.2.2.1)) (fun _ _ => trivial)
/-- What a value's slice reads as from now on. -/
theorem R_newC {k : IntKind} {e B : Nat} {w : World} {v : Value} {xs : List Int} (h : Kd.R (Kd.int k) e w B (fun _ => True) v xs) : ∃ A c, v = .slice A xs.length c ∧ xs.length ≤ c ∧ ∀ W, NewP B w W → Kd.C (Kd.int k) W A xs.length xs := by
  obtain ⟨A, c, rfl, hl, -⟩ := Kd.R_reads h
  exact ⟨A, c, rfl, hl, fun W hW => (Kd.R_reads' (R_newP h hW)).2.2⟩
theorem NewP.mono {B B' : Nat} {w W : World} (h : NewP B w W) (hb : B ≤ B') : NewP B' w W := ⟨h.1, fun k hk => h.2 k (Nat.le_trans hb hk)⟩
theorem C_nilW (k : IntKind) (W : World) : Kd.C (Kd.int k) W none 0 [] := ⟨rfl, by simp, fun h => absurd h (Nat.lt_irrefl 0)⟩
theorem Keeps.alloc {W W1 : World} {g : Nat} (h : Keeps W W1 g) (o : Obj) : Keeps W (W1.alloc o) g := h.belowB ((Below.refl W.heap.size W1).alloc h.keep.1 o)
theorem Keeps.farB {W W1 : World} {g : Nat} (h : Keeps W W1 g) {p : Addr} (hp : W.heap.size ≤ p.block) (u : Value) : Keeps W (W1.setCell p u) g := h.belowB ((Below.refl W.heap.size W1).setCell hp u)
/-- The two blocks of 'read', as the walk reads them. -/
theorem read_blocks {w w1 : World} {g : Nat} {k : Int} (hg : g < w.heap.size) (hK : Keeps ((w.alloc (.cells #[.int .i64 0, .int .u64 0, .int .i64 0, .slice none 0 0, .slice none 0 0] 47)).alloc (.cells #[.int .i64 k, .int .u64 0, .int .i64 0, .slice none 0 0, .slice none 0 0] 47)) w1 g) :
    w1.heap[w.heap.size]? = some (.cells #[.int .i64 0, .int .u64 0, .int .i64 0, .slice none 0 0, .slice none 0 0] 47 (0, 0)) ∧ w1.heap[w.heap.size + 1]? = some (.cells #[.int .i64 k, .int .u64 0, .int .i64 0, .slice none 0 0, .slice none 0 0] 47 (0, 0)) := by
  refine ⟨hK.keep.blk (blk_alloc (blk_new w _) _) (by omega) (by simp), hK.keep.blk ?_ (by omega) (by simp)⟩
  have := blk_new (w.alloc (.cells #[.int .i64 0, .int .u64 0, .int .i64 0, .slice none 0 0, .slice none 0 0] 47)) (.cells #[.int .i64 k, .int .u64 0, .int .i64 0, .slice none 0 0, .slice none 0 0] 47)
  rwa [World.size_alloc] at this
theorem RdW_raw_bytes {T g : Nat} {w0 : Rb} {W : World} {st : St} (h : RdW T w0 W g st) : ∀ x ∈ (rawS st).1, 0 ≤ x ∧ x < 256 := by
  obtain ⟨_, _, A, c, bs, e, hb, _, _, hx, _, hst⟩ := h
  cases st with
  | ok l => obtain ⟨rfl, -⟩ := hst; exact fun x hm => hx x ((rawS_sub l).1 x hm)
  | err k => intro x hm; simp [rawS, lenS, uintS] at hm
theorem RdW_raw_len {T g : Nat} {w0 : Rb} {W : World} {st : St} (h : RdW T w0 W g st) : (rawS st).1.length ≤ 17592186044416 := by
  obtain ⟨_, _, A, c, bs, e, hb, _, _, _, hl, hst⟩ := h
  cases st with
  | ok l => obtain ⟨rfl, -⟩ := hst; exact Nat.le_trans (rawS_sub l).2 hl
  | err k => simp [rawS, lenS, uintS]
theorem NewP.refl (B : Nat) (w : World) : NewP B w w := ⟨Nat.le_refl _, fun _ _ _ => rfl⟩
theorem NewP.set_ {B : Nat} {w W : World} (h : NewP B w W) {p : Addr} (hp : p.block < B) (u : Value) : NewP B w (W.setCell p u) :=
  ⟨by simpa [World.setCell] using h.1, fun k hk hl => (Below.heap_setCell W p u k (by omega)).trans (h.2 k hk hl)⟩
/-- The end of 'read': the result's block is filled. -/
theorem read_fin {T : Nat} {w0 : Rb} {g : Nat} {w w1 w2 W1 : World} {st' : St} {o1 o2 : Obj} (hg : g < w.heap.size) (hP : ∀ j, w0.P j → j < w.heap.size) (hR : RdW T w0 w1 g st') (hK : Keeps ((w.alloc o1).alloc o2) w1 g) (hB : Below w.heap.size w1 W1) (hN : NewP (w.heap.size + 2) w2 W1) (v0 v1 v2 v3 v4 : Value) :
    RdW T w0 (((((W1.setCell ⟨w.heap.size, 0, none⟩ v0).setCell ⟨w.heap.size, 1, none⟩ v1).setCell ⟨w.heap.size, 2, none⟩ v2).setCell ⟨w.heap.size, 3, none⟩ v3).setCell ⟨w.heap.size, 4, none⟩ v4) g st' ∧
    Keeps w (((((W1.setCell ⟨w.heap.size, 0, none⟩ v0).setCell ⟨w.heap.size, 1, none⟩ v1).setCell ⟨w.heap.size, 2, none⟩ v2).setCell ⟨w.heap.size, 3, none⟩ v3).setCell ⟨w.heap.size, 4, none⟩ v4) g ∧
    NewP (w.heap.size + 2) w2 (((((W1.setCell ⟨w.heap.size, 0, none⟩ v0).setCell ⟨w.heap.size, 1, none⟩ v1).setCell ⟨w.heap.size, 2, none⟩ v2).setCell ⟨w.heap.size, 3, none⟩ v3).setCell ⟨w.heap.size, 4, none⟩ v4) := by
  have h5 := ((((hB.setCell (p := ⟨w.heap.size, 0, none⟩) (Nat.le_refl _) v0).setCell (p := ⟨w.heap.size, 1, none⟩) (Nat.le_refl _) v1).setCell (p := ⟨w.heap.size, 2, none⟩) (Nat.le_refl _) v2).setCell (p := ⟨w.heap.size, 3, none⟩) (Nat.le_refl _) v3).setCell (p := ⟨w.heap.size, 4, none⟩) (Nat.le_refl _) v4
  have hlt : w.heap.size < w.heap.size + 2 := by omega
  refine ⟨hR.belowB h5 hg hP, ?_, ((((hN.set_ (p := ⟨w.heap.size, 0, none⟩) hlt v0).set_ (p := ⟨w.heap.size, 1, none⟩) hlt v1).set_ (p := ⟨w.heap.size, 2, none⟩) hlt v2).set_ (p := ⟨w.heap.size, 3, none⟩) hlt v3).set_ (p := ⟨w.heap.size, 4, none⟩) hlt v4⟩
  exact ((Keeps.of_below (below_alloc (below_alloc (Below.refl _ _) o1) o2) g).trans hK).belowB h5
theorem NewP.one {w w1 : World} (j : Nat) (u : Value) : NewP (w.heap.size + 2) w1 (w1.setCell ⟨w.heap.size + 1, j, none⟩ u) := (NewP.refl _ _).set_ (p := ⟨w.heap.size + 1, j, none⟩) (by show w.heap.size + 1 < _; omega) u
theorem Below.one {w w1 : World} (j : Nat) (u : Value) : Below w.heap.size w1 (w1.setCell ⟨w.heap.size + 1, j, none⟩ u) := (Below.refl _ _).setCell (p := ⟨w.heap.size + 1, j, none⟩) (by show _ ≤ w.heap.size + 1; omega) u
set_option maxHeartbeats 8000000 in
set_option maxRecDepth 100000 in
theorem read_r (w0 : Rb) (g : Nat) (st : St) (k : Int) (w : World) (hI : RdW 79 w0 w g st) :
    Calls Try.prog 23 #[.pointer (some ⟨g, 0, none⟩), .int .i64 k] w fun e w' => ∃ A3 c3 A4 c4, e = .returned (.agg #[.int .i64 (readS k st).1.f0, .int .u64 (readS k st).1.f1, .int .i64 (readS k st).1.f2, .slice A3 (readS k st).1.f3.length c3, .slice A4 (readS k st).1.f4.length c4]) ∧
      (readS k st).1.f3.length ≤ c3 ∧ (readS k st).1.f4.length ≤ c4 ∧ (∀ W, NewP w.heap.size w' W → Kd.C (Kd.int .u8) W A3 (readS k st).1.f3.length (readS k st).1.f3) ∧ (∀ W, NewP w.heap.size w' W → Kd.C (Kd.int .i64) W A4 (readS k st).1.f4.length (readS k st).1.f4) ∧
      RdW 79 w0 w' g (readS k st).2 ∧ Keeps w w' g := by
  have hu := Try.underlying47
  have hb2 : Below w.heap.size w ((w.alloc (.cells #[.int .i64 0, .int .u64 0, .int .i64 0, .slice none 0 0, .slice none 0 0] 47)).alloc (.cells #[.int .i64 k, .int .u64 0, .int .i64 0, .slice none 0 0, .slice none 0 0] 47)) := below_alloc (below_alloc (Below.refl _ _) _) _
  have HI := Aside0.mk (hI.below hb2)
  have HG := Aside0.mk hI.lt
  have HP : Aside0 (∀ j, w0.P j → j < w.heap.size) := ⟨fun j hj => (hI.1 j hj).2⟩
  have HB2 := Aside0.mk hb2
  have HRB := Aside0.mk (RdW_raw_bytes hI)
  have HRL := Aside0.mk (RdW_raw_len hI)
  have hsz2 : ((w.alloc (.cells #[.int .i64 0, .int .u64 0, .int .i64 0, .slice none 0 0, .slice none 0 0] 47)).alloc (.cells #[.int .i64 k, .int .u64 0, .int .i64 0, .slice none 0 0, .slice none 0 0] 47)).heap.size = w.heap.size + 2 := by rw [World.size_alloc, World.size_alloc]
  have HSZ := Aside0.mk hsz2
  clear hI hb2 hsz2
  by_cases e0 : k = 0
  · subst e0
    have hs : Aside0 (readS 0 st = (⟨0, (uintS st).1, 0, [], []⟩, (uintS st).2)) := ⟨by simp [readS]⟩
    rw [hs.out]
    go_enter Try.func23, Try.ntmps23
    go_wp2_with (first
      | (go_at_call 41; refine (Uint_r w0 g st _ HI.out).mono ?_; rintro e w1 ⟨rfl, HW, HKK⟩; have HW1 := Aside0.mk HW; have HK1 := Aside0.mk HKK; obtain ⟨hb4, hb5⟩ := read_blocks HG.out HKK; obtain ⟨⟨c40, c41, c42, c43, c44⟩, f40, f41, f42, f43, f44⟩ := five_cells hb4; obtain ⟨⟨c50, c51, c52, c53, c54⟩, f50, f51, f52, f53, f54⟩ := five_cells hb5; clear HW HKK hb4 hb5))
    obtain ⟨q1, q2, q3⟩ := read_fin HG.out HP.out HW1.out HK1.out (Below.one 1 (.int .u64 ((uintS st).1 : Int))) (NewP.one 1 (.int .u64 ((uintS st).1 : Int))) (.int .i64 0) (.int .u64 ((uintS st).1 : Int)) (.int .i64 0) (.slice none 0 0) (.slice none 0 0)
    exact bodyPost_ret (v := .agg #[.int .i64 0, .int .u64 ((uintS st).1 : Int), .int .i64 0, .slice none 0 0, .slice none 0 0]) (by simp [results, Try.results23, go_sem, c40, c41, c42, c43, c44]) rfl ⟨none, 0, none, 0, rfl, Nat.le_refl _, Nat.le_refl _, fun W _ => C_nilW .u8 W, fun W _ => C_nilW .i64 W, q1, q2⟩
  by_cases e1 : k = 1
  · subst e1
    have hs : Aside0 (readS 1 st = (⟨1, 0, (intS st).1, [], []⟩, (intS st).2)) := ⟨by simp [readS]⟩
    rw [hs.out]
    go_enter Try.func23, Try.ntmps23
    go_wp2_with (first
      | (go_at_call 42; refine (Int_r w0 g st _ HI.out).mono ?_; rintro e w1 ⟨rfl, HW, HKK⟩; have HW1 := Aside0.mk HW; have HK1 := Aside0.mk HKK; obtain ⟨hb4, hb5⟩ := read_blocks HG.out HKK; obtain ⟨⟨c40, c41, c42, c43, c44⟩, f40, f41, f42, f43, f44⟩ := five_cells hb4; obtain ⟨⟨c50, c51, c52, c53, c54⟩, f50, f51, f52, f53, f54⟩ := five_cells hb5; clear HW HKK hb4 hb5))
    obtain ⟨q1, q2, q3⟩ := read_fin HG.out HP.out HW1.out HK1.out (Below.one 2 (.int .i64 (intS st).1)) (NewP.one 2 (.int .i64 (intS st).1)) (.int .i64 1) (.int .u64 0) (.int .i64 (intS st).1) (.slice none 0 0) (.slice none 0 0)
    exact bodyPost_ret (v := .agg #[.int .i64 1, .int .u64 0, .int .i64 (intS st).1, .slice none 0 0, .slice none 0 0]) (by simp [results, Try.results23, go_sem, c40, c41, c42, c43, c44]) rfl ⟨none, 0, none, 0, rfl, Nat.le_refl _, Nat.le_refl _, fun W _ => C_nilW .u8 W, fun W _ => C_nilW .i64 W, q1, q2⟩
  by_cases e2 : k = 2
  · subst e2
    cases hbs : (boolS st).1 with
    | true =>
      have hs : Aside0 (readS 2 st = (⟨2, 0, 1, [], []⟩, (boolS st).2)) := ⟨by simp [readS, hbs]⟩
      rw [hs.out]
      have HBS : Aside0 (∀ W, RdW 79 w0 W g st → Calls Try.prog 49 #[.pointer (some ⟨g, 0, none⟩)] W fun e w' => e = .returned (.bool true) ∧ RdW 79 w0 w' g (boolS st).2 ∧ Keeps W w' g) := ⟨fun W h => by have := Bool_r w0 g st W h; rw [hbs] at this; exact this⟩
      clear hbs
      go_enter Try.func23, Try.ntmps23
      go_wp2_with (first
        | (go_at_call 49; refine (HBS.out _ HI.out).mono ?_; rintro e w1 ⟨rfl, HW, HKK⟩; have HW1 := Aside0.mk HW; have HK1 := Aside0.mk HKK; obtain ⟨hb4, hb5⟩ := read_blocks HG.out HKK; obtain ⟨⟨c40, c41, c42, c43, c44⟩, f40, f41, f42, f43, f44⟩ := five_cells hb4; obtain ⟨⟨c50, c51, c52, c53, c54⟩, f50, f51, f52, f53, f54⟩ := five_cells hb5; clear HW HKK hb4 hb5))
      obtain ⟨q1, q2, q3⟩ := read_fin HG.out HP.out HW1.out HK1.out (Below.one 2 (.int .i64 1)) (NewP.one 2 (.int .i64 1)) (.int .i64 2) (.int .u64 0) (.int .i64 1) (.slice none 0 0) (.slice none 0 0)
      exact bodyPost_ret (v := .agg #[.int .i64 2, .int .u64 0, .int .i64 1, .slice none 0 0, .slice none 0 0]) (by simp [results, Try.results23, go_sem, c40, c41, c42, c43, c44]) rfl ⟨none, 0, none, 0, rfl, Nat.le_refl _, Nat.le_refl _, fun W _ => C_nilW .u8 W, fun W _ => C_nilW .i64 W, q1, q2⟩
    | false =>
      have hs : Aside0 (readS 2 st = (⟨2, 0, 0, [], []⟩, (boolS st).2)) := ⟨by simp [readS, hbs]⟩
      rw [hs.out]
      have HBS : Aside0 (∀ W, RdW 79 w0 W g st → Calls Try.prog 49 #[.pointer (some ⟨g, 0, none⟩)] W fun e w' => e = .returned (.bool false) ∧ RdW 79 w0 w' g (boolS st).2 ∧ Keeps W w' g) := ⟨fun W h => by have := Bool_r w0 g st W h; rw [hbs] at this; exact this⟩
      clear hbs
      go_enter Try.func23, Try.ntmps23
      go_wp2_with (first
        | (go_at_call 49; refine (HBS.out _ HI.out).mono ?_; rintro e w1 ⟨rfl, HW, HKK⟩; have HW1 := Aside0.mk HW; have HK1 := Aside0.mk HKK; obtain ⟨hb4, hb5⟩ := read_blocks HG.out HKK; obtain ⟨⟨c40, c41, c42, c43, c44⟩, f40, f41, f42, f43, f44⟩ := five_cells hb4; obtain ⟨⟨c50, c51, c52, c53, c54⟩, f50, f51, f52, f53, f54⟩ := five_cells hb5; clear HW HKK hb4 hb5))
      obtain ⟨q1, q2, q3⟩ := read_fin HG.out HP.out HW1.out HK1.out (Below.refl _ _) (NewP.refl _ _) (.int .i64 2) (.int .u64 0) (.int .i64 0) (.slice none 0 0) (.slice none 0 0)
      exact bodyPost_ret (v := .agg #[.int .i64 2, .int .u64 0, .int .i64 0, .slice none 0 0, .slice none 0 0]) (by simp [results, Try.results23, go_sem, c40, c41, c42, c43, c44]) rfl ⟨none, 0, none, 0, rfl, Nat.le_refl _, Nat.le_refl _, fun W _ => C_nilW .u8 W, fun W _ => C_nilW .i64 W, q1, q2⟩
  by_cases e4 : k = 4
  · subst e4
    have hs : Aside0 (readS 4 st = (⟨4, 0, 0, (rawS st).1, []⟩, (rawS st).2)) := ⟨by simp [readS]⟩
    rw [hs.out]
    go_enter Try.func23, Try.ntmps23
    go_wp2_with (first
      | (go_at_call 31; refine (Raw_r w0 g st _ HI.out).mono ?_; rintro e w1 ⟨v1, rfl, HO, HW, HKK⟩; have HW1 := Aside0.mk HW; have HK1 := Aside0.mk HKK; obtain ⟨hb4, hb5⟩ := read_blocks HG.out HKK; obtain ⟨⟨c40, c41, c42, c43, c44⟩, f40, f41, f42, f43, f44⟩ := five_cells hb4; obtain ⟨⟨c50, c51, c52, c53, c54⟩, f50, f51, f52, f53, f54⟩ := five_cells hb5; clear HW HKK hb4 hb5; rw [HSZ.out] at HO; obtain ⟨A3, c3, rfl, hl3, hC⟩ := R_newC HO; have HC := Aside0.mk hC; have HL3 := Aside0.mk hl3; clear HO hC hl3))
    obtain ⟨q1, q2, q3⟩ := read_fin HG.out HP.out HW1.out HK1.out (Below.one 3 (.slice A3 (rawS st).1.length c3)) (NewP.one 3 (.slice A3 (rawS st).1.length c3)) (.int .i64 4) (.int .u64 0) (.int .i64 0) (.slice A3 (rawS st).1.length c3) (.slice none 0 0)
    exact bodyPost_ret (v := .agg #[.int .i64 4, .int .u64 0, .int .i64 0, .slice A3 (rawS st).1.length c3, .slice none 0 0]) (by simp [results, Try.results23, go_sem, c40, c41, c42, c43, c44]) rfl ⟨A3, c3, none, 0, rfl, HL3.out, Nat.le_refl _, fun W h => HC.out W (q3.trans (h.mono (by omega))), fun W _ => C_nilW .i64 W, q1, q2⟩
  by_cases e3 : k = 3
  · subst e3
    have hs : Aside0 (readS 3 st = (⟨3, 0, 0, (rawS st).1, []⟩, (rawS st).2)) := ⟨by simp [readS]⟩
    rw [hs.out]
    have HSN : Aside0 ((strOfNums (rawS st).1).size = (rawS st).1.length) := ⟨by unfold strOfNums; simp [ByteArray.size]⟩
    have hcv := fun W => print_bytes (P := Try.prog) 9 24 5 Try.underlying9 Try.underlying24 Try.underlying5 (strOfNums (rawS st).1) W

    go_enter Try.func23, Try.ntmps23
    go_wp2_with (first
      | (go_at_call 43; refine (Text_r w0 g st _ HI.out).mono ?_; rintro e w1 ⟨rfl, HW, HKK⟩; have HW1 := Aside0.mk HW; have HK1 := Aside0.mk HKK; obtain ⟨hb4, hb5⟩ := read_blocks HG.out HKK; have hbb := bytes_below (Below.refl w1.heap.size w1) (Nat.le_refl _) 5 (strOfNums (rawS st).1); obtain ⟨⟨c40, c41, c42, c43, c44⟩, f40, f41, f42, f43, f44⟩ := five_cells (blk_below hb4 hbb); obtain ⟨⟨c50, c51, c52, c53, c54⟩, f50, f51, f52, f53, f54⟩ := five_cells (blk_below hb5 hbb); have HBB := Aside0.mk hbb; clear HW HKK hb4 hb5 hbb))
    have hsz := HK1.out.keep.1
    rw [HSZ.out] at hsz
    obtain ⟨q1, q2, q3⟩ := read_fin HG.out HP.out HW1.out HK1.out ((HBB.out.mono (show w.heap.size ≤ w1.heap.size by omega)).trans (Below.one 3 (.slice (some ⟨w1.heap.size, 0, none⟩) (strOfNums (rawS st).1).size (grownCap w1 (strOfNums (rawS st).1).size 0 5)))) (NewP.one 3 (.slice (some ⟨w1.heap.size, 0, none⟩) (strOfNums (rawS st).1).size (grownCap w1 (strOfNums (rawS st).1).size 0 5))) (.int .i64 3) (.int .u64 0) (.int .i64 0) (.slice (some ⟨w1.heap.size, 0, none⟩) (strOfNums (rawS st).1).size (grownCap w1 (strOfNums (rawS st).1).size 0 5)) (.slice none 0 0)
    have hgc := grownCap_ge w1 (strOfNums (rawS st).1).size 0 5
    have hrd := bytes_reads w1 5 (strOfNums (rawS st).1) (by rw [HSN.out]; have := HRL.out; omega)
    rw [bytesOf_strOfNums _ HRB.out, HSN.out] at hrd
    rw [HSN.out] at hgc
    refine bodyPost_ret (v := .agg #[.int .i64 3, .int .u64 0, .int .i64 0, .slice (some ⟨w1.heap.size, 0, none⟩) (strOfNums (rawS st).1).size (grownCap w1 (strOfNums (rawS st).1).size 0 5), .slice none 0 0]) (by simp [results, Try.results23, go_sem, c40, c41, c42, c43, c44]) rfl ?_
    rw [HSN.out] at q1 q2 q3 ⊢
    refine ⟨some ⟨w1.heap.size, 0, none⟩, _, none, 0, rfl, hgc, Nat.le_refl _, fun W h => C_of_block hrd ?_, fun W _ => C_nilW .i64 W, q1, q2⟩
    have h2 := q3.trans (h.mono (show w.heap.size ≤ w.heap.size + 2 by omega))
    exact h2.2 w1.heap.size (by omega) (by rw [Lib.bytesWorld_size]; omega)
  have hs : Aside0 (readS k st = (⟨k, 0, 0, [], (intsS st).1⟩, (intsS st).2)) := ⟨by simp [readS, e0, e1, e2, e3, e4]⟩
  rw [hs.out]
  have hk0 : (k == 0) = false := beq_eq_false_iff_ne.mpr e0
  have hk1 : (k == 1) = false := beq_eq_false_iff_ne.mpr e1
  have hk2 : (k == 2) = false := beq_eq_false_iff_ne.mpr e2
  have hk3 : (k == 3) = false := beq_eq_false_iff_ne.mpr e3
  have hk4 : (k == 4) = false := beq_eq_false_iff_ne.mpr e4
  clear e0 e1 e2 e3 e4
  go_enter Try.func23, Try.ntmps23
  go_wp2_with (first
    | (go_at_call 33; refine (Ints_r w0 g st _ HI.out).mono ?_; rintro e w1 ⟨v1, rfl, HO, HW, HKK⟩; have HW1 := Aside0.mk HW; have HK1 := Aside0.mk HKK; obtain ⟨hb4, hb5⟩ := read_blocks HG.out HKK; obtain ⟨⟨c40, c41, c42, c43, c44⟩, f40, f41, f42, f43, f44⟩ := five_cells hb4; obtain ⟨⟨c50, c51, c52, c53, c54⟩, f50, f51, f52, f53, f54⟩ := five_cells hb5; clear HW HKK hb4 hb5; rw [HSZ.out] at HO; obtain ⟨A3, c3, rfl, hl3, hC⟩ := R_newC HO; have HC := Aside0.mk hC; have HL3 := Aside0.mk hl3; clear HO hC hl3))
  obtain ⟨q1, q2, q3⟩ := read_fin HG.out HP.out HW1.out HK1.out (Below.one 4 (.slice A3 (intsS st).1.length c3)) (NewP.one 4 (.slice A3 (intsS st).1.length c3)) (.int .i64 k) (.int .u64 0) (.int .i64 0) (.slice none 0 0) (.slice A3 (intsS st).1.length c3)
  exact bodyPost_ret (v := .agg #[.int .i64 k, .int .u64 0, .int .i64 0, .slice none 0 0, .slice A3 (intsS st).1.length c3]) (by simp [results, Try.results23, go_sem, c40, c41, c42, c43, c44]) rfl ⟨none, 0, A3, c3, rfl, Nat.le_refl _, HL3.out, fun W _ => C_nilW .u8 W, fun W h => HC.out W (q3.trans (h.mono (by omega))), q1, q2⟩
theorem read_one (b : Rb) (g : Nat) (k : Int) (x : S47) (st st' : St) (hx : readS k st = (x, st')) (w : World) (hI : RdW 79 b w g st) :
    Calls Try.prog 23 #[.pointer (some ⟨g, 0, none⟩), .int .i64 k] w fun e w' => ∃ A3 c3 A4 c4, e = .returned (.agg #[.int .i64 x.f0, .int .u64 x.f1, .int .i64 x.f2, .slice A3 x.f3.length c3, .slice A4 x.f4.length c4]) ∧
      x.f3.length ≤ c3 ∧ x.f4.length ≤ c4 ∧ (∀ W, NewP w.heap.size w' W → Kd.C (Kd.int .u8) W A3 x.f3.length x.f3) ∧ (∀ W, NewP w.heap.size w' W → Kd.C (Kd.int .i64) W A4 x.f4.length x.f4) ∧ RdW 79 b w' g st' ∧ Keeps w w' g := by
  have h := read_r b g st k w hI
  rw [hx] at h
  exact h
theorem wf_all {l : List Int} (h : ∀ x ∈ l, (Lit.int .i64 x).wf = true) : ∀ x ∈ l, -9223372036854775808 ≤ x ∧ x ≤ 9223372036854775807 := fun x hx => by
  have := bounds_i64 (h x hx)
  omega

-- NOT PRINTED: function 50 (refuterref02_Reader_Uint)

/-! ### refuterref02_Back: function 63 -/
def refuterref02_Back.f (a0 : Int) : Option (Int) := if (Int.tmod a0 2) = 1 then (some (wrap64 ((wrap64 (-(wrap64 (IntKind.u64.wrap (Int.tdiv a0 2))))) - 1))) else (some (wrap64 (IntKind.u64.wrap (Int.tdiv a0 2))))
set_option maxHeartbeats 8000000 in
set_option maxRecDepth 100000 in
theorem refuterref02_Back.calls (a0 : Int) (r : Int) (w : World) (h : refuterref02_Back.f a0 = some r) :
    Calls Try.prog 63 #[.int .u64 a0] w fun e w' => e = .returned (.int .i64 r) ∧ Drawn0 w w' := by
  have H : (if (Int.tmod a0 2) = 1 then (some (wrap64 ((wrap64 (-(wrap64 (IntKind.u64.wrap (Int.tdiv a0 2))))) - 1))) else (some (wrap64 (IntKind.u64.wrap (Int.tdiv a0 2))))) = some r := h
  clear h
  by_cases c2 : (Int.tmod a0 2) = 1
  · rw [if_pos c2] at H
    have c2b0 : ((Int.tmod a0 2) == 1) = true := beq_iff_eq.mpr c2
    have c2b1 : ((Int.tmod a0 2) != 1) = false := bne_eq_false_iff_eq.mpr c2
    clear c2
    obtain rfl := Option.some.inj H
    go_enter Try.func63, Try.ntmps63
    go_wp2
    go_ret
    exact ⟨by first | rfl | (simp; done) | (simp [*]; done), by repeat (first | exact Drawn0.refl _ | apply Drawn0.step)⟩
  · rw [if_neg c2] at H
    have c2b0 : ((Int.tmod a0 2) == 1) = false := beq_eq_false_iff_ne.mpr c2
    have c2b1 : ((Int.tmod a0 2) != 1) = true := bne_iff_ne.mpr c2
    obtain rfl := Option.some.inj H
    go_enter Try.func63, Try.ntmps63
    go_wp2
    go_ret
    exact ⟨by first | rfl | (simp; done) | (simp [*]; done), by repeat (first | exact Drawn0.refl _ | apply Drawn0.step)⟩

-- NOT PRINTED: function 51 (refuterref02_Reader_Int)

-- NOT PRINTED: function 52 (refuterref02_Reader_Bool)

-- NOT PRINTED: function 64 (refuterref02_Reader_length)

-- NOT PRINTED: function 53 (refuterref02_Reader_Raw)

-- NOT PRINTED: function 54 (refuterref02_Reader_Ints)

/-! ### refuterref02_Reader_Read: function 24 -/
set_option maxHeartbeats 8000000 in
set_option maxRecDepth 100000 in
theorem Read_f (w0 : Rb) (g : Nat) (st : St) (k : Int) (w : World) (hI : RdW 44 w0 w g st) :
    Calls Try.prog 24 #[.pointer (some ⟨g, 0, none⟩), .int .i64 k] w fun e w' => ∃ A3 c3 A4 c4, e = .returned (.agg #[.int .i64 (readS k st).1.f0, .int .u64 (readS k st).1.f1, .int .i64 (readS k st).1.f2, .slice A3 (readS k st).1.f3.length c3, .slice A4 (readS k st).1.f4.length c4]) ∧
      (readS k st).1.f3.length ≤ c3 ∧ (readS k st).1.f4.length ≤ c4 ∧ (∀ W, w0.pres W → NewP w.heap.size w' W → Kd.C (Kd.int .u8) W A3 (readS k st).1.f3.length (readS k st).1.f3) ∧ (∀ W, NewP w.heap.size w' W → Kd.C (Kd.int .i64) W A4 (readS k st).1.f4.length (readS k st).1.f4) ∧
      RdW 44 w0 w' g (readS k st).2 ∧ Keeps w w' g := by
  have hu := Try.underlying47
  have hb2 : Below w.heap.size w ((w.alloc (.cells #[.int .i64 0, .int .u64 0, .int .i64 0, .slice none 0 0, .slice none 0 0] 47)).alloc (.cells #[.int .i64 k, .int .u64 0, .int .i64 0, .slice none 0 0, .slice none 0 0] 47)) := below_alloc (below_alloc (Below.refl _ _) _) _
  have HI := Aside0.mk (hI.below hb2)
  have HG := Aside0.mk hI.lt
  have HP : Aside0 (∀ j, w0.P j → j < w.heap.size) := ⟨fun j hj => (hI.1 j hj).2⟩
  have HB2 := Aside0.mk hb2
  have hsz2 : ((w.alloc (.cells #[.int .i64 0, .int .u64 0, .int .i64 0, .slice none 0 0, .slice none 0 0] 47)).alloc (.cells #[.int .i64 k, .int .u64 0, .int .i64 0, .slice none 0 0, .slice none 0 0] 47)).heap.size = w.heap.size + 2 := by rw [World.size_alloc, World.size_alloc]
  have HSZ := Aside0.mk hsz2
  clear hI hb2 hsz2
  by_cases e0 : k = 0
  · subst e0
    have hs : Aside0 (readS 0 st = (⟨0, (uintS st).1, 0, [], []⟩, (uintS st).2)) := ⟨by simp [readS]⟩
    rw [hs.out]
    go_enter Try.func24, Try.ntmps24
    go_wp2_with (first
      | (go_at_call 50; refine (Uint_f w0 g st _ HI.out).mono ?_; rintro e w1 ⟨rfl, HW, HKK⟩; have HW1 := Aside0.mk HW; have HK1 := Aside0.mk HKK; obtain ⟨hb4, hb5⟩ := read_blocks HG.out HKK; obtain ⟨⟨c40, c41, c42, c43, c44⟩, f40, f41, f42, f43, f44⟩ := five_cells hb4; obtain ⟨⟨c50, c51, c52, c53, c54⟩, f50, f51, f52, f53, f54⟩ := five_cells hb5; clear HW HKK hb4 hb5))
    obtain ⟨q1, q2, q3⟩ := read_fin HG.out HP.out HW1.out HK1.out (Below.one 1 (.int .u64 ((uintS st).1 : Int))) (NewP.one 1 (.int .u64 ((uintS st).1 : Int))) (.int .i64 0) (.int .u64 ((uintS st).1 : Int)) (.int .i64 0) (.slice none 0 0) (.slice none 0 0)
    exact bodyPost_ret (v := .agg #[.int .i64 0, .int .u64 ((uintS st).1 : Int), .int .i64 0, .slice none 0 0, .slice none 0 0]) (by simp [results, Try.results24, go_sem, c40, c41, c42, c43, c44]) rfl ⟨none, 0, none, 0, rfl, Nat.le_refl _, Nat.le_refl _, fun W _ _ => C_nilW .u8 W, fun W _ => C_nilW .i64 W, q1, q2⟩
  by_cases e1 : k = 1
  · subst e1
    have hs : Aside0 (readS 1 st = (⟨1, 0, (intS st).1, [], []⟩, (intS st).2)) := ⟨by simp [readS]⟩
    rw [hs.out]
    go_enter Try.func24, Try.ntmps24
    go_wp2_with (first
      | (go_at_call 51; refine (Int_f w0 g st _ HI.out).mono ?_; rintro e w1 ⟨rfl, HW, HKK⟩; have HW1 := Aside0.mk HW; have HK1 := Aside0.mk HKK; obtain ⟨hb4, hb5⟩ := read_blocks HG.out HKK; obtain ⟨⟨c40, c41, c42, c43, c44⟩, f40, f41, f42, f43, f44⟩ := five_cells hb4; obtain ⟨⟨c50, c51, c52, c53, c54⟩, f50, f51, f52, f53, f54⟩ := five_cells hb5; clear HW HKK hb4 hb5))
    obtain ⟨q1, q2, q3⟩ := read_fin HG.out HP.out HW1.out HK1.out (Below.one 2 (.int .i64 (intS st).1)) (NewP.one 2 (.int .i64 (intS st).1)) (.int .i64 1) (.int .u64 0) (.int .i64 (intS st).1) (.slice none 0 0) (.slice none 0 0)
    exact bodyPost_ret (v := .agg #[.int .i64 1, .int .u64 0, .int .i64 (intS st).1, .slice none 0 0, .slice none 0 0]) (by simp [results, Try.results24, go_sem, c40, c41, c42, c43, c44]) rfl ⟨none, 0, none, 0, rfl, Nat.le_refl _, Nat.le_refl _, fun W _ _ => C_nilW .u8 W, fun W _ => C_nilW .i64 W, q1, q2⟩
  by_cases e2 : k = 2
  · subst e2
    cases hbs : (boolS st).1 with
    | true =>
      have hs : Aside0 (readS 2 st = (⟨2, 0, 1, [], []⟩, (boolS st).2)) := ⟨by simp [readS, hbs]⟩
      rw [hs.out]
      have HBS : Aside0 (∀ W, RdW 44 w0 W g st → Calls Try.prog 52 #[.pointer (some ⟨g, 0, none⟩)] W fun e w' => e = .returned (.bool true) ∧ RdW 44 w0 w' g (boolS st).2 ∧ Keeps W w' g) := ⟨fun W h => by have := Bool_f w0 g st W h; rw [hbs] at this; exact this⟩
      clear hbs
      go_enter Try.func24, Try.ntmps24
      go_wp2_with (first
        | (go_at_call 52; refine (HBS.out _ HI.out).mono ?_; rintro e w1 ⟨rfl, HW, HKK⟩; have HW1 := Aside0.mk HW; have HK1 := Aside0.mk HKK; obtain ⟨hb4, hb5⟩ := read_blocks HG.out HKK; obtain ⟨⟨c40, c41, c42, c43, c44⟩, f40, f41, f42, f43, f44⟩ := five_cells hb4; obtain ⟨⟨c50, c51, c52, c53, c54⟩, f50, f51, f52, f53, f54⟩ := five_cells hb5; clear HW HKK hb4 hb5))
      obtain ⟨q1, q2, q3⟩ := read_fin HG.out HP.out HW1.out HK1.out (Below.one 2 (.int .i64 1)) (NewP.one 2 (.int .i64 1)) (.int .i64 2) (.int .u64 0) (.int .i64 1) (.slice none 0 0) (.slice none 0 0)
      exact bodyPost_ret (v := .agg #[.int .i64 2, .int .u64 0, .int .i64 1, .slice none 0 0, .slice none 0 0]) (by simp [results, Try.results24, go_sem, c40, c41, c42, c43, c44]) rfl ⟨none, 0, none, 0, rfl, Nat.le_refl _, Nat.le_refl _, fun W _ _ => C_nilW .u8 W, fun W _ => C_nilW .i64 W, q1, q2⟩
    | false =>
      have hs : Aside0 (readS 2 st = (⟨2, 0, 0, [], []⟩, (boolS st).2)) := ⟨by simp [readS, hbs]⟩
      rw [hs.out]
      have HBS : Aside0 (∀ W, RdW 44 w0 W g st → Calls Try.prog 52 #[.pointer (some ⟨g, 0, none⟩)] W fun e w' => e = .returned (.bool false) ∧ RdW 44 w0 w' g (boolS st).2 ∧ Keeps W w' g) := ⟨fun W h => by have := Bool_f w0 g st W h; rw [hbs] at this; exact this⟩
      clear hbs
      go_enter Try.func24, Try.ntmps24
      go_wp2_with (first
        | (go_at_call 52; refine (HBS.out _ HI.out).mono ?_; rintro e w1 ⟨rfl, HW, HKK⟩; have HW1 := Aside0.mk HW; have HK1 := Aside0.mk HKK; obtain ⟨hb4, hb5⟩ := read_blocks HG.out HKK; obtain ⟨⟨c40, c41, c42, c43, c44⟩, f40, f41, f42, f43, f44⟩ := five_cells hb4; obtain ⟨⟨c50, c51, c52, c53, c54⟩, f50, f51, f52, f53, f54⟩ := five_cells hb5; clear HW HKK hb4 hb5))
      obtain ⟨q1, q2, q3⟩ := read_fin HG.out HP.out HW1.out HK1.out (Below.refl _ _) (NewP.refl _ _) (.int .i64 2) (.int .u64 0) (.int .i64 0) (.slice none 0 0) (.slice none 0 0)
      exact bodyPost_ret (v := .agg #[.int .i64 2, .int .u64 0, .int .i64 0, .slice none 0 0, .slice none 0 0]) (by simp [results, Try.results24, go_sem, c40, c41, c42, c43, c44]) rfl ⟨none, 0, none, 0, rfl, Nat.le_refl _, Nat.le_refl _, fun W _ _ => C_nilW .u8 W, fun W _ => C_nilW .i64 W, q1, q2⟩
  by_cases e4 : k = 4
  · subst e4
    have hs : Aside0 (readS 4 st = (⟨4, 0, 0, (rawS st).1, []⟩, (rawS st).2)) := ⟨by simp [readS]⟩
    rw [hs.out]
    go_enter Try.func24, Try.ntmps24
    go_wp2_with (first
      | (go_at_call 53; refine (Raw_f w0 g st _ HI.out).mono ?_; rintro e w1 ⟨A3, c3, rfl, hl3, hC, HW, HKK⟩; have HW1 := Aside0.mk HW; have HK1 := Aside0.mk HKK; obtain ⟨hb4, hb5⟩ := read_blocks HG.out HKK; obtain ⟨⟨c40, c41, c42, c43, c44⟩, f40, f41, f42, f43, f44⟩ := five_cells hb4; obtain ⟨⟨c50, c51, c52, c53, c54⟩, f50, f51, f52, f53, f54⟩ := five_cells hb5; clear HW HKK hb4 hb5; have HC := Aside0.mk hC; have HL3 := Aside0.mk hl3; clear hC hl3))
    obtain ⟨q1, q2, q3⟩ := read_fin HG.out HP.out HW1.out HK1.out (Below.one 3 (.slice A3 (rawS st).1.length c3)) (NewP.one 3 (.slice A3 (rawS st).1.length c3)) (.int .i64 4) (.int .u64 0) (.int .i64 0) (.slice A3 (rawS st).1.length c3) (.slice none 0 0)
    exact bodyPost_ret (v := .agg #[.int .i64 4, .int .u64 0, .int .i64 0, .slice A3 (rawS st).1.length c3, .slice none 0 0]) (by simp [results, Try.results24, go_sem, c40, c41, c42, c43, c44]) rfl ⟨A3, c3, none, 0, rfl, HL3.out, Nat.le_refl _, fun W h _ => HC.out W h, fun W _ => C_nilW .i64 W, q1, q2⟩
  by_cases e3 : k = 3
  · subst e3
    have hs : Aside0 (readS 3 st = (⟨3, 0, 0, (rawS st).1, []⟩, (rawS st).2)) := ⟨by simp [readS]⟩
    rw [hs.out]
    go_enter Try.func24, Try.ntmps24
    go_wp2_with (first
      | (go_at_call 53; refine (Raw_f w0 g st _ HI.out).mono ?_; rintro e w1 ⟨A3, c3, rfl, hl3, hC, HW, HKK⟩; have HW1 := Aside0.mk HW; have HK1 := Aside0.mk HKK; obtain ⟨hb4, hb5⟩ := read_blocks HG.out HKK; obtain ⟨⟨c40, c41, c42, c43, c44⟩, f40, f41, f42, f43, f44⟩ := five_cells hb4; obtain ⟨⟨c50, c51, c52, c53, c54⟩, f50, f51, f52, f53, f54⟩ := five_cells hb5; clear HW HKK hb4 hb5; have HC := Aside0.mk hC; have HL3 := Aside0.mk hl3; clear hC hl3))
    obtain ⟨q1, q2, q3⟩ := read_fin HG.out HP.out HW1.out HK1.out (Below.one 3 (.slice A3 (rawS st).1.length c3)) (NewP.one 3 (.slice A3 (rawS st).1.length c3)) (.int .i64 3) (.int .u64 0) (.int .i64 0) (.slice A3 (rawS st).1.length c3) (.slice none 0 0)
    exact bodyPost_ret (v := .agg #[.int .i64 3, .int .u64 0, .int .i64 0, .slice A3 (rawS st).1.length c3, .slice none 0 0]) (by simp [results, Try.results24, go_sem, c40, c41, c42, c43, c44]) rfl ⟨A3, c3, none, 0, rfl, HL3.out, Nat.le_refl _, fun W h _ => HC.out W h, fun W _ => C_nilW .i64 W, q1, q2⟩
  have hs : Aside0 (readS k st = (⟨k, 0, 0, [], (intsS st).1⟩, (intsS st).2)) := ⟨by simp [readS, e0, e1, e2, e3, e4]⟩
  rw [hs.out]
  have hk0 : (k == 0) = false := beq_eq_false_iff_ne.mpr e0
  have hk1 : (k == 1) = false := beq_eq_false_iff_ne.mpr e1
  have hk2 : (k == 2) = false := beq_eq_false_iff_ne.mpr e2
  have hk3 : (k == 3) = false := beq_eq_false_iff_ne.mpr e3
  have hk4 : (k == 4) = false := beq_eq_false_iff_ne.mpr e4
  clear e0 e1 e2 e3 e4
  go_enter Try.func24, Try.ntmps24
  go_wp2_with (first
    | (go_at_call 54; refine (Ints_f w0 g st _ HI.out).mono ?_; rintro e w1 ⟨v1, rfl, HO, HW, HKK⟩; have HW1 := Aside0.mk HW; have HK1 := Aside0.mk HKK; obtain ⟨hb4, hb5⟩ := read_blocks HG.out HKK; obtain ⟨⟨c40, c41, c42, c43, c44⟩, f40, f41, f42, f43, f44⟩ := five_cells hb4; obtain ⟨⟨c50, c51, c52, c53, c54⟩, f50, f51, f52, f53, f54⟩ := five_cells hb5; clear HW HKK hb4 hb5; rw [HSZ.out] at HO; obtain ⟨A3, c3, rfl, hl3, hC⟩ := R_newC HO; have HC := Aside0.mk hC; have HL3 := Aside0.mk hl3; clear HO hC hl3))
  obtain ⟨q1, q2, q3⟩ := read_fin HG.out HP.out HW1.out HK1.out (Below.one 4 (.slice A3 (intsS st).1.length c3)) (NewP.one 4 (.slice A3 (intsS st).1.length c3)) (.int .i64 k) (.int .u64 0) (.int .i64 0) (.slice none 0 0) (.slice A3 (intsS st).1.length c3)
  exact bodyPost_ret (v := .agg #[.int .i64 k, .int .u64 0, .int .i64 0, .slice none 0 0, .slice A3 (intsS st).1.length c3]) (by simp [results, Try.results24, go_sem, c40, c41, c42, c43, c44]) rfl ⟨none, 0, A3, c3, rfl, Nat.le_refl _, HL3.out, fun W _ _ => C_nilW .u8 W, fun W h => HC.out W (q3.trans (h.mono (by omega))), q1, q2⟩

/-- A state of type 44 at block g of W; what its slices lead to came in by w0. -/
def IsS44 (w0 W : World) (g : Nat) (f0 : List Int) (f1 : Int) : Prop := ∃ A0 c0, W.heap[g]? = some (.cells #[.slice A0 f0.length c0, .int .i64 f1] 44 (0, 0)) ∧ w0.heap.size ≤ g ∧ Kd.C (Kd.int .u8) w0 A0 f0.length f0
theorem IsS44.grown {w0 W : World} {g : Nat} {f0 : List Int} {f1 : Int} {W1 : World} {row : Option Nat} (h : IsS44 w0 W g f0 f1) (hw : W.grownBy W1 row) (hne : some g ≠ row) : IsS44 w0 W1 g f0 f1 := by
  obtain ⟨A0, c0, hb, hg, hr0⟩ := h
  exact ⟨A0, c0, blk_grown hb hw hne, hg, hr0⟩
theorem IsS44.own_neN {w0 W : World} {g : Nat} {f0 : List Int} {f1 : Int} {α : Type} {d : Kd α} {e : Nat} {base : Nat} {ok : Nat → Prop} {v : Value} {xs : List α} (h : IsS44 w0 W g f0 f1) (ho : Kd.N d e W base ok v xs) (ht : e ≠ 44) : some g ≠ v.ownBlock := by
  obtain ⟨A0, c0, hb, hg, hr0⟩ := h
  exact Kd.N_ne ho hb ht
theorem IsS44.fresh {w0 W : World} {g : Nat} {f0 : List Int} {f1 : Int} (h : IsS44 w0 W g f0 f1) : ∀ k, W.heap.size ≤ k → k ≠ g := by
  obtain ⟨A0, c0, hb, hg, hr0⟩ := h
  exact Kd.freshB hb
theorem IsS44.kept {w0 W : World} {g : Nat} {f0 : List Int} {f1 : Int} {W1 : World} {S : Nat → Prop} (h : IsS44 w0 W g f0 f1) (hk : Kept W W1 S) (hne : ¬ S g) : IsS44 w0 W1 g f0 f1 := by
  obtain ⟨A0, c0, hb, hg, hr0⟩ := h
  exact ⟨A0, c0, blk_kept hb hk hne, hg, hr0⟩
theorem IsS44.below {w0 W : World} {g : Nat} {f0 : List Int} {f1 : Int} {W1 : World} (h : IsS44 w0 W g f0 f1) (hw : Below W.heap.size W W1) : IsS44 w0 W1 g f0 f1 := h.grown (grown_of_below hw none) (by simp)
theorem IsS44.alloc {w0 W : World} {g : Nat} {f0 : List Int} {f1 : Int} (h : IsS44 w0 W g f0 f1) (o : Obj) : IsS44 w0 (W.alloc o) g f0 f1 := h.below (below_alloc (Below.refl _ _) o)
theorem IsS44.drewN {w0 W : World} {g : Nat} {f0 : List Int} {f1 : Int} (h : IsS44 w0 W g f0 f1) (m : Nat) : IsS44 w0 (W.drewN m) g f0 f1 := h
theorem IsS44.drew {w0 W : World} {g : Nat} {f0 : List Int} {f1 : Int} (h : IsS44 w0 W g f0 f1) : IsS44 w0 W.drew g f0 f1 := h
theorem IsS44.at_ {w0 W : World} {g : Nat} {f0 : List Int} {f1 : Int} {w' : World} {m : Nat} (hq : W.drewN m = w') (h : IsS44 w0 W g f0 f1) : IsS44 w0 w' g f0 f1 := by subst hq; exact IsS44.drewN h m
theorem IsS44.apart {w0 W : World} {g : Nat} {f0 : List Int} {f1 : Int} {α : Type} {d : Kd α} {e : Nat} {base : Nat} {ok : Nat → Prop} {v : Value} {xs : List α} (h : IsS44 w0 W g f0 f1) (ho : d.R e W base ok v xs) (ht : ∀ q, q ∈ e :: d.E → q ≠ 44) : d.R e W base (fun k => ok k ∧ k ≠ g) v xs := by
  obtain ⟨A0, c0, hb, hg, hr0⟩ := h
  exact Kd.R_types ho hb ht
theorem IsS44.own_ne {w0 W : World} {g : Nat} {f0 : List Int} {f1 : Int} {α : Type} {d : Kd α} {e : Nat} {base : Nat} {ok : Nat → Prop} {v : Value} {xs : List α} (h : IsS44 w0 W g f0 f1) (ho : d.R e W base ok v xs) (ht : e ≠ 44) : some g ≠ v.ownBlock := by
  obtain ⟨A0, c0, hb, hg, hr0⟩ := h
  exact Kd.R_ne ho hb ht
theorem IsS44.apartQ {w0 W : World} {g : Nat} {f0 : List Int} {f1 : Int} {α : Type} {d : Kd α} {e : Nat} {base : Nat} {ok : Nat → Prop} {v : Value} {xs : List α} (h : IsS44 w0 W g f0 f1) (ho : d.Q e W base ok v xs) (ht : ∀ q, q ∈ e :: d.E → q ≠ 44) : d.Q e W base (fun k => ok k ∧ k ≠ g) v xs := by
  obtain ⟨A0, c0, hb, hg, hr0⟩ := h
  exact Kd.Q_types ho hb ht
theorem IsS44.own_neQ {w0 W : World} {g : Nat} {f0 : List Int} {f1 : Int} {α : Type} {d : Kd α} {e : Nat} {base : Nat} {ok : Nat → Prop} {v : Value} {xs : List α} (h : IsS44 w0 W g f0 f1) (ho : d.Q e W base ok v xs) (ht : e ≠ 44) : some g ≠ v.ownBlock := by
  obtain ⟨A0, c0, hb, hg, hr0⟩ := h
  exact Kd.Q_ne ho hb ht
theorem IsS44.apartS {w0 W : World} {g : Nat} {f0 : List Int} {f1 : Int} {α : Type} {d : Kd α} {e : Nat} {base : Nat} {ok : Nat → Prop} {v : Value} {xs : List α} (h : IsS44 w0 W g f0 f1) (ho : d.S e W base ok v xs) (ht : ∀ q, q ∈ e :: d.E → q ≠ 44) : d.S e W base (fun k => ok k ∧ k ≠ g) v xs := by
  obtain ⟨A0, c0, hb, hg, hr0⟩ := h
  exact Kd.S_types ho hb ht
theorem IsS44.own_neS {w0 W : World} {g : Nat} {f0 : List Int} {f1 : Int} {α : Type} {d : Kd α} {e : Nat} {base : Nat} {ok : Nat → Prop} {v : Value} {xs : List α} (h : IsS44 w0 W g f0 f1) (ho : d.S e W base ok v xs) (ht : e ≠ 44) : some g ≠ v.ownBlock := by
  obtain ⟨A0, c0, hb, hg, hr0⟩ := h
  exact Kd.S_ne ho hb ht
theorem IsS44.lt {w0 W : World} {g : Nat} {f0 : List Int} {f1 : Int} (h : IsS44 w0 W g f0 f1) : g < W.heap.size := by
  obtain ⟨A0, c0, hb, hg, hr0⟩ := h
  exact blk_lt hb
theorem IsS44.ge {w0 W : World} {g : Nat} {f0 : List Int} {f1 : Int} (h : IsS44 w0 W g f0 f1) : w0.heap.size ≤ g := by
  obtain ⟨A0, c0, hb, hg, hr0⟩ := h
  exact hg
theorem IsS44.ne_blk {w0 W : World} {g : Nat} {f0 : List Int} {f1 : Int} {a : Nat} {cs : Array Value} {t : TypeId} {fr : Nat × Nat} (h : IsS44 w0 W g f0 f1) (hb2 : W.heap[a]? = some (.cells cs t fr)) (ht : t ≠ 44) : g ≠ a := by
  obtain ⟨A0, c0, hb, hg, hr0⟩ := h
  rintro rfl
  rw [hb] at hb2
  injection hb2 with hb2
  injection hb2 with _ ht2
  exact ht ht2.symm
theorem IsS44.far {w0 W : World} {g : Nat} {f0 : List Int} {f1 : Int} {p : Addr} (h : IsS44 w0 W g f0 f1) (hne : g ≠ p.block) (u : Value) : IsS44 w0 (W.setCell p u) g f0 f1 := by
  obtain ⟨A0, c0, hb, hg, hr0⟩ := h
  exact ⟨A0, c0, blk_far hb hne u, hg, hr0⟩
theorem cellS44_0 {W : World} {g : Nat} {A0 : Option Addr} {c0 : Nat} {f0 : List Int} {f1 : Int} (h : W.heap[g]? = some (.cells #[.slice A0 f0.length c0, .int .i64 f1] 44 (0, 0))) : W.cell? ⟨g, 0, none⟩ = some (.slice A0 f0.length c0) := (blk_cell h 0).trans rfl
theorem cellS44_1 {W : World} {g : Nat} {A0 : Option Addr} {c0 : Nat} {f0 : List Int} {f1 : Int} (h : W.heap[g]? = some (.cells #[.slice A0 f0.length c0, .int .i64 f1] 44 (0, 0))) : W.cell? ⟨g, 1, none⟩ = some (.int .i64 f1) := (blk_cell h 1).trans rfl
theorem IsS44.set_1 {w0 W : World} {g : Nat} {f0 : List Int} {f1 : Int} (h : IsS44 w0 W g f0 f1) (x : Int) : IsS44 w0 (W.setCell ⟨g, 1, none⟩ (.int .i64 x)) g f0 x := by
  obtain ⟨A0, c0, hb, hg, hr0⟩ := h
  exact ⟨A0, c0, by simpa using blk_set hb 1 (.int .i64 x), hg, hr0⟩
theorem IsS44.new (w0 W : World) (A0 : Option Addr) (c0 : Nat) (f0 : List Int) (f1 : Int) (hB : Below w0.heap.size w0 W) (hr0 : Kd.C (Kd.int .u8) w0 A0 f0.length f0) : IsS44 w0 (W.alloc (.cells #[.slice A0 f0.length c0, .int .i64 f1] 44)) W.heap.size f0 f1 := ⟨A0, c0, by simpa using heap_alloc_new W _, hB.size, hr0⟩

/-! ### refuterref02_Reader_End: function 26 -/
def refuterref02_Reader_End.f (s0_0 : List Int) (s0_1 : Int) : Option (Int × Int) := if s0_1 = 0 then (if (s0_0.length : Int) > 0 then (some (2, s0_1)) else (some (s0_1, s0_1))) else (some (s0_1, s0_1))
set_option maxHeartbeats 8000000 in
set_option maxRecDepth 100000 in
theorem refuterref02_Reader_End.calls (g : Nat) (s0_0 : List Int) (s0_1 : Int) (r1 : Int) (r2 : Int) (w0 w : World) (hI : IsS44 w0 w g s0_0 s0_1) (hB : Below w0.heap.size w0 w) (h : refuterref02_Reader_End.f s0_0 s0_1 = some (r1, r2)) :
    Calls Try.prog 26 #[.pointer (some ⟨g, 0, none⟩)] w fun e w' => e = .returned (.int .i64 r1) ∧ IsS44 w0 w' g s0_0 r2 ∧ Below w0.heap.size w0 w' ∧ KeepBut w w' g none := by
  have HI0 := Aside0.mk hI
  have HK := Aside0.mk (KeepBut.refl w g none)
  have HL := Aside0.mk hB.size
  clear hI
  have HW0 := Aside0.mk hB.size
  have HB := Aside0.mk hB
  clear hB
  have H : (if s0_1 = 0 then (if (s0_0.length : Int) > 0 then (some (2, s0_1)) else (some (s0_1, s0_1))) else (some (s0_1, s0_1))) = some (r1, r2) := h
  clear h
  by_cases c2 : s0_1 = 0
  · rw [if_pos c2] at H
    have c2b0 : (s0_1 == 0) = true := beq_iff_eq.mpr c2
    have c2b1 : (s0_1 != 0) = false := bne_eq_false_iff_eq.mpr c2
    clear c2
    by_cases c3 : (s0_0.length : Int) > 0
    · rw [if_pos c3] at H
      have c3b0 : decide (0 < (s0_0.length : Int)) = true := decide_eq_true c3
      have c3b1 : decide (0 < s0_0.length) = true := decide_eq_true (by omega)
      clear c3
      simp only [Option.some.injEq, Prod.mk.injEq] at H
      obtain ⟨rfl, rfl⟩ := H
      obtain ⟨ASz4_0, cSz4_0, HGz4, hgz4, HSz4_0⟩ := HI0.out
      have hcz4_0 := cellS44_0 HGz4
      have hcz4_1 := cellS44_1 HGz4
      have hfz4_1 := blk_frozen HGz4 1
      clear HGz4 hgz4
      go_enter Try.func26, Try.ntmps26
      go_wp2
      go_ret
      exact ⟨by first | rfl | (simp [errW_none, errW_some] <;> rfl) | (simp [*, errW_none, errW_some] <;> rfl), by repeat (first | (with_reducible first | exact HI0.out | apply IsS44.alloc | apply IsS44.drewN | apply IsS44.drew | apply IsS44.set_1) | exact HI0.out), by repeat (first | (with_reducible first | exact HB.out | apply below_alloc | apply pw_below_drewN | apply below_drew1 | refine below_set ?_ (IsS44.ge HI0.out)) | exact HB.out), by repeat (first | (with_reducible first | exact HK.out | apply KeepBut.set_ | apply keep_drewN | apply keep_drew | apply keep_alloc) | exact HK.out)⟩
    · rw [if_neg c3] at H
      have c3b0 : decide (0 < (s0_0.length : Int)) = false := decide_eq_false c3
      have c3b1 : decide (0 < s0_0.length) = false := decide_eq_false (by omega)
      clear c3
      simp only [Option.some.injEq, Prod.mk.injEq] at H
      obtain ⟨rfl, rfl⟩ := H
      obtain ⟨ASz5_0, cSz5_0, HGz5, hgz5, HSz5_0⟩ := HI0.out
      have hcz5_0 := cellS44_0 HGz5
      have hcz5_1 := cellS44_1 HGz5
      have hfz5_1 := blk_frozen HGz5 1
      clear HGz5 hgz5
      go_enter Try.func26, Try.ntmps26
      go_wp2
      go_ret
      exact ⟨by first | rfl | (simp [errW_none, errW_some] <;> rfl) | (simp [*, errW_none, errW_some] <;> rfl), by repeat (first | (with_reducible first | exact HI0.out | apply IsS44.alloc | apply IsS44.drewN | apply IsS44.drew | apply IsS44.set_1) | exact HI0.out), by repeat (first | (with_reducible first | exact HB.out | apply below_alloc | apply pw_below_drewN | apply below_drew1 | refine below_set ?_ (IsS44.ge HI0.out)) | exact HB.out), by repeat (first | (with_reducible first | exact HK.out | apply KeepBut.set_ | apply keep_drewN | apply keep_drew | apply keep_alloc) | exact HK.out)⟩
  · rw [if_neg c2] at H
    have c2b0 : (s0_1 == 0) = false := beq_eq_false_iff_ne.mpr c2
    have c2b1 : (s0_1 != 0) = true := bne_iff_ne.mpr c2
    simp only [Option.some.injEq, Prod.mk.injEq] at H
    obtain ⟨rfl, rfl⟩ := H
    obtain ⟨ASz6_0, cSz6_0, HGz6, hgz6, HSz6_0⟩ := HI0.out
    have hcz6_0 := cellS44_0 HGz6
    have hcz6_1 := cellS44_1 HGz6
    have hfz6_1 := blk_frozen HGz6 1
    clear HGz6 hgz6
    go_enter Try.func26, Try.ntmps26
    go_wp2
    go_ret
    exact ⟨by first | rfl | (simp [errW_none, errW_some] <;> rfl) | (simp [*, errW_none, errW_some] <;> rfl), by repeat (first | (with_reducible first | exact HI0.out | apply IsS44.alloc | apply IsS44.drewN | apply IsS44.drew | apply IsS44.set_1) | exact HI0.out), by repeat (first | (with_reducible first | exact HB.out | apply below_alloc | apply pw_below_drewN | apply below_drew1 | refine below_set ?_ (IsS44.ge HI0.out)) | exact HB.out), by repeat (first | (with_reducible first | exact HK.out | apply KeepBut.set_ | apply keep_drewN | apply keep_drew | apply keep_alloc) | exact HK.out)⟩

-- NOT PRINTED: function 4 (refuterlaw02_WireReads)

/-! ### refuterref01_Ints: function 27 -/
def refuterref01_Ints.f (l0 : List Int) (a1 : Int) : Option (List Int) := if 0 ≤ (mn (l0.length : Int) a1) then (if (mn (l0.length : Int) a1) ≤ (l0.length : Int) then (if ([] : List Int).length + (l0.take ((mn (l0.length : Int) a1) : Int).toNat).length < 17592186044416 then (some (([] : List Int) ++ (l0.take ((mn (l0.length : Int) a1) : Int).toNat))) else (none)) else (none)) else (none)
set_option maxHeartbeats 8000000 in
set_option maxRecDepth 100000 in
theorem refuterref01_Ints.calls (A0 : Option Addr) (c0 : Nat) (l0 : List Int) (a1 : Int) (r : List Int) (w : World) (hr0 : Kd.C (Kd.int .i64) w A0 l0.length l0) (hc0 : l0.length ≤ c0) (h : refuterref01_Ints.f l0 a1 = some r) :
    Calls Try.prog 27 #[.slice A0 l0.length c0, .int .i64 a1] w fun e w' => ∃ v0_ : Value, e = .returned (v0_) ∧ Kd.R (Kd.int .i64) 3 w' w.heap.size (fun _ => True) v0_ r ∧ Below w.heap.size w w' := by
  have HR0 := Aside0.mk hr0
  have HC0 := Aside0.mk hc0
  clear hr0 hc0
  have HB := Aside0.mk (Below.refl w.heap.size w)
  have H : (if 0 ≤ (mn (l0.length : Int) a1) then (if (mn (l0.length : Int) a1) ≤ (l0.length : Int) then (if ([] : List Int).length + (l0.take ((mn (l0.length : Int) a1) : Int).toNat).length < 17592186044416 then (some (([] : List Int) ++ (l0.take ((mn (l0.length : Int) a1) : Int).toNat))) else (none)) else (none)) else (none)) = some r := h
  clear h
  obtain ⟨ji3, hji3⟩ : ∃ j_ : Int, (mn (l0.length : Int) a1) = j_ := ⟨_, rfl⟩
  replace H : (if 0 ≤ (ji3) then (if (ji3) ≤ (l0.length : Int) then (if ([] : List Int).length + (l0.take ((ji3) : Int).toNat).length < 17592186044416 then (some (([] : List Int) ++ (l0.take ((ji3) : Int).toNat))) else (none)) else (none)) else (none)) = some r := by first | (rw [hji3] at H; exact H) | (simp only [hji3] at H ⊢; exact H)
  have hji3_ : (if a1 < (l0.length : Int) then a1 else (l0.length : Int)) = ji3 := hji3
  by_cases c4 : 0 ≤ (ji3)
  · rw [if_pos c4] at H
    have c4b0 := eq_true c4
    have c4b1 : decide (0 ≤ (ji3)) = true := decide_eq_true c4
    clear c4
    by_cases c5 : (ji3) ≤ (l0.length : Int)
    · rw [if_pos c5] at H
      have c5b0 := eq_true c5
      have c5b1 : decide ((ji3) ≤ (l0.length : Int)) = true := decide_eq_true c5
      clear c5
      by_cases c6 : ([] : List Int).length + (l0.take ((ji3) : Int).toNat).length < 17592186044416
      · rw [if_pos c6] at H
        have LMc6 := Aside0.mk c6
        clear c6
        obtain ⟨y205, hy205⟩ : ∃ y_ : List Int, y_ = (([] : List Int) ++ (l0.take ((ji3) : Int).toNat)) := ⟨_, rfl⟩
        replace H : (some y205) = some r := by first | (rw [hy205]; with_reducible exact H) | (have H2_ := (Option.bind_some _ _).symm.trans H; rw [hy205]; with_reducible exact H2_) | (have H2_ := (Option.bind_some _ _).symm.trans H; with_reducible exact H2_) | with_reducible exact H | (rw [hy205]; exact H) | exact H
        have Ny205 := Aside0.mk hy205
        clear hy205
        obtain rfl := Option.some.inj H
        obtain ⟨i07, hi07, _, hsz7, _⟩ := info_parts info3
        obtain ⟨hcut7, hA7, hC7⟩ := print_take_of (P := Try.prog) (Value.int .i64) 0 33 3 .i64 Try.underlying33 hi07 hsz7 A0 c0 l0 (ji3) (of_decide_eq_true (by first | (with_reducible assumption) | assumption)) (of_decide_eq_true (by first | (with_reducible assumption) | assumption)) HC0.out
        have HR204 := Aside0.mk (Kd.C_of_reads (h1 := fun _ => rfl) (hA7 _ (Kd.reads_of_C HR0.out)))
        have HC204 := Aside0.mk hC7
        clear hA7 hC7 hi07 hsz7
        go_enter Try.func27, Try.ntmps27
        go_wp2_with (first | ((with_reducible refine gate_builtin (b := .append) (xs := #[.tmp 6, .tmp 12]) rfl ?_); at_builtin; refine Kd.R_append_rows (Kd.int .i64) (w0 := w) w.heap.size rfl (.tmp 6) (.tmp 12) 33 3 (.int .i64 0) 8 rfl Try.underlying33 info3 rfl (by decide) (by omega) (.slice none 0 0) ([] : List Int) (l0.take ((ji3) : Int).toNat) _ _ _ (fun _ => True) (fun _ => False) rfl rfl ?aO ?aR (fun _ _ h => h) (fun _ h => h.elim) ?aF ?aB ?aS ?aL ?_; (case aR => first | (refine reads_row_len (show (l0.take ((ji3) : Int).toNat).length = (ji3).toNat from (by rw [List.length_take]; have h_ : ((ji3) : Int) ≤ (l0.length : Int) := of_decide_eq_true (by first | (with_reducible assumption) | assumption); omega)) ?_; repeat (first | exact HR204.out | (with_reducible refine Kd.C_alloc ?_ _) | (with_reducible refine Kd.C_drewN ?_ _) | (with_reducible refine Kd.C_drew ?_))) | (repeat (first | exact HR204.out | (with_reducible refine Kd.C_alloc ?_ _) | (with_reducible refine Kd.C_drewN ?_ _) | (with_reducible refine Kd.C_drew ?_)))); (case aB => exact (by repeat (first | (with_reducible first | exact HB.out | apply below_alloc | apply pw_below_drewN | apply below_drew1) | exact HB.out))); (case aF => exact (fun _ _ => trivial)); (case aO => exact ((Kd.R_nil _ _ _ _ (fun _ => True)))); (case aS => exact (below_size (by repeat (first | (with_reducible first | exact HB.out | apply below_alloc | apply pw_below_drewN | apply below_drew1) | exact HB.out)))); (case aL => have := LMc6.out; have hlx_ := (show (l0.take ((ji3) : Int).toNat).length = (ji3).toNat from (by rw [List.length_take]; have h_ : ((ji3) : Int) ≤ (l0.length : Int) := of_decide_eq_true (by first | (with_reducible assumption) | assumption); omega)); omega); intro v206 w8 ho hb hg hat; rw [← Ny205.out] at ho; have n0_ := Aside0.mk (hb); have n1_ := Aside0.mk (ho); clear HB; have HB := n0_; have HO207 := n1_; clear n0_ n1_; clear ho hb hg hat))
        go_ret
        exact ⟨_, by first | rfl | (simp [errW_none, errW_some] <;> rfl) | (simp only [← hji3]; first | rfl | (simp [errW_none, errW_some] <;> rfl)) | (simp [*, errW_none, errW_some] <;> rfl), by (with_reducible repeat (first | apply Kd.R_alloc | apply Kd.R_drewN | apply Kd.R_drew)); exact HO207.out, by repeat (first | (with_reducible first | exact HB.out | apply below_alloc | apply pw_below_drewN | apply below_drew1) | exact HB.out)⟩
      · rw [if_neg c6] at H
        exact absurd H (by simp)
    · rw [if_neg c5] at H
      exact absurd H (by simp)
  · rw [if_neg c4] at H
    exact absurd H (by simp)

-- NOT PRINTED: function 28 (wire_Writer_Raw)

-- NOT PRINTED: function 29 (wire_Writer_Ints)

-- NOT PRINTED: function 5 (refuterlaw02_WireOwn)

/-! ### refuterlaw02_write: function 34 -/
set_option maxHeartbeats 8000000 in
set_option maxRecDepth 100000 in
theorem write_w (base g : Nat) (bs : List Int) (x : S47) (A3 : Option Addr) (c3 : Nat) (A4 : Option Addr) (c4 : Nat) (w : World) (hI : WrW base w g bs) (hb : base ≤ w.heap.size)
    (g3 : ∀ W, Below base w W → Kd.C (Kd.int .u8) W A3 x.f3.length x.f3) (g4 : ∀ W, Below base w W → Kd.C (Kd.int .i64) W A4 x.f4.length x.f4) (hv : CanV x) (hl : bs.length + 100000 ≤ 140737488355328) :
    Calls Try.prog 34 #[.pointer (some ⟨g, 0, none⟩), .agg #[.int .i64 x.f0, .int .u64 x.f1, .int .i64 x.f2, .slice A3 x.f3.length c3, .slice A4 x.f4.length c4]] w fun e w' => e = .returned (.tuple #[]) ∧ WrW base w' g (bs ++ encV x) ∧ Below base w w' := by
  obtain ⟨⟨u0, u1⟩, ⟨n0, n1⟩, hby, hin, hl3, hl4⟩ := hv
  obtain ⟨k, u, n, b, l⟩ := x
  simp only at g3 g4 u0 u1 n0 n1 hby hin hl3 hl4 ⊢
  have hB1 : Below base w (w.alloc (.cells #[.int .i64 k, .int .u64 u, .int .i64 n, .slice A3 b.length c3, .slice A4 l.length c4] 47)) := (below_alloc (Below.refl _ _) _).mono hb
  have hI1 := Aside0.mk (hI.kept (below_alloc (Below.refl _ _) (.cells #[.int .i64 k, .int .u64 u, .int .i64 n, .slice A3 b.length c3, .slice A4 l.length c4] 47)))
  have HB1 := Aside0.mk hB1
  have HL := Aside0.mk hl
  have HL3 := Aside0.mk hl3
  have HL4 := Aside0.mk hl4
  have HC3 := Aside0.mk (g3 _ hB1)
  have HC4 : Aside0 (∀ W, Below base (w.alloc (.cells #[.int .i64 k, .int .u64 u, .int .i64 n, .slice A3 b.length c3, .slice A4 l.length c4] 47)) W → Kd.C (Kd.int .i64) W A4 l.length l) := ⟨fun W h => g4 W (hB1.trans h)⟩
  have hcs := fun W (h : Kd.C (Kd.int .u8) W A3 b.length b) => Kd.C_string (P := Try.prog) Try.underlying24 Try.underlying5 Try.underlying9 (c := c3) h
  have hcv := hcs _ (g3 _ hB1)
  have HBY := Aside0.mk hby
  have HIN := Aside0.mk hin
  have HSZ : Aside0 ((strOfNums b).size = b.length) := ⟨by unfold strOfNums; simp [ByteArray.size]⟩
  have HBS : Aside0 (base ≤ (w.alloc (.cells #[.int .i64 k, .int .u64 u, .int .i64 n, .slice A3 b.length c3, .slice A4 l.length c4] 47)).heap.size) := ⟨by rw [World.size_alloc]; omega⟩
  clear hI hl hl3 hl4 g3 g4 hB1 hby hin hcs
  have hend : ∀ (e : Ending) (w' : World) (bs' : List Int) (en : List Int), encV ⟨k, u, n, b, l⟩ = en → bs' = bs ++ en → e = .returned (.tuple #[]) → WrW base w' g bs' → Below base (w.alloc (.cells #[.int .i64 k, .int .u64 u, .int .i64 n, .slice A3 b.length c3, .slice A4 l.length c4] 47)) w' → e = .returned (.tuple #[]) ∧ WrW base w' g (bs ++ encV ⟨k, u, n, b, l⟩) ∧ Below base w w' := by
    intro e w' bs' en h1 h2 h3 h4 h5
    subst h2
    rw [h1]
    exact ⟨h3, h4, HB1.out.trans h5⟩
  have HEND := Aside0.mk hend
  clear hend
  by_cases e0 : k = 0
  · subst e0
    obtain ⟨u', rfl⟩ := Int.eq_ofNat_of_zero_le u0
    have hten : Aside0 (bs.length + (encU u').length ≤ 140737488355328) := ⟨by have := HL.out; have := encU_ten u' (by omega); omega⟩
    have hu' : u' < 18446744073709551616 := by omega
    go_enter Try.func34, Try.ntmps34
    go_wp2_with (first
      | (go_at_call 12; refine (Uint_w base g bs u' _ hI1.out hten.out hu').mono ?_; rintro e w2 ⟨rfl, HW, HB⟩))
    first | go_end0 | ((try simp only [Exit.inBlock, Exit.then]); refine bodyPost_ret (results_none rfl _ _ _) rfl ?_)
    exact HEND.out _ _ _ (encU u') (by simp [encV]) rfl rfl HW HB
  by_cases e1 : k = 1
  · subst e1
    go_enter Try.func34, Try.ntmps34
    go_wp2_with (first
      | (go_at_call 14; refine (Int_w base g bs n n0 n1 _ hI1.out (by have := HL.out; omega)).mono ?_; rintro e w2 ⟨rfl, HW, HB⟩))
    first | go_end0 | ((try simp only [Exit.inBlock, Exit.then]); refine bodyPost_ret (results_none rfl _ _ _) rfl ?_)
    exact HEND.out _ _ _ (encI n) (by simp [encV]) rfl rfl HW HB
  by_cases e2 : k = 2
  · subst e2
    go_enter Try.func34, Try.ntmps34
    go_wp2_with (first
      | (go_at_call 15; refine (Bool_w base g bs _ _ hI1.out (by have := HL.out; omega)).mono ?_; rintro e w2 ⟨rfl, HW, HB⟩))
    first | go_end0 | ((try simp only [Exit.inBlock, Exit.then]); refine bodyPost_ret (results_none rfl _ _ _) rfl ?_)
    exact HEND.out _ _ _ (encB (n == 1)) (by simp [encV]) rfl rfl HW HB
  have hk0 : (k == 0) = false := beq_eq_false_iff_ne.mpr e0
  have hk1 : (k == 1) = false := beq_eq_false_iff_ne.mpr e1
  have hk2 : (k == 2) = false := beq_eq_false_iff_ne.mpr e2
  by_cases e3 : k = 3
  · subst e3
    go_enter Try.func34, Try.ntmps34
    go_wp2_with (first
      | (go_at_call 40; refine (Text_w base g bs (strOfNums b) _ hI1.out (by have := HL.out; have := HL3.out; rw [HSZ.out]; omega)).mono ?_; rintro e w2 ⟨rfl, HW, HB⟩))
    first | go_end0 | ((try simp only [Exit.inBlock, Exit.then]); refine bodyPost_ret (results_none rfl _ _ _) rfl ?_)
    exact HEND.out _ _ _ (encRaw b) (by simp [encV]) (by rw [bytesOf_strOfNums b HBY.out]) rfl HW HB
  have hk3 : (k == 3) = false := beq_eq_false_iff_ne.mpr e3
  by_cases e4 : k = 4
  · subst e4
    go_enter Try.func34, Try.ntmps34
    go_wp2_with (first
      | (go_at_call 28; refine (Raw_w base g bs A3 c3 b _ hI1.out HC3.out (by have := HL.out; have := HL3.out; omega) HBY.out).mono ?_; rintro e w2 ⟨rfl, HW, HB⟩))
    first | go_end0 | ((try simp only [Exit.inBlock, Exit.then]); refine bodyPost_ret (results_none rfl _ _ _) rfl ?_)
    exact HEND.out _ _ _ (encRaw b) (by simp [encV]) rfl rfl HW HB
  have hk4 : (k == 4) = false := beq_eq_false_iff_ne.mpr e4
  have hen : Aside0 (encV ⟨k, u, n, b, l⟩ = encInts l) := ⟨by simp [encV, e0, e1, e2, e3, e4]⟩
  clear e0 e1 e2 e3 e4
  go_enter Try.func34, Try.ntmps34
  go_wp2_with (first
    | (go_at_call 29; refine (Ints_w base g bs A4 c4 l _ hI1.out HBS.out HC4.out (by have := HL.out; have := HL4.out; omega) HIN.out).mono ?_; rintro e w2 ⟨rfl, HW, HB⟩))
  first | go_end0 | ((try simp only [Exit.inBlock, Exit.then]); refine bodyPost_ret (results_none rfl _ _ _) rfl ?_)
  exact HEND.out _ _ _ (encInts l) hen.out rfl rfl HW HB

-- NOT PRINTED: function 6 (refuterlaw02_WireWrites)

/-! ### refuterlaw02_encode: function 35 -/
set_option maxHeartbeats 8000000 in
set_option maxRecDepth 100000 in
theorem encode_c (A : Option Addr) (c : Nat) (l : List S47) (w : World) (hR : Kd.C k47 w A l.length l) (hv : ∀ x ∈ l, CanV x) (hl : l.length ≤ 100) :
    Calls Try.prog 35 #[.slice A l.length c] w fun e w' => ∃ v, e = .returned v ∧ Kd.R (Kd.int .u8) 5 w' w.heap.size (fun _ => True) v (encVs l) ∧ Below w.heap.size w w' := by
  have HR := Aside0.mk hR
  have HV := Aside0.mk hv
  have HL := Aside0.mk hl
  have HW0 := Aside0.mk (WrW.new w)
  have HB0 : Aside0 (Below w.heap.size w (w.alloc (.cells #[.slice none 0 0] 26))) := ⟨below_alloc (Below.refl _ _) _⟩
  have hu := Try.underlying47
  clear hR hv hl
  go_enter Try.func35, Try.ntmps35
  go_wp2
  go_loopw [4] (fun i wr => ∃ k : Nat, k ≤ l.length ∧ i = .int .i64 k ∧ Aside0 (WrW w.heap.size wr w.heap.size (encVs (l.take k))) ∧ Aside0 (Below w.heap.size w wr)) (fun i _ => l.length - (intOf i).toNat)
  case atStart => exact ⟨0, Nat.zero_le _, rfl, ⟨by simpa [encVs] using HW0.out⟩, HB0⟩
  case round =>
    clear HW0 HB0
    obtain ⟨k, hk, rfl, HW, HB⟩ := hrel
    by_cases hlt : k < l.length
    · obtain ⟨ad, A3, c3, A4, c4, e1, hx0, hx1, hx2, hx3, hx4, l3, g3, l4, g4⟩ := at_T47 HR.out (k : Int) (by omega) (by omega)
      subst e1
      rw [Int.toNat_natCast] at hx0 hx1 hx2 hx3 hx4
      have HT := Aside0.mk (List.take_succ_eq_append_getElem hlt)
      have hr := rd_T_mem l k hlt
      rw [hr] at hx0 hx1 hx2 hx3 hx4 g3 g4
      have HC := Aside0.mk (HV.out l[k] (List.getElem_mem hlt))
      have HLK : Aside0 ((encVs (l.take k)).length + 100000 ≤ 140737488355328) := ⟨by
        have h1 := encVs_len (l.take k) (fun x hm => HV.out x (List.mem_of_mem_take hm)); have := HL.out
        rw [List.length_take] at h1; omega⟩
      clear hr l3 l4
      generalize l[k] = x at hx0 hx1 hx2 hx3 hx4 HT HC g3 g4
      have G3 : Aside0 (∀ W, Below w.heap.size wr W → Kd.C (Kd.int .u8) W A3 x.f3.length x.f3) := ⟨fun W h => Kd.C_below g3 (HB.out.trans h)⟩
      have G4 : Aside0 (∀ W, Below w.heap.size wr W → Kd.C (Kd.int .i64) W A4 x.f4.length x.f4) := ⟨fun W h => Kd.C_below g4 (HB.out.trans h)⟩
      replace hx0 := pw_cell_below HB.out hx0
      replace hx1 := pw_cell_below HB.out hx1
      replace hx2 := pw_cell_below HB.out hx2
      replace hx3 := pw_cell_below HB.out hx3
      replace hx4 := pw_cell_below HB.out hx4
      clear g3 g4
      have hk1 : wrap64 ((k : Int) + 1) = (k : Int) + 1 := by have := HL.out; unfold wrap64; omega
      go_wp2_with (first
        | (go_at_call 34; refine (write_w w.heap.size w.heap.size _ x A3 c3 A4 c4 _ HW.out HB.out.size G3.out G4.out HC.out HLK.out).mono ?_; rintro e w3 ⟨rfl, HW3, HB3⟩; have HW3 := Aside0.mk HW3; have HB3 := Aside0.mk HB3))
      exact ⟨⟨k + 1, by omega, by rw [hk1]; rfl, ⟨by rw [HT.out, encVs_snoc]; exact HW3.out⟩, ⟨HB.out.trans HB3.out⟩⟩, by rw [hk1]; simp only [intOf]; omega⟩
    · have hall : l.take k = l := List.take_of_length_le (by omega)
      rw [hall] at HW
      go_wp2_with (first
        | (go_at_call 16; refine (Done_w w.heap.size w.heap.size _ _ HW.out (by have := encVs_len l HV.out; have := HL.out; omega)).mono ?_; rintro e w4 ⟨v4, rfl, HO, HB4⟩; have HO := Aside0.mk HO; have HB4 := Aside0.mk HB4))
      go_ret
      exact ⟨_, rfl, Kd.R_lower HO.out HB.out.size, HB.out.trans (HB4.out.mono HB.out.size)⟩

/-! ### refuterlaw02_WireRound: function 7 -/
def refuterlaw02_WireRound.Pure : Prop := True
set_option maxHeartbeats 8000000 in
set_option maxRecDepth 100000 in
theorem WireRound_any (A : Option Addr) (c : Nat) (l : List Int) (u : Nat) (n : Int) (w : World) (hR : Kd.C (Kd.int .i64) w A l.length l) (hx : ∀ x ∈ l, -9223372036854775808 ≤ x ∧ x ≤ 9223372036854775807) (hu : u < 18446744073709551616) (hn : -9223372036854775808 ≤ n ∧ n ≤ 9223372036854775807) :
    Calls Try.prog 7 #[.slice A l.length c, .int .u64 (u : Int), .int .i64 n] w fun e w' => e = .returned (.bool true) ∧ Below w.heap.size w w' := by
  have HR := Aside0.mk hR
  have HX := Aside0.mk hx
  have HG2 : Aside0 (GenV (⟨0, (u : Int), 0, [], []⟩ : S47) ∧ GenV (⟨1, 0, n, [], []⟩ : S47)) := ⟨Or.inl ⟨rfl, by show (0 : Int) ≤ (u : Int); omega, by show (u : Int) < _; omega, rfl, rfl, rfl⟩, Or.inr (Or.inl ⟨rfl, rfl, hn.1, by show n < _; omega, rfl, rfl⟩)⟩
  have hut := Try.underlying47
  clear hR hx hu hn
  go_enter Try.func7, Try.ntmps7
  go_wp2_with (first
    | (go_at_call 19; refine (Vals_c A c l _ HR.out HX.out).mono ?_; rintro e w1 ⟨v1, xs, rfl, hO, hl8, hg, hB⟩; have HO1 := Aside0.mk hO; have HL8 := Aside0.mk hl8; have HG := Aside0.mk hg; have HB1 := Aside0.mk hB; clear hO hl8 hg hB)
    | ((with_reducible refine gate_builtin (b := .append) (xs := #[.tmp 11, .tmp 16]) rfl ?_); at_builtin
       refine appVs w.heap.size w1 ?hgd (.tmp 11) (.tmp 16) ?ho v1 xs [⟨0, (u : Int), 0, [], []⟩, ⟨1, 0, n, [], []⟩] [.int .i64 0, .int .u64 (u : Int), .int .i64 0, .slice none 0 0, .slice none 0 0, .int .i64 1, .int .u64 0, .int .i64 n, .slice none 0 0, .slice none 0 0] ?hs ?hx (Reps.snoc (ps := [⟨0, (u : Int), 0, [], []⟩]) (cs := [.int .i64 0, .int .u64 (u : Int), .int .i64 0, .slice none 0 0, .slice none 0 0]) (Reps.snoc (ps := []) (cs := []) (Reps.none _ _) (k47_mkM w1 w.heap.size _ ⟨0, (u : Int), 0, [], []⟩ (Kd.R_nil _ _ _ _ _) (Kd.R_nil _ _ _ _ _)) rfl) (k47_mkM w1 w.heap.size _ ⟨1, 0, n, [], []⟩ (Kd.R_nil _ _ _ _ _) (Kd.R_nil _ _ _ _ _)) rfl) HO1.out HB1.out.size (show 2 ≤ 1000 by decide) (by have := HL8.out; omega) ?_
       (case hgd => rfl)
       (case ho => rfl)
       (case hs => rfl)
       (case hx => rfl)
       intro v2 w2 HO2 HB2
       obtain ⟨all, hall⟩ : ∃ all, all = xs ++ [(⟨0, (u : Int), 0, [], []⟩ : S47), ⟨1, 0, n, [], []⟩] := ⟨_, rfl⟩
       have HGA : Aside0 (∀ x ∈ all, GenV x) := ⟨fun x hx => by
         rw [hall] at hx
         rcases List.mem_append.mp hx with h | h
         · exact HG.out x h
         · rcases List.mem_cons.mp h with h | h
           · rw [h]; exact HG2.out.1
           · rw [List.mem_singleton.mp h]; exact HG2.out.2⟩
       have HLA : Aside0 (all.length ≤ 10) := ⟨by have := HL8.out; rw [hall, List.length_append]; simp only [List.length_cons, List.length_nil]; omega⟩
       rw [← hall] at HO2
       obtain ⟨A2, c2, rfl, hlc2, hC2⟩ := Kd.R_reads HO2.out
       have HC2 := Aside0.mk hC2
       have HBW2 := Aside0.mk (HB1.out.trans HB2.out)
       clear hall HO2 HB2 HO1 HL8 HG HB1 HG2 hlc2 hC2)
    | (go_at_call 35; refine (encode_c A2 c2 all _ HC2.out (fun x hx => canV_of_gen (HGA.out x hx)) (by have := HLA.out; omega)).mono ?_; rintro e w3 ⟨v3, rfl, HO, HB⟩; obtain ⟨A3, c3, rfl, -, hn3, hC⟩ := C_row HO; have HC3 := Aside0.mk hC; have HN3 := Aside0.mk hn3; have HB3 := Aside0.mk HB; clear HO HB hC hn3)
    | (go_at_call 21; refine (Read_r A3 c3 (encVs all) _ HC3.out (by have := encVs_len all (fun x hx => canV_of_gen (HGA.out x hx)); have := HLA.out; omega) HN3.out (encVs_byte all (fun x hx => canV_of_gen (HGA.out x hx)))).mono ?_; rintro e w4 ⟨g, b, rfl, hRd, hb, hg, hB⟩; have HRD := Aside0.mk hRd; have HGG := Aside0.mk hg; have HB4 := Aside0.mk hB; clear hRd hb hg hB))
  have HB24 : Aside0 (Below w2.heap.size w2 w4) := ⟨HB3.out.trans (HB4.out.mono HB3.out.size)⟩
  have HGE : Aside0 (w2.heap.size ≤ g) := ⟨Nat.le_trans HB3.out.size HGG.out⟩
  clear HC3 HN3 HB3 HB4 HGG
  go_loopw [9] (fun v9 wr => ∃ k : Nat, v9 = .int .i64 (k : Int) ∧ k ≤ all.length ∧ Aside0 (RdW 79 b wr g (.ok (encVs (all.drop k)))) ∧ Aside0 (Keeps w4 wr g)) (fun v9 _ => all.length - (intOf v9).toNat)
  case atStart => exact ⟨0, rfl, Nat.zero_le _, HRD, ⟨Keeps.refl _ _⟩⟩
  case round =>
    clear HRD
    obtain ⟨k, rfl, hk, HRD, HK⟩ := hrel
    have hB2r : Below w2.heap.size w2 wr := HB24.out.trans (HK.out.below HB24.out.size HGE.out)
    have HB2r := Aside0.mk hB2r
    by_cases hlt : k < all.length
    · obtain ⟨ad, A5, c5, A6, c6, e1, hx0, hx1, hx2, hx3, hx4, l5, g5, l6, g6⟩ := at_T47 HC2.out (k : Int) (by omega) (by omega)
      subst e1
      rw [Int.toNat_natCast] at hx0 hx1 hx2 hx3 hx4
      have hr := rd_T_mem all k hlt
      rw [hr] at hx0 hx1 hx2 hx3 hx4 g5 g6 l5 l6
      have HGX := Aside0.mk (HGA.out all[k] (List.getElem_mem hlt))
      have hdr : encVs (all.drop k) = encV all[k] ++ encVs (all.drop (k + 1)) := by rw [List.drop_eq_getElem_cons hlt, encVs_cons]
      have HRS : Aside0 (readS all[k].f0 (.ok (encVs (all.drop k))) = (all[k], .ok (encVs (all.drop (k + 1))))) := ⟨by rw [hdr]; exact readS_enc _ HGX.out _⟩
      clear hr hdr
      generalize all[k] = x at hx0 hx1 hx2 hx3 hx4 g5 g6 l5 l6 HGX HRS
      have HXL : Aside0 (x.f3.length ≤ 5000 ∧ x.f4.length ≤ 5000) := ⟨(canV_of_gen HGX.out).2.2.2.2⟩
      have HF : Aside0 (∀ W, Below w2.heap.size w2 W → (W.cell? (ad.add (k * 5)) = some (.int .i64 x.f0) ∧ W.cell? ⟨(ad.add (k * 5)).block, (ad.add (k * 5)).off + 1, none⟩ = some (.int .u64 x.f1) ∧ W.cell? ⟨(ad.add (k * 5)).block, (ad.add (k * 5)).off + 2, none⟩ = some (.int .i64 x.f2) ∧ W.cell? ⟨(ad.add (k * 5)).block, (ad.add (k * 5)).off + 3, none⟩ = some (.slice A5 x.f3.length c5) ∧ W.cell? ⟨(ad.add (k * 5)).block, (ad.add (k * 5)).off + 4, none⟩ = some (.slice A6 x.f4.length c6)) ∧ Kd.C (Kd.int .u8) W A5 x.f3.length x.f3 ∧ Kd.C (Kd.int .i64) W A6 x.f4.length x.f4) :=
        ⟨fun W h => ⟨⟨pw_cell_below h hx0, pw_cell_below h hx1, pw_cell_below h hx2, pw_cell_below h hx3, pw_cell_below h hx4⟩, Kd.C_below g5 h, Kd.C_below g6 h⟩⟩
      have L5 := Aside0.mk l5
      have L6 := Aside0.mk l6
      clear hx0 hx1 hx2 hx3 hx4 g5 g6 l5 l6
      obtain ⟨⟨hx0, hx1, hx2, hx3, hx4⟩, -, -⟩ := HF.out wr hB2r
      have HB2d : Aside0 (Below w2.heap.size w2 wr.drew) := ⟨below_drew hB2r⟩
      have HKd : Aside0 (Keeps w4 wr.drew g) := ⟨HK.out.drewN 1⟩
      have hRd : RdW 79 b wr.drew g (.ok (encVs (all.drop k))) := HRD.out.drewN 1
      have hk1 : wrap64 ((k : Int) + 1) = (k : Int) + 1 := by have := HLA.out; unfold wrap64; omega
      clear hB2r
      go_wp2
      go_region_held3 (fun W' => W'.cell? (ad.add (k * 5)) = some (.int .i64 x.f0) ∧ W'.cell? ⟨(ad.add (k * 5)).block, (ad.add (k * 5)).off + 1, none⟩ = some (.int .u64 x.f1) ∧ W'.cell? ⟨(ad.add (k * 5)).block, (ad.add (k * 5)).off + 2, none⟩ = some (.int .i64 x.f2) ∧ W'.cell? ⟨(ad.add (k * 5)).block, (ad.add (k * 5)).off + 3, none⟩ = some (.slice A5 x.f3.length c5) ∧ W'.cell? ⟨(ad.add (k * 5)).block, (ad.add (k * 5)).off + 4, none⟩ = some (.slice A6 x.f4.length c6)) (first | exact ⟨hz0, hz1, hz2, hz3, hz4⟩ | exact ⟨hy0, hy1, hy2, hy3, hy4⟩ | exact ⟨hx0, hx1, hx2, hx3, hx4⟩) (first
        | (go_at_call 23; refine (read_one b g x.f0 x _ _ HRS.out _ (by assumption)).mono ?_; rintro e w5 ⟨A7, c7, A8, c8, rfl, l7, l8, h7, h8, hRd5, hK5⟩; have L7 := Aside0.mk l7; have L8 := Aside0.mk l8; have H7 := Aside0.mk h7; have H8 := Aside0.mk h8; have HRD5 := Aside0.mk hRd5; have HK5 := Aside0.mk hK5; have hB5 := HB2d.out.trans (hK5.below HB2d.out.size HGE.out); obtain ⟨⟨hy0, hy1, hy2, hy3, hy4⟩, g5, g6⟩ := HF.out w5 hB5; have G5 := Aside0.mk g5; have G6 := Aside0.mk g6; clear l7 l8 h7 h8 hRd5 hK5 hB5 g5 g6)
        | (go_at_call 22; refine (same_c x (by have := HXL.out; omega) (by have := HXL.out; omega) A7 c7 A8 c8 A5 c5 A6 c6 _ (H7.out _ (NewP.refl _ _)) L7.out (H8.out _ (NewP.refl _ _)) L8.out G5.out L5.out G6.out L6.out).mono ?_; rintro e w6 ⟨rfl, hB6⟩; have HB6 := Aside0.mk hB6; have hz0 := pw_cell_below hB6 hy0; have hz1 := pw_cell_below hB6 hy1; have hz2 := pw_cell_below hB6 hy2; have hz3 := pw_cell_below hB6 hy3; have hz4 := pw_cell_below hB6 hy4; clear hB6))
      all_goals
        go_wp2
        exact ⟨⟨k + 1, by first | (rw [hk1]; rfl) | rfl, by omega, ⟨HRD5.out.below HB6.out⟩, ⟨(HKd.out.trans HK5.out).belowB (HB6.out.mono (Nat.le_trans HKd.out.keep.1 HK5.out.keep.1))⟩⟩, by first | (rw [hk1]; simp only [intOf]; omega) | (simp only [intOf]; omega)⟩
    · have hd : all.drop k = [] := List.drop_eq_nil_of_le (by omega)
      have HRE : Aside0 (RdW 79 b wr g (.ok [])) := ⟨by have h := HRD.out; rw [hd] at h; exact h⟩
      clear hd hB2r HRD
      have HLV := fun W => refuterlaw02_lives.calls true W rfl
      go_wp2_with (first
        | (go_at_call 25; refine (End_r' (st := .ok []) (n := 0) rfl _ HRE.out).mono ?_; rintro e w5 ⟨rfl, hd⟩; have HB5 := Aside0.mk (HB2r.out.trans (hd.below.mono HB2r.out.size)); clear hd)
        | (go_at_call 17; refine (HLV _).mono ?_; rintro e w6 ⟨rfl, HB⟩; have HB6 := Aside0.mk (HB5.out.trans (HB.mono HB5.out.size)); clear HB))
      go_ret
      exact ⟨rfl, HBW2.out.trans (HB6.out.mono HBW2.out.size)⟩
theorem refuterlaw02_WireRound.walk (P : refuterlaw02_WireRound.Pure) (a0 : Option Addr) (len0 cap0 : Nat) (z0 : List Int) (a1 : Int) (a2 : Int) (w : World) (w0 : (a0 = none ∧ len0 = 0 ∧ cap0 = 0 ∧ z0 = []) ∨ ∃ x, a0 = some x ∧ len0 ≤ cap0 ∧ cap0 ≤ maxLen ∧ z0.length = cap0 ∧ (∀ i, i < z0.length → w.cell? (x.add i) = some (.int .i64 (z0.getD i 0))) ∧ ∀ n ∈ z0, (Lit.int .i64 n).wf = true) (_y0 : len0 * 8 ≤ 140737488351232) (w1 : (Lit.int .u64 a1).wf = true) (w2 : (Lit.int .i64 a2).wf = true) :
    Calls Try.prog 7 #[.slice a0 len0 cap0, .int .u64 a1, .int .i64 a2] w fun e w' => e = .returned (.bool true) ∧ Below w.heap.size w w' := by
  obtain ⟨l, rfl, hr0, hm0, hw0, hc0⟩ := ReadsInt.ofRowC w0
  have h := bounds_u64 w1
  have h2 := bounds_i64 w2
  obtain ⟨n, rfl⟩ := Int.eq_ofNat_of_zero_le h.1
  exact WireRound_any _ _ l n a2 w (Kd.C_of_reads (d := (0 : Int)) (h1 := fun _ => rfl) hr0) (wf_all hw0) (by omega) (by omega)

-- NOT PRINTED: function 8 (refuterlaw02_WireOne)

end Go.Proofs.Ytleomgkogbenaaa.PA
