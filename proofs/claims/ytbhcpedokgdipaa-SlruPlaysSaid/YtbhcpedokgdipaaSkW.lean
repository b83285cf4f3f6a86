/- The sketch of the program: walks. -/
import Derived.Test.YtbhcpedokgdipaaSkP
import Derived.Test.YtbhcpedokgdipaaArr
import Derived.Deep.RegionHeld3
import Derived.BigRegion
namespace Go.Proofs.Ytbhcpedokgdipaa
open Go.RowKit
set_option linter.unusedVariables false

/-- A row of words. -/
def wd (W : Nat → Nat) (i : Nat) : Value := .int .u64 (W i : Int)

theorem get_any (g L : Nat) (W : Nat → Nat) (w : World) (h : Arr w g 23 L (wd W)) (hL : L ≤ 4096) (i : Nat) (hi : i / 16 < L) (hx : W (i / 16) < 18446744073709551616) :
    Calls Try.prog 56 #[.slice (some ⟨g, 0, none⟩) L L, .int .i64 (i : Int)] w fun e w' => e = .returned (.int .i64 (cnt W i : Int)) ∧ w = w' := by
  have hc := h.cell hi
  have q : ((i : Int) / 16).toNat = i / 16 := by omega
  have q1 : ((i : Int) / 16) < (L : Int) := by omega
  have m : (4 * ((i : Int) % 16)).toNat = 4 * (i % 16) := by omega
  have R := Lib.hid (get_word (W (i / 16)) (i % 16) hx)
  unfold wd at hc
  go_enter Try.func56, Try.ntmps56
  go_wp2
  go_ret
  refine ⟨ret_i64 ?_, rfl⟩
  rw [cnt, ← R.out]
  push_cast
  rfl

/-- The words behind one more in counter i. -/
def moreW (W : Nat → Nat) (i : Nat) : Nat → Nat := if cnt W i < 15 then (fun q => if q = i / 16 then W (i / 16) + 2 ^ (4 * (i % 16)) else W q) else W

theorem moreW_lt {W : Nat → Nat} {i : Nat} (hx : ∀ q, W q < 18446744073709551616) : ∀ q, moreW W i q < 18446744073709551616 := by
  intro q
  unfold moreW
  split
  · next h =>
    simp only
    split
    · exact (cnt_more (hx _) h).1
    · exact hx q
  · exact hx q

theorem cnt_moreW {W : Nat → Nat} {i : Nat} (hx : W (i / 16) < 18446744073709551616) (k : Nat) : cnt (moreW W i) k = if k = i then min (cnt W k + 1) 15 else cnt W k := by
  unfold moreW
  split
  · next h =>
    rw [(cnt_more hx h).2 k]
    split
    · next e => subst e; omega
    · rfl
  · next h =>
    split
    · next e => subst e; have := cnt_lt W k; omega
    · rfl

theorem more_any (g L : Nat) (W : Nat → Nat) (w : World) (h : Arr w g 23 L (wd W)) (hL : L ≤ 4096) (i : Nat) (hi : i / 16 < L) (hx : W (i / 16) < 18446744073709551616) :
    Calls Try.prog 58 #[.slice (some ⟨g, 0, none⟩) L L, .int .i64 (i : Int)] w fun e w' => e = .returned (.tuple #[]) ∧ Arr w' g 23 L (wd (moreW W i)) ∧ Keeps (fun k => k = g) w w' := by
  have hc := h.cell hi
  have hf := h.free (i / 16)
  have q : ((i : Int) / 16).toNat = i / 16 := by omega
  have q1 : ((i : Int) / 16) < (L : Int) := by omega
  have m : (4 * ((i : Int) % 16)).toNat = 4 * (i % 16) := by omega
  have G := Lib.hid (get_any g L W w h hL i hi hx)
  unfold wd at hc
  by_cases hn : cnt W i < 15
  · have hn' : ((cnt W i : Nat) : Int) < 15 := by omega
    obtain ⟨hb, -⟩ := cnt_more hx hn
    have E := Lib.hid (show IntKind.u64.wrap ((W (i / 16) : Int) + IntKind.u64.wrap (2 ^ (4 * (i % 16)))) = ((W (i / 16) + 2 ^ (4 * (i % 16)) : Nat) : Int) by
      rw [IntKind.wrap_u64, IntKind.wrap_u64]
      have e : ((2 : Int) ^ (4 * (i % 16))) = ((2 ^ (4 * (i % 16)) : Nat) : Int) := by push_cast; rfl
      rw [e]; generalize 2 ^ (4 * (i % 16)) = p at *; omega)
    have F := Lib.hid (h.set (i / 16) (.int .u64 ((W (i / 16) + 2 ^ (4 * (i % 16)) : Nat) : Int)))
    clear hb h
    go_enter Try.func58, Try.ntmps58
    go_wp2_with fail
    refine G.out.mono ?_
    rintro e w' ⟨rfl, rfl⟩
    go_wp2_with fail
    go_region
    go_wp2
    go_end0
    rw [E.out]
    refine ⟨rfl, ?_, ((Keeps.refl (fun k => k = g) w).setCell (p := ⟨g, i / 16, none⟩) (.inl rfl) _).drew⟩
    refine Arr.congr (Arr.drewN F.out 1) (fun j hj => ?_)
    unfold moreW wd
    rw [if_pos hn]
    split <;> rfl
  · have hn' : ¬ ((cnt W i : Nat) : Int) < 15 := by omega
    go_enter Try.func58, Try.ntmps58
    go_wp2_with fail
    refine G.out.mono ?_
    rintro e w' ⟨rfl, rfl⟩
    go_wp2
    go_end0
    refine ⟨rfl, ?_, Keeps.refl _ _⟩
    unfold moreW
    rw [if_neg hn]
    exact h

/-- The cells of a sketch's head. -/
def topF (g : Nat → Nat) (seed : Int) (width L : Nat) : Nat → Value
  | 0 => .int .u64 seed
  | 1 => .int .i64 (width : Int)
  | r + 2 => .slice (some ⟨g r, 0, none⟩) L L

/-- A sketch of the program: its head at block b, its rows at blocks g 0 .. g 3, the words W. -/
structure Sk (w : World) (b : Nat) (g : Nat → Nat) (seed : Int) (width L : Nat) (W : Nat → Nat → Nat) : Prop where
  top : Arr w b 42 6 (topF g seed width L)
  row : ∀ r, r < 4 → Arr w (g r) 23 L (wd (W r))
  inj : ∀ r s, r < 4 → s < 4 → g r = g s → r = s
  wds : ∀ r q, W r q < 18446744073709551616
  w1 : 1 ≤ width
  w2 : width ≤ 4096
  hl : L = (width + 15) / 16
  s0 : 0 ≤ seed
  s1 : seed ≤ 18446744073709551615

theorem Sk.keep {S : Nat → Prop} {w w' : World} {b : Nat} {g : Nat → Nat} {seed : Int} {width L : Nat} {W : Nat → Nat → Nat} (h : Sk w b g seed width L W) (k : Keeps S w w') (hb : ¬ S b) (hg : ∀ r, r < 4 → ¬ S (g r)) : Sk w' b g seed width L W :=
  { h with top := h.top.keep k hb, row := fun r hr => (h.row r hr).keep k (hg r hr) }

theorem Sk.below {w w' : World} {b : Nat} {g : Nat → Nat} {seed : Int} {width L : Nat} {W : Nat → Nat → Nat} (h : Sk w b g seed width L W) (k : Below w.heap.size w w') : Sk w' b g seed width L W :=
  h.keep (Keeps.of_below k) (Nat.not_le.2 h.top.lt) (fun r hr => Nat.not_le.2 (h.row r hr).lt)

theorem Sk.drewN {w : World} {b : Nat} {g : Nat → Nat} {seed : Int} {width L : Nat} {W : Nat → Nat → Nat} (h : Sk w b g seed width L W) (n : Nat) : Sk (w.drewN n) b g seed width L W :=
  { h with top := h.top, row := h.row }
theorem Sk.drew {w : World} {b : Nat} {g : Nat → Nat} {seed : Int} {width L : Nat} {W : Nat → Nat → Nat} (h : Sk w b g seed width L W) : Sk w.drew b g seed width L W :=
  { h with top := h.top, row := h.row }

theorem real_any {w : World} {b : Nat} {g : Nat → Nat} {seed : Int} {width L : Nat} {W : Nat → Nat → Nat} (h : Sk w b g seed width L W) :
    Calls Try.prog 54 #[.pointer (some ⟨b, 0, none⟩)] w fun e w' => e = .returned (.bool true) ∧ w = w' := by
  have h1 : w.cell? ⟨b, 1, none⟩ = some (.int .i64 (width : Int)) := h.top.cell (i := 1) (by omega)
  have h2 : (0 : Int) < (width : Int) := by have := h.w1; omega
  have h3 : 0 < width := h.w1
  go_enter Try.func54, Try.ntmps54
  go_wp2
  go_ret
  exact ⟨rfl, rfl⟩

/-- Four places for a key. -/
theorem all4_any (seed n most : Int) (h0 : 0 ≤ seed) (h1 : seed ≤ 18446744073709551615) (g0 : 0 ≤ n) (g1 : n ≤ 18446744073709551615) (hm : 1 ≤ most) (hm1 : most ≤ 9223372036854775807) (w : World) :
    Calls Try.prog 55 #[.int .u64 seed, .int .u64 n, .int .i64 4, .int .i64 most] w fun e w' => ∃ a c, e = .returned (.slice (some ⟨a, 0, none⟩) 4 c) ∧ w.heap.size ≤ a ∧ 4 ≤ c ∧ (∀ k, k < 4 → w'.cell? ⟨a, k, none⟩ = some (.int .i64 (pickI seed n (k : Int) most))) ∧ Below w.heap.size w w' :=
  (all_any seed n most 4 h0 h1 g0 g1 (by omega) hm hm1 w).mono fun e w' ⟨v, he, hown, hb⟩ => by
    rcases hown.2 with ⟨_, h0⟩ | ⟨a, c, cur, rfl, hN, hg, hc, _, _, ht⟩
    · omega
    · refine ⟨a, c, he, hN, hc, fun k hk => ?_, hb⟩
      have := hown.cells (g := a) rfl k (.int .i64 (pickI seed n (k : Int) most)) (by simp [picks, hk])
      unfold Addr.add at this
      split at this
      · next h0 => subst h0; simpa using this
      · simpa using this

def pickN (seed key : Int) (width r : Nat) : Nat := (pickI seed key (r : Int) (width : Int)).toNat
theorem pickN_lt (seed key : Int) (width r : Nat) (h : 1 ≤ width) : pickN seed key width r < width := by
  have := pickI_bd seed key r width (by omega)
  unfold pickN; omega
theorem pickN_int (seed key : Int) (width r : Nat) (h : 1 ≤ width) : pickI seed key (r : Int) (width : Int) = (pickN seed key width r : Int) := by
  have := pickI_bd seed key r width (by omega)
  unfold pickN; omega

/-- The least of the first k counters of a key, and 15. -/
def least (c : Nat → Nat) : Nat → Nat
  | 0 => 15
  | k + 1 => min (least c k) (c k)
theorem least_le (c : Nat → Nat) (k : Nat) : least c k ≤ 15 := by
  induction k with
  | zero => exact Nat.le_refl _
  | succ k ih => simp only [least]; omega

theorem count_any {w : World} {b : Nat} {g : Nat → Nat} {seed : Int} {width L : Nat} {W : Nat → Nat → Nat} (h : Sk w b g seed width L W) (key : Int) (k0 : 0 ≤ key) (k1 : key ≤ 18446744073709551615) :
    Calls Try.prog 15 #[.pointer (some ⟨b, 0, none⟩), .int .u64 key] w fun e w' => e = .returned (.int .i64 (least (fun r => cnt (W r) (pickN seed key width r)) 4 : Int)) ∧ Below w.heap.size w w' := by
  have c0 : w.cell? ⟨b, 0, none⟩ = some (.int .u64 seed) := h.top.cell (i := 0) (by omega)
  have c1 : w.cell? ⟨b, 1, none⟩ = some (.int .i64 (width : Int)) := h.top.cell (i := 1) (by omega)
  have R := Lib.hid (real_any h)
  have A := Lib.hid (fun w => all4_any seed key (width : Int) h.s0 h.s1 k0 k1 (by have := h.w1; omega) (by have := h.w2; omega) w)
  have O0 := Lib.hid (fun w1 (hb : Below w.drew.heap.size w.drew w1) => (hb.cell (World.block_lt_of_cell? w _ c0)).trans c0)
  have O1 := Lib.hid (fun w1 (hb : Below w.drew.heap.size w.drew w1) => (hb.cell (World.block_lt_of_cell? w _ c1)).trans c1)
  have H := Lib.hid h
  clear h
  go_enter Try.func15, Try.ntmps15
  go_wp2_with fail
  refine R.out.mono ?_
  rintro e w' ⟨rfl, rfl⟩
  go_wp2_with fail
  go_region_held3 (fun w' => w'.cell? ⟨b, 0, none⟩ = some (.int .u64 seed) ∧ w'.cell? ⟨b, 1, none⟩ = some (.int .i64 (width : Int))) (first | go_keep | exact ⟨d0, d1⟩) (first | (go_at_call 55; (with_reducible refine (A.out _).mono ?_); rintro e w1 ⟨a, c, rfl, ha, hc, hp, hb⟩; have d0 := O0.out _ hb; have d1 := O1.out _ hb))
  have H1 := Lib.hid (Sk.below H.out.drew hb)
  have B1 := Lib.hid hb
  have P1 := Lib.hid hp
  clear hb hp H A O0 O1 R c0 c1
  go_wp2
  go_loopw [5, 22] (fun n i wr => ∃ k : Nat, k ≤ 4 ∧ i = .int .i64 (k : Int) ∧ n = .int .i64 (least (fun r => cnt (W r) (pickN seed key width r)) k : Int) ∧ wr = w1) (fun _ i _ => 4 - (intOf i).toNat)
  case atStart => exact ⟨0, Nat.zero_le _, rfl, rfl, rfl⟩
  case round =>
    obtain ⟨k, hk, rfl, rfl, rfl⟩ := hrel
    by_cases hk4 : k < 4
    · have h1 : (k : Int) < 4 := by omega
      have hpk := P1.out k hk4
      rw [pickN_int _ _ _ _ H1.out.w1] at hpk
      have hlt := pickN_lt seed key width k H1.out.w1
      have hrow : wr.cell? ⟨b, 2 + k, none⟩ = some (.slice (some ⟨g k, 0, none⟩) L L) := by
        rw [show 2 + k = k + 2 by omega]; exact H1.out.top.cell (i := k + 2) (by omega)
      have G := Lib.hid (get_any (g k) L (W k) wr (H1.out.row k hk4) (by have := H1.out.hl; have := H1.out.w2; omega) (pickN seed key width k) (by have := H1.out.hl; omega) (H1.out.wds k _))
      have hmin : (if cnt (W k) (pickN seed key width k) < least (fun r => cnt (W r) (pickN seed key width r)) k then ((cnt (W k) (pickN seed key width k) : Nat) : Int) else ((least (fun r => cnt (W r) (pickN seed key width r)) k : Nat) : Int)) = ((least (fun r => cnt (W r) (pickN seed key width r)) (k + 1) : Nat) : Int) := by
        simp only [least]; split <;> omega
      have HM := Lib.hid hmin
      clear hmin
      clear hlt
      go_wp2_with (first | (go_at_call 56; (with_reducible refine G.out.mono ?_); rintro e w' ⟨rfl, rfl⟩))
      go_roundw
      case rel => exact ⟨k + 1, by omega, by simp, by simp [HM.out]⟩
      case measure => simp only [intOf]; omega
    · have h1 : ¬ (k : Int) < 4 := by omega
      obtain rfl : k = 4 := by omega
      go_wp2
      go_ret
      exact ⟨rfl, ⟨B1.out.os, B1.out.tape, B1.out.output, B1.out.size, B1.out.block⟩⟩

end Go.Proofs.Ytbhcpedokgdipaa
