/- Several texts of this claim, one behind the other. -/
import Derived.Test.YtbgknopjgohocaaGreatZA
import Derived.IntWalk
import Derived.OpenShut
import Derived.Laws.BitsAllLaws
import Derived.Test.YtbgknopjgohocaaGreatArr
import Derived.Deep.RegionHeld3
import Derived.BigRegion
import Derived.Lib.SliceRun
import Derived.Test.YtbgknopjgohocaaGreatFr

/- Numbers made of seeds: the program's and the document's are one. -/
namespace Go.Proofs.YtbgknopjgohocaaGreat
open Go.RowKit
set_option linter.unusedVariables false

/-- A word, held against its own upper part. -/
@[irreducible] def ov (x d : Int) : Int := bits BinOp.xor IntKind.u64 x (x / d)

/-- Powers of two, out of sight of the simplifier. -/
@[irreducible] def pw (k : Nat) : Int := ((2 ^ k : Nat) : Int)
theorem pw_zero : pw 0 = 1 := by rw [pw]; rfl
theorem pw_succ (k : Nat) : pw (k + 1) = pw k * 2 := by rw [pw, pw, Nat.pow_succ]; push_cast; rfl
theorem pw_pos (k : Nat) : 0 < pw k := by rw [pw]; have := Nat.pow_pos (n := k) (show 0 < 2 by omega); omega

theorem ov_spec (x d : Int) : bits BinOp.xor IntKind.u64 x (x / d) = ov x d := by rw [ov]

theorem over_by (x : Int) (h0 : 0 ≤ x) (h1 : x ≤ 18446744073709551615) (w : World) (k : Int) (d : Int) (hk : (k = 30 ∧ d = 1073741824) ∨ (k = 27 ∧ d = 134217728) ∨ (k = 31 ∧ d = 2147483648)) :
    Calls Tryz.prog 132 #[.int .u64 x, .int .i64 k] w fun e w' => e = .returned (.int .u64 (ov x d)) ∧ w = w' := by
  rcases hk with ⟨rfl, rfl⟩ | ⟨rfl, rfl⟩ | ⟨rfl, rfl⟩
  all_goals
    go_enter Tryz.func132, Tryz.ntmps132
    go_wp2
    rw [ov_spec]
    go_ret
    exact ⟨rfl, rfl⟩

/-- A number made of a seed and a number. -/
@[irreducible] def ofI (seed n : Int) : Int :=
  ov (IntKind.u64.wrap (ov (IntKind.u64.wrap (ov (IntKind.u64.wrap (n + IntKind.u64.wrap (11400714819323198485 * seed))) 1073741824 * 13787848793156543929)) 134217728 * 10723151780598845931)) 2147483648

theorem wr_bd (x : Int) : 0 ≤ IntKind.u64.wrap x ∧ IntKind.u64.wrap x ≤ 18446744073709551615 := bounds_u64 (wf_wrap _ _)
theorem ov_bd (x d : Int) : 0 ≤ ov x d ∧ ov x d ≤ 18446744073709551615 := by rw [← ov_spec]; exact bounds_u64 (wf_bits _ _ _ _)
theorem ofI_bd (seed n : Int) : 0 ≤ ofI seed n ∧ ofI seed n ≤ 18446744073709551615 := by rw [ofI]; exact ov_bd _ _

theorem of_any (seed n : Int) (h0 : 0 ≤ seed) (h1 : seed ≤ 18446744073709551615) (g0 : 0 ≤ n) (g1 : n ≤ 18446744073709551615) (w : World) :
    Calls Tryz.prog 122 #[.int .u64 seed, .int .u64 n] w fun e w' => e = .returned (.int .u64 (ofI seed n)) ∧ w = w' := by
  have O1 := Lib.hid (fun x w => over_by (IntKind.u64.wrap x) (wr_bd x).1 (wr_bd x).2 w 30 1073741824 (.inl ⟨rfl, rfl⟩))
  have O2 := Lib.hid (fun x w => over_by (IntKind.u64.wrap x) (wr_bd x).1 (wr_bd x).2 w 27 134217728 (.inr (.inl ⟨rfl, rfl⟩)))
  have O3 := Lib.hid (fun x w => over_by (IntKind.u64.wrap x) (wr_bd x).1 (wr_bd x).2 w 31 2147483648 (.inr (.inr ⟨rfl, rfl⟩)))
  rw [ofI]
  go_enter Tryz.func122, Tryz.ntmps122
  go_wp2_with fail
  refine (O1.out _ _).mono ?_
  rintro e w' ⟨rfl, rfl⟩
  go_wp2_with fail
  refine (O2.out _ _).mono ?_
  rintro e w' ⟨rfl, rfl⟩
  go_wp2_with fail
  refine (O3.out _ _).mono ?_
  rintro e w' ⟨rfl, rfl⟩
  go_wp2
  go_ret
  exact ⟨rfl, rfl⟩

/-- Which of so many. -/
@[irreducible] def pickI (seed n k : Int) (most : Int) : Int := ofI (IntKind.u64.wrap (seed + k)) n % most
theorem pickI_bd (seed n k most : Int) (h : 0 < most) : 0 ≤ pickI seed n k most ∧ pickI seed n k most < most := by
  rw [pickI]; exact ⟨Int.emod_nonneg _ (by omega), Int.emod_lt_of_pos _ h⟩

theorem ret_i64 {x y : Int} (h : x = y) : Ending.returned (.int .i64 x) = .returned (.int .i64 y) := by rw [h]

theorem pick_eq (seed n k most : Int) (h : 0 < most) (hm1 : most ≤ 9223372036854775807) : wrap64 ((ofI (IntKind.u64.wrap (seed + k)) n).tmod most) = pickI seed n k most := by
  have bd := pickI_bd seed n k most h
  rw [pickI] at bd ⊢
  rw [Int.tmod_eq_emod_of_nonneg (ofI_bd _ _).1]
  simp only [wrap64]; omega

theorem pick_any (seed n k most : Int) (h0 : 0 ≤ seed) (h1 : seed ≤ 18446744073709551615) (g0 : 0 ≤ n) (g1 : n ≤ 18446744073709551615) (k0 : 0 ≤ k) (k1 : k ≤ 63) (hm : 1 ≤ most) (hm1 : most ≤ 9223372036854775807) (w : World) :
    Calls Tryz.prog 104 #[.int .u64 seed, .int .u64 n, .int .i64 k, .int .i64 most] w fun e w' => e = .returned (.int .i64 (pickI seed n k most)) ∧ w = w' := by
  have O := Lib.hid (fun x w => of_any (IntKind.u64.wrap x) n (wr_bd x).1 (wr_bd x).2 g0 g1 w)
  have E := Lib.hid (pick_eq seed n k most (by omega) hm1)
  go_enter Tryz.func104, Tryz.ntmps104
  go_wp2_with fail
  refine (O.out _ _).mono ?_
  rintro e w' ⟨rfl, rfl⟩
  go_wp2
  go_ret
  exact ⟨ret_i64 E.out, rfl⟩

theorem infoInt : (Tryz.prog.info? 3).map (fun i => (i.zero, i.size, i.bytes)) = some (some (.int .i64 0), 1, 8) := by kernel_rfl

def picks (seed n most : Int) (m : Nat) : List Value := (List.range m).map fun k : Nat => .int .i64 (pickI seed n (k : Int) most)
theorem picks_succ (seed n most : Int) (m : Nat) : picks seed n most (m + 1) = picks seed n most m ++ [.int .i64 (pickI seed n m most)] := by simp [picks, List.range_succ]

theorem all_any (seed n most : Int) (m : Nat) (h0 : 0 ≤ seed) (h1 : seed ≤ 18446744073709551615) (g0 : 0 ≤ n) (g1 : n ≤ 18446744073709551615) (m1 : m ≤ 64) (hm : 1 ≤ most) (hm1 : most ≤ 9223372036854775807) (w : World) :
    Calls Tryz.prog 107 #[.int .u64 seed, .int .u64 n, .int .i64 (m : Int), .int .i64 most] w fun e w' => ∃ v, e = .returned v ∧ w'.ownsRow w.heap.size 3 1 v m (picks seed n most m) ∧ Below w.heap.size w w' := by
  obtain ⟨i0, hi, hz0, hz1, hz2⟩ := info_parts infoInt
  have P := Lib.hid (fun (k : Nat) (hk : k < 64) w => pick_any seed n k most h0 h1 g0 g1 (by omega) (by omega) hm hm1 w)
  have e1 : max (m : Int) 0 = m := by omega
  have e2 : min (m : Int) 64 = m := by omega
  go_enter Tryz.func107, Tryz.ntmps107
  go_wp2
  go_loopw [9, 14] (fun v i wr => ∃ k : Nat, k ≤ m ∧ i = .int .i64 (k : Int) ∧ wr.ownsRow w.heap.size 3 1 v k (picks seed n most k) ∧ Below w.heap.size w wr) (fun _ i _ => m - (intOf i).toNat)
  case atStart => exact ⟨0, Nat.zero_le _, rfl, World.ownsRow_nil _ _ _ _, Below.refl _ _⟩
  case round =>
    obtain ⟨k, hk, rfl, hown, hb⟩ := hrel
    by_cases h : k < m
    · have h2 : (k : Int) < (m : Int) := by omega
      have h3 : (k : Int) + 1 ≤ 9223372036854775807 := by omega
      go_wp2_with (first
        | (go_at_call 104; (with_reducible refine (P.out k (by omega) _).mono ?_); rintro e w' ⟨rfl, rfl⟩)
        | (at_builtin; refine wpList_append_own _ rfl _ _ 25 rfl w.heap.size 3 i0 (.int .i64 0) 1 8 Tryz.underlying25 hi hz0 hz1 hz2 rfl (by decide) _ _ _ rfl (hown.alloc _) ⟨wr.heap.size, 0, none⟩ 1 1 [.int .i64 (pickI seed n k most)] rfl rfl ?c1 ?c2 ?c3 ?c4 ?c5 ?_)
        | go_in)
      case c1 =>
        intro j u hj
        match j, hj with
        | 0, hj => simp at hj; subst hj; simp [Addr.add]
      case c2 => intro u hu; simp at hu; subst hu; rfl
      case c3 => unfold maxLen; omega
      case c4 => omega
      case c5 => have := hb.size; simp; omega
      rintro v' w1 hown' hgr -
      rw [← picks_succ] at hown'
      have hb' : Below w.heap.size w w1 := by
        have hsz := hb.size
        exact (hb.alloc hsz _).grown hgr (by simp; omega) (fun k' hk' => (hown.lt k' hk').1)
      go_wp2
      go_roundw
      case rel => exact ⟨k + 1, by omega, by simp, hown', hb'⟩
      case measure => simp only [intOf]; omega
    · have h2 : ¬ (k : Int) < (m : Int) := by omega
      obtain rfl : k = m := by omega
      go_wp2
      go_ret
      exact ⟨_, rfl, hown, hb⟩

end Go.Proofs.YtbgknopjgohocaaGreat


/- Counters of four bits in words: plain laws. -/
namespace Go.Proofs.YtbgknopjgohocaaGreat
open Go.RowKit
set_option linter.unusedVariables false

/-- The k-th counter of a word. -/
def nib (x k : Nat) : Nat := x / 2 ^ (4 * k) % 16
theorem nib_lt (x k : Nat) : nib x k < 16 := Nat.mod_lt _ (by omega)

theorem pow_split (a b : Nat) (h : b ≤ a) : 2 ^ (4 * a) = 2 ^ (4 * b) * 2 ^ (4 * (a - b)) := by
  rw [← Nat.pow_add]; congr 1; omega
theorem pow_four (k : Nat) : 2 ^ (4 * (k + 1)) = 2 ^ (4 * k) * 16 := by
  rw [show 4 * (k + 1) = 4 * k + 4 by omega, Nat.pow_add]

theorem nib_add {x j : Nat} (hx : x < 18446744073709551616) (hj : j < 16) (hn : nib x j < 15) :
    x + 2 ^ (4 * j) < 18446744073709551616 ∧ ∀ k, nib (x + 2 ^ (4 * j)) k = if k = j then nib x k + 1 else nib x k := by
  have hp : 0 < 2 ^ (4 * j) := Nat.pow_pos (by omega)
  have hd : (x + 2 ^ (4 * j)) / 2 ^ (4 * j) = x / 2 ^ (4 * j) + 1 := by rw [Nat.add_div_right _ hp]
  unfold nib at hn
  constructor
  · have hq : 2 ^ (4 * j) * 2 ^ (4 * (16 - j)) = 18446744073709551616 := by rw [← pow_split 16 j (by omega)]
    have h16 : 2 ^ (4 * (16 - j)) % 16 = 0 := by
      rw [show 4 * (16 - j) = 4 * (16 - j - 1) + 4 by omega, Nat.pow_add]; omega
    have h1 : x / 2 ^ (4 * j) < 2 ^ (4 * (16 - j)) := by
      rw [Nat.div_lt_iff_lt_mul hp, Nat.mul_comm (2 ^ (4 * (16 - j))) _, hq]; exact hx
    have h2 : x / 2 ^ (4 * j) + 1 < 2 ^ (4 * (16 - j)) := by omega
    have h3 : (x + 2 ^ (4 * j)) / 2 ^ (4 * j) < 2 ^ (4 * (16 - j)) := by rw [hd]; exact h2
    rw [Nat.div_lt_iff_lt_mul hp, Nat.mul_comm (2 ^ (4 * (16 - j))) _, hq] at h3
    exact h3
  · intro k
    unfold nib
    by_cases hkj : k = j
    · subst hkj; rw [if_pos rfl, hd]; omega
    · rw [if_neg hkj]
      rcases Nat.lt_or_ge k j with h | h
      · have hk : 0 < 2 ^ (4 * k) := Nat.pow_pos (by omega)
        rw [pow_split j k (by omega), Nat.add_mul_div_left _ _ hk]
        have h16 : 2 ^ (4 * (j - k)) % 16 = 0 := by
          rw [show 4 * (j - k) = 4 * (j - k - 1) + 4 by omega, Nat.pow_add]; omega
        omega
      · have e : 2 ^ (4 * k) = 2 ^ (4 * j) * 16 * 2 ^ (4 * (k - (j + 1))) := by
          rw [← pow_four, ← pow_split k (j + 1) (by omega)]
        rw [e, ← Nat.div_div_eq_div_mul, ← Nat.div_div_eq_div_mul, hd, ← Nat.div_div_eq_div_mul, ← Nat.div_div_eq_div_mul]
        congr 2
        omega

theorem nib_half {x k : Nat} (hk : k < 16) : nib (x / 2 &&& 8608480567731124087) k = nib x k / 2 := by
  have h1 : ∀ y, nib y k = (y >>> (4 * k)) &&& 15 := fun y => by rw [nib, nat_mask4, Nat.shiftRight_eq_div_pow]
  have hm : (8608480567731124087 >>> (4 * k)) &&& 15 = 7 := by
    have : ∀ k : Fin 16, (8608480567731124087 >>> (4 * k.val)) &&& 15 = 7 := by decide
    exact this ⟨k, hk⟩
  rw [h1, Nat.shiftRight_and_distrib, Nat.and_assoc, hm, nat_mask3, Nat.shiftRight_eq_div_pow, nib]
  rw [Nat.div_div_eq_div_mul, Nat.mul_comm, ← Nat.div_div_eq_div_mul]
  omega

theorem half_lt (x : Nat) : x / 2 &&& 8608480567731124087 < 18446744073709551616 := Nat.lt_of_le_of_lt Nat.and_le_right (by decide)

/-- The i-th counter of a row of words. -/
def cnt (W : Nat → Nat) (i : Nat) : Nat := nib (W (i / 16)) (i % 16)
theorem cnt_lt (W : Nat → Nat) (i : Nat) : cnt W i < 16 := nib_lt _ _

theorem cnt_more {W : Nat → Nat} {i : Nat} (hx : W (i / 16) < 18446744073709551616) (hn : cnt W i < 15) :
    W (i / 16) + 2 ^ (4 * (i % 16)) < 18446744073709551616 ∧
    ∀ k, cnt (fun q => if q = i / 16 then W (i / 16) + 2 ^ (4 * (i % 16)) else W q) k = if k = i then cnt W k + 1 else cnt W k := by
  obtain ⟨h1, h2⟩ := nib_add hx (Nat.mod_lt i (by omega)) hn
  refine ⟨h1, fun k => ?_⟩
  unfold cnt
  simp only
  by_cases hq : k / 16 = i / 16
  · rw [if_pos hq, h2]
    by_cases hm : k % 16 = i % 16
    · rw [if_pos hm, if_pos (by omega), hq]
    · rw [if_neg hm, if_neg (by rintro rfl; exact hm rfl), hq]
  · rw [if_neg hq, if_neg (by rintro rfl; exact hq rfl)]

theorem cnt_half (W : Nat → Nat) (i : Nat) : cnt (fun q => W q / 2 &&& 8608480567731124087) i = cnt W i / 2 := nib_half (Nat.mod_lt i (by omega))
theorem cnt_zero (i : Nat) : cnt (fun _ => 0) i = 0 := by simp [cnt, nib]

/-- What 'get' reckons. -/
theorem get_word (x k : Nat) (hx : x < 18446744073709551616) : wrap64 (bits BinOp.and IntKind.u64 ((x : Int) / ((2 ^ (4 * k) : Nat) : Int)) 15) = (nib x k : Int) := by
  have h : (x : Int) / ((2 ^ (4 * k) : Nat) : Int) = ((x / 2 ^ (4 * k) : Nat) : Int) := by norm_cast
  rw [h, show (15 : Int) = ((15 : Nat) : Int) from rfl, u64_and_nat _ _ (Nat.lt_of_le_of_lt (Nat.div_le_self _ _) hx) (by omega), nat_mask4]
  have := nib_lt x k
  unfold nib at this ⊢
  simp only [wrap64]
  omega

end Go.Proofs.YtbgknopjgohocaaGreat


/- The sketch of the program: walks. -/
namespace Go.Proofs.YtbgknopjgohocaaGreat
open Go.RowKit
set_option linter.unusedVariables false

/-- A row of words. -/
def wd (W : Nat → Nat) (i : Nat) : Value := .int .u64 (W i : Int)

theorem get_any (g L : Nat) (W : Nat → Nat) (w : World) (h : Arr w g 22 L (wd W)) (hL : L ≤ 4096) (i : Nat) (hi : i / 16 < L) (hx : W (i / 16) < 18446744073709551616) :
    Calls Tryz.prog 123 #[.slice (some ⟨g, 0, none⟩) L L, .int .i64 (i : Int)] w fun e w' => e = .returned (.int .i64 (cnt W i : Int)) ∧ w = w' := by
  have hc := h.cell hi
  have q : ((i : Int) / 16).toNat = i / 16 := by omega
  have q1 : ((i : Int) / 16) < (L : Int) := by omega
  have m : (4 * ((i : Int) % 16)).toNat = 4 * (i % 16) := by omega
  have R := Lib.hid (get_word (W (i / 16)) (i % 16) hx)
  unfold wd at hc
  go_enter Tryz.func123, Tryz.ntmps123
  go_wp2
  go_ret
  refine ⟨ret_i64 ?_, rfl⟩
  rw [cnt, ← R.out]
  push_cast
  rfl

/-- The words behind one more in counter i. -/
def moreW (W : Nat → Nat) (i : Nat) : Nat → Nat := if cnt W i < 15 then (fun q => if q = i / 16 then W (i / 16) + 2 ^ (4 * (i % 16)) else W q) else W

theorem moreW_lt {W : Nat → Nat} {i : Nat} (hx : ∀ q, W q < 18446744073709551616) : ∀ q, moreW W i q < 18446744073709551616 := by
  intro q
  unfold moreW
  split
  · next h =>
    simp only
    split
    · exact (cnt_more (hx _) h).1
    · exact hx q
  · exact hx q

theorem cnt_moreW {W : Nat → Nat} {i : Nat} (hx : W (i / 16) < 18446744073709551616) (k : Nat) : cnt (moreW W i) k = if k = i then min (cnt W k + 1) 15 else cnt W k := by
  unfold moreW
  split
  · next h =>
    rw [(cnt_more hx h).2 k]
    split
    · next e => subst e; omega
    · rfl
  · next h =>
    split
    · next e => subst e; have := cnt_lt W k; omega
    · rfl

theorem more_any (g L : Nat) (W : Nat → Nat) (w : World) (h : Arr w g 22 L (wd W)) (hL : L ≤ 4096) (i : Nat) (hi : i / 16 < L) (hx : W (i / 16) < 18446744073709551616) :
    Calls Tryz.prog 108 #[.slice (some ⟨g, 0, none⟩) L L, .int .i64 (i : Int)] w fun e w' => e = .returned (.tuple #[]) ∧ Arr w' g 22 L (wd (moreW W i)) ∧ Keeps (fun k => k = g) w w' := by
  have hc := h.cell hi
  have hf := h.free (i / 16)
  have q : ((i : Int) / 16).toNat = i / 16 := by omega
  have q1 : ((i : Int) / 16) < (L : Int) := by omega
  have m : (4 * ((i : Int) % 16)).toNat = 4 * (i % 16) := by omega
  have G := Lib.hid (get_any g L W w h hL i hi hx)
  unfold wd at hc
  by_cases hn : cnt W i < 15
  · have hn' : ((cnt W i : Nat) : Int) < 15 := by omega
    obtain ⟨hb, -⟩ := cnt_more hx hn
    have E := Lib.hid (show IntKind.u64.wrap ((W (i / 16) : Int) + IntKind.u64.wrap (2 ^ (4 * (i % 16)))) = ((W (i / 16) + 2 ^ (4 * (i % 16)) : Nat) : Int) by
      rw [IntKind.wrap_u64, IntKind.wrap_u64]
      have e : ((2 : Int) ^ (4 * (i % 16))) = ((2 ^ (4 * (i % 16)) : Nat) : Int) := by push_cast; rfl
      rw [e]; generalize 2 ^ (4 * (i % 16)) = p at *; omega)
    have F := Lib.hid (h.set (i / 16) (.int .u64 ((W (i / 16) + 2 ^ (4 * (i % 16)) : Nat) : Int)))
    clear hb h
    go_enter Tryz.func108, Tryz.ntmps108
    go_wp2_with fail
    refine G.out.mono ?_
    rintro e w' ⟨rfl, rfl⟩
    go_wp2_with fail
    go_region
    go_wp2
    go_end0
    rw [E.out]
    refine ⟨rfl, ?_, ((Keeps.refl (fun k => k = g) w).setCell (p := ⟨g, i / 16, none⟩) (.inl rfl) _).drew⟩
    refine Arr.congr (Arr.drewN F.out 1) (fun j hj => ?_)
    unfold moreW wd
    rw [if_pos hn]
    split <;> rfl
  · have hn' : ¬ ((cnt W i : Nat) : Int) < 15 := by omega
    go_enter Tryz.func108, Tryz.ntmps108
    go_wp2_with fail
    refine G.out.mono ?_
    rintro e w' ⟨rfl, rfl⟩
    go_wp2
    go_end0
    refine ⟨rfl, ?_, Keeps.refl _ _⟩
    unfold moreW
    rw [if_neg hn]
    exact h

/-- The cells of a sketch's head. -/
def topF (g : Nat → Nat) (seed : Int) (width L : Nat) : Nat → Value
  | 0 => .int .u64 seed
  | 1 => .int .i64 (width : Int)
  | r + 2 => .slice (some ⟨g r, 0, none⟩) L L

/-- A sketch of the program: its head at block b, its rows at blocks g 0 .. g 3, the words W. -/
structure Sk (w : World) (b : Nat) (g : Nat → Nat) (seed : Int) (width L : Nat) (W : Nat → Nat → Nat) : Prop where
  top : Arr w b 167 6 (topF g seed width L)
  row : ∀ r, r < 4 → Arr w (g r) 22 L (wd (W r))
  inj : ∀ r s, r < 4 → s < 4 → g r = g s → r = s
  wds : ∀ r q, W r q < 18446744073709551616
  w1 : 1 ≤ width
  w2 : width ≤ 4096
  hl : L = (width + 15) / 16
  s0 : 0 ≤ seed
  s1 : seed ≤ 18446744073709551615

theorem Sk.keep {S : Nat → Prop} {w w' : World} {b : Nat} {g : Nat → Nat} {seed : Int} {width L : Nat} {W : Nat → Nat → Nat} (h : Sk w b g seed width L W) (k : Keeps S w w') (hb : ¬ S b) (hg : ∀ r, r < 4 → ¬ S (g r)) : Sk w' b g seed width L W :=
  { h with top := h.top.keep k hb, row := fun r hr => (h.row r hr).keep k (hg r hr) }

theorem Sk.below {w w' : World} {b : Nat} {g : Nat → Nat} {seed : Int} {width L : Nat} {W : Nat → Nat → Nat} (h : Sk w b g seed width L W) (k : Below w.heap.size w w') : Sk w' b g seed width L W :=
  h.keep (Keeps.of_below k) (Nat.not_le.2 h.top.lt) (fun r hr => Nat.not_le.2 (h.row r hr).lt)

theorem Sk.drewN {w : World} {b : Nat} {g : Nat → Nat} {seed : Int} {width L : Nat} {W : Nat → Nat → Nat} (h : Sk w b g seed width L W) (n : Nat) : Sk (w.drewN n) b g seed width L W :=
  { h with top := h.top, row := h.row }
theorem Sk.drew {w : World} {b : Nat} {g : Nat → Nat} {seed : Int} {width L : Nat} {W : Nat → Nat → Nat} (h : Sk w b g seed width L W) : Sk w.drew b g seed width L W :=
  { h with top := h.top, row := h.row }

theorem real_any {w : World} {b : Nat} {g : Nat → Nat} {seed : Int} {width L : Nat} {W : Nat → Nat → Nat} (h : Sk w b g seed width L W) :
    Calls Tryz.prog 106 #[.pointer (some ⟨b, 0, none⟩)] w fun e w' => e = .returned (.bool true) ∧ w = w' := by
  have h1 : w.cell? ⟨b, 1, none⟩ = some (.int .i64 (width : Int)) := h.top.cell (i := 1) (by omega)
  have h2 : (0 : Int) < (width : Int) := by have := h.w1; omega
  have h3 : 0 < width := h.w1
  go_enter Tryz.func106, Tryz.ntmps106
  go_wp2
  go_ret
  exact ⟨rfl, rfl⟩

/-- Four places for a key. -/
theorem all4_any (seed n most : Int) (h0 : 0 ≤ seed) (h1 : seed ≤ 18446744073709551615) (g0 : 0 ≤ n) (g1 : n ≤ 18446744073709551615) (hm : 1 ≤ most) (hm1 : most ≤ 9223372036854775807) (w : World) :
    Calls Tryz.prog 107 #[.int .u64 seed, .int .u64 n, .int .i64 4, .int .i64 most] w fun e w' => ∃ a c, e = .returned (.slice (some ⟨a, 0, none⟩) 4 c) ∧ w.heap.size ≤ a ∧ 4 ≤ c ∧ (∀ k, k < 4 → w'.cell? ⟨a, k, none⟩ = some (.int .i64 (pickI seed n (k : Int) most))) ∧ Below w.heap.size w w' :=
  (all_any seed n most 4 h0 h1 g0 g1 (by omega) hm hm1 w).mono fun e w' ⟨v, he, hown, hb⟩ => by
    rcases hown.2 with ⟨_, h0⟩ | ⟨a, c, cur, rfl, hN, hg, hc, _, _, ht⟩
    · omega
    · refine ⟨a, c, he, hN, hc, fun k hk => ?_, hb⟩
      have := hown.cells (g := a) rfl k (.int .i64 (pickI seed n (k : Int) most)) (by simp [picks, hk])
      unfold Addr.add at this
      split at this
      · next h0 => subst h0; simpa using this
      · simpa using this

def pickN (seed key : Int) (width r : Nat) : Nat := (pickI seed key (r : Int) (width : Int)).toNat
theorem pickN_lt (seed key : Int) (width r : Nat) (h : 1 ≤ width) : pickN seed key width r < width := by
  have := pickI_bd seed key r width (by omega)
  unfold pickN; omega
theorem pickN_int (seed key : Int) (width r : Nat) (h : 1 ≤ width) : pickI seed key (r : Int) (width : Int) = (pickN seed key width r : Int) := by
  have := pickI_bd seed key r width (by omega)
  unfold pickN; omega

/-- The least of the first k counters of a key, and 15. -/
def least (c : Nat → Nat) : Nat → Nat
  | 0 => 15
  | k + 1 => min (least c k) (c k)
theorem least_le (c : Nat → Nat) (k : Nat) : least c k ≤ 15 := by
  induction k with
  | zero => exact Nat.le_refl _
  | succ k ih => simp only [least]; omega

theorem count_any {w : World} {b : Nat} {g : Nat → Nat} {seed : Int} {width L : Nat} {W : Nat → Nat → Nat} (h : Sk w b g seed width L W) (key : Int) (k0 : 0 ≤ key) (k1 : key ≤ 18446744073709551615) :
    Calls Tryz.prog 109 #[.pointer (some ⟨b, 0, none⟩), .int .u64 key] w fun e w' => e = .returned (.int .i64 (least (fun r => cnt (W r) (pickN seed key width r)) 4 : Int)) ∧ Below w.heap.size w w' := by
  have c0 : w.cell? ⟨b, 0, none⟩ = some (.int .u64 seed) := h.top.cell (i := 0) (by omega)
  have c1 : w.cell? ⟨b, 1, none⟩ = some (.int .i64 (width : Int)) := h.top.cell (i := 1) (by omega)
  have R := Lib.hid (real_any h)
  have A := Lib.hid (fun w => all4_any seed key (width : Int) h.s0 h.s1 k0 k1 (by have := h.w1; omega) (by have := h.w2; omega) w)
  have O0 := Lib.hid (fun w1 (hb : Below w.drew.heap.size w.drew w1) => (hb.cell (World.block_lt_of_cell? w _ c0)).trans c0)
  have O1 := Lib.hid (fun w1 (hb : Below w.drew.heap.size w.drew w1) => (hb.cell (World.block_lt_of_cell? w _ c1)).trans c1)
  have H := Lib.hid h
  clear h
  go_enter Tryz.func109, Tryz.ntmps109
  go_wp2_with fail
  refine R.out.mono ?_
  rintro e w' ⟨rfl, rfl⟩
  go_wp2_with fail
  go_region_held3 (fun w' => w'.cell? ⟨b, 0, none⟩ = some (.int .u64 seed) ∧ w'.cell? ⟨b, 1, none⟩ = some (.int .i64 (width : Int))) (first | go_keep | exact ⟨d0, d1⟩) (first | (go_at_call 107; (with_reducible refine (A.out _).mono ?_); rintro e w1 ⟨a, c, rfl, ha, hc, hp, hb⟩; have d0 := O0.out _ hb; have d1 := O1.out _ hb))
  have H1 := Lib.hid (Sk.below H.out.drew hb)
  have B1 := Lib.hid hb
  have P1 := Lib.hid hp
  clear hb hp H A O0 O1 R c0 c1
  go_wp2
  go_loopw [5, 22] (fun n i wr => ∃ k : Nat, k ≤ 4 ∧ i = .int .i64 (k : Int) ∧ n = .int .i64 (least (fun r => cnt (W r) (pickN seed key width r)) k : Int) ∧ wr = w1) (fun _ i _ => 4 - (intOf i).toNat)
  case atStart => exact ⟨0, Nat.zero_le _, rfl, rfl, rfl⟩
  case round =>
    obtain ⟨k, hk, rfl, rfl, rfl⟩ := hrel
    by_cases hk4 : k < 4
    · have h1 : (k : Int) < 4 := by omega
      have hpk := P1.out k hk4
      rw [pickN_int _ _ _ _ H1.out.w1] at hpk
      have hlt := pickN_lt seed key width k H1.out.w1
      have hrow : wr.cell? ⟨b, 2 + k, none⟩ = some (.slice (some ⟨g k, 0, none⟩) L L) := by
        rw [show 2 + k = k + 2 by omega]; exact H1.out.top.cell (i := k + 2) (by omega)
      have G := Lib.hid (get_any (g k) L (W k) wr (H1.out.row k hk4) (by have := H1.out.hl; have := H1.out.w2; omega) (pickN seed key width k) (by have := H1.out.hl; omega) (H1.out.wds k _))
      have hmin : (if cnt (W k) (pickN seed key width k) < least (fun r => cnt (W r) (pickN seed key width r)) k then ((cnt (W k) (pickN seed key width k) : Nat) : Int) else ((least (fun r => cnt (W r) (pickN seed key width r)) k : Nat) : Int)) = ((least (fun r => cnt (W r) (pickN seed key width r)) (k + 1) : Nat) : Int) := by
        simp only [least]; split <;> omega
      have HM := Lib.hid hmin
      clear hmin
      clear hlt
      go_wp2_with (first | (go_at_call 123; (with_reducible refine G.out.mono ?_); rintro e w' ⟨rfl, rfl⟩))
      go_roundw
      case rel => exact ⟨k + 1, by omega, by simp, by simp [HM.out]⟩
      case measure => simp only [intOf]; omega
    · have h1 : ¬ (k : Int) < 4 := by omega
      obtain rfl : k = 4 := by omega
      go_wp2
      go_ret
      exact ⟨rfl, ⟨B1.out.os, B1.out.tape, B1.out.output, B1.out.size, B1.out.block⟩⟩

end Go.Proofs.YtbgknopjgohocaaGreat


/- The sketch of the program: Add, Sum, Halve, Clear, New. -/
namespace Go.Proofs.YtbgknopjgohocaaGreat
open Go.RowKit
set_option linter.unusedVariables false

theorem Sk.setRow {w w' : World} {b : Nat} {g : Nat → Nat} {seed : Int} {width L : Nat} {W : Nat → Nat → Nat} (h : Sk w b g seed width L W) {k : Nat} {V : Nat → Nat} (hk : k < 4) (ha : Arr w' (g k) 22 L (wd V)) (kp : Keeps (fun j => j = g k) w w') (hv : ∀ q, V q < 18446744073709551616) :
    Sk w' b g seed width L (fun r => if r = k then V else W r) where
  top := h.top.keep kp (fun e => (h.top.ne (h.row k hk) (by decide)) e)
  row := fun r hr => by
    by_cases e : r = k
    · subst e; simpa using ha
    · simp only [e, if_false]; exact (h.row r hr).keep kp (fun e' => e (h.inj r k hr hk e'))
  inj := h.inj
  wds := fun r q => by
    by_cases e : r = k
    · subst e; simpa using hv q
    · simp only [e, if_false]; exact h.wds r q
  w1 := h.w1
  w2 := h.w2
  hl := h.hl
  s0 := h.s0
  s1 := h.s1

theorem Sk.congr {w : World} {b : Nat} {g : Nat → Nat} {seed : Int} {width L : Nat} {W V : Nat → Nat → Nat} (h : Sk w b g seed width L W) (e : ∀ r, W r = V r) : Sk w b g seed width L V := by
  have : W = V := funext e
  rw [← this]; exact h

def rowsOf (g : Nat → Nat) : Nat → Prop := fun j => ∃ r, r < 4 ∧ j = g r

/-- The words behind one more of a key, in the first k rows. -/
def addW (W : Nat → Nat → Nat) (seed key : Int) (width k : Nat) : Nat → Nat → Nat := fun r => if r < k then moreW (W r) (pickN seed key width r) else W r

theorem add_any {w : World} {b : Nat} {g : Nat → Nat} {seed : Int} {width L : Nat} {W : Nat → Nat → Nat} (h : Sk w b g seed width L W) (key : Int) (k0 : 0 ≤ key) (k1 : key ≤ 18446744073709551615) :
    Calls Tryz.prog 80 #[.pointer (some ⟨b, 0, none⟩), .int .u64 key] w fun e w' => e = .returned (.int .i64 (least (fun r => cnt (addW W seed key width 4 r) (pickN seed key width r)) 4 : Int)) ∧
      Sk w' b g seed width L (addW W seed key width 4) ∧ Keeps (rowsOf g) w w' := by
  have c0 : w.cell? ⟨b, 0, none⟩ = some (.int .u64 seed) := h.top.cell (i := 0) (by omega)
  have c1 : w.cell? ⟨b, 1, none⟩ = some (.int .i64 (width : Int)) := h.top.cell (i := 1) (by omega)
  have R := Lib.hid (real_any h)
  have A := Lib.hid (fun w => all4_any seed key (width : Int) h.s0 h.s1 k0 k1 (by have := h.w1; omega) (by have := h.w2; omega) w)
  have O0 := Lib.hid (fun w1 (hb : Below w.drew.heap.size w.drew w1) => (hb.cell (World.block_lt_of_cell? w _ c0)).trans c0)
  have O1 := Lib.hid (fun w1 (hb : Below w.drew.heap.size w.drew w1) => (hb.cell (World.block_lt_of_cell? w _ c1)).trans c1)
  have H := Lib.hid h
  clear h
  go_enter Tryz.func80, Tryz.ntmps80
  go_wp2_with fail
  refine R.out.mono ?_
  rintro e w' ⟨rfl, rfl⟩
  go_wp2_with fail
  go_region_held3 (fun w' => w'.cell? ⟨b, 0, none⟩ = some (.int .u64 seed) ∧ w'.cell? ⟨b, 1, none⟩ = some (.int .i64 (width : Int))) (first | go_keep | exact ⟨d0, d1⟩) (first | (go_at_call 107; (with_reducible refine (A.out _).mono ?_); rintro e w1 ⟨a, c, rfl, ha, hc, hp, hb⟩; have d0 := O0.out _ hb; have d1 := O1.out _ hb))
  have H1 := Lib.hid (Sk.below H.out.drew hb)
  have B1 := Lib.hid hb
  have P1 := Lib.hid hp
  have HA := Lib.hid (fun r (hr : r < 4) => (show g r ≠ a by have := (H.out.row r hr).lt; have := hb.size; simp at ha; omega))
  clear hb hp A O0 O1 R c0 c1 d0 d1
  go_wp2
  go_loopw [21] (fun i wr => ∃ k : Nat, k ≤ 4 ∧ i = .int .i64 (k : Int) ∧ Sk wr b g seed width L (addW W seed key width k) ∧ Keeps (rowsOf g) w1 wr) (fun i _ => 4 - (intOf i).toNat)
  case atStart => exact ⟨0, Nat.zero_le _, rfl, H1.out.congr (fun r => by simp [addW]), Keeps.refl _ _⟩
  case round =>
    obtain ⟨k, hk, rfl, hsk, hkp⟩ := hrel
    have HS := Lib.hid hsk
    have HK := Lib.hid hkp
    clear hsk hkp
    by_cases hk4 : k < 4
    · have h1 : (k : Int) < 4 := by omega
      have hpk := HK.out.cell (P1.out k hk4) (fun ⟨r, hr, e⟩ => HA.out r hr e.symm)
      rw [pickN_int _ _ _ _ H1.out.w1] at hpk
      have hlt := pickN_lt seed key width k H1.out.w1
      have hrow : wr.cell? ⟨b, 2 + k, none⟩ = some (.slice (some ⟨g k, 0, none⟩) L L) := by
        rw [show 2 + k = k + 2 by omega]; exact HS.out.top.cell (i := k + 2) (by omega)
      have hWk : addW W seed key width k k = W k := by simp [addW]
      have G := Lib.hid (more_any (g k) L (addW W seed key width k k) wr (HS.out.row k hk4) (by have := H1.out.hl; have := H1.out.w2; omega) (pickN seed key width k) (by have := H1.out.hl; omega) (HS.out.wds k _))
      clear hlt
      go_wp2_with (first | (go_at_call 108; (with_reducible refine G.out.mono ?_); rintro e w' ⟨rfl, ha', hk'⟩))
      have HA' := Lib.hid ha'
      have HK' := Lib.hid hk'
      clear ha' hk'
      go_wp2
      go_roundw
      case rel =>
        refine ⟨k + 1, by omega, by simp, (HS.out.setRow hk4 HA'.out HK'.out (moreW_lt (fun q => HS.out.wds k q))).congr (fun r => ?_), HK.out.trans HK'.out (fun n hn => .inl ⟨k, hk4, hn⟩)⟩
        unfold addW
        by_cases e : r = k
        · subst e; simp
        · simp only [e, if_false]
          by_cases e2 : r < k
          · simp [e2, show r < k + 1 by omega]
          · simp [e2, show ¬ r < k + 1 by omega]
      case measure => simp only [intOf]; omega
    · have h1 : ¬ (k : Int) < 4 := by omega
      obtain rfl : k = 4 := by omega
      have C := Lib.hid (count_any HS.out key k0 k1)
      go_wp2_with fail
      refine C.out.mono ?_
      rintro e w2 ⟨rfl, hb2⟩
      have HB := Lib.hid hb2
      clear hb2
      go_wp2
      go_ret
      refine ⟨rfl, HS.out.below HB.out, ?_⟩
      have e1 : Keeps (rowsOf g) w w1 := (Keeps.of_drewN _ ⟨1, rfl⟩).trans (Keeps.of_below B1.out) (fun n hn => .inr hn)
      have e2 : Keeps (rowsOf g) w wr := e1.trans HK.out (fun n hn => .inl hn)
      exact e2.trans (Keeps.of_below HB.out) (fun n hn => .inr (by have := e2.size; omega))

/-- A cell of an array of four rows, its number a variable. -/
theorem idx4 (A : Nat → Value) (k : Nat) (hk : k < 4) (w : World) : (Instr.index 165 (.agg #[A 0, A 1, A 2, A 3]) (.int .i64 (k : Int))).run Tryz.prog w = .ok (A k) w := by
  have : k = 0 ∨ k = 1 ∨ k = 2 ∨ k = 3 := by omega
  rcases this with rfl | rfl | rfl | rfl <;> (simp [Instr.index, run_underlying Tryz.underlying165, asIntOf, go_sem]; done)

def sumN (c : Nat → Nat) : Nat → Nat
  | 0 => 0
  | n + 1 => sumN c n + c n
theorem sumN_le {c : Nat → Nat} {m : Nat} (n : Nat) (h : ∀ i, i < n → c i ≤ m) : sumN c n ≤ m * n := by
  induction n with
  | zero => exact Nat.zero_le _
  | succ n ih =>
    have := ih (fun i hi => h i (by omega))
    have h2 := h n (by omega)
    simp only [sumN, Nat.mul_succ]; omega
theorem sumN_congr {c d : Nat → Nat} (n : Nat) (h : ∀ i, i < n → c i = d i) : sumN c n = sumN d n := by
  induction n with
  | zero => rfl
  | succ n ih => simp only [sumN]; rw [ih (fun i hi => h i (by omega)), h n (by omega)]

set_option maxRecDepth 100000 in
theorem sum_any {w : World} {b : Nat} {g : Nat → Nat} {seed : Int} {width L : Nat} {W : Nat → Nat → Nat} (h : Sk w b g seed width L W) :
    Calls Tryz.prog 110 #[.pointer (some ⟨b, 0, none⟩)] w fun e w' => e = .returned (.int .i64 (sumN (fun r => sumN (fun i => cnt (W r) i) width) 4 : Int)) ∧ w' = w := by
  have c1 : w.cell? ⟨b, 1, none⟩ = some (.int .i64 (width : Int)) := h.top.cell (i := 1) (by omega)
  have q0 : w.cell? ⟨b, 2, none⟩ = some (.slice (some ⟨g 0, 0, none⟩) L L) := h.top.cell (i := 2) (by omega)
  have q1 : w.cell? ⟨b, 3, none⟩ = some (.slice (some ⟨g 1, 0, none⟩) L L) := h.top.cell (i := 3) (by omega)
  have q2 : w.cell? ⟨b, 4, none⟩ = some (.slice (some ⟨g 2, 0, none⟩) L L) := h.top.cell (i := 4) (by omega)
  have q3 : w.cell? ⟨b, 5, none⟩ = some (.slice (some ⟨g 3, 0, none⟩) L L) := h.top.cell (i := 5) (by omega)
  have R := Lib.hid (real_any h)
  have H := Lib.hid h
  clear h
  go_enter Tryz.func110, Tryz.ntmps110
  go_wp2_with fail
  refine R.out.mono ?_
  rintro e w' ⟨rfl, rfl⟩
  go_wp2
  go_loopw [3, 14] (fun n i wr => ∃ k : Nat, k ≤ 4 ∧ i = .int .i64 (k : Int) ∧ n = .int .i64 (sumN (fun r => sumN (fun i => cnt (W r) i) width) k : Int) ∧ wr = w) (fun _ i _ => 4 - (intOf i).toNat)
  case atStart => exact ⟨0, Nat.zero_le _, rfl, rfl, rfl⟩
  case round =>
    obtain ⟨k, hk, rfl, rfl, rfl⟩ := hrel
    by_cases hk4 : k < 4
    · have h1 : (k : Int) < 4 := by omega
      have hix := idx4 (fun r => .slice (some ⟨g r, 0, none⟩) L L) k hk4 wr
      have hSk := H.out.row k hk4
      have hL : L ≤ 4096 := by have := H.out.hl; have := H.out.w2; omega
      have hbd : sumN (fun r => sumN (fun i => cnt (W r) i) width) k ≤ 61440 * k := sumN_le k (fun r hr => by
        have := sumN_le (c := fun i => cnt (W r) i) (m := 15) width (fun i hi => by have := cnt_lt (W r) i; omega)
        have := H.out.w2; omega)
      have G := Lib.hid (fun (i : Nat) (hi : i < width) => get_any (g k) L (W k) wr hSk hL i (by have := H.out.hl; omega) (H.out.wds k _))
      have hw2 := H.out.w2
      generalize hS : sumN (fun r => sumN (fun i => cnt (W r) i) width) k = S at *
      have hSe : sumN (fun r => sumN (fun i => cnt (W r) i) width) (k + 1) = S + sumN (fun i => cnt (W k) i) width := by rw [← hS]; rfl
      have HSE := Lib.hid hSe
      clear hSe hS hSk hL q0 q1 q2 q3
      go_wp2
      go_loopw [3, 21] (fun n i wr' => ∃ j : Nat, j ≤ width ∧ i = .int .i64 (j : Int) ∧ n = .int .i64 ((S + sumN (fun i => cnt (W k) i) j : Nat) : Int) ∧ wr' = wr) (fun _ i _ => width - (intOf i).toNat)
      case atStart => exact ⟨0, Nat.zero_le _, rfl, rfl, rfl⟩
      case round =>
        obtain ⟨j, hj, rfl, rfl, rfl⟩ := hrel
        by_cases hjw : j < width
        · have h2 : (j : Int) < (width : Int) := by omega
          have h3 := sumN_le (c := fun i => cnt (W k) i) (m := 15) j (fun i hi => by have := cnt_lt (W k) i; omega)
          have h4 := cnt_lt (W k) j
          have h5 : (j : Int) + 1 ≤ 9223372036854775807 := by omega
          have hse : sumN (fun i => cnt (W k) i) (j + 1) = sumN (fun i => cnt (W k) i) j + cnt (W k) j := rfl
          have hwr : wrap64 (((S + sumN (fun i => cnt (W k) i) j : Nat) : Int) + (cnt (W k) j : Int)) = ((S + sumN (fun i => cnt (W k) i) (j + 1) : Nat) : Int) := by rw [hse]; simp only [wrap64]; omega
          go_wp2_with (first | (go_at_call 123; (with_reducible refine (G.out j hjw).mono ?_); rintro e w' ⟨rfl, rfl⟩))
          go_roundw
          case rel => refine ⟨j + 1, by omega, by simp, ?_⟩; rw [hse]; simp; omega
          case measure => simp only [intOf]; omega
        · have h2 : ¬ (j : Int) < (width : Int) := by omega
          obtain rfl : j = width := by omega
          go_wp2
          go_roundw
          case rel => refine ⟨k + 1, by omega, by simp, ?_⟩; rw [HSE.out]; simp
          case measure => simp only [intOf]; omega
    · have h1 : ¬ (k : Int) < 4 := by omega
      obtain rfl : k = 4 := by omega
      go_wp2
      go_ret
      exact ⟨rfl, rfl⟩

/-- A word with its counters halved. -/
@[irreducible] def hf (x : Nat) : Nat := x / 2 &&& 8608480567731124087
theorem hf_lt (x : Nat) : hf x < 18446744073709551616 := by rw [hf]; exact half_lt x
theorem cnt_hf (W : Nat → Nat) (i : Nat) : cnt (fun q => hf (W q)) i = cnt W i / 2 := by
  have : (fun q => hf (W q)) = fun q => W q / 2 &&& 8608480567731124087 := funext fun q => by rw [hf]
  rw [this]; exact cnt_half W i
theorem hf_word (x : Nat) (hx : x < 18446744073709551616) : bits BinOp.and IntKind.u64 ((x : Int) / 2) 8608480567731124087 = (hf x : Int) := by
  have h : (x : Int) / 2 = ((x / 2 : Nat) : Int) := by norm_cast
  rw [hf, h, show (8608480567731124087 : Int) = ((8608480567731124087 : Nat) : Int) from rfl, u64_and_nat _ _ (by omega) (by omega)]

theorem halve_any {w : World} {b : Nat} {g : Nat → Nat} {seed : Int} {width L : Nat} {W : Nat → Nat → Nat} (h : Sk w b g seed width L W) :
    Calls Tryz.prog 81 #[.pointer (some ⟨b, 0, none⟩)] w fun e w' => e = .returned (.int .i64 (sumN (fun r => sumN (fun i => cnt (W r) i / 2) width) 4 : Int)) ∧
      Sk w' b g seed width L (fun r => if r < 4 then (fun q => hf (W r q)) else W r) ∧ Keeps (rowsOf g) w w' := by
  have q0 : w.cell? ⟨b, 2, none⟩ = some (.slice (some ⟨g 0, 0, none⟩) L L) := h.top.cell (i := 2) (by omega)
  have q1 : w.cell? ⟨b, 3, none⟩ = some (.slice (some ⟨g 1, 0, none⟩) L L) := h.top.cell (i := 3) (by omega)
  have q2 : w.cell? ⟨b, 4, none⟩ = some (.slice (some ⟨g 2, 0, none⟩) L L) := h.top.cell (i := 4) (by omega)
  have q3 : w.cell? ⟨b, 5, none⟩ = some (.slice (some ⟨g 3, 0, none⟩) L L) := h.top.cell (i := 5) (by omega)
  have R := Lib.hid (real_any h)
  have H := Lib.hid h
  clear h
  go_enter Tryz.func81, Tryz.ntmps81
  go_wp2_with fail
  refine R.out.mono ?_
  rintro e w' ⟨rfl, rfl⟩
  go_wp2
  clear q0 q1 q2 q3
  go_loopw [13] (fun i wr => ∃ k : Nat, k ≤ 4 ∧ i = .int .i64 (k : Int) ∧ Sk wr b g seed width L (fun r => if r < k then (fun q => hf (W r q)) else W r) ∧ Keeps (rowsOf g) w wr) (fun i _ => 4 - (intOf i).toNat)
  case atStart => exact ⟨0, Nat.zero_le _, rfl, H.out.congr (fun r => by simp), Keeps.refl _ _⟩
  case round =>
    obtain ⟨k, hk, rfl, hsk, hkp⟩ := hrel
    have HS := Lib.hid hsk
    have HK := Lib.hid hkp
    clear hsk hkp
    by_cases hk4 : k < 4
    · have h1 : (k : Int) < 4 := by omega
      have hix := idx4 (fun r => .slice (some ⟨g r, 0, none⟩) L L) k hk4 wr
      have hL : L ≤ 4096 := by have := H.out.hl; have := H.out.w2; omega
      have A0 := Lib.hid ((HS.out.row k hk4).congr (G := fun q => .int .u64 ((if q < 0 then hf (W k q) else W k q : Nat) : Int)) (fun q _ => by simp [wd]))
      go_wp2
      go_loopw [18] (fun i wq => ∃ j : Nat, j ≤ L ∧ i = .int .i64 (j : Int) ∧ Arr wq (g k) 22 L (fun q => .int .u64 ((if q < j then hf (W k q) else W k q : Nat) : Int)) ∧ Keeps (fun j => j = g k) wr wq) (fun i _ => L - (intOf i).toNat)
      case atStart => exact ⟨0, Nat.zero_le _, rfl, A0.out, Keeps.refl _ _⟩
      case round =>
        obtain ⟨j, hj, rfl, ha, hkq⟩ := hrel
        by_cases hjL : j < L
        · have h2 : (j : Int) < (L : Int) := by omega
          have h5 : (j : Int) + 1 ≤ 9223372036854775807 := by omega
          have hx := H.out.wds k j
          have hc : wr.cell? ⟨g k, j, none⟩ = some (.int .u64 (W k j : Int)) := by have := ha.cell hjL; simpa using this
          have hfr := ha.free j
          have E := Lib.hid (hf_word (W k j) hx)
          have HA := Lib.hid ha
          have HQ := Lib.hid hkq
          clear ha hkq
          go_wp2
          go_roundw
          case rel =>
            rw [E.out]
            refine ⟨j + 1, by omega, by simp, (HA.out.set j _).congr (fun q _ => ?_), HQ.out.setCell (p := ⟨g k, j, none⟩) (.inl rfl) _⟩
            by_cases e : q = j
            · subst e; simp
            · by_cases e2 : q < j
              · simp [e, e2, show q < j + 1 by omega]
              · simp [e, e2, show ¬ q < j + 1 by omega]
          case measure => simp only [intOf]; omega
        · have h2 : ¬ (j : Int) < (L : Int) := by omega
          obtain rfl : j = L := by omega
          go_wp2
          go_roundw
          case rel =>
            refine ⟨k + 1, by omega, by simp, (HS.out.setRow hk4 (ha.congr (G := wd (fun q => hf (W k q))) (fun q hq => by simp [wd, hq])) hkq (fun q => hf_lt _)).congr (fun r => ?_), HK.out.trans hkq (fun n hn => .inl ⟨k, hk4, hn⟩)⟩
            by_cases e : r = k
            · subst e; simp
            · by_cases e2 : r < k
              · simp [e, e2, show r < k + 1 by omega]
              · simp [e, e2, show ¬ r < k + 1 by omega]
          case measure => simp only [intOf]; omega
    · have h1 : ¬ (k : Int) < 4 := by omega
      obtain rfl : k = 4 := by omega
      have C := Lib.hid (sum_any HS.out)
      have e : sumN (fun r => sumN (fun i => cnt ((fun r => if r < 4 then (fun q => hf (W r q)) else W r) r) i) width) 4 = sumN (fun r => sumN (fun i => cnt (W r) i / 2) width) 4 :=
        sumN_congr 4 (fun r hr => sumN_congr width (fun i _ => by simp only [hr, if_true]; exact cnt_hf _ _))
      rw [e] at C
      clear e
      go_wp2_with fail
      refine C.out.mono ?_
      rintro e w2 ⟨rfl, rfl⟩
      go_wp2
      go_ret
      exact ⟨rfl, HS.out, HK.out⟩

theorem zero_u64 (w : World) : (zeroValue 22).run Tryz.prog w = .ok (.int .u64 0) w := by kernel_rfl

end Go.Proofs.YtbgknopjgohocaaGreat


/- The sketch of the document: walks. -/
namespace Go.Proofs.YtbgknopjgohocaaGreat
open Go.RowKit
set_option linter.unusedVariables false

/-- A row of numbers. -/
def nm (c : Nat → Nat) (i : Nat) : Value := .int .i64 (c i : Int)

/-- The counters behind one more at each of a key's places, in the first k rows. -/
def addC (c : Nat → Nat → Nat) (pk : Nat → Nat) (k : Nat) : Nat → Nat → Nat := fun r => if r < k then (fun i => if i = pk r then min (c r i + 1) 15 else c r i) else c r

end Go.Proofs.YtbgknopjgohocaaGreat


/- The sketch of the program: New; sketches that are none. -/
namespace Go.Proofs.YtbgknopjgohocaaGreat
open Go.RowKit
set_option linter.unusedVariables false

theorem infoWord : (Tryz.prog.info? 22).map (fun i => (i.zero, i.size, i.bytes)) = some (some (.int .u64 0), 1, 8) := by kernel_rfl

theorem madeCells_get (z : Value) (n i : Nat) (hi : i < n) : (madeCells #[z] n)[i]? = some z := by
  have h := toList_madeCells_one z n
  have : (madeCells #[z] n).toList[i]? = some z := by rw [h]; simp [hi]
  simpa using this

theorem make_row (L : Nat) (hL : L ≤ 4096) (W : World) : (Instr.makeSlice 164 (.int .i64 (L : Int)) (.int .i64 (L : Int))).run Tryz.prog W = .ok (.slice (some ⟨W.heap.size, 0, none⟩) L L) (W.alloc (.cells (madeCells #[.int .u64 0] L) 22)) := by
  obtain ⟨i0, hi, hz0, hz1, hz2⟩ := info_parts infoWord
  have := run_make (P := Tryz.prog) (w := W) 164 22 i0 (.int .u64 0) Tryz.underlying164 hi hz0 .i64 .i64 (L : Int) (L : Int) (by omega) (Int.le_refl _) (by rw [hz2]; omega) (by omega)
  rw [this, hz1]
  simp [Value.cells]

theorem new_any (w : World) (width : Nat) (seed : Int) (h1 : 1 ≤ width) (h2 : width ≤ 4096) (s0 : 0 ≤ seed) (s1 : seed ≤ 18446744073709551615) (L : Nat) (hL : L = (width + 15) / 16) :
    Calls Tryz.prog 73 #[.int .i64 (width : Int), .int .u64 seed] w fun e w' => e = .returned (.tuple #[.pointer (some ⟨w.heap.size, 0, none⟩), .int .i64 0]) ∧
      Sk w' w.heap.size (fun r => w.heap.size + 1 + r) seed width L (fun _ _ => 0) ∧ Below w.heap.size w w' := by
  have M := fun W => make_row L (by omega) W
  have q : ((width : Int) + 16 - 1) / 16 = (L : Int) := by omega
  have HL := Lib.hid hL
  clear hL
  have a1 : ¬ (width : Int) < 1 := by omega
  have a2 : ¬ (4096 : Int) < (width : Int) := by omega
  go_enter Tryz.func73, Tryz.ntmps73
  go_wp2
  have A0 : Arr (w.alloc (.cells #[.int .u64 seed, .int .i64 (width : Int), .slice none 0 0, .slice none 0 0, .slice none 0 0, .slice none 0 0] 167)) w.heap.size 167 6 (fun i => if i < 2 + 0 then topF (fun r => w.heap.size + 1 + r) seed width L i else .slice none 0 0) :=
    ⟨_, heap_at _ _ _ rfl, rfl, fun i hi => by
      have : i = 0 ∨ i = 1 ∨ i = 2 ∨ i = 3 ∨ i = 4 ∨ i = 5 := by omega
      rcases this with rfl | rfl | rfl | rfl | rfl | rfl <;> rfl⟩
  have hb0 := (Below.refl w.heap.size w).alloc (Nat.le_refl _) (.cells #[.int .u64 seed, .int .i64 (width : Int), .slice none 0 0, .slice none 0 0, .slice none 0 0, .slice none 0 0] 167)
  have hz0 : (w.alloc (.cells #[.int .u64 seed, .int .i64 (width : Int), .slice none 0 0, .slice none 0 0, .slice none 0 0, .slice none 0 0] 167)).heap.size = w.heap.size + 1 + 0 := by simp
  generalize w.alloc (.cells #[.int .u64 seed, .int .i64 (width : Int), .slice none 0 0, .slice none 0 0, .slice none 0 0, .slice none 0 0] 167) = w0 at *
  have HA0 := Lib.hid A0
  clear A0
  go_loopw [18] (fun i wr => ∃ k : Nat, k ≤ 4 ∧ i = .int .i64 (k : Int) ∧ wr.heap.size = w.heap.size + 1 + k ∧ Arr wr w.heap.size 167 6 (fun i => if i < 2 + k then topF (fun r => w.heap.size + 1 + r) seed width L i else .slice none 0 0) ∧
      (∀ r, r < k → Arr wr (w.heap.size + 1 + r) 22 L (wd (fun _ => 0))) ∧ Below w.heap.size w wr) (fun i _ => 4 - (intOf i).toNat)
  case atStart => exact ⟨0, Nat.zero_le _, rfl, hz0, HA0.out, fun r hr => absurd hr (Nat.not_lt_zero r), hb0⟩
  case round =>
    obtain ⟨k, hk, rfl, hsz, ha, hr, hb⟩ := hrel
    by_cases hk4 : k < 4
    · have h1 : (k : Int) < 4 := by omega
      have hc : wr.cell? ⟨w.heap.size, 2 + k, none⟩ = some (.slice none 0 0) := by have := ha.cell (i := 2 + k) (by omega); simpa using this
      have hf := ha.free (2 + k)
      have HA := Lib.hid ha
      have HR := Lib.hid hr
      have HB := Lib.hid hb
      have HZ := Lib.hid hsz
      have hblk := ha.lt
      clear ha hr hb hsz
      go_wp2_with fail
      go_region
      all_goals
        go_wp2
        go_roundw
        case rel =>
          have hz := HZ.out
          refine ⟨k + 1, by omega, by simp, ?_, ?_, ?_, ?_⟩
          · show ((wr.setCell _ _).alloc _).heap.size = _
            rw [World.size_alloc, World.size_setCell]; omega
          · refine Arr.congr (((HA.out.set (2 + k) _).past _).drewN 1) (fun i hi => ?_)
            by_cases e : i = 2 + k
            · subst e
              rw [hz]
              simp [topF, Nat.add_comm 2 k]
              omega
            · by_cases e2 : i < 2 + k
              · simp only [e, e2, if_false, if_true, show i < 2 + (k + 1) by omega]
              · simp only [e, e2, if_false, show ¬ i < 2 + (k + 1) by omega]
          · intro r hr
            by_cases e : r = k
            · subst e
              have := Arr.made (wr.setCell ⟨w.heap.size, 2 + r, none⟩ (.slice (some ⟨wr.heap.size, 0, none⟩) L L)) 22 L (.int .u64 0) (madeCells #[.int .u64 0] L) (by simp [madeCells]) (fun i hi => madeCells_get _ _ _ hi)
              have e0 : (wr.setCell ⟨w.heap.size, 2 + r, none⟩ (.slice (some ⟨wr.heap.size, 0, none⟩) L L)).heap.size = w.heap.size + 1 + r := by rw [World.size_setCell, hz]
              rw [e0] at this
              exact this.drewN 1
            · have hne : w.heap.size + 1 + r ≠ w.heap.size := by omega
              exact (((HR.out r (by omega)).far hne _ _).past _).drewN 1
          · exact ((HB.out.setCell (p := ⟨w.heap.size, 2 + k, none⟩) (Nat.le_refl _) _).alloc (by rw [World.size_setCell]; omega) _).drew
        case measure => simp only [intOf]; omega
    · have h1 : ¬ (k : Int) < 4 := by omega
      obtain rfl : k = 4 := by omega
      go_wp2
      go_ret2
      refine ⟨rfl, ⟨ha.congr (fun i hi => by rw [if_pos (by omega)]), fun r hr4 => hr r hr4, fun r s _ _ e => by omega, fun r q => by omega, by omega, by omega, HL.out, s0, s1⟩, hb⟩

end Go.Proofs.YtbgknopjgohocaaGreat


/- The sketch of the document: Halve, Clear, New. -/
namespace Go.Proofs.YtbgknopjgohocaaGreat
open Go.RowKit
set_option linter.unusedVariables false

theorem halfI (x : Nat) : ((x : Int) / 2) = ((x / 2 : Nat) : Int) := by omega

/-- The counters, halved up to row k, place j. -/
def hC (c : Nat → Nat → Nat) (k j : Nat) : Nat → Nat → Nat := fun r q => if r < k ∨ (r = k ∧ q < j) then c r q / 2 else c r q

theorem hC_cap {c : Nat → Nat → Nat} (h : ∀ r i, c r i ≤ 15) (k j r i : Nat) : hC c k j r i ≤ 15 := by
  have := h r i
  unfold hC; split <;> omega

theorem make_ints (L : Nat) (hL : L ≤ 4096) (W : World) : (Instr.makeSlice 25 (.int .i64 (L : Int)) (.int .i64 (L : Int))).run Tryz.prog W = .ok (.slice (some ⟨W.heap.size, 0, none⟩) L L) (W.alloc (.cells (madeCells #[.int .i64 0] L) 3)) := by
  obtain ⟨i0, hi, hz0, hz1, hz2⟩ := info_parts infoInt
  have := run_make (P := Tryz.prog) (w := W) 25 3 i0 (.int .i64 0) Tryz.underlying25 hi hz0 .i64 .i64 (L : Int) (L : Int) (by omega) (Int.le_refl _) (by rw [hz2]; omega) (by omega)
  rw [this, hz1]
  simp [Value.cells]

end Go.Proofs.YtbgknopjgohocaaGreat


/- Two sketches side by side: what each call makes of both. -/
namespace Go.Proofs.YtbgknopjgohocaaGreat
open Go.RowKit
set_option linter.unusedVariables false

/-- What a key counts. -/
def cntC (c : Nat → Nat → Nat) (pk : Nat → Nat) : Nat := least (fun r => c r (pk r)) 4
def sumC (width : Nat) (c : Nat → Nat → Nat) : Nat := sumN (fun r => sumN (fun i => c r i) width) 4
def addA (c : Nat → Nat → Nat) (pk : Nat → Nat) : Nat → Nat → Nat := fun r i => if i = pk r then min (c r i + 1) 15 else c r i
def halfA (c : Nat → Nat → Nat) : Nat → Nat → Nat := fun r i => c r i / 2

theorem least_congr {c d : Nat → Nat} (k : Nat) (h : ∀ r, r < k → c r = d r) : least c k = least d k := by
  induction k with
  | zero => rfl
  | succ k ih => simp only [least]; rw [ih (fun r hr => h r (by omega)), h k (by omega)]

section
variable {F : Nat → Prop} {w : World} {b b' : Nat} {seed : Int} {width : Nat} {c d : Nat → Nat → Nat}

end

end Go.Proofs.YtbgknopjgohocaaGreat


/- The program's sketch alone, by what it counts. -/
namespace Go.Proofs.YtbgknopjgohocaaGreat
open Go.RowKit
set_option linter.unusedVariables false

/-- The program's sketch at b counts c; the blocks of F are none of its own. -/
structure One (F : Nat → Prop) (w : World) (b : Nat) (seed : Int) (width : Nat) (c : Nat → Nat → Nat) : Prop where
  old : ∀ j, F j → j < w.heap.size
  prog : ∃ g L W, Sk w b g seed width L W ∧ (∀ r i, r < 4 → i < width → cnt (W r) i = c r i) ∧ ¬ F b ∧ ∀ r, r < 4 → ¬ F (g r)

section
variable {F : Nat → Prop} {w : World} {b : Nat} {seed : Int} {width : Nat} {c d : Nat → Nat → Nat}

theorem One.drewN (h : One F w b seed width c) (n : Nat) : One F (w.drewN n) b seed width c := by
  obtain ⟨h0, ⟨g, L, W, hs, hc⟩⟩ := h
  exact ⟨h0, ⟨g, L, W, hs.drewN n, hc⟩⟩
theorem One.drew (h : One F w b seed width c) : One F w.drew b seed width c := by
  obtain ⟨h0, ⟨g, L, W, hs, hc⟩⟩ := h
  exact ⟨h0, ⟨g, L, W, hs.drew, hc⟩⟩
theorem One.wid (h : One F w b seed width c) : 1 ≤ width ∧ width ≤ 4096 := by
  obtain ⟨h0, ⟨g, L, W, hs, hc⟩⟩ := h
  exact ⟨hs.w1, hs.w2⟩
theorem One.keep {w' : World} (h : One F w b seed width c) (k : Keeps F w w') : One F w' b seed width c := by
  obtain ⟨h0, ⟨g, L, W, hs, hc, hb, hg⟩⟩ := h
  exact ⟨fun j hj => Nat.lt_of_lt_of_le (h0 j hj) k.size, ⟨g, L, W, hs.keep k hb hg, hc, hb, hg⟩⟩
theorem One.mono {G : Nat → Prop} (h : One F w b seed width c) (hG : ∀ j, G j → F j) : One G w b seed width c := by
  obtain ⟨h0, ⟨g, L, W, hs, hc, hb, hg⟩⟩ := h
  exact ⟨fun j hj => h0 j (hG j hj), ⟨g, L, W, hs, hc, fun x => hb (hG _ x), fun r hr x => hg r hr (hG _ x)⟩⟩
theorem One.past (h : One F w b seed width c) (o : Obj) : One (fun j => F j ∨ j = w.heap.size) (w.alloc o) b seed width c := by
  obtain ⟨h0, ⟨g, L, W, hs, hc, hb, hg⟩⟩ := h
  have k0 : Keeps (fun _ => False) w (w.alloc o) := (Keeps.refl _ w).alloc o
  refine ⟨fun j hj => ?_, ⟨g, L, W, hs.keep k0 (fun x => x) (fun _ _ x => x), hc, ?_, ?_⟩⟩
  · rw [World.size_alloc]
    rcases hj with hj | hj
    · have := h0 j hj; omega
    · omega
  · rintro (x | x)
    · exact hb x
    · have := hs.top.lt; omega
  · rintro r hr (x | x)
    · exact hg r hr x
    · have := (hs.row r hr).lt; omega

theorem oNew (w : World) (width : Nat) (seed : Int) (h1 : 1 ≤ width) (h2 : width ≤ 4096) (s0 : 0 ≤ seed) (s1 : seed ≤ 18446744073709551615) :
    Calls Tryz.prog 73 #[.int .i64 (width : Int), .int .u64 seed] w fun e w' => e = .returned (.tuple #[.pointer (some ⟨w.heap.size, 0, none⟩), .int .i64 0]) ∧
      One (fun j => j < w.heap.size) w' w.heap.size seed width (fun _ _ => 0) ∧ Below w.heap.size w w' :=
  (new_any w width seed h1 h2 s0 s1 _ rfl).mono fun e w' ⟨he, hs, hb⟩ => ⟨he, ⟨fun j hj => Nat.lt_of_lt_of_le hj hb.size, _, _, _, hs, fun r i _ _ => cnt_zero i, by omega, fun r _ => by omega⟩, hb⟩

theorem oCount (h : One F w b seed width c) (key : Int) (k0 : 0 ≤ key) (k1 : key ≤ 18446744073709551615) :
    Calls Tryz.prog 109 #[.pointer (some ⟨b, 0, none⟩), .int .u64 key] w fun e w' => e = .returned (.int .i64 (cntC c (pickN seed key width) : Int)) ∧ One F w' b seed width c ∧ Keeps (fun j => ¬ F j) w w' := by
  obtain ⟨h0, ⟨g, L, W, hs, hc, hb, hg⟩⟩ := h
  refine (count_any hs key k0 k1).mono fun e w' ⟨he, hk⟩ => ⟨?_, ⟨fun j hj => Nat.lt_of_lt_of_le (h0 j hj) hk.size, ⟨g, L, W, hs.below hk, hc, hb, hg⟩⟩, (Keeps.of_below hk).mono (fun n hn hS => by omega)⟩
  rw [he, cntC, least_congr 4 (fun r hr4 => hc r _ hr4 (pickN_lt seed key width r hs.w1))]

theorem oSum (h : One F w b seed width c) :
    Calls Tryz.prog 110 #[.pointer (some ⟨b, 0, none⟩)] w fun e w' => e = .returned (.int .i64 (sumC width c : Int)) ∧ w' = w := by
  obtain ⟨h0, ⟨g, L, W, hs, hc, hb, hg⟩⟩ := h
  refine (sum_any hs).mono fun e w' ⟨he, hk⟩ => ⟨?_, hk⟩
  rw [he, sumC, sumN_congr 4 (fun r hr4 => sumN_congr width (fun i hi => hc r i hr4 hi))]

theorem oAdd (h : One F w b seed width c) (key : Int) (k0 : 0 ≤ key) (k1 : key ≤ 18446744073709551615) :
    Calls Tryz.prog 80 #[.pointer (some ⟨b, 0, none⟩), .int .u64 key] w fun e w' => e = .returned (.int .i64 (cntC (addA c (pickN seed key width)) (pickN seed key width) : Int)) ∧
      One F w' b seed width (addA c (pickN seed key width)) ∧ Keeps (fun j => ¬ F j) w w' := by
  obtain ⟨h0, ⟨g, L, W, hs, hc, hb, hg⟩⟩ := h
  have hcc : ∀ r i, r < 4 → i < width → cnt (addW W seed key width 4 r) i = addA c (pickN seed key width) r i := fun r i hr4 hi => by
    unfold addW addA
    rw [if_pos hr4, cnt_moreW (hs.wds r _), hc r i hr4 hi]
  refine (add_any hs key k0 k1).mono fun e w' ⟨he, hs', hk⟩ => ⟨?_, ⟨fun j hj => Nat.lt_of_lt_of_le (h0 j hj) hk.size, ⟨g, L, _, hs', hcc, hb, hg⟩⟩, hk.mono (fun n _ ⟨r, hr4, e⟩ => e ▸ hg r hr4)⟩
  rw [he, cntC, least_congr 4 (fun r hr4 => hcc r _ hr4 (pickN_lt seed key width r hs.w1))]

theorem oHalve (h : One F w b seed width c) :
    Calls Tryz.prog 81 #[.pointer (some ⟨b, 0, none⟩)] w fun e w' => e = .returned (.int .i64 (sumC width (halfA c) : Int)) ∧ One F w' b seed width (halfA c) ∧ Keeps (fun j => ¬ F j) w w' := by
  obtain ⟨h0, ⟨g, L, W, hs, hc, hb, hg⟩⟩ := h
  refine (halve_any hs).mono fun e w' ⟨he, hs', hk⟩ => ⟨?_, ⟨fun j hj => Nat.lt_of_lt_of_le (h0 j hj) hk.size, ⟨g, L, _, hs', fun r i hr4 hi => ?_, hb, hg⟩⟩, hk.mono (fun n _ ⟨r, hr4, e⟩ => e ▸ hg r hr4)⟩
  · rw [he, sumC, sumN_congr 4 (fun r hr4 => sumN_congr width (fun i hi => by rw [hc r i hr4 hi]))]; rfl
  · simp only [hr4, if_true]; rw [cnt_hf, hc r i hr4 hi]; rfl

end

/-- One place of a row. -/
theorem sumN_one (p m n : Nat) : sumN (fun i => if i = p then m else 0) n = if p < n then m else 0 := by
  induction n with
  | zero => rfl
  | succ n ih =>
    simp only [sumN]; rw [ih]
    by_cases h : n = p
    · subst h; simp
    · by_cases h2 : p < n
      · simp [h, h2, show p < n + 1 by omega]
      · simp [h, h2, show ¬ p < n + 1 by omega]

theorem cnt_one (pk : Nat → Nat) : cntC (addA (fun _ _ => 0) pk) pk = 1 := by simp [cntC, least, addA]
theorem cnt_two (pk : Nat → Nat) : cntC (addA (addA (fun _ _ => 0) pk) pk) pk = 2 := by simp [cntC, least, addA]
theorem sum_two (pk : Nat → Nat) (n : Nat) (h : ∀ r, pk r < n) : sumC n (halfA (addA (addA (fun _ _ => 0) pk) pk)) = 4 := by
  have e : ∀ r, (fun i => halfA (addA (addA (fun _ _ => 0) pk) pk) r i) = fun i => if i = pk r then 1 else 0 := fun r => funext fun i => by
    unfold halfA addA
    by_cases h : i = pk r <;> simp [h]
  unfold sumC
  simp only [e, sumN_one, h, if_true, sumN]
theorem sum_one (pk : Nat → Nat) (n : Nat) (h : ∀ r, pk r < n) : sumC n (addA (fun _ _ => 0) pk) = 4 := by
  have e : ∀ r, (fun i => addA (fun _ _ => 0) pk r i) = fun i => if i = pk r then 1 else 0 := fun r => funext fun i => by
    unfold addA
    by_cases h : i = pk r <;> simp [h]
  unfold sumC
  simp only [e, sumN_one, h, if_true, sumN]

end Go.Proofs.YtbgknopjgohocaaGreat


/- Both sketches by the blocks that they own. -/
namespace Go.Proofs.YtbgknopjgohocaaGreat
open Go.RowKit
set_option linter.unusedVariables false

/-- The program's sketch at b counts c; its blocks lie in S. -/
def SkO (b : Nat) (seed : Int) (width : Nat) (c : Nat → Nat → Nat) (S : Nat → Prop) (w : World) : Prop :=
  ∃ g L W, Sk w b g seed width L W ∧ (∀ r i, r < 4 → i < width → cnt (W r) i = c r i) ∧ S b ∧ ∀ r, r < 4 → S (g r)

instance (b : Nat) (seed : Int) (width : Nat) (c : Nat → Nat → Nat) : Rep (SkO b seed width c) where
  keep := fun ⟨g, L, W, h, hc, hb, hg⟩ _ k ht => ⟨g, L, W, h.keep k (ht _ hb) (fun r hr => ht _ (hg r hr)), hc, hb, hg⟩
  mono := fun ⟨g, L, W, h, hc, hb, hg⟩ hs => ⟨g, L, W, h, hc, hs _ hb, fun r hr => hs _ (hg r hr)⟩
section
variable {S : Nat → Prop} {w w' : World} {b : Nat} {seed : Int} {width : Nat} {c d : Nat → Nat → Nat}

theorem SkO.one (h : SkO b seed width c S w) : One (fun j => j < w.heap.size ∧ ¬ S j) w b seed width c := by
  obtain ⟨g, L, W, hs, hc, hb, hg⟩ := h
  exact ⟨fun j hj => hj.1, g, L, W, hs, hc, fun x => x.2 hb, fun r hr x => x.2 (hg r hr)⟩
theorem SkO.of_one (h : One (fun j => j < w.heap.size ∧ ¬ S j) w' b seed width c) : SkO b seed width c (Ext S w w') w' := by
  obtain ⟨h0, ⟨g, L, W, hs, hc, hb, hg⟩⟩ := h
  have key : ∀ j, j < w'.heap.size → ¬ (j < w.heap.size ∧ ¬ S j) → Ext S w w' j := fun j hj x => by
    by_cases hS : S j
    · exact .inl hS
    · exact .inr ⟨by by_cases hz : j < w.heap.size; exact absurd ⟨hz, hS⟩ x; omega, hj⟩
  exact ⟨g, L, W, hs, hc, key b hs.top.lt hb, fun r hr => key _ (hs.row r hr).lt (hg r hr)⟩
theorem Keeps.of_not (k : Keeps (fun j => ¬ (j < w.heap.size ∧ ¬ S j)) w w') : Keeps S w w' :=
  k.mono (fun n hn x => by
    by_cases hS : S n
    · exact hS
    · exact absurd ⟨hn, hS⟩ x)

theorem SkO.wid (h : SkO b seed width c S w) : 1 ≤ width ∧ width ≤ 4096 := by
  obtain ⟨g, L, W, hs, _⟩ := h
  exact ⟨hs.w1, hs.w2⟩

theorem skNew (w : World) (width : Nat) (seed : Int) (h1 : 1 ≤ width) (h2 : width ≤ 4096) (s0 : 0 ≤ seed) (s1 : seed ≤ 18446744073709551615) :
    Calls Tryz.prog 73 #[.int .i64 (width : Int), .int .u64 seed] w fun e w' => e = .returned (.tuple #[.pointer (some ⟨w.heap.size, 0, none⟩), .int .i64 0]) ∧
      SkO w.heap.size seed width (fun _ _ => 0) (New w w') w' ∧ Below w.heap.size w w' :=
  (new_any w width seed h1 h2 s0 s1 _ rfl).mono fun e w' ⟨he, hs, hb⟩ => ⟨he, ⟨_, _, _, hs, fun r i _ _ => cnt_zero i, ⟨Nat.le_refl _, hs.top.lt⟩, fun r hr => ⟨by omega, (hs.row r hr).lt⟩⟩, hb⟩

theorem skCount (h : SkO b seed width c S w) (key : Int) (k0 : 0 ≤ key) (k1 : key ≤ 18446744073709551615) :
    Calls Tryz.prog 109 #[.pointer (some ⟨b, 0, none⟩), .int .u64 key] w fun e w' => e = .returned (.int .i64 (cntC c (pickN seed key width) : Int)) ∧ SkO b seed width c (Ext S w w') w' ∧ Keeps S w w' :=
  (oCount h.one key k0 k1).mono fun e w' ⟨he, ho, hk⟩ => ⟨he, SkO.of_one ho, hk.of_not⟩
theorem skSum (h : SkO b seed width c S w) :
    Calls Tryz.prog 110 #[.pointer (some ⟨b, 0, none⟩)] w fun e w' => e = .returned (.int .i64 (sumC width c : Int)) ∧ w' = w := oSum h.one
theorem skAdd (h : SkO b seed width c S w) (key : Int) (k0 : 0 ≤ key) (k1 : key ≤ 18446744073709551615) :
    Calls Tryz.prog 80 #[.pointer (some ⟨b, 0, none⟩), .int .u64 key] w fun e w' => e = .returned (.int .i64 (cntC (addA c (pickN seed key width)) (pickN seed key width) : Int)) ∧
      SkO b seed width (addA c (pickN seed key width)) (Ext S w w') w' ∧ Keeps S w w' :=
  (oAdd h.one key k0 k1).mono fun e w' ⟨he, ho, hk⟩ => ⟨he, SkO.of_one ho, hk.of_not⟩
theorem skHalve (h : SkO b seed width c S w) :
    Calls Tryz.prog 81 #[.pointer (some ⟨b, 0, none⟩)] w fun e w' => e = .returned (.int .i64 (sumC width (halfA c) : Int)) ∧ SkO b seed width (halfA c) (Ext S w w') w' ∧ Keeps S w w' :=
  (oHalve h.one).mono fun e w' ⟨he, ho, hk⟩ => ⟨he, SkO.of_one ho, hk.of_not⟩

end

end Go.Proofs.YtbgknopjgohocaaGreat
