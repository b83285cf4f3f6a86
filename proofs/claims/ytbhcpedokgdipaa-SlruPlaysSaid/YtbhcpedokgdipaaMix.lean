/- Numbers made of seeds: the program's and the document's are one. -/
import Derived.Test.YtbhcpedokgdipaaHp
import Derived.IntWalk
import Derived.OpenShut
namespace Go.Proofs.Ytbhcpedokgdipaa
open Go.RowKit
set_option linter.unusedVariables false

/-- A word, held against its own upper part. -/
@[irreducible] def ov (x d : Int) : Int := bits BinOp.xor IntKind.u64 x (x / d)

/-- Powers of two, out of sight of the simplifier. -/
@[irreducible] def pw (k : Nat) : Int := ((2 ^ k : Nat) : Int)
theorem pw_zero : pw 0 = 1 := by rw [pw]; rfl
theorem pw_succ (k : Nat) : pw (k + 1) = pw k * 2 := by rw [pw, pw, Nat.pow_succ]; push_cast; rfl
theorem pw_pos (k : Nat) : 0 < pw k := by rw [pw]; have := Nat.pow_pos (n := k) (show 0 < 2 by omega); omega

theorem ov_spec (x d : Int) : bits BinOp.xor IntKind.u64 x (x / d) = ov x d := by rw [ov]

theorem over_by (x : Int) (h0 : 0 ≤ x) (h1 : x ≤ 18446744073709551615) (w : World) (k : Int) (d : Int) (hk : (k = 30 ∧ d = 1073741824) ∨ (k = 27 ∧ d = 134217728) ∨ (k = 31 ∧ d = 2147483648)) :
    Calls Try.prog 109 #[.int .u64 x, .int .i64 k] w fun e w' => e = .returned (.int .u64 (ov x d)) ∧ w = w' := by
  rcases hk with ⟨rfl, rfl⟩ | ⟨rfl, rfl⟩ | ⟨rfl, rfl⟩
  all_goals
    go_enter Try.func109, Try.ntmps109
    go_wp2
    rw [ov_spec]
    go_ret
    exact ⟨rfl, rfl⟩

theorem half_by (x : Int) (h0 : 0 ≤ x) (h1 : x ≤ 18446744073709551615) (w : World) (n : Nat) (hn : n < 64) :
    Calls Try.prog 103 #[.int .u64 x, .int .i64 (n : Int)] w fun e w' => e = .returned (.int .u64 (ov x (pw n))) ∧ w = w' := by
  go_enter Try.func103, Try.ntmps103
  go_wp2
  go_loopw [5, 6] (fun y i wr => ∃ k : Nat, k ≤ n ∧ i = .int .i64 (k : Int) ∧ y = .int .u64 (x / pw k) ∧ wr = w) (fun _ i _ => n - (intOf i).toNat)
  case atStart => exact ⟨0, Nat.zero_le _, rfl, by simp [pw_zero], rfl⟩
  case round =>
    obtain ⟨k, hk, rfl, rfl, rfl⟩ := hrel
    have hp : (0 : Int) < pw k := pw_pos k
    have e1 : x / pw k / 2 = x / pw (k + 1) := by
      rw [Int.ediv_ediv_of_nonneg (by omega), pw_succ]
    have b0 : 0 ≤ x / pw k := Int.ediv_nonneg h0 (by omega)
    have b1 : x / pw k ≤ x := Int.ediv_le_self _ h0
    generalize hy : x / pw k = y at *
    by_cases h : k < n
    · have h2 : (k : Int) < (n : Int) := by omega
      have h3 : (k : Int) + 1 ≤ 9223372036854775807 := by omega
      go_wp2
      go_roundw
      case rel => refine ⟨k + 1, by omega, ?_⟩; simp [← e1]
      case measure => simp only [intOf]; omega
    · have h2 : ¬ (k : Int) < (n : Int) := by omega
      obtain rfl : k = n := by omega
      go_wp2
      go_ret
      refine ⟨?_, rfl⟩
      rw [← ov_spec, hy]; rfl

/-- A number made of a seed and a number. -/
@[irreducible] def ofI (seed n : Int) : Int :=
  ov (IntKind.u64.wrap (ov (IntKind.u64.wrap (ov (IntKind.u64.wrap (n + IntKind.u64.wrap (11400714819323198485 * seed))) 1073741824 * 13787848793156543929)) 134217728 * 10723151780598845931)) 2147483648

theorem wr_bd (x : Int) : 0 ≤ IntKind.u64.wrap x ∧ IntKind.u64.wrap x ≤ 18446744073709551615 := bounds_u64 (wf_wrap _ _)
theorem ov_bd (x d : Int) : 0 ≤ ov x d ∧ ov x d ≤ 18446744073709551615 := by rw [← ov_spec]; exact bounds_u64 (wf_bits _ _ _ _)
theorem ofI_bd (seed n : Int) : 0 ≤ ofI seed n ∧ ofI seed n ≤ 18446744073709551615 := by rw [ofI]; exact ov_bd _ _

theorem of_any (seed n : Int) (h0 : 0 ≤ seed) (h1 : seed ≤ 18446744073709551615) (g0 : 0 ≤ n) (g1 : n ≤ 18446744073709551615) (w : World) :
    Calls Try.prog 102 #[.int .u64 seed, .int .u64 n] w fun e w' => e = .returned (.int .u64 (ofI seed n)) ∧ w = w' := by
  have O1 := Lib.hid (fun x w => over_by (IntKind.u64.wrap x) (wr_bd x).1 (wr_bd x).2 w 30 1073741824 (.inl ⟨rfl, rfl⟩))
  have O2 := Lib.hid (fun x w => over_by (IntKind.u64.wrap x) (wr_bd x).1 (wr_bd x).2 w 27 134217728 (.inr (.inl ⟨rfl, rfl⟩)))
  have O3 := Lib.hid (fun x w => over_by (IntKind.u64.wrap x) (wr_bd x).1 (wr_bd x).2 w 31 2147483648 (.inr (.inr ⟨rfl, rfl⟩)))
  rw [ofI]
  go_enter Try.func102, Try.ntmps102
  go_wp2_with fail
  refine (O1.out _ _).mono ?_
  rintro e w' ⟨rfl, rfl⟩
  go_wp2_with fail
  refine (O2.out _ _).mono ?_
  rintro e w' ⟨rfl, rfl⟩
  go_wp2_with fail
  refine (O3.out _ _).mono ?_
  rintro e w' ⟨rfl, rfl⟩
  go_wp2
  go_ret
  exact ⟨rfl, rfl⟩

theorem rOf_any (seed n : Int) (h0 : 0 ≤ seed) (h1 : seed ≤ 18446744073709551615) (g0 : 0 ≤ n) (g1 : n ≤ 18446744073709551615) (w : World) :
    Calls Try.prog 88 #[.int .u64 seed, .int .u64 n] w fun e w' => e = .returned (.int .u64 (ofI seed n)) ∧ w = w' := by
  have p30 : pw 30 = 1073741824 := by rw [pw]; rfl
  have p27 : pw 27 = 134217728 := by rw [pw]; rfl
  have p31 : pw 31 = 2147483648 := by rw [pw]; rfl
  have O1 := Lib.hid (fun x w => p30 ▸ half_by (IntKind.u64.wrap x) (wr_bd x).1 (wr_bd x).2 w 30 (by omega))
  have O2 := Lib.hid (fun x w => p27 ▸ half_by (IntKind.u64.wrap x) (wr_bd x).1 (wr_bd x).2 w 27 (by omega))
  have O3 := Lib.hid (fun x w => p31 ▸ half_by (IntKind.u64.wrap x) (wr_bd x).1 (wr_bd x).2 w 31 (by omega))
  rw [ofI]
  go_enter Try.func88, Try.ntmps88
  go_wp2_with fail
  refine (O1.out _ _).mono ?_
  rintro e w' ⟨rfl, rfl⟩
  go_wp2_with fail
  refine (O2.out _ _).mono ?_
  rintro e w' ⟨rfl, rfl⟩
  go_wp2_with fail
  refine (O3.out _ _).mono ?_
  rintro e w' ⟨rfl, rfl⟩
  go_wp2
  go_ret
  refine ⟨?_, rfl⟩
  simp only [Int.mul_comm 13787848793156543929, Int.mul_comm 10723151780598845931]
  rfl

/-- Which of so many. -/
@[irreducible] def pickI (seed n k : Int) (most : Int) : Int := ofI (IntKind.u64.wrap (seed + k)) n % most
theorem pickI_bd (seed n k most : Int) (h : 0 < most) : 0 ≤ pickI seed n k most ∧ pickI seed n k most < most := by
  rw [pickI]; exact ⟨Int.emod_nonneg _ (by omega), Int.emod_lt_of_pos _ h⟩

theorem ret_i64 {x y : Int} (h : x = y) : Ending.returned (.int .i64 x) = .returned (.int .i64 y) := by rw [h]

theorem pick_eq (seed n k most : Int) (h : 0 < most) (hm1 : most ≤ 9223372036854775807) : wrap64 ((ofI (IntKind.u64.wrap (seed + k)) n).tmod most) = pickI seed n k most := by
  have bd := pickI_bd seed n k most h
  rw [pickI] at bd ⊢
  rw [Int.tmod_eq_emod_of_nonneg (ofI_bd _ _).1]
  simp only [wrap64]; omega

theorem pick_any (seed n k most : Int) (h0 : 0 ≤ seed) (h1 : seed ≤ 18446744073709551615) (g0 : 0 ≤ n) (g1 : n ≤ 18446744073709551615) (k0 : 0 ≤ k) (k1 : k ≤ 63) (hm : 1 ≤ most) (hm1 : most ≤ 9223372036854775807) (w : World) :
    Calls Try.prog 87 #[.int .u64 seed, .int .u64 n, .int .i64 k, .int .i64 most] w fun e w' => e = .returned (.int .i64 (pickI seed n k most)) ∧ w = w' := by
  have O := Lib.hid (fun x w => of_any (IntKind.u64.wrap x) n (wr_bd x).1 (wr_bd x).2 g0 g1 w)
  have E := Lib.hid (pick_eq seed n k most (by omega) hm1)
  go_enter Try.func87, Try.ntmps87
  go_wp2_with fail
  refine (O.out _ _).mono ?_
  rintro e w' ⟨rfl, rfl⟩
  go_wp2
  go_ret
  exact ⟨ret_i64 E.out, rfl⟩

theorem rPick_any (seed n k most : Int) (h0 : 0 ≤ seed) (h1 : seed ≤ 18446744073709551615) (g0 : 0 ≤ n) (g1 : n ≤ 18446744073709551615) (k0 : 0 ≤ k) (k1 : k ≤ 63) (hm : 1 ≤ most) (hm1 : most ≤ 9223372036854775807) (w : World) :
    Calls Try.prog 57 #[.int .u64 seed, .int .u64 n, .int .i64 k, .int .i64 most] w fun e w' => e = .returned (.int .i64 (pickI seed n k most)) ∧ w = w' := by
  have O := Lib.hid (fun x w => rOf_any (IntKind.u64.wrap x) n (wr_bd x).1 (wr_bd x).2 g0 g1 w)
  have E := Lib.hid (pick_eq seed n k most (by omega) hm1)
  go_enter Try.func57, Try.ntmps57
  go_wp2_with fail
  refine (O.out _ _).mono ?_
  rintro e w' ⟨rfl, rfl⟩
  go_wp2
  go_ret
  exact ⟨ret_i64 E.out, rfl⟩

theorem infoInt : (Try.prog.info? 3).map (fun i => (i.zero, i.size, i.bytes)) = some (some (.int .i64 0), 1, 8) := by kernel_rfl

def picks (seed n most : Int) (m : Nat) : List Value := (List.range m).map fun k : Nat => .int .i64 (pickI seed n (k : Int) most)
theorem picks_succ (seed n most : Int) (m : Nat) : picks seed n most (m + 1) = picks seed n most m ++ [.int .i64 (pickI seed n m most)] := by simp [picks, List.range_succ]

theorem all_any (seed n most : Int) (m : Nat) (h0 : 0 ≤ seed) (h1 : seed ≤ 18446744073709551615) (g0 : 0 ≤ n) (g1 : n ≤ 18446744073709551615) (m1 : m ≤ 64) (hm : 1 ≤ most) (hm1 : most ≤ 9223372036854775807) (w : World) :
    Calls Try.prog 55 #[.int .u64 seed, .int .u64 n, .int .i64 (m : Int), .int .i64 most] w fun e w' => ∃ v, e = .returned v ∧ w'.ownsRow w.heap.size 3 1 v m (picks seed n most m) ∧ Below w.heap.size w w' := by
  obtain ⟨i0, hi, hz0, hz1, hz2⟩ := info_parts infoInt
  have P := Lib.hid (fun (k : Nat) (hk : k < 64) w => pick_any seed n k most h0 h1 g0 g1 (by omega) (by omega) hm hm1 w)
  have e1 : max (m : Int) 0 = m := by omega
  have e2 : min (m : Int) 64 = m := by omega
  go_enter Try.func55, Try.ntmps55
  go_wp2
  go_loopw [9, 14] (fun v i wr => ∃ k : Nat, k ≤ m ∧ i = .int .i64 (k : Int) ∧ wr.ownsRow w.heap.size 3 1 v k (picks seed n most k) ∧ Below w.heap.size w wr) (fun _ i _ => m - (intOf i).toNat)
  case atStart => exact ⟨0, Nat.zero_le _, rfl, World.ownsRow_nil _ _ _ _, Below.refl _ _⟩
  case round =>
    obtain ⟨k, hk, rfl, hown, hb⟩ := hrel
    by_cases h : k < m
    · have h2 : (k : Int) < (m : Int) := by omega
      have h3 : (k : Int) + 1 ≤ 9223372036854775807 := by omega
      go_wp2_with (first
        | (go_at_call 87; (with_reducible refine (P.out k (by omega) _).mono ?_); rintro e w' ⟨rfl, rfl⟩)
        | (at_builtin; refine wpList_append_own _ rfl _ _ 79 rfl w.heap.size 3 i0 (.int .i64 0) 1 8 Try.underlying79 hi hz0 hz1 hz2 rfl (by decide) _ _ _ rfl (hown.alloc _) ⟨wr.heap.size, 0, none⟩ 1 1 [.int .i64 (pickI seed n k most)] rfl rfl ?c1 ?c2 ?c3 ?c4 ?c5 ?_)
        | go_in)
      case c1 =>
        intro j u hj
        match j, hj with
        | 0, hj => simp at hj; subst hj; simp [Addr.add]
      case c2 => intro u hu; simp at hu; subst hu; rfl
      case c3 => unfold maxLen; omega
      case c4 => omega
      case c5 => have := hb.size; simp; omega
      rintro v' w1 hown' hgr -
      rw [← picks_succ] at hown'
      have hb' : Below w.heap.size w w1 := by
        have hsz := hb.size
        exact (hb.alloc hsz _).grown hgr (by simp; omega) (fun k' hk' => (hown.lt k' hk').1)
      go_wp2
      go_roundw
      case rel => exact ⟨k + 1, by omega, by simp, hown', hb'⟩
      case measure => simp only [intOf]; omega
    · have h2 : ¬ (k : Int) < (m : Int) := by omega
      obtain rfl : k = m := by omega
      go_wp2
      go_ret
      exact ⟨_, rfl, hown, hb⟩

end Go.Proofs.Ytbhcpedokgdipaa
