/- The last of floats: List, the two Lasts, the statement's walk. -/
import Derived.Test.YtlilnffcnjajdaaRatL
namespace Go.Proofs.Ytlilnffcnjajdaa
open Go.RowKit Fl
set_option linter.unusedVariables false

theorem infoFloat : (Try.prog.info? 39).map (fun i => (i.zero, i.size, i.bytes)) = some (some (.float .f64 0), 1, 8) := by kernel_rfl

/-- A row of words that came in. -/
def U64s (w : World) (a : Option Addr) (n : Nat) (z : Nat → Nat) : Prop :=
  (∀ i, i < n → z i < 18446744073709551616) ∧ (0 < n → ∃ b off, a = some ⟨b, off, none⟩ ∧ ∀ i, i < n → w.cell? ⟨b, off + i, none⟩ = some (.int .u64 (z i : Int)))

theorem U64s.below {w w' : World} {a : Option Addr} {n : Nat} {z : Nat → Nat} (h : U64s w a n z) (hb : Below w.heap.size w w') : U64s w' a n z :=
  ⟨h.1, fun h0 => by
    obtain ⟨b, off, ha, hc⟩ := h.2 h0
    exact ⟨b, off, ha, fun i hi => by have := hc i hi; rw [← this]; exact hb.cell (World.block_lt_of_cell? w _ this)⟩⟩

/-- The floats of the first k words. -/
def fls (z : Nat → Nat) (k : Nat) : List Value := (List.range k).map fun i => .float .f64 (z i)
theorem fls_length (z : Nat → Nat) (k : Nat) : (fls z k).length = k := by simp [fls]
theorem fls_succ (z : Nat → Nat) (k : Nat) : fls z (k + 1) = fls z k ++ [.float .f64 (z k)] := by simp [fls, List.range_succ]

theorem list_any (a : Option Addr) (n c : Nat) (z : Nat → Nat) (w : World) (h : U64s w a n z) (hc : n ≤ c) (hm : c ≤ 9223372036854775807) :
    Calls Try.prog 35 #[.slice a n c] w fun e w' => ∃ v, e = .returned v ∧ w'.ownsRow w.heap.size 39 1 v (min n 40) (fls z (min n 40)) ∧ Below w.heap.size w w' := by
  obtain ⟨i0, hi, hz0, hz1, hz2⟩ := info_parts infoFloat
  go_enter Try.func35, Try.ntmps35
  go_wp2
  go_loopw [3, 4] (fun v i wr => ∃ k : Nat, k ≤ n ∧ k ≤ 40 ∧ i = .int .i64 (k : Int) ∧ wr.ownsRow w.heap.size 39 1 v k (fls z k) ∧ Below w.heap.size w wr) (fun _ i _ => n - (intOf i).toNat)
  case atStart => exact ⟨0, Nat.zero_le _, by omega, rfl, World.ownsRow_nil _ _ _ _, Below.refl _ _⟩
  case round =>
    obtain ⟨k, hkn, hk40, rfl, hown, hb⟩ := hrel
    by_cases h1 : k < n
    · by_cases h2 : k < 40
      · obtain ⟨b, off, rfl, hcc⟩ := h.2 (by omega)
        have hlt := World.block_lt_of_cell? w _ (hcc k h1)
        have hcell : wr.cell? ⟨b, off + k, none⟩ = some (.int .u64 (z k : Int)) := (hb.cell hlt).trans (hcc k h1)
        have hkm : (k : Int) < (n : Int) := by omega
        have hk4 : (k : Int) < 40 := by omega
        have hnn : (k : Int) + 1 ≤ 9223372036854775807 := by omega
        clear hcc
        go_wp2_with (first
          | (at_builtin; refine wpList_append_own _ rfl _ _ 52 rfl w.heap.size 39 i0 (.float .f64 0) 1 8 Try.underlying52 hi hz0 hz1 hz2 rfl (by decide) _ _ _ rfl (hown.alloc _) ⟨wr.heap.size, 0, none⟩ 1 1 [.float .f64 (z k)] rfl rfl ?c1 ?c2 ?c3 ?c4 ?c5 ?_)
          | go_in)
        case c2 => rfl
        case c3 => unfold maxLen; omega
        case c4 => omega
        case c5 => have := hb.size; simp; omega
        rintro v' w1 hown' hgr -
        rw [← fls_succ] at hown'
        have hb' : Below w.heap.size w w1 := by
          have hsz := hb.size
          exact (hb.alloc hsz _).grown hgr (by simp; omega) (fun k' hk' => (hown.lt k' hk').1)
        go_wp2
        go_roundw
        case rel => exact ⟨k + 1, by omega, by omega, by simp, hown', hb'⟩
        case measure => simp only [intOf]; omega
      · have hk4 : ¬ (k : Int) < 40 := by omega
        have hkm : (k : Int) < (n : Int) := by omega
        go_wp2
        go_ret
        obtain rfl : k = min n 40 := by omega
        exact ⟨_, rfl, hown, hb⟩
    · have hkm : ¬ (k : Int) < (n : Int) := by omega
      go_wp2
      go_ret
      obtain rfl : k = min n 40 := by omega
      exact ⟨_, rfl, hown, hb⟩

/-- A row of floats. -/
def FRow (w : World) (a : Option Addr) (n : Nat) (z : Nat → Nat) : Prop :=
  (∀ i, i < n → z i < 18446744073709551616) ∧ (0 < n → ∃ b off, a = some ⟨b, off, none⟩ ∧ ∀ i, i < n → w.cell? ⟨b, off + i, none⟩ = some (.float .f64 (z i)))

theorem frow_of {w : World} {N n : Nat} {v : Value} {z : Nat → Nat} (h : w.ownsRow N 39 1 v n (fls z n)) (hz : ∀ i, i < n → z i < 18446744073709551616) :
    ∃ a c, v = .slice a n c ∧ n ≤ c ∧ c ≤ 9223372036854775807 ∧ FRow w a n z := by
  rcases h.2 with ⟨rfl, rfl⟩ | ⟨g, cap, cur, rfl, _, hg, h1, h2, _, _⟩
  · exact ⟨none, 0, rfl, Nat.le_refl _, by omega, hz, fun h => absurd h (Nat.lt_irrefl 0)⟩
  · unfold maxLen at h2
    refine ⟨_, _, rfl, h1, h2, hz, fun _ => ⟨g, 0, rfl, fun i hi => ?_⟩⟩
    have := h.cells (g := g) rfl i (.float .f64 (z i)) (by simp [fls, hi])
    unfold Addr.add at this
    split at this
    · next h0 => subst h0; simpa using this
    · simpa using this

/-- What stands last of the first k, if any. -/
def lastN (z : Nat → Nat) : Nat → Option Nat
  | 0 => none
  | k + 1 => if isN (z k) then lastN z k else match lastN z k with
    | none => some (z k)
    | some b => if ltB b (z k) then some (z k) else some b

theorem lastN_num (z : Nat → Nat) (k : Nat) (hz : ∀ i, i < k → z i < 18446744073709551616) : ∀ b, lastN z k = some b → isN b = false ∧ b < 18446744073709551616 := by
  induction k with
  | zero => simp [lastN]
  | succ k ih =>
    have ih := ih (fun i hi => hz i (by omega))
    have hk := hz k (by omega)
    intro b
    simp only [lastN]
    cases hn : isN (z k)
    · cases hl : lastN z k with
      | none => simp; rintro rfl; exact ⟨hn, hk⟩
      | some b' =>
        simp only [Bool.false_eq_true, if_false]
        split <;> simp <;> rintro rfl
        · exact ⟨hn, hk⟩
        · exact ih _ hl
    · rw [if_pos rfl]; exact ih b

theorem last_any (a : Option Addr) (n c : Nat) (z : Nat → Nat) (w : World) (h : FRow w a n z) (hc : n ≤ c) (hm : c ≤ 9223372036854775807) :
    Calls Try.prog 34 #[.slice a n c] w fun e w' => e = .returned (.tuple #[.float .f64 ((lastN z n).getD 0), .bool (lastN z n).isSome]) ∧ w = w' := by
  have NC := Lib.hid (fun w => nan_call w)
  go_enter Try.func34, Try.ntmps34
  go_wp2_with fail
  refine (NC.out _).mono ?_
  rintro e w' ⟨rfl, rfl⟩
  go_wp2
  go_loopw [4, 10] (fun b i wr => ∃ k x : Nat, k ≤ n ∧ x < 18446744073709551616 ∧ b = .float .f64 x ∧ i = .int .i64 (k : Int) ∧ lastN z k = (if isN x then none else some x) ∧ wr = w) (fun _ i _ => n - (intOf i).toNat)
  case atStart => exact ⟨0, _, Nat.zero_le _, by decide, rfl, rfl, rfl, rfl⟩
  case round =>
    obtain ⟨k, x, hkn, hx, rfl, rfl, hl, rfl⟩ := hrel
    have NX := Lib.hid (fun w => nan_any x hx w)
    by_cases h1 : k < n
    · obtain ⟨b, off, rfl, hcc⟩ := h.2 (by omega)
      have hcell := hcc k h1
      have hzk := h.1 k h1
      have NZ := Lib.hid (fun w => nan_any (z k) hzk w)
      have LZ := Lib.hid (fun w => less_any x (z k) hx hzk w)
      have hkm : (k : Int) < (n : Int) := by omega
      have hnn : (k : Int) + 1 ≤ 9223372036854775807 := by omega
      have hs : lastN z (k + 1) = if isN (z k) then lastN z k else match lastN z k with
        | none => some (z k)
        | some b => if ltB b (z k) then some (z k) else some b := rfl
      rw [hl] at hs
      clear hcc hl
      cases nx : isN x <;> cases nz : isN (z k) <;> cases lz : ltB x (z k) <;> rw [nx] at NX <;> rw [nz] at NZ <;> rw [lz] at LZ <;> simp only [nx, nz, lz, Bool.false_eq_true, if_false, if_true] at hs
      all_goals
        go_wp2_with (first | (go_at_call 42; (with_reducible refine (NX.out _).mono ?_); rintro e w' ⟨rfl, rfl⟩) | (go_at_call 42; (with_reducible refine (NZ.out _).mono ?_); rintro e w' ⟨rfl, rfl⟩) | (go_at_call 21; (with_reducible refine (LZ.out _).mono ?_); rintro e w' ⟨rfl, rfl⟩))
        go_roundw
        case rel => first | (refine ⟨k + 1, x, by omega, hx, ?_⟩; simp [hs, nx]; done) | (refine ⟨k + 1, z k, by omega, hzk, ?_⟩; simp [hs, nz]; done)
        case measure => simp only [intOf]; omega
    · have hkm : ¬ (k : Int) < (n : Int) := by omega
      obtain rfl : k = n := by omega
      cases nx : isN x <;> rw [nx] at NX hl
      all_goals
        go_wp2_with (first | (go_at_call 42; (with_reducible refine (NX.out _).mono ?_); rintro e w' ⟨rfl, rfl⟩))
        go_ret2
        rw [hl]
        exact ⟨rfl, rfl⟩

theorem rLast_any (a : Option Addr) (n c : Nat) (z : Nat → Nat) (w : World) (h : FRow w a n z) (hc : n ≤ c) (hm : c ≤ 9223372036854775807) :
    Calls Try.prog 36 #[.slice a n c] w fun e w' => e = .returned (.tuple #[.float .f64 ((lastN z n).getD 0), .bool (lastN z n).isSome]) ∧ ∃ m, w' = w.drewN m := by
  go_enter Try.func36, Try.ntmps36
  go_wp2
  go_loopw [4, 5, 6] (fun b s i wr => ∃ k m : Nat, k ≤ n ∧ b = .float .f64 ((lastN z k).getD 0) ∧ s = .bool (lastN z k).isSome ∧ i = .int .i64 (k : Int) ∧ wr = w.drewN m) (fun _ _ i _ => n - (intOf i).toNat)
  case atStart => exact ⟨0, 0, Nat.zero_le _, rfl, rfl, rfl, rfl⟩
  case round =>
    obtain ⟨k, m, hkn, rfl, rfl, rfl, hwr⟩ := hrel
    have HW := Lib.hid hwr
    by_cases h1 : k < n
    · obtain ⟨b, off, rfl, hcc⟩ := h.2 (by omega)
      have hcell : wr.cell? ⟨b, off + k, none⟩ = some (.float .f64 (z k)) := by rw [hwr]; exact hcc k h1
      clear hwr
      have hzk := h.1 k h1
      have hkm : (k : Int) < (n : Int) := by omega
      have hnn : (k : Int) + 1 ≤ 9223372036854775807 := by omega
      have hs : lastN z (k + 1) = if isN (z k) then lastN z k else match lastN z k with
        | none => some (z k)
        | some b => if ltB b (z k) then some (z k) else some b := rfl
      have hnum := lastN_num z k (fun i hi => h.1 i (by omega))
      have EQ : (FloatKind.f64.format.order (z k) (z k) == some .eq) = !isN (z k) := by rw [ord_self (z k) hzk]; cases isN (z k) <;> rfl
      clear hcc
      cases nz : isN (z k) <;> rw [nz] at EQ hs <;> simp only [Bool.not_true, Bool.not_false, Bool.false_eq_true, if_true, if_false] at EQ hs
      · cases hl : lastN z k with
        | none =>
          rw [hl] at hs
          simp only at hs
          go_wp2
          go_quiet (fail)
          go_wp2
          go_roundw
          case rel => refine ⟨k + 1, m + nq, by omega, ?_⟩; simp [hs, HW.out]
          case measure => simp only [intOf]; omega
        | some x =>
          rw [hl] at hs
          simp only at hs
          obtain ⟨nx, hx⟩ := hnum x hl
          have LZ := Lib.hid (fun w => rLess_any x (z k) hx hzk w)
          clear hnum
          cases lz : ltB x (z k) <;> rw [lz] at LZ hs <;> simp only [Bool.false_eq_true, if_true, if_false] at hs
          all_goals
            go_wp2
            go_quiet ((go_at_call 22; exact Calls.quiet_of_same ((LZ.out _).mono fun e w' h => ⟨h.1, h.2.symm⟩)))
            go_wp2
            go_roundw
            case rel => refine ⟨k + 1, m + nq, by omega, ?_⟩; simp [hs, HW.out]
            case measure => simp only [intOf]; omega
      · go_wp2
        go_quiet (fail)
        go_wp2
        go_roundw
        case rel => refine ⟨k + 1, m + nq, by omega, ?_⟩; simp [hs, HW.out]
        case measure => simp only [intOf]; omega
    · have hkm : ¬ (k : Int) < (n : Int) := by omega
      obtain rfl : k = n := by omega
      obtain rfl := hwr
      clear HW
      go_wp2
      go_ret2
      exact ⟨rfl, m, rfl⟩

theorem below_trans {w w1 w2 : World} (h : Below w.heap.size w w1) (k : Below w1.heap.size w1 w2) (n : Nat) : Below w.heap.size w (w2.drewN n) := by
  have := h.trans (k.mono h.size)
  exact ⟨this.os, this.tape, this.output, this.size, this.block⟩

theorem lasts_walk (a : Option Addr) (n c : Nat) (z : Nat → Nat) (w : World) (h : U64s w a n z) (hc : n ≤ c) (hm : c ≤ 9223372036854775807) :
    Calls Try.prog 9 #[.slice a n c] w fun e w' => e = .returned (.bool true) ∧ Below w.heap.size w w' := by
  have hm40 : min n 40 ≤ n := Nat.min_le_left _ _
  have hz : ∀ i, i < min n 40 → z i < 18446744073709551616 := fun i hi => h.1 i (by omega)
  have hr : (lastN z (min n 40)).getD 0 < 18446744073709551616 := by
    cases hl : lastN z (min n 40) with
    | none => simp
    | some b => exact (lastN_num z _ hz b hl).2
  have hs : sameB ((lastN z (min n 40)).getD 0) ((lastN z (min n 40)).getD 0) = true := by unfold sameB; simp
  have q := Lib.hid (fun w => rSame_any _ _ hr hr w)
  rw [hs] at q
  clear hr hs
  go_enter Try.func9, Try.ntmps9
  go_wp2_with fail
  refine (list_any a n c z w h hc hm).mono ?_
  rintro e w1 ⟨v, rfl, hown, hb⟩
  obtain ⟨a1, c1, rfl, hc1, hm1, hf1⟩ := frow_of hown hz
  clear hown
  have F1 := Lib.hid hf1
  have B1 := Lib.hid hb
  have U1 := Lib.hid (h.below hb)
  have L1 := Lib.hid (fun u (hu : w1 = u) => last_any a1 _ c1 z u (hu ▸ hf1) hc1 hm1)
  clear hf1 hb hc1 hm1
  go_wp2_with fail
  refine (L1.out _ rfl).mono ?_
  rintro e w' ⟨rfl, rfl⟩
  go_wp2_with fail
  refine (list_any a n c z w1 U1.out hc hm).mono ?_
  rintro e w2 ⟨v, rfl, hown, hb⟩
  obtain ⟨a2, c2, rfl, hc2, hm2, hf2⟩ := frow_of hown hz
  clear hown
  have B2 := Lib.hid hb
  have L2 := Lib.hid (rLast_any a2 _ c2 z w2 hf2 hc2 hm2)
  clear hf2 hb hc2 hm2
  go_wp2_with fail
  refine L2.out.mono ?_
  rintro e w' ⟨rfl, m, rfl⟩
  go_wp2_with (first | (go_at_call 24; (with_reducible refine (q.out _).mono ?_); rintro e w' ⟨rfl, rfl⟩) | (go_at_call 25; (with_reducible refine (ratAwake _).mono ?_); rintro e w' ⟨rfl, n5, rfl⟩))
  go_ret
  exact ⟨rfl, below_trans B1.out B2.out _⟩

end Go.Proofs.Ytlilnffcnjajdaa
