/- The document's Turn (chapter 04), of 64 octets. -/
import Derived.Test.YtlfeglnacphhlaaTe
namespace Go.Proofs.Ytlfeglnacphhlaa
open Go.RowKit Go.Maps
set_option linter.unusedVariables false

theorem bit_half (turn k : Nat) : turn.testBit k = decide (turn / 2 ^ k % 2 = 1) := Nat.testBit_eq_decide_div_mod_eq

set_option maxRecDepth 100000 in
set_option maxHeartbeats 8000000 in
theorem ref_turn {w : World} {v : Value} {c : ByteArray} (h : RdB w v c) (hc : c.size = 64) (at_ turn : Nat) (ha : at_ < 512) (ht : turn < 4294967296) :
    Calls Try.prog 54 #[v, .int .i64 (at_ : Int), .int .u32 (turn : Int)] w fun e w' => ∃ u, e = .returned u ∧ w'.ownsRow w.heap.size 5 1 u (turnB c at_ turn).size (octV (turnB c at_ turn)) ∧ Below w.heap.size w w' := by
  obtain ⟨g0, o0, cp, rfl, hcell⟩ := h.parts hc
  obtain ⟨i0, hi, hz0, hz1, hz2⟩ := info_parts infoU8
  have HA := Lib.hid ha
  have HT := Lib.hid ht
  have HC := Lib.hid hc
  have HL := Lib.hid (octV_len c)
  have OL := Lib.hid (octN_lt c)
  have HCC := Lib.hid (fun (W : World) (k : Below w.heap.size w W) j u (hu : (octV c)[j]? = some u) => show W.cell? ((⟨g0, o0, none⟩ : Addr).add j) = some u from by
    have hj : j < c.size := by
      have := (List.getElem?_eq_some_iff.1 hu).1
      rw [octV_len] at this; exact this
    rw [octV_n c j hj] at hu
    simp at hu; subst hu
    rw [addr_add]; exact (Keeps.of_below k).old (hcell j (by omega)))
  have H1 := Lib.hid (fun u (hu : u ∈ octV c) => show u.oneCell' = true from by
    obtain ⟨b, _, rfl⟩ := List.mem_map.1 hu; rfl)
  have B0 := Lib.hid ((Below.refl w.heap.size w).alloc (Nat.le_refl _) (.cells #[] 5))
  have OE := Lib.hid (World.ownsRow_made (base := w.heap.size) (size := 1) (e := 5) w #[] 0 (Nat.le_refl _) (Nat.zero_le _) rfl)
  have Z := Lib.hid (World.size_alloc w (.cells #[] 5))
  clear h hcell hc ha ht
  go_enter Try.func54, Try.ntmps54
  go_wp2_with (first
    | (at_builtin; refine wpList_append_own_at _ rfl _ _ 44 rfl w.heap.size 5 i0 (.int .u8 0) 1 1 Try.underlying44 hi hz0 hz1 hz2 rfl (by decide) _ _ _ rfl OE.out ⟨g0, o0, none⟩ 64 cp (octV c) rfl ?c1 ?c2 ?c3 ?c4 ?c5 ?c6 ?_)
    | go_in)
  case c1 => have := HL.out; have := HC.out; omega
  case c2 => exact HCC.out _ B0.out
  case c3 => exact H1.out
  case c4 => unfold maxLen; omega
  case c5 => omega
  case c6 => have := Z.out; omega
  rintro v' w2 hown' hgr - hat
  obtain ⟨g, cap, rfl, hg, h1, h2, R⟩ := row_parts (w := w2) (base := w.heap.size) (v := v') (c := c) (by rw [HC.out]; simpa using hown') HC.out
  have HB := Lib.hid (B0.out.grown hgr (by have := Z.out; omega) (fun k e => by simp [Value.ownBlock] at e; omega))
  have HR := Lib.hid R
  have HG := Lib.hid (And.intro hg (And.intro h1 h2))
  clear hown' hgr hat R hg h1 h2 hi hz0 hz1 hz2 HCC H1 B0 OE Z HL
  go_wp2_with fail
  go_loopw [8, 2, 9, 10, 11] (fun i t _ _ _ wr => ∃ k tk : Nat, k ≤ 32 ∧ i = .int .i64 (k : Int) ∧ t = .int .u32 (tk : Int) ∧ tk = turn / 2 ^ k ∧ RowN wr g cap (turnF at_ turn (octN c) k) ∧ Below w.heap.size w wr) (fun i _ _ _ _ _ => 32 - (intOf i).toNat)
  case atStart => exact ⟨0, turn, by omega, rfl, rfl, by simp, HR.out, HB.out⟩
  case round =>
    obtain ⟨k, tk, hk, rfl, rfl, etk0, R, B⟩ := hrel
    by_cases h1 : (k : Int) < 32
    · have tl : tk < 4294967296 := by rw [etk0]; exact Nat.lt_of_le_of_lt (Nat.div_le_self _ _) HT.out
      have tl1 : (tk : Int) ≤ 4294967295 := by omega
      have HTK := Lib.hid (show tk / 2 = turn / 2 ^ (k + 1) by rw [etk0, Nat.pow_succ, Nat.div_div_eq_div_mul])
      have et2 : (tk : Int).tdiv 2 = ((tk / 2 : Nat) : Int) := by rw [Int.tdiv_eq_ediv_of_nonneg (by omega)]; omega
      have hbt := Lib.hid (show turn.testBit k = decide (tk % 2 = 1) by rw [etk0]; exact bit_half turn k)
      have hk4 : k < 32 := by omega
      clear etk0
      have HK := Lib.hid (show k + 1 ≤ 32 by omega)
      by_cases ht : tk % 2 = 1
      · have em : (tk : Int).tmod 2 = 1 := by rw [Int.tmod_eq_emod_of_nonneg (by omega)]; omega
        have d1 : decide (0 - (k : Int) ≤ (at_ : Int)) = true := decide_eq_true (by omega)
        have d3 : decide (-(k : Int) ≤ (at_ : Int)) = true := decide_eq_true (by omega)
        by_cases hk5 : at_ + k < 512
        · have d2 : decide ((at_ : Int) < 512 - (k : Int)) = true := decide_eq_true (by omega)
          obtain ⟨y, hy⟩ : ∃ y, y = at_ + k := ⟨_, rfl⟩
          have hyI : (at_ : Int) + (k : Int) = (y : Int) := by omega
          obtain ⟨y8, hy8⟩ : ∃ y8, y8 = y / 8 := ⟨_, rfl⟩
          obtain ⟨yr, hyr⟩ : ∃ yr, yr = y % 8 := ⟨_, rfl⟩
          have e8 : (y : Int).tdiv 8 = (y8 : Int) := by rw [Int.tdiv_eq_ediv_of_nonneg (by omega)]; omega
          have er : (y : Int).tmod 8 = (yr : Int) := by rw [Int.tmod_eq_emod_of_nonneg (by omega)]; omega
          have p8 : (y8 : Int) < 64 := by omega
          have pr : (yr : Int) < 8 := by omega
          have HP8 := Lib.hid (And.intro (show y8 < 64 by omega) (show yr < 8 by omega))
          have yb : (y : Int) ≤ 512 := by omega
          have HY := Lib.hid (And.intro hy (And.intro hy8 hyr))
          have E1 := Lib.hid (turnF_yes (F := octN c) (t := turn) (a := at_) (by rw [hbt.out]; exact decide_eq_true ht) hk5)
          have R1 := Lib.hid R
          have HB2 := Lib.hid B
          clear R B hk5 hy hy8 hyr ht
          go_wp2_with fail
          go_loopw [10, 11] (fun b j wr => ∃ r bv : Nat, r ≤ yr ∧ j = .int .i64 (r : Int) ∧ b = .int .u8 (bv : Int) ∧ bv = 2 ^ r ∧ RowN wr g cap (turnF at_ turn (octN c) k) ∧ Below w.heap.size w wr) (fun _ j _ => yr - (intOf j).toNat)
          case atStart => exact ⟨0, 1, Nat.zero_le _, rfl, rfl, rfl, R1.out, HB2.out⟩
          case round =>
            obtain ⟨r, bv, hr, rfl, rfl, hbv, R, B⟩ := hrel
            have R2 := Lib.hid R
            have B2 := Lib.hid B
            by_cases h5 : (r : Int) < (yr : Int)
            · have b6 : bv ≤ 64 := by
                have : 2 ^ r ≤ 2 ^ 6 := Nat.pow_le_pow_right (by omega) (by have := HP8.out.2; omega)
                rw [hbv]; exact this
              have b7 : (bv : Int) ≤ 64 := by omega
              have HBV := Lib.hid (show bv * 2 = 2 ^ (r + 1) by rw [hbv, Nat.pow_succ])
              have HR3 := Lib.hid (show r + 1 ≤ yr by omega)
              clear R B hbv hr b6
              go_wp2_with fail
              go_roundw
              case rel => exact ⟨r + 1, bv * 2, HR3.out, by simp, congrArg _ (by omega), HBV.out, R2.out, B2.out⟩
              case measure => have := HR3.out; simp only [intOf]; omega
            · obtain rfl : r = yr := by omega
              obtain ⟨x, hx⟩ : ∃ x, x = turnF at_ turn (octN c) k y8 := ⟨_, rfl⟩
              have cc : wr.cell? ⟨g, y8, none⟩ = some (.int .u8 (x : Int)) := by rw [hx]; exact R.cell HG.out.2.1 HP8.out.1
              have ff := R.free y8
              have xo := xor_oct x r (by rw [hx]; exact turnF_lt OL.out k y8) HP8.out.2
              rw [← hbv] at xo
              have T := R.turn (at_ := at_) (k := k)
              rw [← HY.out.1, ← HY.out.2.1, ← HY.out.2.2, ← hx, ← hbv] at T
              rw [← E1.out] at T
              obtain ⟨z, hz⟩ : ∃ z, z = x ^^^ bv := ⟨_, rfl⟩
              rw [← hz] at xo T
              have T2 := Lib.hid T
              have B3 := Lib.hid (B.setCell (p := ⟨g, y8, none⟩) HG.out.1 (.int .u8 (z : Int)))
              clear R B hr hx hbv hz T
              go_wp2_with fail
              exact ⟨⟨k + 1, tk / 2, HK.out, by simp, congrArg _ (by omega), HTK.out, T2.out, B3.out⟩, by have := HK.out; simp only [intOf]; omega⟩
        · have d2 : decide ((at_ : Int) < 512 - (k : Int)) = false := decide_eq_false (by omega)
          have E1 := Lib.hid (turnF_no (F := octN c) (t := turn) (fun x : turn.testBit k = true ∧ at_ + k < 512 => hk5 x.2))
          have R1 := Lib.hid R
          have HB2 := Lib.hid B
          clear R B hk5 ht
          go_wp2_with fail
          exact ⟨⟨k + 1, tk / 2, HK.out, by simp, congrArg _ (by omega), HTK.out, by rw [E1.out]; exact R1.out, HB2.out⟩, by have := HK.out; simp only [intOf]; omega⟩
      · have em : (tk : Int).tmod 2 = 0 := by rw [Int.tmod_eq_emod_of_nonneg (by omega)]; omega
        have E1 := Lib.hid (turnF_no (F := octN c) (t := turn) (fun x : turn.testBit k = true ∧ at_ + k < 512 => by have := x.1; rw [hbt.out] at this; exact ht (of_decide_eq_true this)))
        have R1 := Lib.hid R
        have HB2 := Lib.hid B
        clear R B ht
        go_wp2_with fail
        exact ⟨⟨k + 1, tk / 2, HK.out, by simp, congrArg _ (by omega), HTK.out, by rw [E1.out]; exact R1.out, HB2.out⟩, by have := HK.out; simp only [intOf]; omega⟩
    · obtain rfl : k = 32 := by omega
      have RW := Lib.hid (R.row HG.out.1 HG.out.2.1 HG.out.2.2 (turnB_size c at_ turn) (fun j hj => (turnB_oct c at_ turn j hj).symm))
      have HB2 := Lib.hid B
      clear R B hk etk0
      go_wp2
      go_ret
      exact ⟨_, rfl, RW.out, HB2.out⟩

end Go.Proofs.Ytlfeglnacphhlaa
