/- Turning bits: what crc.Turn and the document's Turn make of 64 octets; slices.Equal. -/
import Derived.Test.YtlfeglnacphhlaaCr
import Derived.Deep.RegionHeldLaw
namespace Go.Proofs.Ytlfeglnacphhlaa
open Go.RowKit Go.Maps
set_option linter.unusedVariables false

def octN (c : ByteArray) (j : Nat) : Nat := (c.data.toList.getD j 0).toNat
theorem octN_lt (c : ByteArray) (j : Nat) : octN c j < 256 := UInt8.toNat_lt _
/-- One bit, if it is asked for and lies within. -/
def turnG (at_ turn i : Nat) : Bool := turn.testBit i && decide (at_ + i < 512)
def turnP (at_ i : Nat) (F : Nat → Nat) : Nat → Nat := fun j => if j = (at_ + i) / 8 then F j ^^^ 2 ^ ((at_ + i) % 8) else F j
def turnF (at_ turn : Nat) (F : Nat → Nat) : Nat → Nat → Nat
  | 0 => F
  | i + 1 => if turnG at_ turn i then turnP at_ i (turnF at_ turn F i) else turnF at_ turn F i
theorem turnP_lt {at_ i : Nat} {F : Nat → Nat} (h : ∀ j, F j < 256) : ∀ j, turnP at_ i F j < 256 := fun j => by
  unfold turnP; split
  · have h1 : 2 ^ ((at_ + i) % 8) < 2 ^ 8 := Nat.pow_lt_pow_right (by omega) (Nat.mod_lt _ (by omega))
    exact Nat.xor_lt_two_pow (n := 8) (h j) h1
  · exact h j
theorem turnF_lt {at_ turn : Nat} {F : Nat → Nat} (h : ∀ j, F j < 256) : ∀ i j, turnF at_ turn F i j < 256
  | 0, j => h j
  | i + 1, j => by
    unfold turnF; split
    · exact turnP_lt (turnF_lt h i) j
    · exact turnF_lt h i j
/-- What 64 octets are behind a turn. -/
def turnB (c : ByteArray) (at_ turn : Nat) : ByteArray := ⟨((List.range 64).map fun j => UInt8.ofNat (turnF at_ turn (octN c) 32 j)).toArray⟩
theorem turnB_size (c : ByteArray) (a t : Nat) : (turnB c a t).size = 64 := by simp [turnB, ByteArray.size]
theorem turnB_oct (c : ByteArray) (a t j : Nat) (h : j < 64) : octN (turnB c a t) j = turnF a t (octN c) 32 j := by
  unfold octN turnB
  simp only [List.getD_eq_getElem?_getD, List.getElem?_map, List.getElem?_range h, Option.map_some, Option.getD_some]
  have := turnF_lt (at_ := a) (turn := t) (octN_lt c) 32 j
  show (UInt8.ofNat (turnF a t (octN c) 32 j)).toNat = _
  have e : (UInt8.ofNat (turnF a t (octN c) 32 j)).toNat = turnF a t (octN c) 32 j % 256 := rfl
  rw [e]; exact Nat.mod_eq_of_lt this

theorem octV_n (c : ByteArray) (j : Nat) (h : j < c.size) : (octV c)[j]? = some (.int .u8 (octN c j : Int)) := octV_oct c j h

/-- A row's cells by an index function. -/
def RowN (w : World) (g cap : Nat) (F : Nat → Nat) : Prop := ∃ G, Arr w g 5 cap G ∧ ∀ j, j < 64 → G j = .int .u8 (F j : Int)

section
variable {w wr : World} {g cap : Nat} {F : Nat → Nat}

theorem row_parts {base : Nat} {v : Value} {c : ByteArray} (h : w.ownsRow base 5 1 v c.size (octV c)) (hc : c.size = 64) : ∃ g cap, v = .slice (some ⟨g, 0, none⟩) 64 cap ∧ base ≤ g ∧ 64 ≤ cap ∧ cap ≤ maxLen ∧ RowN w g cap (octN c) := by
  rcases h.2 with ⟨_, h1⟩ | ⟨g, cap, cur, hv, hb, hh, h1, h2, h3, h4⟩
  · omega
  · rw [hc] at hv h1 h4
    refine ⟨g, cap, hv, hb, h1, h2, fun j => (cur[j]?).getD (.int .u8 0), ⟨cur, hh, by rw [h3]; omega, fun i hi => ?_⟩, fun j hj => ?_⟩
    · show cur[i]? = some ((cur[i]?).getD (.int .u8 0))
      rw [Array.getElem?_eq_getElem (by rw [h3]; omega)]; rfl
    · have := congrArg (fun l => l[j]?) h4
      simp only [List.getElem?_take_of_lt (show j < 64 * 1 by omega), Array.getElem?_toList] at this
      show (cur[j]?).getD (.int .u8 0) = _
      rw [this, octV_n c j (by omega)]; rfl

theorem RowN.row (h : RowN w g cap F) {base : Nat} (hb : base ≤ g) (h1 : 64 ≤ cap) (h2 : cap ≤ maxLen) {c : ByteArray} (hc : c.size = 64) (hF : ∀ j, j < 64 → F j = octN c j) : w.ownsRow base 5 1 (.slice (some ⟨g, 0, none⟩) 64 cap) c.size (octV c) := by
  obtain ⟨G, ⟨cs, hh, hs, hcs⟩, hG⟩ := h
  refine ⟨by rw [octV_len]; omega, .inr ⟨g, cap, cs, by rw [hc], hb, hh, by omega, h2, by omega, ?_⟩⟩
  apply List.ext_getElem?
  intro j
  by_cases hj : j < 64
  · rw [List.getElem?_take_of_lt (by omega), Array.getElem?_toList, hcs j (by omega), hG j hj, octV_n c j (by omega), hF j hj]
  · rw [List.getElem?_take_eq_none (by omega), List.getElem?_eq_none (by rw [octV_len]; omega)]

theorem RowN.cell (h : RowN w g cap F) (hc : 64 ≤ cap) {j : Nat} (hj : j < 64) : w.cell? ⟨g, j, none⟩ = some (.int .u8 (F j : Int)) := by
  obtain ⟨G, ha, hG⟩ := h
  rw [ha.cell (i := j) (by omega), hG j hj]
theorem RowN.free (h : RowN w g cap F) (j : Nat) : w.frozen? ⟨g, j, none⟩ = false := by
  obtain ⟨G, ha, hG⟩ := h
  exact ha.free j
theorem RowN.set (h : RowN w g cap F) (k : Nat) (x : Nat) : RowN (w.setCell ⟨g, k, none⟩ (.int .u8 (x : Int))) g cap (fun j => if j = k then x else F j) := by
  obtain ⟨G, ha, hG⟩ := h
  refine ⟨_, ha.set k _, fun j hj => ?_⟩
  by_cases e : j = k
  · simp [e]
  · simp only [if_neg e]; exact hG j hj
theorem RowN.lt (h : RowN w g cap F) : g < w.heap.size := by
  obtain ⟨G, ha, hG⟩ := h
  exact ha.lt
theorem RowN.drew (h : RowN w g cap F) : RowN w.drew g cap F := by
  obtain ⟨G, ha, hG⟩ := h
  exact ⟨G, ha.drewN 1, hG⟩
end

theorem xor_oct (a k : Nat) (ha : a < 256) (hk : k < 8) : bits .xor .u8 (a : Int) ((2 ^ k : Nat) : Int) = ((a ^^^ 2 ^ k : Nat) : Int) := by
  have h1 : 2 ^ k < 2 ^ 8 := Nat.pow_lt_pow_right (by omega) hk
  have h2 : a ^^^ 2 ^ k < 2 ^ 8 := Nat.xor_lt_two_pow ha h1
  have e1 : (BitVec.ofInt 8 (a : Int)).toNat = a := by
    rw [BitVec.ofInt_natCast, BitVec.toNat_ofNat]; exact Nat.mod_eq_of_lt (by omega)
  have e2 : (BitVec.ofInt 8 ((2 ^ k : Nat) : Int)).toNat = 2 ^ k := by
    rw [BitVec.ofInt_natCast, BitVec.toNat_ofNat]; exact Nat.mod_eq_of_lt (by omega)
  show IntKind.u8.wrap ((BitVec.ofInt 8 (a : Int) ^^^ BitVec.ofInt 8 ((2 ^ k : Nat) : Int)).toNat : Int) = _
  rw [BitVec.toNat_xor, e1, e2, IntKind.wrap_u8]
  omega

theorem turnF_yes {a t k : Nat} {F : Nat → Nat} (h : t.testBit k = true) (h2 : a + k < 512) : turnF a t F (k + 1) = turnP a k (turnF a t F k) := by
  show (if turnG a t k then _ else _) = _
  rw [if_pos (by simp [turnG, h, h2])]
theorem turnF_no {a t k : Nat} {F : Nat → Nat} (h : ¬ (t.testBit k = true ∧ a + k < 512)) : turnF a t F (k + 1) = turnF a t F k := by
  show (if turnG a t k then _ else _) = _
  rw [if_neg (by simp only [turnG, Bool.and_eq_true, decide_eq_true_eq]; exact h)]
theorem pow_mod (r : Nat) (h : r < 8) : ((2 ^ r : Nat) : Int) = 2 ^ r % 256 := by
  have : r = 0 ∨ r = 1 ∨ r = 2 ∨ r = 3 ∨ r = 4 ∨ r = 5 ∨ r = 6 ∨ r = 7 := by omega
  rcases this with rfl | rfl | rfl | rfl | rfl | rfl | rfl | rfl <;> decide
theorem bit_turn (turn k : Nat) (ht : turn < 4294967296) (hk : k < 32) : bits .and .u32 ((turn : Int) / 2 ^ k) 1 = if turn.testBit k then 1 else 0 := by
  have h : (turn : Int) / 2 ^ k = ((turn / 2 ^ k : Nat) : Int) := by norm_cast
  have hl : turn / 2 ^ k < 4294967296 := Nat.lt_of_le_of_lt (Nat.div_le_self _ _) ht
  rw [h, Nat.testBit_eq_decide_div_mod_eq]
  have e1 : (BitVec.ofInt 32 ((turn / 2 ^ k : Nat) : Int)).toNat = turn / 2 ^ k := by
    rw [BitVec.ofInt_natCast, BitVec.toNat_ofNat]; exact Nat.mod_eq_of_lt hl
  have e2 : (BitVec.ofInt 32 1).toNat = 1 := by decide
  show IntKind.u32.wrap ((BitVec.ofInt 32 ((turn / 2 ^ k : Nat) : Int) &&& BitVec.ofInt 32 1).toNat : Int) = _
  rw [BitVec.toNat_and, e1, e2, Nat.and_one_is_mod, IntKind.wrap_u32]
  by_cases e : turn / 2 ^ k % 2 = 1
  · simp [e]
  · have : turn / 2 ^ k % 2 = 0 := by omega
    simp [this]

theorem RowN.turn {w : World} {g cap : Nat} {F : Nat → Nat} {at_ k : Nat} (h : RowN w g cap F) : RowN (w.setCell ⟨g, (at_ + k) / 8, none⟩ (.int .u8 ((F ((at_ + k) / 8) ^^^ 2 ^ ((at_ + k) % 8) : Nat) : Int))) g cap (turnP at_ k F) := by
  have := h.set ((at_ + k) / 8) (F ((at_ + k) / 8) ^^^ 2 ^ ((at_ + k) % 8))
  have e : (fun j => if j = (at_ + k) / 8 then F ((at_ + k) / 8) ^^^ 2 ^ ((at_ + k) % 8) else F j) = turnP at_ k F := by
    funext j
    unfold turnP
    by_cases e : j = (at_ + k) / 8
    · subst e; rfl
    · simp only [if_neg e]
  rwa [e] at this

set_option maxRecDepth 100000 in
set_option maxHeartbeats 4000000 in
theorem crc_turn {w : World} {v : Value} {c : ByteArray} (h : RdB w v c) (hc : c.size = 64) (at_ turn : Nat) (ha : at_ < 512) (ht : turn < 4294967296) (hlen : ∃ A cp, v = .slice A 64 cp) :
    Calls Try.prog 50 #[v, .int .i64 (at_ : Int), .int .u32 (turn : Int)] w fun e w' => ∃ u, e = .returned u ∧ w'.ownsRow w.heap.size 5 1 u (turnB c at_ turn).size (octV (turnB c at_ turn)) ∧ Below w.heap.size w w' := by
  obtain ⟨A, cp, rfl⟩ := hlen
  have CL := Lib.hid (clone_any h (by omega))
  have HA := Lib.hid ha
  have HT := Lib.hid ht
  have HC := Lib.hid hc
  have OL := Lib.hid (octN_lt c)
  clear h
  go_enter Try.func50, Try.ntmps50
  go_wp2_with fail
  refine CL.out.mono ?_
  rintro e w1 ⟨u, rfl, hu, b1⟩
  obtain ⟨g, cap, rfl, hg, h1, h2, R⟩ := row_parts hu HC.out
  have HR := Lib.hid R
  have HB := Lib.hid b1
  have HG := Lib.hid (And.intro hg (And.intro h1 h2))
  clear hu R b1 hg h1 h2 CL hc ha ht
  go_wp2_with fail
  go_loopw [12, 8, 9] (fun i _ _ wr => ∃ k : Nat, k ≤ 32 ∧ i = .int .i64 (k : Int) ∧ RowN wr g cap (turnF at_ turn (octN c) k) ∧ Below w.heap.size w wr) (fun i _ _ _ => 32 - (intOf i).toNat)
  case atStart => exact ⟨0, by omega, rfl, HR.out, HB.out⟩
  case round =>
    obtain ⟨k, hk, rfl, R, B⟩ := hrel
    by_cases h1 : (k : Int) < 32
    · have hb := bit_turn turn k HT.out (by omega)
      by_cases ht : turn.testBit k = true
      · rw [if_pos ht] at hb
        have d1 : decide ((at_ : Int) < -(k : Int)) = false := decide_eq_false (by omega)
        by_cases hk5 : at_ + k < 512
        · have d2 : decide (512 - (k : Int) ≤ (at_ : Int)) = false := decide_eq_false (by omega)
          obtain ⟨y, hy⟩ : ∃ y, y = at_ + k := ⟨_, rfl⟩
          have hyI : (at_ : Int) + (k : Int) = (y : Int) := by omega
          obtain ⟨y8, hy8⟩ : ∃ y8, y8 = y / 8 := ⟨_, rfl⟩
          obtain ⟨yr, hyr⟩ : ∃ yr, yr = y % 8 := ⟨_, rfl⟩
          have e8 : (y : Int).tdiv 8 = (y8 : Int) := by rw [Int.tdiv_eq_ediv_of_nonneg (by omega)]; omega
          have er : (y : Int).tmod 8 = (yr : Int) := by rw [Int.tmod_eq_emod_of_nonneg (by omega)]; omega
          have p8 : (y8 : Int) < 64 := by omega
          have pr : (yr : Int) < 8 := by omega
          obtain ⟨x, hx⟩ : ∃ x, x = turnF at_ turn (octN c) k y8 := ⟨_, rfl⟩
          have cc : wr.cell? ⟨g, y8, none⟩ = some (.int .u8 (x : Int)) := by rw [hx]; exact R.cell HG.out.2.1 (by omega)
          have ff := R.free y8
          have xo := xor_oct x yr (by rw [hx]; exact turnF_lt OL.out k y8) (by omega)
          rw [show ((2 ^ yr : Nat) : Int) = 2 ^ yr % 256 from pow_mod yr (by omega)] at xo
          have T := R.turn (at_ := at_) (k := k)
          rw [← hy, ← hy8, ← hyr, ← hx] at T
          have yb : (y : Int) ≤ 512 := by omega
          rw [← turnF_yes ht hk5] at T
          obtain ⟨z, hz⟩ : ∃ z, z = x ^^^ 2 ^ yr := ⟨_, rfl⟩
          rw [← hz] at xo T
          clear hz
          have HT2 := Lib.hid T.drew
          have HB2 := Lib.hid (B.setCell (p := ⟨g, y8, none⟩) HG.out.1 (.int .u8 (z : Int))).drew
          have HK := Lib.hid (show k + 1 ≤ 32 by omega)
          clear R B hk5 hy hy8 hyr hx T ht hk
          go_wp2_with fail
          go_region
          all_goals
            go_wp2
            exact ⟨⟨k + 1, HK.out, by simp, HT2.out, HB2.out⟩, by have := HK.out; simp only [intOf]; omega⟩
        · have d2 : decide (512 - (k : Int) ≤ (at_ : Int)) = true := decide_eq_true (by omega)
          have R1 := Lib.hid R
          have E1 := Lib.hid (turnF_no (F := octN c) (t := turn) (fun x : turn.testBit k = true ∧ at_ + k < 512 => hk5 x.2))
          have HK := Lib.hid (show k + 1 ≤ 32 by omega)
          have HB2 := Lib.hid B
          clear R B hk5 ht hk
          go_wp2_with fail
          exact ⟨⟨k + 1, HK.out, by simp, by rw [E1.out]; exact R1.out, HB2.out⟩, by have := HK.out; simp only [intOf]; omega⟩
      · rw [if_neg ht] at hb
        have R1 := Lib.hid R
        have E1 := Lib.hid (turnF_no (F := octN c) (t := turn) (fun x : turn.testBit k = true ∧ at_ + k < 512 => ht x.1))
        have HK := Lib.hid (show k + 1 ≤ 32 by omega)
        have HB2 := Lib.hid B
        clear R B ht hk
        go_wp2_with fail
        exact ⟨⟨k + 1, HK.out, by simp, by rw [E1.out]; exact R1.out, HB2.out⟩, by have := HK.out; simp only [intOf]; omega⟩
    · obtain rfl : k = 32 := by omega
      have RW := Lib.hid (R.row HG.out.1 HG.out.2.1 HG.out.2.2 (turnB_size c at_ turn) (fun j hj => (turnB_oct c at_ turn j hj).symm))
      have HB2 := Lib.hid B
      clear R B hk
      go_wp2
      go_ret
      exact ⟨_, rfl, RW.out, HB2.out⟩

end Go.Proofs.Ytlfeglnacphhlaa
