/- The page's example of chapter 08. -/
import Derived.Test.YtlfeglnacphhlaaCs
import Derived.Test.YtlfeglnacphhlaaEs
import Derived.Test.YtlfeglnacphhlaaEf
import Derived.Deep.RegionHeldLaw
namespace Go.Proofs.Ytlfeglnacphhlaa
open Go.RowKit Go.Maps
set_option linter.unusedVariables false

/-- A device on a power, made since w0; what stood then has not turned. -/
def Od (w0 wr : World) (d p : Nat) (s : DS) (ps : PS) : Prop := ∃ S, DevO d p s S wr ∧ Own S wr ∧ Pow wr p ps ∧ ¬ S p ∧ (∀ j, S j → w0.heap.size ≤ j) ∧ w0.heap.size ≤ p ∧ Below w0.heap.size w0 wr

section
variable {w0 wr w' : World} {d p : Nat} {s : DS} {ps : PS}

theorem Od.below (h : Od w0 wr d p s ps) (k : Below wr.heap.size wr w') : Od w0 w' d p s ps := by
  obtain ⟨S, h1, h2, h3, h4, h5, h6, h7⟩ := h
  exact ⟨S, Rep.keep h1 h2 (Keeps.of_below k) (fun j x => by have := h2 j x; omega), h2.grow k.size, h3.below k h3.top.lt, h4, h5, h6, h7.trans (k.mono h7.size)⟩

theorem Od.old (h : Od w0 wr d p s ps) : Below w0.heap.size w0 wr := by
  obtain ⟨S, h1, h2, h3, h4, h5, h6, h7⟩ := h
  exact h7

theorem Od.write {wa : World} (h : Od w0 wa d p s ps) (k : Below wa.heap.size wa wr) (x : Int) {v : Value} {c : ByteArray} (hv : wr.ownsRow wa.heap.size 5 1 v c.size (octV c)) (hcm : c.size ≤ 9223372036854775807) (hl : s.lim < 1000000) :
    Calls Try.prog 11 #[.pointer (some ⟨d, 0, none⟩), .int .i64 x, v] wr fun e w' => e = .returned (.int .i64 (writeE s ps x c.size)) ∧ Od w0 w' d p (writeD s ps x c) (writeP s ps x c.size) := by
  obtain ⟨S, q1, h3, q3, h5, h6, h7, q7⟩ := h
  have hpl := q3.top.lt
  have h1 : DevO d p s S wr := Rep.keep q1 h3 (Keeps.of_below k) (fun j x => by have := h3 j x; omega)
  have h4 : Pow wr p ps := q3.below k q3.top.lt
  have h8 : Below w0.heap.size w0 wr := q7.trans (k.mono q7.size)
  refine (dv_write h1 (fun j hj => Nat.lt_of_lt_of_le (h3 j hj) k.size) h4 h5 x (RdB.of_row hv) (fun g e => ?_) hcm hl).mono fun e w' ⟨he, hd, hp, hk⟩ => ⟨he, Ext S wr w', hd, Own.ext (fun j hj => Nat.lt_of_lt_of_le (h3 j hj) k.size) hk.size, hp, ?_, ?_, h7, ?_⟩
  · have := (hv.lt g e).1
    exact ⟨fun x => by have := h3 g x; omega, by omega⟩
  · rintro (x | x)
    · exact h5 x
    · have := k.size; omega
  · rintro j (x | x)
    · exact h6 j x
    · have := h8.size; omega
  · exact h8.trans (Keeps.below (hk.mono (T := fun j => w0.heap.size ≤ j) (fun n _ x => x.elim (h6 n) (fun e => e ▸ h7))) h8.size)

/-- The second sector of the page's example. -/
def awD : DS := pushD { pushD { newD 2 with wr := 0 } 0 (fillB 1 64) with wr := 0 } 0 (fillB 2 64)
def awP : PS := spendP (spendP newP)

theorem aw_fuse : newP.fuse = -1 := rfl
theorem aw1 : writeE (newD 2) newP 0 64 = 0 ∧ writeP (newD 2) newP 0 64 = spendP newP ∧ writeD (newD 2) newP 0 (fillB 1 64) = pushD { newD 2 with wr := 0 } 0 (fillB 1 64) := by
  have h : hasD (newD 2) 0 := ⟨by decide, by decide⟩
  have hf : ¬ newP.fuse = 0 := by decide
  have ho : ¬ newP.off = true := by decide
  have hw : ¬ (newD 2).wr % 2 = 1 := by decide
  refine ⟨?_, ?_, ?_⟩
  · unfold writeE; rw [if_neg ho, if_pos h, if_pos rfl, if_neg hf, if_neg hw]
  · unfold writeP; rw [if_neg ho, if_pos h, if_pos rfl]
  · unfold writeD; rw [if_neg ho, if_pos h, if_pos (fillB_size 1 64), if_neg hf, if_neg hw]; rfl
theorem aw2 : writeE (pushD { newD 2 with wr := 0 } 0 (fillB 1 64)) (spendP newP) 0 64 = 0 ∧ writeP (pushD { newD 2 with wr := 0 } 0 (fillB 1 64)) (spendP newP) 0 64 = awP ∧ writeD (pushD { newD 2 with wr := 0 } 0 (fillB 1 64)) (spendP newP) 0 (fillB 2 64) = awD := by
  have h : hasD (pushD { newD 2 with wr := 0 } 0 (fillB 1 64)) 0 := ⟨by decide, by show (0 : Int) < 2; decide⟩
  have hf : ¬ (spendP newP).fuse = 0 := by unfold spendP; rw [if_neg (by decide)]; decide
  have ho : ¬ (spendP newP).off = true := by unfold spendP; rw [if_neg (by decide)]; decide
  have hw : ¬ (pushD { newD 2 with wr := 0 } 0 (fillB 1 64)).wr % 2 = 1 := by show ¬ 0 % 2 = 1; decide
  refine ⟨?_, ?_, ?_⟩
  · unfold writeE; rw [if_neg ho, if_pos h, if_pos rfl, if_neg hf, if_neg hw]
  · unfold writeP; rw [if_neg ho, if_pos h, if_pos rfl]; rfl
  · unfold writeD; rw [if_neg ho, if_pos h, if_pos (fillB_size 2 64), if_neg hf, if_neg hw]; rfl

theorem awD_loose0 : awD.loose 0 = [fillB 1 64, fillB 2 64] := rfl
theorem awD_loose1 : awD.loose 1 = [] := rfl
theorem awD_I : looseI awD = [0] := by
  unfold looseI
  have : awD.n = 2 := rfl
  rw [this]
  simp [List.range, List.range.loop, List.filter, awD_loose0, awD_loose1]
theorem awD_L : looseL awD = [(0, 2)] := by unfold looseL; rw [awD_I]; simp [awD_loose0]
theorem awD_crash : crashE awD [1] = 0 := by
  unfold crashE
  rw [if_neg (by rw [awD_I]; simp)]
  have : crashL awD [1] = [(0, 1)] := by unfold crashL; rw [awD_I]; rfl
  rw [this]
  simp [badF, awD_loose0]
theorem awD_peek : hasD (crashD awD [1]) 0 ∧ peekD (crashD awD [1]) 0 = fillB 1 64 := by
  have h : hasD (crashD awD [1]) 0 := ⟨by decide, by show (0 : Int) < 2; decide⟩
  refine ⟨h, ?_⟩
  unfold peekD
  rw [if_pos h]
  show standsD (crashD awD [1]) 0 = _
  unfold standsD
  show (([] : List ByteArray).getLast?).getD ((crashS awD [1] 1).1 0) = _
  have : crashL awD [1] = [(0, 1)] := by unfold crashL; rw [awD_I]; rfl
  unfold crashS
  rw [this]
  simp [crashG, awD_loose0]

theorem one_row (w : World) : Arr (w.alloc (.cells #[.int .i64 1] 3)) w.heap.size 3 1 (fun _ => .int .i64 1) :=
  Arr.made w 3 1 (.int .i64 1) #[.int .i64 1] rfl fun i hi => by
    obtain rfl : i = 0 := by omega
    rfl

theorem two_row (w : World) : RdLo (w.alloc (.cells #[.int .i64 0, .int .i64 2] 86)) (.slice (some ⟨w.heap.size, 0, none⟩) 1 1) [(0, 2)] :=
  .inr ⟨_, 1, rfl, fun j x hx => by
    obtain ⟨rfl, rfl⟩ : j = 0 ∧ x = (0, 2) := by
      cases j with
      | zero => exact ⟨rfl, by simpa using hx.symm⟩
      | succ j => simp at hx
    have A : Arr (w.alloc (.cells #[.int .i64 0, .int .i64 2] 86)) w.heap.size 86 2 (fun i => if i = 0 then .int .i64 0 else .int .i64 2) := ⟨_, heap_alloc_new w _, rfl, fun i hi => by
      have : i = 0 ∨ i = 1 := by omega
      rcases this with rfl | rfl <;> rfl⟩
    exact ⟨A.cell (i := 0) (by omega), A.cell (i := 1) (by omega)⟩⟩

set_option maxRecDepth 100000 in
set_option maxHeartbeats 4000000 in
theorem law_awake (w : World) : Calls Try.prog 14 #[] w fun e w' => e = .returned (.bool true) ∧ Below w.heap.size w w' := by
  have NP := Lib.hid (pow_new w)
  go_enter Try.func14, Try.ntmps14
  go_wp2_with fail
  refine NP.out.mono ?_
  rintro e w1 ⟨rfl, hp1, b1, z1⟩
  have HB1 := Lib.hid b1
  have HP1 := Lib.hid hp1
  have N1 := Lib.hid (show Calls Try.prog 24 #[.int .i64 2, .pointer (some ⟨w.heap.size, 0, none⟩)] w1 fun e w' => e = .returned (.tuple #[.pointer (some ⟨w1.heap.size + 3, 0, none⟩), .int .i64 0]) ∧
      DvX w' w1.heap.size w.heap.size 2 0 (fun _ => zer 64) (fun _ => false) ∧ Below w1.heap.size w1 w' ∧ w'.heap.size = w1.heap.size + 4 + 2 from dv_new hp1 2 (by omega))
  have HZ1 := Lib.hid z1
  clear hp1 b1 z1 NP
  go_wp2_with fail
  refine N1.out.mono ?_
  rintro e w2 ⟨rfl, x2, b2, z2⟩
  have O2 : Od w w2 (w1.heap.size + 3) w.heap.size (newD 2) newP := by
    have z1 := HZ1.out
    refine ⟨New w1 w2, x2.dv (New w1 w2) (fun k h1 h2 => ⟨h1, by omega⟩), new_own _ _, HP1.out.below b2 HP1.out.top.lt, fun x => by have := x.1; omega, fun j x => by have := x.1; omega, Nat.le_refl _, HB1.out.trans (b2.mono HB1.out.size)⟩
  have HO2 := Lib.hid O2
  have FA := Lib.hid (fill_any w2 1 0)
  clear x2 b2 z2 O2 N1
  generalize hd : w1.heap.size + 3 = d at *
  clear hd HZ1 HP1 HB1
  go_wp2_with fail
  go_at_call 12
  refine FA.out.mono ?_
  rintro e w3 ⟨v, rfl, hv, b3⟩
  have WR := Lib.hid (HO2.out.write b3 0 hv (by rw [fillB_size]; decide) (by show 0 < 1000000; decide))
  rw [fillB_size, show fillN 0 = 64 from rfl, aw1.1, aw1.2.1, aw1.2.2] at WR
  clear hv b3 FA
  go_wp2_with fail
  refine WR.out.mono ?_
  rintro e w4 ⟨rfl, O4⟩
  have HO4 := Lib.hid O4
  have FB := Lib.hid (fill_any w4 2 0)
  clear O4 WR
  go_wp2_with fail
  go_at_call 12
  refine FB.out.mono ?_
  rintro e w5 ⟨v2, rfl, hv, b5⟩
  have WR := Lib.hid (HO4.out.write b5 0 hv (by rw [fillB_size]; decide) (by show 1 < 1000000; decide))
  rw [fillB_size, show fillN 0 = 64 from rfl, aw2.1, aw2.2.1, aw2.2.2] at WR
  clear hv b5 FB
  go_wp2_with fail
  refine WR.out.mono ?_
  rintro e w6 ⟨rfl, O6⟩
  have HO6 := Lib.hid O6
  obtain ⟨S6, ⟨R6, hd6, _⟩, _⟩ := O6
  have LO := Lib.hid (dv_loose hd6 (by show 2 ≤ 1000000; decide))
  clear hd6 WR
  go_wp2_with fail
  refine LO.out.mono ?_
  rintro e w7 ⟨v7, rfl, l7, b7, g7⟩
  rw [awD_L] at l7
  have HL7 := Lib.hid l7
  have HG7 := Lib.hid (l7.lt (by simp))
  have HO7 := Lib.hid (HO6.out.below b7)
  clear l7 b7 g7 LO
  have NP := Lib.hid (pow_new w7)
  go_wp2_with fail
  refine NP.out.mono ?_
  rintro e w8 ⟨rfl, hp8, b8, z8⟩
  have HO8 := Lib.hid (HO7.out.below b8)
  have HL8 := Lib.hid (HL7.out.keep (Keeps.of_below b8) (fun g e => Nat.not_le.2 (HG7.out g e)))
  have HB8 := Lib.hid b8
  have HG8 := Lib.hid (show ∀ g, v7.ownBlock = some g → g < w8.heap.size from fun g e => Nat.lt_of_lt_of_le (HG7.out g e) b8.size)
  have HP8 := Lib.hid hp8
  have HZ8 := Lib.hid z8
  clear hp8 b8 z8 NP
  have B9 := (Below.refl w8.heap.size w8).alloc (Nat.le_refl _) (.cells #[.int .i64 1] 3)
  have HO9 := Lib.hid (HO8.out.below B9)
  have HL9 := Lib.hid (HL8.out.keep (Keeps.of_below B9) (fun g e => Nat.not_le.2 (HG8.out g e)))
  have hp9 := HP8.out.below B9 HP8.out.top.lt
  have Z9 := World.size_alloc w8 (.cells #[.int .i64 1] 3)
  have A9 : RdZ (w8.alloc (.cells #[.int .i64 1] 3)) (.slice (some ⟨w8.heap.size, 0, none⟩) 1 1) [1] := ⟨_, 1, rfl, fun _ => ⟨_, 0, rfl, fun j x hx => by
    obtain ⟨rfl, rfl⟩ : j = 0 ∧ x = 1 := by
      cases j with
      | zero => exact ⟨rfl, by simpa using hx.symm⟩
      | succ j => simp at hx
    exact (one_row w8).cell (i := 0) (by omega)⟩⟩
  have HG9 := Lib.hid (show ∀ g, v7.ownBlock = some g → g < (w8.alloc (.cells #[.int .i64 1] 3)).heap.size from fun g e => Nat.lt_of_lt_of_le (HG8.out g e) B9.size)
  have CR := Lib.hid (show (Calls Try.prog 16 #[.pointer (some ⟨d, 0, none⟩), .pointer (some ⟨w7.heap.size, 0, none⟩), .slice (some ⟨w8.heap.size, 0, none⟩) 1 1] (w8.alloc (.cells #[.int .i64 1] 3)) fun e w' => ∃ x, e = .returned (.tuple #[.pointer (some ⟨x, 0, none⟩), .int .i64 0]) ∧ Below (w8.alloc (.cells #[.int .i64 1] 3)).heap.size (w8.alloc (.cells #[.int .i64 1] 3)) w' ∧ ∃ S R, Dv w' x w7.heap.size R (crashD awD [1]) ∧ DvIn x R (crashD awD [1]) S) from by
    obtain ⟨S, q1, q2, q3, q4, q5, q6, q7⟩ := HO9.out
    refine (dv_crash q1 q2 hp9 (by show 2 ≤ 1000000; decide) A9 (by decide)).mono fun e w' ⟨hb, h⟩ => ?_
    rcases h with ⟨_, x, he, R, hx, hi⟩ | ⟨h, _⟩
    · exact ⟨x, he, hb, _, R, hx, hi⟩
    · exact absurd awD_crash h)
  clear B9 hp9 Z9 A9 HZ8 HP8 HB8
  go_wp2_with fail
  generalize w8.alloc (.cells #[.int .i64 1] 3) = w9 at *
  refine CR.out.mono ?_
  rintro e w10 ⟨x, rfl, b10, S, R, hx, _⟩
  have HG10 := Lib.hid (show ∀ g, v7.ownBlock = some g → g < w10.heap.size from fun g e => Nat.lt_of_lt_of_le (HG9.out g e) b10.size)
  have HO10 := Lib.hid (HO9.out.below b10)
  have HL10 := Lib.hid (HL9.out.keep (Keeps.of_below b10) (fun g e => Nat.not_le.2 (HG9.out g e)))
  have HX := Lib.hid (awD_peek.1)
  have PK := Lib.hid (dv_peek hx 0)
  rw [awD_peek.2, decide_eq_true awD_peek.1] at PK
  clear hx b10 CR
  go_wp2_with fail
  refine PK.out.mono ?_
  rintro e w11 ⟨v11, rfl, r11, b11⟩
  have HO11 := Lib.hid (HO10.out.below b11)
  have HL11 := Lib.hid (HL10.out.keep (Keeps.of_below b11) (fun g e => Nat.not_le.2 (HG10.out g e)))
  have HR11 := Lib.hid r11
  have HG11 := Lib.hid (show ∀ g, v7.ownBlock = some g → g < w11.heap.size from fun g e => Nat.lt_of_lt_of_le (HG10.out g e) b11.size)
  clear r11 b11 PK
  obtain ⟨c, hc⟩ : ∃ c, c = fillB 1 64 := ⟨_, rfl⟩
  rw [← hc] at HR11
  have cv : ∀ W, Below w11.heap.size w11 W → (convert 44 9 v11).run Try.prog W = .ok (.string c) W := fun W k => ((RdB.of_row HR11.out).old k).str
  have CV := Lib.hid cv
  have B12 := (Below.refl w11.heap.size w11).alloc (Nat.le_refl _) (.cells #[.int .i64 0, .int .i64 2] 86)
  have SL := Lib.hid (show Calls Try.prog 37 #[v7, .slice (some ⟨w11.heap.size, 0, none⟩) 1 1] (w11.alloc (.cells #[.int .i64 0, .int .i64 2] 86)).drew fun e w' => e = .returned (.bool true) ∧ Below w11.heap.size w11 w' from
    (same_loose ((HL11.out.keep (Keeps.of_below B12) (fun g e => Nat.not_le.2 (HG11.out g e))).drewN 1) ((two_row w11).drewN 1) (by decide)).mono fun e w' ⟨he, n, hn⟩ => ⟨he, by rw [hn]; exact Keeps.below ((Keeps.of_below B12.drew).drewN n) (Nat.le_refl _)⟩)
  have FN := Lib.hid (show ∀ W, Calls Try.prog 12 #[.int .u8 1, .int .i64 0] W fun e w' => ∃ v, e = .returned v ∧ w'.ownsRow W.heap.size 5 1 v c.size (octV c) ∧ Below W.heap.size W w' from by
    intro W
    rw [hc]
    exact fill_any W 1 0)
  clear cv hc HR11
  go_wp2_with fail
  have B0 := (Below.refl w11.heap.size w11).drew
  have B1 := B12.drew
  go_region_held_law (fun W => Below w11.heap.size w11 W) (first | assumption | exact b13 | exact b15) (first
    | (go_at_call 37; (with_reducible refine SL.out.mono ?_); rintro e w13 ⟨rfl, b13⟩; have cv13 := CV.out w13 b13)
    | (go_at_call 12; (with_reducible refine (FN.out _).mono ?_); rintro e w14 ⟨v14, rfl, r14, b14⟩; have b15 := b13.trans (b14.mono b13.size); have cv14 := CV.out w14 b15; have cw14 := (RdB.of_row r14).str))
  all_goals (
    go_wp2
    go_ret
    exact ⟨rfl, HO11.out.old.trans (b15.mono HO11.out.old.size)⟩)
end

end Go.Proofs.Ytlfeglnacphhlaa
