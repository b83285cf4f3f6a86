/- What calls make of an order: the statement's walk. -/
import Derived.Test.YtbhcpedokgdipaaSs
import Derived.Deep.RegionHeld3
namespace Go.Proofs.Ytbhcpedokgdipaa
open Go.RowKit Fl
set_option linter.unusedVariables false

section
variable {S : Nat → Prop} {w0 w : World} {b b' n most : Nat} {l h l' h' : List Nat}
theorem oo_enter (t : Two (SlO b n most l h) (RfO b' n most l h) S w) (m : Int) : Calls Try.prog 36 #[.pointer (some ⟨b, 0, none⟩), .int .i64 m] w fun e w' => e = .returned (.bool (enS n m l h).1) ∧ Two (SlO b n most (enS n m l h).2.1 (enS n m l h).2.2) (RfO b' n most l h) (Ext S w w') w' ∧ Keeps S w w' :=
  t.left (fun A g o => sl_enter_any g m)
theorem oo_renter (t : Two (SlO b n most l' h') (RfO b' n most l h) S w) (m : Int) (hl : l.length ≤ 1024) (hh : h.length ≤ 1024) : Calls Try.prog 46 #[.pointer (some ⟨b', 0, none⟩), .int .i64 m] w fun e w' => e = .returned (.bool (enS n m l h).1) ∧ Two (SlO b n most l' h') (RfO b' n most (enS n m l h).2.1 (enS n m l h).2.2) (Ext S w w') w' ∧ Keeps S w w' :=
  t.right (fun A g o => g.open_.elim fun vl g => g.elim fun vh g => (rf_enter g m hl hh).mono fun e w' ⟨he, vl', vh', r⟩ => ⟨he, r.shut⟩)
theorem oo_touch (t : Two (SlO b n most l h) (RfO b' n most l h) S w) (m : Int) : Calls Try.prog 37 #[.pointer (some ⟨b, 0, none⟩), .int .i64 m] w fun e w' => e = .returned (.bool (toS most m l h).1) ∧ Two (SlO b n most (toS most m l h).2.1 (toS most m l h).2.2) (RfO b' n most l h) (Ext S w w') w' ∧ Keeps S w w' :=
  t.left (fun A g o => sl_touch_any g m)
theorem oo_rtouch (t : Two (SlO b n most l' h') (RfO b' n most l h) S w) (m : Int) (hl : l.length ≤ 1024) (hh : h.length ≤ 1024) : Calls Try.prog 47 #[.pointer (some ⟨b', 0, none⟩), .int .i64 m] w fun e w' => e = .returned (.bool (toS most m l h).1) ∧ Two (SlO b n most l' h') (RfO b' n most (toS most m l h).2.1 (toS most m l h).2.2) (Ext S w w') w' ∧ Keeps S w w' :=
  t.right (fun A g o => g.open_.elim fun vl g => g.elim fun vh g => (rf_touch g m hl hh).mono fun e w' ⟨he, vl', vh', r⟩ => ⟨he, r.shut⟩)
theorem oo_leave (t : Two (SlO b n most l h) (RfO b' n most l h) S w) (m : Int) : Calls Try.prog 38 #[.pointer (some ⟨b, 0, none⟩), .int .i64 m] w fun e w' => e = .returned (.bool (lvS m l h).1) ∧ Two (SlO b n most (lvS m l h).2.1 (lvS m l h).2.2) (RfO b' n most l h) (Ext S w w') w' ∧ Keeps S w w' :=
  t.left (fun A g o => sl_leave_any g m)
theorem oo_rleave (t : Two (SlO b n most l' h') (RfO b' n most l h) S w) (m : Int) (hl : l.length ≤ 1024) (hh : h.length ≤ 1024) : Calls Try.prog 48 #[.pointer (some ⟨b', 0, none⟩), .int .i64 m] w fun e w' => e = .returned (.bool (lvS m l h).1) ∧ Two (SlO b n most l' h') (RfO b' n most (lvS m l h).2.1 (lvS m l h).2.2) (Ext S w w') w' ∧ Keeps S w w' :=
  t.right (fun A g o => g.open_.elim fun vl g => g.elim fun vh g => (rf_leave g m hl hh).mono fun e w' ⟨he, vl', vh', r⟩ => ⟨he, r.shut⟩)

theorem oo_close {R Q : (Nat → Prop) → World → Prop} {w wr W w3 w4 : World} (hb : Below w.heap.size w wr) (s1 : Below wr.heap.size wr W) (k3 : Keeps (New w wr) W w3) (k4 : Keeps (Ext (New w wr) W w3) w3 w4) (t : Two R Q (Ext (Ext (New w wr) W w3) w3 w4) w4) : Run2 R Q w w4 := by
  have e1 := hb.size
  have e2 := s1.size
  have e3 := k3.size
  have e4 := k4.size
  refine ⟨t.mono fun j x => ?_, ?_⟩
  · rcases x with (x | x) | x
    · exact ⟨x.1, by have := x.2; omega⟩
    · exact ⟨by have := x.1; omega, by have := x.2; omega⟩
    · exact ⟨by have := x.1; omega, x.2⟩
  · have k := (((Keeps.of_below hb).trans (Keeps.of_below s1) (fun j x => .inl (Nat.le_trans e1 x))).trans k3 (fun j x => .inl x.1)).trans k4 (fun j x => x.elim (fun y => .inl y.1) (fun y => .inl (by have := y.1; omega)))
    exact k.below (Nat.le_refl _)
end

set_option maxRecDepth 100000 in
set_option maxHeartbeats 8000000 in
theorem slPlays_at (sl keep : Int) (a : Option Addr) (n cp : Nat) (K Y : Nat → Int) (slot : Int) (w : World) (N most : Nat) (s0 : 0 ≤ sl) (s1 : sl ≤ 255) (hN : sl % 20 = (N : Int)) (hN20 : N < 20) (k0 : 0 ≤ keep) (k1 : keep ≤ 18446744073709551615)
    (hmo : (most : Int) = shareI N keep.toNat) (h : Act2 w a n K Y) (hc : n ≤ cp) (hm : cp ≤ 9223372036854775807) :
    Calls Try.prog 11 #[.int .u8 sl, .int .u64 keep, .slice a n cp, .int .i64 slot] w fun e w' => e = .returned (.bool true) ∧ Below w.heap.size w w' := by
  have NW := Lib.hid (sl_new w N keep.toNat (by omega) (by omega) most hmo)
  have RN := Lib.hid (fun W => rf_new (n := N) (most := most) W keep.toNat (by omega) (by omega) hmo)
  clear hmo
  have SAME := Lib.hid (fun (b b' : Nat) (l h : List Nat) (W : World) (x : OO b b' N most l h w W) (m : Int) => oo_same x m)
  have HA := Lib.hid h
  clear h
  go_enter Try.func11, Try.ntmps11
  go_wp2_with fail
  refine NW.out.mono ?_
  rintro e w1 ⟨b, rfl, g1, b1⟩
  have G1 := Lib.hid (show Run1 (SlO b N most [] []) w w1 from ⟨g1, b1⟩)
  clear g1 b1
  go_wp2_with fail
  refine (RN.out _).mono ?_
  rintro e w2 ⟨b', rfl, g2, b2⟩
  have G2 := Lib.hid (show OO b b' N most [] [] w w2 from G1.out.and g2 b2)
  clear g2 b2
  go_wp2
  go_loopw [14] (fun i wr => ∃ (k : Nat) (l h : List Nat), k ≤ n ∧ k ≤ 60 ∧ i = .int .i64 (k : Int) ∧ OO b b' N most l h w wr) (fun i _ => 60 - (intOf i).toNat)
  case atStart => exact ⟨0, [], [], Nat.zero_le _, by omega, rfl, G2.out⟩
  case round =>
    obtain ⟨k, l, h, hkn, hk60, rfl, hR⟩ := hrel
    have HR := Lib.hid hR
    clear hR
    by_cases h1 : k < n
    · by_cases h2 : k < 60
      · obtain ⟨ab, off, rfl, hcc⟩ := HA.out (by omega)
        obtain ⟨q0, q1⟩ := hcc k h1
        have r0 := (HR.out.2.cell (World.block_lt_of_cell? w _ q0)).trans q0
        have r1 := (HR.out.2.cell (World.block_lt_of_cell? w _ q1)).trans q1
        clear q0 q1 hcc
        have hkm : (k : Int) < (n : Int) := by omega
        have hk4 : (k : Int) < 60 := by omega
        have hnn : (k : Int) + 1 ≤ 9223372036854775807 := by omega
        have BX := Lib.hid ((Below.refl wr.heap.size wr).alloc (Nat.le_refl _) (.cells #[.int .i64 (K k), .int .i64 (Y k)] 71))
        have c0 : (wr.alloc (.cells #[.int .i64 (K k), .int .i64 (Y k)] 71)).cell? ⟨wr.heap.size, 1, none⟩ = some (.int .i64 (Y k)) := blk_cell' (heap_at _ _ _ rfl) 1
        have szb : Hid ((wr.alloc (.cells #[.int .i64 (K k), .int .i64 (Y k)] 71)).heap.size = wr.heap.size + 1) := Lib.hid (World.size_alloc _ _)
        have TW := Lib.hid (HR.out.1.keep (Keeps.of_below BX.out.drew) (fun j x y => by have := x.2; omega))
        have LE := Lib.hid (OO.len HR.out)
        have C0 := Lib.hid c0
        clear c0
        by_cases K0 : K k = 0
        · rw [K0] at r0 BX C0 szb TW
          have EN := oo_enter TW.out (Y k)
          have RE := fun (l' h' : List Nat) (S : Nat → Prop) (W : World) (t : Two (SlO b N most l' h') (RfO b' N most l h) S W) => oo_renter t (Y k) LE.out.1 LE.out.2
          generalize (enS N (Y k) l h).1 = ans at EN RE
          generalize (enS N (Y k) l h).2.1 = l2 at EN RE
          generalize (enS N (Y k) l h).2.2 = h2 at EN RE
          have EN := Lib.hid EN
          have RE := Lib.hid RE
          go_wp2_with fail
          have z0 := C0.out
          go_region_held3 (fun w' => w'.cell? ⟨wr.heap.size, 1, none⟩ = some (.int .i64 (Y k)))
            (first | go_keep | assumption)
            (first
              | (go_at_call 36; (with_reducible refine EN.out.mono ?_); rintro e w3 ⟨rfl, t3, k3⟩; have T3 := Lib.hid t3; have K3 := Lib.hid k3; have z3 := k3.cell C0.out (fun x => Nat.lt_irrefl _ x.2); clear t3 k3)
              | (go_at_call 46; (with_reducible refine (RE.out _ _ _ _ T3.out).mono ?_); rintro e w4 ⟨rfl, t4, k4⟩; have T4 := Lib.hid t4; have K4 := Lib.hid k4; have z4 := k4.cell z3 (fun x => x.elim (fun y => Nat.lt_irrefl _ y.2) (fun y => by have := y.1; have := szb.out; simp at *; omega)); clear t4 k4))
          all_goals (
            have O4 := Lib.hid (show OO b b' N most l2 h2 w w4 from oo_close HR.out.2 BX.out.drew K3.out K4.out T4.out)
            clear z0 z3
            go_wp2_with fail
            refine (SAME.out _ _ _ _ _ O4.out slot).mono ?_
            rintro e w5 ⟨rfl, b5⟩
            have O5 := Lib.hid (show OO b b' N most l2 h2 w w5 from O4.out.keep b5)
            have z5 := (b5.cell (World.block_lt_of_cell? w4 _ z4)).trans z4
            clear b5
            go_wp2_with fail
            refine (SAME.out _ _ _ _ _ O5.out (Y k)).mono ?_
            rintro e w6 ⟨rfl, b6⟩
            have O6 := Lib.hid (show OO b b' N most l2 h2 w w6 from O5.out.keep b6)
            clear b6 z4 z5
            go_wp2
            go_roundw
            case rel => exact ⟨k + 1, l2, h2, by omega, by omega, by simp, O6.out⟩
            case measure => simp only [intOf]; omega)
        · by_cases K1 : K k = 1
          · rw [K1] at r0 BX C0 szb TW
            have EN := oo_touch TW.out (Y k)
            have RE := fun (l' h' : List Nat) (S : Nat → Prop) (W : World) (t : Two (SlO b N most l' h') (RfO b' N most l h) S W) => oo_rtouch t (Y k) LE.out.1 LE.out.2
            generalize (toS most (Y k) l h).1 = ans at EN RE
            generalize (toS most (Y k) l h).2.1 = l2 at EN RE
            generalize (toS most (Y k) l h).2.2 = h2 at EN RE
            have EN := Lib.hid EN
            have RE := Lib.hid RE
            go_wp2_with fail
            have z0 := C0.out
            go_region_held3 (fun w' => w'.cell? ⟨wr.heap.size, 1, none⟩ = some (.int .i64 (Y k)))
              (first | go_keep | assumption)
              (first
                | (go_at_call 37; (with_reducible refine EN.out.mono ?_); rintro e w3 ⟨rfl, t3, k3⟩; have T3 := Lib.hid t3; have K3 := Lib.hid k3; have z3 := k3.cell C0.out (fun x => Nat.lt_irrefl _ x.2); clear t3 k3)
                | (go_at_call 47; (with_reducible refine (RE.out _ _ _ _ T3.out).mono ?_); rintro e w4 ⟨rfl, t4, k4⟩; have T4 := Lib.hid t4; have K4 := Lib.hid k4; have z4 := k4.cell z3 (fun x => x.elim (fun y => Nat.lt_irrefl _ y.2) (fun y => by have := y.1; have := szb.out; simp at *; omega)); clear t4 k4))
            all_goals (
              have O4 := Lib.hid (show OO b b' N most l2 h2 w w4 from oo_close HR.out.2 BX.out.drew K3.out K4.out T4.out)
              clear z0 z3
              go_wp2_with fail
              refine (SAME.out _ _ _ _ _ O4.out slot).mono ?_
              rintro e w5 ⟨rfl, b5⟩
              have O5 := Lib.hid (show OO b b' N most l2 h2 w w5 from O4.out.keep b5)
              have z5 := (b5.cell (World.block_lt_of_cell? w4 _ z4)).trans z4
              clear b5
              go_wp2_with fail
              refine (SAME.out _ _ _ _ _ O5.out (Y k)).mono ?_
              rintro e w6 ⟨rfl, b6⟩
              have O6 := Lib.hid (show OO b b' N most l2 h2 w w6 from O5.out.keep b6)
              clear b6 z4 z5
              go_wp2
              go_roundw
              case rel => exact ⟨k + 1, l2, h2, by omega, by omega, by simp, O6.out⟩
              case measure => simp only [intOf]; omega)
          · have hz0 : (K k == 0) = false := by simp [K0]
            have hz1 : (K k == 1) = false := by simp [K1]
            have EN := oo_leave TW.out (Y k)
            have RE := fun (l' h' : List Nat) (S : Nat → Prop) (W : World) (t : Two (SlO b N most l' h') (RfO b' N most l h) S W) => oo_rleave t (Y k) LE.out.1 LE.out.2
            generalize (lvS (Y k) l h).1 = ans at EN RE
            generalize (lvS (Y k) l h).2.1 = l2 at EN RE
            generalize (lvS (Y k) l h).2.2 = h2 at EN RE
            have EN := Lib.hid EN
            have RE := Lib.hid RE
            go_wp2_with fail
            have z0 := C0.out
            go_region_held3 (fun w' => w'.cell? ⟨wr.heap.size, 1, none⟩ = some (.int .i64 (Y k)))
              (first | go_keep | assumption)
              (first
                | (go_at_call 38; (with_reducible refine EN.out.mono ?_); rintro e w3 ⟨rfl, t3, k3⟩; have T3 := Lib.hid t3; have K3 := Lib.hid k3; have z3 := k3.cell C0.out (fun x => Nat.lt_irrefl _ x.2); clear t3 k3)
                | (go_at_call 48; (with_reducible refine (RE.out _ _ _ _ T3.out).mono ?_); rintro e w4 ⟨rfl, t4, k4⟩; have T4 := Lib.hid t4; have K4 := Lib.hid k4; have z4 := k4.cell z3 (fun x => x.elim (fun y => Nat.lt_irrefl _ y.2) (fun y => by have := y.1; have := szb.out; simp at *; omega)); clear t4 k4))
            all_goals (
              have O4 := Lib.hid (show OO b b' N most l2 h2 w w4 from oo_close HR.out.2 BX.out.drew K3.out K4.out T4.out)
              clear z0 z3
              go_wp2_with fail
              refine (SAME.out _ _ _ _ _ O4.out slot).mono ?_
              rintro e w5 ⟨rfl, b5⟩
              have O5 := Lib.hid (show OO b b' N most l2 h2 w w5 from O4.out.keep b5)
              have z5 := (b5.cell (World.block_lt_of_cell? w4 _ z4)).trans z4
              clear b5
              go_wp2_with fail
              refine (SAME.out _ _ _ _ _ O5.out (Y k)).mono ?_
              rintro e w6 ⟨rfl, b6⟩
              have O6 := Lib.hid (show OO b b' N most l2 h2 w w6 from O5.out.keep b6)
              clear b6 z4 z5
              go_wp2
              go_roundw
              case rel => exact ⟨k + 1, l2, h2, by omega, by omega, by simp, O6.out⟩
              case measure => simp only [intOf]; omega)
      · have hkm : (k : Int) < (n : Int) := by omega
        have hk4 : ¬ (k : Int) < 60 := by omega
        go_wp2_with fail
        refine (SAME.out _ _ _ _ _ HR.out slot).mono ?_
        rintro e w5 ⟨rfl, b5⟩
        have B5 := Lib.hid (HR.out.2.trans (b5.mono HR.out.2.size))
        clear b5
        go_wp2_with fail
        refine (slAwake _).mono ?_
        rintro e w6 ⟨rfl, b6⟩
        have B6 := Lib.hid (B5.out.trans (b6.mono B5.out.size))
        clear b6
        go_wp2
        go_ret
        exact ⟨rfl, B6.out⟩
    · have hkm : ¬ (k : Int) < (n : Int) := by omega
      go_wp2_with fail
      refine (SAME.out _ _ _ _ _ HR.out slot).mono ?_
      rintro e w5 ⟨rfl, b5⟩
      have B5 := Lib.hid (HR.out.2.trans (b5.mono HR.out.2.size))
      clear b5
      go_wp2_with fail
      refine (slAwake _).mono ?_
      rintro e w6 ⟨rfl, b6⟩
      have B6 := Lib.hid (B5.out.trans (b6.mono B5.out.size))
      clear b6
      go_wp2
      go_ret
      exact ⟨rfl, B6.out⟩

theorem slPlays_walk (sl keep : Int) (a : Option Addr) (n cp : Nat) (K Y : Nat → Int) (slot : Int) (w : World) (s0 : 0 ≤ sl) (s1 : sl ≤ 255) (k0 : 0 ≤ keep) (k1 : keep ≤ 18446744073709551615)
    (h : Act2 w a n K Y) (hc : n ≤ cp) (hm : cp ≤ 9223372036854775807) :
    Calls Try.prog 11 #[.int .u8 sl, .int .u64 keep, .slice a n cp, .int .i64 slot] w fun e w' => e = .returned (.bool true) ∧ Below w.heap.size w w' := by
  obtain ⟨N, hN⟩ : ∃ m : Nat, sl % 20 = (m : Int) := ⟨(sl % 20).toNat, by omega⟩
  have hb := shareI_bd N keep.toNat (by omega)
  exact slPlays_at sl keep a n cp K Y slot w N (shareI N keep.toNat).toNat s0 s1 hN (by omega) k0 k1 (by omega) h hc hm

end Go.Proofs.Ytbhcpedokgdipaa
