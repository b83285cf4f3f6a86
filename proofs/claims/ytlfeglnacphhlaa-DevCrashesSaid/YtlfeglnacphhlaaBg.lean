/- Two devices on one power, and the document's: begin. -/
import Derived.Test.YtlfeglnacphhlaaRg
import Derived.Deep.RegionHeld3
namespace Go.Proofs.Ytlfeglnacphhlaa
open Go.RowKit Go.Maps
set_option linter.unusedVariables false

theorem blk6 {w : World} {b : Nat} {t : TypeId} {cs : Array Value} {F : Nat → Value} (hb : w.heap[b]? = some (.cells cs t (0, 0))) (hs : cs.size = 6) (hF : ∀ i, i < 6 → cs[i]? = some (F i)) : Arr w b t 6 F := ⟨cs, hb, hs, hF⟩

theorem rig_made {w w3 w4 w5 w6 w7 w8 w9 W : World} {z a b : Nat} (ez : w.heap.size = z) (p3 : Pow w3 z newP) (q3 : RPow w3 (z + 1) newP) (b3 : Below z w w3) (z3 : w3.heap.size = z + 3)
    (x4 : DvX w4 w3.heap.size z a 0 (fun _ => zer 64) (fun _ => false)) (b4 : Below w3.heap.size w3 w4) (z4 : w4.heap.size = w3.heap.size + 4 + a)
    (x5 : DvX w5 w4.heap.size z b 0 (fun _ => zer 64) (fun _ => false)) (b5 : Below w4.heap.size w4 w5) (z5 : w5.heap.size = w4.heap.size + 4 + b)
    (k6 : Keeps (fun j => j = z + 2) w5 w6) (z6 : w6.heap.size = w5.heap.size) (r7 : RvO (w6.heap.size + 1) (z + 1) (newD a) (New w6 w7) w7) (b7 : Below w6.heap.size w6.drew w7)
    (k8 : Keeps (fun j => j = z + 2) w7 w8) (z8 : w8.heap.size = w7.heap.size) (r9 : RvO (w8.heap.size + 1) (z + 1) (newD b) (New w8 w9) w9) (b9 : Below w8.heap.size w8.drew w9)
    (kW : Keeps (fun j => j = z + 2) w9 W) (zW : W.heap.size = w9.heap.size)
    (top : Arr W (z + 2) 34 6 (twF z (z + 1) (fun k => if k = 0 then w3.heap.size + 3 else w4.heap.size + 3) (fun k => if k = 0 then w6.heap.size + 1 else w8.heap.size + 1))) :
    RigO w W (z + 2) z (z + 1) (fun k => if k = 0 then w3.heap.size + 3 else w4.heap.size + 3) (fun k => if k = 0 then w6.heap.size + 1 else w8.heap.size + 1) newP newP (fun k => newD (if k = 0 then a else b)) (fun k => newD (if k = 0 then a else b)) := by
  have s7 : w6.heap.size ≤ w7.heap.size := b7.size
  have s9 : w8.heap.size ≤ w9.heap.size := b9.size
  have e9 : Keeps (fun j => j = z + 2 ∨ w9.heap.size ≤ j) w9 W := kW.mono (fun _ _ x => .inl x)
  have e8 : Keeps (fun j => j = z + 2 ∨ w8.heap.size ≤ j) w8 W := (show Keeps (fun j => j = z + 2 ∨ w8.heap.size ≤ j) w8 w9 from
    ((Keeps.refl (fun j => j = z + 2 ∨ w8.heap.size ≤ j) w8).drew).trans ((Keeps.of_below b9).mono (T := fun j => w8.heap.size ≤ j) (fun _ _ x => x)) (fun n x => .inr x)).trans e9 (fun n x => x.elim (fun y => .inl (.inl y)) (fun y => .inl (.inr (by omega))))
  have e7 : Keeps (fun j => j = z + 2 ∨ w7.heap.size ≤ j) w7 W := (k8.mono (T := fun j => j = z + 2 ∨ w7.heap.size ≤ j) (fun _ _ x => .inl x)).trans e8 (fun n x => x.elim (fun y => .inl (.inl y)) (fun y => .inr (by omega)))
  have e6 : Keeps (fun j => j = z + 2 ∨ w6.heap.size ≤ j) w6 W := (show Keeps (fun j => j = z + 2 ∨ w6.heap.size ≤ j) w6 w7 from
    ((Keeps.refl (fun j => j = z + 2 ∨ w6.heap.size ≤ j) w6).drew).trans ((Keeps.of_below b7).mono (T := fun j => w6.heap.size ≤ j) (fun _ _ x => x)) (fun n x => .inr x)).trans e7 (fun n x => x.elim (fun y => .inl (.inl y)) (fun y => .inl (.inr (by omega))))
  have e5 : Keeps (fun j => j = z + 2 ∨ w5.heap.size ≤ j) w5 W := (k6.mono (T := fun j => j = z + 2 ∨ w5.heap.size ≤ j) (fun _ _ x => .inl x)).trans e6 (fun n x => x.elim (fun y => .inl (.inl y)) (fun y => .inr (by omega)))
  have e4 : Keeps (fun j => j = z + 2 ∨ w4.heap.size ≤ j) w4 W := ((Keeps.of_below b5).mono (T := fun j => j = z + 2 ∨ w4.heap.size ≤ j) (fun _ _ x => .inr x)).trans e5 (fun n x => x.elim (fun y => .inl (.inl y)) (fun y => .inr (by omega)))
  have e3 : Keeps (fun j => j = z + 2 ∨ w3.heap.size ≤ j) w3 W := ((Keeps.of_below b4).mono (T := fun j => j = z + 2 ∨ w3.heap.size ≤ j) (fun _ _ x => .inr x)).trans e4 (fun n x => x.elim (fun y => .inl (.inl y)) (fun y => .inr (by omega)))
  have d0 : DevO (w3.heap.size + 3) z (newD a) (New w3 w4) W := Rep.keep (x4.dv (New w3 w4) (fun k h1 h2 => ⟨h1, by omega⟩)) (new_own _ _) e4 (fun j x y => by have := x.1; have := x.2; omega)
  have d1 : DevO (w4.heap.size + 3) z (newD b) (New w4 w5) W := Rep.keep (x5.dv (New w4 w5) (fun k h1 h2 => ⟨h1, by omega⟩)) (new_own _ _) e5 (fun j x y => by have := x.1; have := x.2; omega)
  have r0 : RvO (w6.heap.size + 1) (z + 1) (newD a) (New w6 w7) W := Rep.keep r7 (new_own _ _) e7 (fun j x y => by have := x.1; have := x.2; omega)
  have r1 : RvO (w8.heap.size + 1) (z + 1) (newD b) (New w8 w9) W := Rep.keep r9 (new_own _ _) e9 (fun j x y => by have := x.1; have := x.2; omega)
  refine ⟨fun k => if k = 0 then New w3 w4 else New w4 w5, fun k => if k = 0 then New w6 w7 else New w8 w9, ⟨top, p3.keep e3 (by omega), q3.keep e3 (by omega), fun k hk => ?_, fun k hk => ?_, fun k hk => ?_, fun k hk => ?_, fun k hk => ?_, fun k hk => ?_, by omega, fun j x y => ?_, fun j x y => ?_, fun k l hk hl j x y => ?_, fun k hk j x => ?_, fun k hk j x => ?_, by omega⟩, ?_⟩
  · have : k = 0 ∨ k = 1 := by omega
    rcases this with rfl | rfl
    · exact d0
    · exact d1
  · have : k = 0 ∨ k = 1 := by omega
    rcases this with rfl | rfl
    · exact r0
    · exact r1
  · have : k = 0 ∨ k = 1 := by omega
    rcases this with rfl | rfl
    · intro j (x : New w3 w4 j); have := x.2; omega
    · intro j (x : New w4 w5 j); have := x.2; omega
  · have : k = 0 ∨ k = 1 := by omega
    rcases this with rfl | rfl
    · intro j (x : New w6 w7 j); have := x.2; omega
    · intro j (x : New w8 w9 j); have := x.2; omega
  · have : k = 0 ∨ k = 1 := by omega
    rcases this with rfl | rfl
    · exact ⟨fun x => by have := x.1; omega, fun x => by have := x.1; omega, fun x => by have := x.1; omega⟩
    · exact ⟨fun x => by have := x.1; omega, fun x => by have := x.1; omega, fun x => by have := x.1; omega⟩
  · have : k = 0 ∨ k = 1 := by omega
    rcases this with rfl | rfl
    · exact ⟨fun x => by have := x.1; omega, fun x => by have := x.1; omega, fun x => by have := x.1; omega⟩
    · exact ⟨fun x => by have := x.1; omega, fun x => by have := x.1; omega, fun x => by have := x.1; omega⟩
  · have x : New w3 w4 j := x
    have y : New w4 w5 j := y
    have := x.2; have := y.1; omega
  · have x : New w6 w7 j := x
    have y : New w8 w9 j := y
    have := x.2; have := y.1; omega
  · have hx : j < w6.heap.size := by
      have : k = 0 ∨ k = 1 := by omega
      rcases this with rfl | rfl
      · have x : New w3 w4 j := x
        have := x.2; omega
      · have x : New w4 w5 j := x
        have := x.2; omega
    have hy : w6.heap.size ≤ j := by
      have : l = 0 ∨ l = 1 := by omega
      rcases this with rfl | rfl
      · have y : New w6 w7 j := y
        exact y.1
      · have y : New w8 w9 j := y
        have := y.1; omega
    omega
  · have : k = 0 ∨ k = 1 := by omega
    rcases this with rfl | rfl
    · have x : New w3 w4 j := x
      have := x.1; omega
    · have x : New w4 w5 j := x
      have := x.1; omega
  · have : k = 0 ∨ k = 1 := by omega
    rcases this with rfl | rfl
    · have x : New w6 w7 j := x
      have := x.1; omega
    · have x : New w8 w9 j := x
      have := x.1; omega
  · rw [ez]
    exact b3.trans (Keeps.below (B := z) (e3.mono (fun n _ x => by omega)) (by omega))

set_option maxRecDepth 100000 in
set_option maxHeartbeats 4000000 in
theorem law_begin (w : World) (a b : Nat) (ha : a ≤ 4096) (hb : b ≤ 4096) :
    Calls Try.prog 7 #[.int .i64 (a : Int), .int .i64 (b : Int)] w fun e w' => ∃ t p q dd ee, e = .returned (.tuple #[.pointer (some ⟨t, 0, none⟩), .bool true]) ∧ RigO w w' t p q dd ee newP newP (fun k => newD (if k = 0 then a else b)) (fun k => newD (if k = 0 then a else b)) := by
  have NP := Lib.hid (pow_new w)
  have HA := Lib.hid ha
  have HB := Lib.hid hb
  clear ha hb
  go_enter Try.func7, Try.ntmps7
  go_wp2_with fail
  refine NP.out.mono ?_
  rintro e w1 ⟨rfl, hp1, b1, z1⟩
  have Q2 := RPow.made w1
  have z2 := World.size_alloc w1 (.cells #[.bool false, .bool false, .int .i64 0, .int .i64 0] 81)
  have P2 := hp1.below ((Below.refl w1.heap.size w1).alloc (Nat.le_refl _) (.cells #[.bool false, .bool false, .int .i64 0, .int .i64 0] 81)) (by omega)
  have B2 := b1.alloc (by omega) (.cells #[.bool false, .bool false, .int .i64 0, .int .i64 0] 81)
  have H1 := Lib.hid (And.intro Q2 (And.intro P2 (And.intro B2 (And.intro z1 z2))))
  clear hp1 b1 z1 Q2 P2 B2 z2
  go_wp2_with fail
  have F3 : ∃ z, w.heap.size = z ∧ w1.heap.size = z + 1 ∧ ∀ w3, w3 = (w1.alloc (.cells #[.bool false, .bool false, .int .i64 0, .int .i64 0] 81)).alloc (.cells #[.pointer (some ⟨w.heap.size, 0, none⟩), .pointer none, .pointer none, .pointer (some ⟨w1.heap.size, 0, none⟩), .pointer none, .pointer none] 34) →
      Arr w3 (z + 2) 34 6 (fun i => if i = 0 then .pointer (some ⟨z, 0, none⟩) else if i = 3 then .pointer (some ⟨z + 1, 0, none⟩) else .pointer none) ∧ Pow w3 z newP ∧ RPow w3 (z + 1) newP ∧ Below w.heap.size w w3 ∧ w3.heap.size = z + 3 := by
    obtain ⟨Q2, P2, B2, z1, z2⟩ := H1.out
    refine ⟨w.heap.size, rfl, z1, ?_⟩
    rintro w3 rfl
    rw [z1] at z2 Q2
    refine ⟨⟨_, heap_at _ _ _ (by omega), rfl, fun i hi => ?_⟩, P2.below ((Below.refl _ _).alloc (Nat.le_refl _) _) (by omega), Q2.keep ((Keeps.refl (fun _ => False) _).alloc _) (fun x => x), B2.alloc (by omega) _, by rw [World.size_alloc, z2]⟩
    have : i = 0 ∨ i = 1 ∨ i = 2 ∨ i = 3 ∨ i = 4 ∨ i = 5 := by omega
    rcases this with rfl | rfl | rfl | rfl | rfl | rfl <;> simp [z1]
  obtain ⟨z, ez, ez1, F3⟩ := F3
  have F3 := F3 _ rfl
  rw [ez, ez1] at F3 ⊢
  clear H1 NP
  generalize (w1.alloc (.cells #[.bool false, .bool false, .int .i64 0, .int .i64 0] 81)).alloc (.cells #[.pointer (some ⟨z, 0, none⟩), .pointer none, .pointer none, .pointer (some ⟨z + 1, 0, none⟩), .pointer none, .pointer none] 34) = w3 at *
  obtain ⟨T3, P3, Q3, B3, z3⟩ := F3
  have HT3 := Lib.hid T3
  have HP3 := Lib.hid P3
  have HQ3 := Lib.hid Q3
  have HB3 := Lib.hid B3
  have HZ3 := Lib.hid z3
  have HEZ := Lib.hid ez
  have N1 := Lib.hid (dv_new P3 a HA.out)
  clear T3 P3 Q3 B3 z3 ez ez1
  refine N1.out.mono ?_
  rintro e w4 ⟨rfl, x4, b4, z4⟩
  have HX4 := Lib.hid x4
  have HB4 := Lib.hid b4
  have HZ4 := Lib.hid z4
  have T4 := HT3.out.below b4 HT3.out.lt
  have P4 := HP3.out.below b4 HP3.out.top.lt
  have HT4 := Lib.hid T4
  have c0 : w4.cell? ⟨z + 2, 0, none⟩ = some (.pointer (some ⟨z, 0, none⟩)) := T4.cell (i := 0) (by omega)
  have N2 := Lib.hid (dv_new P4 b HB.out)
  clear x4 b4 z4 T4 P4 N1
  go_wp2_with fail
  refine N2.out.mono ?_
  rintro e w5 ⟨rfl, x5, b5, z5⟩
  have HX5 := Lib.hid x5
  have HB5 := Lib.hid b5
  have HZ5 := Lib.hid z5
  have T5 := HT4.out.below b5 HT4.out.lt
  have HT5 := Lib.hid T5
  have c1 : w5.cell? ⟨z + 2, 1, none⟩ = some (.pointer none) := T5.cell (i := 1) (by omega)
  have c2 : w5.cell? ⟨z + 2, 2, none⟩ = some (.pointer none) := T5.cell (i := 2) (by omega)
  have f1 := T5.free 1
  have f2 := T5.free 2
  have f4 := T5.free 4
  have f5 := T5.free 5
  have c3 : w5.cell? ⟨z + 2, 3, none⟩ = some (.pointer (some ⟨z + 1, 0, none⟩)) := T5.cell (i := 3) (by omega)
  have c4 : w5.cell? ⟨z + 2, 4, none⟩ = some (.pointer none) := T5.cell (i := 4) (by omega)
  have c5 : w5.cell? ⟨z + 2, 5, none⟩ = some (.pointer none) := T5.cell (i := 5) (by omega)
  clear x5 b5 z5 T5 N2 c0
  go_wp2_with fail
  have T6 := (HT5.out.set 1 (.pointer (some ⟨w3.heap.size + 3, 0, none⟩))).set 2 (.pointer (some ⟨w4.heap.size + 3, 0, none⟩))
  have K6 := Lib.hid (keep_cells (keep_cells (Keeps.refl (fun j => j = z + 2) w5) rfl 1 (.pointer (some ⟨w3.heap.size + 3, 0, none⟩))) rfl 2 (.pointer (some ⟨w4.heap.size + 3, 0, none⟩)))
  have Z6 := Lib.hid (show ((w5.setCell ⟨z + 2, 1, none⟩ (.pointer (some ⟨w3.heap.size + 3, 0, none⟩))).setCell ⟨z + 2, 2, none⟩ (.pointer (some ⟨w4.heap.size + 3, 0, none⟩))).heap.size = w5.heap.size by rw [World.size_setCell, World.size_setCell])
  generalize ((w5.setCell ⟨z + 2, 1, none⟩ (.pointer (some ⟨w3.heap.size + 3, 0, none⟩))).setCell ⟨z + 2, 2, none⟩ (.pointer (some ⟨w4.heap.size + 3, 0, none⟩))) = w6 at *
  have HT6 := Lib.hid T6
  clear c1 c2 c3 c4 c5 f1 f2 f4 f5
  have c3 : w6.cell? ⟨z + 2, 3, none⟩ = some (.pointer (some ⟨z + 1, 0, none⟩)) := T6.cell (i := 3) (by omega)
  have NR := Lib.hid (show Calls Try.prog 30 #[.int .i64 (a : Int), .pointer (some ⟨z + 1, 0, none⟩)] w6.drew fun e w' => e = .returned (.pointer (some ⟨w6.heap.size + 1, 0, none⟩)) ∧ RvO (w6.heap.size + 1) (z + 1) (newD a) (New w6 w') w' ∧ Below w6.heap.size w6.drew w' from rv_new w6.drew a HA.out)
  clear T6
  go_region_held3 (fun w' => w'.cell? ⟨z + 2, 3, none⟩ = some (.pointer (some ⟨z + 1, 0, none⟩))) (first | go_keep | exact y7 | exact y8)
    (first
      | (go_at_call 30; (with_reducible refine NR.out.mono ?_); rintro e w7 ⟨rfl, r7, b7⟩; have HR7 := Lib.hid r7; have HB7 := Lib.hid b7; have HT7 := Lib.hid (Arr.below (w := w6.drew) (HT6.out.drewN 1) b7 HT6.out.lt); have y7 : w7.cell? ⟨z + 2, 3, none⟩ = some (.pointer (some ⟨z + 1, 0, none⟩)) := HT7.out.cell (i := 3) (by omega); have y4 : w7.cell? ⟨z + 2, 4, none⟩ = some (.pointer none) := HT7.out.cell (i := 4) (by omega); have g4 := HT7.out.free 4; have y8 : (w7.setCell ⟨z + 2, 4, none⟩ (.pointer (some ⟨w6.heap.size + 1, 0, none⟩))).cell? ⟨z + 2, 3, none⟩ = some (.pointer (some ⟨z + 1, 0, none⟩)) := (HT7.out.set 4 _).cell (i := 3) (by omega); clear r7 b7))
  have T8 := HT7.out.set 4 (.pointer (some ⟨w6.heap.size + 1, 0, none⟩))
  have K8 := Lib.hid (keep_cell w7 (z + 2) 4 (.pointer (some ⟨w6.heap.size + 1, 0, none⟩)))
  have Z8 := Lib.hid (World.size_setCell w7 ⟨z + 2, 4, none⟩ (.pointer (some ⟨w6.heap.size + 1, 0, none⟩)))
  clear y7 y4 g4 y8 c3 NR
  generalize w7.setCell ⟨z + 2, 4, none⟩ (.pointer (some ⟨w6.heap.size + 1, 0, none⟩)) = w8 at *
  have HT8 := Lib.hid T8
  have c3 : w8.cell? ⟨z + 2, 3, none⟩ = some (.pointer (some ⟨z + 1, 0, none⟩)) := T8.cell (i := 3) (by omega)
  have NR := Lib.hid (show Calls Try.prog 30 #[.int .i64 (b : Int), .pointer (some ⟨z + 1, 0, none⟩)] w8.drew fun e w' => e = .returned (.pointer (some ⟨w8.heap.size + 1, 0, none⟩)) ∧ RvO (w8.heap.size + 1) (z + 1) (newD b) (New w8 w') w' ∧ Below w8.heap.size w8.drew w' from rv_new w8.drew b HB.out)
  clear T8
  go_wp2_with fail
  go_region_held3 (fun w' => w'.cell? ⟨z + 2, 3, none⟩ = some (.pointer (some ⟨z + 1, 0, none⟩))) (first | go_keep | exact y9 | exact y10)
    (first
      | (go_at_call 30; (with_reducible refine NR.out.mono ?_); rintro e w9 ⟨rfl, r9, b9⟩; have HR9 := Lib.hid r9; have HB9 := Lib.hid b9; have HT9 := Lib.hid (Arr.below (w := w8.drew) (HT8.out.drewN 1) b9 HT8.out.lt); have y9 : w9.cell? ⟨z + 2, 3, none⟩ = some (.pointer (some ⟨z + 1, 0, none⟩)) := HT9.out.cell (i := 3) (by omega); have y5 : w9.cell? ⟨z + 2, 5, none⟩ = some (.pointer none) := HT9.out.cell (i := 5) (by omega); have g5 := HT9.out.free 5; have y10 : (w9.setCell ⟨z + 2, 5, none⟩ (.pointer (some ⟨w8.heap.size + 1, 0, none⟩))).cell? ⟨z + 2, 3, none⟩ = some (.pointer (some ⟨z + 1, 0, none⟩)) := (HT9.out.set 5 _).cell (i := 3) (by omega); clear r9 b9))
  have y0 : (w9.setCell ⟨z + 2, 5, none⟩ (.pointer (some ⟨w8.heap.size + 1, 0, none⟩))).cell? ⟨z + 2, 0, none⟩ = some (.pointer (some ⟨z, 0, none⟩)) := (HT9.out.set 5 _).cell (i := 0) (by omega)
  clear y9 y5 g5 y10 c3 NR
  go_wp2
  go_ret2
  refine ⟨z + 2, z, z + 1, fun k => if k = 0 then w3.heap.size + 3 else w4.heap.size + 3, fun k => if k = 0 then w6.heap.size + 1 else w8.heap.size + 1, rfl, ?_⟩
  exact rig_made HEZ.out HP3.out HQ3.out HB3.out HZ3.out HX4.out HB4.out HZ4.out HX5.out HB5.out HZ5.out K6.out Z6.out HR7.out HB7.out K8.out Z8.out HR9.out HB9.out (keep_cell w9 (z + 2) 5 _) (World.size_setCell _ _ _)
    ((HT9.out.set 5 _).congr (fun i hi => by
      have : i = 0 ∨ i = 1 ∨ i = 2 ∨ i = 3 ∨ i = 4 ∨ i = 5 := by omega
      rcases this with rfl | rfl | rfl | rfl | rfl | rfl <;> rfl))

end Go.Proofs.Ytlfeglnacphhlaa
