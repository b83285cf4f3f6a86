/- Settings by which nothing is reckoned: the reader of settings, and the statement's walk. -/
import Derived.Test.YtbgknopjgohocaaGreatKd
import Derived.Deep.MidRow
namespace Go.Proofs.YtbgknopjgohocaaGreat
open Go.RowKit Fl Go.Deep Go.ChangeShapes Go.WideShapes Go.ChangeAt
open Scan hiding isN
set_option linter.unusedVariables false
set_option maxRecDepth 100000
set_option maxHeartbeats 2000000

theorem trod_float {H : Type} {enc : TypeId × Value → H} {P : Program} {w : World} {base fuel : Nat} {spare : Nat → Bool} {held : Bool} {t : TypeId} {cs : List Value} {x : DataW H × List MemPlace} {k : FloatKind} (ht : P.underlying t = some (.float k)) (h : DataW.trod enc P w base spare held fuel t cs = some x) : ∃ n, cs = [.float k n] ∧ x = (.lit (.float k n), []) ∧ (Lit.float k n).wf = true := by
  cases fuel with
  | zero => simp [DataW.trod] at h
  | succ n =>
    unfold DataW.trod at h
    rw [ht] at h
    split at h <;> simp_all
theorem cellsConf : Tryz.prog.cellsOf 28 = 10 := by kernel_rfl
theorem cellsI64W : Tryz.prog.cellsOf 3 = 1 := by kernel_rfl
theorem cellsF64W : Tryz.prog.cellsOf 26 = 1 := by kernel_rfl
theorem conf_of {H : Type} {enc : TypeId × Value → H} {W : World} {sp : Nat → Bool} {held : Bool} {v : Value} {d : DataW H} {p : List MemPlace} {r : Reach} {b0 : Nat} (hv : Value.okWide Tryz.prog W r b0 28 v) (h : DataW.Trod enc Tryz.prog W 0 sp held 28 v d p) :
    ∃ c : CF, v = .agg c.cs ∧ CFB c := by
  obtain ⟨cs, rfl, hsz⟩ := okWide_struct Tryz.underlying28 hv
  rw [cellsConf] at hsz
  obtain ⟨c0, c1, c2, c3, c4, c5, c6, c7, c8, c9, rfl⟩ := array10 hsz
  obtain ⟨fuel, hf⟩ := h
  obtain ⟨xs, k, hk, hxy, _, hxl, hfd⟩ := DataW.trod_struct Tryz.underlying28 hf
  have g0 := hfd 0 _ rfl
  have g1 := hfd 1 _ rfl
  have g2 := hfd 2 _ rfl
  have g3 := hfd 3 _ rfl
  have g4 := hfd 4 _ rfl
  have g5 := hfd 5 _ rfl
  have g6 := hfd 6 _ rfl
  have g7 := hfd 7 _ rfl
  have g8 := hfd 8 _ rfl
  have g9 := hfd 9 _ rfl
  match xs, hxl with
  | [y0, y1, y2, y3, y4, y5, y6, y7, y8, y9], _ =>
    simp [cellsI64W, cellsU64W, cellsF64W, Value.cells] at g0 g1 g2 g3 g4 g5 g6 g7 g8 g9
    obtain ⟨z0, e0, -, f0⟩ := DataW.trod_int Tryz.underlying3 g0
    obtain ⟨z1, e1, -, f1⟩ := DataW.trod_int Tryz.underlying3 g1
    obtain ⟨z2, e2, -, f2⟩ := DataW.trod_int Tryz.underlying3 g2
    obtain ⟨z3, e3, -, f3⟩ := DataW.trod_int Tryz.underlying3 g3
    obtain ⟨z4, e4, -, f4⟩ := DataW.trod_int Tryz.underlying3 g4
    obtain ⟨z5, e5, -, f5⟩ := DataW.trod_int Tryz.underlying22 g5
    obtain ⟨z6, e6, -, f6⟩ := trod_float Tryz.underlying26 g6
    obtain ⟨z7, e7, -, f7⟩ := trod_float Tryz.underlying26 g7
    obtain ⟨z8, e8, -, f8⟩ := trod_float Tryz.underlying26 g8
    obtain ⟨z9, e9, -, f9⟩ := DataW.trod_int Tryz.underlying3 g9
    simp at e0 e1 e2 e3 e4 e5 e6 e7 e8 e9
    subst e0 e1 e2 e3 e4 e5 e6 e7 e8 e9
    have h5 := bounds_u64 f5
    exact ⟨⟨z0, z1, z2, z3, z4, z5, z6, z7, z8, z9⟩, rfl, ⟨h5.1, h5.2, by simpa [Lit.wf] using f6, by simpa [Lit.wf] using f7, by simpa [Lit.wf] using f8⟩⟩

/-- The first read of a trace is no hit. -/
theorem first_no (r : RC) (z : Nat → Int) : hitsL (goR r z 1).1 = [] := by
  have e : (readR r rv0 (z 0)).1 = false := by
    unfold readR
    split
    · rfl
    · rw [if_neg (fun h => h rfl)]
      split <;> rfl
  show hitsL ([] ++ [(readR r rv0 (z 0)).1]) = []
  rw [e]
  rfl
theorem row1_at (w1 : World) (x : Int) (hx : i64 x) : RdZ2 (w1.alloc (.cells #[.int .i64 x] 3)) (some ⟨w1.heap.size, 0, none⟩) 1 (fun _ => x) := fun _ => by
  refine ⟨w1.heap.size, 0, rfl, by simp, fun i hi => ?_⟩
  have : i = 0 := by omega
  subst this
  rw [blk_cell' (heap_at w1 (.cells #[.int .i64 x] 3) _ rfl)]
  exact ⟨rfl, hx⟩
theorem box_conf (w : World) (c : CF) : BX (w.alloc (.cells c.cs 28)) w.heap.size c := by
  have h := blk_cell' (heap_at w (.cells c.cs 28) _ rfl)
  exact ⟨h 0, h 1, h 2, h 3, h 4, h 5, h 6, h 7, h 8, h 9⟩

theorem traceMakes_no (c : CF) (B : CFB c) (hm : c.may = false) (lba : Int) (w : World) :
    Calls Tryz.prog 4 #[.agg c.cs, .int .i64 lba] w fun e w' => e = .returned (.bool true) ∧ Below w.heap.size w w' := by
  have BX0 := Lib.hid (box_conf w c)
  have MY0 := Lib.hid (fun W => may_any c W)
  rw [hm] at MY0
  obtain ⟨k0, k1, k2, k3, k4, k5, k6, k7, k8, k9⟩ := c
  have MY := Lib.hid (fun W => show Calls Tryz.prog 14 #[.agg #[.int .i64 k0, .int .i64 k1, .int .i64 k2, .int .i64 k3, .int .i64 k4, .int .u64 k5, .float .f64 k6, .float .f64 k7, .float .f64 k8, .int .i64 k9]] W (fun e w' => e = .returned (.bool false) ∧ Below W.heap.size W w') from MY0.out W)
  have RN := Lib.hid (fun (aa : Option Addr) (nn cc : Nat) (W : World) => show Calls Tryz.prog 9 #[.agg #[.int .i64 k0, .int .i64 k1, .int .i64 k2, .int .i64 k3, .int .i64 k4, .int .u64 k5, .float .f64 k6, .float .f64 k7, .float .f64 k8, .int .i64 k9], .slice aa nn cc] W (fun e w' => e = .returned (.tuple #[.agg #[.int .i64 0, .int .i64 0, .int .i64 0, .int .i64 0, .int .i64 0, .int .i64 0, .int .i64 0, .int .i64 0, .int .i64 0, .int .i64 0, .int .i64 0, .int .i64 0, .int .i64 0, .int .i64 0], .int .i64 100]) ∧ Below W.heap.size W w') from tr_run_no ⟨k0, k1, k2, k3, k4, k5, k6, k7, k8, k9⟩ hm aa nn cc W)
  have HN := Lib.hid (fun (aa : Option Addr) (nn cc : Nat) (W : World) => show Calls Tryz.prog 8 #[.agg #[.int .i64 k0, .int .i64 k1, .int .i64 k2, .int .i64 k3, .int .i64 k4, .int .u64 k5, .float .f64 k6, .float .f64 k7, .float .f64 k8, .int .i64 k9], .slice aa nn cc] W (fun e w' => e = .returned (.tuple #[.slice none 0 0, .int .i64 100]) ∧ Below W.heap.size W w') from tr_hits_no ⟨k0, k1, k2, k3, k4, k5, k6, k7, k8, k9⟩ hm aa nn cc W)
  have KN := Lib.hid (fun (aa : Option Addr) (nn cc : Nat) (W : World) => show Calls Tryz.prog 13 #[.agg #[.int .i64 k0, .int .i64 k1, .int .i64 k2, .int .i64 k3, .int .i64 k4, .int .u64 k5, .float .f64 k6, .float .f64 k7, .float .f64 k8, .int .i64 k9], .slice aa nn cc] W (fun e w' => e = .returned (.tuple #[.slice none 0 0, .int .i64 100]) ∧ Below W.heap.size W w') from tr_kept_no ⟨k0, k1, k2, k3, k4, k5, k6, k7, k8, k9⟩ hm aa nn cc W)
  have WN := Lib.hid (fun (aa : Option Addr) (nn cc : Nat) (W : World) => show Calls Tryz.prog 10 #[.agg #[.int .i64 k0, .int .i64 k1, .int .i64 k2, .int .i64 k3, .int .i64 k4, .int .u64 k5, .float .f64 k6, .float .f64 k7, .float .f64 k8, .int .i64 k9], .slice aa nn cc] W (fun e w' => e = .returned (.tuple #[.slice none 0 0, .int .i64 100]) ∧ Below W.heap.size W w') from tr_wear_no ⟨k0, k1, k2, k3, k4, k5, k6, k7, k8, k9⟩ hm aa nn cc W)
  have AW := Lib.hid (fun W => awake36 W)
  have EQ : ∀ W : World, (binOp .eql 35 (.agg #[.int .i64 0, .int .i64 0, .int .i64 0, .int .i64 0, .int .i64 0, .int .i64 0, .int .i64 0, .int .i64 0, .int .i64 0, .int .i64 0, .int .i64 0, .int .i64 0, .int .i64 0, .int .i64 0]) (.agg #[.int .i64 0, .int .i64 0, .int .i64 0, .int .i64 0, .int .i64 0, .int .i64 0, .int .i64 0, .int .i64 0, .int .i64 0, .int .i64 0, .int .i64 0, .int .i64 0, .int .i64 0, .int .i64 0])).run Tryz.prog W = .ok (.bool true) W := fun W => by kernel_rfl
  clear MY0 hm B
  change Calls Tryz.prog 4 #[.agg #[.int .i64 k0, .int .i64 k1, .int .i64 k2, .int .i64 k3, .int .i64 k4, .int .u64 k5, .float .f64 k6, .float .f64 k7, .float .f64 k8, .int .i64 k9], .int .i64 lba] w _
  obtain ⟨w1, hw1⟩ : ∃ w1, w.alloc (.cells #[.int .i64 k0, .int .i64 k1, .int .i64 k2, .int .i64 k3, .int .i64 k4, .int .u64 k5, .float .f64 k6, .float .f64 k7, .float .f64 k8, .int .i64 k9] 28) = w1 := ⟨_, rfl⟩
  have B1 := Lib.hid (show Below w.heap.size w w1 by rw [← hw1]; exact (Below.refl _ w).alloc (Nat.le_refl _) _)
  have s1 : w.heap.size < w1.heap.size := by rw [← hw1]; simp
  have BXC := Lib.hid (fun W (k : Below w1.heap.size w1 W) => BX.below (c := ⟨k0, k1, k2, k3, k4, k5, k6, k7, k8, k9⟩) (b := w.heap.size) (hw1 ▸ BX0.out) k s1)
  clear BX0
  obtain ⟨x0, x1, x2, x3, x4, x5, x6, x7, x8, x9⟩ := BXC.out _ (Below.refl _ _)
  have RNL := Lib.hid (fun W (k : Below w1.heap.size w1 W) => ((Below.refl W.heap.size W).alloc (Nat.le_refl _) (.cells #[.int .i64 lba] 3)))
  go_enter Tryz.func4, Tryz.ntmps4
  go_wp2_with fail
  clear hw1
  clear x0 x1 x2 x3 x4 x5 x6 x7 x8 x9
  refine (RN.out _ _ _ _).mono ?_
  rintro e w2 ⟨rfl, b2⟩
  have B2 := Lib.hid (((Below.refl w1.heap.size w1).alloc (Nat.le_refl _) (.cells #[.int .i64 lba] 3)).trans (b2.mono (by simp)))
  have TH0 := Lib.hid (heap_at w2 tlZ _ rfl)
  have TH := Lib.hid (tl_there TH0.out)
  clear b2
  go_wp2_with (
    refine wpList_store_mid rfl 35 (.tmp 5) (.tmp 18) rfl w2.heap.size 0 #[.int .i64 0, .int .i64 0, .int .i64 0, .int .i64 0, .int .i64 0, .int .i64 0, .int .i64 0, .int .i64 0, .int .i64 0, .int .i64 0, .int .i64 0, .int .i64 0, .int .i64 0, .int .i64 0] rfl rfl TH.out (by kernel_rfl) (by simp [Value.oneCell']) ?_
    obtain ⟨w3, hw3, FC, KC⟩ := tl_put TH0.out (.int .i64 0) (.int .i64 0) (.int .i64 0) (.int .i64 0) (.int .i64 0) (.int .i64 0)
    rw [hw3]
    have b3 := Lib.hid ((((Keeps.of_below ((Below.refl w2.heap.size w2).alloc (Nat.le_refl _) tlZ)).trans KC (fun j (hj : j = w2.heap.size) => .inl (by omega))).below (Nat.le_refl _)))
    have B3 := Lib.hid (B2.out.trans (b3.out.mono B2.out.size))
    have FC := Lib.hid FC
    clear hw3 TH TH0 KC
    obtain ⟨x0, x1, x2, x3, x4, x5, x6, x7, x8, x9⟩ := BXC.out _ B3.out)
  clear x0 x1 x2 x3 x4 x5 x6 x7 x8 x9
  refine (HN.out _ _ _ _).mono ?_
  rintro e w4 ⟨rfl, b4⟩
  have bb4 := Lib.hid (((Below.refl w3.heap.size w3).alloc (Nat.le_refl _) (.cells #[.int .i64 lba] 3)).trans (b4.mono (by simp)))
  have B4 := Lib.hid (B3.out.trans (bb4.out.mono B3.out.size))
  clear b4
  obtain ⟨x0, x1, x2, x3, x4, x5, x6, x7, x8, x9⟩ := BXC.out _ B4.out
  go_wp2_with fail
  clear x0 x1 x2 x3 x4 x5 x6 x7 x8 x9
  refine (KN.out _ _ _ _).mono ?_
  rintro e w5 ⟨rfl, b5⟩
  have bb5 := Lib.hid (bb4.out.trans ((((Below.refl w4.heap.size w4).alloc (Nat.le_refl _) (.cells #[.int .i64 lba] 3)).trans (b5.mono (by simp))).mono bb4.out.size))
  have B5 := Lib.hid (B3.out.trans (bb5.out.mono B3.out.size))
  clear b5
  obtain ⟨x0, x1, x2, x3, x4, x5, x6, x7, x8, x9⟩ := BXC.out _ B5.out
  go_wp2_with fail
  clear x0 x1 x2 x3 x4 x5 x6 x7 x8 x9
  refine (WN.out _ _ _ _).mono ?_
  rintro e w6 ⟨rfl, b6⟩
  have bb6 := Lib.hid (bb5.out.trans ((((Below.refl w5.heap.size w5).alloc (Nat.le_refl _) (.cells #[.int .i64 lba] 3)).trans (b6.mono (by simp))).mono bb5.out.size))
  have B6 := Lib.hid (B3.out.trans (bb6.out.mono B3.out.size))
  clear b6
  obtain ⟨x0, x1, x2, x3, x4, x5, x6, x7, x8, x9⟩ := BXC.out _ B6.out
  go_wp2_with fail
  clear x0 x1 x2 x3 x4 x5 x6 x7 x8 x9
  refine (MY.out _).mono ?_
  rintro e w7 ⟨rfl, b7⟩
  have bb7 := Lib.hid (bb6.out.trans (b7.mono bb6.out.size))
  have B7 := Lib.hid (B3.out.trans (bb7.out.mono B3.out.size))
  clear b7
  obtain ⟨c0, c1, c2, c3, c4, c5, c6, c7, c8, c9, c10, c11, c12, c13⟩ := FC.out
  have e0 := (bb7.out.cell (World.block_lt_of_cell? _ _ c0)).trans c0
  have e1 := (bb7.out.cell (World.block_lt_of_cell? _ _ c1)).trans c1
  have e2 := (bb7.out.cell (World.block_lt_of_cell? _ _ c2)).trans c2
  have e3 := (bb7.out.cell (World.block_lt_of_cell? _ _ c3)).trans c3
  have e4 := (bb7.out.cell (World.block_lt_of_cell? _ _ c4)).trans c4
  have e5 := (bb7.out.cell (World.block_lt_of_cell? _ _ c5)).trans c5
  have e6 := (bb7.out.cell (World.block_lt_of_cell? _ _ c6)).trans c6
  have e7 := (bb7.out.cell (World.block_lt_of_cell? _ _ c7)).trans c7
  have e8 := (bb7.out.cell (World.block_lt_of_cell? _ _ c8)).trans c8
  have e9 := (bb7.out.cell (World.block_lt_of_cell? _ _ c9)).trans c9
  have e10 := (bb7.out.cell (World.block_lt_of_cell? _ _ c10)).trans c10
  have e11 := (bb7.out.cell (World.block_lt_of_cell? _ _ c11)).trans c11
  have e12 := (bb7.out.cell (World.block_lt_of_cell? _ _ c12)).trans c12
  have e13 := (bb7.out.cell (World.block_lt_of_cell? _ _ c13)).trans c13
  clear c0 c1 c2 c3 c4 c5 c6 c7 c8 c9 c10 c11 c12 c13
  go_wp2_with fail
  refine (AW.out _).mono ?_
  rintro e w8 ⟨rfl, b8⟩
  have B8 := Lib.hid (B1.out.trans ((B7.out.trans (b8.mono B7.out.size)).mono B1.out.size))
  clear b8
  go_wp2
  go_ret
  exact ⟨rfl, B8.out⟩

theorem traceMakes_yes (c : CF) (B : CFB c) (hm : c.may = true) (lba : Int) (hx : i64 lba) (w : World) :
    Calls Tryz.prog 4 #[.agg c.cs, .int .i64 lba] w fun e w' => e = .returned (.bool true) ∧ Below w.heap.size w w' := by
  have BX0 := Lib.hid (box_conf w c)
  have MY0 := Lib.hid (fun W => may_any c W)
  rw [hm] at MY0
  have MA := may_all hm
  obtain ⟨k0, k1, k2, k3, k4, k5, k6, k7, k8, k9⟩ := c
  obtain ⟨r, hr⟩ : ∃ r, rcOf ⟨k0, k1, k2, k3, k4, k5, k6, k7, k8, k9⟩ = r := ⟨_, rfl⟩
  have RR : (r.c.n : Int) = k1 := by
    rw [← hr]
    show (((k1).toNat : Nat) : Int) = k1
    have := MA.2.1.1; simp only at this; omega
  have R1 := Lib.hid (fun W => row1_at W lba hx)
  have MY := Lib.hid (fun W => show Calls Tryz.prog 14 #[.agg #[.int .i64 k0, .int .i64 k1, .int .i64 k2, .int .i64 k3, .int .i64 k4, .int .u64 k5, .float .f64 k6, .float .f64 k7, .float .f64 k8, .int .i64 k9]] W (fun e w' => e = .returned (.bool true) ∧ Below W.heap.size W w') from MY0.out W)
  have RN := Lib.hid (fun (aa : Option Addr) (W : World) (h0 : RdZ2 W aa 1 (fun _ => lba)) => show Calls Tryz.prog 9 #[.agg #[.int .i64 k0, .int .i64 k1, .int .i64 k2, .int .i64 k3, .int .i64 k4, .int .u64 k5, .float .f64 k6, .float .f64 k7, .float .f64 k8, .int .i64 k9], .slice aa 1 1] W (fun e w' => ∃ T : TL, e = .returned (.tuple #[.agg #[.int .i64 (T.hits : Int), .int .i64 (T.misses : Int), .int .i64 (T.byps : Int), .int .i64 (T.fills : Int), .int .i64 (T.evic : Int), .int .i64 0, .int .i64 0, .int .i64 0, .int .i64 0, .int .i64 0, .int .i64 0, .int .i64 0, .int .i64 (T.filled : Int), .int .i64 0], .int .i64 0]) ∧ Below W.heap.size W w') from
    (tr_run ⟨k0, k1, k2, k3, k4, k5, k6, k7, k8, k9⟩ B hm aa 1 1 (fun _ => lba) W h0 (by omega) (by omega) (by omega)).mono (fun e w' ⟨he, _, hb⟩ => ⟨_, he, hb⟩))
  have HN := Lib.hid (fun (aa : Option Addr) (W : World) (h0 : RdZ2 W aa 1 (fun _ => lba)) => show Calls Tryz.prog 8 #[.agg #[.int .i64 k0, .int .i64 k1, .int .i64 k2, .int .i64 k3, .int .i64 k4, .int .u64 k5, .float .f64 k6, .float .f64 k7, .float .f64 k8, .int .i64 k9], .slice aa 1 1] W (fun e w' => ∃ A cc, e = .returned (.tuple #[.slice A 0 cc, .int .i64 0]) ∧ Below W.heap.size W w') from
    (tr_hits ⟨k0, k1, k2, k3, k4, k5, k6, k7, k8, k9⟩ B hm aa 1 1 (fun _ => lba) W h0 (by omega) (by omega) (by omega)).mono (fun e w' ⟨v, he, ho, _, _, hb⟩ => by
      rw [first_no] at ho
      obtain ⟨A, cc, rfl⟩ := own_slice ho
      exact ⟨A, cc, he, hb⟩))
  have KN := Lib.hid (fun (aa : Option Addr) (W : World) (h0 : RdZ2 W aa 1 (fun _ => lba)) => show Calls Tryz.prog 13 #[.agg #[.int .i64 k0, .int .i64 k1, .int .i64 k2, .int .i64 k3, .int .i64 k4, .int .u64 k5, .float .f64 k6, .float .f64 k7, .float .f64 k8, .int .i64 k9], .slice aa 1 1] W (fun e w' => ∃ A nn cc, e = .returned (.tuple #[.slice A nn cc, .int .i64 0]) ∧ Below W.heap.size W w') from
    (tr_kept ⟨k0, k1, k2, k3, k4, k5, k6, k7, k8, k9⟩ B hm aa 1 1 (fun _ => lba) W h0 (by omega) (by omega) (by omega)).mono (fun e w' ⟨v, he, ho, _, hb⟩ => by
      obtain ⟨A, cc, rfl⟩ := own_slice ho
      exact ⟨A, _, cc, he, hb⟩))
  have WN := Lib.hid (fun (aa : Option Addr) (W : World) (h0 : RdZ2 W aa 1 (fun _ => lba)) => show Calls Tryz.prog 10 #[.agg #[.int .i64 k0, .int .i64 k1, .int .i64 k2, .int .i64 k3, .int .i64 k4, .int .u64 k5, .float .f64 k6, .float .f64 k7, .float .f64 k8, .int .i64 k9], .slice aa 1 1] W (fun e w' => ∃ g, e = .returned (.tuple #[.slice (some ⟨g, 0, none⟩) r.c.n r.c.n, .int .i64 0]) ∧ Below W.heap.size W w') from
    (tr_wear ⟨k0, k1, k2, k3, k4, k5, k6, k7, k8, k9⟩ B hm aa 1 1 (fun _ => lba) W h0 (by omega) (by omega) (by omega)).mono (fun e w' ⟨g, he, _, _, _, hb⟩ => by
      rw [hr] at he
      exact ⟨g, he, hb⟩))
  have AW := Lib.hid (fun W => awake36 W)
  have q6 : ((r.c.n : Int) == k1) = true := beq_iff_eq.2 RR
  clear MY0 hm B MA RR hr
  generalize r.c.n = rn at *
  change Calls Tryz.prog 4 #[.agg #[.int .i64 k0, .int .i64 k1, .int .i64 k2, .int .i64 k3, .int .i64 k4, .int .u64 k5, .float .f64 k6, .float .f64 k7, .float .f64 k8, .int .i64 k9], .int .i64 lba] w _
  obtain ⟨w1, hw1⟩ : ∃ w1, w.alloc (.cells #[.int .i64 k0, .int .i64 k1, .int .i64 k2, .int .i64 k3, .int .i64 k4, .int .u64 k5, .float .f64 k6, .float .f64 k7, .float .f64 k8, .int .i64 k9] 28) = w1 := ⟨_, rfl⟩
  have B1 := Lib.hid (show Below w.heap.size w w1 by rw [← hw1]; exact (Below.refl _ w).alloc (Nat.le_refl _) _)
  have s1 : w.heap.size < w1.heap.size := by rw [← hw1]; simp
  have BXC := Lib.hid (fun W (k : Below w1.heap.size w1 W) => BX.below (c := ⟨k0, k1, k2, k3, k4, k5, k6, k7, k8, k9⟩) (b := w.heap.size) (hw1 ▸ BX0.out) k s1)
  clear BX0
  obtain ⟨x0, x1, x2, x3, x4, x5, x6, x7, x8, x9⟩ := BXC.out _ (Below.refl _ _)
  go_enter Tryz.func4, Tryz.ntmps4
  go_wp2_with fail
  clear hw1
  clear x0 x1 x2 x3 x4 x5 x6 x7 x8 x9
  refine (RN.out _ _ (R1.out _)).mono ?_
  rintro e w2 ⟨T, rfl, b2⟩
  have B2 := Lib.hid (((Below.refl w1.heap.size w1).alloc (Nat.le_refl _) (.cells #[.int .i64 lba] 3)).trans (b2.mono (by simp)))
  have TH0 := Lib.hid (heap_at w2 tlZ _ rfl)
  have TH := Lib.hid (tl_there TH0.out)
  clear b2
  go_wp2_with (
    refine wpList_store_mid rfl 35 (.tmp 5) (.tmp 18) rfl w2.heap.size 0 #[.int .i64 (T.hits : Int), .int .i64 (T.misses : Int), .int .i64 (T.byps : Int), .int .i64 (T.fills : Int), .int .i64 (T.evic : Int), .int .i64 0, .int .i64 0, .int .i64 0, .int .i64 0, .int .i64 0, .int .i64 0, .int .i64 0, .int .i64 (T.filled : Int), .int .i64 0] rfl rfl TH.out (by kernel_rfl) (by simp [Value.oneCell']) ?_
    obtain ⟨w3, hw3, FC, KC⟩ := tl_put TH0.out (.int .i64 (T.hits : Int)) (.int .i64 (T.misses : Int)) (.int .i64 (T.byps : Int)) (.int .i64 (T.fills : Int)) (.int .i64 (T.evic : Int)) (.int .i64 (T.filled : Int))
    rw [hw3]
    have b3 := Lib.hid ((((Keeps.of_below ((Below.refl w2.heap.size w2).alloc (Nat.le_refl _) tlZ)).trans KC (fun j (hj : j = w2.heap.size) => .inl (by omega))).below (Nat.le_refl _)))
    have B3 := Lib.hid (B2.out.trans (b3.out.mono B2.out.size))
    clear hw3 TH TH0 KC FC
    obtain ⟨x0, x1, x2, x3, x4, x5, x6, x7, x8, x9⟩ := BXC.out _ B3.out)
  clear x0 x1 x2 x3 x4 x5 x6 x7 x8 x9
  refine (HN.out _ _ (R1.out _)).mono ?_
  rintro e w4 ⟨A4, c4, rfl, b4⟩
  have bb4 := Lib.hid (((Below.refl w3.heap.size w3).alloc (Nat.le_refl _) (.cells #[.int .i64 lba] 3)).trans (b4.mono (by simp)))
  have B4 := Lib.hid (B3.out.trans (bb4.out.mono B3.out.size))
  clear b4
  obtain ⟨x0, x1, x2, x3, x4, x5, x6, x7, x8, x9⟩ := BXC.out _ B4.out
  go_wp2_with fail
  clear x0 x1 x2 x3 x4 x5 x6 x7 x8 x9
  refine (KN.out _ _ (R1.out _)).mono ?_
  rintro e w5 ⟨A5, n5, c5, rfl, b5⟩
  have bb5 := Lib.hid (bb4.out.trans ((((Below.refl w4.heap.size w4).alloc (Nat.le_refl _) (.cells #[.int .i64 lba] 3)).trans (b5.mono (by simp))).mono bb4.out.size))
  have B5 := Lib.hid (B3.out.trans (bb5.out.mono B3.out.size))
  clear b5
  obtain ⟨x0, x1, x2, x3, x4, x5, x6, x7, x8, x9⟩ := BXC.out _ B5.out
  go_wp2_with fail
  clear x0 x1 x2 x3 x4 x5 x6 x7 x8 x9
  refine (WN.out _ _ (R1.out _)).mono ?_
  rintro e w6 ⟨g6, rfl, b6⟩
  have bb6 := Lib.hid (bb5.out.trans ((((Below.refl w5.heap.size w5).alloc (Nat.le_refl _) (.cells #[.int .i64 lba] 3)).trans (b6.mono (by simp))).mono bb5.out.size))
  have B6 := Lib.hid (B3.out.trans (bb6.out.mono B3.out.size))
  clear b6
  obtain ⟨x0, x1, x2, x3, x4, x5, x6, x7, x8, x9⟩ := BXC.out _ B6.out
  go_wp2_with fail
  clear x0 x1 x2 x3 x4 x5 x6 x7 x8 x9
  refine (MY.out _).mono ?_
  rintro e w7 ⟨rfl, b7⟩
  have bb7 := Lib.hid (bb6.out.trans (b7.mono bb6.out.size))
  have B7 := Lib.hid (B3.out.trans (bb7.out.mono B3.out.size))
  clear b7
  obtain ⟨x0, x1, x2, x3, x4, x5, x6, x7, x8, x9⟩ := BXC.out _ B7.out
  go_wp2_with fail
  refine (AW.out _).mono ?_
  rintro e w8 ⟨rfl, b8⟩
  have B8 := Lib.hid (B1.out.trans ((B7.out.trans (b8.mono B7.out.size)).mono B1.out.size))
  clear b8
  go_wp2
  go_ret
  exact ⟨rfl, B8.out⟩

theorem traceMakes_walk (c : CF) (B : CFB c) (lba : Int) (h1 : -9223372036854775808 ≤ lba) (h2 : lba ≤ 9223372036854775807) (w : World) :
    Calls Tryz.prog 4 #[.agg c.cs, .int .i64 lba] w fun e w' => e = .returned (.bool true) ∧ Below w.heap.size w w' := by
  cases hm : c.may
  · exact traceMakes_no c B hm lba w
  · exact traceMakes_yes c B hm lba ⟨h1, h2⟩ w
end Go.Proofs.YtbgknopjgohocaaGreat
