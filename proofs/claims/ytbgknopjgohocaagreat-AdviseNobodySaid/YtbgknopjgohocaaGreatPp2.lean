/- Places: Drop, Put of a block that is in no slot into a free one, Free, New. -/
import Derived.Test.YtbgknopjgohocaaGreatPp
import Derived.Test.YtbgknopjgohocaaGreatZI
namespace Go.Proofs.YtbgknopjgohocaaGreat
open Go.RowKit
set_option linter.unusedVariables false
set_option maxRecDepth 100000
set_option maxHeartbeats 2000000

section
variable {S : Nat → Prop} {w : World} {b sb wb nb ns N : Nat} {P : PLS} {m : Int}

theorem Pl.putSl (h : Pl w b sb wb nb ns N P m) {k : Nat} (hk : k < ns) (x : Int) (x0 : 0 ≤ x) (x1 : x ≤ nb) :
    Pl (((w.setCell ⟨sb, k * 3, none⟩ (.int .i64 x)).setCell ⟨sb, k * 3 + 1, none⟩ (.int .u64 (tgI x))).setCell ⟨sb, k * 3 + 2, none⟩ (.bool (suB x))) b sb wb nb ns N ⟨fun i => if i = k then x else P.sl i, P.wh⟩ m := by
  have n1 : b ≠ sb := h.top.ne h.sl (by decide)
  have n2 : wb ≠ sb := h.wh.ne h.sl (by decide)
  refine ⟨((h.top.far n1 _ _).far n1 _ _).far n1 _ _, (((h.sl.set _ _).set _ _).set _ _).congr (fun i hi => ?_), ((h.wh.far n2 _ _).far n2 _ _).far n2 _ _, { h.i with s0 := fun i hi => ?_, s1 := fun i hi => ?_ }⟩
  · by_cases e2 : i = k * 3 + 2
    · subst e2; rw [if_pos rfl, plsF2]; simp
    rw [if_neg e2]
    by_cases e1 : i = k * 3 + 1
    · subst e1; rw [if_pos rfl, plsF1]; simp
    rw [if_neg e1]
    by_cases e0 : i = k * 3
    · subst e0; rw [if_pos rfl, plsF0]; simp
    rw [if_neg e0]
    unfold plsF
    have : i / 3 ≠ k := by omega
    simp only [this, if_false]
  · show 0 ≤ (if i = k then x else P.sl i)
    split
    · exact x0
    · exact h.i.s0 i hi
  · show (if i = k then x else P.sl i) ≤ nb
    split
    · exact x1
    · exact h.i.s1 i hi
theorem Pl.putWh (h : Pl w b sb wb nb ns N P m) (l : Nat) (y : Int) (y0 : 0 ≤ y) (y1 : y ≤ ns) :
    Pl (w.setCell ⟨wb, l, none⟩ (.int .i64 y)) b sb wb nb ns N ⟨P.sl, fun i => if i = l then y else P.wh i⟩ m := by
  have n1 : b ≠ wb := h.top.ne h.wh (by decide)
  have n2 : sb ≠ wb := h.sl.ne h.wh (by decide)
  refine ⟨h.top.far n1 _ _, h.sl.far n2 _ _, (h.wh.set _ _).congr (fun i hi => ?_), { h.i with w0 := fun i hi => ?_, w1 := fun i hi => ?_ }⟩
  · show (if i = l then Value.int .i64 y else .int .i64 (P.wh i)) = .int .i64 (if i = l then y else P.wh i)
    split <;> rfl
  · show 0 ≤ (if i = l then y else P.wh i)
    split
    · exact y0
    · exact h.i.w0 i hi
  · show (if i = l then y else P.wh i) ≤ ns
    split
    · exact y1
    · exact h.i.w1 i hi
theorem Pl.putM (h : Pl w b sb wb nb ns N P m) (m' : Int) (N' : Nat) (h0 : -(N' : Int) ≤ m') (h1 : m' ≤ N') (hN : N' ≤ 1000000) :
    Pl (w.setCell ⟨b, 2, none⟩ (.int .i64 m')) b sb wb nb ns N' P m' := by
  have n1 : sb ≠ b := (h.top.ne h.sl (by decide)).symm
  have n2 : wb ≠ b := (h.top.ne h.wh (by decide)).symm
  refine ⟨(h.top.set _ _).congr (fun i hi => ?_), h.sl.far n1 _ _, h.wh.far n2 _ _, { h.i with m0 := h0, m1 := h1, N1 := hN }⟩
  have : i = 0 ∨ i = 1 ∨ i = 2 := by omega
  rcases this with rfl | rfl | rfl <;> rfl

/-- The drop of a slot that has a block. -/
theorem pl_drop1 (h : Pl w b sb wb nb ns N P m) (k : Nat) (hk : k < ns) (hx : P.sl k ≠ 0) (hN : N < 1000000) :
    Calls Tryz.prog 95 #[.pointer (some ⟨b, 0, none⟩), .int .i64 (k : Int)] w fun e w' => e = .returned (.tuple #[.int .i64 (P.sl k - 1), .bool true]) ∧ Pl w' b sb wb nb ns (N + 1) (dropS P k) (m - 1) ∧ Keeps (fun j => j = b ∨ j = sb ∨ j = wb) w w' := by
  have AT := Lib.hid (pl_at h k hk)
  have HP := Lib.hid h
  have HK := Lib.hid hk
  have ED := Lib.hid (show dropS P k = ⟨fun i => if i = k then 0 else P.sl i, fun i => if i = (P.sl k - 1).toNat then 0 else P.wh i⟩ by unfold dropS; rw [if_neg hx])
  have x0 := h.i.s0 k hk
  have x1 := h.i.s1 k hk
  obtain ⟨x, hX⟩ : ∃ x : Nat, P.sl k = (x : Int) + 1 := ⟨(P.sl k - 1).toNat, by omega⟩
  have HX := Lib.hid hX
  rw [hX] at AT ⊢
  have hxn : x < nb := by omega
  have hn : (ns : Int) ≤ 192 := by have := h.i.n1; omega
  have hb : (nb : Int) ≤ 512 := by have := h.i.b1; omega
  have hk1 : (k : Int) < (ns : Int) := by omega
  have hx1 : (x : Int) < (nb : Int) := by omega
  have hx9 : ((x : Int) + 1 == 0) = false := by simp; omega
  generalize tgI ((x : Int) + 1) = y at AT
  generalize suB ((x : Int) + 1) = z at AT
  clear h hk hx x0 x1 hX
  go_enter Tryz.func95, Tryz.ntmps95
  go_wp2_with fail
  refine AT.out.mono ?_
  rintro e w1 ⟨rfl, b1⟩
  have P1 := HP.out.below b1
  have c0 := P1.c0
  have l1 := P1.top.lt
  have l2 := P1.sl.lt
  have e0 := P1.k0 HK.out
  have e1 := P1.k1 HK.out
  have e2 := P1.k2 HK.out
  have f0 := P1.sl.free (k * 3)
  have f1 := P1.sl.free (k * 3 + 1)
  have f2 := P1.sl.free (k * 3 + 2)
  have BW := Lib.hid ((Below.refl w1.heap.size w1).alloc (Nat.le_refl _) (.cells #[.int .i64 ((x : Int) + 1), .int .u64 y, .bool z] 160))
  have B1 := Lib.hid b1
  have P2 := Lib.hid ((P1.putSl HK.out 0 (by omega) (by omega)).below ((Below.refl _ _).alloc (Nat.le_refl _) (.cells #[.int .i64 ((x : Int) + 1), .int .u64 y, .bool z] 160)))
  have hne : sb ≠ w1.heap.size := by omega
  clear b1
  go_wp2_with fail
  have E5 : Pl ((((w1.setCell ⟨sb, k * 3, none⟩ (.int .i64 0)).setCell ⟨sb, k * 3 + 1, none⟩ (.int .u64 0)).setCell ⟨sb, k * 3 + 2, none⟩ (.bool false)).alloc (.cells #[.int .i64 ((x : Int) + 1), .int .u64 y, .bool z] 160)) b sb wb nb ns N ⟨fun i => if i = k then 0 else P.sl i, P.wh⟩ m := P2.out
  have cx : (((((w1.setCell ⟨sb, k * 3, none⟩ (.int .i64 0)).setCell ⟨sb, k * 3 + 1, none⟩ (.int .u64 0)).setCell ⟨sb, k * 3 + 2, none⟩ (.bool false)).alloc (.cells #[.int .i64 ((x : Int) + 1), .int .u64 y, .bool z] 160))).cell? ⟨w1.heap.size, 0, none⟩ = some (.int .i64 ((x : Int) + 1)) := by
    rw [show w1.heap.size = (((w1.setCell ⟨sb, k * 3, none⟩ (.int .i64 0)).setCell ⟨sb, k * 3 + 1, none⟩ (.int .u64 0)).setCell ⟨sb, k * 3 + 2, none⟩ (.bool false)).heap.size from by rw [World.size_setCell, World.size_setCell, World.size_setCell]]
    exact blk_cell' (heap_at _ _ _ rfl) 0
  have K5 := Lib.hid ((((((Keeps.of_below B1.out).mono (T := fun j => j = b ∨ j = sb ∨ j = wb) (fun n hn x => absurd hn (Nat.not_lt.2 x))).setCell (p := ⟨sb, k * 3, none⟩) (.inl (.inr (.inl rfl))) (.int .i64 0)).setCell (p := ⟨sb, k * 3 + 1, none⟩) (.inl (.inr (.inl rfl))) (.int .u64 0)).setCell (p := ⟨sb, k * 3 + 2, none⟩) (.inl (.inr (.inl rfl))) (.bool false)).alloc (.cells #[.int .i64 ((x : Int) + 1), .int .u64 y, .bool z] 160))
  have z1 : b < w1.heap.size := l1
  have z2 : wb < w1.heap.size := P1.wh.lt
  generalize hw5 : ((((w1.setCell ⟨sb, k * 3, none⟩ (.int .i64 0)).setCell ⟨sb, k * 3 + 1, none⟩ (.int .u64 0)).setCell ⟨sb, k * 3 + 2, none⟩ (.bool false)).alloc (.cells #[.int .i64 ((x : Int) + 1), .int .u64 y, .bool z] 160)) = w5 at *
  have c1 := E5.c1
  have c2 := E5.c2
  have d0 := E5.w0 hxn
  have g0 := E5.wh.free x
  have g1 := E5.top.free 2
  have n2 : b ≠ wb := E5.top.ne E5.wh (by decide)
  have n3 : w1.heap.size ≠ b := by omega
  have n4 : w1.heap.size ≠ wb := by omega
  have m0 : -1000000 ≤ m := by have := E5.i.m0; have := E5.i.N1; omega
  have m1 : m ≤ 1000000 := by have := E5.i.m1; have := E5.i.N1; omega
  have E6 : Pl w5.drew b sb wb nb ns N ⟨fun i => if i = k then 0 else P.sl i, P.wh⟩ m := ⟨E5.top, E5.sl, E5.wh, E5.i⟩
  have FP := Lib.hid ((E6.putWh x 0 (Int.le_refl _) (by omega)).putM (m - 1) (N + 1) (by have := E5.i.m0; omega) (by have := E5.i.m1; omega) (by omega))
  have FK := Lib.hid ((K5.out.drew.setCell (p := ⟨wb, x, none⟩) (.inl (.inr (.inr rfl))) (.int .i64 0)).setCell (p := ⟨b, 2, none⟩) (.inl (.inl rfl)) (.int .i64 (m - 1)))
  clear E5 E6 P2 P1 hw5 c0 e0 e1 e2 f0 f1 f2 l1 l2 z1 z2 hne BW K5 B1
  have q1 : IntKind.i64.wrap ((x : Int) + 1 - 1) = (x : Int) := by rw [show (x : Int) + 1 - 1 = (x : Int) by omega]; exact IntWalk.i64_in _ (by omega)
  have q2 : IntKind.i64.wrap (x : Int) = (x : Int) := IntWalk.i64_in _ (by omega)
  go_still_tail 8, (by kernel_rfl)
  clear q1 q2
  change wpList _ _ _ _ _ w5.drew
  go_wp2
  go_ret2
  refine ⟨by simp, ?_, FK.out⟩
  rw [ED.out, HX.out]
  have : ((x : Int) + 1 - 1).toNat = x := by omega
  rw [this]
  exact FP.out

/-- The drop of a slot that has none. -/
theorem pl_drop0 (h : Pl w b sb wb nb ns N P m) (k : Nat) (hk : k < ns) (hx : P.sl k = 0) :
    Calls Tryz.prog 95 #[.pointer (some ⟨b, 0, none⟩), .int .i64 (k : Int)] w fun e w' => e = .returned (.tuple #[.int .i64 0, .bool false]) ∧ Below w.heap.size w w' := by
  have AT := pl_at h k hk
  rw [hx] at AT
  have AT := Lib.hid AT
  generalize tgI 0 = y at AT
  generalize suB 0 = z at AT
  clear h hk hx
  go_enter Tryz.func95, Tryz.ntmps95
  go_wp2_with fail
  refine AT.out.mono ?_
  rintro e w1 ⟨rfl, b1⟩
  have BW := Lib.hid (b1.trans (((Below.refl w1.heap.size w1).alloc (Nat.le_refl _) (.cells #[.int .i64 0, .int .u64 y, .bool z] 160)).mono b1.size))
  clear b1
  go_wp2
  go_ret2
  exact ⟨rfl, BW.out⟩

/-- A block that is in no slot comes into a free one. -/
theorem pl_put (h : Pl w b sb wb nb ns N P m) (k l : Nat) (hk : k < ns) (hl : l < nb) (hs : P.sl k = 0) (hw : P.wh l = 0) (hN : N < 1000000) :
    Calls Tryz.prog 68 #[.pointer (some ⟨b, 0, none⟩), .int .i64 (k : Int), .int .i64 (l : Int), .int .u64 1, .bool true] w fun e w' => e = .returned (.bool true) ∧ Pl w' b sb wb nb ns (N + 1) (putS P k l) (m + 1) ∧ Keeps (fun j => j = b ∨ j = sb ∨ j = wb) w w' := by
  have DR := Lib.hid (pl_drop0 h k hk hs)
  have HP := Lib.hid h
  have HK := Lib.hid (And.intro hk (And.intro hl hw))
  have hn : (ns : Int) ≤ 192 := by have := h.i.n1; omega
  have hb : (nb : Int) ≤ 512 := by have := h.i.b1; omega
  have hk1 : (k : Int) < (ns : Int) := by omega
  have hl1 : (l : Int) < (nb : Int) := by omega
  have m0 : -1000000 ≤ m := by have := h.i.m0; have := h.i.N1; omega
  have m1 : m ≤ 1000000 := by have := h.i.m1; have := h.i.N1; omega
  have c0 := h.c0
  have c1 := h.c1
  clear h hk hl hs hw
  go_enter Tryz.func68, Tryz.ntmps68
  go_wp2_with fail
  refine DR.out.mono ?_
  rintro e w1 ⟨rfl, b1⟩
  have P1 := HP.out.below b1
  have OF0 := pl_of P1 l HK.out.2.1
  rw [HK.out.2.2] at OF0
  have OF1 := Lib.hid (show Calls Tryz.prog 47 #[.pointer (some ⟨b, 0, none⟩), .int .i64 (l : Int)] w1 (fun e w' => e = .returned (.tuple #[.int .i64 0, .bool false]) ∧ w1 = w') from OF0)
  have B1 := Lib.hid b1
  have HP1 := Lib.hid P1
  clear P1 b1 c0 c1 OF0
  go_wp2_with fail
  refine OF1.out.mono ?_
  rintro e w' ⟨rfl, rfl⟩
  have P1 := HP1.out
  have c0 := P1.c0
  have c1 := P1.c1
  have c2 := P1.c2
  have e0 := P1.k0 HK.out.1
  have e1 := P1.k1 HK.out.1
  have e2 := P1.k2 HK.out.1
  have d0 := P1.w0 HK.out.2.1
  have f0 := P1.sl.free (k * 3)
  have f1 := P1.sl.free (k * 3 + 1)
  have f2 := P1.sl.free (k * 3 + 2)
  have g0 := P1.wh.free l
  have g1 := P1.top.free 2
  have n1 : b ≠ sb := P1.top.ne P1.sl (by decide)
  have n2 : b ≠ wb := P1.top.ne P1.wh (by decide)
  have n3 : sb ≠ wb := P1.sl.ne P1.wh (by decide)
  have FP := Lib.hid (((P1.putSl HK.out.1 ((l : Int) + 1) (by omega) (by omega)).putWh l ((k : Int) + 1) (by omega) (by omega)).putM (m + 1) (N + 1) (by have := P1.i.m0; omega) (by have := P1.i.m1; omega) (by omega))
  have FK := Lib.hid ((((((((Keeps.of_below B1.out).mono (T := fun j => j = b ∨ j = sb ∨ j = wb) (fun n hn x => absurd hn (Nat.not_lt.2 x))).setCell (p := ⟨sb, k * 3, none⟩) (.inl (.inr (.inl rfl))) (.int .i64 ((l : Int) + 1))).setCell (p := ⟨sb, k * 3 + 1, none⟩) (.inl (.inr (.inl rfl))) (.int .u64 (tgI ((l : Int) + 1)))).setCell (p := ⟨sb, k * 3 + 2, none⟩) (.inl (.inr (.inl rfl))) (.bool (suB ((l : Int) + 1)))).setCell (p := ⟨wb, l, none⟩) (.inl (.inr (.inr rfl))) (.int .i64 ((k : Int) + 1))).setCell (p := ⟨b, 2, none⟩) (.inl (.inl rfl)) (.int .i64 (m + 1))))
  have t1 : tgI ((l : Int) + 1) = 1 := by unfold tgI; rw [if_neg (by omega)]
  have t2 : suB ((l : Int) + 1) = true := by unfold suB; exact decide_eq_true (by omega)
  rw [t1, t2] at FP FK
  clear P1 t1 t2
  go_wp2
  go_ret
  exact ⟨rfl, FP.out, FK.out⟩
end
end Go.Proofs.YtbgknopjgohocaaGreat
