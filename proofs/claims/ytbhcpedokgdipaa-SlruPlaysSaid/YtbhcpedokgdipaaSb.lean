/- All slots of an order: All; the page's example of chapter 22. -/
import Derived.Test.YtbhcpedokgdipaaSa
namespace Go.Proofs.Ytbhcpedokgdipaa
open Go.RowKit Fl
set_option linter.unusedVariables false

set_option maxHeartbeats 1000000 in
theorem sl_all {S : Nat → Prop} {w : World} {b n most : Nat} {low high : List Nat} (h : SlO b n most low high S w) :
    Calls Try.prog 44 #[.pointer (some ⟨b, 0, none⟩)] w fun e w' => ∃ v, e = .returned v ∧ RdI w' v (low ++ high) ∧ Below w.heap.size w w' := by
  obtain ⟨lb, g, q, t, h, h0, h1, hmo, hb, hlb, hg, hq⟩ := h.open_
  have hl0 := nodup_len n _ (h.2.1.inv.nod 0 (by omega)) (h.2.1.inv.lt 0 (by omega))
  have hn2 := h.2.1.n2
  have lt1 := h.1.lt
  have lt2 := h.2.1.top.lt
  have lt3 := h.2.1.nod.lt
  have lt4 := h.2.1.many.lt
  have kk : ∀ o : Obj, Below w.heap.size w (w.alloc o) := fun o => (Below.refl _ _).alloc (Nat.le_refl _) _
  have R := Lib.hid (sl_real (S := S) (w0 := w) (w := w.alloc (.cells #[.pointer (some ⟨b, 0, none⟩)] 67)) (lb := lb) (g := g) (q := q) (n := n) (most := most) (t := t) ⟨h.1.past _, h.2.1.keep (Keeps.of_below (kk _)) (by omega) (by omega) (by omega), h.2.2.alloc _⟩)
  have bo : Boxed ((w.alloc (.cells #[.pointer (some ⟨b, 0, none⟩)] 67)).alloc (.cells #[.slice none 0 0] 79)) w.heap.size 67 (.pointer (some ⟨b, 0, none⟩)) := (Boxed.new w _ _).alloc _
  have bO : Boxed ((w.alloc (.cells #[.pointer (some ⟨b, 0, none⟩)] 67)).alloc (.cells #[.slice none 0 0] 79)) (w.heap.size + 1) 79 (.slice none 0 0) := by
    have := Boxed.new (w.alloc (.cells #[.pointer (some ⟨b, 0, none⟩)] 67)) 79 (.slice none 0 0)
    rwa [World.size_alloc] at this
  have hB : Below w.heap.size w ((w.alloc (.cells #[.pointer (some ⟨b, 0, none⟩)] 67)).alloc (.cells #[.slice none 0 0] 79)) := (kk _).alloc (by simp) _
  have hz : ((w.alloc (.cells #[.pointer (some ⟨b, 0, none⟩)] 67)).alloc (.cells #[.slice none 0 0] 79)).heap.size = w.heap.size + 2 := by simp
  have C0 : Calls Try.prog 79 #[.int .i64 0, .pointer (some ⟨w.heap.size, 0, none⟩), .pointer (some ⟨w.heap.size + 1, 0, none⟩)] ((w.alloc (.cells #[.pointer (some ⟨b, 0, none⟩)] 67)).alloc (.cells #[.slice none 0 0] 79)) _ :=
    sl_all1 (nb := w.heap.size + 2) (v := .slice none 0 0) (xs := []) (h.1.below hB lt1) (h.2.1.keep (Keeps.of_below hB) (by omega) (by omega) (by omega)) 0 (by omega) bo.cell bO (World.ownsRow_nil _ _ _ _) (by omega) (by simp)
  have C0 := Lib.hid C0
  have H := Lib.hid h
  have HO := Lib.hid bo
  have HB := Lib.hid hB
  have HZ := Lib.hid hz
  have H0 := Lib.hid h0
  have H1 := Lib.hid h1
  clear h h0 h1 bo bO hB hz kk
  go_enter Try.func44, Try.ntmps44
  go_wp2_with fail
  refine R.out.mono ?_
  rintro e w' ⟨rfl, rfl⟩
  go_wp2_with fail
  refine C0.out.mono ?_
  rintro e w1 ⟨rfl, v1, bv1, rv1, kt1⟩
  have K1 := kt1 (fun j => j < w.heap.size + 1) (fun j x => by omega)
  have hz := HZ.out
  have bo1 : Boxed w1 w.heap.size 67 (.pointer (some ⟨b, 0, none⟩)) := Keeps.blk K1 HO.out (fun x => x (by omega))
  have K1' : Keeps (fun j => ¬ j < w.heap.size) w w1 := ((Keeps.of_below HB.out).mono (fun j _ x => Nat.not_lt.2 x)).trans K1 (fun j x => .inl (fun y => x (by omega)))
  have a1 := H.out.1.keep K1' (fun x => x (by omega))
  have l1 := H.out.2.1.keep K1' (fun x => x (by omega)) (fun x => x (by omega)) (fun x => x (by omega))
  have sz1 : w.heap.size + 2 ≤ w1.heap.size := by have := K1.size; omega
  have C1 : Calls Try.prog 79 #[.int .i64 1, .pointer (some ⟨w.heap.size, 0, none⟩), .pointer (some ⟨w.heap.size + 1, 0, none⟩)] w1 _ :=
    sl_all1 (nb := w.heap.size + 2) (xs := [] ++ (t.rows 0).reverse) a1 l1 1 (by omega) bo1.cell bv1 rv1 sz1 (by simp; omega)
  have C1 := Lib.hid C1
  have HK1 := Lib.hid K1'
  clear bv1 rv1 kt1 K1 hz bo1 K1' a1 l1 sz1
  go_wp2_with fail
  refine C1.out.mono ?_
  rintro e w2 ⟨rfl, v2, bv2, rv2, kt2⟩
  obtain ⟨A, c, rfl⟩ := own_slice rv2
  have hc := bv2.cell
  have KK := Lib.hid (kt2 (fun j => j < w.heap.size + 1) (fun j x => by omega))
  have RR := Lib.hid (rdI_of rv2)
  clear bv2 rv2 kt2
  go_wp2
  go_ret
  have rr := RR.out
  rw [List.nil_append, H0.out, H1.out] at rr
  refine ⟨_, rfl, ?_, ?_⟩
  · have e0 : (t.rows 0).length = low.length := by rw [← H0.out, List.length_reverse]
    have e1 : (t.rows 1).length = high.length := by rw [← H1.out, List.length_reverse]
    simpa [e0, e1] using rr
  · exact ((HK1.out.trans KK.out (fun j x => .inl (fun y => x (by omega)))).mono (T := fun j => w.heap.size ≤ j) (fun j _ x => Nat.not_lt.1 x)).below (Nat.le_refl _)

theorem below_drewN {n : Nat} {w w' : World} (h : Below n w w') (k : Nat) : Below n w (w'.drewN k) := ⟨h.os, h.tape, h.output, h.size, h.block⟩

theorem aw_share : (2 : Int) = shareI 4 4602678819172646912 := by kernel_rfl

theorem slAwake (w : World) : Calls Try.prog 43 #[] w fun r w' => r = .returned (.bool true) ∧ Below w.heap.size w w' := by
  have N : Calls Try.prog 35 #[.int .i64 4, .float .f64 4602678819172646912] w _ := sl_new w 4 4602678819172646912 (by omega) (by omega) 2 aw_share
  have N := Lib.hid N
  have E0 : ∀ b W, Run1 (SlO b 4 2 [] []) w W → Calls Try.prog 36 #[.pointer (some ⟨b, 0, none⟩), .int .i64 0] W fun e w' => e = .returned (.bool true) ∧ Run1 (SlO b 4 2 [0] []) w w' := fun b W x => Run1.step x (fun A g o => sl_enter g 0 (by omega))
  have E1 : ∀ b W, Run1 (SlO b 4 2 [0] []) w W → Calls Try.prog 36 #[.pointer (some ⟨b, 0, none⟩), .int .i64 1] W fun e w' => e = .returned (.bool true) ∧ Run1 (SlO b 4 2 [0, 1] []) w w' := fun b W x => Run1.step x (fun A g o => sl_enter g 1 (by omega))
  have E2 : ∀ b W, Run1 (SlO b 4 2 [0, 1] []) w W → Calls Try.prog 36 #[.pointer (some ⟨b, 0, none⟩), .int .i64 2] W fun e w' => e = .returned (.bool true) ∧ Run1 (SlO b 4 2 [0, 1, 2] []) w w' := fun b W x => Run1.step x (fun A g o => sl_enter g 2 (by omega))
  have T0 : ∀ b W, Run1 (SlO b 4 2 [0, 1, 2] []) w W → Calls Try.prog 37 #[.pointer (some ⟨b, 0, none⟩), .int .i64 0] W fun e w' => e = .returned (.bool true) ∧ Run1 (SlO b 4 2 [1, 2] [0]) w w' := fun b W x => Run1.step x (fun A g o => sl_touch g 0 (by omega) (by simp))
  have V : ∀ b W, Run1 (SlO b 4 2 [1, 2] [0]) w W → Calls Try.prog 40 #[.pointer (some ⟨b, 0, none⟩)] W fun e w' => e = .returned (.tuple #[.int .i64 1, .bool true]) ∧ Run1 (SlO b 4 2 [1, 2] [0]) w w' := fun b W x => (sl_victim x.1).mono fun e w' ⟨he, hb⟩ => ⟨he, x.keep hb⟩
  have CP : ∀ b W, Run1 (SlO b 4 2 [1, 2] [0]) w W → Calls Try.prog 41 #[.pointer (some ⟨b, 0, none⟩)] W fun e w' => e = .returned (.int .i64 2) ∧ W = w' := fun b W x => sl_cap x.1
  have AL : ∀ b W, Run1 (SlO b 4 2 [1, 2] [0]) w W → Calls Try.prog 44 #[.pointer (some ⟨b, 0, none⟩)] W fun e w' => ∃ v, e = .returned v ∧ RdI w' v [1, 2, 0] ∧ Below w.heap.size w w' := fun b W x => (sl_all x.1).mono fun e w' ⟨v, he, hr, hb⟩ => ⟨v, he, hr, x.2.trans (hb.mono x.2.size)⟩
  have E0 := Lib.hid E0
  have E1 := Lib.hid E1
  have E2 := Lib.hid E2
  have T0 := Lib.hid T0
  have V := Lib.hid V
  have CP := Lib.hid CP
  have AL := Lib.hid AL
  go_enter Try.func43, Try.ntmps43
  go_wp2_with fail
  refine N.out.mono ?_
  rintro e w1 ⟨b, rfl, g1, b1⟩
  have G1 := Lib.hid (show Run1 (SlO b 4 2 [] []) w w1 from ⟨g1, b1⟩)
  clear g1 b1
  go_wp2_with fail
  refine (E0.out _ _ G1.out).mono ?_
  rintro e w2 ⟨rfl, g2⟩
  have G2 := Lib.hid g2
  clear g2
  go_wp2_with fail
  refine (E1.out _ _ G2.out).mono ?_
  rintro e w3 ⟨rfl, g3⟩
  have G3 := Lib.hid g3
  clear g3
  go_wp2_with fail
  refine (E2.out _ _ G3.out).mono ?_
  rintro e w4 ⟨rfl, g4⟩
  have G4 := Lib.hid g4
  clear g4
  go_wp2_with fail
  refine (T0.out _ _ G4.out).mono ?_
  rintro e w5 ⟨rfl, g5⟩
  have G5 := Lib.hid g5
  clear g5
  go_wp2_with fail
  refine (V.out _ _ G5.out).mono ?_
  rintro e w6 ⟨rfl, g6⟩
  have G6 := Lib.hid g6
  clear g6
  go_wp2_with fail
  refine (CP.out _ _ G6.out).mono ?_
  rintro e w' ⟨rfl, rfl⟩
  go_wp2_with fail
  refine (AL.out _ _ G6.out).mono ?_
  rintro e w7 ⟨v, rfl, r7, b7⟩
  have R7 := Lib.hid r7
  have B7 := Lib.hid b7
  clear r7 b7
  go_wp2_with fail
  refine (same_rows (l := [1, 2, 0]) (m := [1, 2, 0]) (R7.out.below ((Below.refl _ _).alloc (Nat.le_refl _) _)) ⟨_, _, rfl, .inr ⟨_, rfl, fun i hi => ?_⟩⟩ (by simp) (by simp)).mono ?_
  · have hi3 : i = 0 ∨ i = 1 ∨ i = 2 := by simp at hi; omega
    rcases hi3 with rfl | rfl | rfl
    · exact blk_cell' (heap_at _ _ _ rfl) 0
    · exact blk_cell' (heap_at _ _ _ rfl) 1
    · exact blk_cell' (heap_at _ _ _ rfl) 2
  · rintro e w8 ⟨rfl, k, rfl⟩
    go_wp2
    go_ret
    exact ⟨rfl, below_drewN (B7.out.alloc B7.out.size _) k⟩

end Go.Proofs.Ytbhcpedokgdipaa
