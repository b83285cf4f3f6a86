/- All slots of an order: All; the page's example of chapter 22. -/
import Derived.Test.YtdbgehplmllgdaaGreatSa
namespace Go.Proofs.YtdbgehplmllgdaaGreat
open Go.RowKit Fl
set_option linter.unusedVariables false

set_option maxHeartbeats 1000000 in
theorem sl_all {S : Nat → Prop} {w : World} {b n most : Nat} {low high : List Nat} (h : SlO b n most low high S w) :
    Calls Tryz.prog 65 #[.pointer (some ⟨b, 0, none⟩)] w fun e w' => ∃ v, e = .returned v ∧ RdI w' v (low ++ high) ∧ Below w.heap.size w w' := by
  obtain ⟨lb, g, q, t, h, h0, h1, hmo, hb, hlb, hg, hq⟩ := h.open_
  have hl0 := nodup_len n _ (h.2.1.inv.nod 0 (by omega)) (h.2.1.inv.lt 0 (by omega))
  have hn2 := h.2.1.n2
  have lt1 := h.1.lt
  have lt2 := h.2.1.top.lt
  have lt3 := h.2.1.nod.lt
  have lt4 := h.2.1.many.lt
  have kk : ∀ o : Obj, Below w.heap.size w (w.alloc o) := fun o => (Below.refl _ _).alloc (Nat.le_refl _) _
  have R := Lib.hid (sl_real (S := S) (w0 := w) (w := w.alloc (.cells #[.pointer (some ⟨b, 0, none⟩)] 34)) (lb := lb) (g := g) (q := q) (n := n) (most := most) (t := t) ⟨h.1.past _, h.2.1.keep (Keeps.of_below (kk _)) (by omega) (by omega) (by omega), h.2.2.alloc _⟩)
  have bo : Boxed ((w.alloc (.cells #[.pointer (some ⟨b, 0, none⟩)] 34)).alloc (.cells #[.slice none 0 0] 35)) w.heap.size 34 (.pointer (some ⟨b, 0, none⟩)) := (Boxed.new w _ _).alloc _
  have bO : Boxed ((w.alloc (.cells #[.pointer (some ⟨b, 0, none⟩)] 34)).alloc (.cells #[.slice none 0 0] 35)) (w.heap.size + 1) 35 (.slice none 0 0) := by
    have := Boxed.new (w.alloc (.cells #[.pointer (some ⟨b, 0, none⟩)] 34)) 35 (.slice none 0 0)
    rwa [World.size_alloc] at this
  have hB : Below w.heap.size w ((w.alloc (.cells #[.pointer (some ⟨b, 0, none⟩)] 34)).alloc (.cells #[.slice none 0 0] 35)) := (kk _).alloc (by simp) _
  have hz : ((w.alloc (.cells #[.pointer (some ⟨b, 0, none⟩)] 34)).alloc (.cells #[.slice none 0 0] 35)).heap.size = w.heap.size + 2 := by simp
  have C0 : Calls Tryz.prog 118 #[.int .i64 0, .pointer (some ⟨w.heap.size, 0, none⟩), .pointer (some ⟨w.heap.size + 1, 0, none⟩)] ((w.alloc (.cells #[.pointer (some ⟨b, 0, none⟩)] 34)).alloc (.cells #[.slice none 0 0] 35)) _ :=
    sl_all1 (nb := w.heap.size + 2) (v := .slice none 0 0) (xs := []) (h.1.below hB lt1) (h.2.1.keep (Keeps.of_below hB) (by omega) (by omega) (by omega)) 0 (by omega) bo.cell bO (World.ownsRow_nil _ _ _ _) (by omega) (by simp)
  have C0 := Lib.hid C0
  have H := Lib.hid h
  have HO := Lib.hid bo
  have HB := Lib.hid hB
  have HZ := Lib.hid hz
  have H0 := Lib.hid h0
  have H1 := Lib.hid h1
  clear h h0 h1 bo bO hB hz kk
  go_enter Tryz.func65, Tryz.ntmps65
  go_wp2_with fail
  refine R.out.mono ?_
  rintro e w' ⟨rfl, rfl⟩
  go_wp2_with fail
  refine C0.out.mono ?_
  rintro e w1 ⟨rfl, v1, bv1, rv1, kt1⟩
  have K1 := kt1 (fun j => j < w.heap.size + 1) (fun j x => by omega)
  have hz := HZ.out
  have bo1 : Boxed w1 w.heap.size 34 (.pointer (some ⟨b, 0, none⟩)) := Keeps.blk K1 HO.out (fun x => x (by omega))
  have K1' : Keeps (fun j => ¬ j < w.heap.size) w w1 := ((Keeps.of_below HB.out).mono (fun j _ x => Nat.not_lt.2 x)).trans K1 (fun j x => .inl (fun y => x (by omega)))
  have a1 := H.out.1.keep K1' (fun x => x (by omega))
  have l1 := H.out.2.1.keep K1' (fun x => x (by omega)) (fun x => x (by omega)) (fun x => x (by omega))
  have sz1 : w.heap.size + 2 ≤ w1.heap.size := by have := K1.size; omega
  have C1 : Calls Tryz.prog 118 #[.int .i64 1, .pointer (some ⟨w.heap.size, 0, none⟩), .pointer (some ⟨w.heap.size + 1, 0, none⟩)] w1 _ :=
    sl_all1 (nb := w.heap.size + 2) (xs := [] ++ (t.rows 0).reverse) a1 l1 1 (by omega) bo1.cell bv1 rv1 sz1 (by simp; omega)
  have C1 := Lib.hid C1
  have HK1 := Lib.hid K1'
  clear bv1 rv1 kt1 K1 hz bo1 K1' a1 l1 sz1
  go_wp2_with fail
  refine C1.out.mono ?_
  rintro e w2 ⟨rfl, v2, bv2, rv2, kt2⟩
  obtain ⟨A, c, rfl⟩ := own_slice rv2
  have hc := bv2.cell
  have KK := Lib.hid (kt2 (fun j => j < w.heap.size + 1) (fun j x => by omega))
  have RR := Lib.hid (rdI_of rv2)
  clear bv2 rv2 kt2
  go_wp2
  go_ret
  have rr := RR.out
  rw [List.nil_append, H0.out, H1.out] at rr
  refine ⟨_, rfl, ?_, ?_⟩
  · have e0 : (t.rows 0).length = low.length := by rw [← H0.out, List.length_reverse]
    have e1 : (t.rows 1).length = high.length := by rw [← H1.out, List.length_reverse]
    simpa [e0, e1] using rr
  · exact ((HK1.out.trans KK.out (fun j x => .inl (fun y => x (by omega)))).mono (T := fun j => w.heap.size ≤ j) (fun j _ x => Nat.not_lt.1 x)).below (Nat.le_refl _)

theorem below_drewN {n : Nat} {w w' : World} (h : Below n w w') (k : Nat) : Below n w (w'.drewN k) := ⟨h.os, h.tape, h.output, h.size, h.block⟩

theorem aw_share : (2 : Int) = shareI 4 4602678819172646912 := by kernel_rfl

end Go.Proofs.YtdbgehplmllgdaaGreat
