/- One act on both sketches. -/
import Derived.Test.YtbhcpedokgdipaaSkO
namespace Go.Proofs.Ytbhcpedokgdipaa
open Go.RowKit
set_option linter.unusedVariables false

theorem frame_box {F : Nat → Prop} {w w' : World} {o : Obj} (k : Keeps (fun j => ¬ (F j ∨ j = w.heap.size)) (w.alloc o) w') : Keeps (fun j => ¬ F j) w w' :=
  (((Keeps.refl (fun j => ¬ F j) w).alloc o).trans (k.mono (T := fun j => ¬ F j ∨ w.heap.size ≤ j) (fun n _ hn => by
    by_cases hF : F n
    · exact absurd (.inl hF) hn
    · exact .inl hF)) (fun n hn => hn))

theorem do_any (F : Nat → Prop) (w : World) (b b' : Nat) (seed : Int) (width : Nat) (c : Nat → Nat → Nat) (h : PairD F w b b' seed width c c) (kind key times : Int) (k0 : 0 ≤ key) (k1 : key ≤ 18446744073709551615) (t0 : 0 ≤ times) (t1 : times ≤ 255) :
    Calls Try.prog 14 #[.pointer (some ⟨b, 0, none⟩), .pointer (some ⟨b', 0, none⟩), .agg #[.int .i64 kind, .int .u64 key, .int .u8 times]] w fun e w' => e = .returned (.bool true) ∧ ∃ c', PairD F w' b b' seed width c' c' ∧ Keeps (fun j => ¬ F j) w w' := by
  obtain ⟨pk, hpk⟩ : ∃ pk, pk = pickN seed key width := ⟨_, rfl⟩
  have A := Lib.hid (fun (F : Nat → Prop) (w : World) (c d : Nat → Nat → Nat) (h : PairD F w b b' seed width c d) => hpk ▸ pAdd h key k0 k1)
  have RA := Lib.hid (fun (F : Nat → Prop) (w : World) (c d : Nat → Nat → Nat) (h : PairD F w b b' seed width c d) => hpk ▸ pRAdd h key k0 k1)
  have C := Lib.hid (fun (F : Nat → Prop) (w : World) (c d : Nat → Nat → Nat) (h : PairD F w b b' seed width c d) => hpk ▸ pCount h key k0 k1)
  have RC := Lib.hid (fun (F : Nat → Prop) (w : World) (c d : Nat → Nat → Nat) (h : PairD F w b b' seed width c d) => hpk ▸ pRCount h key k0 k1)
  clear hpk
  have hP0 := h.past (.cells #[.int .i64 kind, .int .u64 key, .int .u8 times] 33)
  have q0 : (w.alloc (.cells #[.int .i64 kind, .int .u64 key, .int .u8 times] 33)).cell? ⟨w.heap.size, 0, none⟩ = some (.int .i64 kind) := blk_cell' (heap_at _ _ _ rfl) 0
  have q1 : (w.alloc (.cells #[.int .i64 kind, .int .u64 key, .int .u8 times] 33)).cell? ⟨w.heap.size, 1, none⟩ = some (.int .u64 key) := blk_cell' (heap_at _ _ _ rfl) 1
  have q2 : (w.alloc (.cells #[.int .i64 kind, .int .u64 key, .int .u8 times] 33)).cell? ⟨w.heap.size, 2, none⟩ = some (.int .u8 times) := blk_cell' (heap_at _ _ _ rfl) 2
  have HB := Lib.hid (fun (w' : World) => @frame_box F w w' (.cells #[.int .i64 kind, .int .u64 key, .int .u8 times] 33))
  have P0 := Lib.hid hP0
  clear hP0 h
  go_enter Try.func14, Try.ntmps14
  have hk00 := Keeps.refl (fun j => ¬ (F j ∨ j = w.heap.size)) (w.alloc (Obj.cells #[.int .i64 kind, .int .u64 key, .int .u8 times] 33))
  by_cases e0 : kind = 0
  · subst e0
    go_wp2_with fail
    go_loopw [7] (fun i wr => ∃ (k : Nat) (d : Nat → Nat → Nat), k ≤ 255 ∧ i = .int .i64 (k : Int) ∧ PairD (fun j => F j ∨ j = w.heap.size) wr b b' seed width d d ∧ Keeps (fun j => ¬ (F j ∨ j = w.heap.size)) (w.alloc (Obj.cells #[.int .i64 0, .int .u64 key, .int .u8 times] 33)) wr) (fun i _ => 255 - (intOf i).toNat)
    case atStart => exact ⟨0, c, by omega, rfl, P0.out, hk00⟩
    case round =>
      obtain ⟨k, d, hk, rfl, hP, hK⟩ := hrel
      have r1 : wr.cell? ⟨w.heap.size, 1, none⟩ = some (.int .u64 key) := hK.cell (a := ⟨w.heap.size, 1, none⟩) q1 (fun x => x (.inr rfl))
      have r2 : wr.cell? ⟨w.heap.size, 2, none⟩ = some (.int .u8 times) := hK.cell (a := ⟨w.heap.size, 2, none⟩) q2 (fun x => x (.inr rfl))
      by_cases hlt : (k : Int) < times % 64
      · have h5 : k < 255 := by omega
        have Z1 := Lib.hid (hP.drew)
        have ZK := Lib.hid hK
        have ZC := Lib.hid (fun (W' : World) (k : Keeps (fun j => ¬ (F j ∨ j = w.heap.size)) wr.drew W') => k.cell (a := ⟨w.heap.size, 1, none⟩) r1 (fun x => x (.inr rfl)))
        clear hP hK
        go_wp2_with fail
        go_region_held3 (fun w' => w'.cell? ⟨w.heap.size, 1, none⟩ = some (.int .u64 key)) (first | go_keep | exact z1 | exact z2) (first | (go_at_call 18; (with_reducible refine (A.out _ _ _ _ Z1.out).mono ?_); rintro e w1 ⟨rfl, h1, k1⟩; have z1 := ZC.out _ k1) | (go_at_call 50; (with_reducible refine (RA.out _ _ _ _ h1).mono ?_); rintro e w2 ⟨rfl, h2, k2⟩; have kk2 := k1.trans k2 (fun n h => .inl h); have z2 := ZC.out _ kk2))
        all_goals
          have kk := Lib.hid ((ZK.out.drew).trans kk2 (fun n h => .inl h))
          have HH := Lib.hid h2
          clear h1 h2 k1 k2 kk2 z1 z2
          go_wp2
          exact ⟨⟨k + 1, _, by omega, by simp, HH.out, kk.out⟩, by simp only [intOf]; omega⟩
      · go_wp2_with fail
        have Z0 := Lib.hid hP
        have Z1 := Lib.hid (hP.drew)
        have ZK := Lib.hid hK
        have zc : wr.cell? ⟨w.heap.size, 1, none⟩ = some (.int .u64 key) := hK.cell (a := ⟨w.heap.size, 1, none⟩) q1 (fun x => x (.inr rfl))
        have ZC := Lib.hid (fun (W' : World) (k : Keeps (fun j => ¬ (F j ∨ j = w.heap.size)) wr.drew W') => k.cell (a := ⟨w.heap.size, 1, none⟩) zc (fun x => x (.inr rfl)))
        clear hP hK
        go_region_held3 (fun w' => w'.cell? ⟨w.heap.size, 1, none⟩ = some (.int .u64 key)) (first | go_keep | exact z1 | exact z2 | exact z3 | exact z4) (first | (go_at_call 15; (with_reducible refine (C.out _ _ _ _ Z1.out).mono ?_); rintro e w1 ⟨rfl, h1, k1⟩; have z1 := ZC.out _ k1) | (go_at_call 16; (with_reducible refine (RC.out _ _ _ _ h1).mono ?_); rintro e w2 ⟨rfl, h2, k2⟩; have kk2 := k1.trans k2 (fun n h => .inl h); have z2 := ZC.out _ kk2) | (go_at_call 21; (with_reducible refine (pSum h2).mono ?_); rintro e w3 ⟨rfl, rfl⟩) | (go_at_call 53; (with_reducible refine (pRSum h2).mono ?_); rintro e w4 ⟨rfl, rfl⟩))
        all_goals
          go_wp2
          go_ret
          have kk := (ZK.out.drew).trans kk2 (fun n h => .inl h)
          refine ⟨rfl, _, h2.mono (fun j hj => .inl hj), ?_⟩
          exact HB.out _ kk
  · by_cases e1 : kind = 1
    · subst e1
      go_wp2_with fail
      refine (pHalve P0.out).mono ?_
      rintro e w1 ⟨rfl, h1, k1⟩
      have H1 := Lib.hid h1
      have K1 := Lib.hid k1
      clear h1 k1
      go_wp2_with fail
      refine (pRHalve H1.out).mono ?_
      rintro e w2 ⟨rfl, h2, k2⟩
      have H2 := Lib.hid h2
      have K2 := Lib.hid k2
      clear h2 k2
      go_wp2
      go_ret
      exact ⟨rfl, _, H2.out.mono (fun j hj => .inl hj), HB.out _ (K1.out.trans K2.out (fun n h => .inl h))⟩
    · by_cases e2 : kind = 2
      · subst e2
        go_wp2_with fail
        refine (pClear P0.out).mono ?_
        rintro e w1 ⟨rfl, h1, k1⟩
        have H1 := Lib.hid h1
        have K1 := Lib.hid k1
        clear h1 k1
        go_wp2_with fail
        refine (pRClear H1.out).mono ?_
        rintro e w2 ⟨rfl, hP, k2⟩
        have hK := K1.out.trans k2 (fun n h => .inl h)
        clear k2
        have Z0 := Lib.hid hP
        have Z1 := Lib.hid (hP.drew)
        have ZK := Lib.hid hK
        have zc : w2.cell? ⟨w.heap.size, 1, none⟩ = some (.int .u64 key) := hK.cell (a := ⟨w.heap.size, 1, none⟩) q1 (fun x => x (.inr rfl))
        have ZC := Lib.hid (fun (W' : World) (k : Keeps (fun j => ¬ (F j ∨ j = w.heap.size)) w2.drew W') => k.cell (a := ⟨w.heap.size, 1, none⟩) zc (fun x => x (.inr rfl)))
        clear hP hK
        go_wp2_with fail
        go_region_held3 (fun w' => w'.cell? ⟨w.heap.size, 1, none⟩ = some (.int .u64 key)) (first | go_keep | exact z1 | exact z2 | exact z3 | exact z4) (first | (go_at_call 15; (with_reducible refine (C.out _ _ _ _ Z1.out).mono ?_); rintro e w1 ⟨rfl, h1, k1⟩; have z1 := ZC.out _ k1) | (go_at_call 16; (with_reducible refine (RC.out _ _ _ _ h1).mono ?_); rintro e w5 ⟨rfl, h2, k2⟩; have kk2 := k1.trans k2 (fun n h => .inl h); have z2 := ZC.out _ kk2) | (go_at_call 21; (with_reducible refine (pSum h2).mono ?_); rintro e w3 ⟨rfl, rfl⟩) | (go_at_call 53; (with_reducible refine (pRSum h2).mono ?_); rintro e w4 ⟨rfl, rfl⟩))
        all_goals
          go_wp2
          go_ret
          have kk := (ZK.out.drew).trans kk2 (fun n h => .inl h)
          refine ⟨rfl, _, h2.mono (fun j hj => .inl hj), ?_⟩
          exact HB.out _ kk
      · have hP := P0.out
        have hK := hk00
        generalize hw0 : w.alloc (Obj.cells #[.int .i64 kind, .int .u64 key, .int .u8 times] 33) = w0 at *
        have Z0 := Lib.hid hP
        have Z1 := Lib.hid (hP.drew)
        have ZK := Lib.hid hK
        have zc : w0.cell? ⟨w.heap.size, 1, none⟩ = some (.int .u64 key) := hK.cell (a := ⟨w.heap.size, 1, none⟩) q1 (fun x => x (.inr rfl))
        have ZC := Lib.hid (fun (W' : World) (k : Keeps (fun j => ¬ (F j ∨ j = w.heap.size)) w0.drew W') => k.cell (a := ⟨w.heap.size, 1, none⟩) zc (fun x => x (.inr rfl)))
        clear hP hK
        go_wp2_with fail
        go_region_held3 (fun w' => w'.cell? ⟨w.heap.size, 1, none⟩ = some (.int .u64 key)) (first | go_keep | exact z1 | exact z2 | exact z3 | exact z4) (first | (go_at_call 15; (with_reducible refine (C.out _ _ _ _ Z1.out).mono ?_); rintro e w1 ⟨rfl, h1, k1⟩; have z1 := ZC.out _ k1) | (go_at_call 16; (with_reducible refine (RC.out _ _ _ _ h1).mono ?_); rintro e w2 ⟨rfl, h2, k2⟩; have kk2 := k1.trans k2 (fun n h => .inl h); have z2 := ZC.out _ kk2) | (go_at_call 21; (with_reducible refine (pSum h2).mono ?_); rintro e w3 ⟨rfl, rfl⟩) | (go_at_call 53; (with_reducible refine (pRSum h2).mono ?_); rintro e w4 ⟨rfl, rfl⟩))
        all_goals
          go_wp2
          go_ret
          have kk := (ZK.out.drew).trans kk2 (fun n h => .inl h)
          refine ⟨rfl, _, h2.mono (fun j hj => .inl hj), ?_⟩
          exact HB.out _ kk

end Go.Proofs.Ytbhcpedokgdipaa
