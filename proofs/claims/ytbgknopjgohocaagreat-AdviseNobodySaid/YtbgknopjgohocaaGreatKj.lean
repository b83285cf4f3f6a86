/- The hits by how many slots there are. -/
import Derived.Test.YtbgknopjgohocaaGreatKi
namespace Go.Proofs.YtbgknopjgohocaaGreat
open Go.RowKit Go.Shelf Fl
open Scan hiding isN
set_option linter.unusedVariables false
set_option maxRecDepth 100000
set_option maxHeartbeats 2000000
attribute [local go_sem] Oper.semAt_some

/-- The hits that settings have of a trace; none, if they may not be. -/
def hitC (c : CF) (z : Nat → Int) (n : Nat) : Nat := if c.may = true then (goR (rcOf c) z n).2.t.hits else 0
theorem tr_run_any (c : CF) (B : CFB c) (a : Option Addr) (n cp : Nat) (z : Nat → Int) (w : World) (hr : RdZ2 w a n z) (hn : n ≤ 1000) (hc : n ≤ cp) (hm9 : cp ≤ 9223372036854775807) :
    Calls Tryz.prog 9 #[.agg c.cs, .slice a n cp] w fun e w' => ∃ (T : TL) (er : Int), e = .returned (.tuple #[.agg #[.int .i64 (T.hits : Int), .int .i64 (T.misses : Int), .int .i64 (T.byps : Int), .int .i64 (T.fills : Int), .int .i64 (T.evic : Int), .int .i64 0, .int .i64 0, .int .i64 0, .int .i64 0, .int .i64 0, .int .i64 0, .int .i64 0, .int .i64 (T.filled : Int), .int .i64 0], .int .i64 er]) ∧ (T.hits = hitC c z n ∧ T.hits ≤ n) ∧ Below w.heap.size w w' := by
  unfold hitC
  cases hm : c.may
  · exact (tr_run_no c hm a n cp w).mono (fun e w' ⟨he, hb⟩ => ⟨⟨0, 0, 0, 0, 0, 0⟩, 100, he, ⟨rfl, Nat.zero_le _⟩, hb⟩)
  · refine (tr_run c B hm a n cp z w hr hn hc hm9).mono (fun e w' ⟨he, hv, hb⟩ => ⟨_, 0, he, ⟨by simp, ?_⟩, hb⟩)
    have := (goR_facts hv).2.2
    have := cntR_le (rcOf c).nb z n
    omega
theorem slotC_ok {c : CF} (B : CFB c) (v : Int) : CFB (slotC c v) := ⟨B.s0, B.s1, B.k, B.m, B.g⟩

theorem ad_curve (c : CF) (B : CFB c) (most : Int) (a : Option Addr) (n cp : Nat) (z : Nat → Int) (w : World) (hr : RdZ2 w a n z) (hn : n ≤ 1000) (hc : n ≤ cp) (hm9 : cp ≤ 9223372036854775807) :
    Calls Tryz.prog 18 #[.agg c.cs, .int .i64 most, .slice a n cp] w fun e W' => ∃ v, e = .returned v ∧ W'.ownsRow w.heap.size 3 1 v (mostN most) ((List.range (mostN most)).map fun (i : Nat) => Value.int .i64 (hitC (slotC c ((i : Int) + 1)) z n : Int)) ∧ Below w.heap.size w W' := by
  have ML := mostN_le most
  obtain ⟨i0, hif, hz0, hz1, hz2⟩ := info_parts infoInt
  have RN := Lib.hid (fun (x : Nat) W (k : Below w.heap.size w W) => tr_run_any (slotC c ((x : Int) + 1)) (slotC_ok B _) a n cp z W (hr.below k) hn hc hm9)
  have SZ := Lib.hid (fun W => sz_sizes W most c)
  generalize hh : (fun i : Nat => hitC (slotC c ((i : Int) + 1)) z n) = H at *
  have hh' : ∀ x : Nat, hitC (slotC c ((x : Int) + 1)) z n = H x := fun x => congrFun hh x
  simp only [hh'] at RN ⊢
  obtain ⟨k0, k1, k2, k3, k4, k5, k6, k7, k8, k9⟩ := c
  have RN := Lib.hid (fun (x : Nat) W (k : Below w.heap.size w W) => show Calls Tryz.prog 9 #[.agg #[.int .i64 k0, .int .i64 ((x : Int) + 1), .int .i64 k2, .int .i64 k3, .int .i64 k4, .int .u64 k5, .float .f64 k6, .float .f64 k7, .float .f64 k8, .int .i64 k9], .slice a n cp] W (fun e w' => ∃ (T : TL) (er : Int), e = .returned (.tuple #[.agg #[.int .i64 (T.hits : Int), .int .i64 (T.misses : Int), .int .i64 (T.byps : Int), .int .i64 (T.fills : Int), .int .i64 (T.evic : Int), .int .i64 0, .int .i64 0, .int .i64 0, .int .i64 0, .int .i64 0, .int .i64 0, .int .i64 0, .int .i64 (T.filled : Int), .int .i64 0], .int .i64 er]) ∧ (T.hits = H x ∧ T.hits ≤ n) ∧ Below W.heap.size W w') from RN.out x W k)
  have SZ := Lib.hid (fun W => show Calls Tryz.prog 28 #[.agg #[.int .i64 k0, .int .i64 k1, .int .i64 k2, .int .i64 k3, .int .i64 k4, .int .u64 k5, .float .f64 k6, .float .f64 k7, .float .f64 k8, .int .i64 k9], .int .i64 most] W (fun e w' => e = .returned (.func (.func 37) #[] #[.pointer (some ⟨W.heap.size + 1, 0, none⟩), .pointer (some ⟨W.heap.size, 0, none⟩)]) ∧ w' = (W.alloc (.cells #[.int .i64 k0, .int .i64 k1, .int .i64 k2, .int .i64 k3, .int .i64 k4, .int .u64 k5, .float .f64 k6, .float .f64 k7, .float .f64 k8, .int .i64 k9] 28)).alloc (.cells #[.int .i64 most] 3)) from SZ.out W)
  clear hh hh' B hr
  refine callsIn_wide.1 (?_ : CallsIn Fence.wide 5 Tryz.prog 18 #[.agg #[.int .i64 k0, .int .i64 k1, .int .i64 k2, .int .i64 k3, .int .i64 k4, .int .u64 k5, .float .f64 k6, .float .f64 k7, .float .f64 k8, .int .i64 k9], .int .i64 most, .slice a n cp] w _)
  refine callsIn_of_wp_marks Tryz.func18 rfl trivial ?_ rfl
  simp only [Tryz.ntmps18, List.size_toArray, List.length_cons, List.length_nil, Nat.reduceAdd, Nat.reduceSub, Array.replicate_succ, Array.replicate_zero, List.push_toArray, List.append_toArray, List.nil_append, List.cons_append]
  obtain ⟨w1, hw1⟩ : ∃ w1, w.alloc (.cells #[.int .i64 k0, .int .i64 k1, .int .i64 k2, .int .i64 k3, .int .i64 k4, .int .u64 k5, .float .f64 k6, .float .f64 k7, .float .f64 k8, .int .i64 k9] 28) = w1 := ⟨_, rfl⟩
  have s1 : w1.heap.size = w.heap.size + 1 := by rw [← hw1]; simp
  obtain ⟨w2, hw2⟩ : ∃ w2, w1.alloc (.cells #[.slice a n cp] 25) = w2 := ⟨_, rfl⟩
  have s2 : w2.heap.size = w.heap.size + 2 := by rw [← hw2]; simp; omega
  obtain ⟨w3, hw3⟩ : ∃ w3, w2.alloc (.cells #[.slice none 0 0] 25) = w3 := ⟨_, rfl⟩
  have s3 : w3.heap.size = w.heap.size + 3 := by rw [← hw3]; simp; omega
  have hx1 : w1.heap[w.heap.size]? = some (.cells #[.int .i64 k0, .int .i64 k1, .int .i64 k2, .int .i64 k3, .int .i64 k4, .int .u64 k5, .float .f64 k6, .float .f64 k7, .float .f64 k8, .int .i64 k9] 28) := by rw [← hw1]; exact heap_at w _ _ rfl
  have hx2 : w2.heap[w.heap.size]? = some (.cells #[.int .i64 k0, .int .i64 k1, .int .i64 k2, .int .i64 k3, .int .i64 k4, .int .u64 k5, .float .f64 k6, .float .f64 k7, .float .f64 k8, .int .i64 k9] 28) := by rw [← hw2]; exact (heap_past w1 _ _ (by omega)).trans hx1
  have hx3 : w3.heap[w.heap.size]? = some (.cells #[.int .i64 k0, .int .i64 k1, .int .i64 k2, .int .i64 k3, .int .i64 k4, .int .u64 k5, .float .f64 k6, .float .f64 k7, .float .f64 k8, .int .i64 k9] 28) := by rw [← hw3]; exact (heap_past w2 _ _ (by omega)).trans hx2
  have B1 : Below w.heap.size w w1 := by rw [← hw1]; exact (Below.refl _ w).alloc (Nat.le_refl _) _
  have B2 : Below w.heap.size w w2 := by rw [← hw2]; exact B1.alloc (by omega) _
  have B3 : Below w.heap.size w w3 := by rw [← hw3]; exact B2.alloc (by omega) _
  have bR : Boxed w3 (w.heap.size + 1) 25 (.slice a n cp) := by
    rw [← hw3, ← hw2]
    have := (Boxed.new w1 25 (.slice a n cp)).alloc (.cells #[.slice none 0 0] 25)
    rw [s1] at this
    exact this
  have bO : Boxed w3 (w.heap.size + 2) 25 (.slice none 0 0) := by
    rw [← hw3]
    have := Boxed.new w2 25 (.slice none 0 0)
    rw [s2] at this
    exact this
  have x0 : w3.cell? ⟨w.heap.size, 0, none⟩ = some (.int .i64 k0) := blk_cell' hx3 0
  have x1 : w3.cell? ⟨w.heap.size, 1, none⟩ = some (.int .i64 k1) := blk_cell' hx3 1
  have x2 : w3.cell? ⟨w.heap.size, 2, none⟩ = some (.int .i64 k2) := blk_cell' hx3 2
  have x3 : w3.cell? ⟨w.heap.size, 3, none⟩ = some (.int .i64 k3) := blk_cell' hx3 3
  have x4 : w3.cell? ⟨w.heap.size, 4, none⟩ = some (.int .i64 k4) := blk_cell' hx3 4
  have x5 : w3.cell? ⟨w.heap.size, 5, none⟩ = some (.int .u64 k5) := blk_cell' hx3 5
  have x6 : w3.cell? ⟨w.heap.size, 6, none⟩ = some (.float .f64 k6) := blk_cell' hx3 6
  have x7 : w3.cell? ⟨w.heap.size, 7, none⟩ = some (.float .f64 k7) := blk_cell' hx3 7
  have x8 : w3.cell? ⟨w.heap.size, 8, none⟩ = some (.float .f64 k8) := blk_cell' hx3 8
  have x9 : w3.cell? ⟨w.heap.size, 9, none⟩ = some (.int .i64 k9) := blk_cell' hx3 9
  have KK := Lib.hid (And.intro bR (And.intro bO B3))
  clear hx1 hx2 hx3 B1 B2 B3 bR bO
  gi_wp2_with fail
  refine ⟨trivial, (callsIn_wide.2 (SZ.out _)).mono ?_⟩
  rintro e w' ⟨rfl, hw'⟩
  clear hw1 hw2 hw3 x0 x1 x2 x3 x4 x5 x6 x7 x8 x9
  obtain ⟨w4, hw4⟩ : ∃ w4, w3.alloc (.cells #[.int .i64 k0, .int .i64 k1, .int .i64 k2, .int .i64 k3, .int .i64 k4, .int .u64 k5, .float .f64 k6, .float .f64 k7, .float .f64 k8, .int .i64 k9] 28) = w4 := ⟨_, rfl⟩
  rw [hw4] at hw'
  have s4 : w4.heap.size = w.heap.size + 4 := by rw [← hw4]; simp; omega
  have s5 : w'.heap.size = w.heap.size + 5 := by rw [hw']; simp; omega
  have bR5 : Boxed w' (w.heap.size + 1) 25 (.slice a n cp) := by rw [hw', ← hw4]; exact (KK.out.1.alloc _).alloc _
  have bO5 : Boxed w' (w.heap.size + 2) 25 (.slice none 0 0) := by rw [hw', ← hw4]; exact (KK.out.2.1.alloc _).alloc _
  have B5 : Below w.heap.size w w' := by rw [hw', ← hw4]; exact (KK.out.2.2.alloc (by omega) _).alloc (by simp; omega) _
  have c5 : w'.heap[w.heap.size + 3]? = some (.cells #[.int .i64 k0, .int .i64 k1, .int .i64 k2, .int .i64 k3, .int .i64 k4, .int .u64 k5, .float .f64 k6, .float .f64 k7, .float .f64 k8, .int .i64 k9] 28) := by
    rw [hw', ← hw4]
    exact (heap_past _ _ _ (by simp; omega)).trans (heap_at w3 _ _ (by omega))
  have m5 : w'.cell? ⟨w.heap.size + 4, 0, none⟩ = some (.int .i64 most) := by
    rw [hw']
    have := (Boxed.new w4 3 (.int .i64 most)).cell
    rw [s4] at this
    exact this
  rw [s3]
  clear hw' hw4 s4 s1 s2 s3
  gi_wp2
  obtain ⟨d, hd⟩ : ∃ d, w.heap.size = d := ⟨_, rfl⟩
  rw [hd] at s5 bR5 bO5 B5 c5 m5 ⊢
  have RN := Lib.hid (fun (x : Nat) W (k : Below d w W) => RN.out x W (hd ▸ k))
  refine wpIn_range_writes rfl (by omega) (gf := 37) (lb := #[.pointer (some ⟨d + 4, 0, none⟩), .pointer (some ⟨d + 3, 0, none⟩)]) rfl trivial (enters_of Tryz.func37 (by kernel_rfl) rfl)
    (sz_gives (d + 4) (d + 3) most k0 k1 k2 k3 k4 k5 k9 k6 k7 k8 (by omega) (fun j => j = d + 4 ∨ j = d + 3) (fun j => Iff.rfl) w' m5 c5)
    (fun j (x : j = d + 3) => by omega) (fun j x => by rcases x with x | x <;> omega)
    (fun pre W => (∃ v, Boxed W (d + 2) 25 v ∧ W.ownsRow (d + 7) 3 1 v pre.length (pre.map fun x => Value.int .i64 (H x : Int))) ∧ Boxed W (d + 1) 25 (.slice a n cp) ∧ Below d w W ∧ d + 5 ≤ W.heap.size)
    (fun _ _ => False)
    (fun s A B h k => by
      obtain ⟨⟨v, h1, h2⟩, h3, h4, h5⟩ := h
      rw [s5] at k
      exact ⟨⟨v, k.blk h1 (by omega), own_keep h2 k (fun j ej x => by have := own_ge h2 j ej; omega)⟩, k.blk h3 (by omega), ((Keeps.of_below h4).trans k (fun j x => .inl (by omega))).below (by omega), Nat.le_trans h5 k.size⟩)
    (fun s A B h k => h) ⟨⟨_, bO5, World.ownsRow_nil _ _ _ _⟩, bR5, B5, by omega⟩
    (fun x a' W => ∃ B, a' = { tmps := #[.agg #[.int .i64 k0, .int .i64 k1, .int .i64 k2, .int .i64 k3, .int .i64 k4, .int .u64 k5, .float .f64 k6, .float .f64 k7, .float .f64 k8, .int .i64 k9], .int .i64 most, .slice a n cp, .pointer (some ⟨d, 0, none⟩), undef, .pointer (some ⟨d + 1, 0, none⟩), .slice none 0 0, .pointer (some ⟨d + 2, 0, none⟩), .pointer (some ⟨B, 0, none⟩), undef, undef, .agg #[.int .i64 k0, .int .i64 k1, .int .i64 k2, .int .i64 k3, .int .i64 k4, .int .u64 k5, .float .f64 k6, .float .f64 k7, .float .f64 k8, .int .i64 k9], .int .i64 most, .func (.func 37) #[] #[.pointer (some ⟨d + 4, 0, none⟩), .pointer (some ⟨d + 3, 0, none⟩)], .agg #[.int .i64 k0, .int .i64 ((x : Int) + 1), .int .i64 k2, .int .i64 k3, .int .i64 k4, .int .u64 k5, .float .f64 k6, .float .f64 k7, .float .f64 k8, .int .i64 k9], undef, undef, undef, undef, undef, undef, undef, undef, undef, undef, undef, undef], defers := [] } ∧ W.heap[B]? = some (.cells #[.int .i64 k0, .int .i64 ((x : Int) + 1), .int .i64 k2, .int .i64 k3, .int .i64 k4, .int .u64 k5, .float .f64 k6, .float .f64 k7, .float .f64 k8, .int .i64 k9] 28) ∧ d + 7 ≤ B)
    (fun x a' A B h k => by
      obtain ⟨C, e, hc, hge⟩ := h
      rw [s5] at k
      exact ⟨C, e, k.blk hc (by omega), hge⟩) ?assign ?body ?done ?stop
  case assign =>
    intro l pre x W K ⟨⟨v, hv, hrow⟩, hR, hB, hge⟩ hsz hK
    rw [s5] at hK hsz
    have hz := heap_at W (.cells #[.int .i64 0, .int .i64 0, .int .i64 0, .int .i64 0, .int .i64 0, .int .u64 0, .float .f64 0, .float .f64 0, .float .f64 0, .int .i64 0] 28) _ rfl
    have TH := Lib.hid (there_of (n := 10) hz (by decide))
    gi_wp2_with (
      refine wpListIn_store_mid rfl 28 (.tmp 8) (.tmp 14) rfl W.heap.size 0 #[.int .i64 k0, .int .i64 ((x : Int) + 1), .int .i64 k2, .int .i64 k3, .int .i64 k4, .int .u64 k5, .float .f64 k6, .float .f64 k7, .float .f64 k8, .int .i64 k9] rfl rfl TH.out (by kernel_rfl) (by simp [Value.oneCell']) ?_
      obtain ⟨w3, hw3, C3, K3, S3⟩ := cells_all hz #[.int .i64 k0, .int .i64 ((x : Int) + 1), .int .i64 k2, .int .i64 k3, .int .i64 k4, .int .u64 k5, .float .f64 k6, .float .f64 k7, .float .f64 k8, .int .i64 k9] rfl
      rw [hw3])
    have K3' : Keeps (fun j => W.heap.size ≤ j) W w3 := (((Keeps.refl (fun j => W.heap.size ≤ j) W).alloc _).trans K3 (fun j (hj : j = W.heap.size) => .inl (by omega)))
    have own := own_keep hrow K3' (fun j ej => Nat.not_le.2 (own_lt hrow j ej))
    exact hK _ _ ⟨K3'.block _ (by omega) (by omega), K3'.block _ (by omega) (by omega)⟩ (K3'.mono (fun j hj x y => by rcases y with y | y <;> omega)) ⟨⟨v, K3'.blk hv (by omega), own⟩, K3'.blk hR (by omega), hB.trans ((K3'.mono (fun j _ (x : W.heap.size ≤ j) => (show d ≤ j by omega))).below (by omega)), by have := K3'.size; omega⟩ ⟨W.heap.size, rfl, C3, by omega⟩
  case body =>
    rintro l pre x a' W hsz ⟨⟨v, hv, hrow⟩, hR, hB, hge⟩ ⟨B, rfl, hb, hBd⟩ hlt
    rw [s5] at hsz
    have x0 : W.cell? ⟨B, 0, none⟩ = some (.int .i64 k0) := blk_cell' hb 0
    have x1 : W.cell? ⟨B, 1, none⟩ = some (.int .i64 ((x : Int) + 1)) := blk_cell' hb 1
    have x2 : W.cell? ⟨B, 2, none⟩ = some (.int .i64 k2) := blk_cell' hb 2
    have x3 : W.cell? ⟨B, 3, none⟩ = some (.int .i64 k3) := blk_cell' hb 3
    have x4 : W.cell? ⟨B, 4, none⟩ = some (.int .i64 k4) := blk_cell' hb 4
    have x5 : W.cell? ⟨B, 5, none⟩ = some (.int .u64 k5) := blk_cell' hb 5
    have x6 : W.cell? ⟨B, 6, none⟩ = some (.float .f64 k6) := blk_cell' hb 6
    have x7 : W.cell? ⟨B, 7, none⟩ = some (.float .f64 k7) := blk_cell' hb 7
    have x8 : W.cell? ⟨B, 8, none⟩ = some (.float .f64 k8) := blk_cell' hb 8
    have x9 : W.cell? ⟨B, 9, none⟩ = some (.int .i64 k9) := blk_cell' hb 9
    have hRc := hR.cell
    have RX := RN.out x W hB
    clear hb
    gi_wp2_with fail
    clear x0 x1 x2 x3 x4 x5 x6 x7 x8 x9
    refine ⟨trivial, (callsIn_wide.2 RX).mono ?_⟩
    rintro e W2 ⟨Tl, er, rfl, ⟨hT1, hT2⟩, b2⟩
    have K2 : Keeps (fun j => W.heap.size ≤ j) W W2 := Keeps.of_below b2
    have HT := Lib.hid (And.intro hT1 hT2)
    clear b2 RX hT1 hT2
    have hpl : pre.length ≤ 192 := by omega
    have HI := Lib.hid (And.intro hif (And.intro hz0 (And.intro hz1 hz2)))
    have hz := heap_at W2 tlZ _ rfl
    have TH := Lib.hid (there_of (n := 14) hz (by decide))
    gi_wp2_with (first
      | (refine wpListIn_store_mid rfl 35 (.tmp 9) (.tmp 19) rfl W2.heap.size 0 #[.int .i64 (Tl.hits : Int), .int .i64 (Tl.misses : Int), .int .i64 (Tl.byps : Int), .int .i64 (Tl.fills : Int), .int .i64 (Tl.evic : Int), .int .i64 0, .int .i64 0, .int .i64 0, .int .i64 0, .int .i64 0, .int .i64 0, .int .i64 0, .int .i64 (Tl.filled : Int), .int .i64 0] rfl rfl TH.out (by kernel_rfl) (by simp [Value.oneCell']) ?_; obtain ⟨w3, hw3, C3, K3, S3⟩ := cells_all hz #[.int .i64 (Tl.hits : Int), .int .i64 (Tl.misses : Int), .int .i64 (Tl.byps : Int), .int .i64 (Tl.fills : Int), .int .i64 (Tl.evic : Int), .int .i64 0, .int .i64 0, .int .i64 0, .int .i64 0, .int .i64 0, .int .i64 0, .int .i64 0, .int .i64 (Tl.filled : Int), .int .i64 0] rfl; rw [hw3]; have K23 := (K2.alloc tlZ).trans K3 (fun j (hj : j = W2.heap.size) => .inl (by have := K2.size; omega)); have hv3 : Boxed w3 (d + 2) 25 v := K23.blk hv (by omega); have hR3 : Boxed w3 (d + 1) 25 (.slice a n cp) := K23.blk hR (by omega); have row3 := own_keep hrow K23 (fun j ej => Nat.not_le.2 (own_lt hrow j ej)); have hv3c := hv3.cell; have t0 : w3.cell? ⟨W2.heap.size, 0, none⟩ = some (.int .i64 (Tl.hits : Int)) := blk_cell' C3 0; clear hw3 C3 K3 S3)
      | (gi_at_builtin; refine wpListIn_append_own_at _ rfl _ _ 25 rfl (d + 7) 3 i0 (.int .i64 0) 1 8 Tryz.underlying25 HI.out.1 HI.out.2.1 HI.out.2.2.1 HI.out.2.2.2 rfl (by decide) _ _ _ rfl (row3.alloc _) ⟨w3.heap.size, 0, none⟩ 1 1 [.int .i64 (Tl.hits : Int)] rfl (by rfl) (World.news_of_block (heap_alloc_new _ _)) ?c2 ?c3 ?c4 ?c5 ?_))
    case c2 => intro u hu; simp at hu; rw [hu]; rfl
    case c3 => unfold maxLen; omega
    case c4 => omega
    case c5 => have := K23.size; simp; omega
    rintro v' w5 hown' hgrow - hat
    obtain ⟨g', cap', rfl⟩ := ownsRow_succ hown'
    obtain ⟨hv1, hv2, hr2, hk2, hb2, hkt⟩ := boxed_more (n₀ := d) hv3 (by decide) row3 (by have := K23.size; omega) (by omega) (by omega) hown' hgrow
    have hc1 := hv1.cell
    have hf1 := hv1.frozen
    gi_wp2
    have kt5 : KT (fun j => j = d + 5 ∨ j = d + 6) w3 _ := hkt _ (fun j x => by omega)
    have kt1 : KT (fun j => j = d + 1) w3 _ := hkt _ (fun j x => by omega)
    have kt3 : KT (fun j => j = d + 4 ∨ j = d + 3) w3 _ := hkt _ (fun j x => by omega)
    have B23 : Below d w w3 := hB.trans ((K23.mono (fun j _ (x : W.heap.size ≤ j) => (show d ≤ j by omega))).below (by omega))
    have s23 := K23.size
    exact ⟨⟨(kt5.block _ (by omega) (by rw [s5]; simp)).trans (K23.block _ (by omega) (by omega)), (kt5.block _ (by omega) (by rw [s5]; simp)).trans (K23.block _ (by omega) (by omega))⟩, KT.t (K23.mono (fun j hj x y => by rcases y with y | y <;> omega)) kt3, ⟨⟨_, hv2, by rw [List.length_append, List.map_append]; simpa [HT.out.1] using hr2⟩, kt1.blk hR3 (by simp), B23.trans hb2, by have := hb2.size; omega⟩⟩
  case done =>
    rintro ys W rfl ⟨⟨v, hv, hrow⟩, hR, hB, hsz⟩ hD
    have hc := hv.cell
    gi_wp2
    refine ⟨by simp, .inl ⟨_, _, rfl, run_takeDeferred hD, ?_⟩⟩
    have hb := hB.trans (belowK_b (w := w) (by omega) W w'.heap.size (.deferred (some [])) (.deferred none) (by omega) hD rfl rfl)
    rw [← hd] at hb
    refine ⟨_, results_tmp rfl _ _ _, v, rfl, ?_, hb⟩
    have hr := ownsRow_putObj hrow (.deferred none) hD rfl
    rw [List.length_range] at hr
    exact ⟨hr.1, hr.2.imp id (fun ⟨g, cap, cur, e, hb, r⟩ => ⟨g, cap, cur, e, by omega, r⟩)⟩
  case stop =>
    rintro pre W _ h _
    exact h.elim
end Go.Proofs.YtbgknopjgohocaaGreat
