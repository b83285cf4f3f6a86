/- How many slots are enough. -/
import Derived.Test.YtbgknopjgohocaaGreatKj
namespace Go.Proofs.YtbgknopjgohocaaGreat
open Go.RowKit Go.Shelf Fl
open Scan hiding isN
set_option linter.unusedVariables false
set_option maxRecDepth 100000
set_option maxHeartbeats 2000000
attribute [local go_sem] Oper.semAt_some

/-- The rate of settings of a trace; none, if they may not be, or if no block is read. -/
def rtX (c : CF) (z : Nat → Int) (n : Nat) : Option Nat := if c.may = true then rtC (goR (rcOf c) z n).2.t else none
theorem ad_rate_any (c : CF) (B : CFB c) (a : Option Addr) (n cp : Nat) (z : Nat → Int) (w : World) (hr : RdZ2 w a n z) (hn : n ≤ 1000) (hc : n ≤ cp) (hm9 : cp ≤ 9223372036854775807) :
    Calls Tryz.prog 19 #[.agg c.cs, .slice a n cp] w fun e w' => ∃ (f : Nat) (er : Int), e = .returned (.tuple #[.float .f64 f, .int .i64 er]) ∧ (f < 18446744073709551616 ∧ ((er = 0 ∧ cn f = rtX c z n) ∨ (er = 100 ∧ f = 0 ∧ rtX c z n = none))) ∧ Below w.heap.size w w' := by
  unfold rtX
  cases hm : c.may
  · exact (ad_rate_no c hm a n cp w).mono (fun e w' ⟨he, hb⟩ => ⟨0, 100, he, ⟨by omega, .inr ⟨rfl, rfl, by simp⟩⟩, hb⟩)
  · exact (ad_rate c B hm a n cp z w hr hn hc hm9).mono (fun e w' ⟨f, he, ⟨hf, hcf, _⟩, hb⟩ => ⟨f, 0, he, ⟨hf, .inl ⟨rfl, by simpa using hcf⟩⟩, hb⟩)
/-- Are so many slots and one enough? -/
def okE (c : CF) (z : Nat → Int) (n goal x : Nat) : Bool := match rtX (slotC c ((x : Int) + 1)) z n with
  | none => false
  | some f => !(ltB f goal)
def enE (c : CF) (z : Nat → Int) (n goal M : Nat) : Option Nat := (List.range M).find? (okE c z n goal)
theorem cnN_nan {f : Nat} (h : isN f = true) : cn f = none := by unfold cn; rw [if_pos h]
theorem cnN_num {f : Nat} (h : isN f = false) : cn f = some f := by unfold cn; rw [if_neg (by simp [h])]
theorem find_none {p : Nat → Bool} {l : List Nat} (h : ∀ y ∈ l, p y = false) : l.find? p = none := by
  rw [List.find?_eq_none]
  intro y hy
  simp [h y hy]
theorem find_first {p : Nat → Bool} {l pre : List Nat} {x : Nat} (hp : pre ++ [x] <+: l) (h : ∀ y ∈ pre, p y = false) (hx : p x = true) : l.find? p = some x := by
  obtain ⟨t, rfl⟩ := hp
  rw [List.append_assoc, List.find?_append, find_none h]
  simp [hx]

theorem ad_enough_nan (c : CF) (goal : Nat) (hg : isN goal = true) (hg2 : goal < 18446744073709551616) (most : Int) (a : Option Addr) (n cp : Nat) (w : World) :
    Calls Tryz.prog 16 #[.agg c.cs, .float .f64 goal, .int .i64 most, .slice a n cp] w fun e W' => e = .returned (.tuple #[.int .i64 0, .bool false]) ∧ Below w.heap.size w W' := by
  have ne := ne_self goal hg2
  rw [hg] at ne
  obtain ⟨k0, k1, k2, k3, k4, k5, k6, k7, k8, k9⟩ := c
  change Calls Tryz.prog 16 #[.agg #[.int .i64 k0, .int .i64 k1, .int .i64 k2, .int .i64 k3, .int .i64 k4, .int .u64 k5, .float .f64 k6, .float .f64 k7, .float .f64 k8, .int .i64 k9], .float .f64 goal, .int .i64 most, .slice a n cp] w _
  obtain ⟨w1, hw1⟩ : ∃ w1, w.alloc (.cells #[.int .i64 k0, .int .i64 k1, .int .i64 k2, .int .i64 k3, .int .i64 k4, .int .u64 k5, .float .f64 k6, .float .f64 k7, .float .f64 k8, .int .i64 k9] 28) = w1 := ⟨_, rfl⟩
  have B1 := Lib.hid (show Below w.heap.size w w1 by rw [← hw1]; exact (Below.refl _ w).alloc (Nat.le_refl _) _)
  have s1 := Lib.hid (show w.heap.size ≤ w1.heap.size by rw [← hw1]; simp)
  go_enter Tryz.func16, Tryz.ntmps16
  go_wp2
  refine bodyPost_ret (v := .tuple #[.int .i64 0, .bool false]) (by simp [results, Tryz.results16, go_sem]) rfl ⟨rfl, ?_⟩
  have b := ((((B1.out.alloc s1.out (.cells #[.float .f64 goal] 26)).alloc (by simp; have := s1.out; omega) (.cells #[.slice a n cp] 25)).alloc (by simp; have := s1.out; omega) (.cells #[.int .i64 0] 3)).alloc (by simp; have := s1.out; omega) (.cells #[.bool false] 4))
  exact b

theorem ad_enough (c : CF) (B : CFB c) (goal : Nat) (hg : isN goal = false) (hg2 : goal < 18446744073709551616) (most : Int) (a : Option Addr) (n cp : Nat) (z : Nat → Int) (w : World) (hr : RdZ2 w a n z) (hn : n ≤ 1000) (hc : n ≤ cp) (hm9 : cp ≤ 9223372036854775807) :
    Calls Tryz.prog 16 #[.agg c.cs, .float .f64 goal, .int .i64 most, .slice a n cp] w fun e W' => e = .returned (.tuple #[.int .i64 (((enE c z n goal (mostN most)).elim 0 (· + 1) : Nat) : Int), .bool (enE c z n goal (mostN most)).isSome]) ∧ Below w.heap.size w W' := by
  have ML := mostN_le most
  have ne := ne_self goal hg2
  rw [hg] at ne
  have RN := Lib.hid (fun (x : Nat) W (k : Below w.heap.size w W) => ad_rate_any (slotC c ((x : Int) + 1)) (slotC_ok B _) a n cp z W (hr.below k) hn hc hm9)
  have SZ := Lib.hid (fun W => sz_sizes W most c)
  have LS := Lib.hid (fun f (hf : f < 18446744073709551616) W => less_any f goal hf hg2 W)
  have OK0 := Lib.hid (fun x => (show okE c z n goal x = match rtX (slotC c ((x : Int) + 1)) z n with | none => false | some f => !(ltB f goal) from rfl))
  unfold enE
  generalize okE c z n goal = ok at *
  generalize hrt : (fun i : Nat => rtX (slotC c ((i : Int) + 1)) z n) = rt at *
  have hrt' : ∀ x : Nat, rtX (slotC c ((x : Int) + 1)) z n = rt x := fun x => congrFun hrt x
  simp only [hrt'] at RN OK0
  have OKN := Lib.hid (fun x (h : rt x = none) => (OK0.out x).trans (by rw [h]))
  have OKS := Lib.hid (fun x f (h : rt x = some f) => (OK0.out x).trans (by rw [h]))
  obtain ⟨k0, k1, k2, k3, k4, k5, k6, k7, k8, k9⟩ := c
  have RN := Lib.hid (fun (x : Nat) W (k : Below w.heap.size w W) => show Calls Tryz.prog 19 #[.agg #[.int .i64 k0, .int .i64 ((x : Int) + 1), .int .i64 k2, .int .i64 k3, .int .i64 k4, .int .u64 k5, .float .f64 k6, .float .f64 k7, .float .f64 k8, .int .i64 k9], .slice a n cp] W (fun e w' => ∃ (f : Nat) (er : Int), e = .returned (.tuple #[.float .f64 f, .int .i64 er]) ∧ (f < 18446744073709551616 ∧ ((er = 0 ∧ cn f = rt x) ∨ (er = 100 ∧ f = 0 ∧ rt x = none))) ∧ Below W.heap.size W w') from RN.out x W k)
  have SZ := Lib.hid (fun W => show Calls Tryz.prog 28 #[.agg #[.int .i64 k0, .int .i64 k1, .int .i64 k2, .int .i64 k3, .int .i64 k4, .int .u64 k5, .float .f64 k6, .float .f64 k7, .float .f64 k8, .int .i64 k9], .int .i64 most] W (fun e w' => e = .returned (.func (.func 37) #[] #[.pointer (some ⟨W.heap.size + 1, 0, none⟩), .pointer (some ⟨W.heap.size, 0, none⟩)]) ∧ w' = (W.alloc (.cells #[.int .i64 k0, .int .i64 k1, .int .i64 k2, .int .i64 k3, .int .i64 k4, .int .u64 k5, .float .f64 k6, .float .f64 k7, .float .f64 k8, .int .i64 k9] 28)).alloc (.cells #[.int .i64 most] 3)) from SZ.out W)
  clear hrt hrt' OK0 B hr
  refine callsIn_wide.1 (?_ : CallsIn Fence.wide 5 Tryz.prog 16 #[.agg #[.int .i64 k0, .int .i64 k1, .int .i64 k2, .int .i64 k3, .int .i64 k4, .int .u64 k5, .float .f64 k6, .float .f64 k7, .float .f64 k8, .int .i64 k9], .float .f64 goal, .int .i64 most, .slice a n cp] w _)
  refine callsIn_of_wp_marks Tryz.func16 rfl trivial ?_ rfl
  simp only [Tryz.ntmps16, List.size_toArray, List.length_cons, List.length_nil, Nat.reduceAdd, Nat.reduceSub, Array.replicate_succ, Array.replicate_zero, List.push_toArray, List.append_toArray, List.nil_append, List.cons_append]
  obtain ⟨w1, hw1⟩ : ∃ w1, w.alloc (.cells #[.int .i64 k0, .int .i64 k1, .int .i64 k2, .int .i64 k3, .int .i64 k4, .int .u64 k5, .float .f64 k6, .float .f64 k7, .float .f64 k8, .int .i64 k9] 28) = w1 := ⟨_, rfl⟩
  have s1 : w1.heap.size = w.heap.size + 1 := by rw [← hw1]; simp
  obtain ⟨w2, hw2⟩ : ∃ w2, w1.alloc (.cells #[.float .f64 goal] 26) = w2 := ⟨_, rfl⟩
  have s2 : w2.heap.size = w.heap.size + 2 := by rw [← hw2]; simp; omega
  obtain ⟨w3, hw3⟩ : ∃ w3, w2.alloc (.cells #[.slice a n cp] 25) = w3 := ⟨_, rfl⟩
  have s3 : w3.heap.size = w.heap.size + 3 := by rw [← hw3]; simp; omega
  obtain ⟨w4, hw4⟩ : ∃ w4, w3.alloc (.cells #[.int .i64 0] 3) = w4 := ⟨_, rfl⟩
  have s4 : w4.heap.size = w.heap.size + 4 := by rw [← hw4]; simp; omega
  obtain ⟨w5, hw5⟩ : ∃ w5, w4.alloc (.cells #[.bool false] 4) = w5 := ⟨_, rfl⟩
  have s5 : w5.heap.size = w.heap.size + 5 := by rw [← hw5]; simp; omega
  have hx1 : w1.heap[w.heap.size]? = some (.cells #[.int .i64 k0, .int .i64 k1, .int .i64 k2, .int .i64 k3, .int .i64 k4, .int .u64 k5, .float .f64 k6, .float .f64 k7, .float .f64 k8, .int .i64 k9] 28) := by rw [← hw1]; exact heap_at w _ _ rfl
  have B1 : Below w.heap.size w w1 := by rw [← hw1]; exact (Below.refl _ w).alloc (Nat.le_refl _) _
  have k12 : Below w1.heap.size w1 w2 := by rw [← hw2]; exact (Below.refl _ w1).alloc (Nat.le_refl _) _
  have k23 : Below w2.heap.size w2 w3 := by rw [← hw3]; exact (Below.refl _ w2).alloc (Nat.le_refl _) _
  have k34 : Below w3.heap.size w3 w4 := by rw [← hw4]; exact (Below.refl _ w3).alloc (Nat.le_refl _) _
  have k45 : Below w4.heap.size w4 w5 := by rw [← hw5]; exact (Below.refl _ w4).alloc (Nat.le_refl _) _
  have k35 : Below w3.heap.size w3 w5 := k34.trans (k45.mono k34.size)
  have k25 : Below w2.heap.size w2 w5 := k23.trans (k35.mono k23.size)
  have k15 : Below w1.heap.size w1 w5 := k12.trans (k25.mono k12.size)
  have B5 : Below w.heap.size w w5 := B1.trans (k15.mono B1.size)
  have hx5 := (k15.block _ (blk_lt' hx1)).trans hx1
  have bG : Boxed w5 (w.heap.size + 1) 26 (.float .f64 goal) := by
    have := Boxed.new w1 26 (.float .f64 goal)
    rw [hw2, s1] at this
    exact (k25.block _ this.lt).trans this
  have bR : Boxed w5 (w.heap.size + 2) 25 (.slice a n cp) := by
    have := Boxed.new w2 25 (.slice a n cp)
    rw [hw3, s2] at this
    exact (k35.block _ this.lt).trans this
  have bN : Boxed w5 (w.heap.size + 3) 3 (.int .i64 0) := by
    have := Boxed.new w3 3 (.int .i64 0)
    rw [hw4, s3] at this
    exact (k45.block _ this.lt).trans this
  have bK : Boxed w5 (w.heap.size + 4) 4 (.bool false) := by
    have := Boxed.new w4 4 (.bool false)
    rw [hw5, s4] at this
    exact this
  have x0 : w5.cell? ⟨w.heap.size, 0, none⟩ = some (.int .i64 k0) := blk_cell' hx5 0
  have x1 : w5.cell? ⟨w.heap.size, 1, none⟩ = some (.int .i64 k1) := blk_cell' hx5 1
  have x2 : w5.cell? ⟨w.heap.size, 2, none⟩ = some (.int .i64 k2) := blk_cell' hx5 2
  have x3 : w5.cell? ⟨w.heap.size, 3, none⟩ = some (.int .i64 k3) := blk_cell' hx5 3
  have x4 : w5.cell? ⟨w.heap.size, 4, none⟩ = some (.int .i64 k4) := blk_cell' hx5 4
  have x5 : w5.cell? ⟨w.heap.size, 5, none⟩ = some (.int .u64 k5) := blk_cell' hx5 5
  have x6 : w5.cell? ⟨w.heap.size, 6, none⟩ = some (.float .f64 k6) := blk_cell' hx5 6
  have x7 : w5.cell? ⟨w.heap.size, 7, none⟩ = some (.float .f64 k7) := blk_cell' hx5 7
  have x8 : w5.cell? ⟨w.heap.size, 8, none⟩ = some (.float .f64 k8) := blk_cell' hx5 8
  have x9 : w5.cell? ⟨w.heap.size, 9, none⟩ = some (.int .i64 k9) := blk_cell' hx5 9
  have xg := bG.cell
  have KK := Lib.hid (And.intro bG (And.intro bR (And.intro bN (And.intro bK B5))))
  clear hx1 hx5 B1 k12 k23 k34 k45 k35 k25 k15 B5 bG bR bN bK
  gi_wp2_with fail
  refine ⟨trivial, (callsIn_wide.2 (SZ.out _)).mono ?_⟩
  rintro e w' ⟨rfl, hw'⟩
  clear hw1 hw2 hw3 hw4 hw5 x0 x1 x2 x3 x4 x5 x6 x7 x8 x9 xg
  obtain ⟨w6, hw6⟩ : ∃ w6, w5.alloc (.cells #[.int .i64 k0, .int .i64 k1, .int .i64 k2, .int .i64 k3, .int .i64 k4, .int .u64 k5, .float .f64 k6, .float .f64 k7, .float .f64 k8, .int .i64 k9] 28) = w6 := ⟨_, rfl⟩
  rw [hw6] at hw'
  have s6 : w6.heap.size = w.heap.size + 6 := by rw [← hw6]; simp; omega
  have s7 : w'.heap.size = w.heap.size + 7 := by rw [hw']; simp; omega
  have bG7 : Boxed w' (w.heap.size + 1) 26 (.float .f64 goal) := by rw [hw', ← hw6]; exact (KK.out.1.alloc _).alloc _
  have bR7 : Boxed w' (w.heap.size + 2) 25 (.slice a n cp) := by rw [hw', ← hw6]; exact (KK.out.2.1.alloc _).alloc _
  have bN7 : Boxed w' (w.heap.size + 3) 3 (.int .i64 0) := by rw [hw', ← hw6]; exact (KK.out.2.2.1.alloc _).alloc _
  have bK7 : Boxed w' (w.heap.size + 4) 4 (.bool false) := by rw [hw', ← hw6]; exact (KK.out.2.2.2.1.alloc _).alloc _
  have B7 : Below w.heap.size w w' := by rw [hw', ← hw6]; exact (KK.out.2.2.2.2.alloc (by omega) _).alloc (by simp; omega) _
  have c7 : w'.heap[w.heap.size + 5]? = some (.cells #[.int .i64 k0, .int .i64 k1, .int .i64 k2, .int .i64 k3, .int .i64 k4, .int .u64 k5, .float .f64 k6, .float .f64 k7, .float .f64 k8, .int .i64 k9] 28) := by
    rw [hw', ← hw6]
    exact (heap_past _ _ _ (by simp; omega)).trans (heap_at w5 _ _ (by omega))
  have m7 : w'.cell? ⟨w.heap.size + 6, 0, none⟩ = some (.int .i64 most) := by
    rw [hw']
    have := (Boxed.new w6 3 (.int .i64 most)).cell
    rw [s6] at this
    exact this
  rw [s5]
  clear hw' hw6 s6 s1 s2 s3 s4 s5
  gi_wp2
  obtain ⟨d, hd⟩ : ∃ d, w.heap.size = d := ⟨_, rfl⟩
  rw [hd] at s7 bG7 bR7 bN7 bK7 B7 c7 m7 ⊢
  have RN := Lib.hid (fun (x : Nat) W (k : Below d w W) => RN.out x W (hd ▸ k))
  refine wpIn_range_writes rfl (by omega) (gf := 37) (lb := #[.pointer (some ⟨d + 6, 0, none⟩), .pointer (some ⟨d + 5, 0, none⟩)]) rfl trivial (enters_of Tryz.func37 (by kernel_rfl) rfl)
    (sz_gives (d + 6) (d + 5) most k0 k1 k2 k3 k4 k5 k9 k6 k7 k8 (by omega) (fun j => j = d + 6 ∨ j = d + 5) (fun j => Iff.rfl) w' m7 c7)
    (fun j (x : j = d + 5) => by omega) (fun j x => by rcases x with x | x <;> omega)
    (fun pre W => (∀ y ∈ pre, ok y = false) ∧ Boxed W (d + 1) 26 (.float .f64 goal) ∧ Boxed W (d + 2) 25 (.slice a n cp) ∧ Boxed W (d + 3) 3 (.int .i64 0) ∧ Boxed W (d + 4) 4 (.bool false) ∧ Below d w W ∧ d + 7 ≤ W.heap.size)
    (fun pre W => ∃ p x, pre = p ++ [x] ∧ (∀ y ∈ p, ok y = false) ∧ ok x = true ∧ Boxed W (d + 3) 3 (.int .i64 ((x : Int) + 1)) ∧ Boxed W (d + 4) 4 (.bool true) ∧ Below d w W ∧ d + 7 ≤ W.heap.size)
    (fun s A B h k => by
      obtain ⟨h1, h2, h3, h4, h5, h6, h7⟩ := h
      rw [s7] at k
      exact ⟨h1, k.blk h2 (by omega), k.blk h3 (by omega), k.blk h4 (by omega), k.blk h5 (by omega), ((Keeps.of_below h6).trans k (fun j x => .inl (by omega))).below (by omega), Nat.le_trans h7 k.size⟩)
    (fun s A B h k => by
      obtain ⟨p, x, h1, h2, h3, h4, h5, h6, h7⟩ := h
      rw [s7] at k
      exact ⟨p, x, h1, h2, h3, k.blk h4 (by omega), k.blk h5 (by omega), ((Keeps.of_below h6).trans k (fun j x => .inl (by omega))).below (by omega), Nat.le_trans h7 k.size⟩) ⟨fun y hy => (by cases hy), bG7, bR7, bN7, bK7, B7, by omega⟩
    (fun x a' W => ∃ B, a' = { tmps := #[.agg #[.int .i64 k0, .int .i64 k1, .int .i64 k2, .int .i64 k3, .int .i64 k4, .int .u64 k5, .float .f64 k6, .float .f64 k7, .float .f64 k8, .int .i64 k9], .float .f64 goal, .int .i64 most, .slice a n cp, .pointer (some ⟨d, 0, none⟩), .pointer (some ⟨d + 1, 0, none⟩), undef, .pointer (some ⟨d + 2, 0, none⟩), .pointer (some ⟨d + 3, 0, none⟩), .pointer (some ⟨d + 4, 0, none⟩), .pointer (some ⟨B, 0, none⟩), undef, undef, .float .f64 goal, .float .f64 goal, .bool false, .agg #[.int .i64 k0, .int .i64 k1, .int .i64 k2, .int .i64 k3, .int .i64 k4, .int .u64 k5, .float .f64 k6, .float .f64 k7, .float .f64 k8, .int .i64 k9], .int .i64 most, (.func (.func 37) #[] #[.pointer (some ⟨d + 6, 0, none⟩), .pointer (some ⟨d + 5, 0, none⟩)]), .agg #[.int .i64 k0, .int .i64 ((x : Int) + 1), .int .i64 k2, .int .i64 k3, .int .i64 k4, .int .u64 k5, .float .f64 k6, .float .f64 k7, .float .f64 k8, .int .i64 k9], undef, undef, undef, undef, undef, undef, undef, undef, undef, undef, undef, undef, undef, undef, undef, undef, undef, undef, undef, undef, undef], defers := [] } ∧ W.heap[B]? = some (.cells #[.int .i64 k0, .int .i64 ((x : Int) + 1), .int .i64 k2, .int .i64 k3, .int .i64 k4, .int .u64 k5, .float .f64 k6, .float .f64 k7, .float .f64 k8, .int .i64 k9] 28) ∧ d + 9 ≤ B)
    (fun x a' A B h k => by
      obtain ⟨C, e, hc, hge⟩ := h
      rw [s7] at k
      exact ⟨C, e, k.blk hc (by omega), hge⟩) ?assign ?body ?done ?stop
  case assign =>
    intro l pre x W K ⟨h1, h2, h3, h4, h5, h6, h7⟩ hsz hK
    rw [s7] at hK hsz
    have hz := heap_at W (.cells #[.int .i64 0, .int .i64 0, .int .i64 0, .int .i64 0, .int .i64 0, .int .u64 0, .float .f64 0, .float .f64 0, .float .f64 0, .int .i64 0] 28) _ rfl
    have TH := Lib.hid (there_of (n := 10) hz (by decide))
    gi_wp2_with (
      refine wpListIn_store_mid rfl 28 (.tmp 10) (.tmp 19) rfl W.heap.size 0 #[.int .i64 k0, .int .i64 ((x : Int) + 1), .int .i64 k2, .int .i64 k3, .int .i64 k4, .int .u64 k5, .float .f64 k6, .float .f64 k7, .float .f64 k8, .int .i64 k9] rfl rfl TH.out (by kernel_rfl) (by simp [Value.oneCell']) ?_
      obtain ⟨w3, hw3, C3, K3, S3⟩ := cells_all hz #[.int .i64 k0, .int .i64 ((x : Int) + 1), .int .i64 k2, .int .i64 k3, .int .i64 k4, .int .u64 k5, .float .f64 k6, .float .f64 k7, .float .f64 k8, .int .i64 k9] rfl
      rw [hw3])
    have K3' : Keeps (fun j => W.heap.size ≤ j) W w3 := (((Keeps.refl (fun j => W.heap.size ≤ j) W).alloc _).trans K3 (fun j (hj : j = W.heap.size) => .inl (by omega)))
    exact hK _ _ ⟨K3'.block _ (by omega) (by omega), K3'.block _ (by omega) (by omega)⟩ (K3'.mono (fun j hj x y => by rcases y with y | y <;> omega)) ⟨h1, K3'.blk h2 (by omega), K3'.blk h3 (by omega), K3'.blk h4 (by omega), K3'.blk h5 (by omega), h6.trans ((K3'.mono (fun j _ (x : W.heap.size ≤ j) => (show d ≤ j by omega))).below (by omega)), by have := K3'.size; omega⟩ ⟨W.heap.size, rfl, C3, by omega⟩
  case body =>
    rintro l pre x a' W hsz ⟨h1, h2, h3, h4, h5, h6, h7⟩ ⟨B, rfl, hb, hBd⟩ hlt
    rw [s7] at hsz
    have x0 : W.cell? ⟨B, 0, none⟩ = some (.int .i64 k0) := blk_cell' hb 0
    have x1 : W.cell? ⟨B, 1, none⟩ = some (.int .i64 ((x : Int) + 1)) := blk_cell' hb 1
    have x2 : W.cell? ⟨B, 2, none⟩ = some (.int .i64 k2) := blk_cell' hb 2
    have x3 : W.cell? ⟨B, 3, none⟩ = some (.int .i64 k3) := blk_cell' hb 3
    have x4 : W.cell? ⟨B, 4, none⟩ = some (.int .i64 k4) := blk_cell' hb 4
    have x5 : W.cell? ⟨B, 5, none⟩ = some (.int .u64 k5) := blk_cell' hb 5
    have x6 : W.cell? ⟨B, 6, none⟩ = some (.float .f64 k6) := blk_cell' hb 6
    have x7 : W.cell? ⟨B, 7, none⟩ = some (.float .f64 k7) := blk_cell' hb 7
    have x8 : W.cell? ⟨B, 8, none⟩ = some (.float .f64 k8) := blk_cell' hb 8
    have x9 : W.cell? ⟨B, 9, none⟩ = some (.int .i64 k9) := blk_cell' hb 9
    have hRc := h3.cell
    have RX := RN.out x W h6
    gi_wp2_with fail
    clear x0 x1 x2 x3 x4 x5 x6 x7 x8 x9
    refine ⟨trivial, (callsIn_wide.2 RX).mono ?_⟩
    rintro e W2 ⟨f, er, rfl, ⟨hf, hcase⟩, b2⟩
    have k2 : Keeps (fun j => W.heap.size ≤ j) W W2 := Keeps.of_below b2
    have K2 := Lib.hid k2
    have g1 : Boxed W2 (d + 1) 26 (.float .f64 goal) := k2.blk h2 (show ¬ W.heap.size ≤ d + 1 by omega)
    have g2 : Boxed W2 (d + 2) 25 (.slice a n cp) := k2.blk h3 (show ¬ W.heap.size ≤ d + 2 by omega)
    have g3 : Boxed W2 (d + 3) 3 (.int .i64 0) := k2.blk h4 (show ¬ W.heap.size ≤ d + 3 by omega)
    have g4 : Boxed W2 (d + 4) 4 (.bool false) := k2.blk h5 (show ¬ W.heap.size ≤ d + 4 by omega)
    have hbB := k2.blk hb (show ¬ W.heap.size ≤ B from Nat.not_le.2 (blk_lt' hb))
    have b6 : Below d w W2 := h6.trans ((k2.mono (fun j _ (x : W.heap.size ≤ j) => (show d ≤ j by omega))).below (by omega))
    have fin : ok x = false → ∀ a3 : Act, roundEnd w'.heap.size (fun j => j = d + 6 ∨ j = d + 5) (fun pre W => (∀ y ∈ pre, ok y = false) ∧ Boxed W (d + 1) 26 (.float .f64 goal) ∧ Boxed W (d + 2) 25 (.slice a n cp) ∧ Boxed W (d + 3) 3 (.int .i64 0) ∧ Boxed W (d + 4) 4 (.bool false) ∧ Below d w W ∧ d + 7 ≤ W.heap.size)
        (fun pre W => ∃ p x, pre = p ++ [x] ∧ (∀ y ∈ p, ok y = false) ∧ ok x = true ∧ Boxed W (d + 3) 3 (.int .i64 ((x : Int) + 1)) ∧ Boxed W (d + 4) 4 (.bool true) ∧ Below d w W ∧ d + 7 ≤ W.heap.size) (pre ++ [x]) W .normal a3 W2 := fun ho a3 => by
      refine ⟨⟨k2.block _ (by omega) (by omega), k2.block _ (by omega) (by omega)⟩, k2.mono (fun j hj x y => by rcases y with y | y <;> omega), ⟨fun y hy => ?_, g1, g2, g3, g4, b6, by have := k2.size; omega⟩⟩
      rcases List.mem_append.1 hy with hy | hy
      · exact h1 y hy
      · rw [List.mem_singleton.1 hy]; exact ho
    have FIN := Lib.hid fin
    have G34 := Lib.hid (And.intro g3 (And.intro g4 (And.intro b6 (And.intro hbB h1))))
    have xg := g1.cell
    clear fin b2 RX k2 hb h2 h3 h4 h5 h6 h7 h1 g1 g2 b6
    rcases hcase with ⟨rfl, hcf⟩ | ⟨rfl, rfl, hrt⟩
    · have nf := ne_self f hf
      cases hN : isN f
      · rw [cnN_num hN] at hcf
        rw [hN] at nf
        have nf' : (FloatKind.f64.format.order f f == some .eq) = true := by simpa using nf
        have OX := OKS.out x f hcf.symm
        have LX := Lib.hid (LS.out f hf)
        cases hL : ltB f goal
        · rw [hL] at OX LX
          have OX := Lib.hid (show ok x = true from OX)
          have xs : W2.cell? ⟨B, 1, none⟩ = some (.int .i64 ((x : Int) + 1)) := blk_cell' G34.out.2.2.2.1 1
          have f3 := g3.frozen
          obtain ⟨w3, hw3⟩ : ∃ w3, W2.setCell ⟨d + 3, 0, none⟩ (.int .i64 ((x : Int) + 1)) = w3 := ⟨_, rfl⟩
          have e3 : Boxed w3 (d + 3) 3 (.int .i64 ((x : Int) + 1)) := by rw [← hw3]; exact G34.out.1.set _
          have e4 : Boxed w3 (d + 4) 4 (.bool false) := by rw [← hw3]; exact G34.out.2.1.other (by omega) _
          have c4 := e4.cell
          have f4 := e4.frozen
          have c3 := g3.cell
          have K3 := Lib.hid (show Keeps (fun j => W.heap.size ≤ j ∨ j = d + 3) W w3 by rw [← hw3]; exact (K2.out.mono (fun j _ x => .inl x)).setCell (p := ⟨d + 3, 0, none⟩) (.inl (.inr rfl)) _)
          have B3 := Lib.hid (show Below d w w3 by rw [← hw3]; exact G34.out.2.2.1.setCell (p := ⟨d + 3, 0, none⟩) (by show d ≤ d + 3; omega) _)
          obtain ⟨w4, hw4⟩ : ∃ w4, w3.setCell ⟨d + 4, 0, none⟩ (.bool true) = w4 := ⟨_, rfl⟩
          have K4 := Lib.hid (show Keeps (fun j => W.heap.size ≤ j ∨ j = d + 3 ∨ j = d + 4) W w4 by rw [← hw4]; exact (K3.out.mono (fun j _ x => by omega)).setCell (p := ⟨d + 4, 0, none⟩) (.inl (.inr (.inr rfl))) _)
          have E34 := Lib.hid (show Boxed w4 (d + 3) 3 (.int .i64 ((x : Int) + 1)) ∧ Boxed w4 (d + 4) 4 (.bool true) ∧ Below d w w4 by
            rw [← hw4]
            exact ⟨e3.other (by omega) _, e4.set _, B3.out.setCell (p := ⟨d + 4, 0, none⟩) (by show d ≤ d + 4; omega) _⟩)
          clear nf hcf hN hL FIN g3 g4 e3 e4 hf
          gi_wp2_with fail
          refine ⟨trivial, (callsIn_wide.2 (LX.out _)).mono ?_⟩
          rintro e _ ⟨rfl, rfl⟩
          gi_wp2
          exact ⟨⟨K4.out.block _ (by omega) (by omega), K4.out.block _ (by omega) (by omega)⟩, pre, x, rfl, G34.out.2.2.2.2, OX.out, E34.out.1, E34.out.2.1, E34.out.2.2, by have := K4.out.size; omega⟩
        · rw [hL] at OX LX
          have OX := Lib.hid (FIN.out OX)
          clear nf hcf hN hL FIN g3 g4 hf
          gi_wp2_with fail
          refine ⟨trivial, (callsIn_wide.2 (LX.out _)).mono ?_⟩
          rintro e _ ⟨rfl, rfl⟩
          gi_wp2
          exact OX.out _
      · rw [cnN_nan hN] at hcf
        rw [hN] at nf
        have nf' : (FloatKind.f64.format.order f f == some .eq) = false := by simpa using nf
        have OKx := Lib.hid (FIN.out (OKN.out x hcf.symm))
        clear nf hcf hN FIN g3 g4 hf
        gi_wp2
        refine ⟨trivial, ?_⟩
        gi_wp2
        exact OKx.out _
    · have OKx := Lib.hid (FIN.out (OKN.out x hrt))
      clear hrt FIN g3 g4
      gi_wp2
      refine ⟨trivial, ?_⟩
      gi_wp2
      exact OKx.out _
  case done =>
    rintro ys W rfl ⟨h1, h2, h3, h4, h5, h6, h7⟩ hD
    have FD := Lib.hid (find_none h1)
    obtain ⟨w3, hw3⟩ : ∃ w3, W.setCell ⟨d + 3, 0, none⟩ (.int .i64 0) = w3 := ⟨_, rfl⟩
    have f3 := h4.frozen
    have c3 := h4.cell
    have e3 : Boxed w3 (d + 3) 3 (.int .i64 0) := by rw [← hw3]; exact h4.set _
    have e4 : Boxed w3 (d + 4) 4 (.bool false) := by rw [← hw3]; exact h5.other (by omega) _
    have c4 := e4.cell
    have f4 := e4.frozen
    obtain ⟨w4, hw4⟩ : ∃ w4, w3.setCell ⟨d + 4, 0, none⟩ (.bool false) = w4 := ⟨_, rfl⟩
    have g3 : Boxed w4 (d + 3) 3 (.int .i64 0) := by rw [← hw4]; exact e3.other (by omega) _
    have g4 : Boxed w4 (d + 4) 4 (.bool false) := by rw [← hw4]; exact e4.set _
    have B4 : Below d w w4 := by rw [← hw4, ← hw3]; exact (h6.setCell (p := ⟨d + 3, 0, none⟩) (by show d ≤ d + 3; omega) _).setCell (p := ⟨d + 4, 0, none⟩) (by show d ≤ d + 4; omega) _
    have hD4 : w4.heap[w'.heap.size]? = some (.deferred (some [])) := by
      rw [← hw4, ← hw3, Below.heap_setCell _ _ _ _ (by show w'.heap.size ≠ d + 4; omega), Below.heap_setCell _ _ _ _ (by show w'.heap.size ≠ d + 3; omega)]
      exact hD
    have hb := B4.trans (belowK_b (w := w) (by omega) w4 w'.heap.size (.deferred (some [])) (.deferred none) (by omega) hD4 rfl rfl)
    rw [← hd] at hb
    have HB := Lib.hid hb
    have q3 : Boxed (w4.putObj w'.heap.size (.deferred none)) (d + 3) 3 (.int .i64 0) := (World.putObj_heap_other (o := .deferred none) (show d + 3 ≠ w'.heap.size by omega)).trans g3
    have r3 := q3.cell
    have q4 : Boxed (w4.putObj w'.heap.size (.deferred none)) (d + 4) 4 (.bool false) := (World.putObj_heap_other (o := .deferred none) (show d + 4 ≠ w'.heap.size by omega)).trans g4
    have r4 := q4.cell
    have HD4 := Lib.hid hD4
    clear hb hD4 B4 h1 h2 h3 h6 g3 g4 e3 e4
    gi_wp2
    refine ⟨by simp, .inl ⟨_, _, rfl, run_takeDeferred HD4.out, ?_⟩⟩
    refine ⟨.tuple #[.int .i64 0, .bool false], by simp [results, Tryz.results16, go_sem, r3, r4], by rw [FD.out]; rfl, HB.out⟩
  case stop =>
    rintro pre W hpre ⟨p, x, rfl, h1, h2, h3, h4, h5, h6⟩ hD
    have FD := Lib.hid (find_first hpre h1 h2)
    have hb := h5.trans (belowK_b (w := w) (by omega) W w'.heap.size (.deferred (some [])) (.deferred none) (by omega) hD rfl rfl)
    rw [← hd] at hb
    have HB := Lib.hid hb
    have q3 : Boxed (W.putObj w'.heap.size (.deferred none)) (d + 3) 3 (.int .i64 ((x : Int) + 1)) := (World.putObj_heap_other (o := .deferred none) (show d + 3 ≠ w'.heap.size by omega)).trans h3
    have r3 := q3.cell
    have q4 : Boxed (W.putObj w'.heap.size (.deferred none)) (d + 4) 4 (.bool true) := (World.putObj_heap_other (o := .deferred none) (show d + 4 ≠ w'.heap.size by omega)).trans h4
    have r4 := q4.cell
    gi_wp2
    refine ⟨by simp, .inl ⟨_, _, rfl, run_takeDeferred hD, ?_⟩⟩
    refine ⟨.tuple #[.int .i64 ((x : Int) + 1), .bool true], by simp [results, Tryz.results16, go_sem, r3, r4], by rw [FD.out]; simp, HB.out⟩
end Go.Proofs.YtbgknopjgohocaaGreat
