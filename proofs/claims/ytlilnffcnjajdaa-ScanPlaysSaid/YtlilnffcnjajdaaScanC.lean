/- The rest of a watch's calls, and the page's example. -/
import Derived.Test.YtlilnffcnjajdaaScanW
import Derived.Test.YtlilnffcnjajdaaScanR
namespace Go.Proofs.Ytlilnffcnjajdaa
open Go.RowKit Scan

theorem sNew_yes (long : Int) (w : World) (h0 : 0 ≤ long) (h1 : long ≤ 1048576) :
    Calls Try.prog 11 #[.int .i64 long] w fun e w' => e = .returned (.tuple #[.pointer (some ⟨w.heap.size, 0, none⟩), .int .i64 0]) ∧
      w.alloc (.cells #[.bool true, .int .i64 long, .pointer none, .int .i64 0, .int .i64 0] 36) = w' := by
  go_enter Try.func11, Try.ntmps11
  go_wp2
  go_ret2
  exact ⟨rfl, rfl⟩

theorem sNew_no (long : Int) (w : World) (h : ¬ (0 ≤ long ∧ long ≤ 1048576)) :
    Calls Try.prog 11 #[.int .i64 long] w fun e w' => e = .returned (.tuple #[.pointer none, .int .i64 1]) ∧ w = w' := by
  by_cases h0 : 0 ≤ long
  · have h1 : 1048576 < long := by omega
    clear h
    go_enter Try.func11, Try.ntmps11
    go_wp2
    go_ret2
    exact ⟨rfl, rfl⟩
  · clear h
    go_enter Try.func11, Try.ntmps11
    go_wp2
    go_ret2
    exact ⟨rfl, rfl⟩

theorem watch_new (S : Nat → Prop) (w : World) (long : Int) (hS : S w.heap.size) :
    WatchAt S (w.alloc (.cells #[.bool true, .int .i64 long, .pointer none, .int .i64 0, .int .i64 0] 36)) w.heap.size ⟨long, none, 0, 0⟩ :=
  ⟨hS, _, heap_at _ _ _ rfl, rfl⟩

theorem sRow_any {S : Nat → Prop} {w : World} {b : Nat} {x : Wt} (h : WatchAt S w b x) :
    Calls Try.prog 14 #[.pointer (some ⟨b, 0, none⟩)] w fun e w' => e = .returned (.int .i64 x.row) ∧ w = w' := by
  obtain ⟨_, lp, hb, _⟩ := h
  have h3 : w.cell? ⟨b, 3, none⟩ = some (.int .i64 x.row) := by rw [blk_cell' hb]; rfl
  clear hb
  go_enter Try.func14, Try.ntmps14
  go_wp2
  go_ret
  exact ⟨rfl, rfl⟩

theorem sScans_any {S : Nat → Prop} {w : World} {b : Nat} {x : Wt} (h : WatchAt S w b x) :
    Calls Try.prog 16 #[.pointer (some ⟨b, 0, none⟩)] w fun e w' => e = .returned (.int .i64 x.scans) ∧ w = w' := by
  obtain ⟨_, lp, hb, _⟩ := h
  have h3 : w.cell? ⟨b, 4, none⟩ = some (.int .i64 x.scans) := by rw [blk_cell' hb]; rfl
  clear hb
  go_enter Try.func16, Try.ntmps16
  go_wp2
  go_ret
  exact ⟨rfl, rfl⟩

theorem sReset_any {S : Nat → Prop} {w : World} {b : Nat} {x : Wt} (h : WatchAt S w b x) :
    Calls Try.prog 18 #[.pointer (some ⟨b, 0, none⟩)] w fun e w' => e = .returned (.tuple #[]) ∧ WatchAt S w' b { x with row := 0, last := none } ∧ Keeps S w w' := by
  obtain ⟨hS, lp, hb, _⟩ := h
  have hfz := blk_free hb
  have h2 : w.cell? ⟨b, 2, none⟩ = some lp := by rw [blk_cell' hb]; rfl
  have h3 : w.cell? ⟨b, 3, none⟩ = some (.int .i64 x.row) := by rw [blk_cell' hb]; rfl
  have HB := Lib.hid hb
  clear hb
  go_enter Try.func18, Try.ntmps18
  go_wp2
  go_end0
  refine ⟨rfl, ⟨hS, .pointer none, ?_, rfl⟩, ?_⟩
  · simp only [heap_set, HB.out, Option.map_some, setObj]; rfl
  · repeat (with_reducible first | exact Keeps.refl _ _ | apply Keeps.drewN | apply Keeps.alloc | refine Keeps.setCell ?_ (.inl hS) _)

theorem sNilNote (lba : Int) (w : World) :
    Calls Try.prog 12 #[.pointer none, .int .i64 lba] w fun e w' => e = .returned (.bool false) ∧ Keeps (fun _ => False) w w' := by
  go_enter Try.func12, Try.ntmps12
  go_wp2
  go_ret
  exact ⟨rfl, ((Keeps.refl _ _).alloc _).alloc _⟩

theorem sOddNote (b : Nat) (lba : Int) (w : World) (h : w.heap[b]? = some (.cells #[.bool false, .int .i64 0, .pointer none, .int .i64 0, .int .i64 0] 36 (0, 0))) :
    Calls Try.prog 12 #[.pointer (some ⟨b, 0, none⟩), .int .i64 lba] w fun e w' => e = .returned (.bool false) ∧ Keeps (fun _ => False) w w' := by
  have h0 : w.cell? ⟨b, 0, none⟩ = some (.bool false) := by rw [blk_cell' h]; rfl
  have hlt := blk_lt' h
  clear h
  go_enter Try.func12, Try.ntmps12
  go_wp2
  go_ret
  exact ⟨rfl, ((Keeps.refl _ _).alloc _).alloc _⟩

theorem sNilReset (w : World) :
    Calls Try.prog 18 #[.pointer none] w fun e w' => e = .returned (.tuple #[]) ∧ w = w' := by
  go_enter Try.func18, Try.ntmps18
  go_wp2
  go_end0
  exact ⟨rfl, rfl⟩

theorem sNilRow (w : World) :
    Calls Try.prog 14 #[.pointer none] w fun e w' => e = .returned (.int .i64 0) ∧ w = w' := by
  go_enter Try.func14, Try.ntmps14
  go_wp2
  go_ret
  exact ⟨rfl, rfl⟩

theorem sNilScans (w : World) :
    Calls Try.prog 16 #[.pointer none] w fun e w' => e = .returned (.int .i64 0) ∧ w = w' := by
  go_enter Try.func16, Try.ntmps16
  go_wp2
  go_ret
  exact ⟨rfl, rfl⟩

/-- The page's example comes out. -/
theorem sAwake (w : World) : Calls Try.prog 19 #[] w fun e w' => e = .returned (.bool true) ∧ Keeps (fun k => w.heap.size ≤ k) w w' := by
  go_enter Try.func19, Try.ntmps19
  go_wp2_with (go_at_call 11; refine (sNew_yes 3 _ (by omega) (by omega)).mono ?_; rintro e w' ⟨rfl, rfl⟩)
  have h0 := watch_new (fun k => w.heap.size ≤ k) w 3 (Nat.le_refl _)
  have k0 := (Keeps.refl (fun k => w.heap.size ≤ k) w).alloc (.cells #[.bool true, .int .i64 3, .pointer none, .int .i64 0, .int .i64 0] 36)
  generalize w.alloc (.cells #[.bool true, .int .i64 3, .pointer none, .int .i64 0, .int .i64 0] 36) = w0 at *
  refine (note_own (y := ⟨3, some 4, 1, 0⟩) (r := false) h0 k0.size 4 (by simp) (by simp) (by simp) (by decide) rfl).mono ?_
  rintro e w1 ⟨rfl, h1, k1⟩
  have q1 := k0.trans k1 (fun n hn => .inl hn)
  go_wp2_with fail
  refine (note_own (y := ⟨3, some 5, 2, 0⟩) (r := false) h1 q1.size 5 (by simp) (by simp) (by simp) (by decide) rfl).mono ?_
  rintro e w2 ⟨rfl, h2, k2⟩
  have q2 := q1.trans k2 (fun n hn => .inl hn)
  go_wp2_with fail
  refine (note_own (y := ⟨3, some 6, 3, 1⟩) (r := true) h2 q2.size 6 (by simp) (by simp) (by simp) (by decide) rfl).mono ?_
  rintro e w3 ⟨rfl, h3, k3⟩
  have q3 := q2.trans k3 (fun n hn => .inl hn)
  go_wp2_with fail
  refine (note_own (y := ⟨3, some 7, 4, 1⟩) (r := true) h3 q3.size 7 (by simp) (by simp) (by simp) (by decide) rfl).mono ?_
  rintro e w4 ⟨rfl, h4, k4⟩
  have q4 := q3.trans k4 (fun n hn => .inl hn)
  go_wp2_with fail
  refine (note_own (y := ⟨3, some 9, 1, 1⟩) (r := false) h4 q4.size 9 (by simp) (by simp) (by simp) (by decide) rfl).mono ?_
  rintro e w5 ⟨rfl, h5, k5⟩
  have q5 := q4.trans k5 (fun n hn => .inl hn)
  go_wp2_with fail
  refine (sScans_any h5).mono ?_
  rintro e w6 ⟨rfl, rfl⟩
  go_wp2_with fail
  refine (sRow_any h5).mono ?_
  rintro e w6 ⟨rfl, rfl⟩
  go_wp2
  go_ret
  exact ⟨rfl, q5⟩

end Go.Proofs.Ytlilnffcnjajdaa
