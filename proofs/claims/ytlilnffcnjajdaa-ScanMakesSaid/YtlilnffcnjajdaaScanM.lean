/- Which watches there are: the walk of the statement. -/
import Derived.Test.YtlilnffcnjajdaaScanC
namespace Go.Proofs.Ytlilnffcnjajdaa
open Go.RowKit Scan

def OddAt (w : World) (b : Nat) : Prop := w.heap[b]? = some (.cells #[.bool false, .int .i64 0, .pointer none, .int .i64 0, .int .i64 0] 36 (0, 0))

theorem sOddReset (N b : Nat) (w : World) (h : OddAt w b) (hN : N ≤ b) :
    Calls Try.prog 18 #[.pointer (some ⟨b, 0, none⟩)] w fun e w' => e = .returned (.tuple #[]) ∧ OddAt w' b ∧ Keeps (fun k => N ≤ k) w w' := by
  unfold OddAt at *
  have hfz := blk_free h
  have h2 : w.cell? ⟨b, 2, none⟩ = some (.pointer none) := by rw [blk_cell' h]; rfl
  have h3 : w.cell? ⟨b, 3, none⟩ = some (.int .i64 0) := by rw [blk_cell' h]; rfl
  have HB := Lib.hid h
  clear h
  go_enter Try.func18, Try.ntmps18
  go_wp2
  go_end0
  refine ⟨rfl, ?_, ?_⟩
  · simp only [heap_set, HB.out, Option.map_some, setObj]; rfl
  · repeat (with_reducible first | exact Keeps.refl _ _ | refine Keeps.setCell ?_ (.inl hN) _)

theorem sOddRow (b : Nat) (w : World) (h : OddAt w b) :
    Calls Try.prog 14 #[.pointer (some ⟨b, 0, none⟩)] w fun e w' => e = .returned (.int .i64 0) ∧ w = w' := by
  unfold OddAt at *
  have h3 : w.cell? ⟨b, 3, none⟩ = some (.int .i64 0) := by rw [blk_cell' h]; rfl
  clear h
  go_enter Try.func14, Try.ntmps14
  go_wp2
  go_ret
  exact ⟨rfl, rfl⟩

theorem sOddScans (b : Nat) (w : World) (h : OddAt w b) :
    Calls Try.prog 16 #[.pointer (some ⟨b, 0, none⟩)] w fun e w' => e = .returned (.int .i64 0) ∧ w = w' := by
  unfold OddAt at *
  have h3 : w.cell? ⟨b, 4, none⟩ = some (.int .i64 0) := by rw [blk_cell' h]; rfl
  clear h
  go_enter Try.func16, Try.ntmps16
  go_wp2
  go_ret
  exact ⟨rfl, rfl⟩

theorem Keeps.up {S T : Nat → Prop} {w w' : World} (h : Keeps S w w') (hs : ∀ n, S n → T n) : Keeps T w w' := h.mono (fun n _ => hs n)

theorem makes_walk (long lba : Int) (w : World) :
    Calls Try.prog 4 #[.int .i64 long, .int .i64 lba] w fun e w' => e = .returned (.bool true) ∧ Keeps (fun k => w.heap.size ≤ k) w w' := by
  by_cases h : 0 ≤ long ∧ long ≤ 1048576
  · go_enter Try.func4, Try.ntmps4
    go_wp2_with fail
    refine (sNew_yes long w h.1 h.2).mono ?_
    rintro e w0 ⟨rfl, rfl⟩
    obtain ⟨g1, g2⟩ := h
    go_wp2_with fail
    have k0 := ((Keeps.refl (fun k => w.heap.size ≤ k) w).alloc (.cells #[.bool true, .int .i64 long, .pointer none, .int .i64 0, .int .i64 0] 36)).alloc (.cells #[.bool false, .int .i64 0, .pointer none, .int .i64 0, .int .i64 0] 36)
    refine (sNilReset _).mono ?_
    rintro e w1 ⟨rfl, rfl⟩
    go_wp2_with fail
    refine (sOddReset w.heap.size (w.heap.size + 1) _ (heap_at _ _ _ (by simp)) (by omega)).mono ?_
    rintro e w2 ⟨rfl, h2, k2⟩
    have q2 := k0.trans k2 (fun n hn => .inl hn)
    clear k0 k2
    go_wp2_with fail
    refine (sNilNote lba _).mono ?_
    rintro e w3 ⟨rfl, k3⟩
    have h3 : OddAt w3 (w.heap.size + 1) := k3.blk h2 (fun h => h)
    have q3 := q2.trans k3 (fun n hn => hn.elim)
    clear q2 h2 k3
    go_wp2_with fail
    refine (sOddNote (w.heap.size + 1) lba _ h3).mono ?_
    rintro e w4 ⟨rfl, k4⟩
    have h4 : OddAt w4 (w.heap.size + 1) := k4.blk h3 (fun h => h)
    have q4 := q3.trans k4 (fun n hn => hn.elim)
    clear q3 h3 k4
    go_wp2_with fail
    refine (sNilRow _).mono ?_
    rintro e w5 ⟨rfl, rfl⟩
    go_wp2_with fail
    refine (sOddRow _ _ h4).mono ?_
    rintro e w5 ⟨rfl, rfl⟩
    go_wp2_with fail
    refine (sNilScans _).mono ?_
    rintro e w5 ⟨rfl, rfl⟩
    go_wp2_with fail
    refine (sOddScans _ _ h4).mono ?_
    rintro e w5 ⟨rfl, rfl⟩
    go_wp2_with fail
    refine (sAwake _).mono ?_
    rintro e w6 ⟨rfl, k6⟩
    have q6 := q4.trans k6 (fun n hn => .inr (Nat.le_trans q4.size hn))
    clear q4 k6 h4
    go_wp2
    go_ret
    exact ⟨rfl, q6⟩
  · go_enter Try.func4, Try.ntmps4
    go_wp2_with fail
    refine (sNew_no long w h).mono ?_
    rintro e w0 ⟨rfl, rfl⟩
    have k0 := (Keeps.refl (fun k => w.heap.size ≤ k) w).alloc (.cells #[.bool false, .int .i64 0, .pointer none, .int .i64 0, .int .i64 0] 36)
    have hok : ¬ (0 ≤ long) ∨ (0 ≤ long ∧ 1048576 < long) := by omega
    clear h
    rcases hok with h | ⟨h, h'⟩
    all_goals
      go_wp2_with fail
      refine (sNilReset _).mono ?_
      rintro e w1 ⟨rfl, rfl⟩
      go_wp2_with fail
      refine (sOddReset w.heap.size (w.heap.size) _ (heap_at _ _ _ (by simp)) (by omega)).mono ?_
      rintro e w2 ⟨rfl, h2, k2⟩
      have q2 := k0.trans k2 (fun n hn => .inl hn)
      clear k0 k2
      go_wp2_with fail
      refine (sNilNote lba _).mono ?_
      rintro e w3 ⟨rfl, k3⟩
      have h3 : OddAt w3 (w.heap.size) := k3.blk h2 (fun h => h)
      have q3 := q2.trans k3 (fun n hn => hn.elim)
      clear q2 h2 k3
      go_wp2_with fail
      refine (sOddNote (w.heap.size) lba _ h3).mono ?_
      rintro e w4 ⟨rfl, k4⟩
      have h4 : OddAt w4 (w.heap.size) := k4.blk h3 (fun h => h)
      have q4 := q3.trans k4 (fun n hn => hn.elim)
      clear q3 h3 k4
      go_wp2_with fail
      refine (sNilRow _).mono ?_
      rintro e w5 ⟨rfl, rfl⟩
      go_wp2_with fail
      refine (sOddRow _ _ h4).mono ?_
      rintro e w5 ⟨rfl, rfl⟩
      go_wp2_with fail
      refine (sNilScans _).mono ?_
      rintro e w5 ⟨rfl, rfl⟩
      go_wp2_with fail
      refine (sOddScans _ _ h4).mono ?_
      rintro e w5 ⟨rfl, rfl⟩
      go_wp2_with fail
      refine (sAwake _).mono ?_
      rintro e w6 ⟨rfl, k6⟩
      have q6 := q4.trans k6 (fun n hn => .inr (Nat.le_trans q4.size hn))
      clear q4 k6 h4
      go_wp2
      go_ret
      exact ⟨rfl, q6⟩

end Go.Proofs.Ytlilnffcnjajdaa
