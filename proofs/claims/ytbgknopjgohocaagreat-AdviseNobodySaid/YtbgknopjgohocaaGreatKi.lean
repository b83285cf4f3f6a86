/- Settings of one slot, of two, and so on: the iterator. -/
import Derived.Test.YtbgknopjgohocaaGreatKg
import Derived.Test.YtbgknopjgohocaaGreatKh
namespace Go.Proofs.YtbgknopjgohocaaGreat
open Go.RowKit Go.Shelf
open Scan hiding isN
set_option linter.unusedVariables false
set_option maxRecDepth 100000
set_option maxHeartbeats 2000000
attribute [local go_sem] Oper.semAt_some

/-- Settings with so many slots. -/
def slotC (c : CF) (v : Int) : CF := { c with slots := v }
theorem slotC_cs (c : CF) (v : Int) : (slotC c v).cs = #[.int .i64 c.blocks, .int .i64 v, .int .i64 c.log, .int .i64 c.window, .int .i64 c.budget, .int .u64 c.seed, .float .f64 c.keep, .float .f64 c.margin, .float .f64 c.ghost, .int .i64 c.run] := rfl
def mostN (most : Int) : Nat := (clampI most 0 192).toNat
theorem mostN_int (most : Int) : (mostN most : Int) = clampI most 0 192 := by
  unfold mostN clampI
  repeat' split
  all_goals omega
theorem mostN_le (most : Int) : mostN most ≤ 192 := by
  have := mostN_int most
  unfold clampI at this
  repeat' split at this
  all_goals omega

theorem range_prefix {k m : Nat} (h : k ≤ m) : List.range k <+: List.range m := by
  obtain ⟨d, rfl⟩ : ∃ d, m = k + d := ⟨m - k, by omega⟩
  exact ⟨_, (List.range_add ..).symm⟩

theorem box_set {W : World} {b : Nat} {k0 k1 k2 k3 k4 k5 k9 v : Int} {k6 k7 k8 : Nat} (h : W.heap[b]? = some (.cells #[.int .i64 k0, .int .i64 k1, .int .i64 k2, .int .i64 k3, .int .i64 k4, .int .u64 k5, .float .f64 k6, .float .f64 k7, .float .f64 k8, .int .i64 k9] 28)) :
    (W.setCell ⟨b, 1, none⟩ (.int .i64 v)).heap[b]? = some (.cells #[.int .i64 k0, .int .i64 v, .int .i64 k2, .int .i64 k3, .int .i64 k4, .int .u64 k5, .float .f64 k6, .float .f64 k7, .float .f64 k8, .int .i64 k9] 28) := by
  rw [heap_set, h]
  rfl

theorem sz_each1 (l bm bc : Nat) (most : Int) (k0 k1 k2 k3 k4 k5 k9 : Int) (k6 k7 k8 : Nat) (hne : bm ≠ bc) (T : Nat → Prop) (hT : ∀ j, T j ↔ (j = bm ∨ j = bc)) (J Jx : List Nat → World → Prop) (hJ : ∀ s A B, J s A → Keeps (fun j => j = bc) A B → J s B)
    (hY : ∀ pre (x : Nat) W, J pre W → pre.length < mostN most → YieldAt Fence.wide 3 Tryz.prog l #[.agg #[.int .i64 k0, .int .i64 ((x : Int) + 1), .int .i64 k2, .int .i64 k3, .int .i64 k4, .int .u64 k5, .float .f64 k6, .float .f64 k7, .float .f64 k8, .int .i64 k9]] W fun e W' =>
      (e = .returned (.bool true) ∧ J (pre ++ [x]) W' ∧ KT T W W') ∨ (e = .returned (.bool false) ∧ Jx (pre ++ [x]) W'))
    (W : World) (hm : W.cell? ⟨bm, 0, none⟩ = some (.int .i64 most)) (hc : W.heap[bc]? = some (.cells #[.int .i64 k0, .int .i64 k1, .int .i64 k2, .int .i64 k3, .int .i64 k4, .int .u64 k5, .float .f64 k6, .float .f64 k7, .float .f64 k8, .int .i64 k9] 28)) (h0 : J [] W) :
    CallsIn Fence.wide 4 Tryz.prog 37 #[.func (.yield l) #[] #[], .pointer (some ⟨bm, 0, none⟩), .pointer (some ⟨bc, 0, none⟩)] W fun e W' => (∃ v, e = .returned v) ∧
      ((∃ ys, ys = List.range (mostN most) ∧ J ys W') ∨ (∃ pre, pre <+: List.range (mostN most) ∧ Jx pre W')) := by
  have CL := Lib.hid (fun W => clamp_any most 0 192 W)
  rw [← mostN_int most] at CL
  have ML := mostN_le most
  generalize mostN most = M at *
  have m1 : (M : Int) ≤ 192 := by omega
  have HJ := Lib.hid hJ
  have HY := Lib.hid hY
  have KM := Lib.hid (fun (W' : World) (h : KT T W W') => (⟨Keeps.cell h hm (fun x => x ((hT _).2 (.inl rfl))), Keeps.blk h hc (fun x => x ((hT _).2 (.inr rfl)))⟩ : W'.cell? ⟨bm, 0, none⟩ = some (.int .i64 most) ∧ W'.heap[bc]? = some (.cells #[.int .i64 k0, .int .i64 k1, .int .i64 k2, .int .i64 k3, .int .i64 k4, .int .u64 k5, .float .f64 k6, .float .f64 k7, .float .f64 k8, .int .i64 k9] 28)))
  have HC := Lib.hid hc
  clear hJ hY hc
  refine callsIn_of_wp Tryz.func37 rfl trivial ?_ rfl
  simp only [Tryz.ntmps37, List.size_toArray, List.length_cons, List.length_nil, Nat.reduceAdd, Nat.reduceSub, Array.replicate_succ, Array.replicate_zero, List.push_toArray, List.append_toArray, List.nil_append, List.cons_append]
  gi_wp2_with fail
  refine ⟨trivial, (callsIn_wide.2 (CL.out _)).mono ?_⟩
  rintro e _ ⟨rfl, rfl⟩
  gi_wp2
  gi_loopw [4, 7] (fun _ i wr => ∃ (k : Nat) (v : Int), k ≤ M ∧ i = .int .i64 (k : Int) ∧ J (List.range k) wr ∧ wr.heap[bc]? = some (.cells #[.int .i64 k0, .int .i64 v, .int .i64 k2, .int .i64 k3, .int .i64 k4, .int .u64 k5, .float .f64 k6, .float .f64 k7, .float .f64 k8, .int .i64 k9] 28)) (fun _ i _ => M - (intOf i).toNat)
  case atStart => exact ⟨0, k1, Nat.zero_le _, rfl, h0, HC.out⟩
  case round =>
    obtain ⟨k, v, hk, rfl, hJs, hb⟩ := hrel
    by_cases hc : k < M
    · have r1 : (k : Int) < (M : Int) := by omega
      have r2 : (k : Int) + 1 ≤ 200 := by omega
      have HB := Lib.hid hb
      have HJS := Lib.hid hJs
      have HK := Lib.hid hc
      have y1 : wr.cell? ⟨bc, 1, none⟩ = some (.int .i64 v) := blk_cell' hb 1
      have g1 : wr.frozen? ⟨bc, 1, none⟩ = false := blk_free hb 1
      obtain ⟨W2, hW2⟩ : ∃ W2, wr.setCell ⟨bc, 1, none⟩ (.int .i64 ((k : Int) + 1)) = W2 := ⟨_, rfl⟩
      have hb2 : W2.heap[bc]? = some (.cells #[.int .i64 k0, .int .i64 ((k : Int) + 1), .int .i64 k2, .int .i64 k3, .int .i64 k4, .int .u64 k5, .float .f64 k6, .float .f64 k7, .float .f64 k8, .int .i64 k9] 28) := by rw [← hW2]; exact box_set hb
      have z0 : W2.cell? ⟨bc, 0, none⟩ = some (.int .i64 k0) := blk_cell' hb2 0
      have z1 : W2.cell? ⟨bc, 1, none⟩ = some (.int .i64 ((k : Int) + 1)) := blk_cell' hb2 1
      have z2 : W2.cell? ⟨bc, 2, none⟩ = some (.int .i64 k2) := blk_cell' hb2 2
      have z3 : W2.cell? ⟨bc, 3, none⟩ = some (.int .i64 k3) := blk_cell' hb2 3
      have z4 : W2.cell? ⟨bc, 4, none⟩ = some (.int .i64 k4) := blk_cell' hb2 4
      have z5 : W2.cell? ⟨bc, 5, none⟩ = some (.int .u64 k5) := blk_cell' hb2 5
      have z6 : W2.cell? ⟨bc, 6, none⟩ = some (.float .f64 k6) := blk_cell' hb2 6
      have z7 : W2.cell? ⟨bc, 7, none⟩ = some (.float .f64 k7) := blk_cell' hb2 7
      have z8 : W2.cell? ⟨bc, 8, none⟩ = some (.float .f64 k8) := blk_cell' hb2 8
      have z9 : W2.cell? ⟨bc, 9, none⟩ = some (.int .i64 k9) := blk_cell' hb2 9
      have HB2 := Lib.hid hb2
      have J2 : J (List.range k) W2 := HJ.out _ _ _ hJs (by rw [← hW2]; exact (Keeps.refl (fun j => j = bc) wr).setCell (p := ⟨bc, 1, none⟩) (.inl rfl) _)
      obtain ⟨fn, tmps, assign, body, hy, hRR⟩ := HY.out (List.range k) k W2 J2 (by rw [List.length_range]; exact hc)
      clear hb hJs hk hc hb2 J2
      gi_wp2
      refine hRR.mono ?_
      rintro e W3 (⟨rfl, hJ3, hk3⟩ | ⟨rfl, hJx3⟩)
      · have b3 := Keeps.blk hk3 HB2.out (fun x => x ((hT _).2 (.inr rfl)))
        gi_wp2
        go_roundw
        case rel => exact ⟨k + 1, (k : Int) + 1, HK.out, by simp, by rw [List.range_succ]; exact hJ3, b3⟩
        case measure => simp only [intOf]; have := HK.out; omega
      · gi_wp2
        refine bodyPost_ret (results_none rfl _ _ _) rfl ?_
        exact ⟨⟨_, rfl⟩, .inr ⟨_, by rw [← List.range_succ]; exact range_prefix HK.out, hJx3⟩⟩
    · have r1 : ¬ (k : Int) < (M : Int) := by omega
      have hkk : k = M := by omega
      subst hkk
      have HJS := Lib.hid hJs
      clear hb hJs hk hc
      gi_wp2
      go_end0
      first | exact ⟨⟨_, rfl⟩, .inl ⟨_, rfl, HJS.out⟩⟩ | exact ⟨⟨_, rfl⟩, .inl HJS.out⟩

theorem sz_sizes (w : World) (most : Int) (c : CF) :
    Calls Tryz.prog 28 #[.agg c.cs, .int .i64 most] w fun e w' => e = .returned (.func (.func 37) #[] #[.pointer (some ⟨w.heap.size + 1, 0, none⟩), .pointer (some ⟨w.heap.size, 0, none⟩)]) ∧
      w' = (w.alloc (.cells c.cs 28)).alloc (.cells #[.int .i64 most] 3) := by
  obtain ⟨k0, k1, k2, k3, k4, k5, k6, k7, k8, k9⟩ := c
  change Calls Tryz.prog 28 #[.agg #[.int .i64 k0, .int .i64 k1, .int .i64 k2, .int .i64 k3, .int .i64 k4, .int .u64 k5, .float .f64 k6, .float .f64 k7, .float .f64 k8, .int .i64 k9], .int .i64 most] w _
  go_enter Tryz.func28, Tryz.ntmps28
  go_wp2
  go_ret
  exact ⟨rfl, rfl⟩

theorem sz_gives (bm bc : Nat) (most : Int) (k0 k1 k2 k3 k4 k5 k9 : Int) (k6 k7 k8 : Nat) (hne : bm ≠ bc) (T : Nat → Prop) (hT : ∀ j, T j ↔ (j = bm ∨ j = bc)) (w : World)
    (hm : w.cell? ⟨bm, 0, none⟩ = some (.int .i64 most)) (hc : w.heap[bc]? = some (.cells #[.int .i64 k0, .int .i64 k1, .int .i64 k2, .int .i64 k3, .int .i64 k4, .int .u64 k5, .float .f64 k6, .float .f64 k7, .float .f64 k8, .int .i64 k9] 28)) :
    GivesZ Fence.wide 4 Tryz.prog 37 #[.pointer (some ⟨bm, 0, none⟩), .pointer (some ⟨bc, 0, none⟩)] (fun x : Nat => Value.agg #[.int .i64 k0, .int .i64 ((x : Int) + 1), .int .i64 k2, .int .i64 k3, .int .i64 k4, .int .u64 k5, .float .f64 k6, .float .f64 k7, .float .f64 k8, .int .i64 k9]) (fun j => j = bc) T (fun ys => ys = List.range (mostN most)) (fun pre => pre <+: List.range (mostN most)) (mostN most) w := by
  intro l J Jx W hW hJ hJx hY h0
  exact sz_each1 l bm bc most k0 k1 k2 k3 k4 k5 k9 k6 k7 k8 hne T hT J Jx hJ hY W ((hW.cell (World.block_lt_of_cell? w _ hm)).trans hm) ((hW.block _ (blk_lt' hc)).trans hc) h0
end Go.Proofs.YtbgknopjgohocaaGreat
