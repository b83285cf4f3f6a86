/- Places: Free. -/
import Derived.Test.YtbgknopjgohocaaGreatPp2
namespace Go.Proofs.YtbgknopjgohocaaGreat
open Go.RowKit
set_option linter.unusedVariables false
set_option maxRecDepth 100000
set_option maxHeartbeats 2000000

def freeL (sl : Nat → Int) (n : Nat) : List Nat := (List.range n).filter (fun i => decide (sl i = 0))
theorem freeL_next (sl : Nat → Int) (k : Nat) : freeL sl (k + 1) = freeL sl k ++ (if sl k = 0 then [k] else []) := by
  unfold freeL
  rw [List.range_succ, List.filter_append]
  congr 1
  by_cases h : sl k = 0
  · rw [if_pos h]; simp [h]
  · rw [if_neg h]; simp [h]
theorem freeL_len (sl : Nat → Int) (n : Nat) : (freeL sl n).length ≤ n := by
  unfold freeL
  exact Nat.le_trans (List.length_filter_le _ _) (by simp)
theorem freeL_mem {sl : Nat → Int} {n k : Nat} (h : k ∈ freeL sl n) : k < n ∧ sl k = 0 := by
  unfold freeL at h
  simpa using List.mem_filter.1 h

theorem ownRow_any {w : World} {base : Nat} {e : TypeId} {size n : Nat} {v : Value} {xs : List Value} (h : w.ownsRow base e size v n xs) : ∃ A c, v = .slice A n c := by
  rcases h.2 with ⟨rfl, rfl⟩ | ⟨g, cap, cur, rfl, _⟩
  · exact ⟨_, _, rfl⟩
  · exact ⟨_, _, rfl⟩

section
variable {S : Nat → Prop} {w : World} {b sb wb nb ns N : Nat} {P : PLS} {m : Int}

theorem pl_free (h : Pl w b sb wb nb ns N P m) :
    Calls Tryz.prog 115 #[.pointer (some ⟨b, 0, none⟩), .int .i64 (ns : Int)] w fun e w' => ∃ v, e = .returned v ∧ w'.ownsRow w.heap.size 3 1 v (freeL P.sl ns).length ((freeL P.sl ns).map intV) ∧ Below w.heap.size w w' := by
  obtain ⟨i0, hif, hz0, hz1, hz2⟩ := info_parts infoInt
  have HP := Lib.hid h
  have c0 := h.c0
  have l1 := h.top.lt
  have hn := h.i.n1
  have hn1 : (ns : Int) ≤ 192 := by omega
  have hn0 : (0 : Int) ≤ (ns : Int) := by omega
  have hn2 : ¬ ((ns : Int) < 0) := by omega
  have KC := Lib.hid (fun W (k : Below w.heap.size w W) => (k.cell (p := ⟨b, 0, none⟩) l1).trans c0)
  have KE := Lib.hid (fun W (k : Below w.heap.size w W) (j : Nat) (hj : j < ns) => (h.below k).k0 hj)
  have O0 := Lib.hid (show w.ownsRow w.heap.size 3 1 (.slice none 0 0) (freeL P.sl 0).length ((freeL P.sl 0).map intV) from World.ownsRow_nil w w.heap.size 3 1)
  clear h
  go_enter Tryz.func115, Tryz.ntmps115
  go_wp2
  clear c0
  go_loopw [5, 17] (fun u i wr => ∃ k : Nat, k ≤ ns ∧ i = .int .i64 (k : Int) ∧ wr.ownsRow w.heap.size 3 1 u (freeL P.sl k).length ((freeL P.sl k).map intV) ∧ Below w.heap.size w wr) (fun _ i _ => ns - (intOf i).toNat)
  case atStart => exact ⟨0, Nat.zero_le _, rfl, O0.out, Below.refl _ _⟩
  case round =>
    obtain ⟨k, hk, rfl, ho, bw⟩ := hrel
    obtain ⟨Ao, co, rfl⟩ := ownRow_any ho
    have HB := Lib.hid bw
    have HO := Lib.hid ho
    have FL := Lib.hid (Nat.le_trans (freeL_len P.sl k) (Nat.le_trans hk hn))
    by_cases hc : (k : Int) < (ns : Int)
    · have hk2 : k < ns := by omega
      have c0 := KC.out wr bw
      have e0 := KE.out wr bw k hk2
      have FN := Lib.hid (freeL_next P.sl k)
      have HK := Lib.hid hk2
      generalize P.sl k = x at *
      clear ho bw hk hk2
      by_cases hx : x = 0
      · have FN := Lib.hid (FN.out.trans (by rw [if_pos hx]))
        subst hx
        have OW := Lib.hid (show (wr.alloc (.cells #[.int .i64 (k : Int)] 3)).ownsRow _ _ _ _ _ _ from HO.out.alloc (.cells #[.int .i64 (k : Int)] 3))
        have BAA := Lib.hid (HB.out.alloc HB.out.size (.cells #[.int .i64 (k : Int)] 3))
        have KLO := Lib.hid (show ∀ g, (Value.slice Ao (freeL P.sl k).length co).ownBlock = some g → w.heap.size ≤ g from fun g e => (HO.out.lt g e).1)
        generalize hkl : (freeL P.sl k).length = kl at *
        have HKL := Lib.hid hkl
        clear hkl
        go_wp2_with (at_builtin; refine wpList_append_own_at _ rfl _ _ 25 rfl w.heap.size 3 i0 (.int .i64 0) 1 8 Tryz.underlying25 hif hz0 hz1 hz2 rfl (by decide) _ _ _ rfl OW.out ⟨wr.heap.size, 0, none⟩ 1 1 [.int .i64 (k : Int)] rfl (by rfl) (World.news_of_block (heap_alloc_new _ _)) ?c2 ?c3 ?c4 ?c5 ?_)
        case c2 => rfl
        case c3 => have := FL.out; unfold maxLen; omega
        case c4 => have := FL.out; omega
        case c5 => have := HB.out.size; omega
        rintro v' w3 hown' hgr - hat
        have O3 := Lib.hid (show w3.ownsRow w.heap.size 3 1 v' (freeL P.sl (k + 1)).length ((freeL P.sl (k + 1)).map intV) by
          rw [FN.out, List.map_append, List.length_append, HKL.out]
          exact hown')
        have B3 := Lib.hid (BAA.out.grown hgr BAA.out.size (fun g e => KLO.out g e))
        clear hown' hgr hat
        go_wp2
        go_roundw
        case rel => exact ⟨k + 1, HK.out, by simp, O3.out, B3.out⟩
        case measure => have := HK.out; simp only [intOf]; omega
      · have FN := Lib.hid (FN.out.trans (by rw [if_neg hx, List.append_nil]))
        have d0 : (x == 0) = false := beq_eq_false_iff_ne.2 hx
        clear hx
        go_wp2
        go_roundw
        case rel => exact ⟨k + 1, HK.out, by simp, by rw [FN.out]; exact HO.out, HB.out⟩
        case measure => have := HK.out; simp only [intOf]; omega
    · have HE := Lib.hid (show k = ns by omega)
      clear ho bw hk
      go_wp2
      go_ret
      exact ⟨_, rfl, HE.out ▸ HO.out, HB.out⟩
end
end Go.Proofs.YtbgknopjgohocaaGreat
