/- The document's device: Loose. -/
import Derived.Test.YtlfeglnacphhlaaEf2
import Derived.Test.YtlfeglnacphhlaaLo
namespace Go.Proofs.Ytlfeglnacphhlaa
open Go.RowKit Go.Maps
set_option linter.unusedVariables false

/-- The loose sectors below k, in order. -/
def looseK (s : DS) (k : Nat) : List Nat := (List.range k).filter fun i => !(s.loose i).isEmpty
theorem looseK_n (s : DS) : looseK s s.n = looseI s := rfl
theorem looseK_no {s : DS} {k : Nat} (h : s.loose k = []) : looseK s (k + 1) = looseK s k := by
  unfold looseK; rw [List.range_succ, List.filter_append]; simp [h]
theorem looseK_yes {s : DS} {k : Nat} (h : s.loose k ≠ []) : looseK s (k + 1) = looseK s k ++ [k] := by
  unfold looseK; rw [List.range_succ, List.filter_append]
  have : ¬ (s.loose k).isEmpty = true := by simpa using h
  simp [this]
theorem looseK_le (s : DS) (k : Nat) : (looseK s k).length ≤ k := by
  have := List.length_filter_le (fun i => !(s.loose i).isEmpty) (List.range k)
  rwa [List.length_range] at this

theorem rdlo_of {w : World} {base : Nat} {v : Value} {s : DS} (h : w.ownsRow base 86 2 v (looseI s).length (loC s (looseI s))) : RdLo w v (looseL s) := by
  have hl : (looseL s).length = (looseI s).length := by simp [looseL]
  rcases h.2 with ⟨e1, h0⟩ | ⟨g, cap, cur, e1, hB, hbk, h1, h2, h3, h4⟩
  · exact .inl ⟨e1, List.eq_nil_of_length_eq_zero (by rw [hl]; exact h0)⟩
  · refine .inr ⟨g, cap, by rw [hl]; exact e1, fun j x hx => ?_⟩
    obtain ⟨i, hi, rfl⟩ : ∃ i, (looseI s)[j]? = some i ∧ x = (i, (s.loose i).length) := by
      unfold looseL at hx
      rw [List.getElem?_map] at hx
      cases hq : (looseI s)[j]? with
      | none => rw [hq] at hx; cases hx
      | some i => rw [hq] at hx; simp at hx; exact ⟨i, rfl, hx.symm⟩
    have hj : j < (looseI s).length := (List.getElem?_eq_some_iff.1 hi).1
    obtain ⟨a0, a1⟩ := loC_at s (looseI s) j i hi
    have cell : ∀ m, m < (looseI s).length * 2 → w.cell? ⟨g, m, none⟩ = (loC s (looseI s))[m]? := fun m hm => by
      rw [blk_cell' hbk, ← h4, List.getElem?_take_of_lt hm, Array.getElem?_toList]
    exact ⟨by rw [cell _ (by omega), a0], by rw [cell _ (by omega), a1]⟩

section
variable {w w' : World} {e q G : Nat} {LV : Nat → Value} {s : DS}

set_option maxRecDepth 100000 in
set_option maxHeartbeats 4000000 in
theorem rv_loose (h : Rv w e q G LV s) (hl : s.lim ≤ 1000000) :
    Calls Try.prog 19 #[.pointer (some ⟨e, 0, none⟩)] w fun r w' => ∃ v, r = .returned v ∧ RdLo w' v (looseL s) ∧ Below w.heap.size w w' ∧ ∀ g, v.ownBlock = some g → w.heap.size ≤ g := by
  obtain ⟨i0, hif, hz0, hz1, hz2⟩ := info_parts infoLo
  have H := Lib.hid h
  have HL := Lib.hid hl
  have n1 : (s.n : Int) ≤ 4096 := by have := h.n1; omega
  have b1 : (0 : Int) ≤ (s.n : Int) := by omega
  have O0 := Lib.hid (World.ownsRow_nil w w.heap.size 86 2)
  clear h hl
  go_enter Try.func19, Try.ntmps19
  go_wp2_with fail
  go_loopw [3, 4] (fun v i wr => ∃ k : Nat, k ≤ s.n ∧ i = .int .i64 (k : Int) ∧ wr.ownsRow w.heap.size 86 2 v (looseK s k).length (loC s (looseK s k)) ∧ Below w.heap.size w wr) (fun _ i _ => s.n - (intOf i).toNat)
  case atStart => exact ⟨0, Nat.zero_le _, rfl, O0.out, Below.refl _ _⟩
  case round =>
    obtain ⟨k, hk, rfl, ho, B⟩ := hrel
    have D := H.out.keep (Keeps.of_below B) (Nat.not_le.2 H.out.top.lt) (Nat.not_le.2 H.out.fx.lt) (fun i hi g x => Nat.not_le.2 ((H.out.lo i hi).lt g x))
    have c1 := D.c1
    obtain ⟨Ao, co, rfl⟩ := row_slice ho
    by_cases h1 : (k : Int) < (s.n : Int)
    · have hk2 : k < s.n := by omega
      have HK := Lib.hid (show k + 1 ≤ s.n by omega)
      have g1 := D.f1 (i := k) hk2
      obtain ⟨A, cp, hLV, hrd⟩ := (D.lo k hk2).open_
      rw [hLV] at g1
      have HLK := Lib.hid (looseK_le s k)
      have NN := Lib.hid D.n1
      cases hll : s.loose k with
      | nil =>
        rw [hll] at g1
        have O2 := Lib.hid ho
        have B2 := Lib.hid B
        have E2 := Lib.hid (looseK_no hll)
        clear D ho B hk hk2 hll hLV hrd
        go_wp2_with fail
        go_roundw
        case rel => exact ⟨k + 1, HK.out, by simp, by rw [E2.out]; exact O2.out, B2.out⟩
        case measure => have := HK.out; simp only [intOf]; omega
      | cons y l =>
        have E2 := Lib.hid (looseK_yes (s := s) (k := k) (by rw [hll]; simp))
        have EL := Lib.hid (show loC s (looseK s k ++ [k]) = loC s (looseK s k) ++ loV s k by simp [loC])
        have LVE := Lib.hid (show loV s k = [.int .i64 (k : Int), .int .i64 ((s.loose k).length : Int)] from rfl)
        have LB := Lib.hid (show (s.loose k).length ≤ 1000000 by have := D.ll k hk2; have := HL.out; omega)
        have z1 : decide ((0 : Int) < (((s.loose k).length : Nat) : Int)) = true := decide_eq_true (by rw [hll]; simp)
        have z2 : 0 < (s.loose k).length := by rw [hll]; simp
        have zb : ((s.loose k).length : Int) ≤ 1000000 := by have := LB.out; omega
        have OW := Lib.hid (ho.alloc (.cells #[.int .i64 (k : Int), .int .i64 ((s.loose k).length : Int)] 86))
        have BA := Lib.hid (B.alloc B.size (.cells #[.int .i64 (k : Int), .int .i64 ((s.loose k).length : Int)] 86))
        have HB := Lib.hid (fun g e => (ho.lt g e).1)
        generalize (s.loose k).length = N at *
        clear D ho B hk hk2 hll hLV hrd
        go_wp2_with (first
          | (at_builtin; refine wpList_append_own_at _ rfl _ _ 53 rfl w.heap.size 86 i0 (.agg #[.int .i64 0, .int .i64 0]) 2 16 Try.underlying53 hif hz0 hz1 hz2 rfl (by decide) _ _ _ rfl OW.out ⟨wr.heap.size, 0, none⟩ 1 1 [.int .i64 (k : Int), .int .i64 (N : Int)] rfl (by rfl) (World.news_of_block (heap_alloc_new _ _)) ?c2 ?c3 ?c4 ?c5 ?_)
          | go_in)
        case c2 => intro u hu; simp at hu; rcases hu with rfl | rfl <;> rfl
        case c3 => have := HLK.out; have := NN.out; have := HK.out; unfold maxLen; omega
        case c4 => have := HLK.out; have := NN.out; have := HK.out; omega
        case c5 => exact BA.out.size
        rintro v' w2 hown' hgr - hat
        have O2 := Lib.hid (show w2.ownsRow w.heap.size 86 2 v' (looseK s (k + 1)).length (loC s (looseK s (k + 1))) by
          rw [E2.out, EL.out, LVE.out]; simpa using hown')
        have B2 := Lib.hid (BA.out.grown hgr BA.out.size (fun g e => HB.out g e))
        clear hown' hgr hat
        go_wp2
        go_roundw
        case rel => exact ⟨k + 1, HK.out, by simp, O2.out, B2.out⟩
        case measure => have := HK.out; simp only [intOf]; omega
    · obtain rfl : k = s.n := by omega
      have O2 := Lib.hid (rdlo_of (s := s) (by rw [← looseK_n]; exact ho))
      have HB := Lib.hid (fun g e => (ho.lt g e).1)
      have B2 := Lib.hid B
      clear D ho B hk
      go_wp2
      go_ret
      exact ⟨_, rfl, O2.out, B2.out, fun g e => HB.out g e⟩
end

end Go.Proofs.Ytlfeglnacphhlaa
