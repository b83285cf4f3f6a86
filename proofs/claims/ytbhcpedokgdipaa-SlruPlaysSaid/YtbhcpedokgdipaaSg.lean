/- The document's order of slots: where a number stands in a row; a row without a number. -/
import Derived.Test.YtbhcpedokgdipaaSe
namespace Go.Proofs.Ytbhcpedokgdipaa
open Go.RowKit Fl
set_option linter.unusedVariables false

theorem inI_at {m : Int} {l : List Nat} {k : Nat} (hk : k < l.length) (h : ((l.getD k 0 : Nat) : Int) = m) : inI m l = true := by
  subst h
  rw [inI_nat]
  refine decide_eq_true ?_
  rw [List.getD_eq_getElem?_getD, List.getElem?_eq_getElem hk]
  exact List.getElem_mem hk
theorem inI_none {m : Int} {l : List Nat} (h : ∀ i, i < l.length → ((l.getD i 0 : Nat) : Int) ≠ m) : inI m l = false := by
  by_cases hm : 0 ≤ m
  · obtain ⟨k, rfl⟩ : ∃ k : Nat, m = (k : Int) := ⟨m.toNat, by omega⟩
    rw [inI_nat]
    refine decide_eq_false fun hx => ?_
    obtain ⟨i, hi, e⟩ := List.getElem_of_mem hx
    exact h i hi (by rw [List.getD_eq_getElem?_getD, List.getElem?_eq_getElem hi]; simp [e])
  · unfold inI
    simp [hm]

set_option maxHeartbeats 1000000 in
theorem idx_any2 {w : World} {v : Value} {l : List Nat} (hv : RdI w v l) (hl : l.length ≤ 1048576) (m : Int) :
    Calls Try.prog 86 #[v, .int .i64 m] w fun e w' => ∃ r : Int, e = .returned (.int .i64 r) ∧ ((inI m l = true ∧ ∃ k : Nat, r = (k : Int)) ∨ (inI m l = false ∧ r = -1)) ∧ w = w' := by
  obtain ⟨A, c, rfl, hA⟩ := hv
  have HA := Lib.hid hA
  clear hA
  go_enter Try.func86, Try.ntmps86
  go_wp2
  go_loopw [5] (fun i wr => ∃ k : Nat, k ≤ l.length ∧ i = .int .i64 (k : Int) ∧ (∀ i, i < k → ((l.getD i 0 : Nat) : Int) ≠ m) ∧ wr = w) (fun i _ => l.length - (intOf i).toNat)
  case atStart => exact ⟨0, Nat.zero_le _, rfl, fun i h => absurd h (Nat.not_lt_zero i), rfl⟩
  case round =>
    obtain ⟨k, hk, rfl, he, rfl⟩ := hrel
    by_cases hc : k < l.length
    · rcases HA.out with e | ⟨gA, rfl, cA⟩
      · rw [e] at hc; exact absurd hc (Nat.not_lt_zero k)
      have a1 := cA k hc
      have x1 : (k : Int) < (l.length : Int) := by omega
      have x2 : (k : Int) + 1 ≤ 1048577 := by omega
      by_cases hm : ((l.getD k 0 : Nat) : Int) = m
      · have H := Lib.hid (inI_at hc hm)
        rw [hm] at a1
        clear he cA hm
        go_wp2
        go_ret
        exact ⟨_, rfl, .inl ⟨H.out, k, rfl⟩, rfl⟩
      · have HE := Lib.hid he
        have HM := Lib.hid hm
        have n1 : (((l.getD k 0 : Nat) : Int) == m) = false := beq_eq_false_iff_ne.2 hm
        have n2 : decide (((l.getD k 0 : Nat) : Int) = m) = false := decide_eq_false hm
        generalize l.getD k 0 = x at a1 n1 n2
        clear he cA hm
        go_wp2
        go_roundw
        case rel =>
          refine ⟨k + 1, by omega, by simp, fun i hi => ?_, (by first | rfl | trivial)⟩
          by_cases e : i = k
          · subst e; exact HM.out
          · exact HE.out i (by omega)
        case measure => simp only [intOf]; omega
    · have x1 : ¬ (k : Int) < (l.length : Int) := by omega
      have H := Lib.hid (inI_none (fun i hi => he i (by omega)))
      clear he
      go_wp2
      go_ret
      exact ⟨_, rfl, .inr ⟨H.out, rfl⟩, rfl⟩

theorem idx_any {w : World} {v : Value} {l : List Nat} (hv : RdI w v l) (hl : l.length ≤ 1048576) (m : Int) :
    Calls Try.prog 86 #[v, .int .i64 m] w fun e w' => ∃ r : Int, e = .returned (.int .i64 r) ∧ decide (0 ≤ r) = inI m l ∧ w = w' :=
  (idx_any2 hv hl m).mono fun e w' ⟨r, he, h, hw⟩ => ⟨r, he, by
    rcases h with ⟨h1, k, h2⟩ | ⟨h1, h2⟩
    · rw [h1, h2]; exact decide_eq_true (by omega)
    · rw [h1, h2]; rfl, hw⟩

def woI (m : Int) (l : List Nat) : List Nat := l.filter (fun x => decide ((x : Int) ≠ m))
theorem woI_nat (m : Nat) (l : List Nat) : woI (m : Int) l = wo m l := by
  unfold woI wo
  congr 1
  funext x
  simp [Int.ofNat_inj]
theorem woI_take {m : Int} {l : List Nat} {k : Nat} (hk : k < l.length) : woI m (l.take (k + 1)) = if ((l.getD k 0 : Nat) : Int) = m then woI m (l.take k) else woI m (l.take k) ++ [l.getD k 0] := by
  have : l.take (k + 1) = l.take k ++ [l.getD k 0] := by
    rw [List.take_add_one, List.getElem?_eq_getElem hk, List.getD_eq_getElem?_getD, List.getElem?_eq_getElem hk]
    rfl
  rw [this]
  unfold woI
  rw [List.filter_append]
  by_cases h : ((l.getD k 0 : Nat) : Int) = m
  · rw [if_pos h]
    generalize l.getD k 0 = x at *
    simp [h]
  · rw [if_neg h]
    generalize l.getD k 0 = x at *
    simp [h]
theorem woI_le (m : Int) (l : List Nat) : (woI m l).length ≤ l.length := List.length_filter_le _ _

set_option maxHeartbeats 2000000 in
theorem without_any {w : World} {v : Value} {l : List Nat} (hv : RdI w v l) (hl : l.length ≤ 4096) (m : Int) :
    Calls Try.prog 84 #[v, .int .i64 m] w fun e w' => ∃ v', e = .returned v' ∧ w'.ownsRow w.heap.size 3 1 v' (woI m l).length ((woI m l).map intV) ∧ Below w.heap.size w w' := by
  obtain ⟨A, c, rfl, hA⟩ := hv
  have HA := Lib.hid hA
  obtain ⟨i0, hi, hz0, hz1, hz2⟩ := info_parts infoInt
  clear hA
  go_enter Try.func84, Try.ntmps84
  go_wp2
  go_loopw [5, 6] (fun v i wr => ∃ k : Nat, k ≤ l.length ∧ i = .int .i64 (k : Int) ∧ wr.ownsRow w.heap.size 3 1 v (woI m (l.take k)).length ((woI m (l.take k)).map intV) ∧ Below w.heap.size w wr) (fun _ i _ => l.length - (intOf i).toNat)
  case atStart => exact ⟨0, Nat.zero_le _, rfl, World.ownsRow_nil _ _ _ _, Below.refl _ _⟩
  case round =>
    obtain ⟨k, hk, rfl, hown, hb⟩ := hrel
    by_cases hc : k < l.length
    · rcases HA.out with e | ⟨gA, rfl, cA⟩
      · rw [e] at hc; exact absurd hc (Nat.not_lt_zero k)
      have a1 := (hb.cell (World.block_lt_of_cell? w _ (cA k hc))).trans (cA k hc)
      have WT := Lib.hid (woI_take (m := m) hc)
      have WL := Lib.hid (Nat.le_trans (woI_le m (l.take k)) (List.length_take_le _ _))
      have x1 : (k : Int) < (l.length : Int) := by omega
      have x2 : (k : Int) + 1 ≤ 1048577 := by omega
      clear cA
      by_cases hm : ((l.getD k 0 : Nat) : Int) = m
      · have WT := Lib.hid (WT.out.trans (if_pos hm))
        rw [hm] at a1
        have HO := Lib.hid hown
        have HB := Lib.hid hb
        clear hm hown hb
        go_wp2
        go_roundw
        case rel => exact ⟨k + 1, by omega, by simp, by rw [WT.out]; exact HO.out, HB.out⟩
        case measure => simp only [intOf]; omega
      · have WT := Lib.hid (WT.out.trans (if_neg hm))
        have n1 : (((l.getD k 0 : Nat) : Int) == m) = false := beq_eq_false_iff_ne.2 hm
        have n2 : decide (((l.getD k 0 : Nat) : Int) = m) = false := decide_eq_false hm
        have n3 : (((l.getD k 0 : Nat) : Int) != m) = true := by rw [bne_iff_ne]; exact hm
        clear hm
        generalize l.getD k 0 = x at a1 n1 n2 n3 WT
        generalize woI m (l.take k) = L at hown WT WL
        obtain ⟨A5, c5, rfl⟩ := own_slice hown
        have HB := Lib.hid hb
        have HO := Lib.hid hown
        clear hb hown
        go_wp2_with (first
          | (at_builtin; refine wpList_append_own _ rfl _ _ 79 rfl w.heap.size 3 i0 (.int .i64 0) 1 8 Try.underlying79 hi hz0 hz1 hz2 rfl (by decide) _ _ _ rfl (HO.out.alloc _) ⟨wr.heap.size, 0, none⟩ 1 1 [.int .i64 (x : Int)] rfl rfl ?c1 ?c2 ?c3 ?c4 ?c5 ?_)
          | go_in)
        case c1 =>
          intro j u hj
          match j, hj with
          | 0, hj => simp at hj; subst hj; simp [Addr.add]
        case c2 => intro u hu; simp at hu; subst hu; rfl
        case c3 => have := WL.out; unfold maxLen; omega
        case c4 => have := WL.out; omega
        case c5 => have := HB.out.size; simp; omega
        rintro v' w1 hown' hgr -
        have hb' : Below w.heap.size w w1 := by
          have hsz := HB.out.size
          exact (HB.out.alloc hsz _).grown hgr (by simp; omega) (fun k' hk' => (HO.out.lt k' hk').1)
        have HB' := Lib.hid hb'
        have HO' := Lib.hid hown'
        obtain ⟨A6, c6, rfl⟩ := own_slice hown'
        clear hb' hown' hgr
        go_wp2
        go_roundw
        case rel => exact ⟨k + 1, by omega, by simp, by rw [WT.out]; simpa [intV] using HO'.out, HB'.out⟩
        case measure => simp only [intOf]; omega
    · have x1 : ¬ (k : Int) < (l.length : Int) := by omega
      have e : l.take k = l := List.take_of_length_le (by omega)
      rw [e] at hown
      have HB := Lib.hid hb
      have HO := Lib.hid hown
      clear hb hown e
      go_wp2
      go_ret
      exact ⟨_, rfl, HO.out, HB.out⟩

end Go.Proofs.Ytbhcpedokgdipaa
