/- Fill: rows of one octet. -/
import Derived.Test.YtlfeglnacphhlaaDn
namespace Go.Proofs.Ytlfeglnacphhlaa
open Go.RowKit Go.Maps
set_option linter.unusedVariables false

def fillN (size : Int) : Nat := if size = 0 then 64 else (min (max size 0) 100).toNat
def fillB (c : UInt8) (n : Nat) : ByteArray := ⟨(List.replicate n c).toArray⟩
theorem fillB_size (c : UInt8) (n : Nat) : (fillB c n).size = n := by simp [fillB, ByteArray.size]
theorem fillB_octV (c : UInt8) (n : Nat) : octV (fillB c n) = List.replicate n (.int .u8 (c.toNat : Int)) := by simp [octV, fillB]
theorem fillN_le (size : Int) : fillN size ≤ 100 := by unfold fillN; split <;> omega

theorem row_of_arr {w : World} {base g n : Nat} {t : TypeId} {F : Nat → Value} (h : Arr w g t n F) (hb : base ≤ g) (hn : n ≤ maxLen) : w.ownsRow base t 1 (.slice (some ⟨g, 0, none⟩) n n) n ((List.range n).map F) := by
  obtain ⟨cs, hc, hs, hF⟩ := h
  refine ⟨by simp, .inr ⟨g, n, cs, rfl, hb, hc, Nat.le_refl _, hn, by omega, ?_⟩⟩
  apply List.ext_getElem?
  intro j
  by_cases hj : j < n
  · rw [List.getElem?_take_of_lt (by omega), Array.getElem?_toList, hF j hj, List.getElem?_map, List.getElem?_range hj]; rfl
  · rw [List.getElem?_take_eq_none (by omega), List.getElem?_eq_none (by simp; omega)]

theorem fill_any (w : World) (c : UInt8) (size : Int) :
    Calls Try.prog 12 #[.int .u8 (c.toNat : Int), .int .i64 size] w fun e w' => ∃ v, e = .returned v ∧ w'.ownsRow w.heap.size 5 1 v (fillB c (fillN size)).size (octV (fillB c (fillN size))) ∧ Below w.heap.size w w' := by
  have hn := fillN_le size
  have M := make_oct (fillN size) (by omega)
  rw [fillB_octV, fillB_size]
  have key : ∀ (n : Nat), n ≤ 100 → ∀ (w : World), ∀ (wr : World) (k : Nat), k < n → Arr wr w.heap.size 5 n (fun j => if j < k then .int .u8 (c.toNat : Int) else .int .u8 0) → Below w.heap.size w wr →
      Arr (wr.setCell ⟨w.heap.size, k, none⟩ (.int .u8 (c.toNat : Int))) w.heap.size 5 n (fun j => if j < k + 1 then .int .u8 (c.toNat : Int) else .int .u8 0) ∧ Below w.heap.size w (wr.setCell ⟨w.heap.size, k, none⟩ (.int .u8 (c.toNat : Int))) := fun n hn w wr k hk ha hb =>
    ⟨(ha.set k _).congr (fun j hj => by
      by_cases e : j = k
      · subst e; simp
      · by_cases e2 : j < k
        · simp only [e, e2, if_false, if_true, show j < k + 1 by omega]
        · simp only [e, e2, if_false, show ¬ j < k + 1 by omega]), hb.setCell (p := ⟨w.heap.size, k, none⟩) (Nat.le_refl _) _⟩
  have KEY := Lib.hid key
  have AR := Lib.hid (fun (n : Nat) => (Arr.made w 5 n (.int .u8 0) (madeCells #[.int .u8 0] n) (size_madeCells _ _) (fun i hi => madeCells_at _ _ _ hi)).congr (G := fun j => if j < 0 then .int .u8 (c.toNat : Int) else .int .u8 0) (fun j hj => by simp))
  have HB := Lib.hid (fun (o : Obj) => (Below.refl w.heap.size w).alloc (Nat.le_refl _) o)
  have HN := Lib.hid hn
  clear key
  have fin : ∀ (n : Nat), n ≤ 100 → ∀ wr, Arr wr w.heap.size 5 n (fun j => if j < n then .int .u8 (c.toNat : Int) else .int .u8 0) → wr.ownsRow w.heap.size 5 1 (.slice (some ⟨w.heap.size, 0, none⟩) n n) n (List.replicate n (.int .u8 (c.toNat : Int))) := fun n hn wr ha => by
    have := row_of_arr (ha.congr (G := fun _ => .int .u8 (c.toNat : Int)) (fun j hj => by rw [if_pos hj])) (Nat.le_refl w.heap.size) (by unfold maxLen; omega)
    rwa [show (List.range n).map (fun _ => Value.int .u8 (c.toNat : Int)) = List.replicate n (.int .u8 (c.toNat : Int)) by simp [List.map_const']] at this
  have FIN := Lib.hid fin
  clear fin
  by_cases h0 : size = 0
  · have e0 : (size == 0) = true := by simp [h0]
    have e1 : fillN size = 64 := by unfold fillN; rw [if_pos h0]
    rw [e1] at M HN ⊢
    have M6 := make_64
    clear hn h0 M
    go_enter Try.func12, Try.ntmps12
    go_wp2
    go_loopw [7] (fun i wr => ∃ k : Nat, k ≤ 64 ∧ i = .int .i64 (k : Int) ∧ Arr wr w.heap.size 5 64 (fun j => if j < k then .int .u8 (c.toNat : Int) else .int .u8 0) ∧ Below w.heap.size w wr) (fun i _ => 64 - (intOf i).toNat)
    case atStart => exact ⟨0, Nat.zero_le _, rfl, AR.out 64, HB.out _⟩
    case round =>
      obtain ⟨k, hk, rfl, ha, hb⟩ := hrel
      by_cases hk4 : k < 64
      · have h1 : (k : Int) < 64 := by omega
        have hc : wr.cell? ⟨w.heap.size, k, none⟩ = some (.int .u8 0) := by have := ha.cell hk4; simpa using this
        have hf := ha.free k
        have h3 : (k : Int) ≤ 100 := by have := HN.out; omega
        have NX := Lib.hid (KEY.out 64 HN.out w wr k hk4 ha hb)
        have HK := Lib.hid hk4
        clear ha hb hk hk4
        go_wp2
        go_roundw
        case rel => exact ⟨k + 1, HK.out, by simp, NX.out⟩
        case measure => have := HK.out; simp only [intOf]; omega
      · have h1 : ¬ (k : Int) < 64 := by omega
        obtain rfl : k = 64 := by omega
        have FN := Lib.hid (FIN.out _ HN.out wr ha)
        have BW := Lib.hid hb
        clear ha hb hk hk4
        go_wp2
        go_ret
        exact ⟨_, rfl, FN.out, BW.out⟩
  · have e0 : (size == 0) = false := by simp [h0]
    have e1 : ((fillN size : Nat) : Int) = min (max size 0) 100 := by unfold fillN; rw [if_neg h0]; omega
    generalize fillN size = n at *
    have e2 := e1.symm
    clear e1 h0 hn
    go_enter Try.func12, Try.ntmps12
    go_wp2
    go_loopw [7] (fun i wr => ∃ k : Nat, k ≤ n ∧ i = .int .i64 (k : Int) ∧ Arr wr w.heap.size 5 n (fun j => if j < k then .int .u8 (c.toNat : Int) else .int .u8 0) ∧ Below w.heap.size w wr) (fun i _ => n - (intOf i).toNat)
    case atStart => exact ⟨0, Nat.zero_le _, rfl, AR.out n, HB.out _⟩
    case round =>
      obtain ⟨k, hk, rfl, ha, hb⟩ := hrel
      by_cases hk4 : k < n
      · have h1 : (k : Int) < (n : Int) := by omega
        have hc : wr.cell? ⟨w.heap.size, k, none⟩ = some (.int .u8 0) := by have := ha.cell hk4; simpa using this
        have hf := ha.free k
        have h3 : (k : Int) ≤ 100 := by have := HN.out; omega
        have NX := Lib.hid (KEY.out n HN.out w wr k hk4 ha hb)
        have HK := Lib.hid hk4
        clear ha hb hk hk4
        go_wp2
        go_roundw
        case rel => exact ⟨k + 1, HK.out, by simp, NX.out⟩
        case measure => have := HK.out; simp only [intOf]; omega
      · have h1 : ¬ (k : Int) < (n : Int) := by omega
        obtain rfl : k = n := by omega
        have FN := Lib.hid (FIN.out _ HN.out wr ha)
        have BW := Lib.hid hb
        clear ha hb hk hk4
        go_wp2
        go_ret
        exact ⟨_, rfl, FN.out, BW.out⟩

end Go.Proofs.Ytlfeglnacphhlaa
