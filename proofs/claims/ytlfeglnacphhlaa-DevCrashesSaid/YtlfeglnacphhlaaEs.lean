/- The document's SameLoose, at two rows that read alike; Fill. -/
import Derived.Test.YtlfeglnacphhlaaLo
import Derived.Test.YtlfeglnacphhlaaCr
namespace Go.Proofs.Ytlfeglnacphhlaa
open Go.RowKit Go.Maps
set_option linter.unusedVariables false

section
variable {w : World} {u v : Value} {l : List (Nat × Nat)}

theorem RdLo.drewN (h : RdLo w v l) (n : Nat) : RdLo (w.drewN n) v l := h.keep ((Keeps.refl (fun _ => False) w).drewN n) (fun _ _ x => x)

set_option maxRecDepth 100000 in
theorem same_loose (hu : RdLo w u l) (hv : RdLo w v l) (hl : l.length ≤ 4096) :
    Calls Try.prog 37 #[u, v] w fun e w' => e = .returned (.bool true) ∧ ∃ n, w' = w.drewN n := by
  obtain ⟨A, ca, rfl, hA⟩ := hu.open_
  obtain ⟨B, cb, rfl, hB⟩ := hv.open_
  have HA := Lib.hid hA
  have HB := Lib.hid hB
  have HL := Lib.hid hl
  clear hu hv hA hB hl
  generalize hn : l.length = n at *
  have HN := Lib.hid hn
  clear hn
  go_enter Try.func37, Try.ntmps37
  go_wp2
  go_loopw [5] (fun i wr => ∃ k : Nat, k ≤ n ∧ i = .int .i64 (k : Int) ∧ ∃ m, wr = w.drewN m) (fun i _ => n - (intOf i).toNat)
  case atStart => exact ⟨0, Nat.zero_le _, rfl, 0, rfl⟩
  case round =>
    obtain ⟨k, hk, rfl, m, rfl⟩ := hrel
    by_cases hk4 : k < n
    · obtain ⟨ga, rfl, hca⟩ := HA.out (by omega)
      obtain ⟨gb, rfl, hcb⟩ := HB.out (by omega)
      obtain ⟨x, hx⟩ : ∃ x, l[k]? = some x := ⟨_, List.getElem?_eq_getElem (by have := HN.out; omega)⟩
      have a0 : w.cell? ⟨ga, k * 2, none⟩ = some (.int .i64 (x.1 : Int)) := by rw [Nat.mul_comm]; exact (hca k x hx).1
      have a1 : w.cell? ⟨ga, k * 2 + 1, none⟩ = some (.int .i64 (x.2 : Int)) := by rw [Nat.mul_comm]; exact (hca k x hx).2
      have b0 : w.cell? ⟨gb, k * 2, none⟩ = some (.int .i64 (x.1 : Int)) := by rw [Nat.mul_comm]; exact (hcb k x hx).1
      have b1 : w.cell? ⟨gb, k * 2 + 1, none⟩ = some (.int .i64 (x.2 : Int)) := by rw [Nat.mul_comm]; exact (hcb k x hx).2
      have h1 : (k : Int) < (n : Int) := by omega
      have h3 : (k : Int) ≤ 4096 := by have := HL.out; omega
      have HK := Lib.hid hk4
      clear hca hcb hx hk hk4
      generalize (x.1 : Int) = x1 at *
      generalize (x.2 : Int) = x2 at *
      go_wp2_with fail
      go_region
      all_goals
        go_wp2
        go_roundw
        case rel => exact ⟨k + 1, HK.out, by simp, m + 1, rfl⟩
        case measure => have := HK.out; simp only [intOf]; omega
    · have h1 : ¬ (k : Int) < (n : Int) := by omega
      obtain rfl : k = n := by omega
      clear hk hk4
      go_wp2
      go_ret
      exact ⟨rfl, m, rfl⟩
end

end Go.Proofs.Ytlfeglnacphhlaa
