/- The program's power: walks of NewPower, real, Fuse, Cut, Down, Done, spend. -/
import Derived.Test.YtlfeglnacphhlaaDb
namespace Go.Proofs.Ytlfeglnacphhlaa
open Go.RowKit
set_option linter.unusedVariables false

/-- A power: is it off, its fuse (below nought: none), how many writing calls were done. -/
structure PS where
  off : Bool
  fuse : Int
  done : Int

def powF (s : PS) : Nat → Value
  | 0 => .bool true
  | 1 => .bool s.off
  | 2 => .int .i64 s.fuse
  | _ => .int .i64 s.done

/-- The power at p. -/
structure Pow (w : World) (p : Nat) (s : PS) : Prop where
  top : Arr w p 67 4 (powF s)
  f0 : -1 ≤ s.fuse
  f1 : s.fuse ≤ 1048576
  d0 : -9223372036854775808 ≤ s.done
  d1 : s.done ≤ 9223372036854775807

def newP : PS := ⟨false, -1, 0⟩
def fuseE (s : PS) (n : Int) : Int := if s.off = true then 80 else if n < -1 ∨ 1048576 < n then 1 else 0
def fuseP (s : PS) (n : Int) : PS := if s.off = true then s else if n < -1 ∨ 1048576 < n then s else { s with fuse := n }
def spendB (s : PS) : Bool := !(s.fuse == 0)
def spendP (s : PS) : PS := if s.fuse = 0 then { s with off := true } else ⟨s.off, if 0 < s.fuse then s.fuse - 1 else s.fuse, wrap64 (s.done + 1)⟩

section
variable {w w' : World} {p : Nat} {s : PS}

theorem Pow.keep {T : Nat → Prop} (h : Pow w p s) (k : Keeps T w w') (hT : ¬ T p) : Pow w' p s := { h with top := h.top.keep k hT }
theorem Pow.below {B : Nat} (h : Pow w p s) (k : Below B w w') (hB : p < B) : Pow w' p s := { h with top := h.top.below k hB }
theorem Pow.drewN (h : Pow w p s) (n : Nat) : Pow (w.drewN n) p s := { h with top := h.top }
theorem Pow.c0 (h : Pow w p s) : w.cell? ⟨p, 0, none⟩ = some (.bool true) := h.top.cell (i := 0) (by omega)
theorem Pow.c1 (h : Pow w p s) : w.cell? ⟨p, 1, none⟩ = some (.bool s.off) := h.top.cell (i := 1) (by omega)
theorem Pow.c2 (h : Pow w p s) : w.cell? ⟨p, 2, none⟩ = some (.int .i64 s.fuse) := h.top.cell (i := 2) (by omega)
theorem Pow.c3 (h : Pow w p s) : w.cell? ⟨p, 3, none⟩ = some (.int .i64 s.done) := h.top.cell (i := 3) (by omega)

theorem pow_new (w : World) : Calls Try.prog 17 #[] w fun e w' => e = .returned (.pointer (some ⟨w.heap.size, 0, none⟩)) ∧ Pow w' w.heap.size newP ∧ Below w.heap.size w w' ∧ w'.heap.size = w.heap.size + 1 := by
  go_enter Try.func17, Try.ntmps17
  go_wp2
  go_ret
  refine ⟨rfl, ⟨⟨_, heap_at _ _ _ rfl, rfl, fun i hi => ?_⟩, by decide, by decide, by decide, by decide⟩, (Below.refl _ _).alloc (Nat.le_refl _) _, by rw [World.size_alloc]⟩
  have : i = 0 ∨ i = 1 ∨ i = 2 ∨ i = 3 := by omega
  rcases this with rfl | rfl | rfl | rfl <;> rfl

theorem pow_real (h : Pow w p s) : Calls Try.prog 31 #[.pointer (some ⟨p, 0, none⟩)] w fun e w' => e = .returned (.bool true) ∧ w = w' := by
  have c0 := h.c0
  clear h
  go_enter Try.func31, Try.ntmps31
  go_wp2
  go_ret
  exact ⟨rfl, rfl⟩

theorem pow_none (w : World) : Calls Try.prog 31 #[.pointer none] w fun e w' => e = .returned (.bool false) ∧ w = w' := by
  go_enter Try.func31, Try.ntmps31
  go_wp2
  go_ret
  exact ⟨rfl, rfl⟩

theorem pow_down (h : Pow w p s) : Calls Try.prog 10 #[.pointer (some ⟨p, 0, none⟩)] w fun e w' => e = .returned (.bool s.off) ∧ w = w' := by
  have c1 := h.c1
  have R := Lib.hid (pow_real h)
  clear h
  go_enter Try.func10, Try.ntmps10
  go_wp2_with fail
  refine R.out.mono ?_
  rintro e w' ⟨rfl, rfl⟩
  go_wp2
  go_ret
  exact ⟨rfl, rfl⟩

theorem pow_done (h : Pow w p s) : Calls Try.prog 13 #[.pointer (some ⟨p, 0, none⟩)] w fun e w' => e = .returned (.int .i64 s.done) ∧ w = w' := by
  have c3 := h.c3
  have R := Lib.hid (pow_real h)
  clear h
  go_enter Try.func13, Try.ntmps13
  go_wp2_with fail
  refine R.out.mono ?_
  rintro e w' ⟨rfl, rfl⟩
  go_wp2
  go_ret
  exact ⟨rfl, rfl⟩

theorem Pow.set1 (h : Pow w p s) (b : Bool) : Pow (w.setCell ⟨p, 1, none⟩ (.bool b)) p { s with off := b } :=
  { h with top := (h.top.set 1 _).congr fun i hi => by
                  have : i = 0 ∨ i = 1 ∨ i = 2 ∨ i = 3 := by omega
                  rcases this with rfl | rfl | rfl | rfl <;> rfl }

theorem Pow.set2 (h : Pow w p s) (n : Int) (n0 : -1 ≤ n) (n1 : n ≤ 1048576) : Pow (w.setCell ⟨p, 2, none⟩ (.int .i64 n)) p { s with fuse := n } :=
  { h with
    f0 := n0
    f1 := n1
    top := (h.top.set 2 _).congr fun i hi => by
      have : i = 0 ∨ i = 1 ∨ i = 2 ∨ i = 3 := by omega
      rcases this with rfl | rfl | rfl | rfl <;> rfl }
theorem Pow.set3 (h : Pow w p s) (n : Int) (n0 : -9223372036854775808 ≤ n) (n1 : n ≤ 9223372036854775807) : Pow (w.setCell ⟨p, 3, none⟩ (.int .i64 n)) p { s with done := n } :=
  { h with
    d0 := n0
    d1 := n1
    top := (h.top.set 3 _).congr fun i hi => by
      have : i = 0 ∨ i = 1 ∨ i = 2 ∨ i = 3 := by omega
      rcases this with rfl | rfl | rfl | rfl <;> rfl }

theorem keep_cell (w : World) (p i : Nat) (v : Value) : Keeps (fun k => k = p) w (w.setCell ⟨p, i, none⟩ v) := (Keeps.refl (fun k => k = p) w).setCell (p := ⟨p, i, none⟩) (.inl rfl) v
theorem keep_cells {S : Nat → Prop} {w w' : World} {p : Nat} (h : Keeps S w w') (hp : S p) (i : Nat) (v : Value) : Keeps S w (w'.setCell ⟨p, i, none⟩ v) := h.setCell (p := ⟨p, i, none⟩) (.inl hp) v

theorem pow_cut (h : Pow w p s) : Calls Try.prog 26 #[.pointer (some ⟨p, 0, none⟩)] w fun e w' => e = .returned (.tuple #[]) ∧ Pow w' p { s with off := true } ∧ Keeps (fun k => k = p) w w' ∧ w'.heap.size = w.heap.size := by
  have c1 := h.c1
  have f1 := h.top.free 1
  have R := Lib.hid (pow_real h)
  have H := Lib.hid (h.set1 true)
  clear h
  go_enter Try.func26, Try.ntmps26
  go_wp2_with fail
  refine R.out.mono ?_
  rintro e w' ⟨rfl, rfl⟩
  go_wp2
  go_end0
  exact ⟨rfl, H.out, keep_cell _ _ _ _, by rw [World.size_setCell]⟩

theorem pow_fuse (h : Pow w p s) (n : Int) (n0 : -9223372036854775808 ≤ n) (n1 : n ≤ 9223372036854775807) :
    Calls Try.prog 8 #[.pointer (some ⟨p, 0, none⟩), .int .i64 n] w fun e w' => e = .returned (.int .i64 (fuseE s n)) ∧ Pow w' p (fuseP s n) ∧ Keeps (fun k => k = p) w w' ∧ w'.heap.size = w.heap.size := by
  have c1 := h.c1
  have f2 := h.top.free 2
  have c2 := h.c2
  have R := Lib.hid (pow_real h)
  have H := Lib.hid h
  have H2 := Lib.hid h.set2
  unfold fuseE fuseP
  clear h
  cases ho : s.off
  · rw [ho] at c1
    rw [if_neg (show ¬ (false = true) by decide), if_neg (show ¬ (false = true) by decide)]
    by_cases h1 : n < -1
    · rw [if_pos (show n < -1 ∨ 1048576 < n from .inl h1), if_pos (show n < -1 ∨ 1048576 < n from .inl h1)]
      have e1 : decide (n < -1) = true := decide_eq_true h1
      clear ho
      go_enter Try.func8, Try.ntmps8
      go_wp2_with fail
      refine R.out.mono ?_
      rintro e w' ⟨rfl, rfl⟩
      go_wp2
      go_ret
      exact ⟨rfl, H.out, Keeps.refl _ _, rfl⟩
    · by_cases h2 : 1048576 < n
      · rw [if_pos (show n < -1 ∨ 1048576 < n from .inr h2), if_pos (show n < -1 ∨ 1048576 < n from .inr h2)]
        have e1 : decide (n < -1) = false := decide_eq_false h1
        have e2 : decide (1048576 < n) = true := decide_eq_true h2
        clear ho
        go_enter Try.func8, Try.ntmps8
        go_wp2_with fail
        refine R.out.mono ?_
        rintro e w' ⟨rfl, rfl⟩
        go_wp2
        go_ret
        exact ⟨rfl, H.out, Keeps.refl _ _, rfl⟩
      · have h3 : ¬ (n < -1 ∨ 1048576 < n) := by omega
        rw [if_neg h3, if_neg h3]
        have e1 : decide (n < -1) = false := decide_eq_false h1
        have e2 : decide (1048576 < n) = false := decide_eq_false h2
        have H3 := H2.out n (by omega) (by omega)
        rw [ho] at H3
        have H3 := Lib.hid H3
        clear ho h3 h1 h2
        go_enter Try.func8, Try.ntmps8
        go_wp2_with fail
        refine R.out.mono ?_
        rintro e w' ⟨rfl, rfl⟩
        go_wp2
        go_ret
        exact ⟨rfl, H3.out, keep_cell _ _ _ _, by rw [World.size_setCell]⟩
  · rw [ho] at c1
    rw [if_pos (show true = true from rfl), if_pos (show true = true from rfl)]
    clear ho
    go_enter Try.func8, Try.ntmps8
    go_wp2_with fail
    refine R.out.mono ?_
    rintro e w' ⟨rfl, rfl⟩
    go_wp2
    go_ret
    exact ⟨rfl, H.out, Keeps.refl _ _, rfl⟩

theorem wrap64_bd (n : Int) : -9223372036854775808 ≤ wrap64 n ∧ wrap64 n ≤ 9223372036854775807 := by unfold wrap64; omega

theorem pow_spend (h : Pow w p s) :
    Calls Try.prog 33 #[.pointer (some ⟨p, 0, none⟩)] w fun e w' => e = .returned (.bool (spendB s)) ∧ Pow w' p (spendP s) ∧ Keeps (fun k => k = p) w w' ∧ w'.heap.size = w.heap.size := by
  have c1 := h.c1
  have c2 := h.c2
  have c3 := h.c3
  have fr := h.top.free
  have f1 := fr 1
  have f2 := fr 2
  have f3 := fr 3
  have HO := Lib.hid (h.set1 true)
  have H := Lib.hid h
  have hd := wrap64_bd (s.done + 1)
  have H3 := Lib.hid (h.set3 (wrap64 (s.done + 1)) hd.1 hd.2)
  have b0 := h.f0
  have b1 := h.f1
  unfold spendB spendP
  have K := Lib.hid (keep_cell w p)
  by_cases h0 : s.fuse = 0
  · rw [if_pos h0]
    have e0 : (s.fuse == 0) = true := by simp [h0]
    rw [e0]
    clear fr b0 b1 h hd h0
    go_enter Try.func33, Try.ntmps33
    go_wp2
    go_ret
    exact ⟨rfl, HO.out, K.out _ _, by rw [World.size_setCell]⟩
  · rw [if_neg h0]
    have e0 : (s.fuse == 0) = false := by simp [h0]
    rw [e0]
    by_cases hp : 0 < s.fuse
    · rw [if_pos hp]
      have H4 := Lib.hid ((h.set2 (s.fuse - 1) (by omega) (by omega)).set3 (wrap64 (s.done + 1)) hd.1 hd.2)
      have K2 := Lib.hid (keep_cells (K.out 2 (.int .i64 (s.fuse - 1))) rfl 3 (.int .i64 (wrap64 (s.done + 1))))
      have e1 : decide (0 < s.fuse) = true := decide_eq_true hp
      have c3' := (h.set2 (s.fuse - 1) (by omega) (by omega)).c3
      have f3' := (h.set2 (s.fuse - 1) (by omega) (by omega)).top.free 3
      simp only at c3'
      clear fr h hd h0
      go_enter Try.func33, Try.ntmps33
      go_wp2
      go_ret
      exact ⟨rfl, H4.out, K2.out, by rw [World.size_setCell, World.size_setCell]⟩
    · rw [if_neg hp]
      have e1 : decide (0 < s.fuse) = false := decide_eq_false hp
      have e2 : ({ off := s.off, fuse := s.fuse, done := wrap64 (s.done + 1) } : PS) = { s with done := wrap64 (s.done + 1) } := rfl
      rw [e2]
      clear fr h hd h0 e2 hp b0 b1
      go_enter Try.func33, Try.ntmps33
      go_wp2
      go_ret
      exact ⟨rfl, H3.out, K.out _ _, by rw [World.size_setCell]⟩
end

end Go.Proofs.Ytlfeglnacphhlaa
