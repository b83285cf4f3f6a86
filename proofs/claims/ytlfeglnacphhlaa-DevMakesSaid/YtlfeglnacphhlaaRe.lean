/- Read, and what a device owns behind it. -/
import Derived.Test.YtlfeglnacphhlaaDr
namespace Go.Proofs.Ytlfeglnacphhlaa
open Go.RowKit Go.Maps
set_option linter.unusedVariables false

section
variable {w w' : World} {b p : Nat} {R : DR} {s : DS} {ps : PS} {S : Nat → Prop}

theorem dv_read2 (h : DevO b p s S w) (ho : Own S w) (hp : Pow w p ps) (x : Int) :
    Calls Try.prog 27 #[.pointer (some ⟨b, 0, none⟩), .int .i64 x] w fun e w' => ∃ v, e = .returned (.tuple #[v, .int .i64 (readE s ps x)]) ∧
      w'.ownsRow w.heap.size 5 1 v (readC s ps x).size (octV (readC s ps x)) ∧ DevO b p (readD s ps x) S w' ∧ Keeps S w w' := by
  have O := Lib.hid h
  obtain ⟨R, h, i⟩ := h
  have RD := Lib.hid (dv_ready h hp)
  unfold readC readE readD
  cases hoff : ps.off
  · rw [hoff] at RD
    rw [if_neg (show ¬ (false = true) by decide)] at RD
    simp only [Bool.false_eq_true, if_false]
    have HH := Lib.hid (dv_has2 h x)
    by_cases hx : hasD s x
    · have e0 : decide (hasD s x) = true := decide_eq_true hx
      rw [e0] at HH
      simp only [if_pos hx]
      obtain ⟨k, rfl⟩ : ∃ k : Nat, x = (k : Int) := ⟨x.toNat, by have := hx.1; omega⟩
      rw [Int.toNat_natCast]
      have c4 := h.c4
      have f4 := h.top.free 4
      have N := Lib.hid (pat_next c4 f4 h.r1)
      have h2 := h.setRd (s.rd / 2) (by have := h.r1; omega)
      have KC := Lib.hid (keep_cells (Keeps.refl S w) i.b 4 (.int .u64 ((s.rd / 2 : Nat) : Int)))
      have SZ := Lib.hid (World.size_setCell w ⟨b, 4, none⟩ (.int .u64 ((s.rd / 2 : Nat) : Int)))
      have ST := Lib.hid (dv_stands h2 k (by have := hx.2; show k < s.n; omega))
      have O2 := Lib.hid (show DevO b p { s with rd := s.rd / 2 } S (w.setCell ⟨b, 4, none⟩ (.int .u64 ((s.rd / 2 : Nat) : Int))) from ⟨R, h2, i.same rfl⟩)
      have HO := Lib.hid ho
      have est : standsD { s with rd := s.rd / 2 } k = standsD s k := rfl
      rw [est] at ST
      clear h h2 hx e0 i ho c4 f4 est
      have hq : s.rd % 2 = 1 ∨ s.rd % 2 = 0 := by omega
      rcases hq with hq | hq
      · rw [hq] at N ⊢
        simp only [if_true, Int.reduceEq, if_false]
        clear hq
        go_enter Try.func27, Try.ntmps27
        go_wp2_with fail
        refine RD.out.mono ?_
        rintro e w' ⟨rfl, rfl⟩
        go_wp2_with fail
        refine HH.out.mono ?_
        rintro e w' ⟨rfl, rfl⟩
        go_wp2_with fail
        refine N.out.mono ?_
        rintro e w' ⟨rfl, rfl⟩
        go_wp2
        go_ret2
        exact ⟨_, rfl, row_nil8 _ _, O2.out, KC.out⟩
      · rw [hq] at N ⊢
        simp only [Nat.zero_ne_one, if_false, if_true]
        clear hq
        generalize w.setCell ⟨b, 4, none⟩ (.int .u64 ((s.rd / 2 : Nat) : Int)) = wx at *
        go_enter Try.func27, Try.ntmps27
        go_wp2_with fail
        refine RD.out.mono ?_
        rintro e w' ⟨rfl, rfl⟩
        go_wp2_with fail
        refine HH.out.mono ?_
        rintro e w' ⟨rfl, rfl⟩
        go_wp2_with fail
        refine N.out.mono ?_
        rintro e w' ⟨rfl, rfl⟩
        go_wp2_with fail
        refine ST.out.mono ?_
        rintro e w' ⟨⟨v, rfl, hv⟩, rfl⟩
        have C := Lib.hid (clone_any hv.rd (by have := hv.size; omega))
        clear hv
        go_wp2_with fail
        refine C.out.mono ?_
        rintro e w2 ⟨u, rfl, hr, hb⟩
        have QR := Lib.hid hr
        have B := Lib.hid hb
        clear hr hb
        go_wp2
        go_ret2
        have KB : Keeps S _ w2 := Below.keeps B.out S (fun k hk => by have := HO.out k hk; have := SZ.out; omega)
        exact ⟨_, rfl, by rw [← SZ.out]; exact QR.out, Rep.keep O2.out (fun k hk => by have := HO.out k hk; have := SZ.out; omega) (Keeps.of_below B.out) (fun k hk => by have := HO.out k hk; have := SZ.out; omega), KC.out.trans KB (fun n x => .inl x)⟩
    · have e0 : decide (hasD s x) = false := decide_eq_false hx
      rw [e0] at HH
      simp only [if_neg hx, Int.reduceEq, if_false]
      clear h hx e0 i ho
      go_enter Try.func27, Try.ntmps27
      go_wp2_with fail
      refine RD.out.mono ?_
      rintro e w' ⟨rfl, rfl⟩
      go_wp2_with fail
      refine HH.out.mono ?_
      rintro e w' ⟨rfl, rfl⟩
      go_wp2
      go_ret2
      exact ⟨_, rfl, row_nil8 _ _, O.out, Keeps.refl _ _⟩
  · rw [hoff] at RD
    rw [if_pos (show true = true from rfl)] at RD
    simp only [if_true, Int.reduceEq, if_false]
    clear h i ho
    go_enter Try.func27, Try.ntmps27
    go_wp2_with fail
    refine RD.out.mono ?_
    rintro e w' ⟨rfl, rfl⟩
    go_wp2
    go_ret2
    exact ⟨_, rfl, row_nil8 _ _, O.out, Keeps.refl _ _⟩
end

end Go.Proofs.Ytlfeglnacphhlaa
