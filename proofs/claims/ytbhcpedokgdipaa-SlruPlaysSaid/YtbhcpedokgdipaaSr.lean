/- The document's order of slots: All, New. -/
import Derived.Test.YtbhcpedokgdipaaSq
namespace Go.Proofs.Ytbhcpedokgdipaa
open Go.RowKit Fl
set_option linter.unusedVariables false

/-- A row behind another one: a step of a region that draws. -/
theorem step_row {ops : Array Oper} {o : Oper} {a : Act} {K : Act → World → Prop} {Q : Exit → Act → World → Prop} {E : Prop} {w : World} (hgd : o.guard = none) (s x : Operand)
    (ho : o.op = .call { callee := .builtin .append, args := #[s, x], argTypes := #[79, 79] })
    (base : Nat) (v u : Value) (xs l : List Nat) (hs : a.eval s = v) (hx : a.eval x = u) (hown : w.ownsRow base 3 1 v xs.length (xs.map intV)) (hu : RowO w u l) (hb : base ≤ w.heap.size) (hn : xs.length + l.length ≤ 1000000)
    (h : ∀ v' w', w'.ownsRow base 3 1 v' (xs ++ l).length ((xs ++ l).map intV) → w.grownBy w' v.ownBlock → K (a.put o.dst v') w') :
    if Region.wanted o (yielded ops a.tmps) = true then Oper.wp Try.prog o a w K Q else E := by
  have hw : Region.wanted o (yielded ops a.tmps) = true := by simp [Region.wanted, hgd]
  rw [if_pos hw]
  obtain ⟨i0, hi, hz0, hz1, hz2⟩ := info_parts infoInt
  rcases hu.2 with ⟨rfl, h0⟩ | ⟨g, cap, cur, rfl, hbg, hh, hc, hm, hs', ht⟩
  · obtain rfl : l = [] := List.eq_nil_of_length_eq_zero h0
    have hrun := run_append_owned_none (P := Try.prog) (w := w) base 79 o.type 3 i0 1 Try.underlying79 hi v xs.length (xs.map intV) hown
    have h1 := h v w (by simpa using hown) (World.grownBy.refl w _)
    unfold Oper.wp
    simp [execOp, ho, resolve, invoke, builtin, hs, hx, hrun, Result.andThen]
    exact h1
  · refine wp_append_own w s x 79 ho base 3 i0 (.int .i64 0) 1 8 Try.underlying79 hi hz0 hz1 hz2 rfl (by decide) v xs.length (xs.map intV) hs hown ⟨g, 0, none⟩ l.length cap (l.map intV) hx (by simp) (hu.cells (g := g) rfl) (fun y hy => ?_) (by unfold maxLen; omega) (by omega) hb (fun v' w' h1 h2 _ => h v' w' (by simpa using h1) h2)
    obtain ⟨z, _, rfl⟩ := List.mem_map.1 hy
    rfl

section
variable {S : Nat → Prop} {w0 w : World} {b n most : Nat} {low high : List Nat} {vl vh : Value}

set_option maxRecDepth 100000 in
set_option maxHeartbeats 4000000 in
theorem rf_all (h : RfV S w0 w b n most vl vh low high) (hl : low.length ≤ 1024) (hh : high.length ≤ 1024) :
    Calls Try.prog 85 #[.pointer (some ⟨b, 0, none⟩)] w fun e w' => ∃ v, e = .returned v ∧ w'.ownsRow w.heap.size 3 1 v (low ++ high).length ((low ++ high).map intV) ∧ Below w.heap.size w w' := by
  obtain ⟨A, ca, rfl⟩ := own_slice h.lo
  obtain ⟨B, cb, rfl⟩ := own_slice h.hi
  have c2 := h.c2
  have c3 := h.c3
  have lb := h.top.lt
  have H := Lib.hid h
  have HL := Lib.hid hl
  have HH := Lib.hid hh
  have OE := Lib.hid (World.ownsRow_made (base := w.heap.size) (size := 1) (e := 3) w.drew #[] 0 (Nat.le_refl _) (Nat.zero_le _) rfl)
  have B0 := Lib.hid (((Below.refl w.heap.size w).drew).alloc (Nat.le_refl _) (.cells #[] 3))
  have KL := Lib.hid (fun (W : World) (k : Below w.heap.size w W) => (H.out.below k).lo)
  have KH := Lib.hid (fun (W : World) (k : Below w.heap.size w W) => (H.out.below k).hi)
  have K3 := Lib.hid (fun (W : World) (k : Below w.heap.size w W) => (H.out.below k).c3)
  have FB := Lib.hid (fun (W : World) (hg : (w.drew.alloc (.cells #[] 3)).grownBy W (Value.slice (some ⟨w.heap.size, 0, none⟩) 0 0).ownBlock) => B0.out.grown hg (by simp) (fun k e => by simp [Value.ownBlock] at e; omega))
  clear h hl hh
  go_enter Try.func85, Try.ntmps85
  go_wp2_with fail
  go_region_law
    (first
      | ((refine step_row (by rfl) _ _ (by rfl) w.heap.size V1 _ low high (by rfl) (by rfl) O1.out (KH.out _ B1.out) B1.out.size (by have := HL.out; have := HH.out; omega) ?_; intro v2 w2 o2 g2; have O2 := Lib.hid o2; have B2 := Lib.hid (B1.out.grown g2 B1.out.size (fun k e => own_ge O1.out k e)); clear o2 g2))
      | ((refine step_row (by rfl) _ _ (by rfl) w.heap.size _ _ [] low (by rfl) (by rfl) OE.out (KL.out _ B0.out) (by simp) (by have := HL.out; simp; omega) ?_; intro V1 w1 o1 g1; have O1 := Lib.hid (show w1.ownsRow w.heap.size 3 1 V1 low.length (low.map intV) from o1); have B1 := Lib.hid (FB.out _ g1); have c3' := K3.out _ B1.out; clear o1 g1)))
  all_goals (
    go_wp2
    go_ret
    exact ⟨_, rfl, O2.out, B2.out⟩)

theorem rf_new (w : World) (f : Nat) (hf : f < 18446744073709551616) (hn : n ≤ 1024) (hm : (most : Int) = shareI n f) :
    Calls Try.prog 45 #[.int .i64 (n : Int), .float .f64 f] w fun e w' => ∃ b, e = .returned (.pointer (some ⟨b, 0, none⟩)) ∧ RfO b n most [] [] (New w w') w' ∧ Below w.heap.size w w' := by
  have SH := rShare_any n f hf w
  rw [← hm] at SH
  have SH := Lib.hid SH
  clear hm
  go_enter Try.func45, Try.ntmps45
  go_wp2_with fail
  refine SH.out.mono ?_
  rintro e w' ⟨rfl, rfl⟩
  go_wp2
  go_ret
  refine ⟨_, rfl, ⟨.slice none 0 0, .slice none 0 0, Arr.mk_ (L := 4) (heap_at _ _ _ rfl) (by rfl) (fun i (hi : i < 4) => ?_), World.ownsRow_nil _ _ _ _, World.ownsRow_nil _ _ _ _, ⟨Nat.le_refl _, by rw [World.size_alloc]; omega⟩, fun j e => by simp [Value.ownBlock] at e, fun j e => by simp [Value.ownBlock] at e, fun j e => by simp [Value.ownBlock] at e⟩, (Below.refl _ _).alloc (Nat.le_refl _) _⟩
  have : i = 0 ∨ i = 1 ∨ i = 2 ∨ i = 3 := by omega
  rcases this with rfl | rfl | rfl | rfl <;> rfl
end

end Go.Proofs.Ytbhcpedokgdipaa
