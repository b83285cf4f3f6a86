/- DevMakes (written by wip/tools/gen_mk.py). -/
import Derived.Test.YtlfeglnacphhlaaVd
import Derived.Test.YtlfeglnacphhlaaRe
import Derived.Test.YtlfeglnacphhlaaAw
namespace Go.Proofs.Ytlfeglnacphhlaa
open Go.RowKit Go.Maps
set_option linter.unusedVariables false

theorem row_open {w : World} {base n : Nat} {v : Value} {c : ByteArray} (h : w.ownsRow base 5 1 v c.size (octV c)) (hn : c.size = n) (h0 : 0 < n) : ∃ g cap, v = .slice (some ⟨g, 0, none⟩) n cap ∧ base ≤ g ∧ g < w.heap.size ∧ (∀ i, w.frozen? ⟨g, i, none⟩ = false) ∧ ∀ i, i < n → ∃ x, w.cell? ⟨g, i, none⟩ = some x := by
  subst hn
  have hlt := h.lt
  have hr := RdB.of_row h
  rcases h.2 with ⟨_, h1⟩ | ⟨g, cap, cur, hv, hb, hh, _⟩
  · omega
  · rcases hr with ⟨_, h1⟩ | ⟨g', o, c', hv', hc⟩
    · omega
    · rw [hv] at hv'
      injection hv' with e1 _ _
      injection e1 with e1
      injection e1 with e1 e2 _
      subst e1 e2
      exact ⟨g, cap, hv, hb, (hlt g (by rw [hv]; rfl)).2, blk_free hh, fun i hi => ⟨_, by have := hc i hi; simpa using this⟩⟩

/-- A device on a power, made since w0, and what it owns. -/
structure OdS (w0 wr : World) (d p : Nat) (s : DS) (ps : PS) (S : Nat → Prop) : Prop where
  dv : DevO d p s S wr
  own : Own S wr
  pw : Pow wr p ps
  np : ¬ S p
  lo : ∀ j, S j → w0.heap.size ≤ j
  lp : w0.heap.size ≤ p
  old : Below w0.heap.size w0 wr

section
variable {w0 wa wr w' : World} {d p : Nat} {s : DS} {ps : PS} {S : Nat → Prop}

theorem OdS.keep {T : Nat → Prop} (h : OdS w0 wr d p s ps S) (k : Keeps T wr w') (hT : ∀ j, T j → w0.heap.size ≤ j ∧ ¬ S j ∧ j ≠ p) : OdS w0 w' d p s ps S :=
  ⟨Rep.keep h.dv h.own k (fun j x y => (hT j y).2.1 x), h.own.grow k.size, h.pw.keep k (fun x => (hT p x).2.2 rfl), h.np, h.lo, h.lp, h.old.trans (Keeps.below (k.mono (T := fun j => w0.heap.size ≤ j) (fun n _ x => (hT n x).1)) h.old.size)⟩
theorem OdS.below (h : OdS w0 wr d p s ps S) (k : Below wr.heap.size wr w') : OdS w0 w' d p s ps S :=
  h.keep (Keeps.of_below k) (fun j (x : wr.heap.size ≤ j) => ⟨by have := h.old.size; omega, fun y => by have := h.own j y; omega, by have := h.pw.top.lt; omega⟩)

theorem OdS.write (h : OdS w0 wa d p s ps S) (k : Below wa.heap.size wa wr) (x : Int) {v : Value} {c : ByteArray} (hv : wr.ownsRow wa.heap.size 5 1 v c.size (octV c)) (hcm : c.size ≤ 9223372036854775807) (hl : s.lim < 1000000) :
    Calls Try.prog 11 #[.pointer (some ⟨d, 0, none⟩), .int .i64 x, v] wr fun e w' => e = .returned (.int .i64 (writeE s ps x c.size)) ∧ ∃ S', OdS w0 w' d p (writeD s ps x c) (writeP s ps x c.size) S' ∧
      w'.ownsRow wa.heap.size 5 1 v c.size (octV c) ∧ ∀ g, v.ownBlock = some g → w0.heap.size ≤ g ∧ ¬ S' g ∧ g ≠ p := by
  have h2 := h.below k
  have hg : ∀ g, v.ownBlock = some g → ¬ S g ∧ g ≠ p := fun g e => by
    have := (hv.lt g e).1
    exact ⟨fun x => by have := h.own g x; omega, by have := h.pw.top.lt; omega⟩
  refine (dv_write h2.dv h2.own h2.pw h2.np x (RdB.of_row hv) hg hcm hl).mono fun e w' ⟨he, hd, hp, hk⟩ => ⟨he, Ext S wr w', ⟨hd, Own.ext h2.own hk.size, hp, ?_, ?_, h2.lp, ?_⟩, row_keep hv hk (fun g e x => x.elim (hg g e).1 (hg g e).2), fun g e => ⟨?_, ?_, (hg g e).2⟩⟩
  · exact fun x => x.elim h2.np (fun x => by have := h2.pw.top.lt; omega)
  · exact fun j x => x.elim (h2.lo j) (fun x => by have := h2.old.size; omega)
  · exact h2.old.trans (Keeps.below (hk.mono (T := fun j => w0.heap.size ≤ j) (fun n _ x => x.elim (h2.lo n) (fun e => e ▸ h2.lp))) h2.old.size)
  · have := (hv.lt g e).1; have := h.old.size; omega
  · exact fun x => x.elim (hg g e).1 (fun x => by have := (hv.lt g e).2; omega)

theorem OdS.read (h : OdS w0 wr d p s ps S) (x : Int) :
    Calls Try.prog 27 #[.pointer (some ⟨d, 0, none⟩), .int .i64 x] wr fun e w' => ∃ v, e = .returned (.tuple #[v, .int .i64 (readE s ps x)]) ∧ OdS w0 w' d p (readD s ps x) ps S ∧
      w'.ownsRow wr.heap.size 5 1 v (readC s ps x).size (octV (readC s ps x)) ∧ ∀ g, v.ownBlock = some g → w0.heap.size ≤ g ∧ ¬ S g ∧ g ≠ p := by
  refine (dv_read2 h.dv h.own h.pw x).mono fun e w' ⟨v, he, hv, hd, hk⟩ => ⟨v, he, ⟨hd, h.own.grow hk.size, h.pw.keep hk h.np, h.np, h.lo, h.lp, ?_⟩, hv, fun g e => ?_⟩
  · exact h.old.trans (Keeps.below (hk.mono (T := fun j => w0.heap.size ≤ j) (fun n _ x => h.lo n x)) h.old.size)
  · have := (hv.lt g e).1
    have := h.old.size
    exact ⟨by omega, fun x => by have := h.own g x; omega, by have := h.pw.top.lt; omega⟩
end

theorem mk_half {N : Nat} : (newD N).wr / 2 = 0 := by show 0 / 2 = 0; decide
def mkD (N : Nat) (c : ByteArray) : DS := pushD { newD N with wr := 0 } 0 c
theorem mk_write {N : Nat} (hN : 1 ≤ N) {c : ByteArray} (hc : c.size = 64) : writeE (newD N) newP 0 c.size = 0 ∧ writeP (newD N) newP 0 c.size = spendP newP ∧ writeD (newD N) newP 0 c = mkD N c := by
  have h : hasD (newD N) 0 := ⟨by decide, by show (0 : Int) < (N : Int); omega⟩
  have hf : ¬ newP.fuse = 0 := by decide
  have ho : ¬ newP.off = true := by decide
  have hw : ¬ (newD N).wr % 2 = 1 := by show ¬ 0 % 2 = 1; decide
  refine ⟨?_, ?_, ?_⟩
  · unfold writeE; rw [if_neg ho, if_pos h, if_pos hc, if_neg hf, if_neg hw]
  · unfold writeP; rw [if_neg ho, if_pos h, if_pos hc]
  · unfold writeD; rw [if_neg ho, if_pos h, if_pos hc, if_neg hf, if_neg hw, mk_half]; rfl
theorem mk_stands (N : Nat) (c : ByteArray) : standsD (mkD N c) 0 = c := rfl
theorem mk_has {N : Nat} (hN : 1 ≤ N) (c : ByteArray) : hasD (mkD N c) 0 := ⟨by decide, by show (0 : Int) < (N : Int); omega⟩
theorem mk_read {N : Nat} (hN : 1 ≤ N) (c : ByteArray) : readE (mkD N c) (spendP newP) 0 = 0 ∧ readC (mkD N c) (spendP newP) 0 = c ∧ standsD (readD (mkD N c) (spendP newP) 0) 0 = c ∧ hasD (readD (mkD N c) (spendP newP) 0) 0 := by
  have ho : ¬ (spendP newP).off = true := by unfold spendP; rw [if_neg (by decide)]; decide
  have h := mk_has hN c
  have hr : ¬ (mkD N c).rd % 2 = 1 := by show ¬ 0 % 2 = 1; decide
  have e : readE (mkD N c) (spendP newP) 0 = 0 := by unfold readE; rw [if_neg ho, if_pos h, if_neg hr]
  refine ⟨e, ?_, ?_, ?_⟩
  · unfold readC; rw [if_pos e]; rfl
  · unfold readD; rw [if_neg ho, if_pos h]; rfl
  · unfold readD; rw [if_neg ho, if_pos h]; exact h

set_option maxRecDepth 100000 in
set_option maxHeartbeats 8000000 in
theorem mk_low (w : World) (n at_ : Int) (hn : n < 0) : Calls Try.prog 6 #[.int .i64 n, .int .i64 at_] w fun e w' => e = .returned (.bool true) ∧ Below w.heap.size w w' := by
  have HN := Lib.hid (show n < 0 ∨ 4096 < n from .inl hn)
  have h0 : ¬ 0 ≤ n := by omega
  have h9 : n < 1 := by omega
  have NP := Lib.hid (pow_new w)
  go_enter Try.func6, Try.ntmps6
  go_wp2_with fail
  refine NP.out.mono ?_
  rintro e w1 ⟨rfl, hp1, b1, z1⟩
  have HB := Lib.hid b1
  have N1 := Lib.hid (new_arg w1 (.pointer (some ⟨w.heap.size, 0, none⟩)) n HN.out)
  clear hp1 b1 z1 NP
  go_wp2_with fail
  refine N1.out.mono ?_
  rintro e _ ⟨rfl, rfl⟩
  clear N1
  have V1 := Lib.hid (vp_new (w := w1) (v := .pointer none) (.inl rfl))
  go_wp2_with fail
  refine V1.out.mono ?_
  rintro e _ ⟨rfl, rfl⟩
  clear V1
  have hc : (w1.alloc (.cells #[.bool false, .bool false, .int .i64 0, .int .i64 0] 67)).cell? ⟨w1.heap.size, 0, none⟩ = some (.bool false) := blk_cell' (heap_alloc_new _ _) 0
  have V2 := Lib.hid (vp_new (w := w1.alloc (.cells #[.bool false, .bool false, .int .i64 0, .int .i64 0] 67)) (v := .pointer (some ⟨w1.heap.size, 0, none⟩)) (.inr ⟨_, rfl, hc⟩))
  have BA := Lib.hid ((Below.refl w1.heap.size w1).alloc (Nat.le_refl _) (.cells #[.bool false, .bool false, .int .i64 0, .int .i64 0] 67))
  clear hc
  go_wp2_with fail
  refine V2.out.mono ?_
  rintro e _ ⟨rfl, rfl⟩
  clear V2
  generalize w1.alloc (.cells #[.bool false, .bool false, .int .i64 0, .int .i64 0] 67) = wA at *
  have HB := Lib.hid (HB.out.trans (BA.out.mono HB.out.size))
  clear BA
  go_wp2_with fail
  have hc : (wA.alloc (.cells #[.pointer none, .slice none 0 0, .map none, .map none, .int .u64 0, .int .u64 0] 73)).cell? ⟨wA.heap.size, 0, none⟩ = some (.pointer none) := blk_cell' (heap_alloc_new _ _) 0
  have VO := Lib.hid (show Vd (wA.alloc (.cells #[.pointer none, .slice none 0 0, .map none, .map none, .int .u64 0, .int .u64 0] 73)) (.pointer (some ⟨wA.heap.size, 0, none⟩)) from .inr ⟨_, rfl, hc⟩)
  have VN := Lib.hid (show Vd (wA.alloc (.cells #[.pointer none, .slice none 0 0, .map none, .map none, .int .u64 0, .int .u64 0] 73)) (.pointer none) from .inl rfl)
  have BA := Lib.hid ((Below.refl wA.heap.size wA).alloc (Nat.le_refl _) (.cells #[.pointer none, .slice none 0 0, .map none, .map none, .int .u64 0, .int .u64 0] 73))
  clear hc
  generalize hg : wA.heap.size = g at *
  generalize wA.alloc (.cells #[.pointer none, .slice none 0 0, .map none, .map none, .int .u64 0, .int .u64 0] 73) = wB at *
  have HB := Lib.hid (HB.out.trans (BA.out.mono (by have := HB.out.size; omega)))
  clear BA hg
  have C := Lib.hid (vd_fail VN.out 1 1)
  go_wp2_with fail
  refine C.out.mono ?_
  rintro e _ ⟨rfl, rfl⟩
  clear C
  have C := Lib.hid (vd_fail VO.out 1 1)
  go_wp2_with fail
  refine C.out.mono ?_
  rintro e _ ⟨rfl, rfl⟩
  clear C
  have C := Lib.hid (vp_cut wB)
  go_wp2_with fail
  refine C.out.mono ?_
  rintro e _ ⟨rfl, rfl⟩
  clear C
  have C := Lib.hid (vd_read VN.out at_)
  go_wp2_with fail
  refine C.out.mono ?_
  rintro e _ ⟨rfl, rfl⟩
  clear C
  have C := Lib.hid (vd_crash VO.out (.pointer (some ⟨w.heap.size, 0, none⟩)) (.slice none 0 0))
  go_wp2_with fail
  refine C.out.mono ?_
  rintro e _ ⟨rfl, rfl⟩
  clear C
  have C := Lib.hid (vd_peek VN.out at_)
  go_wp2_with fail
  refine C.out.mono ?_
  rintro e _ ⟨rfl, rfl⟩
  clear C
  have C := Lib.hid (vd_write VN.out at_ (.slice none 0 0))
  go_wp2_with fail
  refine C.out.mono ?_
  rintro e _ ⟨rfl, rfl⟩
  clear C
  have C := Lib.hid (vd_flush VO.out)
  go_wp2_with fail
  refine C.out.mono ?_
  rintro e _ ⟨rfl, rfl⟩
  clear C
  have C := Lib.hid (vd_rot VN.out at_ 0 1)
  go_wp2_with fail
  refine C.out.mono ?_
  rintro e _ ⟨rfl, rfl⟩
  clear C
  have C := Lib.hid (vd_rotten VO.out at_)
  go_wp2_with fail
  refine C.out.mono ?_
  rintro e _ ⟨rfl, rfl⟩
  clear C
  have C := Lib.hid (vd_size VN.out)
  go_wp2_with fail
  refine C.out.mono ?_
  rintro e _ ⟨rfl, rfl⟩
  clear C
  have C := Lib.hid (vd_size VO.out)
  go_wp2_with fail
  refine C.out.mono ?_
  rintro e _ ⟨rfl, rfl⟩
  clear C
  have C := Lib.hid (vd_loose VO.out)
  go_wp2_with fail
  refine C.out.mono ?_
  rintro e _ ⟨rfl, rfl⟩
  clear C
  have C := Lib.hid (vp_done wB)
  go_wp2_with fail
  refine C.out.mono ?_
  rintro e _ ⟨rfl, rfl⟩
  clear C
  have C := Lib.hid (vp_down wB)
  go_wp2_with fail
  refine C.out.mono ?_
  rintro e _ ⟨rfl, rfl⟩
  clear C
  have C := Lib.hid (vp_fuse wB 1)
  go_wp2_with fail
  refine C.out.mono ?_
  rintro e _ ⟨rfl, rfl⟩
  clear C
  clear VN VO
  have AW := Lib.hid (law_awake wB)
  go_wp2_with fail
  refine AW.out.mono ?_
  rintro e wC ⟨rfl, bC⟩
  have HB := Lib.hid (HB.out.trans (bC.mono HB.out.size))
  clear bC
  go_wp2_with fail
  go_ret
  exact ⟨rfl, HB.out⟩

set_option maxRecDepth 100000 in
set_option maxHeartbeats 8000000 in
theorem mk_high (w : World) (n at_ : Int) (hn : 4096 < n) : Calls Try.prog 6 #[.int .i64 n, .int .i64 at_] w fun e w' => e = .returned (.bool true) ∧ Below w.heap.size w w' := by
  have HN := Lib.hid (show n < 0 ∨ 4096 < n from .inr hn)
  have h0 : 0 ≤ n := by omega
  have h00 : ¬ n < 0 := by omega
  have h1 : ¬ n ≤ 4096 := by omega
  have h8 : decide (n ≤ 4096) = false := decide_eq_false h1
  have h9 : ¬ n < 1 := by omega
  have NP := Lib.hid (pow_new w)
  go_enter Try.func6, Try.ntmps6
  go_wp2_with fail
  refine NP.out.mono ?_
  rintro e w1 ⟨rfl, hp1, b1, z1⟩
  have HB := Lib.hid b1
  have N1 := Lib.hid (new_arg w1 (.pointer (some ⟨w.heap.size, 0, none⟩)) n HN.out)
  clear hp1 b1 z1 NP
  go_wp2_with fail
  refine N1.out.mono ?_
  rintro e _ ⟨rfl, rfl⟩
  clear N1
  have V1 := Lib.hid (vp_new (w := w1) (v := .pointer none) (.inl rfl))
  go_wp2_with fail
  refine V1.out.mono ?_
  rintro e _ ⟨rfl, rfl⟩
  clear V1
  have hc : (w1.alloc (.cells #[.bool false, .bool false, .int .i64 0, .int .i64 0] 67)).cell? ⟨w1.heap.size, 0, none⟩ = some (.bool false) := blk_cell' (heap_alloc_new _ _) 0
  have V2 := Lib.hid (vp_new (w := w1.alloc (.cells #[.bool false, .bool false, .int .i64 0, .int .i64 0] 67)) (v := .pointer (some ⟨w1.heap.size, 0, none⟩)) (.inr ⟨_, rfl, hc⟩))
  have BA := Lib.hid ((Below.refl w1.heap.size w1).alloc (Nat.le_refl _) (.cells #[.bool false, .bool false, .int .i64 0, .int .i64 0] 67))
  clear hc
  go_wp2_with fail
  refine V2.out.mono ?_
  rintro e _ ⟨rfl, rfl⟩
  clear V2
  generalize w1.alloc (.cells #[.bool false, .bool false, .int .i64 0, .int .i64 0] 67) = wA at *
  have HB := Lib.hid (HB.out.trans (BA.out.mono HB.out.size))
  clear BA
  go_wp2_with fail
  have hc : (wA.alloc (.cells #[.pointer none, .slice none 0 0, .map none, .map none, .int .u64 0, .int .u64 0] 73)).cell? ⟨wA.heap.size, 0, none⟩ = some (.pointer none) := blk_cell' (heap_alloc_new _ _) 0
  have VO := Lib.hid (show Vd (wA.alloc (.cells #[.pointer none, .slice none 0 0, .map none, .map none, .int .u64 0, .int .u64 0] 73)) (.pointer (some ⟨wA.heap.size, 0, none⟩)) from .inr ⟨_, rfl, hc⟩)
  have VN := Lib.hid (show Vd (wA.alloc (.cells #[.pointer none, .slice none 0 0, .map none, .map none, .int .u64 0, .int .u64 0] 73)) (.pointer none) from .inl rfl)
  have BA := Lib.hid ((Below.refl wA.heap.size wA).alloc (Nat.le_refl _) (.cells #[.pointer none, .slice none 0 0, .map none, .map none, .int .u64 0, .int .u64 0] 73))
  clear hc
  generalize hg : wA.heap.size = g at *
  generalize wA.alloc (.cells #[.pointer none, .slice none 0 0, .map none, .map none, .int .u64 0, .int .u64 0] 73) = wB at *
  have HB := Lib.hid (HB.out.trans (BA.out.mono (by have := HB.out.size; omega)))
  clear BA hg
  have C := Lib.hid (vd_fail VN.out 1 1)
  go_wp2_with fail
  refine C.out.mono ?_
  rintro e _ ⟨rfl, rfl⟩
  clear C
  have C := Lib.hid (vd_fail VO.out 1 1)
  go_wp2_with fail
  refine C.out.mono ?_
  rintro e _ ⟨rfl, rfl⟩
  clear C
  have C := Lib.hid (vp_cut wB)
  go_wp2_with fail
  refine C.out.mono ?_
  rintro e _ ⟨rfl, rfl⟩
  clear C
  have C := Lib.hid (vd_read VN.out at_)
  go_wp2_with fail
  refine C.out.mono ?_
  rintro e _ ⟨rfl, rfl⟩
  clear C
  have C := Lib.hid (vd_crash VO.out (.pointer (some ⟨w.heap.size, 0, none⟩)) (.slice none 0 0))
  go_wp2_with fail
  refine C.out.mono ?_
  rintro e _ ⟨rfl, rfl⟩
  clear C
  have C := Lib.hid (vd_peek VN.out at_)
  go_wp2_with fail
  refine C.out.mono ?_
  rintro e _ ⟨rfl, rfl⟩
  clear C
  have C := Lib.hid (vd_write VN.out at_ (.slice none 0 0))
  go_wp2_with fail
  refine C.out.mono ?_
  rintro e _ ⟨rfl, rfl⟩
  clear C
  have C := Lib.hid (vd_flush VO.out)
  go_wp2_with fail
  refine C.out.mono ?_
  rintro e _ ⟨rfl, rfl⟩
  clear C
  have C := Lib.hid (vd_rot VN.out at_ 0 1)
  go_wp2_with fail
  refine C.out.mono ?_
  rintro e _ ⟨rfl, rfl⟩
  clear C
  have C := Lib.hid (vd_rotten VO.out at_)
  go_wp2_with fail
  refine C.out.mono ?_
  rintro e _ ⟨rfl, rfl⟩
  clear C
  have C := Lib.hid (vd_size VN.out)
  go_wp2_with fail
  refine C.out.mono ?_
  rintro e _ ⟨rfl, rfl⟩
  clear C
  have C := Lib.hid (vd_size VO.out)
  go_wp2_with fail
  refine C.out.mono ?_
  rintro e _ ⟨rfl, rfl⟩
  clear C
  have C := Lib.hid (vd_loose VO.out)
  go_wp2_with fail
  refine C.out.mono ?_
  rintro e _ ⟨rfl, rfl⟩
  clear C
  have C := Lib.hid (vp_done wB)
  go_wp2_with fail
  refine C.out.mono ?_
  rintro e _ ⟨rfl, rfl⟩
  clear C
  have C := Lib.hid (vp_down wB)
  go_wp2_with fail
  refine C.out.mono ?_
  rintro e _ ⟨rfl, rfl⟩
  clear C
  have C := Lib.hid (vp_fuse wB 1)
  go_wp2_with fail
  refine C.out.mono ?_
  rintro e _ ⟨rfl, rfl⟩
  clear C
  clear VN VO
  have AW := Lib.hid (law_awake wB)
  go_wp2_with fail
  refine AW.out.mono ?_
  rintro e wC ⟨rfl, bC⟩
  have HB := Lib.hid (HB.out.trans (bC.mono HB.out.size))
  clear bC
  go_wp2_with fail
  go_ret
  exact ⟨rfl, HB.out⟩

set_option maxRecDepth 100000 in
set_option maxHeartbeats 16000000 in
theorem mk_mid (w : World) (N : Nat) (at_ : Int) (hn : N ≤ 4096) : Calls Try.prog 6 #[.int .i64 (N : Int), .int .i64 at_] w fun e w' => e = .returned (.bool true) ∧ Below w.heap.size w w' := by
  have HN := Lib.hid hn
  have h0 : (0 : Int) ≤ (N : Int) := by omega
  have h1 : (N : Int) ≤ 4096 := by omega
  clear hn
  have NP := Lib.hid (pow_new w)
  go_enter Try.func6, Try.ntmps6
  go_wp2_with fail
  refine NP.out.mono ?_
  rintro e w1 ⟨rfl, hp1, b1, z1⟩
  have N1 := Lib.hid (dv_new hp1 N HN.out)
  have HP := Lib.hid hp1
  have HB1 := Lib.hid b1
  have HZ := Lib.hid z1
  clear hp1 b1 z1 NP
  go_wp2_with fail
  refine N1.out.mono ?_
  rintro e w2 ⟨rfl, x2, b2, z2⟩
  have O2 := Lib.hid (show ∃ S, OdS w w2 (w1.heap.size + 3) w.heap.size (newD N) newP S from ⟨New w1 w2, by
    have z1 := HZ.out
    exact ⟨x2.dv (New w1 w2) (fun k h1 h2 => ⟨h1, by omega⟩), new_own _ _, HP.out.below b2 HP.out.top.lt, fun x => by have := x.1; omega, fun j x => by have := x.1; omega, Nat.le_refl _, HB1.out.trans (b2.mono HB1.out.size)⟩⟩)
  generalize hd : w1.heap.size + 3 = d at *
  clear hd x2 b2 z2 N1 HZ HP HB1
  obtain ⟨S, O2⟩ := O2.out
  have HO := Lib.hid O2
  have HB := Lib.hid O2.old
  clear O2
  have V1 := Lib.hid (vp_new (w := w2) (v := .pointer none) (.inl rfl))
  go_wp2_with fail
  refine V1.out.mono ?_
  rintro e _ ⟨rfl, rfl⟩
  clear V1
  have hc : (w2.alloc (.cells #[.bool false, .bool false, .int .i64 0, .int .i64 0] 67)).cell? ⟨w2.heap.size, 0, none⟩ = some (.bool false) := blk_cell' (heap_alloc_new _ _) 0
  have V2 := Lib.hid (vp_new (w := w2.alloc (.cells #[.bool false, .bool false, .int .i64 0, .int .i64 0] 67)) (v := .pointer (some ⟨w2.heap.size, 0, none⟩)) (.inr ⟨_, rfl, hc⟩))
  have BA := Lib.hid ((Below.refl w2.heap.size w2).alloc (Nat.le_refl _) (.cells #[.bool false, .bool false, .int .i64 0, .int .i64 0] 67))
  clear hc
  go_wp2_with fail
  refine V2.out.mono ?_
  rintro e _ ⟨rfl, rfl⟩
  clear V2
  generalize w2.alloc (.cells #[.bool false, .bool false, .int .i64 0, .int .i64 0] 67) = wA at *
  have HO := Lib.hid (HO.out.below BA.out)
  have HB := Lib.hid (HB.out.trans (BA.out.mono HB.out.size))
  clear BA
  go_wp2_with fail
  have hc : (wA.alloc (.cells #[.pointer none, .slice none 0 0, .map none, .map none, .int .u64 0, .int .u64 0] 73)).cell? ⟨wA.heap.size, 0, none⟩ = some (.pointer none) := blk_cell' (heap_alloc_new _ _) 0
  have VO := Lib.hid (show Vd (wA.alloc (.cells #[.pointer none, .slice none 0 0, .map none, .map none, .int .u64 0, .int .u64 0] 73)) (.pointer (some ⟨wA.heap.size, 0, none⟩)) from .inr ⟨_, rfl, hc⟩)
  have VN := Lib.hid (show Vd (wA.alloc (.cells #[.pointer none, .slice none 0 0, .map none, .map none, .int .u64 0, .int .u64 0] 73)) (.pointer none) from .inl rfl)
  have BA := Lib.hid ((Below.refl wA.heap.size wA).alloc (Nat.le_refl _) (.cells #[.pointer none, .slice none 0 0, .map none, .map none, .int .u64 0, .int .u64 0] 73))
  clear hc
  generalize hg : wA.heap.size = g at *
  generalize wA.alloc (.cells #[.pointer none, .slice none 0 0, .map none, .map none, .int .u64 0, .int .u64 0] 73) = wB at *
  have HO := Lib.hid (HO.out.below (by rw [hg]; exact BA.out))
  have HB := Lib.hid (HB.out.trans (BA.out.mono (by have := HB.out.size; omega)))
  clear BA hg
  have C := Lib.hid (vd_fail VN.out 1 1)
  go_wp2_with fail
  refine C.out.mono ?_
  rintro e _ ⟨rfl, rfl⟩
  clear C
  have C := Lib.hid (vd_fail VO.out 1 1)
  go_wp2_with fail
  refine C.out.mono ?_
  rintro e _ ⟨rfl, rfl⟩
  clear C
  have C := Lib.hid (vp_cut wB)
  go_wp2_with fail
  refine C.out.mono ?_
  rintro e _ ⟨rfl, rfl⟩
  clear C
  have C := Lib.hid (vd_read VN.out at_)
  go_wp2_with fail
  refine C.out.mono ?_
  rintro e _ ⟨rfl, rfl⟩
  clear C
  have C := Lib.hid (vd_crash VO.out (.pointer (some ⟨w.heap.size, 0, none⟩)) (.slice none 0 0))
  go_wp2_with fail
  refine C.out.mono ?_
  rintro e _ ⟨rfl, rfl⟩
  clear C
  have C := Lib.hid (vd_peek VN.out at_)
  go_wp2_with fail
  refine C.out.mono ?_
  rintro e _ ⟨rfl, rfl⟩
  clear C
  have C := Lib.hid (vd_write VN.out at_ (.slice none 0 0))
  go_wp2_with fail
  refine C.out.mono ?_
  rintro e _ ⟨rfl, rfl⟩
  clear C
  have C := Lib.hid (vd_flush VO.out)
  go_wp2_with fail
  refine C.out.mono ?_
  rintro e _ ⟨rfl, rfl⟩
  clear C
  have C := Lib.hid (vd_rot VN.out at_ 0 1)
  go_wp2_with fail
  refine C.out.mono ?_
  rintro e _ ⟨rfl, rfl⟩
  clear C
  have C := Lib.hid (vd_rotten VO.out at_)
  go_wp2_with fail
  refine C.out.mono ?_
  rintro e _ ⟨rfl, rfl⟩
  clear C
  have C := Lib.hid (vd_size VN.out)
  go_wp2_with fail
  refine C.out.mono ?_
  rintro e _ ⟨rfl, rfl⟩
  clear C
  have C := Lib.hid (vd_size VO.out)
  go_wp2_with fail
  refine C.out.mono ?_
  rintro e _ ⟨rfl, rfl⟩
  clear C
  have C := Lib.hid (vd_loose VO.out)
  go_wp2_with fail
  refine C.out.mono ?_
  rintro e _ ⟨rfl, rfl⟩
  clear C
  have C := Lib.hid (vp_done wB)
  go_wp2_with fail
  refine C.out.mono ?_
  rintro e _ ⟨rfl, rfl⟩
  clear C
  have C := Lib.hid (vp_down wB)
  go_wp2_with fail
  refine C.out.mono ?_
  rintro e _ ⟨rfl, rfl⟩
  clear C
  have C := Lib.hid (vp_fuse wB 1)
  go_wp2_with fail
  refine C.out.mono ?_
  rintro e _ ⟨rfl, rfl⟩
  clear C
  clear VN VO
  by_cases hN1 : N < 1
  · have h1 : (N : Int) < 1 := by omega
    clear hN1 HO
    have AW := Lib.hid (law_awake wB)
    go_wp2_with fail
    refine AW.out.mono ?_
    rintro e wC ⟨rfl, bC⟩
    have HB := Lib.hid (HB.out.trans (bC.mono HB.out.size))
    clear bC
    go_wp2_with fail
    go_ret
    exact ⟨rfl, HB.out⟩
  · have h1 : ¬ (N : Int) < 1 := by omega
    have H1 := Lib.hid (show 1 ≤ N by omega)
    clear hN1
    have FA := Lib.hid (fill_any wB 7 0)
    go_wp2_with fail
    go_at_call 12
    refine FA.out.mono ?_
    rintro e w3 ⟨v, rfl, hv, b3⟩
    obtain ⟨c, hc⟩ : ∃ c, c = fillB 7 (fillN 0) := ⟨_, rfl⟩
    rw [← hc] at hv
    have hcs : c.size = 64 := by rw [hc]; exact fillB_size 7 64
    have FN := Lib.hid (show ∀ W, Calls Try.prog 12 #[.int .u8 7, .int .i64 0] W fun e w' => ∃ v, e = .returned v ∧ w'.ownsRow W.heap.size 5 1 v c.size (octV c) ∧ Below W.heap.size W w' from by
      intro W
      rw [hc]
      exact fill_any W 7 0)
    have HC := Lib.hid hcs
    have WR := Lib.hid (HO.out.write b3 0 hv (by rw [hcs]; decide) (by show 0 < 1000000; decide))
    rw [(mk_write H1.out hcs).1, (mk_write H1.out hcs).2.1, (mk_write H1.out hcs).2.2] at WR
    clear hv b3 FA hc hcs HO
    go_wp2_with fail
    refine WR.out.mono ?_
    rintro e w4 ⟨rfl, S4, O4, r4, g4⟩
    obtain ⟨g, cap, rfl, hb4, hl4, hf4, hx4⟩ := row_open r4 HC.out (by omega)
    obtain ⟨x0, hx0⟩ := hx4 0 (by omega)
    have f0 := hf4 0
    have h64 : 0 < 64 := by decide
    have K5 := keep_cell w4 g 0 (.int .u8 1)
    have O5 := O4.keep K5 (fun j (e : j = g) => by subst e; exact g4 j rfl)
    have HO5 := Lib.hid O5
    have RD := Lib.hid (O5.read 0)
    rw [(mk_read H1.out c).1, (mk_read H1.out c).2.1] at RD
    clear O4 r4 g4 hb4 hl4 hf4 hx4 K5 O5 WR
    go_wp2_with fail
    generalize w4.setCell ⟨g, 0, none⟩ (.int .u8 1) = w5 at *
    refine RD.out.mono ?_
    rintro e w6 ⟨v6, rfl, O6, r6, g6⟩
    have HO6 := Lib.hid O6
    have HR6 := Lib.hid r6
    have HG6 := Lib.hid g6
    have cv : ∀ W, Below w6.heap.size w6 W → (convert 44 9 v6).run Try.prog W = .ok (.string c) W := fun W k => ((RdB.of_row HR6.out).old k).str
    have CV := Lib.hid cv
    have cv0 := cv w6.drew (Below.refl w6.heap.size w6).drew
    have B0 := (Below.refl w6.heap.size w6).drew
    clear cv O6 r6 g6 hx0 f0 RD
    go_wp2_with fail
    go_region_held_law (fun W => Below w6.heap.size w6 W) (first | assumption | exact b15) (first
        | (go_at_call 12; (with_reducible refine (FN.out _).mono ?_); rintro e w14 ⟨v14, rfl, r14, b14⟩; have b15 := B0.trans (b14.mono B0.size); have cv14 := CV.out w14 b15; have cw14 := (RdB.of_row r14).str))
    all_goals (
      have r7 := row_keep HR6.out (Keeps.of_below b15) (fun g e => by have := (HR6.out.lt g e).2; omega)
      obtain ⟨g7, cap7, rfl, hb7, hl7, hf7, hx7⟩ := row_open r7 HC.out (by omega)
      obtain ⟨x1, hx1⟩ := hx7 1 (by omega)
      have f1 := hf7 1
      have O7 := HO6.out.below b15
      have O8 := O7.keep (keep_cell w14 g7 1 (.int .u8 2)) (fun j (e : j = g7) => by subst e; exact HG6.out j rfl)
      have HO8 := Lib.hid O8
      have HP := Lib.hid (mk_read H1.out c).2.2
      obtain ⟨⟨R8, hd8, _⟩, _⟩ := O8
      have PK := Lib.hid (dv_peek hd8 0)
      unfold peekD at PK
      rw [if_pos HP.out.2, decide_eq_true HP.out.2, show (0 : Int).toNat = 0 from rfl, HP.out.1] at PK
      clear r7 hb7 hl7 hf7 hx7 O7 hd8 cv14 cw14 r14 b14 cv0 B0 b15
      go_wp2_with fail
      generalize w14.setCell ⟨g7, 1, none⟩ (.int .u8 2) = w15 at *
      refine PK.out.mono ?_
      rintro e w16 ⟨v16, rfl, r16, b16⟩
      have HB16 := Lib.hid (HO8.out.below b16).old
      have HR16 := Lib.hid r16
      have cv : ∀ W, Below w16.heap.size w16 W → (convert 44 9 v16).run Try.prog W = .ok (.string c) W := fun W k => ((RdB.of_row HR16.out).old k).str
      have CV := Lib.hid cv
      have cv0 := cv w16.drew (Below.refl w16.heap.size w16).drew
      have B0 := (Below.refl w16.heap.size w16).drew
      have AW := Lib.hid law_awake
      clear cv r16 b16 PK f1 hx1
      go_wp2_with fail
      go_region_held_law (fun W => Below w16.heap.size w16 W) (first | assumption | exact b18 | exact b20) (first
          | (go_at_call 12; (with_reducible refine (FN.out _).mono ?_); rintro e w17 ⟨v17, rfl, r17, b17⟩; have b18 := B0.trans (b17.mono B0.size); have cv18 := CV.out w17 b18; have cw18 := (RdB.of_row r17).str)
          | (go_at_call 14; (with_reducible refine (AW.out _).mono ?_); rintro e w19 ⟨rfl, b19⟩; have b20 := b18.trans (b19.mono b18.size))))
    all_goals (
      go_wp2
      go_ret
      exact ⟨rfl, HB16.out.trans (b20.mono HB16.out.size)⟩)

theorem devMakes_walk (n at_ : Int) (w : World) : Calls Try.prog 6 #[.int .i64 n, .int .i64 at_] w fun e w' => e = .returned (.bool true) ∧ Below w.heap.size w w' := by
  by_cases h0 : n < 0
  · exact mk_low w n at_ h0
  · by_cases h1 : 4096 < n
    · exact mk_high w n at_ h1
    · obtain ⟨N, rfl⟩ : ∃ N : Nat, n = (N : Int) := ⟨n.toNat, by omega⟩
      exact mk_mid w N at_ (by omega)

end Go.Proofs.Ytlfeglnacphhlaa
