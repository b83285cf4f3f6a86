/- The document's order of slots: Touch. -/
import Derived.Test.YtbhcpedokgdipaaSj
import Derived.Deep.RegionHeld3
import Derived.Deep.RegionLaw
import Derived.Deep.AppendLies
namespace Go.Proofs.Ytbhcpedokgdipaa
open Go.RowKit Fl
set_option linter.unusedVariables false

section
variable {S : Nat → Prop} {w0 w : World} {b n most : Nat} {low high : List Nat} {vl vh : Value}

theorem RfV.drewN (h : RfV S w0 w b n most vl vh low high) (k : Nat) : RfV S w0 (w.drewN k) b n most vl vh low high := h.below (below_drewN (Below.refl _ _) k)
theorem RfV.drew (h : RfV S w0 w b n most vl vh low high) : RfV S w0 w.drew b n most vl vh low high := h.below (Below.refl _ _).drew

theorem tail_cells {w : World} {g N c a : Nat} {r : List Nat} (h : RdI w (.slice (some ⟨g, 0, none⟩) N c) (a :: r)) : ∀ j u, (r.map intV)[j]? = some u → w.cell? ((⟨g, 1, none⟩ : Addr).add j) = some u := by
  obtain ⟨A, c', e, h⟩ := h
  intro j u hj
  rcases h with x | ⟨g', eg, hc⟩
  · cases x
  · subst eg
    obtain rfl : g = g' := by simp at e; exact e.1
    have hlt : j < r.length := by
      have := (List.getElem?_eq_some_iff.1 hj).1
      simpa using this
    have := hc (j + 1) (by simp; omega)
    rw [show ((⟨g, 1, none⟩ : Addr).add j) = ⟨g, j + 1, none⟩ from by simp [Addr.add, Nat.add_comm], this]
    rw [List.getElem?_map, List.getElem?_eq_getElem hlt] at hj
    simp at hj
    rw [← hj]
    simp [intV, hlt]

theorem RfV.tailHigh {W7 : World} (h : RfV S w0 W7 b n most vl vh low high) {w9 : World} {v9 : Value} {r : List Nat} {N : Nat} (hN : r.length = N) (ho : w9.ownsRow 0 3 1 v9 N (r.map intV))
    (hg : (W7.alloc (.cells #[] 3)).grownBy w9 (Value.slice (some ⟨W7.heap.size, 0, none⟩) 0 0).ownBlock)
    (hat : v9.ownBlock = (Value.slice (some ⟨W7.heap.size, 0, none⟩) 0 0).ownBlock ∨ v9.ownBlock = some (W7.heap.size + 1)) :
    RfV S w0 (w9.setCell ⟨b, 3, none⟩ v9) b n most vl v9 low r ∧ w9.cell? ⟨b, 3, none⟩ = some vh ∧ w9.frozen? ⟨b, 3, none⟩ = false := by
  have kk : Keeps (fun j => W7.heap.size ≤ j) W7 w9 := ((Keeps.refl (fun j => W7.heap.size ≤ j) W7).alloc (.cells #[] 3)).grown hg (fun j e => by
    have : W7.heap.size = j := by simpa [Value.ownBlock] using e
    exact .inr (by omega))
  have R := h.below (kk.below (Nat.le_refl _))
  have ho' : w9.ownsRow 0 3 1 v9 r.length (r.map intV) := by rw [hN]; exact ho
  have hB : ∀ j, v9.ownBlock = some j → W7.heap.size ≤ j := fun j e => by
    rcases hat with x | x
    · rw [x] at e
      have : W7.heap.size = j := by simpa [Value.ownBlock] using e
      omega
    · rw [x] at e
      have : W7.heap.size + 1 = j := by simpa using e
      omega
  exact ⟨R.setHigh ho' (fun j e => .inr ⟨Nat.le_trans h.keeps.size (hB j e), own_lt ho' j e⟩) (fun j e e' => by have := hB j e; have := own_lt h.lo j e'; omega), R.c3, R.top.free 3⟩

set_option maxRecDepth 100000 in
set_option maxHeartbeats 8000000 in
theorem rf_touch (h : RfV S w0 w b n most vl vh low high) (m : Int) (hl : low.length ≤ 1024) (hh : high.length ≤ 1024) :
    Calls Try.prog 47 #[.pointer (some ⟨b, 0, none⟩), .int .i64 m] w fun e w' => e = .returned (.bool (toS most m low high).1) ∧ ∃ vl' vh', RfV S w0 w' b n most vl' vh' (toS most m low high).2.1 (toS most m low high).2.2 := by
  have LV := rf_leave h m hl hh
  unfold toS
  unfold lvS at LV
  by_cases hi : (inI m low || inI m high) = true
  · rw [if_pos hi]
    simp only [if_pos hi] at LV
    obtain ⟨k, rfl, hk⟩ := inI_or.1 hi
    rw [Int.toNat_natCast] at *
    have LV := Lib.hid LV
    have WL := Lib.hid (Nat.le_trans (wo_le k low) hl)
    have WH := Lib.hid (Nat.le_trans (wo_le k high) hh)
    obtain ⟨i0, hi, hz0, hz1, hz2⟩ := info_parts infoInt
    unfold touchL
    generalize wo k low = lo at *
    generalize wo k high = hg at *
    obtain ⟨a, r, hr⟩ := head_tail hg k
    rw [hr, List.headD_cons, List.tail_cons]
    have HRR := Lib.hid hr
    obtain ⟨N1, hN1⟩ : ∃ N1, (a :: r).length = N1 := ⟨_, rfl⟩
    have HRL := Lib.hid (show N1 = hg.length + 1 by rw [← hN1, ← hr]; simp)
    rw [hN1]
    obtain ⟨L2, H2, eL, eH, hLH⟩ : ∃ L2 H2, (if N1 ≤ most then (lo, a :: r) else (lo ++ [a], r)).1 = L2 ∧ (if N1 ≤ most then (lo, a :: r) else (lo ++ [a], r)).2 = H2 ∧ ((N1 ≤ most → L2 = lo ∧ H2 = a :: r) ∧ (¬ N1 ≤ most → L2 = lo ++ [a] ∧ H2 = r)) :=
      ⟨_, _, rfl, rfl, fun x => by rw [if_pos x]; exact ⟨rfl, rfl⟩, fun x => by rw [if_neg x]; exact ⟨rfl, rfl⟩⟩
    show Calls _ _ _ _ fun e w' => e = .returned (.bool true) ∧ ∃ vl' vh', RfV S w0 w' b n most vl' vh' (if N1 ≤ most then (lo, a :: r) else (lo ++ [a], r)).1 (if N1 ≤ most then (lo, a :: r) else (lo ++ [a], r)).2
    rw [eL, eH]
    have HLH := Lib.hid hLH
    have HN := Lib.hid hN1
    clear h hk hl hh hr eL eH hLH hN1
    go_enter Try.func47, Try.ntmps47
    go_wp2_with fail
    refine LV.out.mono ?_
    rintro e w1 ⟨rfl, vl1, vh1, r1⟩
    obtain ⟨A1, c1, rfl⟩ := own_slice r1.hi
    obtain ⟨Al, cl, rfl⟩ := own_slice r1.lo
    have c3 := r1.c3
    have R1 := Lib.hid r1
    have R2 := Lib.hid (r1.below ((Below.refl _ w1).alloc (Nat.le_refl _) (.cells #[.int .i64 (k : Int)] 3)))
    have sz := Lib.hid (World.size_alloc w1 (.cells #[.int .i64 (k : Int)] 3))
    clear r1
    go_wp2_with (first
      | (at_builtin; refine wpList_append_own_at _ rfl _ _ 79 rfl 0 3 i0 (.int .i64 0) 1 8 Try.underlying79 hi hz0 hz1 hz2 rfl (by decide) _ _ _ rfl R2.out.hi ⟨w1.heap.size, 0, none⟩ 1 1 [.int .i64 (k : Int)] rfl rfl ?c1 ?c2 ?c3 ?c4 ?c5 ?_)
      | go_in)
    case c1 =>
      intro j u hj
      match j, hj with
      | 0, hj => simp at hj; subst hj; simp [Addr.add]
    case c2 => intro u hu; simp at hu; subst hu; rfl
    case c3 => have := WH.out; unfold maxLen; omega
    case c4 => have := WH.out; omega
    case c5 => exact Nat.zero_le _
    rintro v' w2 hown' hgr - hat
    have ho : RowO w2 v' (a :: r) := HRR.out ▸ rowO_snoc hown'
    obtain ⟨g, cap, F, rfl, -, hF, hcap, hFv⟩ := own_arr ho (by simp)
    have R3 := Lib.hid (R2.out.growHigh ho hgr (by rw [sz.out]; exact hat))
    have kk : Keeps (fun j => (Value.slice A1 hg.length c1).ownBlock = some j) _ w2 := (Keeps.refl (fun j => (Value.slice A1 hg.length c1).ownBlock = some j) _).grown hgr (fun r e => .inl e)
    have t2 := R2.out.top.keep kk (fun x => own_ne R2.out.top R2.out.hi (by decide) b x rfl)
    have e2 := t2.cell (i := 3) (by omega)
    have f2 := t2.free 3
    simp only [rfF] at e2
    have R3 : Hid (RfV S w0 (w2.setCell ⟨b, 3, none⟩ (.slice (some ⟨g, 0, none⟩) N1 cap)) b n most (.slice Al lo.length cl) (.slice (some ⟨g, 0, none⟩) N1 cap) lo (a :: r)) := Lib.hid (HN.out ▸ R3.out)
    rw [HN.out]
    clear hown' hgr hat kk t2 c3 ho hF hFv hcap
    go_wp2_with fail
    have r1 := R3.out.c1
    have r2 := R3.out.c2
    have r3 := R3.out.c3
    have q0 : (w2.setCell ⟨b, 3, none⟩ (.slice (some ⟨g, 0, none⟩) N1 cap)).cell? ⟨g, 0, none⟩ = some (.int .i64 (a : Int)) := by
      obtain ⟨B', c', eB, hB⟩ := rdI_of R3.out.hi
      rcases hB with x | ⟨g', eg, hc⟩
      · cases x
      · subst eg
        obtain rfl : g = g' := by simp at eB; exact eB.1
        exact hc 0 (by simp)
    clear e2 f2
    generalize w2.setCell ⟨b, 3, none⟩ (.slice (some ⟨g, 0, none⟩) N1 cap) = W at *
    by_cases hc : N1 ≤ most
    · have hLH := HLH.out.1 hc
      have E1 := Lib.hid hLH.1
      have E2 := Lib.hid hLH.2
      clear hLH
      have d1 : decide ((most : Int) < (N1 : Int)) = false := decide_eq_false (by omega)
      have d2 : decide (most < N1) = false := decide_eq_false (by omega)
      clear hc
      go_quiet (fail)
      go_wp2
      go_ret
      exact ⟨rfl, _, _, by rw [E1.out, E2.out]; exact R3.out.drewN nq⟩
    · have hLH := HLH.out.2 hc
      have E1 := Lib.hid hLH.1
      have E2 := Lib.hid hLH.2
      clear hLH
      have d1 : decide ((most : Int) < (N1 : Int)) = true := decide_eq_true (by omega)
      have d2 : decide (most < N1) = true := decide_eq_true (by omega)
      clear hc
      go_quiet (fail)
      go_wp2_with fail
      have RQ := Lib.hid (R3.out.drewN nq)
      have s2 := RQ.out.c2
      have s3 := RQ.out.c3
      have s4 : (W.drewN nq).cell? ⟨g, 0, none⟩ = some (.int .i64 (a : Int)) := q0
      have z2 := RQ.out.top.free 2
      clear r1 r2 r3 q0 d1 d2
      generalize W.drewN nq = W5 at *
      have lb := RQ.out.top.lt
      have lg : g < W5.heap.size := World.block_lt_of_cell? W5 _ s4
      have nb : (Value.slice Al lo.length cl).ownBlock ≠ some b := fun e => own_ne RQ.out.top RQ.out.lo (by decide) b e rfl
      have ng : (Value.slice Al lo.length cl).ownBlock ≠ some g := fun e => RQ.out.apart g e rfl
      have p1 : (0 : Int) < (N1 : Int) := by have := HRL.out; omega
      have p2 : 0 < N1 := by have := HRL.out; omega
      have p3 : decide ((0 : Int) < (N1 : Int)) = true := decide_eq_true p1
      have p4 : decide (0 < N1) = true := decide_eq_true p2
      have FZ := Lib.hid (fun (o : Obj) (w6 : World) (hgrow : ((W5.alloc o).drew).grownBy w6 (Value.slice Al lo.length cl).ownBlock) => show w6.frozen? ⟨b, 2, none⟩ = false from (hgrow.frozen_far (⟨b, 2, none⟩ : Addr) (by simp; omega) (Ne.symm nb)).trans ((RQ.out.below ((Below.refl _ W5).alloc (Nat.le_refl _) o)).drew.top.free 2))
      have FY := Lib.hid (fun (o : Obj) (w6 : World) (hgrow : ((W5.alloc o).drew).grownBy w6 (Value.slice Al lo.length cl).ownBlock) => show w6.cell? ⟨b, 2, none⟩ = some (.slice Al lo.length cl) from (hgrow.cell_far (⟨b, 2, none⟩ : Addr) (by simp; omega) (Ne.symm nb)).trans ((RQ.out.below ((Below.refl _ W5).alloc (Nat.le_refl _) o)).drew.c2))
      have FX := Lib.hid (fun (o : Obj) (w6 : World) (hgrow : ((W5.alloc o).drew).grownBy w6 (Value.slice Al lo.length cl).ownBlock) => show w6.cell? ⟨b, 3, none⟩ = some (.slice (some ⟨g, 0, none⟩) N1 cap) from (hgrow.cell_far (⟨b, 3, none⟩ : Addr) (by simp; omega) (Ne.symm nb)).trans ((RQ.out.below ((Below.refl _ W5).alloc (Nat.le_refl _) o)).drew.c3))
      have FV := Lib.hid (fun (o : Obj) (w6 : World) (hgrow : ((W5.alloc o).drew).grownBy w6 (Value.slice Al lo.length cl).ownBlock) => show w6.cell? ⟨g, 0, none⟩ = some (.int .i64 (a : Int)) from (hgrow.cell_far (⟨g, 0, none⟩ : Addr) (by simp; omega) (Ne.symm ng)).trans ((((Below.refl _ W5).alloc (Nat.le_refl _) o).drew.cell (p := ⟨g, 0, none⟩) lg).trans s4))
      go_region_law
        ((refine step_append_lies _ (by rfl) _ _ _ (by rfl) 0 3 i0 _ 1 8 Try.underlying79 hi hz0 hz1 hz2 rfl (by decide) (.slice Al lo.length cl) lo.length (lo.map intV) (by rfl) ((RQ.out.lo.alloc _).drew)
              ⟨W5.heap.size, 0, none⟩ 1 1 [.int .i64 (a : Int)] (by rfl) (by rfl) (World.news_of_block (cs := #[.int .i64 (a : Int)]) (t := 3) (fr := (0, 0)) (heap_alloc_new W5 _)) (by simp [Value.oneCell'])
              (by omega) (by have := WL.out; unfold maxLen; omega) (by have := WL.out; omega) (Nat.zero_le _) (W5.heap.size + 1) (by simp) ?_; intro gg cap1 w6 hown6 hgrow hat6 hlt6; have z6 := FZ.out _ _ hgrow; have y6 := FY.out _ _ hgrow; have x6 := FX.out _ _ hgrow; have v6 := FV.out _ _ hgrow; have HO := Lib.hid hown6; have HG := Lib.hid hgrow; have HT := Lib.hid hat6; clear hown6 hgrow hat6 hlt6))
      all_goals (
        have R7 := Lib.hid (((RQ.out.below ((Below.refl _ W5).alloc (Nat.le_refl _) (.cells #[.int .i64 (a : Int)] 3))).drew).growLow (rowO_snoc HO.out) HG.out (HT.out.imp (fun e => e.symm) (fun e => by rw [e]; simp [Value.ownBlock])))
        clear y6 x6 v6 z6
        have hcap1 : N1 ≤ cap := by
          rcases R7.out.hi.2 with ⟨x, _⟩ | ⟨_, _, _, x, _, _, y, _⟩
          · cases x
          · simp at x; have := HN.out; omega
        generalize w6.setCell ⟨b, 2, none⟩ (.slice (some ⟨gg, 0, none⟩) (lo.length + 1) cap1) = W7 at *
        have R8 := Lib.hid (R7.out.below ((Below.refl _ W7).alloc (Nat.le_refl _) (.cells #[] 3)))
        have u3 := R8.out.c3
        have fz := R8.out.top.free 3
        have m1 : (1 : Int) ≤ (N1 : Int) := by omega
        have m2 : (N1 : Int) ≤ (cap : Int) := by omega
        have OE := Lib.hid (World.ownsRow_made (base := 0) (size := 1) (e := 3) W7 #[] 0 (Nat.zero_le _) (Nat.zero_le _) rfl)
        have NW := Lib.hid (tail_cells (rdI_of R8.out.hi))
        have HL := Lib.hid (show (r.map intV).length = (N1 - 1) * 1 by have := HN.out; simp at this ⊢; omega)
        have HR := Lib.hid (show r.length = N1 - 1 by have := HN.out; simp at this ⊢; omega)
        by_cases hz : cap = 1
        · have hr0 : r = [] := List.eq_nil_of_length_eq_zero (by have := HR.out; omega)
          subst hr0
          subst hz
          obtain rfl : N1 = 1 := by omega
          clear NW HL
          have HL0 := Lib.hid (show (List.map intV []).length = 0 * 1 from rfl)
          go_wp2_with (at_builtin; refine wpList_append_own_at _ rfl _ _ 79 rfl 0 3 i0 (.int .i64 0) 1 8 Try.underlying79 hi hz0 hz1 hz2 rfl (by decide) _ _ _ rfl OE.out ⟨g, 0, none⟩ 0 0 (List.map intV []) rfl HL0.out ?c1 ?c2 ?c3 ?c4 ?c5 ?_)
          case c1 => intro j u hj; simp at hj
          case c2 => intro u hu; simp at hu
          case c3 => have := WH.out; have := HRL.out; unfold maxLen; omega
          case c4 => have := WH.out; have := HRL.out; omega
          case c5 => exact Nat.zero_le _
          rintro v9 w9 hown9 hg9 - hat9
          have T9 := R7.out.tailHigh (r := []) (N := 0) rfl (by simpa using hown9) hg9 hat9
          obtain ⟨A9, c9, rfl⟩ := own_slice hown9
          have T9' := Lib.hid T9.1
          have q1 := T9.2.1
          have q2 := T9.2.2
          clear T9 hown9 hg9 hat9 u3 fz
          go_wp2
          go_ret
          exact ⟨rfl, _, _, by rw [E1.out, E2.out]; exact T9'.out⟩
        · go_wp2_with (at_builtin; refine wpList_append_own_at _ rfl _ _ 79 rfl 0 3 i0 (.int .i64 0) 1 8 Try.underlying79 hi hz0 hz1 hz2 rfl (by decide) _ _ _ rfl OE.out ⟨g, 1, none⟩ (N1 - 1) (cap - 1) (r.map intV) rfl HL.out ?c1 ?c2 ?c3 ?c4 ?c5 ?_)
          case c1 => exact NW.out
          case c2 => intro u hu; obtain ⟨x, _, rfl⟩ := List.mem_map.1 hu; rfl
          case c3 => have := WH.out; have := HRL.out; unfold maxLen; omega
          case c4 => have := WH.out; have := HRL.out; omega
          case c5 => exact Nat.zero_le _
          rintro v9 w9 hown9 hg9 - hat9
          have T9 := R7.out.tailHigh HR.out hown9 hg9 hat9
          obtain ⟨A9, c9, rfl⟩ := own_slice hown9
          have T9' := Lib.hid T9.1
          have q1 := T9.2.1
          have q2 := T9.2.2
          clear T9 hown9 hg9 hat9 u3 fz
          go_wp2
          go_ret
          exact ⟨rfl, _, _, by rw [E1.out, E2.out]; exact T9'.out⟩)
  · rw [if_neg hi]
    simp only [if_neg hi] at LV
    have LV := Lib.hid LV
    clear h hi hl hh
    go_enter Try.func47, Try.ntmps47
    go_wp2_with fail
    refine LV.out.mono ?_
    rintro e w' ⟨rfl, vl1, vh1, r1⟩
    have R1 := Lib.hid r1
    clear r1
    go_wp2
    go_ret
    exact ⟨rfl, _, _, R1.out⟩
end

end Go.Proofs.Ytbhcpedokgdipaa
