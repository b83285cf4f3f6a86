/- What the slots have, one behind the other: the iterator, and the row. -/
import Derived.Test.YtbgknopjgohocaaGreatKa
namespace Go.Proofs.YtbgknopjgohocaaGreat
open Go.RowKit Go.Shelf
set_option linter.unusedVariables false
set_option maxRecDepth 100000
set_option maxHeartbeats 2000000
attribute [local go_sem] Oper.semAt_some

theorem below_none {W W' : World} (h : Below W.heap.size W W') : W.grownBy W' none := ⟨h.os, h.tape, h.output, h.size, fun k hk _ => h.block k hk⟩

/-- The iterator: each entry, in the slots' order. -/
theorem pe_each1 (l b1 b2 b3 b sb wb nb ns N lo hi : Nat) (P : PLS) (m : Int) (T : Nat → Prop) (hT : ∀ j, T j ↔ (j = b1 ∨ j = b2 ∨ j = b3 ∨ j = b ∨ j = sb ∨ j = wb)) (hlo : lo ≤ 100000) (hhi : hi ≤ 100000) (J Jx : List Nat → World → Prop) {Bd : Nat} (hJ : AbidesFrom Bd J)
    (hY : ∀ pre x W, J pre W → pre.length < (usedR P.sl lo (min hi ns - lo)).length → YieldAt Fence.wide 3 Tryz.prog l #[.agg (entA P.sl x)] W fun e W' =>
      (e = .returned (.bool true) ∧ J (pre ++ [x]) W' ∧ KT T W W') ∨ (e = .returned (.bool false) ∧ Jx (pre ++ [x]) W'))
    (W : World) (hB1 : W.cell? ⟨b1, 0, none⟩ = some (.pointer (some ⟨b, 0, none⟩))) (hB2 : W.cell? ⟨b2, 0, none⟩ = some (.int .i64 (lo : Int))) (hB3 : W.cell? ⟨b3, 0, none⟩ = some (.int .i64 (hi : Int))) (hL : Pl W b sb wb nb ns N P m) (h0 : J [] W) :
    CallsIn Fence.wide 4 Tryz.prog 70 #[.func (.yield l) #[] #[], .pointer (some ⟨b1, 0, none⟩), .pointer (some ⟨b2, 0, none⟩), .pointer (some ⟨b3, 0, none⟩)] W fun e W' => (∃ v, e = .returned v) ∧
      ((∃ ys, ys = usedR P.sl lo (min hi ns - lo) ∧ J ys W') ∨ (∃ pre, pre <+: usedR P.sl lo (min hi ns - lo) ∧ Jx pre W')) := by
  have n1 := hL.i.n1
  have CK := Lib.hid (fun (W' : World) (h : KT T W W') => (⟨Keeps.cell h hB1 (fun x => x ((hT _).2 (.inl rfl))), Keeps.cell h hB2 (fun x => x ((hT _).2 (.inr (.inl rfl)))), Keeps.cell h hB3 (fun x => x ((hT _).2 (.inr (.inr (.inl rfl))))), hL.keep h (fun x => x ((hT _).2 (.inr (.inr (.inr (.inl rfl)))))) (fun x => x ((hT _).2 (.inr (.inr (.inr (.inr (.inl rfl))))))) (fun x => x ((hT _).2 (.inr (.inr (.inr (.inr (.inr rfl)))))))⟩ : W'.cell? ⟨b1, 0, none⟩ = some (.pointer (some ⟨b, 0, none⟩)) ∧ W'.cell? ⟨b2, 0, none⟩ = some (.int .i64 (lo : Int)) ∧ W'.cell? ⟨b3, 0, none⟩ = some (.int .i64 (hi : Int)) ∧ Pl W' b sb wb nb ns N P m))
  have HY := Lib.hid hY
  have KTB := Lib.hid (fun (A B : World) (h : Below A.heap.size A B) => (show KT T A B from (Keeps.of_below h).mono (fun n hn x => by omega)))
  have HJ := Lib.hid (fun pre A B (h : J pre A) (k : Below A.heap.size A B) => hJ pre A B none h (below_none k) (fun r e => by cases e))
  have y0 : ¬ ((lo : Int) < 0) := by omega
  have y1 : (0 : Int) ≤ (lo : Int) := by omega
  obtain ⟨M, hM⟩ : ∃ M, min hi ns = M := ⟨_, rfl⟩
  rw [hM] at HY ⊢
  have HM := Lib.hid hM
  clear hL hY hJ hM
  refine callsIn_of_wp Tryz.func70 rfl trivial ?_ rfl
  simp only [Tryz.ntmps70, List.size_toArray, List.length_cons, List.length_nil, Nat.reduceAdd, Nat.reduceSub, Array.replicate_succ, Array.replicate_zero, List.push_toArray, List.append_toArray, List.nil_append, List.cons_append]
  gi_wp2
  gi_loopw [5, 6, 7, 8] (fun i _ _ _ wr => ∃ k : Nat, k ≤ M - lo ∧ i = .int .i64 ((lo + k : Nat) : Int) ∧ J (usedR P.sl lo k) wr ∧ KT T W wr) (fun i _ _ _ _ => lo + (M - lo) - (intOf i).toNat)
  case atStart => exact ⟨0, Nat.zero_le _, rfl, h0, Keeps.refl _ _⟩
  case round =>
    obtain ⟨k, hk, rfl, hJs, hB⟩ := hrel
    obtain ⟨d1, d2, d3, hP⟩ := CK.out _ hB
    have c0 := hP.c0
    have HB := Lib.hid hB
    have HP := Lib.hid hP
    have HJS := Lib.hid hJs
    clear hB hJs
    have BD := Lib.hid (fun n => (((Keeps.refl (fun k => wr.heap.size ≤ k) wr).drewN n).below (Nat.le_refl _)))
    rcases Nat.lt_or_ge ns hi with hc1 | hc1
    · have hMM : M = ns := by have := HM.out; omega
      rcases Nat.lt_or_ge k (M - lo) with hc | hc
      · have r1 : (lo : Int) + (k : Int) < (ns : Int) := by omega
        have AT0 := Lib.hid (fun W (kk : Below wr.heap.size wr W) => pl_At (hP.below kk) (lo + k) (by omega))
        have UN := Lib.hid (usedR_next P.sl lo k)
        have UL := Lib.hid (fun hx => usedR_lt P.sl lo hc hx)
        have UP := Lib.hid (usedR_prefix P.sl lo (show k + 1 ≤ M - lo from hc))
        have q1 : (lo : Int) + (k : Int) + 1 ≤ 200000 := by omega
        have HK := Lib.hid hc
        obtain ⟨x, hx⟩ : ∃ x, x = P.sl (lo + k) := ⟨_, rfl⟩
        have EN := Lib.hid (show entA P.sl (lo + k) = #[.int .i64 ((lo : Int) + (k : Int)), .int .i64 (x - 1), .int .u64 (tgI x)] by rw [hx]; rfl)
        have HX := Lib.hid hx
        clear hP hc hk hMM
        by_cases h0 : x = 0
        · obtain ⟨z0, hz0⟩ : ∃ z0 : Int, 0 = z0 := ⟨_, rfl⟩
          have AT := Lib.hid (fun W (kk : Below wr.heap.size wr W) => (show Calls Tryz.prog 71 #[.pointer (some ⟨b, 0, none⟩), .int .i64 ((lo : Int) + (k : Int))] W (fun e w' => e = .returned (.tuple #[.agg #[.int .i64 z0, .int .i64 z0, .int .u64 z0], .bool false, .bool false]) ∧ Below W.heap.size W w') from (by
            have := AT0.out W kk
            rw [← HX.out, if_pos h0, h0] at this
            rw [← hz0]
            exact this)))
          have UN := Lib.hid (UN.out.trans (by rw [← HX.out, if_pos h0, List.append_nil]))
          clear AT0 UL UP EN HX HY hx h0 x hz0 HP CK HM hT hlo hhi
          gi_wp2_with fail
          gi_quiet (fail)
          gi_wp2_with fail
          refine ⟨trivial, (callsIn_wide.2 (AT.out _ (BD.out _))).mono ?_⟩
          rintro e w2 ⟨rfl, bw2⟩
          have B2 := Lib.hid ((BD.out nq).trans bw2)
          clear bw2
          go_simp
          iterate 42 (try gi_step)
          refine ⟨fun _ _ => trivial, ?_⟩
          gi_wp2
          go_roundw
          case rel => exact ⟨k + 1, HK.out, by simp; omega, by rw [UN.out]; exact HJ.out _ _ _ HJS.out (B2.out.alloc B2.out.size _), KT.t HB.out (KTB.out _ _ (B2.out.alloc B2.out.size _))⟩
          case measure => simp only [intOf]; have := HK.out; omega
        · have AT := Lib.hid (fun W (kk : Below wr.heap.size wr W) => (show Calls Tryz.prog 71 #[.pointer (some ⟨b, 0, none⟩), .int .i64 ((lo : Int) + (k : Int))] W (fun e w' => e = .returned (.tuple #[.agg #[.int .i64 ((lo : Int) + (k : Int)), .int .i64 (x - 1), .int .u64 (tgI x)], .bool (suB x), .bool true]) ∧ Below W.heap.size W w') from (by
            have := AT0.out W kk
            rw [← HX.out, if_neg h0, EN.out, decide_eq_true (show x ≠ 0 from h0)] at this
            exact this)))
          have H0 := Lib.hid (show P.sl (lo + k) ≠ 0 by rw [← HX.out]; exact h0)
          have UN := Lib.hid (UN.out.trans (by rw [if_neg H0.out]))
          have YY := Lib.hid (fun W2 (hj : J (usedR P.sl lo k) W2) => (by
            have := HY.out (usedR P.sl lo k) (lo + k) W2 hj (UL.out H0.out)
            rw [EN.out, ← UN.out] at this
            exact this : YieldAt Fence.wide 3 Tryz.prog l #[.agg #[.int .i64 ((lo : Int) + (k : Int)), .int .i64 (x - 1), .int .u64 (tgI x)]] W2 fun e W' => (e = .returned (.bool true) ∧ J (usedR P.sl lo (k + 1)) W' ∧ KT T W2 W') ∨ (e = .returned (.bool false) ∧ Jx (usedR P.sl lo (k + 1)) W')))
          clear AT0 UL EN HX HY h0 hx HP CK HM hT hlo hhi
          generalize tgI x = tg at *
          generalize suB x = su at *
          generalize x - 1 = xx at *
          gi_wp2_with fail
          gi_quiet (fail)
          gi_wp2_with fail
          refine ⟨trivial, (callsIn_wide.2 (AT.out _ (BD.out _))).mono ?_⟩
          rintro e w2 ⟨rfl, bw2⟩
          have B2 := Lib.hid ((BD.out nq).trans bw2)
          clear bw2
          obtain ⟨fn, tmps, assign, body, hy, hRR⟩ := YY.out (w2.alloc (.cells #[.int .i64 ((lo : Int) + (k : Int)), .int .i64 xx, .int .u64 tg] 93)) (HJ.out _ _ _ HJS.out (B2.out.alloc B2.out.size _))
          gi_wp2
          refine hRR.mono ?_
          rintro e w3 (⟨rfl, hJ3, hk3⟩ | ⟨rfl, hJx3⟩)
          · gi_wp2
            go_roundw
            case rel => exact ⟨k + 1, HK.out, by simp; omega, hJ3, KT.t (KT.t HB.out (KTB.out _ _ (B2.out.alloc B2.out.size _))) hk3⟩
            case measure => simp only [intOf]; have := HK.out; omega
          · gi_wp2
            refine bodyPost_ret (results_none rfl _ _ _) rfl ?_
            exact ⟨⟨_, rfl⟩, .inr ⟨_, UP.out, hJx3⟩⟩
      · have r1 : (ns : Int) ≤ (lo : Int) + (k : Int) := by omega
        have hkk : k = M - lo := by omega
        subst hkk
        clear hP hc hk
        gi_wp2_with fail
        gi_quiet (fail)
        gi_wp2
        go_end0
        exact ⟨⟨_, rfl⟩, .inl ⟨_, rfl, HJ.out _ _ _ HJS.out (BD.out _)⟩⟩
    · have hc1 : ¬ ns < hi := Nat.not_lt.2 hc1
      have hMM : M = hi := by have := HM.out; omega
      rcases Nat.lt_or_ge k (M - lo) with hc | hc
      · have r1 : (lo : Int) + (k : Int) < (hi : Int) := by omega
        have AT0 := Lib.hid (fun W (kk : Below wr.heap.size wr W) => pl_At (hP.below kk) (lo + k) (by omega))
        have UN := Lib.hid (usedR_next P.sl lo k)
        have UL := Lib.hid (fun hx => usedR_lt P.sl lo hc hx)
        have UP := Lib.hid (usedR_prefix P.sl lo (show k + 1 ≤ M - lo from hc))
        have q1 : (lo : Int) + (k : Int) + 1 ≤ 200000 := by omega
        have HK := Lib.hid hc
        obtain ⟨x, hx⟩ : ∃ x, x = P.sl (lo + k) := ⟨_, rfl⟩
        have EN := Lib.hid (show entA P.sl (lo + k) = #[.int .i64 ((lo : Int) + (k : Int)), .int .i64 (x - 1), .int .u64 (tgI x)] by rw [hx]; rfl)
        have HX := Lib.hid hx
        clear hP hc hk hMM
        by_cases h0 : x = 0
        · obtain ⟨z0, hz0⟩ : ∃ z0 : Int, 0 = z0 := ⟨_, rfl⟩
          have AT := Lib.hid (fun W (kk : Below wr.heap.size wr W) => (show Calls Tryz.prog 71 #[.pointer (some ⟨b, 0, none⟩), .int .i64 ((lo : Int) + (k : Int))] W (fun e w' => e = .returned (.tuple #[.agg #[.int .i64 z0, .int .i64 z0, .int .u64 z0], .bool false, .bool false]) ∧ Below W.heap.size W w') from (by
            have := AT0.out W kk
            rw [← HX.out, if_pos h0, h0] at this
            rw [← hz0]
            exact this)))
          have UN := Lib.hid (UN.out.trans (by rw [← HX.out, if_pos h0, List.append_nil]))
          clear AT0 UL UP EN HX HY hx h0 x hz0 HP CK HM hT hlo hhi
          gi_wp2_with fail
          gi_quiet (fail)
          gi_wp2_with fail
          refine ⟨trivial, (callsIn_wide.2 (AT.out _ (BD.out _))).mono ?_⟩
          rintro e w2 ⟨rfl, bw2⟩
          have B2 := Lib.hid ((BD.out nq).trans bw2)
          clear bw2
          go_simp
          iterate 42 (try gi_step)
          refine ⟨fun _ _ => trivial, ?_⟩
          gi_wp2
          go_roundw
          case rel => exact ⟨k + 1, HK.out, by simp; omega, by rw [UN.out]; exact HJ.out _ _ _ HJS.out (B2.out.alloc B2.out.size _), KT.t HB.out (KTB.out _ _ (B2.out.alloc B2.out.size _))⟩
          case measure => simp only [intOf]; have := HK.out; omega
        · have AT := Lib.hid (fun W (kk : Below wr.heap.size wr W) => (show Calls Tryz.prog 71 #[.pointer (some ⟨b, 0, none⟩), .int .i64 ((lo : Int) + (k : Int))] W (fun e w' => e = .returned (.tuple #[.agg #[.int .i64 ((lo : Int) + (k : Int)), .int .i64 (x - 1), .int .u64 (tgI x)], .bool (suB x), .bool true]) ∧ Below W.heap.size W w') from (by
            have := AT0.out W kk
            rw [← HX.out, if_neg h0, EN.out, decide_eq_true (show x ≠ 0 from h0)] at this
            exact this)))
          have H0 := Lib.hid (show P.sl (lo + k) ≠ 0 by rw [← HX.out]; exact h0)
          have UN := Lib.hid (UN.out.trans (by rw [if_neg H0.out]))
          have YY := Lib.hid (fun W2 (hj : J (usedR P.sl lo k) W2) => (by
            have := HY.out (usedR P.sl lo k) (lo + k) W2 hj (UL.out H0.out)
            rw [EN.out, ← UN.out] at this
            exact this : YieldAt Fence.wide 3 Tryz.prog l #[.agg #[.int .i64 ((lo : Int) + (k : Int)), .int .i64 (x - 1), .int .u64 (tgI x)]] W2 fun e W' => (e = .returned (.bool true) ∧ J (usedR P.sl lo (k + 1)) W' ∧ KT T W2 W') ∨ (e = .returned (.bool false) ∧ Jx (usedR P.sl lo (k + 1)) W')))
          clear AT0 UL EN HX HY h0 hx HP CK HM hT hlo hhi
          generalize tgI x = tg at *
          generalize suB x = su at *
          generalize x - 1 = xx at *
          gi_wp2_with fail
          gi_quiet (fail)
          gi_wp2_with fail
          refine ⟨trivial, (callsIn_wide.2 (AT.out _ (BD.out _))).mono ?_⟩
          rintro e w2 ⟨rfl, bw2⟩
          have B2 := Lib.hid ((BD.out nq).trans bw2)
          clear bw2
          obtain ⟨fn, tmps, assign, body, hy, hRR⟩ := YY.out (w2.alloc (.cells #[.int .i64 ((lo : Int) + (k : Int)), .int .i64 xx, .int .u64 tg] 93)) (HJ.out _ _ _ HJS.out (B2.out.alloc B2.out.size _))
          gi_wp2
          refine hRR.mono ?_
          rintro e w3 (⟨rfl, hJ3, hk3⟩ | ⟨rfl, hJx3⟩)
          · gi_wp2
            go_roundw
            case rel => exact ⟨k + 1, HK.out, by simp; omega, hJ3, KT.t (KT.t HB.out (KTB.out _ _ (B2.out.alloc B2.out.size _))) hk3⟩
            case measure => simp only [intOf]; have := HK.out; omega
          · gi_wp2
            refine bodyPost_ret (results_none rfl _ _ _) rfl ?_
            exact ⟨⟨_, rfl⟩, .inr ⟨_, UP.out, hJx3⟩⟩
      · have r1 : (hi : Int) ≤ (lo : Int) + (k : Int) := by omega
        have hkk : k = M - lo := by omega
        subst hkk
        clear hP hc hk
        gi_wp2_with fail
        gi_quiet (fail)
        gi_wp2
        go_end0
        exact ⟨⟨_, rfl⟩, .inl ⟨_, rfl, HJ.out _ _ _ HJS.out (BD.out _)⟩⟩

theorem pe_each (w : World) (b lo hi : Nat) :
    Calls Tryz.prog 50 #[.pointer (some ⟨b, 0, none⟩), .int .i64 (lo : Int), .int .i64 (hi : Int)] w fun e w' => e = .returned (.func (.func 70) #[] #[.pointer (some ⟨w.heap.size, 0, none⟩), .pointer (some ⟨w.heap.size + 1, 0, none⟩), .pointer (some ⟨w.heap.size + 2, 0, none⟩)]) ∧
      w' = ((w.alloc (.cells #[.pointer (some ⟨b, 0, none⟩)] 61)).alloc (.cells #[.int .i64 (lo : Int)] 3)).alloc (.cells #[.int .i64 (hi : Int)] 3) := by
  go_enter Tryz.func50, Tryz.ntmps50
  go_wp2
  go_ret
  exact ⟨rfl, rfl⟩

theorem pe_stops (b1 b2 b3 b sb wb nb ns N lo hi : Nat) (P : PLS) (m : Int) (w : World) (T : Nat → Prop) (hT : ∀ j, T j ↔ (j = b1 ∨ j = b2 ∨ j = b3 ∨ j = b ∨ j = sb ∨ j = wb)) (hlo : lo ≤ 100000) (hhi : hi ≤ 100000)
    (hB1 : w.cell? ⟨b1, 0, none⟩ = some (.pointer (some ⟨b, 0, none⟩))) (hB2 : w.cell? ⟨b2, 0, none⟩ = some (.int .i64 (lo : Int))) (hB3 : w.cell? ⟨b3, 0, none⟩ = some (.int .i64 (hi : Int))) (hL : Pl w b sb wb nb ns N P m) :
    SeqStopsK Fence.wide 4 Tryz.prog 70 #[.pointer (some ⟨b1, 0, none⟩), .pointer (some ⟨b2, 0, none⟩), .pointer (some ⟨b3, 0, none⟩)] (fun x : Nat => #[Value.agg (entA P.sl x)]) (KT T) (fun ys => ys = usedR P.sl lo (min hi ns - lo)) (fun pre => pre <+: usedR P.sl lo (min hi ns - lo)) (usedR P.sl lo (min hi ns - lo)).length w := by
  intro l J Jx W hW hJ _ hY h0
  have lt1 := World.block_lt_of_cell? w _ hB1
  have lt2 := World.block_lt_of_cell? w _ hB2
  have lt3 := World.block_lt_of_cell? w _ hB3
  exact pe_each1 l b1 b2 b3 b sb wb nb ns N lo hi P m T hT hlo hhi J Jx hJ hY W ((hW.cell lt1).trans hB1) ((hW.cell lt2).trans hB2) ((hW.cell lt3).trans hB3) (hL.below hW) h0
end Go.Proofs.YtbgknopjgohocaaGreat
