/- Two.same: both stand alike. -/
import Derived.Test.YtlfeglnacphhlaaTw
import Derived.Test.YtlfeglnacphhlaaEs
import Derived.Test.YtlfeglnacphhlaaCs
namespace Go.Proofs.Ytlfeglnacphhlaa
open Go.RowKit Go.Maps
set_option linter.unusedVariables false

theorem RdLo.old {w w' : World} {v : Value} {l : List (Nat × Nat)} (h : RdLo w v l) (k : Below w.heap.size w w') : RdLo w' v l := by
  by_cases hl : l = []
  · subst hl
    rcases h with h | ⟨g, c, hv, _⟩
    · exact .inl h
    · exact .inr ⟨g, c, hv, fun j x hx => by simp at hx⟩
  · exact h.keep (Keeps.of_below k) (fun g e => Nat.not_le.2 (h.lt hl g e))

section
variable {w0 w w' : World} {t p q : Nat} {dd ee : Nat → Nat} {ps rs : PS} {s r : Nat → DS}

/-- Both devices of a number, in each later world. -/
theorem RigO.both (h : RigO w0 w t p q dd ee ps rs s r) {k : Nat} (hk : k < 2) : ∃ R G LV, ∀ W, Below w.heap.size w W → Dv W (dd k) p R (s k) ∧ Rv W (ee k) q G LV (r k) := by
  obtain ⟨A, B, hr, hb⟩ := h
  obtain ⟨R, hd, hi⟩ := hr.dv k hk
  obtain ⟨G, LV, hv, he, hG, hl⟩ := hr.rv k hk
  have oa := hr.oa k hk
  have ob := hr.ob k hk
  refine ⟨R, G, LV, fun W b => ⟨hd.keep (T := fun j => w.heap.size ≤ j) hi (Keeps.of_below b) (fun j hj e => by have := oa j hj; omega), hv.keep (T := fun j => w.heap.size ≤ j) (Keeps.of_below b) (fun e => by have := ob _ he; omega) (fun e => by have := ob _ hG; omega) (fun i hi g e x => by have := ob _ (hl i hi g e); omega)⟩⟩

theorem RigO.topc (h : RigO w0 w t p q dd ee ps rs s r) (j : Nat) (hj : j < 6) : w.cell? ⟨t, j, none⟩ = some (twF p q dd ee j) := by
  obtain ⟨A, B, hr, hb⟩ := h
  exact hr.top.cell hj
theorem RigO.ce (h : RigO w0 w t p q dd ee ps rs s r) {k : Nat} (hk : k < 2) : w.cell? ⟨t, 4 + k, none⟩ = some (.pointer (some ⟨ee k, 0, none⟩)) := by
  rw [h.topc (4 + k) (by omega)]
  have : k = 0 ∨ k = 1 := by omega
  rcases this with rfl | rfl <;> rfl

set_option maxRecDepth 100000 in
set_option maxHeartbeats 4000000 in
theorem two_same (h : RigO w0 w t p q dd ee ps ps s s) (hl : ∀ k, k < 2 → (s k).lim ≤ 1000000) :
    Calls Try.prog 23 #[.pointer (some ⟨t, 0, none⟩)] w fun e w' => e = .returned (.bool true) ∧ Below w.heap.size w w' := by
  have c0 := h.topc 0 (by omega)
  have c3 := h.topc 3 (by omega)
  simp only [twF] at c0 c3
  have DN := Lib.hid (fun n => pow_down ((h.pw).drewN n))
  have DD := Lib.hid (fun n => pow_done ((h.pw).drewN n))
  have rp : RPow w q ps := by
    obtain ⟨A, B, hr, hb⟩ := h
    exact hr.rp
  have q0 := rp.c0
  have q3 := rp.c3
  have HR := Lib.hid (fun W (b : Below w.heap.size w W) => h.below b)
  have BO := Lib.hid (fun (k : Nat) (hk : k < 2) => h.both hk)
  have HL := Lib.hid hl
  clear h hl rp
  go_enter Try.func23, Try.ntmps23
  go_wp2_with fail
  go_quiet ((first | (go_at_call 10; exact quiet_left (DN.out _)) | (go_at_call 13; exact quiet_left (DD.out _))))
  clear c0 c3 q0 q3 DN DD
  go_wp2_with fail
  go_loopw [3] (fun i wr => ∃ k : Nat, k ≤ 2 ∧ i = .int .i64 (k : Int) ∧ Below w.heap.size w wr) (fun i _ => 2 - (intOf i).toNat)
  case atStart => exact ⟨0, by omega, rfl, below_drewN (Below.refl _ _) _⟩
  case round =>
    obtain ⟨k, hk, rfl, b⟩ := hrel
    by_cases h1 : (k : Int) < 2
    · have hk2 : k < 2 := by omega
      have HK := Lib.hid hk2
      obtain ⟨R, G, LV, hb⟩ := BO.out k hk2
      have BB := Lib.hid hb
      have R1 := HR.out wr b
      have cd := R1.cd (k := k) (by omega)
      have ce := R1.ce hk2
      have BW := Lib.hid b
      clear R1 hb b hk hk2
      have LIM := Lib.hid (HL.out k HK.out)
      have ADV := Lib.hid (fun W (x : Below wr.heap.size wr W) => BB.out W (BW.out.trans (x.mono BW.out.size)))
      generalize hsk : s k = sk at *
      have N1 := Lib.hid (ADV.out wr (Below.refl _ _)).1.n1
      have n0 : (0 : Int) ≤ (sk.n : Int) := by omega
      have n1 : (sk.n : Int) ≤ 4096 := by have := N1.out; omega
      generalize ee k = ek at *
      generalize dd k = dk at *
      clear hsk
      go_wp2_with fail
      go_quiet (fail)
      clear cd ce
      go_wp2_with fail
      have SZ := Lib.hid (fun n => dv_size (ADV.out (wr.drewN n) (below_drewN (Below.refl _ _) n)).1)
      have LO := Lib.hid (fun n => dv_loose (ADV.out (wr.drewN n) (below_drewN (Below.refl _ _) n)).1 LIM.out)
      have LE := Lib.hid (show (looseL sk).length ≤ 4096 by have := looseI_n sk; have := N1.out; simp only [looseL, List.length_map]; omega)
      have c1 := (ADV.out (wr.drewN nq).drew (below_drewN (Below.refl wr.heap.size wr) nq).drew).2.c1
      go_region_held_law (fun W => W.cell? ⟨ek, 1, none⟩ = some (.slice (some ⟨G, 0, none⟩) sk.n sk.n)) (first | exact c1 | exact c3 | exact c4 | exact c5)
        (first
          | (go_at_call 21; (with_reducible refine (SZ.out _).mono ?_); rintro e w2 ⟨rfl, rfl⟩)
          | (go_at_call 22; (with_reducible refine (LO.out _).mono ?_); rintro e w3 ⟨v3, rfl, l3, b3, -⟩; have b3 : Below wr.heap.size wr w3 := (below_drewN (Below.refl wr.heap.size wr) _).trans b3; have c3 := (ADV.out w3 b3).2.c1; have RL := Lib.hid (rv_loose (ADV.out w3 b3).2 LIM.out); have L3 := Lib.hid l3; have B3 := Lib.hid b3; clear l3 b3)
          | (go_at_call 19; (with_reducible refine RL.out.mono ?_); rintro e w4 ⟨v4, rfl, l4, b4, -⟩; have B4 := Lib.hid (B3.out.trans (b4.mono B3.out.size)); have c4 := (ADV.out w4 B4.out).2.c1; have SL := Lib.hid (same_loose (L3.out.old b4) l4 LE.out); clear l4 b4)
          | (go_at_call 37; (with_reducible refine SL.out.mono ?_); rintro e w5 ⟨rfl, m5, rfl⟩; have c5 := (ADV.out (w4.drewN m5) (below_drewN B4.out _)).2.c1))
      all_goals
        have B5 := Lib.hid (below_drewN B4.out m5)
        clear c1 c3 c4 c5 SZ LO RL SL L3 LE
        generalize wr = wo at *
        go_wp2_with fail
        go_loopw [6] (fun i wr => ∃ j : Nat, j ≤ sk.n ∧ i = .int .i64 (j : Int) ∧ Below wo.heap.size wo wr) (fun i _ => sk.n - (intOf i).toNat)
        case atStart => exact ⟨0, Nat.zero_le _, rfl, B5.out⟩
        case round =>
          obtain ⟨j, hj, rfl, bj⟩ := hrel
          have c1 := (ADV.out wr bj).2.c1
          by_cases h2 : (j : Int) < (sk.n : Int)
          · have hj2 : j < sk.n := by omega
            have HJ := Lib.hid hj2
            have j1 : (j : Int) ≤ 4096 := by omega
            have PK := dv_peek (ADV.out wr bj).1 (j : Int)
            have hh : hasD sk (j : Int) := ⟨by omega, h2⟩
            rw [show peekD sk (j : Int) = standsD sk j by unfold peekD; rw [if_pos hh]; rfl, decide_eq_true hh] at PK
            replace PK := Lib.hid PK
            have BJ := Lib.hid bj
            clear bj hj hj2 hh
            go_wp2_with fail
            refine PK.out.mono ?_
            rintro e w6 ⟨v, rfl, hv, b6⟩
            have b7 := BJ.out.trans (b6.mono BJ.out.size)
            have cv : ∀ n, (convert 44 9 v).run Try.prog (w6.drewN n) = .ok (.string (standsD sk j)) (w6.drewN n) := fun n => ((RdB.of_row hv).drewN n).str
            have ST := Lib.hid (fun n => rv_stands (ADV.out (w6.drewN n) (below_drewN b7 n)).2 j HJ.out LIM.out)
            have RT := Lib.hid (fun n => dv_rotten (ADV.out (w6.drewN n) (below_drewN b7 n)).1 (j : Int) (by omega) (by omega))
            rw [rotM_in HJ.out] at RT
            have c6 := (ADV.out w6 b7).2.c1
            have f2 := (ADV.out w6 b7).2.f2 HJ.out
            have B7 := Lib.hid b7
            clear hv b6 b7 PK c1
            generalize standsD sk j = st at *
            go_wp2_with fail
            go_quiet ((first | (go_at_call 49; exact quiet_left (ST.out _)) | (go_at_call 29; exact quiet_left (RT.out _))))
            go_wp2
            go_roundw
            case rel => exact ⟨j + 1, HJ.out, by simp, below_drewN B7.out _⟩
            case measure => have := HJ.out; simp only [intOf]; omega
          · have BJ := Lib.hid bj
            clear bj hj
            go_wp2
            go_roundw
            case rel => exact ⟨k + 1, HK.out, by simp, BW.out.trans (BJ.out.mono BW.out.size)⟩
            case measure => have := HK.out; simp only [intOf]; omega
    · have B1 := Lib.hid b
      clear b hk
      go_wp2
      go_ret
      exact ⟨rfl, B1.out⟩
end

end Go.Proofs.Ytlfeglnacphhlaa
