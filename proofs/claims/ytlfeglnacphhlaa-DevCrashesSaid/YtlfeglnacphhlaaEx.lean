/- The document's device: Write, all cases. -/
import Derived.Test.YtlfeglnacphhlaaEw
namespace Go.Proofs.Ytlfeglnacphhlaa
open Go.RowKit Go.Maps
set_option linter.unusedVariables false

section
variable {w w' : World} {e q : Nat} {s : DS} {ps : PS} {S : Nat → Prop}

set_option maxRecDepth 100000 in
set_option maxHeartbeats 2000000 in
theorem rv_write (h : RvO e q s S w) (ho : Own S w) (hp : RPow w q ps) (hS : ¬ S q) (x : Int) {c : ByteArray} (hcm : c.size ≤ 9223372036854775807) (hl : s.lim < 1000000) :
    Calls Try.prog 39 #[.pointer (some ⟨e, 0, none⟩), .int .i64 x, .string c] w fun r w' => r = .returned (.int .i64 (writeE s ps x c.size)) ∧ RvO e q (writeD s ps x c) (Ext S w w') w' ∧ RPow w' q (writeP s ps x c.size) ∧ Keeps (fun k => S k ∨ k = q) w w' := by
  have O := Lib.hid (Rep.mono h (fun k x => .inl x) : RvO e q s (Ext S w w) w)
  have HP := Lib.hid hp
  have p0 := hp.c0
  have hh := h
  obtain ⟨G, LV, hr, se, sG, sl⟩ := hh
  have c0 := hr.c0
  have HH := rv_has hr x
  unfold writeE writeD writeP
  cases o0 : ps.off
  · rw [o0] at p0
    simp only [Bool.false_eq_true, if_false]
    by_cases hx : hasD s x
    · simp only [if_pos hx]
      rw [decide_eq_true hx] at HH
      by_cases hc : c.size = 64
      · simp only [if_pos hc]
        by_cases o1 : ps.fuse = 0
        · simp only [if_pos o1]
          have SP := Lib.hid (rp_spend hp)
          rw [show spendB ps = false by simp [spendB, o1]] at SP
          replace HH := Lib.hid HH
          have e64 : (c.size : Int) = 64 := by omega
          have KR := Lib.hid (fun (W : World) (k : Keeps (fun k => k = q) w W) => (⟨Rep.mono (Rep.keep h ho k (fun j x y => hS (y ▸ x))) (fun k x => .inl x), k.mono (fun _ _ x => .inr x)⟩ : RvO e q s (Ext S w W) W ∧ Keeps (fun k => S k ∨ k = q) w W))
          clear h ho hp hS hr se sG sl hx hc o1 o0 hl
          go_enter Try.func39, Try.ntmps39
          go_wp2_with fail
          refine HH.out.mono ?_
          rintro r w' ⟨rfl, rfl⟩
          go_wp2_with fail
          refine SP.out.mono ?_
          rintro r w1 ⟨rfl, hp1, k1, z1⟩
          have A := Lib.hid (KR.out w1 k1)
          have B := Lib.hid hp1
          clear k1 z1 hp1
          go_wp2
          go_ret
          exact ⟨rfl, A.out.1, B.out, A.out.2⟩
        · simp only [if_neg o1]
          by_cases o2 : s.wr % 2 = 1
          · simp only [if_pos o2]
            have SP := Lib.hid (rp_spend hp)
            rw [show spendB ps = true by simp [spendB, o1]] at SP
            replace HH := Lib.hid HH
            have e64 : (c.size : Int) = 64 := by omega
            have m1 : (s.wr : Int) % 2 = 1 := by omega
            have b0 : (0 : Int) ≤ (s.wr : Int) := by omega
            have b1 : (s.wr : Int) ≤ 18446744073709551615 := by have := hr.w1; omega
            have QE := Lib.hid (fun x : q = e => hS (x ▸ se))
            have hwr : ((s.wr / 2 : Nat) : Int) = (s.wr : Int) / 2 := by omega
            have N2 := Lib.hid (fun (W : World) (k : Keeps (fun k => k = q) w W) => by
              have h1 : Rv W e q G LV s := hr.keep k (fun x => hS (x ▸ se)) (fun x => hS (x ▸ sG)) (fun i hi g x y => hS (y ▸ sl i hi g x))
              have h2 := h1.setWr (s.wr / 2) (by have := hr.w1; omega)
              rw [hwr] at h2
              have kk : Keeps (fun k => S k ∨ k = q) w (W.setCell ⟨e, 3, none⟩ (.int .u64 ((s.wr : Int) / 2))) := (k.mono (fun _ _ x => .inr x)).setCell (p := ⟨e, 3, none⟩) (.inl (.inl se)) _
              exact (⟨h1.c3, h1.top.free 3, ⟨G, LV, h2, .inl se, .inl sG, fun i hi g x => .inl (sl i hi g x)⟩, kk⟩ : _ ∧ _ ∧ RvO e q { s with wr := s.wr / 2 } (Ext S w (W.setCell ⟨e, 3, none⟩ (.int .u64 ((s.wr : Int) / 2)))) (W.setCell ⟨e, 3, none⟩ (.int .u64 ((s.wr : Int) / 2))) ∧ _))
            obtain ⟨s2, hs2⟩ : ∃ s2 : DS, s2 = { s with wr := s.wr / 2 } := ⟨_, rfl⟩
            rw [← hs2] at N2 ⊢
            clear h ho hp hS hr se sG sl hx hc o1 o0 hl hs2 o2 hwr
            generalize (s.wr : Int) = wrp at *
            go_enter Try.func39, Try.ntmps39
            go_wp2_with fail
            refine HH.out.mono ?_
            rintro r w' ⟨rfl, rfl⟩
            go_wp2_with fail
            refine SP.out.mono ?_
            rintro r w1 ⟨rfl, hp1, k1, z1⟩
            obtain ⟨d3, f3, h2, kk⟩ := N2.out w1 k1
            have HP1 := Lib.hid (hp1.keep (keep_cell w1 e 3 (.int .u64 (wrp / 2))) QE.out)
            have H2 := Lib.hid h2
            have KK := Lib.hid kk
            clear hp1 k1 h2 kk z1 N2
            go_wp2
            go_ret
            exact ⟨rfl, H2.out, HP1.out, KK.out⟩
          · simp only [if_neg o2]
            obtain ⟨i, rfl⟩ : ∃ i : Nat, x = (i : Int) := ⟨x.toNat, by have := hx.1; omega⟩
            rw [Int.toNat_natCast]
            exact rv_write1 h ho hp hS (by have := hx.2; omega) hc hl o0 o1 (by omega)
      · simp only [if_neg hc]
        replace HH := Lib.hid HH
        have e64 : ((c.size : Int) == 64) = false := by simp; omega
        have e65 : ¬ (c.size : Int) = 64 := by omega
        clear h ho hp hS hr se sG sl hx hc o0 hl
        go_enter Try.func39, Try.ntmps39
        go_wp2_with fail
        refine HH.out.mono ?_
        rintro r w' ⟨rfl, rfl⟩
        go_wp2
        go_ret
        exact ⟨rfl, O.out, HP.out, Keeps.refl _ _⟩
    · simp only [if_neg hx]
      rw [decide_eq_false hx] at HH
      replace HH := Lib.hid HH
      clear h ho hp hS hr se sG sl hx o0 hl
      go_enter Try.func39, Try.ntmps39
      go_wp2_with fail
      refine HH.out.mono ?_
      rintro r w' ⟨rfl, rfl⟩
      go_wp2
      go_ret
      exact ⟨rfl, O.out, HP.out, Keeps.refl _ _⟩
  · rw [o0] at p0
    simp only [if_true]
    clear h ho hp hS hr se sG sl o0 hl HH
    go_enter Try.func39, Try.ntmps39
    go_wp2
    go_ret
    exact ⟨rfl, O.out, HP.out, Keeps.refl _ _⟩
end

end Go.Proofs.Ytlfeglnacphhlaa
