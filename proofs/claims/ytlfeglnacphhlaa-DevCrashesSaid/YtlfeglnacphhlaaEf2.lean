/- The document's device: Flush. -/
import Derived.Test.YtlfeglnacphhlaaEr
namespace Go.Proofs.Ytlfeglnacphhlaa
open Go.RowKit Go.Maps
set_option linter.unusedVariables false

/-- The sectors below k are flushed. -/
def flV (s : DS) (k : Nat) : DS := { s with fixed := fun j => if j < k then standsD s j else s.fixed j, loose := fun j => if j < k then [] else s.loose j, rot := fun j => if j < k then (if (s.loose j).isEmpty then s.rot j else false) else s.rot j }

theorem stands_nil {s : DS} {i : Nat} (h : s.loose i = []) : standsD s i = s.fixed i := by unfold standsD; rw [h]; rfl

section
variable {w w' : World} {e q G : Nat} {LV : Nat → Value} {s s' : DS} {ps : PS} {S : Nat → Prop}

theorem Rv.agree (h : Rv w e q G LV s) (hn : s'.n = s.n) (hf : ∀ j, j < s.n → s'.fixed j = s.fixed j) (hl : ∀ j, j < s.n → s'.loose j = s.loose j) (hr : ∀ j, j < s.n → s'.rot j = s.rot j) (hlim : s.lim ≤ s'.lim) (hrd : s'.rd = s.rd) (hwr : s'.wr = s.wr) : Rv w e q G LV s' := by
  refine ⟨h.top.congr (fun i hi => by
    have : i = 0 ∨ i = 1 ∨ i = 2 ∨ i = 3 := by omega
    rcases this with rfl | rfl | rfl | rfl
    · rfl
    · show Value.slice (some ⟨G, 0, none⟩) s.n s.n = .slice (some ⟨G, 0, none⟩) s'.n s'.n
      rw [hn]
    · show Value.int .u64 (s.rd : Int) = .int .u64 (s'.rd : Int)
      rw [hrd]
    · show Value.int .u64 (s.wr : Int) = .int .u64 (s'.wr : Int)
      rw [hwr]), ?_, fun j hj => ?_, fun j hj => ?_, by rw [hn]; exact h.n1, by rw [hrd]; exact h.r1, by rw [hwr]; exact h.w1⟩
  · rw [hn]
    refine h.fx.congr (fun j hj => ?_)
    unfold oneF
    rw [hf _ (by omega), hr _ (by omega)]
  · rw [hl j (by omega)]; exact h.lo j (by omega)
  · rw [hl j (by omega)]; have := h.ll j (by omega); omega

theorem Rv.flush0 (h : Rv w e q G LV s) : Rv w e q G LV (flV s 0) := h.agree rfl (fun j _ => rfl) (fun j _ => rfl) (fun j _ => rfl) (Nat.le_refl _) rfl rfl
theorem Rv.flushN (h : Rv w e q G LV (flV s s.n)) : Rv w e q G LV (flushD s) := h.agree (s' := flushD s) rfl (fun j hj => (if_pos hj).symm) (fun j hj => (if_pos hj).symm) (fun j hj => (if_pos hj).symm) (Nat.le_refl _) rfl rfl
theorem Rv.flushE {k : Nat} (h : Rv w e q G LV (flV s k)) (hl : s.loose k = []) : Rv w e q G LV (flV s (k + 1)) :=
  h.agree (s' := flV s (k + 1)) rfl (fun j hj => by
    show (if j < k + 1 then standsD s j else s.fixed j) = if j < k then standsD s j else s.fixed j
    by_cases ej : j = k
    · subst ej; rw [if_pos (by omega), if_neg (by omega), stands_nil hl]
    · by_cases e2 : j < k
      · rw [if_pos e2, if_pos (by omega)]
      · rw [if_neg e2, if_neg (by omega)]) (fun j hj => by
    show (if j < k + 1 then [] else s.loose j) = if j < k then [] else s.loose j
    by_cases ej : j = k
    · subst ej; rw [if_pos (by omega), if_neg (by omega), hl]
    · by_cases e2 : j < k
      · rw [if_pos e2, if_pos (by omega)]
      · rw [if_neg e2, if_neg (by omega)]) (fun j hj => by
    show (if j < k + 1 then (if (s.loose j).isEmpty then s.rot j else false) else s.rot j) = if j < k then (if (s.loose j).isEmpty then s.rot j else false) else s.rot j
    by_cases ej : j = k
    · subst ej; rw [if_pos (show j < j + 1 by omega), if_neg (show ¬ j < j by omega), hl]; rfl
    · by_cases e2 : j < k
      · rw [if_pos e2, if_pos (by omega)]
      · rw [if_neg e2, if_neg (by omega)]) (Nat.le_refl _) rfl rfl
theorem Rv.flush1 {k : Nat} (h : Rv w e q G LV (flV s k)) (hk : k < s.n) (hl : s.loose k ≠ []) :
    Rv (((w.setCell ⟨G, k * 3, none⟩ (.string (standsD s k))).setCell ⟨G, k * 3 + 1, none⟩ (.slice none 0 0)).setCell ⟨G, k * 3 + 2, none⟩ (.bool false)) e q G (fun j => if j = k then .slice none 0 0 else LV j) (flV s (k + 1)) :=
  h.setOne (s' := flV s (k + 1)) hk rfl (fun j => by
    show (if j < k + 1 then standsD s j else s.fixed j) = if j = k then standsD s k else if j < k then standsD s j else s.fixed j
    by_cases ej : j = k
    · subst ej; rw [if_pos (by omega), if_pos rfl]
    · rw [if_neg ej]
      by_cases e2 : j < k
      · rw [if_pos e2, if_pos (by omega)]
      · rw [if_neg e2, if_neg (by omega)]) (fun j => by
    show (if j < k + 1 then [] else s.loose j) = if j = k then [] else if j < k then [] else s.loose j
    by_cases ej : j = k
    · subst ej; rw [if_pos (by omega), if_pos rfl]
    · rw [if_neg ej]
      by_cases e2 : j < k
      · rw [if_pos e2, if_pos (by omega)]
      · rw [if_neg e2, if_neg (by omega)]) (fun j => by
    show (if j < k + 1 then (if (s.loose j).isEmpty then s.rot j else false) else s.rot j) = if j = k then false else if j < k then (if (s.loose j).isEmpty then s.rot j else false) else s.rot j
    by_cases ej : j = k
    · subst ej
      have : ¬ (s.loose j).isEmpty = true := by simpa using hl
      rw [if_pos (show j < j + 1 by omega), if_pos rfl, if_neg this]
    · rw [if_neg ej]
      by_cases e2 : j < k
      · rw [if_pos e2, if_pos (by omega)]
      · rw [if_neg e2, if_neg (by omega)]) (Nat.le_refl _) rfl rfl
theorem flR_stands (s : DS) (k : Nat) : standsD (flV s k) k = standsD s k := by
  unfold standsD flV
  simp only [Nat.lt_irrefl, if_false]

set_option maxRecDepth 100000 in
set_option maxHeartbeats 4000000 in
theorem rv_flush1 (h : RvO e q s S w) (ho : Own S w) (hp : RPow w q ps) (hS : ¬ S q) (hl : s.lim ≤ 1000000) (o0 : ps.off = false) (o1 : ps.fuse ≠ 0) :
    Calls Try.prog 40 #[.pointer (some ⟨e, 0, none⟩)] w fun r w' => r = .returned (.int .i64 0) ∧ RvO e q (flushD s) (Ext S w w') w' ∧ RPow w' q (spendP ps) ∧ Keeps (fun k => S k ∨ k = q) w w' := by
  obtain ⟨G, LV, hd, se, sG, sl⟩ := h
  have SP := rp_spend hp
  rw [show spendB ps = true by simp [spendB, o1]] at SP
  replace SP := Lib.hid SP
  have p0 := hp.c0
  rw [o0] at p0
  have c0 := hd.c0
  have HS := Lib.hid (And.intro se (And.intro sG (And.intro sl hS)))
  have HD := Lib.hid hd
  have HO := Lib.hid ho
  have HL := Lib.hid hl
  have HP := Lib.hid hp
  have n1 : (s.n : Int) ≤ 4096 := by have := hd.n1; omega
  have b1 : (0 : Int) ≤ (s.n : Int) := by omega
  clear hp o0 o1 hd se sG sl hS hl ho
  go_enter Try.func40, Try.ntmps40
  go_wp2_with fail
  refine SP.out.mono ?_
  rintro r w1 ⟨rfl, hp1, k1, z1⟩
  have D1 := Lib.hid (HD.out.keep k1 (fun x => HS.out.2.2.2 (x ▸ HS.out.1)) (fun x => HS.out.2.2.2 (x ▸ HS.out.2.1)) (fun i hi g x y => HS.out.2.2.2 (y ▸ HS.out.2.2.1 i hi g x))).flush0
  have K1 := Lib.hid (k1.mono (T := fun k => S k ∨ k = q) (fun _ _ x => .inr x))
  have P1 := Lib.hid hp1
  clear hp1 k1 p0 c0 SP
  go_wp2_with fail
  go_loopw [3] (fun i wr => ∃ k : Nat, k ≤ s.n ∧ i = .int .i64 (k : Int) ∧ RPow wr q (spendP ps) ∧ Keeps (fun k => S k ∨ k = q) w wr ∧ ∃ LV', Rv wr e q G LV' (flV s k) ∧ ∀ j, j < s.n → ∀ g, (LV' j).ownBlock = some g → S g) (fun i _ => s.n - (intOf i).toNat)
  case atStart => exact ⟨0, Nat.zero_le _, rfl, P1.out, K1.out, _, D1.out, HS.out.2.2.1⟩
  case round =>
    obtain ⟨k, hk, rfl, P, K, LV', D, L⟩ := hrel
    have c1 : wr.cell? ⟨e, 1, none⟩ = some (.slice (some ⟨G, 0, none⟩) s.n s.n) := D.c1
    by_cases h1 : (k : Int) < (s.n : Int)
    · have hk2 : k < s.n := by omega
      have HK := Lib.hid (show k + 1 ≤ s.n by omega)
      have g1 := D.f1 (i := k) hk2
      obtain ⟨A, cp, hLV, hrd⟩ := (D.lo k hk2).open_
      rw [show (flV s k).loose k = s.loose k from if_neg (Nat.lt_irrefl k)] at hLV
      rw [hLV] at g1
      cases hll : s.loose k with
      | nil =>
        rw [hll] at g1
        have D2 := Lib.hid (D.flushE hll)
        have K2 := Lib.hid K
        have P2 := Lib.hid P
        have L2 := Lib.hid L
        clear D K P L hk hk2 hll hLV hrd
        go_wp2_with fail
        go_roundw
        case rel => exact ⟨k + 1, HK.out, by simp, P2.out, K2.out, _, D2.out, L2.out⟩
        case measure => have := HK.out; simp only [intOf]; omega
      | cons y l =>
        rw [hll] at g1
        have z1 : decide ((0 : Int) < (((y :: l).length : Nat) : Int)) = true := decide_eq_true (by simp)
        have z2 : 0 < (y :: l).length := by simp
        have g0 := D.f0 (i := k) hk2
        have g2 := D.f2 (i := k) hk2
        have f0 := D.fx.free (k * 3)
        have f1 := D.fx.free (k * 3 + 1)
        have f2 := D.fx.free (k * 3 + 2)
        have D : Rv wr.drew e q G LV' (flV s k) := D.drewN 1
        have K : Keeps (fun k => S k ∨ k = q) w wr.drew := K.drew
        have P : RPow wr.drew q (spendP ps) := P.keep ((Keeps.refl (fun _ => False) wr).drew) (fun x => x)
        have D2 := D.flush1 hk2 (by rw [hll]; simp)
        have y9 := D2.c1
        replace D2 := Lib.hid D2
        have ST := Lib.hid (rv_stands D k hk2 HL.out)
        rw [flR_stands] at ST
        have K2 := Lib.hid (((K.setCell (p := ⟨G, k * 3, none⟩) (.inl (.inl HS.out.2.1)) (.string (standsD s k))).setCell (p := ⟨G, k * 3 + 1, none⟩) (.inl (.inl HS.out.2.1)) (.slice none 0 0)).setCell (p := ⟨G, k * 3 + 2, none⟩) (.inl (.inl HS.out.2.1)) (.bool false))
        have P2 := Lib.hid (P.keep (keep_cells (keep_cells (keep_cell wr.drew G (k * 3) (.string (standsD s k))) rfl (k * 3 + 1) (.slice none 0 0)) rfl (k * 3 + 2) (.bool false)) (fun x => HS.out.2.2.2 (x ▸ HS.out.2.1)))
        have L2 := Lib.hid L
        have c1d : wr.drew.cell? ⟨e, 1, none⟩ = some (.slice (some ⟨G, 0, none⟩) s.n s.n) := c1
        generalize (y :: l).length = nl at *
        generalize standsD s k = sd at *
        clear D K P L hk hk2 hll hLV hrd
        go_wp2_with fail
        go_region_held_law (fun W => W.cell? ⟨e, 1, none⟩ = some (.slice (some ⟨G, 0, none⟩) s.n s.n)) (first | exact c1d | exact y9 | go_keep) (first | (go_at_call 49; (with_reducible refine ST.out.mono ?_); rintro r w' ⟨rfl, rfl⟩))
        all_goals
          go_wp2
          go_roundw
          case rel => exact ⟨k + 1, HK.out, by simp, P2.out, K2.out, _, D2.out, fun j hj g e => by
            by_cases ej : j = k
            · rw [if_pos ej] at e; cases e
            · rw [if_neg ej] at e; exact L2.out j hj g e⟩
          case measure => have := HK.out; simp only [intOf]; omega
    · obtain rfl : k = s.n := by omega
      have D2 := Lib.hid D.flushN
      have K2 := Lib.hid K
      have P2 := Lib.hid P
      have L2 := Lib.hid L
      clear D K P L hk
      go_wp2
      go_ret
      exact ⟨rfl, ⟨G, _, D2.out, .inl HS.out.1, .inl HS.out.2.1, fun j hj g e => .inl (L2.out j hj g e)⟩, P2.out, K2.out⟩

set_option maxRecDepth 100000 in
set_option maxHeartbeats 2000000 in
theorem rv_flush (h : RvO e q s S w) (ho : Own S w) (hp : RPow w q ps) (hS : ¬ S q) (hl : s.lim ≤ 1000000) :
    Calls Try.prog 40 #[.pointer (some ⟨e, 0, none⟩)] w fun r w' => r = .returned (.int .i64 (flushE ps)) ∧ RvO e q (flushS s ps) (Ext S w w') w' ∧ RPow w' q (flushP ps) ∧ Keeps (fun k => S k ∨ k = q) w w' := by
  unfold flushE flushS flushP
  cases o0 : ps.off
  · simp only [Bool.false_eq_true, if_false]
    by_cases o1 : ps.fuse = 0
    · simp only [if_pos o1]
      have KR := Lib.hid (fun (W : World) (k : Keeps (fun k => k = q) w W) => (⟨Rep.mono (Rep.keep h ho k (fun j x y => hS (y ▸ x))) (fun k x => .inl x), k.mono (fun _ _ x => .inr x)⟩ : RvO e q s (Ext S w W) W ∧ Keeps (fun k => S k ∨ k = q) w W))
      obtain ⟨G, LV, hd, se, sG, sl⟩ := h
      have SP := rp_spend hp
      rw [show spendB ps = false by simp [spendB, o1]] at SP
      replace SP := Lib.hid SP
      have p0 := hp.c0
      rw [o0] at p0
      have c0 := hd.c0
      clear hp o0 o1 hd se sG sl hS hl ho
      go_enter Try.func40, Try.ntmps40
      go_wp2_with fail
      refine SP.out.mono ?_
      rintro r w1 ⟨rfl, hp1, k1, z1⟩
      have A := Lib.hid (KR.out w1 k1)
      have B := Lib.hid hp1
      clear k1 z1 hp1
      go_wp2
      go_ret
      exact ⟨rfl, A.out.1, B.out, A.out.2⟩
    · simp only [if_neg o1]
      exact rv_flush1 h ho hp hS hl o0 o1
  · simp only [if_true]
    have O := Lib.hid (Rep.mono h (fun k x => .inl x) : RvO e q s (Ext S w w) w)
    have HP := Lib.hid hp
    obtain ⟨G, LV, hd, se, sG, sl⟩ := h
    have p0 := hp.c0
    rw [o0] at p0
    have c0 := hd.c0
    clear hp o0 hd se sG sl hS hl ho
    go_enter Try.func40, Try.ntmps40
    go_wp2
    go_ret
    exact ⟨rfl, O.out, HP.out, Keeps.refl _ _⟩
end

end Go.Proofs.Ytlfeglnacphhlaa
