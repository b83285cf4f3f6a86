/- The document's device: Rot. -/
import Derived.Test.YtlfeglnacphhlaaRo
import Derived.Test.YtlfeglnacphhlaaEe
import Derived.Lib.ConvBytes
namespace Go.Proofs.Ytlfeglnacphhlaa
open Go.RowKit Go.Maps
set_option linter.unusedVariables false

theorem bw_keeps (w : World) (e : TypeId) (c : ByteArray) : Keeps (fun j => w.heap.size ≤ j) w (Lib.bytesWorld w e c) := by
  refine ⟨rfl, rfl, rfl, by rw [Lib.bytesWorld_size]; omega, fun k hk _ => Lib.bytesWorld_at_old w e c k hk⟩
theorem bw_below (w : World) (e : TypeId) (c : ByteArray) : Below w.heap.size w (Lib.bytesWorld w e c) := Keeps.below (bw_keeps w e c) (Nat.le_refl _)
theorem bw_rd (w : World) (c : ByteArray) (cap : Nat) : RdB (Lib.bytesWorld w 5 c) (.slice (some ⟨w.heap.size, 0, none⟩) c.size cap) c :=
  .inr ⟨_, 0, cap, rfl, fun j hj => by
    have := Lib.bytesWorld_cell w 5 c j hj
    rw [List.getD_eq_getElem?_getD, List.getElem?_eq_getElem (by simpa using hj)] at this
    simp at this
    rw [Nat.zero_add]
    exact this⟩
theorem run_oct (w : World) (c : ByteArray) : (convert 9 44 (.string c)).run Try.prog w = .ok (.slice (some ⟨w.heap.size, 0, none⟩) c.size (grownCap w c.size 0 5)) (Lib.bytesWorld w 5 c) :=
  Lib.run_convert_string_bytes w 9 44 5 c Try.underlying9 Try.underlying44 Try.underlying5

theorem toList_ne {a b : ByteArray} (h : a ≠ b) : (a.toList == b.toList) = false := by
  rw [beq_eq_false_iff_ne]
  intro e
  rw [ByteArray.toList_eq, ByteArray.toList_eq] at e
  exact h (Go.WideShapes.bytes_inj e)
theorem toList_same {a b : ByteArray} (h : a = b) : (a.toList == b.toList) = true := by rw [h]; simp

/-- A sector of the document's laid anew. -/
theorem Rv.setOne {w : World} {e q G i : Nat} {LV : Nat → Value} {s s' : DS} (h : Rv w e q G LV s) (hi : i < s.n) {c : ByteArray} {b : Bool} (hn : s'.n = s.n) (hf : ∀ j, s'.fixed j = if j = i then c else s.fixed j) (hl : ∀ j, s'.loose j = if j = i then [] else s.loose j)
    (hr : ∀ j, s'.rot j = if j = i then b else s.rot j) (hlim : s.lim ≤ s'.lim) (hrd : s'.rd = s.rd) (hwr : s'.wr = s.wr) :
    Rv (((w.setCell ⟨G, i * 3, none⟩ (.string c)).setCell ⟨G, i * 3 + 1, none⟩ (.slice none 0 0)).setCell ⟨G, i * 3 + 2, none⟩ (.bool b)) e q G (fun j => if j = i then .slice none 0 0 else LV j) s' := by
  have k := keep_cells (keep_cells (keep_cell w G (i * 3) (.string c)) rfl (i * 3 + 1) (.slice none 0 0)) rfl (i * 3 + 2) (.bool b)
  have hne : ∀ v l, RdT w v l → ∀ g, v.ownBlock = some g → ¬ g = G := fun v l hv g x y => hv.ne h.fx (by decide) (y ▸ x)
  have top := (h.top.keep k (fun x => h.top.ne h.fx (by decide) x)).congr (G := rvF q G s') (fun i hi => by
    have : i = 0 ∨ i = 1 ∨ i = 2 ∨ i = 3 := by omega
    rcases this with rfl | rfl | rfl | rfl
    · rfl
    · show Value.slice (some ⟨G, 0, none⟩) s.n s.n = .slice (some ⟨G, 0, none⟩) s'.n s'.n
      rw [hn]
    · show Value.int .u64 (s.rd : Int) = .int .u64 (s'.rd : Int)
      rw [hrd]
    · show Value.int .u64 (s.wr : Int) = .int .u64 (s'.wr : Int)
      rw [hwr])
  have fx := (((h.fx.set (i * 3) (.string c)).set (i * 3 + 1) (.slice none 0 0)).set (i * 3 + 2) (.bool b)).congr (G := oneF (fun j => if j = i then .slice none 0 0 else LV j) s') (fun j hj => by
    unfold oneF
    rw [hf, hr]
    by_cases e1 : j = i * 3 + 2
    · subst e1
      simp [show (i * 3 + 2) % 3 = 2 by omega, show (i * 3 + 2) / 3 = i by omega]
    · by_cases e2 : j = i * 3 + 1
      · subst e2
        simp [show (i * 3 + 1) % 3 = 1 by omega, show (i * 3 + 1) / 3 = i by omega]
      · by_cases e3 : j = i * 3
        · subst e3
          simp
        · have e4 : ¬ j / 3 = i := by omega
          simp only [if_neg e1, if_neg e2, if_neg e3, if_neg e4])
  have fx : Arr (((w.setCell ⟨G, i * 3, none⟩ (.string c)).setCell ⟨G, i * 3 + 1, none⟩ (.slice none 0 0)).setCell ⟨G, i * 3 + 2, none⟩ (.bool b)) G 62 (s'.n * 3) (oneF (fun j => if j = i then .slice none 0 0 else LV j) s') := by rw [hn]; exact fx
  refine ⟨top, fx, fun j hj => ?_, fun j hj => ?_, by rw [hn]; exact h.n1, by rw [hrd]; exact h.r1, by rw [hwr]; exact h.w1⟩
  · rw [hl]
    by_cases e1 : j = i
    · rw [if_pos e1, if_pos e1]; exact .inl ⟨rfl, rfl⟩
    · rw [if_neg e1, if_neg e1]
      exact (h.lo j (by omega)).keep k (hne _ _ (h.lo j (by omega)))
  · rw [hl]
    by_cases e1 : j = i
    · rw [if_pos e1]; simp
    · rw [if_neg e1]; have := h.ll j (by omega); omega

section
variable {w w' : World} {e q : Nat} {s : DS} {ps : PS} {S : Nat → Prop}

set_option maxRecDepth 100000 in
set_option maxHeartbeats 4000000 in
theorem rv_rot (h : RvO e q s S w) (ho : Own S w) (x bit : Int) (turn : Nat) (ht : turn < 4294967296) (hl : s.lim ≤ 1000000) (hsz : ∀ i, i < s.n → (s.fixed i).size = 64) :
    Calls Try.prog 41 #[.pointer (some ⟨e, 0, none⟩), .int .i64 x, .int .i64 bit, .int .u32 (turn : Int)] w fun r w' => r = .returned (.int .i64 (rotE s x bit turn)) ∧ RvO e q (rotS s x bit turn) (Ext S w w') w' ∧ Keeps S w w' := by
  have O := Lib.hid (Rep.mono h (fun k x => .inl x) : RvO e q s (Ext S w w) w)
  obtain ⟨G, LV, hd, se, sG, sl⟩ := h
  have HH := Lib.hid (rv_has hd x)
  by_cases hx : hasD s x
  · have hh : decide (hasD s x) = true := decide_eq_true hx
    rw [hh] at HH
    by_cases b0 : 0 ≤ bit
    · by_cases b1 : bit < 512
      · obtain ⟨i, rfl⟩ : ∃ i : Nat, x = (i : Int) := ⟨x.toNat, by have := hx.1; omega⟩
        obtain ⟨at_, rfl⟩ : ∃ a : Nat, bit = (a : Int) := ⟨bit.toNat, by omega⟩
        have hi : i < s.n := by have := hx.2; omega
        have hm : mayR s (i : Int) (at_ : Int) := ⟨hx, b0, b1⟩
        unfold rotS rotE
        rw [if_pos hm, Int.toNat_natCast, Int.toNat_natCast]
        have c1 := hd.c1
        have g0 := hd.f0 hi
        have g1 := hd.f1 hi
        have g2 := hd.f2 hi
        have iI : (i : Int) < (s.n : Int) := by omega
        have d1 : decide ((at_ : Int) < 0) = false := decide_eq_false (by omega)
        have d2 : decide (512 ≤ (at_ : Int)) = false := decide_eq_false (by omega)
        obtain ⟨A, cp, hLV, hrd⟩ := (hd.lo i hi).open_
        rw [hLV] at g1
        cases hr : s.rot i
        · rw [hr] at g2
          cases hll : s.loose i with
          | cons y l =>
            rw [hll] at g1
            have hb : busyR s i = true := by simp [busyR, hll]
            rw [if_pos hb]
            simp only [Int.reduceEq, if_false]
            have z1 : decide ((0 : Int) < (((y :: l).length : Nat) : Int)) = true := decide_eq_true (by simp)
            have z2 : 0 < (y :: l).length := by simp
            generalize (y :: l).length = nl at *
            clear hx hd ho hh hm hb b0 b1 hi hl ht hll hr hLV hrd hsz se sG sl
            go_enter Try.func41, Try.ntmps41
            go_wp2_with fail
            refine HH.out.mono ?_
            rintro r w' ⟨rfl, rfl⟩
            go_wp2
            go_ret
            exact ⟨rfl, O.out, Keeps.refl _ _⟩
          | nil =>
            rw [hll] at g1
            have hb : ¬ busyR s i = true := by simp [busyR, hll, hr]
            rw [if_neg hb]
            have rc := run_oct w (s.fixed i)
            have RT := Lib.hid (ref_turn (bw_rd w (s.fixed i) (grownCap w (s.fixed i).size 0 5)) (hsz i hi) at_ turn (by omega) ht)
            have BW := Lib.hid (bw_below w 5 (s.fixed i))
            generalize grownCap w (s.fixed i).size 0 5 = gc at *
            generalize Lib.bytesWorld w 5 (s.fixed i) = wb at *
            rw [hsz i hi] at rc RT
            obtain ⟨c', hc'⟩ : ∃ c', c' = turnB (s.fixed i) at_ turn := ⟨_, rfl⟩
            rw [← hc'] at RT ⊢
            have HD := Lib.hid hd
            have HO := Lib.hid ho
            have HI := Lib.hid hi
            have HS := Lib.hid (And.intro se (And.intro sG sl))
            have HLL := Lib.hid hll
            by_cases hq : c' = s.fixed i
            · rw [if_pos hq]
              simp only [Int.reduceEq, if_false]
              have hq2 := toList_same hq
              have HQ := Lib.hid hq
              clear hx hd ho hh hm hb b0 b1 hi hl ht hll hr hLV hrd hsz se sG sl hc' hq
              go_enter Try.func41, Try.ntmps41
              go_wp2_with fail
              refine HH.out.mono ?_
              rintro r w' ⟨rfl, rfl⟩
              go_wp2_with fail
              refine RT.out.mono ?_
              rintro r w2 ⟨u, rfl, hu, b2⟩
              have cv := (RdB.of_row hu).str
              have HK := Lib.hid (BW.out.trans (b2.mono BW.out.size))
              have c1' := (Keeps.of_below HK.out).old c1
              have g0' := (Keeps.of_below HK.out).old g0
              have O2 := Lib.hid (show RvO e q s (Ext S w w2) w2 from Rep.mono (Rep.keep (show RvO e q s S w from ⟨G, LV, HD.out, HS.out.1, HS.out.2.1, HS.out.2.2⟩) HO.out (Keeps.of_below HK.out) (fun j x => Nat.not_le.2 (HO.out j x))) (fun k x => .inl x))
              clear hu b2 c1 g0 g1 g2 rc RT
              go_wp2
              go_ret
              exact ⟨rfl, O2.out, Below.keeps HK.out S HO.out⟩
            · rw [if_neg hq]
              have hq2 := toList_ne hq
              have HQ := Lib.hid hq
              clear hx hd ho hh hm hb b0 b1 hi hl ht hll hr hLV hrd hsz se sG sl hc' hq
              go_enter Try.func41, Try.ntmps41
              go_wp2_with fail
              refine HH.out.mono ?_
              rintro r w' ⟨rfl, rfl⟩
              go_wp2_with fail
              refine RT.out.mono ?_
              rintro r w2 ⟨u, rfl, hu, b2⟩
              have cv := (RdB.of_row hu).str
              have HK := Lib.hid (BW.out.trans (b2.mono BW.out.size))
              have c1' := (Keeps.of_below HK.out).old c1
              have g0' := (Keeps.of_below HK.out).old g0
              have hd2 := HD.out.keep (Keeps.of_below HK.out) (Nat.not_le.2 (HO.out _ HS.out.1)) (Nat.not_le.2 (HO.out _ HS.out.2.1)) (fun i hi g x => Nat.not_le.2 (HO.out _ (HS.out.2.2 i hi g x)))
              have k1 := hd2.f1 HI.out
              have k2 := hd2.f2 HI.out
              have f0 := hd2.fx.free (i * 3)
              have f1 := hd2.fx.free (i * 3 + 1)
              have f2 := hd2.fx.free (i * 3 + 2)
              have HD2 := Lib.hid hd2
              have K3 := Lib.hid ((((Below.keeps HK.out S HO.out).setCell (p := ⟨G, i * 3, none⟩) (.inl HS.out.2.1) (.string c')).setCell (p := ⟨G, i * 3 + 1, none⟩) (.inl HS.out.2.1) (.slice none 0 0)).setCell (p := ⟨G, i * 3 + 2, none⟩) (.inl HS.out.2.1) (.bool true))
              clear hu b2 c1 g0 g1 g2 rc RT hd2
              go_wp2
              go_ret
              refine ⟨rfl, ⟨G, _, HD2.out.setOne (s' := rotD s i c') HI.out rfl (fun j => rfl) (fun j => ?_) (fun j => rfl) (Nat.le_succ _) rfl rfl, .inl HS.out.1, .inl HS.out.2.1, fun j hj g e => ?_⟩, K3.out⟩
              · by_cases ej : j = i
                · rw [if_pos ej, ej]; exact HLL.out
                · rw [if_neg ej]; rfl
              · by_cases ej : j = i
                · rw [if_pos ej] at e; cases e
                · rw [if_neg ej] at e; exact .inl (HS.out.2.2 j hj g e)
        · have hb : busyR s i = true := by simp [busyR, hr]
          rw [if_pos hb]
          simp only [Int.reduceEq, if_false]
          rw [hr] at g2
          clear hx hd ho hh hm hb b0 b1 hi hl ht hr hLV hrd hsz se sG sl g1
          go_enter Try.func41, Try.ntmps41
          go_wp2_with fail
          refine HH.out.mono ?_
          rintro r w' ⟨rfl, rfl⟩
          go_wp2
          go_ret
          exact ⟨rfl, O.out, Keeps.refl _ _⟩
      · have hm : ¬ mayR s x bit := fun h => b1 h.2.2
        unfold rotS rotE
        rw [if_neg hm]
        simp only [Int.reduceEq, if_false]
        have d1 : decide (bit < 0) = false := decide_eq_false (by omega)
        have d2 : decide (512 ≤ bit) = true := decide_eq_true (by omega)
        clear hx hd ho hh hm b0 b1 hl ht hsz se sG sl
        go_enter Try.func41, Try.ntmps41
        go_wp2_with fail
        refine HH.out.mono ?_
        rintro r w' ⟨rfl, rfl⟩
        go_wp2
        go_ret
        exact ⟨rfl, O.out, Keeps.refl _ _⟩
    · have hm : ¬ mayR s x bit := fun h => b0 h.2.1
      unfold rotS rotE
      rw [if_neg hm]
      simp only [Int.reduceEq, if_false]
      have d1 : decide (bit < 0) = true := decide_eq_true (by omega)
      clear hx hd ho hh hm b0 hl ht hsz se sG sl
      go_enter Try.func41, Try.ntmps41
      go_wp2_with fail
      refine HH.out.mono ?_
      rintro r w' ⟨rfl, rfl⟩
      go_wp2
      go_ret
      exact ⟨rfl, O.out, Keeps.refl _ _⟩
  · have hm : ¬ mayR s x bit := fun h => hx h.1
    unfold rotS rotE
    rw [if_neg hm]
    simp only [Int.reduceEq, if_false]
    rw [decide_eq_false hx] at HH
    clear hx hd ho hm hl ht hsz se sG sl
    go_enter Try.func41, Try.ntmps41
    go_wp2_with fail
    refine HH.out.mono ?_
    rintro r w' ⟨rfl, rfl⟩
    go_wp2
    go_ret
    exact ⟨rfl, O.out, Keeps.refl _ _⟩
end

end Go.Proofs.Ytlfeglnacphhlaa
