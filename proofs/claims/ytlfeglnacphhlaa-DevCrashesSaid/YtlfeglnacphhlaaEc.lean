/- The document's device: Crash. -/
import Derived.Test.YtlfeglnacphhlaaEt
namespace Go.Proofs.Ytlfeglnacphhlaa
open Go.RowKit Go.Maps
set_option linter.unusedVariables false

section
variable {w : World} {e q G : Nat} {LV : Nat → Value} {s : DS} {ps : PS} {S : Nat → Prop} {v : Value} {fs : List Int}

theorem below_drewN {n : Nat} {w w' : World} (h : Below n w w') (k : Nat) : Below n w (w'.drewN k) := ⟨h.os, h.tape, h.output, h.size, h.block⟩

theorem looseI_n (s : DS) : (looseI s).length ≤ s.n := by
  unfold looseI
  exact Nat.le_trans (List.length_filter_le _ _) (by simp)

set_option maxRecDepth 100000 in
set_option maxHeartbeats 2000000 in
theorem rv_crash1 (h : Rv w e q G LV s) (qp : Value) (hl : s.lim ≤ 1000000) (hv : RdZ w v fs) (hlong : (looseI s).length < fs.length) (hfm : fs.length ≤ 9223372036854775807) :
    Calls Try.prog 44 #[.pointer (some ⟨e, 0, none⟩), qp, v] w fun r w' => r = .returned (.tuple #[.pointer none, .int .i64 7]) ∧ Below w.heap.size w w' := by
  have LO := Lib.hid (rv_loose h hl)
  obtain ⟨A, ca, rfl, _⟩ := hv.open_
  have hll : (looseL s).length < fs.length := by simp only [looseL, List.length_map]; omega
  have e1 : decide (((looseL s).length : Int) < (fs.length : Int)) = true := decide_eq_true (by omega)
  have e2 : decide ((looseL s).length < fs.length) = true := decide_eq_true hll
  clear h hl hlong hfm hll
  go_enter Try.func44, Try.ntmps44
  go_wp2_with fail
  refine LO.out.mono ?_
  rintro r w2 ⟨u, rfl, hr, hb, hg⟩
  obtain ⟨Al, cl, rfl, _⟩ := hr.open_
  have B := Lib.hid hb
  clear hr hb hg
  go_wp2
  go_ret2
  exact ⟨rfl, B.out⟩

set_option maxRecDepth 100000 in
set_option maxHeartbeats 4000000 in
theorem rv_crash2 (h : Rv w e q G LV s) (qp : Value) (hl : s.lim ≤ 1000000) (hv : RdZ w v fs) (hlong : fs.length ≤ (looseI s).length) (hbad : (crashL s fs).any (badF s) = true) :
    Calls Try.prog 44 #[.pointer (some ⟨e, 0, none⟩), qp, v] w fun r w' => r = .returned (.tuple #[.pointer none, .int .i64 3]) ∧ Below w.heap.size w w' := by
  have LO := Lib.hid (rv_loose h hl)
  obtain ⟨A, ca, rfl, hA⟩ := hv.open_
  have hll : ¬ (looseL s).length < fs.length := by simp only [looseL, List.length_map]; omega
  have e1 : decide (((looseL s).length : Int) < (fs.length : Int)) = false := decide_eq_false (by omega)
  have e2 : decide ((looseL s).length < fs.length) = false := decide_eq_false hll
  have HBAD := Lib.hid hbad
  have HLONG := Lib.hid hlong
  have HFS := Lib.hid (show fs.length ≤ 4096 by
    have h2 := looseI_n s
    have := h.n1; omega)
  have HA := Lib.hid hA
  clear h hl hlong hbad hv hA hll
  go_enter Try.func44, Try.ntmps44
  go_wp2_with fail
  refine LO.out.mono ?_
  rintro r w2 ⟨u, rfl, hr, hb, hg⟩
  obtain ⟨Al, cl, rfl, hL⟩ := hr.open_
  have B := Lib.hid hb
  have HL := Lib.hid hL
  clear hr hb hg hL
  go_wp2
  go_loopw [9] (fun i wr => ∃ k : Nat, k ≤ fs.length ∧ i = .int .i64 (k : Int) ∧ Below w2.heap.size w2 wr ∧ ∀ j x, j < k → (crashL s fs)[j]? = some x → badF s x = false) (fun i _ => fs.length - (intOf i).toNat)
  case atStart => exact ⟨0, Nat.zero_le _, rfl, Below.refl _ _, fun j x hj => absurd hj (Nat.not_lt_zero j)⟩
  case round =>
    obtain ⟨k, hk, rfl, BB, hgood⟩ := hrel
    by_cases hk4 : k < fs.length
    · obtain ⟨i, f, hi1, hf1, hx1, hl1, hin, hine⟩ := crashL_at hk4 HLONG.out
      obtain ⟨g, o, rfl, hcf⟩ := HA.out (by omega)
      obtain ⟨gl, rfl, hcl⟩ := HL.out (by have := HLONG.out; simp [looseL]; omega)
      have cf := (Keeps.of_below (B.out.trans (BB.mono B.out.size))).old (hcf k f hf1)
      have cl1 : wr.cell? ⟨gl, k * 2 + 1, none⟩ = some (.int .i64 ((s.loose i).length : Int)) := by rw [Nat.mul_comm]; exact (Keeps.of_below BB).old (hcl k _ hl1).2
      have h1 : (k : Int) < (fs.length : Int) := by omega
      have h3 : (k : Int) ≤ 4096 := by have := HFS.out; omega
      have h2 : (k : Int) < ((looseL s).length : Int) := by have := HLONG.out; simp only [looseL, List.length_map]; omega
      have HG := Lib.hid hgood
      have HX := Lib.hid hx1
      have HK := Lib.hid hk4
      have HBB := Lib.hid BB
      clear hgood hx1 hl1 hi1 hf1 hcf hcl hk hin hine hk4 BB
      generalize hM : (s.loose i).length = M at *
      have HM := Lib.hid hM
      clear hM
      by_cases n0 : f < 0
      · have d1 : decide (f < 0) = true := decide_eq_true n0
        have F := Lib.hid (B.out.trans (HBB.out.mono B.out.size))
        clear n0
        go_wp2_with fail
        go_quiet (fail)
        go_wp2
        go_ret2
        exact ⟨rfl, below_drewN F.out _⟩
      · have d1 : decide (f < 0) = false := decide_eq_false n0
        by_cases n1 : (M : Int) < f
        · have d2 : decide ((M : Int) < f) = true := decide_eq_true n1
          have F := Lib.hid (B.out.trans (HBB.out.mono B.out.size))
          clear n0 n1
          go_wp2_with fail
          go_quiet (fail)
          go_wp2
          go_ret2
          exact ⟨rfl, below_drewN F.out _⟩
        · have d2 : decide ((M : Int) < f) = false := decide_eq_false n1
          have GD := Lib.hid (show badF s (i, f) = false by unfold badF; simp only [HM.out, d1, d2]; rfl)
          clear n0 n1
          go_wp2_with fail
          go_quiet (fail)
          go_wp2
          go_roundw
          case rel =>
            refine ⟨k + 1, HK.out, by simp, below_drewN HBB.out _, fun j x hj hx => ?_⟩
            by_cases e : j = k
            · subst e
              rw [HX.out] at hx
              simp at hx; subst hx; exact GD.out
            · exact HG.out j x (by omega) hx
          case measure => have := HK.out; simp only [intOf]; omega
    · exfalso
      obtain ⟨x, hx, hb⟩ := List.any_eq_true.1 HBAD.out
      obtain ⟨j, hj⟩ := List.getElem?_of_mem hx
      have hj2 : j < (crashL s fs).length := (List.getElem?_eq_some_iff.1 hj).1
      have := hgood j x (by simp [crashL] at hj2; omega) hj
      rw [this] at hb; cases hb

/-- A device whose sectors hold C. -/
def cvD (s : DS) (C : Nat → ByteArray) (rot : Nat → Bool) : DS := ⟨s.n, C, fun _ => [], rot, 0, 0, s.lim⟩

/-- What stands while the new device is laid. -/
def CvW (w2 wr : World) (x q : Nat) (s : DS) (C : Nat → ByteArray) (rot : Nat → Bool) : Prop := RvO x q (cvD s C rot) (New w2 wr) wr ∧ Below w2.heap.size w2 wr

theorem CvW.keep {w2 wr w3 : World} {x q : Nat} {s : DS} {C : Nat → ByteArray} {rot : Nat → Bool} (h : CvW w2 wr x q s C rot) (k : Below wr.heap.size wr w3) : CvW w2 w3 x q s C rot :=
  ⟨Rep.mono (Rep.keep h.1 (new_own _ _) (Keeps.of_below k) (fun j hj e => by have := hj.2; omega)) (fun j hj => ⟨hj.1, by have := hj.2; have := k.size; omega⟩), h.2.trans (k.mono h.2.size)⟩

/-- One sector laid. -/
theorem CvW.set {w2 wr : World} {x q : Nat} {s : DS} {C : Nat → ByteArray} {rot : Nat → Bool} (h : CvW w2 wr x q s C rot) {i : Nat} (hi : i < s.n) : ∃ G, wr.cell? ⟨x, 1, none⟩ = some (.slice (some ⟨G, 0, none⟩) s.n s.n) ∧
    (∃ a b c, wr.cell? ⟨G, i * 3, none⟩ = some a ∧ wr.cell? ⟨G, i * 3 + 1, none⟩ = some b ∧ wr.cell? ⟨G, i * 3 + 2, none⟩ = some c) ∧ (∀ j, wr.frozen? ⟨G, j, none⟩ = false) ∧
    ∀ c b, CvW w2 (((wr.setCell ⟨G, i * 3, none⟩ (.string c)).setCell ⟨G, i * 3 + 1, none⟩ (.slice none 0 0)).setCell ⟨G, i * 3 + 2, none⟩ (.bool b)) x q s (fun j => if j = i then c else C j) (fun j => if j = i then b else rot j) := by
  obtain ⟨⟨G, LV, hd, sx, sG, sl⟩, hb⟩ := h
  refine ⟨G, hd.c1, ⟨_, _, _, hd.f0 (i := i) hi, hd.f1 (i := i) hi, hd.f2 (i := i) hi⟩, fun j => hd.fx.free j, fun c b => ⟨⟨G, _, hd.setOne (i := i) (s' := cvD s (fun j => if j = i then c else C j) (fun j => if j = i then b else rot j)) hi (c := c) (b := b) rfl (fun j => rfl) (fun j => by simp [cvD]) (fun j => rfl) (Nat.le_refl _) rfl rfl, ⟨sx.1, by simp only [World.size_setCell]; exact sx.2⟩, ⟨sG.1, by simp only [World.size_setCell]; exact sG.2⟩, fun j hj g e => ?_⟩, ?_⟩⟩
  · by_cases ej : j = i
    · rw [if_pos ej] at e; cases e
    · rw [if_neg ej] at e
      have := sl j hj g e
      exact ⟨this.1, by simp only [World.size_setCell]; exact this.2⟩
  · exact ((hb.setCell (p := ⟨G, i * 3, none⟩) sG.1 _).setCell (p := ⟨G, i * 3 + 1, none⟩) sG.1 _).setCell (p := ⟨G, i * 3 + 2, none⟩) sG.1 _

set_option maxRecDepth 100000 in
set_option maxHeartbeats 4000000 in
theorem rv_crash3 (h : RvO e q s S w) (ow : Own S w) (q' : Nat) (hl : s.lim ≤ 1000000) (hv : RdZ w v fs) (hlong : fs.length ≤ (looseI s).length) (hok : (crashL s fs).any (badF s) = false) :
    Calls Try.prog 44 #[.pointer (some ⟨e, 0, none⟩), .pointer (some ⟨q', 0, none⟩), v] w fun r w' => ∃ x, r = .returned (.tuple #[.pointer (some ⟨x, 0, none⟩), .int .i64 0]) ∧ RvO x q' (crashD s fs) (New w w') w' ∧ Below w.heap.size w w' := by
  obtain ⟨G, LV, h, se, sG, sl⟩ := h
  have LO := Lib.hid (rv_loose h hl)
  obtain ⟨A, ca, rfl, hA⟩ := hv.open_
  have hll : ¬ (looseL s).length < fs.length := by simp only [looseL, List.length_map]; omega
  have e1 : decide (((looseL s).length : Int) < (fs.length : Int)) = false := decide_eq_false (by omega)
  have e2 : decide ((looseL s).length < fs.length) = false := decide_eq_false hll
  have HOK := Lib.hid (fun (j : Nat) x (hj : (crashL s fs)[j]? = some x) => (List.any_eq_false.1 hok) x (List.mem_of_getElem? hj))
  have HLONG := Lib.hid hlong
  have HFS := Lib.hid (show fs.length ≤ 4096 by
    have h2 := looseI_n s
    have := h.n1; omega)
  have HA := Lib.hid hA
  have N1 := Lib.hid h.n1
  have LL := Lib.hid h.ll
  have SL := Lib.hid hl
  have KD := Lib.hid (fun (W : World) (k : Below w.heap.size w W) => (h.keep (T := fun j => w.heap.size ≤ j) (Keeps.of_below k) (fun x => by have := ow _ se; omega) (fun x => by have := ow _ sG; omega) (fun i hi g y x => by have := ow _ (sl i hi g y); omega) : Rv W e q G LV s))
  clear h hl hlong hok hv hA hll se sG sl ow
  go_enter Try.func44, Try.ntmps44
  go_wp2_with fail
  refine LO.out.mono ?_
  rintro r w2 ⟨u, rfl, hr, hb, hg⟩
  obtain ⟨Al, cl, rfl, hL⟩ := hr.open_
  have B := Lib.hid hb
  have HL := Lib.hid hL
  have KD2 := Lib.hid (fun (W : World) (k : Below w2.heap.size w2 W) => KD.out W (hb.trans (k.mono hb.size)))
  clear hr hb hg hL LO KD
  go_wp2
  go_loopw [9] (fun i wr => ∃ k : Nat, k ≤ fs.length ∧ i = .int .i64 (k : Int) ∧ Below w2.heap.size w2 wr) (fun i _ => fs.length - (intOf i).toNat)
  case atStart => exact ⟨0, Nat.zero_le _, rfl, Below.refl _ _⟩
  case round =>
    obtain ⟨k, hk, rfl, BB⟩ := hrel
    by_cases hk4 : k < fs.length
    · obtain ⟨i, f, hi1, hf1, hx1, hl1, hin, hine⟩ := crashL_at hk4 HLONG.out
      obtain ⟨g, o, rfl, hcf⟩ := HA.out (by omega)
      obtain ⟨gl, rfl, hcl⟩ := HL.out (by have := HLONG.out; simp [looseL]; omega)
      have cf := (Keeps.of_below (B.out.trans (BB.mono B.out.size))).old (hcf k f hf1)
      have cl1 : wr.cell? ⟨gl, k * 2 + 1, none⟩ = some (.int .i64 ((s.loose i).length : Int)) := by rw [Nat.mul_comm]; exact (Keeps.of_below BB).old (hcl k _ hl1).2
      have h1 : (k : Int) < (fs.length : Int) := by omega
      have h3 : (k : Int) ≤ 4096 := by have := HFS.out; omega
      have h2 : (k : Int) < ((looseL s).length : Int) := by have := HLONG.out; simp only [looseL, List.length_map]; omega
      have hg := HOK.out k _ hx1
      have hg2 : badF s (i, f) = false := by simpa using hg
      unfold badF at hg2
      rw [Bool.or_eq_false_iff] at hg2
      have HK := Lib.hid hk4
      have HBB := Lib.hid BB
      clear hx1 hl1 hi1 hf1 hcf hcl hk hin hine hk4 hg BB
      generalize (s.loose i).length = M at *
      obtain ⟨d1, d2⟩ := hg2
      go_wp2_with fail
      go_quiet (fail)
      go_wp2
      go_roundw
      case rel => exact ⟨k + 1, HK.out, by simp, below_drewN HBB.out _⟩
      case measure => have := HK.out; simp only [intOf]; omega
    · have h1 : ¬ (k : Int) < (fs.length : Int) := by omega
      obtain rfl : k = fs.length := by omega
      have c1 := (KD2.out wr BB).c1
      have NW := Lib.hid (rv_new (q := q') wr s.n N1.out)
      have HBB := Lib.hid BB
      clear hk hk4 h1 BB
      go_wp2_with fail
      refine NW.out.mono ?_
      rintro r w3 ⟨rfl, hx3, hb3⟩
      have X3 := Lib.hid (show CvW wr w3 (wr.heap.size + 1) q' s (fun _ => zer 64) (fun _ => false) from ⟨by
        obtain ⟨G3, LV3, hd3, r3⟩ := hx3
        exact ⟨G3, LV3, hd3.agree rfl (fun _ _ => rfl) (fun _ _ => rfl) (fun _ _ => rfl) (Nat.zero_le _) rfl rfl, r3⟩, hb3⟩)
      have KD3 := Lib.hid (fun (W : World) (k : Below wr.heap.size wr W) => KD2.out W (HBB.out.trans (k.mono HBB.out.size)))
      clear hx3 hb3 NW c1 KD2
      generalize hx : wr.heap.size + 1 = x at *
      have HXE := Lib.hid hx
      clear hx
      generalize wr = w4 at *
      go_wp2
      go_loopw [11] (fun i wr => ∃ k : Nat, k ≤ s.n ∧ i = .int .i64 (k : Int) ∧ ∃ C rot, CvW w4 wr x q' s C rot ∧ ∀ j, j < k → C j = s.fixed j ∧ rot j = s.rot j) (fun i _ => s.n - (intOf i).toNat)
      case atStart => exact ⟨0, Nat.zero_le _, rfl, _, _, X3.out, fun j hj => absurd hj (Nat.not_lt_zero j)⟩
      case round =>
        obtain ⟨k, hk, rfl, C, rot, hx, hC⟩ := hrel
        have c1 := (KD3.out wr hx.2).c1
        by_cases hk4 : k < s.n
        · have h1 : (k : Int) < (s.n : Int) := by omega
          have h3 : (k : Int) ≤ 4096 := by have := N1.out; omega
          have a0 := (KD3.out wr hx.2).f0 hk4
          have a2 := (KD3.out wr hx.2).f2 hk4
          obtain ⟨G', x1, ⟨y0, y1, y2, b0, b1, b2⟩, fz, NX⟩ := hx.set hk4
          have f0 := fz (k * 3)
          have f1 := fz (k * 3 + 1)
          have f2 := fz (k * 3 + 2)
          have X5 := Lib.hid ((NX (s.fixed k) (s.rot k)).keep (Below.refl _ _).drew)
          have HC := Lib.hid hC
          have HK := Lib.hid hk4
          clear hx hC hk hk4 fz NX
          go_wp2_with fail
          go_region
          all_goals
            go_wp2
            go_roundw
            case rel =>
              refine ⟨k + 1, HK.out, by simp, _, _, X5.out, fun j hj => ?_⟩
              by_cases e : j = k
              · subst e; simp
              · simp only [if_neg e]; exact HC.out j (by omega)
            case measure => have := HK.out; simp only [intOf]; omega
        · have h1 : ¬ (k : Int) < (s.n : Int) := by omega
          obtain rfl : k = s.n := by omega
          have HX := Lib.hid hx
          have HC := Lib.hid hC
          clear hx hC hk hk4
          generalize wr = w5 at *
          go_wp2
          clear c1
          go_loopw [12] (fun i wr => ∃ k : Nat, k ≤ fs.length ∧ i = .int .i64 (k : Int) ∧ ∃ C rot, CvW w4 wr x q' s C rot ∧ ∀ i, i < s.n → C i = (crashS s fs k).1 i ∧ rot i = (crashS s fs k).2 i) (fun i _ => fs.length - (intOf i).toNat)
          case atStart => exact ⟨0, Nat.zero_le _, rfl, _, _, HX.out, fun j hj => HC.out j hj⟩
          case round =>
            obtain ⟨k, hk, rfl, C, rot, hx, hC⟩ := hrel
            by_cases hk4 : k < fs.length
            · obtain ⟨i, f, hi1, hf1, hx1, hl1, hin, hine⟩ := crashL_at hk4 HLONG.out
              obtain ⟨g, o, rfl, hcf⟩ := HA.out (by omega)
              obtain ⟨gl, rfl, hcl⟩ := HL.out (by have := HLONG.out; simp [looseL]; omega)
              have BW : Below w2.heap.size w2 wr := HBB.out.trans (hx.2.mono HBB.out.size)
              have cf := (Keeps.of_below (B.out.trans (BW.mono B.out.size))).old (hcf k f hf1)
              have cl1 : wr.cell? ⟨gl, k * 2, none⟩ = some (.int .i64 (i : Int)) := by rw [Nat.mul_comm]; exact (Keeps.of_below BW).old (hcl k _ hl1).1
              have h1 : (k : Int) < (fs.length : Int) := by omega
              have h3 : (k : Int) ≤ 4096 := by have := HFS.out; omega
              have h2 : (k : Int) < ((looseL s).length : Int) := by have := HLONG.out; simp only [looseL, List.length_map]; omega
              have hg := HOK.out k _ hx1
              have hg2 : badF s (i, f) = false := by simpa using hg
              unfold badF at hg2
              rw [Bool.or_eq_false_iff] at hg2
              have hs := crashS_succ hx1
              have f0 : ¬ f < 0 := of_decide_eq_false hg2.1
              have f1 : f ≤ ((s.loose i).length : Int) := Int.not_lt.1 (of_decide_eq_false hg2.2)
              have HK := Lib.hid hk4
              have HC := Lib.hid hC
              by_cases fp : 0 < f
              · obtain ⟨j, rfl⟩ : ∃ j : Nat, f = (j : Int) + 1 := ⟨f.toNat - 1, by omega⟩
                have hj : j < (s.loose i).length := by omega
                have hE := KD3.out wr hx.2
                have c1 := hE.c1
                have g1 := hE.f1 hin
                obtain ⟨AL, cpl, hLV, hrd⟩ := (hE.lo i hin).open_
                obtain ⟨ga, rfl, hca⟩ := hrd (by omega)
                have q7 := hca j _ (List.getElem?_eq_getElem hj)
                rw [hLV] at g1
                have ED : (s.loose i).getD j ByteArray.empty = (s.loose i)[j] := by rw [List.getD_eq_getElem?_getD, List.getElem?_eq_getElem hj]; rfl
                rw [← ED] at q7
                obtain ⟨G', x1, ⟨y0, y1, y2, b0, b1, b2⟩, fz, NX⟩ := hx.set hin
                have z0 := fz (i * 3)
                have z1 := fz (i * 3 + 1)
                have z2 := fz (i * 3 + 2)
                have d1 : decide (0 < (j : Int) + 1) = true := decide_eq_true (by omega)
                have i1 : (i : Int) < (s.n : Int) := by omega
                have i2 : (j : Int) < ((s.loose i).length : Int) := by omega
                have i4 : (j : Int) ≤ 1000000 := by have := LL.out i hin; have := SL.out; omega
                have HS := Lib.hid (show crashS s fs (k + 1) = (fun a => if a = i then (s.loose i).getD j ByteArray.empty else (crashS s fs k).1 a, fun a => if a = i then false else (crashS s fs k).2 a) by
                  rw [hs]; unfold crashG; rw [if_pos (show (0 : Int) < (j : Int) + 1 by omega)]; rfl)
                have wj : IntKind.i64.wrap (j : Int) = (j : Int) := by simp [IntKind.wrap, IntKind.bits, IntKind.signed]; omega
                have X5 := Lib.hid ((NX ((s.loose i).getD j ByteArray.empty) false).keep (Below.refl _ _).drew)
                clear hx1 hl1 hi1 hf1 hcf hcl hk hine hk4 hg hg2 hs f0 f1 hx hC hE hLV fp hj hin hrd hca ED fz NX BW
                generalize (s.loose i).length = M at *
                generalize (s.loose i).getD j ByteArray.empty = cc at *
                go_wp2_with fail
                go_region
                all_goals
                  go_wp2
                  go_roundw
                  case rel =>
                    refine ⟨k + 1, HK.out, by simp, _, _, X5.out, fun a ha => ?_⟩
                    obtain ⟨h1, h2⟩ := HC.out a ha
                    rw [HS.out]
                    by_cases e : a = i
                    · subst e; simp
                    · simp only [if_neg e, h1, h2]; exact ⟨trivial, trivial⟩
                  case measure => have := HK.out; simp only [intOf]; omega
              · have d1 : decide (0 < f) = false := decide_eq_false fp
                have HS := Lib.hid (show crashS s fs (k + 1) = crashS s fs k by rw [hs]; unfold crashG; rw [if_neg fp])
                have HX := Lib.hid hx
                clear hx1 hl1 hi1 hf1 hcf hcl hk hine hk4 hg hg2 hs f0 f1 hx hC fp hin BW
                go_wp2
                go_roundw
                case rel => exact ⟨k + 1, HK.out, by simp, _, _, HX.out, fun a ha => by rw [HS.out]; exact HC.out a ha⟩
                case measure => have := HK.out; simp only [intOf]; omega
            · have h1 : ¬ (k : Int) < (fs.length : Int) := by omega
              obtain rfl : k = fs.length := by omega
              have HX := Lib.hid hx
              have HC := Lib.hid hC
              clear hx hC hk hk4
              go_wp2
              go_ret2
              obtain ⟨⟨G, LV, hd, sx, sG, sl⟩, hb⟩ := HX.out
              have hz : w.heap.size ≤ w4.heap.size := Nat.le_trans B.out.size HBB.out.size
              have hN : ∀ k, New w4 wr k → New w wr k := fun k x => ⟨Nat.le_trans hz x.1, x.2⟩
              exact ⟨x, rfl, ⟨G, LV, hd.agree (s' := crashD s fs) rfl (fun i hi => ((HC.out i hi).1).symm) (fun i hi => rfl) (fun i hi => ((HC.out i hi).2).symm) (Nat.le_refl _) rfl rfl, hN _ sx, hN _ sG, fun i hi g e => hN _ (sl i hi g e)⟩, B.out.trans ((HBB.out.trans (hb.mono HBB.out.size)).mono B.out.size)⟩

theorem rv_crash (h : RvO e q s S w) (ow : Own S w) (q' : Nat) (hl : s.lim ≤ 1000000) (hv : RdZ w v fs) (hfm : fs.length ≤ 9223372036854775807) :
    Calls Try.prog 44 #[.pointer (some ⟨e, 0, none⟩), .pointer (some ⟨q', 0, none⟩), v] w fun r w' => Below w.heap.size w w' ∧
      ((crashE s fs = 0 ∧ ∃ x, r = .returned (.tuple #[.pointer (some ⟨x, 0, none⟩), .int .i64 0]) ∧ RvO x q' (crashD s fs) (New w w') w') ∨ (crashE s fs ≠ 0 ∧ r = .returned (.tuple #[.pointer none, .int .i64 (crashE s fs)]))) := by
  unfold crashE
  by_cases h1 : (looseI s).length < fs.length
  · simp only [if_pos h1]
    obtain ⟨G, LV, hd, r⟩ := h
    exact (rv_crash1 hd _ hl hv h1 hfm).mono fun e w' ⟨he, hb⟩ => ⟨hb, .inr ⟨by decide, he⟩⟩
  · simp only [if_neg h1]
    cases h2 : (crashL s fs).any (badF s)
    · simp only [Bool.false_eq_true, if_false]
      exact (rv_crash3 h ow q' hl hv (by omega) h2).mono fun e w' ⟨x, he, hx, hb⟩ => ⟨hb, .inl ⟨trivial, x, he, hx⟩⟩
    · simp only [if_true]
      obtain ⟨G, LV, hd, r⟩ := h
      exact (rv_crash2 hd _ hl hv (by omega) h2).mono fun e w' ⟨he, hb⟩ => ⟨hb, .inr ⟨by decide, he⟩⟩

end

end Go.Proofs.Ytlfeglnacphhlaa
