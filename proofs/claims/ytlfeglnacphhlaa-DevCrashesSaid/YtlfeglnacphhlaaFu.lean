/- DevFuses. -/
import Derived.Test.YtlfeglnacphhlaaBg
import Derived.Test.YtlfeglnacphhlaaAw
import Derived.Test.YtlfeglnacphhlaaAc
namespace Go.Proofs.Ytlfeglnacphhlaa
open Go.RowKit Go.Maps
set_option linter.unusedVariables false

/-- How the fuse stands behind d writing calls that were done. -/
structure PF (N d : Nat) (ps : PS) : Prop where
  done : ps.done = (d : Int)
  fuse : ps.fuse = (N : Int) - (d : Int)
  off : ps.off = true → d = N
  le : d ≤ N

theorem PF.go {N d : Nat} {ps : PS} (h : PF N d ps) (hd : d < N) (hN : N < 20) : flushE ps = 0 ∧ PF N (d + 1) (flushP ps) ∧ (flushP ps).off = false := by
  have ho : ps.off = false := by
    cases e : ps.off
    · rfl
    · have := h.off e; omega
  have hf : ¬ ps.fuse = 0 := by rw [h.fuse]; omega
  have hp : flushP ps = ⟨false, (N : Int) - ((d + 1 : Nat) : Int), ((d + 1 : Nat) : Int)⟩ := by
    unfold flushP spendP
    rw [if_neg (by rw [ho]; decide), if_neg hf, if_pos (by rw [h.fuse]; omega), h.fuse, h.done, ho]
    have : wrap64 ((d : Int) + 1) = ((d + 1 : Nat) : Int) := by unfold wrap64; omega
    rw [this]
    have : (N : Int) - (d : Int) - 1 = (N : Int) - ((d + 1 : Nat) : Int) := by omega
    rw [this]
  refine ⟨?_, ?_, by rw [hp]⟩
  · unfold flushE; rw [if_neg (by rw [ho]; decide), if_neg hf]
  · rw [hp]; exact ⟨rfl, rfl, (fun (h : false = true) => absurd h (by decide)), hd⟩

theorem PF.stop {N d : Nat} {ps : PS} (h : PF N d ps) (hd : ¬ d < N) : flushE ps = 80 ∧ PF N d (flushP ps) ∧ (flushP ps).off = true := by
  have e : d = N := by have := h.le; omega
  have hf : ps.fuse = 0 := by rw [h.fuse]; omega
  have hp : flushP ps = { ps with off := true } := by
    unfold flushP spendP
    by_cases ho : ps.off = true
    · rw [if_pos ho]; cases ps; simp at ho; rw [ho]
    · rw [if_neg ho, if_pos hf]
  refine ⟨?_, ?_, by rw [hp]⟩
  · unfold flushE
    by_cases ho : ps.off = true
    · rw [if_pos ho]
    · rw [if_neg ho, if_pos hf]
  · rw [hp]; exact ⟨h.done, h.fuse, fun _ => e, h.le⟩

/-- A device of four sectors whose writes do not fail. -/
def D4 (j : Nat) (s : DS) : Prop := s.n = 4 ∧ s.wr = 0 ∧ s.lim ≤ j

theorem D4.flush {j : Nat} {s : DS} (h : D4 j s) (ps : PS) : D4 j (flushS s ps) := by
  unfold flushS; split
  · exact h
  · split
    · exact h
    · exact h
theorem D4.write {j : Nat} {s : DS} (h : D4 j s) (ps : PS) {x : Int} (x0 : 0 ≤ x) (x1 : x < 4) (c : ByteArray) (hc : c.size = 64) :
    writeE s ps x c.size = flushE ps ∧ writeP s ps x c.size = flushP ps ∧ D4 (j + 1) (writeD s ps x c) := by
  have hx : hasD s x := ⟨x0, by rw [h.1]; omega⟩
  have hw : ¬ s.wr % 2 = 1 := by rw [h.2.1]; decide
  refine ⟨?_, ?_, ?_⟩
  · unfold writeE flushE; rw [if_pos hx, if_pos hc, if_neg hw]
  · unfold writeP flushP; rw [if_pos hx, if_pos hc]
  · unfold writeD; rw [if_pos hx, if_pos hc, if_neg hw]
    have h1 : D4 (j + 1) s := ⟨h.1, h.2.1, by have := h.2.2; omega⟩
    split
    · exact h1
    · split
      · exact h1
      · exact ⟨h.1, by show s.wr / 2 = 0; rw [h.2.1], by show s.lim + 1 ≤ j + 1; have := h.2.2; omega⟩

/-- What stands behind a round. -/
def FuS (w0 wr : World) (t p q : Nat) (dd ee : Nat → Nat) (N d j : Nat) : Prop := ∃ ps s, RigO w0 wr t p q dd ee ps newP s (fun k => newD (if k = 0 then 4 else 4)) ∧ PF N d ps ∧ ∀ k, k < 2 → D4 j (s k)

section
variable {w0 wr w' : World} {t p q : Nat} {dd ee : Nat → Nat} {N d j : Nat}

theorem RigO.below {ps rs : PS} {s r : Nat → DS} (h : RigO w0 wr t p q dd ee ps rs s r) (k : Below wr.heap.size wr w') : RigO w0 w' t p q dd ee ps rs s r := by
  obtain ⟨A, B, hr, hb⟩ := h
  exact ⟨A, B, hr.below k, hb.trans (k.mono hr.size)⟩

theorem RigO.flush {ps rs : PS} {s r : Nat → DS} (h : RigO w0 wr t p q dd ee ps rs s r) {k : Nat} (hk : k < 2) :
    Calls Try.prog 9 #[.pointer (some ⟨dd k, 0, none⟩)] wr fun e w' => e = .returned (.int .i64 (flushE ps)) ∧ RigO w0 w' t p q dd ee (flushP ps) rs (fun i => if i = k then flushS (s k) ps else s i) r := by
  obtain ⟨A, B, hr, hb⟩ := h
  refine (dv_flush (hr.dv k hk) (hr.oa k hk) hr.pw (hr.ta k hk).2.1).mono fun e w' ⟨he, hd, hp, kp⟩ => ⟨he, _, B, hr.dev hk hd hp kp, ?_⟩
  exact hb.trans (Keeps.below (kp.mono (T := fun j => w0.heap.size ≤ j) (fun n _ x => x.elim (hr.za k hk n) (fun e => e ▸ hr.zt.2.1))) hr.size)

theorem RigO.write {wa : World} {ps rs : PS} {s r : Nat → DS} (h : RigO w0 wa t p q dd ee ps rs s r) {k : Nat} (hk : k < 2) (b : Below wa.heap.size wa wr) (x : Int) {v : Value} {c : ByteArray} (hv : wr.ownsRow wa.heap.size 5 1 v c.size (octV c)) (hcm : c.size ≤ 9223372036854775807) (hl : (s k).lim < 1000000) :
    Calls Try.prog 11 #[.pointer (some ⟨dd k, 0, none⟩), .int .i64 x, v] wr fun e w' => e = .returned (.int .i64 (writeE (s k) ps x c.size)) ∧ RigO w0 w' t p q dd ee (writeP (s k) ps x c.size) rs (fun i => if i = k then writeD (s k) ps x c else s i) r := by
  obtain ⟨A, B, ha, hb0⟩ := h
  have hr := ha.below b
  have hb : Below w0.heap.size w0 wr := hb0.trans (b.mono ha.size)
  refine (dv_write (hr.dv k hk) (hr.oa k hk) hr.pw (hr.ta k hk).2.1 x (RdB.of_row hv) (fun g e => ?_) hcm hl).mono fun e w' ⟨he, hd, hp, kp⟩ => ⟨he, _, B, hr.dev hk hd hp kp, ?_⟩
  · have := (hv.lt g e).1
    exact ⟨fun x => by have := ha.oa k hk g x; omega, by have := ha.pw.top.lt; omega⟩
  · exact hb.trans (Keeps.below (kp.mono (T := fun j => w0.heap.size ≤ j) (fun n _ x => x.elim (hr.za k hk n) (fun e => e ▸ hr.zt.2.1))) hr.size)

theorem RigO.c0 {ps rs : PS} {s r : Nat → DS} (h : RigO w0 wr t p q dd ee ps rs s r) : wr.cell? ⟨t, 0, none⟩ = some (.pointer (some ⟨p, 0, none⟩)) := by
  obtain ⟨A, B, hr, hb⟩ := h
  exact hr.top.cell (i := 0) (by omega)
theorem RigO.cd0 {ps rs : PS} {s r : Nat → DS} (h : RigO w0 wr t p q dd ee ps rs s r) : wr.cell? ⟨t, 1, none⟩ = some (.pointer (some ⟨dd 0, 0, none⟩)) := by
  obtain ⟨A, B, hr, hb⟩ := h
  exact hr.top.cell (i := 1) (by omega)
theorem RigO.cd1 {ps rs : PS} {s r : Nat → DS} (h : RigO w0 wr t p q dd ee ps rs s r) : wr.cell? ⟨t, 2, none⟩ = some (.pointer (some ⟨dd 1, 0, none⟩)) := by
  obtain ⟨A, B, hr, hb⟩ := h
  exact hr.top.cell (i := 2) (by omega)
theorem RigO.pw {ps rs : PS} {s r : Nat → DS} (h : RigO w0 wr t p q dd ee ps rs s r) : Pow wr p ps := by
  obtain ⟨A, B, hr, hb⟩ := h
  exact hr.pw
theorem RigO.old {ps rs : PS} {s r : Nat → DS} (h : RigO w0 wr t p q dd ee ps rs s r) : Below w0.heap.size w0 wr := by
  obtain ⟨A, B, hr, hb⟩ := h
  exact hb
/-- A call that turns the power alone. -/
theorem RigO.power {ps ps' rs : PS} {s r : Nat → DS} (h : RigO w0 wr t p q dd ee ps rs s r) (hp : Pow w' p ps') (k : Keeps (fun j => j = p) wr w') : RigO w0 w' t p q dd ee ps' rs s r := by
  obtain ⟨A, B, hr, hb⟩ := h
  exact ⟨A, B, ⟨hr.top.keep k hr.tp.1, hp, hr.rp.keep k (fun e => hr.tp.2.2 e.symm), fun i hi => Rep.keep (hr.dv i hi) (hr.oa i hi) k (fun j x y => (hr.ta i hi).2.1 (y ▸ x)), fun i hi => Rep.keep (hr.rv i hi) (hr.ob i hi) k (fun j x y => (hr.tb i hi).2.1 (y ▸ x)),
    fun i hi => (hr.oa i hi).grow k.size, fun i hi => (hr.ob i hi).grow k.size, hr.ta, hr.tb, hr.tp, hr.aa, hr.bb, hr.ab, hr.za, hr.zb, hr.zt⟩,
    hb.trans (Keeps.below (k.mono (T := fun j => w0.heap.size ≤ j) (fun n _ x => x ▸ hr.zt.2.1)) hr.size)⟩
end

theorem and_i64 (z : Int) (c : Nat) (hc : c < 1000) : ∃ k : Nat, k ≤ c ∧ bits .and .i64 z (c : Int) = (k : Int) := by
  have h : (BitVec.ofInt 64 z &&& BitVec.ofInt 64 (c : Int)).toNat ≤ c := by
    rw [BitVec.toNat_and, BitVec.ofInt_natCast, BitVec.toNat_ofNat, Nat.mod_eq_of_lt (show c < 2 ^ 64 by omega)]
    exact Nat.and_le_right
  refine ⟨(BitVec.ofInt 64 z &&& BitVec.ofInt 64 (c : Int)).toNat, h, ?_⟩
  show IntKind.i64.wrap (((BitVec.ofInt 64 z &&& BitVec.ofInt 64 (c : Int)).toNat : Nat) : Int) = _
  rw [IntKind.wrap_i64]
  omega
theorem oct_of {f : Int} (f0 : 0 ≤ f) (f1 : f ≤ 255) : ∃ c : UInt8, (c.toNat : Int) = f := by
  refine ⟨UInt8.ofNat f.toNat, ?_⟩
  have h : (UInt8.ofNat f.toNat).toNat = f.toNat % 256 := rfl
  rw [h]; omega
theorem PF.two {N m : Nat} {ps : PS} (h : PF N m ps) (hN : N < 20) : ∃ (v : Int) (o : Bool) (m' : Nat), flushE ps = v ∧ (flushP ps).off = o ∧ PF N m' (flushP ps) ∧ ((v = 0 ∧ o = false ∧ m' = m + 1 ∧ m < N) ∨ (v = 80 ∧ o = true ∧ m = m' ∧ ¬ m < N)) := by
  by_cases hd : m < N
  · obtain ⟨h1, h2, h3⟩ := h.go hd hN
    exact ⟨_, _, _, h1, h3, h2, .inl ⟨rfl, rfl, rfl, hd⟩⟩
  · obtain ⟨h1, h2, h3⟩ := h.stop hd
    exact ⟨_, _, _, h1, h3, h2, .inr ⟨rfl, rfl, rfl, hd⟩⟩
theorem RigO.cd {w0 wr : World} {t p q : Nat} {dd ee : Nat → Nat} {ps rs : PS} {s r : Nat → DS} (h : RigO w0 wr t p q dd ee ps rs s r) {k : Nat} (hk : k ≤ 1) : wr.cell? ⟨t, 1 + k, none⟩ = some (.pointer (some ⟨dd k, 0, none⟩)) := by
  have : k = 0 ∨ k = 1 := by omega
  rcases this with rfl | rfl
  · exact h.cd0
  · exact h.cd1

theorem RigO.write4 {w0 wa wr : World} {t p q : Nat} {dd ee : Nat → Nat} {ps rs : PS} {s r : Nat → DS} {j : Nat} (h : RigO w0 wa t p q dd ee ps rs s r) {k : Nat} (hk : k ≤ 1) (hD : ∀ i, i < 2 → D4 j (s i)) (hj : j < 1000) (x : Nat) (hx : x ≤ 3) (c : UInt8) (b : Below wa.heap.size wa wr) {v : Value}
    (hv : wr.ownsRow wa.heap.size 5 1 v (fillB c (fillN 0)).size (octV (fillB c (fillN 0)))) :
    Calls Try.prog 11 #[.pointer (some ⟨dd k, 0, none⟩), .int .i64 (x : Int), v] wr fun e w' => e = .returned (.int .i64 (flushE ps)) ∧ ∃ s2, RigO w0 w' t p q dd ee (flushP ps) rs s2 r ∧ ∀ i, i < 2 → D4 (j + 1) (s2 i) := by
  have hc : (fillB c (fillN 0)).size = 64 := fillB_size c 64
  have dk := hD k (by omega)
  obtain ⟨w1, w2, w3⟩ := dk.write ps (x := (x : Int)) (by omega) (by omega) (fillB c (fillN 0)) hc
  refine (h.write (by omega) b (x : Int) hv (by rw [hc]; decide) (by have := dk.2.2; omega)).mono fun e w' ⟨he, hr⟩ => ⟨by rw [he, w1], _, by rw [w2] at hr; exact hr, fun i hi => ?_⟩
  by_cases e : i = k
  · subst e; simp only [if_true]; exact w3
  · simp only [if_neg e]
    have d := hD i hi
    exact ⟨d.1, d.2.1, by have := d.2.2; omega⟩
theorem D4.flushes {j k : Nat} {s : Nat → DS} (h : ∀ i, i < 2 → D4 j (s i)) (ps : PS) : ∀ i, i < 2 → D4 j (if i = k then flushS (s k) ps else s i) := fun i hi => by
  by_cases e : i = k
  · subst e; simp only [if_true]; exact (h i hi).flush ps
  · simp only [if_neg e]; exact h i hi

theorem FuS.begin {w0 wr : World} {t p q : Nat} {dd ee : Nat → Nat} {ps : PS} (N : Nat) (h : RigO w0 wr t p q dd ee ps newP (fun k => newD (if k = 0 then 4 else 4)) (fun k => newD (if k = 0 then 4 else 4))) (hp : ps = ⟨false, (N : Int), 0⟩) : FuS w0 wr t p q dd ee N 0 0 :=
  ⟨ps, _, h, by subst hp; exact ⟨rfl, by show (N : Int) = N - ((0 : Nat) : Int); omega, fun (h : false = true) => absurd h (by decide), Nat.zero_le _⟩, fun k hk => by
    have : k = 0 ∨ k = 1 := by omega
    rcases this with rfl | rfl <;> exact ⟨rfl, rfl, Nat.le_refl _⟩⟩

set_option maxRecDepth 100000 in
set_option maxHeartbeats 4000000 in
theorem devFuses_walk (n : Int) (a : Option Addr) (len cap : Nat) (X : Nat → ActV) (w : World) (n0 : 0 ≤ n) (n1 : n ≤ 255) (ha : Act8 w a len X) (hl : len ≤ cap) (hcm : cap ≤ 9223372036854775807) :
    Calls Try.prog 3 #[.int .u8 n, .slice a len cap] w fun e w' => e = .returned (.bool true) ∧ Below w.heap.size w w' := by
  have BG := Lib.hid (law_begin w 4 4 (by omega) (by omega))
  have HA := Lib.hid ha
  have HL := Lib.hid (show len ≤ 9223372036854775807 by omega)
  clear ha hl hcm
  go_enter Try.func3, Try.ntmps3
  go_wp2_with fail
  refine BG.out.mono ?_
  rintro e w1 ⟨t, p, q, dd, ee, rfl, R1⟩
  have HR1 := Lib.hid R1
  have c0 := R1.c0
  obtain ⟨N, hN⟩ : ∃ N : Nat, n % 20 = (N : Int) := ⟨(n % 20).toNat, by omega⟩
  have hN1 : (N : Int) < 20 := by omega
  have hN0 : N < 20 := by omega
  have hr : n.tmod 20 = (N : Int) := by rw [Int.tmod_eq_emod_of_nonneg n0]; exact hN
  have FS := Lib.hid (pow_fuse R1.pw (N : Int) (by omega) (by omega))
  have HN := Lib.hid hN0
  clear R1 BG hN
  go_wp2_with fail
  refine FS.out.mono ?_
  rintro e w2 ⟨rfl, hp2, k2, z2⟩
  have e1 : fuseE newP (N : Int) = 0 := by unfold fuseE; rw [if_neg (by decide), if_neg (by omega)]
  have e2 : fuseP newP (N : Int) = ⟨false, (N : Int), 0⟩ := by unfold fuseP; rw [if_neg (by decide), if_neg (by omega)]; rfl
  have F2 := Lib.hid (FuS.begin N (HR1.out.power hp2 k2) e2)
  rw [e1]
  clear hp2 k2 z2 e1 e2 HR1 FS c0
  go_wp2_with fail
  go_loopw [7, 8, 9, 10] (fun d i _ _ wr => ∃ j m : Nat, j ≤ len ∧ j ≤ 40 ∧ d = .int .i64 (m : Int) ∧ i = .int .i64 (j : Int) ∧ FuS w wr t p q dd ee N m j) (fun _ i _ _ _ => len - (intOf i).toNat)
  case atStart => exact ⟨0, 0, Nat.zero_le _, Nat.zero_le _, rfl, rfl, F2.out⟩
  case round =>
    obtain ⟨j, m, hj, hj40, rfl, rfl, ps, s, R, P, D⟩ := hrel
    have HR := Lib.hid R
    have HP := Lib.hid P
    have HD := Lib.hid D
    by_cases h1 : (j : Int) < (len : Int)
    · by_cases h2 : (j : Int) < 40
      · obtain ⟨b, off, rfl, hc⟩ := HA.out.2 (by omega)
        have ok := HA.out.1 j (by omega)
        have q1 := (Keeps.of_below R.old).old (hc j (by omega) 1 (by omega))
        have q2 := hc j (by omega) 2 (by omega)
        have q8 := hc j (by omega) 8 (by omega)
        have HJ := Lib.hid (show j < 40 by omega)
        obtain ⟨k, hk, ek⟩ := and_i64 (X j).ofw 1 (by omega)
        obtain ⟨x, hx, ex⟩ := and_i64 (X j).at_ 3 (by omega)
        obtain ⟨c, hcf⟩ := oct_of (bounds_u8 ok.fill).1 (bounds_u8 ok.fill).2
        obtain ⟨v, o, m', ev, eo, P', hv⟩ := P.two HN.out
        have cd := R.cd hk
        have c0 := R.c0
        have FL := Lib.hid (R.flush (k := k) (by omega))
        rw [ev] at FL
        have DK := Lib.hid (D k (by omega))
        have EO := Lib.hid eo
        have HP' := Lib.hid P'
        have HKI := Lib.hid hk
        have hkI : (k : Int) < 2 := by omega
        simp only [actF] at q1 q2 q8
        rw [← hcf] at q8
        generalize (X j).ofw = z at *
        generalize (X j).at_ = y at *
        have QA := Lib.hid q2
        have QF := Lib.hid q8
        have HX := Lib.hid hx
        clear R P D hc P' ev eo ok hcf hk q2 q8 hx
        have ek : bits .and .i64 z 1 = (k : Int) := ek
        have ex : bits .and .i64 y 3 = (x : Int) := ex
        go_wp2_with fail
        refine FL.out.mono ?_
        rintro e w3 ⟨rfl, R3⟩
        have DS3 := Lib.hid (D4.flushes (k := k) HD.out ps)
        have SF := Lib.hid (fun W ps2 s2 (R : RigO w W t p q dd ee ps2 newP s2 (fun k => newD (if k = 0 then 4 else 4))) => And.intro (R.cd HKI.out) (And.intro ((Keeps.of_below R.old).old QA.out) ((Keeps.of_below R.old).old QF.out)))
        rcases hv with ⟨rfl, rfl, rfl, g1⟩ | ⟨rfl, rfl, rfl, g1⟩
        · have g2 : (m : Int) < (N : Int) := by omega
          have HG := Lib.hid g1
          have c3 := R3.c0
          have DW := Lib.hid (pow_down R3.pw)
          rw [EO.out] at DW
          have R3d := R3.below (Below.refl w3.heap.size w3).drew
          obtain ⟨v2, o2, m2, ev2, eo2, P2, hv2⟩ := HP'.out.two HN.out
          have WR := Lib.hid (fun w4 v b hv => R3d.write4 (wr := w4) (v := v) HKI.out DS3.out (by have := HJ.out; omega) x HX.out c b hv)
          rw [ev2] at WR
          obtain ⟨y1, y2, y3⟩ := SF.out _ _ _ R3d
          have FA := Lib.hid (fill_any w3.drew c 0)
          have HR3 := Lib.hid R3
          have EO2 := Lib.hid eo2
          have HP2 := Lib.hid P2
          clear R3 R3d g1 P2 eo2 ev2
          go_wp2_with fail
          refine DW.out.mono ?_
          rintro e _ ⟨rfl, rfl⟩
          go_wp2_with fail
          go_region_held_law (fun W => W.cell? ⟨t, 1 + k, none⟩ = some (.pointer (some ⟨dd k, 0, none⟩)) ∧ W.cell? ⟨b, off + j * 11 + 2, none⟩ = some (.int .i64 y) ∧ W.cell? ⟨b, off + j * 11 + 8, none⟩ = some (.int .u8 (c.toNat : Int))) (first | exact ⟨y1, y2, y3⟩ | exact ⟨y4, y5, y6⟩ | exact ⟨y7, y8, y9⟩)
            (first
              | (go_at_call 12; (with_reducible refine FA.out.mono ?_); rintro e w4 ⟨v4, rfl, hv4, b4⟩; have WR4 := Lib.hid (WR.out w4 v4 b4 hv4); obtain ⟨y4, y5, y6⟩ := SF.out _ _ _ ((HR3.out.below (Below.refl w3.heap.size w3).drew).below b4))
              | (go_at_call 11; (with_reducible refine WR4.out.mono ?_); rintro e w5 ⟨rfl, s5, R5, D5⟩; obtain ⟨y7, y8, y9⟩ := SF.out _ _ _ R5))
          have HR5 := Lib.hid R5
          have HD5 := Lib.hid D5
          have c5 := R5.c0
          have DW := Lib.hid (pow_down R5.pw)
          rw [EO2.out] at DW
          have HJL := Lib.hid (show j + 1 ≤ len by omega)
          clear R5 D5 y4 y5 y6 y7 y8 y9
          rcases hv2 with ⟨rfl, rfl, rfl, g3⟩ | ⟨rfl, rfl, rfl, g3⟩
          · have g4 : (m : Int) + 1 < (N : Int) := by omega
            clear g3
            go_wp2_with fail
            refine DW.out.mono ?_
            rintro e _ ⟨rfl, rfl⟩
            go_wp2_with fail
            go_roundw
            case rel => exact ⟨j + 1, _, HJL.out, HJ.out, by simp, by simp, _, _, HR5.out, HP2.out, HD5.out⟩
            case measure => have := HJL.out; simp only [intOf]; omega
          · have g4 : ¬ (m : Int) + 1 < (N : Int) := by omega
            clear g3
            go_wp2_with fail
            refine DW.out.mono ?_
            rintro e _ ⟨rfl, rfl⟩
            go_wp2_with fail
            go_roundw
            case rel => exact ⟨j + 1, _, HJL.out, HJ.out, by simp, by simp, _, _, HR5.out, HP2.out, HD5.out⟩
            case measure => have := HJL.out; simp only [intOf]; omega
        · have g2 : ¬ (m : Int) < (N : Int) := by omega
          have HG := Lib.hid g1
          have c3 := R3.c0
          have DW := Lib.hid (pow_down R3.pw)
          rw [EO.out] at DW
          have R3d := R3.below (Below.refl w3.heap.size w3).drew
          obtain ⟨v2, o2, m2, ev2, eo2, P2, hv2⟩ := HP'.out.two HN.out
          have WR := Lib.hid (fun w4 v b hv => R3d.write4 (wr := w4) (v := v) HKI.out DS3.out (by have := HJ.out; omega) x HX.out c b hv)
          rw [ev2] at WR
          obtain ⟨y1, y2, y3⟩ := SF.out _ _ _ R3d
          have FA := Lib.hid (fill_any w3.drew c 0)
          have HR3 := Lib.hid R3
          have EO2 := Lib.hid eo2
          have HP2 := Lib.hid P2
          clear R3 R3d g1 P2 eo2 ev2
          go_wp2_with fail
          refine DW.out.mono ?_
          rintro e _ ⟨rfl, rfl⟩
          go_wp2_with fail
          go_region_held_law (fun W => W.cell? ⟨t, 1 + k, none⟩ = some (.pointer (some ⟨dd k, 0, none⟩)) ∧ W.cell? ⟨b, off + j * 11 + 2, none⟩ = some (.int .i64 y) ∧ W.cell? ⟨b, off + j * 11 + 8, none⟩ = some (.int .u8 (c.toNat : Int))) (first | exact ⟨y1, y2, y3⟩ | exact ⟨y4, y5, y6⟩ | exact ⟨y7, y8, y9⟩)
            (first
              | (go_at_call 12; (with_reducible refine FA.out.mono ?_); rintro e w4 ⟨v4, rfl, hv4, b4⟩; have WR4 := Lib.hid (WR.out w4 v4 b4 hv4); obtain ⟨y4, y5, y6⟩ := SF.out _ _ _ ((HR3.out.below (Below.refl w3.heap.size w3).drew).below b4))
              | (go_at_call 11; (with_reducible refine WR4.out.mono ?_); rintro e w5 ⟨rfl, s5, R5, D5⟩; obtain ⟨y7, y8, y9⟩ := SF.out _ _ _ R5))
          have HR5 := Lib.hid R5
          have HD5 := Lib.hid D5
          have c5 := R5.c0
          have DW := Lib.hid (pow_down R5.pw)
          rw [EO2.out] at DW
          have HJL := Lib.hid (show j + 1 ≤ len by omega)
          clear R5 D5 y4 y5 y6 y7 y8 y9
          rcases hv2 with ⟨rfl, rfl, rfl, g3⟩ | ⟨rfl, rfl, rfl, g3⟩
          · exact absurd g3 HG.out
          · have g4 : ¬ (m : Int) < (N : Int) := by omega
            clear g3
            go_wp2_with fail
            refine DW.out.mono ?_
            rintro e _ ⟨rfl, rfl⟩
            go_wp2_with fail
            go_roundw
            case rel => exact ⟨j + 1, _, HJL.out, HJ.out, by simp, by simp, _, _, HR5.out, HP2.out, HD5.out⟩
            case measure => have := HJL.out; simp only [intOf]; omega
      · clear HA
        have c0 := R.c0
        have DN := Lib.hid (pow_done R.pw)
        rw [P.done] at DN
        have AW := Lib.hid (law_awake wr)
        have OL := Lib.hid R.old
        clear R P D
        go_wp2_with fail
        refine DN.out.mono ?_
        rintro e _ ⟨rfl, rfl⟩
        go_wp2_with fail
        refine AW.out.mono ?_
        rintro e w9 ⟨rfl, b9⟩
        have OL := Lib.hid (OL.out.trans (b9.mono OL.out.size))
        clear b9
        go_wp2_with fail
        go_ret
        exact ⟨rfl, OL.out⟩
    · clear HA
      have c0 := R.c0
      have DN := Lib.hid (pow_done R.pw)
      rw [P.done] at DN
      have AW := Lib.hid (law_awake wr)
      have OL := Lib.hid R.old
      clear R P D
      go_wp2_with fail
      refine DN.out.mono ?_
      rintro e _ ⟨rfl, rfl⟩
      go_wp2_with fail
      refine AW.out.mono ?_
      rintro e w9 ⟨rfl, b9⟩
      have OL := Lib.hid (OL.out.trans (b9.mono OL.out.size))
      clear b9
      go_wp2_with fail
      go_ret
      exact ⟨rfl, OL.out⟩

end Go.Proofs.Ytlfeglnacphhlaa
