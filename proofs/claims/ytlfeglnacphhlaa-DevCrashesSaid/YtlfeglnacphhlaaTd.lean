/- Two.do: each act turns the devices and the document's alike. -/
import Derived.Test.YtlfeglnacphhlaaTc
import Derived.OpenShut
import Derived.Deep.DeepCutAuto
namespace Go.Proofs.Ytlfeglnacphhlaa
open Go.RowKit Go.Maps
set_option linter.unusedVariables false

/-- What an act leaves. -/
def DoP (w0 : World) (e : Ending) (w' : World) (t : Nat) (s : Nat → DS) : Prop := ∃ p q dd ee ps s', e = .returned (.bool true) ∧ RigO w0 w' t p q dd ee ps ps s' s' ∧ ∀ k, k < 2 → (s' k).lim ≤ (s k).lim + 1

def argA (x : ActV) : Value := .agg #[.int .i64 x.kind, .int .i64 x.ofw, .int .i64 x.at_, .int .i64 x.n, .int .i64 x.bit, .int .u32 x.turn, .int .u64 x.a, .int .u64 x.b, .int .u8 x.fill, .int .i64 x.size, x.fv]

theorem tmod2 (z : Int) : -1 ≤ z.tmod 2 ∧ z.tmod 2 ≤ 1 := by
  have := Int.natAbs_tmod z 2
  have h2 : (2 : Int).natAbs = 2 := rfl
  rw [h2] at this
  omega

/-- The document's blocks lie below z1. -/
def RigB (z1 : Nat) (w0 w : World) (T : Nat) (x : ActV) (t p q : Nat) (dd ee : Nat → Nat) (ps rs : PS) (s r : Nat → DS) : Prop :=
  ∃ A B, Rig w0.heap.size w t p q dd ee A B ps rs s r ∧ Below w0.heap.size w0 w ∧ Arr w T 40 11 (actF x) ∧ (∀ k, k < 2 → ¬ A k T ∧ ¬ B k T) ∧ T ≠ t ∧ T ≠ p ∧ T ≠ q ∧ (∀ k, k < 2 → ∀ j, B k j → j < z1) ∧ q < z1

section
variable {w0 wa w w' : World} {T z1 : Nat} {x : ActV} {t p q : Nat} {dd ee : Nat → Nat} {ps rs ps' rs' : PS} {s r : Nat → DS}

theorem RigB.rig (h : RigB z1 w0 w T x t p q dd ee ps rs s r) : RigT w0 w T x t p q dd ee ps rs s r := by
  obtain ⟨A, B, h1, h2, h3, h4, h5, h6, h7, _⟩ := h
  exact ⟨A, B, h1, h2, h3, h4, h5, h6, h7⟩

theorem RigT.readB (h : RigT w0 w T x t p q dd ee ps rs s r) {k : Nat} (hk : k < 2) (n : Int) :
    Calls Try.prog 27 #[.pointer (some ⟨dd k, 0, none⟩), .int .i64 n] w fun e w' => (∃ v, e = .returned (.tuple #[v, .int .i64 (readE (s k) ps n)]) ∧ RdB w' v (readC (s k) ps n) ∧ ∀ g, v.ownBlock = some g → w.heap.size ≤ g) ∧ RigB w.heap.size w0 w' T x t p q dd ee ps rs (upd s k (readD (s k) ps n)) r := by
  obtain ⟨A, B, hr, hb0, hT, n1, n2, n3, n4⟩ := h
  refine (dv_read (hr.dv k hk) (hr.oa k hk) hr.pw n).mono fun e w' ⟨v, he, hv, hd, kp0⟩ => ?_
  have kp : Keeps (fun j => A k j ∨ j = p) w w' := kp0.mono (fun _ _ y => .inl y)
  refine ⟨⟨v, he, RdB.of_row hv, fun g e => (hv.lt g e).1⟩, _, B, hr.dev hk hd (hr.pw.keep kp0 (hr.ta k hk).2.1) kp, ?_, hT.keep kp (fun y => y.elim (n1 k hk).1 n3), fun i hi => ⟨?_, (n1 i hi).2⟩, n2, n3, n4, fun i hi j x => hr.ob i hi j x, hr.rp.lt⟩
  · exact hb0.trans (Keeps.below (kp.mono (T := fun j => w0.heap.size ≤ j) (fun n _ x => x.elim (hr.za k hk n) (fun e => e ▸ hr.zt.2.1))) hr.size)
  · by_cases e : i = k
    · simp only [if_pos e]
      exact fun y => y.elim (n1 k hk).1 (fun z => by have := hT.lt; omega)
    · simp only [if_neg e]
      exact (n1 i hi).1

theorem RigB.rread (h : RigB z1 w0 w T x t p q dd ee ps rs s r) {k : Nat} (hk : k < 2) (n : Int) (hl : (r k).lim ≤ 1000000) {v : Value} {c : ByteArray} (hv : RdB w v c) (hg : ∀ g, v.ownBlock = some g → z1 ≤ g) :
    Calls Try.prog 38 #[.pointer (some ⟨ee k, 0, none⟩), .int .i64 n] w fun e w' => (e = .returned (.tuple #[.string (readC (r k) rs n), .int .i64 (readE (r k) rs n)]) ∧ RdB w' v c) ∧ RigT w0 w' T x t p q dd ee ps rs s (upd r k (readD (r k) rs n)) := by
  obtain ⟨A, B, hr, hb, hT, n1, n2, n3, n4, m1, m2⟩ := h
  refine (rv_read (hr.rv k hk) hr.rp n hl).mono fun e w' ⟨he, hd, kp0⟩ => ?_
  have kp : Keeps (fun j => B k j ∨ j = q) w w' := kp0.mono (fun _ _ y => .inl y)
  refine ⟨⟨he, hv.keep kp0 (fun g e y => by have := hg g e; have := m1 k hk g y; omega)⟩, A, _, hr.ref hk hd (hr.rp.keep kp0 (hr.tb k hk).2.2) kp, ?_, hT.keep kp (fun y => y.elim (n1 k hk).2 n4), fun i hi => ⟨(n1 i hi).1, ?_⟩, n2, n3, n4⟩
  · exact hb.trans (Keeps.below (kp.mono (T := fun j => w0.heap.size ≤ j) (fun n _ x => x.elim (hr.zb k hk n) (fun e => e ▸ hr.zt.2.2))) hr.size)
  · by_cases e : i = k
    · simp only [if_pos e]
      exact fun y => y.elim (n1 k hk).2 (fun z => by have := hT.lt; omega)
    · simp only [if_neg e]
      exact (n1 i hi).2

theorem RigT.dcrash (h : RigT w0 w T x t p q dd ee ps rs s r) {k : Nat} (hk : k < 2) {pn : Nat} {pp : PS} (hp : Pow w pn pp) (hl : (s k).lim ≤ 1000000) (hv : RdZ w0 x.fv x.fs) (hfm : x.fs.length ≤ 9223372036854775807) :
    Calls Try.prog 16 #[.pointer (some ⟨dd k, 0, none⟩), .pointer (some ⟨pn, 0, none⟩), x.fv] w fun e w' => (∃ d, e = .returned (.tuple #[d, .int .i64 (crashE (s k) x.fs)]) ∧ ((crashE (s k) x.fs = 0 ∧ ∃ y, d = .pointer (some ⟨y, 0, none⟩)) ∨ (crashE (s k) x.fs ≠ 0 ∧ d = .pointer none))) ∧ RigT w0 w' T x t p q dd ee ps rs s r := by
  have hb := h.rig.old
  have hh := h
  obtain ⟨A, B, hr, _⟩ := h
  refine (dv_crash (hr.dv k hk) (hr.oa k hk) hp hl (hv.old hb) hfm).mono fun e w' ⟨b, hc⟩ => ⟨?_, hh.below b⟩
  rcases hc with ⟨h0, y, rfl, _⟩ | ⟨h0, rfl⟩
  · exact ⟨_, by rw [h0], .inl ⟨h0, y, rfl⟩⟩
  · exact ⟨_, rfl, .inr ⟨h0, rfl⟩⟩
theorem RigT.rcrash (h : RigT w0 w T x t p q dd ee ps rs s r) {k : Nat} (hk : k < 2) (q' : Nat) (hl : (r k).lim ≤ 1000000) (hv : RdZ w0 x.fv x.fs) (hfm : x.fs.length ≤ 9223372036854775807) :
    Calls Try.prog 44 #[.pointer (some ⟨ee k, 0, none⟩), .pointer (some ⟨q', 0, none⟩), x.fv] w fun e w' => (∃ d, e = .returned (.tuple #[d, .int .i64 (crashE (r k) x.fs)])) ∧ RigT w0 w' T x t p q dd ee ps rs s r := by
  have hb := h.rig.old
  have hh := h
  obtain ⟨A, B, hr, _⟩ := h
  refine (rv_crash (hr.rv k hk) (hr.ob k hk) q' hl (hv.old hb) hfm).mono fun e w' ⟨b, hc⟩ => ⟨?_, hh.below b⟩
  rcases hc with ⟨h0, y, rfl, _⟩ | ⟨h0, rfl⟩
  · exact ⟨_, by rw [h0]⟩
  · exact ⟨_, rfl⟩

theorem RigT.drewN (h : RigT w0 w T x t p q dd ee ps rs s r) (n : Nat) : RigT w0 (w.drewN n) T x t p q dd ee ps rs s r := h.below (below_drewN (Below.refl _ _) n)

theorem RigT.cd (h : RigT w0 w T x t p q dd ee ps rs s r) {k : Nat} (hk : k < 2) : w.cell? ⟨t, 1 + k, none⟩ = some (.pointer (some ⟨dd k, 0, none⟩)) := by
  rw [h.top (1 + k) (by omega)]
  have : k = 0 ∨ k = 1 := by omega
  rcases this with rfl | rfl <;> rfl
theorem RigT.ce (h : RigT w0 w T x t p q dd ee ps rs s r) {k : Nat} (hk : k < 2) : w.cell? ⟨t, 4 + k, none⟩ = some (.pointer (some ⟨ee k, 0, none⟩)) := by
  rw [h.top (4 + k) (by omega)]
  have : k = 0 ∨ k = 1 := by omega
  rcases this with rfl | rfl <;> rfl

theorem upd_upd {α : Type} (f : Nat → α) (k : Nat) (u v : α) : upd (upd f k u) k v = upd f k v := by
  funext i; unfold upd; by_cases e : i = k <;> simp [e]

theorem lim_upd {s : Nat → DS} {k : Nat} {v : DS} (h : v.lim ≤ (s k).lim + 1) : ∀ i, i < 2 → (upd s k v i).lim ≤ (s i).lim + 1 := fun i _ => by
  unfold upd; by_cases e : i = k
  · rw [if_pos e, e]; exact h
  · rw [if_neg e]; omega
theorem lim_read (s : DS) (ps : PS) (n : Int) : (readD s ps n).lim ≤ s.lim + 1 := by
  unfold readD; split
  · omega
  · split
    · show s.lim ≤ _; omega
    · omega
theorem lim_write (s : DS) (ps : PS) (n : Int) (c : ByteArray) : (writeD s ps n c).lim ≤ s.lim + 1 := by
  unfold writeD pushD; (repeat' split) <;> simp
theorem lim_flush (s : DS) (ps : PS) : (flushS s ps).lim ≤ s.lim + 1 := by
  unfold flushS flushD; (repeat' split) <;> simp
theorem lim_rot (s : DS) (n b : Int) (t : Nat) : (rotS s n b t).lim ≤ s.lim + 1 := by
  unfold rotS rotD; split <;> simp
end

section
variable {w0 w : World} {x : ActV} {t p q : Nat} {dd ee : Nat → Nat} {ps : PS} {s : Nat → DS}


set_option maxRecDepth 100000 in
set_option maxHeartbeats 4000000 in
theorem do_0 (h : RigO w0 w t p q dd ee ps ps s s) (ok : ActOk w0 x) (hl : ∀ k, k < 2 → (s k).lim < 1000000) (hK : x.kind = 0) :
    Calls Try.prog 15 #[.pointer (some ⟨t, 0, none⟩), argA x] w fun e w' => DoP w0 e w' t s := by
  have ba := (Below.refl w.heap.size w).alloc (Nat.le_refl _) (.cells #[.int .i64 x.kind, .int .i64 x.ofw, .int .i64 x.at_, .int .i64 x.n, .int .i64 x.bit, .int .u32 x.turn, .int .u64 x.a, .int .u64 x.b, .int .u8 x.fill, .int .i64 x.size, x.fv] 40)
  have aa : Arr (w.alloc (.cells #[.int .i64 x.kind, .int .i64 x.ofw, .int .i64 x.at_, .int .i64 x.n, .int .i64 x.bit, .int .u32 x.turn, .int .u64 x.a, .int .u64 x.b, .int .u8 x.fill, .int .i64 x.size, x.fv] 40)) w.heap.size 40 11 (actF x) := ⟨_, heap_at _ _ _ rfl, rfl, fun i hi => by
    have : i = 0 ∨ i = 1 ∨ i = 2 ∨ i = 3 ∨ i = 4 ∨ i = 5 ∨ i = 6 ∨ i = 7 ∨ i = 8 ∨ i = 9 ∨ i = 10 := by omega
    rcases this with rfl | rfl | rfl | rfl | rfl | rfl | rfl | rfl | rfl | rfl | rfl <;> rfl⟩
  have R := RigT.of (x := x) h ba aa (Nat.le_refl _)
  have cK := R.act 0 (by omega)
  have cz := R.act 1 (by omega)
  have cy := R.act 2 (by omega)
  simp only [actF] at cK cz cy
  clear ba aa
  unfold argA
  rw [hK] at cK cz cy R ⊢
  replace R := Lib.hid R
  have OK := Lib.hid ok
  have HL := Lib.hid hl
  obtain ⟨r, hr⟩ : ∃ r, x.ofw.tmod 2 = r := ⟨_, rfl⟩
  have HRB : -1 ≤ r ∧ r ≤ 1 := by have := tmod2 x.ofw; rw [hr] at this; exact this
  obtain ⟨hr1, hr2⟩ := HRB
  obtain ⟨ob1, ob2⟩ := bounds_i64 ok.ofw
  clear h ok hl
  generalize hy : x.at_ = y at *
  generalize hz : x.ofw = z at *
  have HY := Lib.hid (And.intro hy hz)
  clear hy hz
  go_enter Try.func15, Try.ntmps15
  go_upto_if 21 with fail
  generalize w.alloc (.cells #[.int .i64 0, .int .i64 z, .int .i64 y, .int .i64 x.n, .int .i64 x.bit, .int .u32 x.turn, .int .u64 x.a, .int .u64 x.b, .int .u8 x.fill, .int .i64 x.size, x.fv] 40) = w1 at *
  generalize w.heap.size = T at *
  go_cut [5] (fun u wx => ∃ k : Nat, k < 2 ∧ u = .int .i64 (k : Int) ∧ wx = w1)
  case first =>
    by_cases h1 : r < 0
    · go_wp2_with fail
      go_meet
      exact ⟨1, by omega, rfl, rfl⟩
    · obtain ⟨k, rfl⟩ : ∃ k : Nat, r = (k : Int) := ⟨r.toNat, by omega⟩
      go_wp2_with fail
      go_meet
      exact ⟨k, by omega, rfl, rfl⟩
  case rest =>
    obtain ⟨k, hk, rfl, rfl⟩ := hcut
    have HK := Lib.hid hk
    have k2 : (k : Int) < 2 := by omega
    have cd := R.out.cd hk
    have ce := R.out.ce hk
    clear hk hr hr1 hr2 ob1 ob2 cz
    go_wp2_with fail
    go_quiet (fail)
    have RD := Lib.hid (fun n => (R.out.drewN n).readB HK.out y)
    clear cd ce
    go_wp2_with fail
    refine (RD.out _).mono ?_
    rintro e w2 ⟨⟨v, rfl, hv, hg⟩, R2⟩
    have RR := Lib.hid (R2.rread HK.out y (Nat.le_of_lt (HL.out k HK.out)) hv hg)
    have c2 : w2.cell? ⟨T, 2, none⟩ = some (.int .i64 y) := by rw [← HY.out.1]; exact R2.rig.act 2 (by omega)
    clear hv hg R2 RD cK cy
    go_wp2_with fail
    refine RR.out.mono ?_
    rintro e w3 ⟨⟨rfl, hv3⟩, R3⟩
    have cv := hv3.str
    have R3 := Lib.hid R3
    clear hv3 RR c2
    generalize readE (s k) ps y = v1 at *
    generalize readC (s k) ps y = c1 at *
    go_wp2
    go_ret
    exact ⟨_, _, _, _, _, _, rfl, R3.out.rig, lim_upd (lim_read _ _ _)⟩


set_option maxRecDepth 100000 in
set_option maxHeartbeats 4000000 in
theorem do_1 (h : RigO w0 w t p q dd ee ps ps s s) (ok : ActOk w0 x) (hl : ∀ k, k < 2 → (s k).lim < 1000000) (hK : x.kind = 1) :
    Calls Try.prog 15 #[.pointer (some ⟨t, 0, none⟩), argA x] w fun e w' => DoP w0 e w' t s := by
  have ba := (Below.refl w.heap.size w).alloc (Nat.le_refl _) (.cells #[.int .i64 x.kind, .int .i64 x.ofw, .int .i64 x.at_, .int .i64 x.n, .int .i64 x.bit, .int .u32 x.turn, .int .u64 x.a, .int .u64 x.b, .int .u8 x.fill, .int .i64 x.size, x.fv] 40)
  have aa : Arr (w.alloc (.cells #[.int .i64 x.kind, .int .i64 x.ofw, .int .i64 x.at_, .int .i64 x.n, .int .i64 x.bit, .int .u32 x.turn, .int .u64 x.a, .int .u64 x.b, .int .u8 x.fill, .int .i64 x.size, x.fv] 40)) w.heap.size 40 11 (actF x) := ⟨_, heap_at _ _ _ rfl, rfl, fun i hi => by
    have : i = 0 ∨ i = 1 ∨ i = 2 ∨ i = 3 ∨ i = 4 ∨ i = 5 ∨ i = 6 ∨ i = 7 ∨ i = 8 ∨ i = 9 ∨ i = 10 := by omega
    rcases this with rfl | rfl | rfl | rfl | rfl | rfl | rfl | rfl | rfl | rfl | rfl <;> rfl⟩
  have R := RigT.of (x := x) h ba aa (Nat.le_refl _)
  have cK := R.act 0 (by omega)
  have cz := R.act 1 (by omega)
  have cy := R.act 2 (by omega)
  simp only [actF] at cK cz cy
  clear ba aa
  unfold argA
  rw [hK] at cK cz cy R ⊢
  replace R := Lib.hid R
  have OK := Lib.hid ok
  have HL := Lib.hid hl
  obtain ⟨r, hr⟩ : ∃ r, x.ofw.tmod 2 = r := ⟨_, rfl⟩
  have HRB : -1 ≤ r ∧ r ≤ 1 := by have := tmod2 x.ofw; rw [hr] at this; exact this
  obtain ⟨hr1, hr2⟩ := HRB
  obtain ⟨ob1, ob2⟩ := bounds_i64 ok.ofw
  obtain ⟨c, hcf⟩ := oct_of (bounds_u8 ok.fill).1 (bounds_u8 ok.fill).2
  have FC := Lib.hid hcf.symm
  clear hcf
  clear h ok hl
  generalize hy : x.at_ = y at *
  generalize hz : x.ofw = z at *
  have HY := Lib.hid (And.intro hy hz)
  clear hy hz
  go_enter Try.func15, Try.ntmps15
  go_upto_if 21 with fail
  generalize w.alloc (.cells #[.int .i64 1, .int .i64 z, .int .i64 y, .int .i64 x.n, .int .i64 x.bit, .int .u32 x.turn, .int .u64 x.a, .int .u64 x.b, .int .u8 x.fill, .int .i64 x.size, x.fv] 40) = w1 at *
  generalize w.heap.size = T at *
  go_cut [5] (fun u wx => ∃ k : Nat, k < 2 ∧ u = .int .i64 (k : Int) ∧ wx = w1)
  case first =>
    by_cases h1 : r < 0
    · go_wp2_with fail
      go_meet
      exact ⟨1, by omega, rfl, rfl⟩
    · obtain ⟨k, rfl⟩ : ∃ k : Nat, r = (k : Int) := ⟨r.toNat, by omega⟩
      go_wp2_with fail
      go_meet
      exact ⟨k, by omega, rfl, rfl⟩
  case rest =>
    obtain ⟨k, hk, rfl, rfl⟩ := hcut
    have HK := Lib.hid hk
    have k2 : (k : Int) < 2 := by omega
    have cd := R.out.cd hk
    have ce := R.out.ce hk
    clear hk hr hr1 hr2 ob1 ob2 cz
    go_wp2_with fail
    go_quiet (fail)
    have FA := Lib.hid (fun n => fill_any (wc.drewN n) c x.size)
    have cf : wc.cell? ⟨T, 8, none⟩ = some (.int .u8 x.fill) := R.out.act 8 (by omega)
    have cs : wc.cell? ⟨T, 9, none⟩ = some (.int .i64 x.size) := R.out.act 9 (by omega)
    rw [FC.out] at cf
    clear cd ce
    go_wp2_with fail
    clear cK
    refine (FA.out _).mono ?_
    rintro e w2 ⟨v, rfl, hv, b2⟩
    have CW := Lib.hid ((R.out.drewN _).write HK.out b2.drew y hv (by rw [fillB_size]; have := fillN_le x.size; omega) (HL.out k HK.out))
    have cv2 : (convert 44 9 v).run Try.prog w2.drew = .ok (.string (fillB c (fillN x.size))) w2.drew := ((RdB.of_row hv).drewN 1).str
    have R2 := ((R.out.drewN _).below b2.drew)
    have c2 : w2.drew.cell? ⟨T, 2, none⟩ = some (.int .i64 y) := by rw [← HY.out.1]; exact R2.act 2 (by omega)
    clear hv R2 FA cy cf cs b2
    have HF := Lib.hid (fillN_le x.size)
    have HFC := Lib.hid (show (fillB c (fillN x.size)).size ≤ 9223372036854775807 by rw [fillB_size]; have := fillN_le x.size; omega)
    generalize fillB c (fillN x.size) = cc at *
    generalize hv1 : writeE (s k) ps y cc.size = v1 at *
    have HV1 := Lib.hid hv1
    clear hv1
    go_wp2_with fail
    go_region_held_law (fun W => W.cell? ⟨T, 2, none⟩ = some (.int .i64 y)) (first | exact c2 | exact c3 | exact c4)
      (first
        | (go_at_call 11; (with_reducible refine CW.out.mono ?_); rintro e w3 ⟨⟨rfl, hb3⟩, R3⟩; have c3 : w3.cell? ⟨T, 2, none⟩ = some (.int .i64 y) := (by rw [← HY.out.1]; exact R3.act 2 (by omega)); have cv3 : (convert 44 9 v).run Try.prog w3 = .ok (.string cc) w3 := hb3.str; have RR := Lib.hid (R3.rwrite HK.out y HFC.out (HL.out k HK.out)); rw [HV1.out] at RR; clear R3 hb3)
        | (go_at_call 39; (with_reducible refine RR.out.mono ?_); rintro e w4 ⟨rfl, R4⟩; have c4 : w4.cell? ⟨T, 2, none⟩ = some (.int .i64 y) := (by rw [← HY.out.1]; exact R4.act 2 (by omega))))
    all_goals
      have R4 := Lib.hid R4
      clear c3 c4 cv3 cv2 c2 RR CW
      go_wp2
      go_ret
      exact ⟨_, _, _, _, _, _, rfl, R4.out.rig, lim_upd (lim_write _ _ _ _)⟩


set_option maxRecDepth 100000 in
set_option maxHeartbeats 4000000 in
theorem do_2 (h : RigO w0 w t p q dd ee ps ps s s) (ok : ActOk w0 x) (hl : ∀ k, k < 2 → (s k).lim < 1000000) (hK : x.kind = 2) :
    Calls Try.prog 15 #[.pointer (some ⟨t, 0, none⟩), argA x] w fun e w' => DoP w0 e w' t s := by
  have ba := (Below.refl w.heap.size w).alloc (Nat.le_refl _) (.cells #[.int .i64 x.kind, .int .i64 x.ofw, .int .i64 x.at_, .int .i64 x.n, .int .i64 x.bit, .int .u32 x.turn, .int .u64 x.a, .int .u64 x.b, .int .u8 x.fill, .int .i64 x.size, x.fv] 40)
  have aa : Arr (w.alloc (.cells #[.int .i64 x.kind, .int .i64 x.ofw, .int .i64 x.at_, .int .i64 x.n, .int .i64 x.bit, .int .u32 x.turn, .int .u64 x.a, .int .u64 x.b, .int .u8 x.fill, .int .i64 x.size, x.fv] 40)) w.heap.size 40 11 (actF x) := ⟨_, heap_at _ _ _ rfl, rfl, fun i hi => by
    have : i = 0 ∨ i = 1 ∨ i = 2 ∨ i = 3 ∨ i = 4 ∨ i = 5 ∨ i = 6 ∨ i = 7 ∨ i = 8 ∨ i = 9 ∨ i = 10 := by omega
    rcases this with rfl | rfl | rfl | rfl | rfl | rfl | rfl | rfl | rfl | rfl | rfl <;> rfl⟩
  have R := RigT.of (x := x) h ba aa (Nat.le_refl _)
  have cK := R.act 0 (by omega)
  have cz := R.act 1 (by omega)
  have cy := R.act 2 (by omega)
  simp only [actF] at cK cz cy
  clear ba aa
  unfold argA
  rw [hK] at cK cz cy R ⊢
  replace R := Lib.hid R
  have OK := Lib.hid ok
  have HL := Lib.hid hl
  obtain ⟨r, hr⟩ : ∃ r, x.ofw.tmod 2 = r := ⟨_, rfl⟩
  have HRB : -1 ≤ r ∧ r ≤ 1 := by have := tmod2 x.ofw; rw [hr] at this; exact this
  obtain ⟨hr1, hr2⟩ := HRB
  obtain ⟨ob1, ob2⟩ := bounds_i64 ok.ofw
  clear h ok hl
  generalize hy : x.at_ = y at *
  generalize hz : x.ofw = z at *
  have HY := Lib.hid (And.intro hy hz)
  clear hy hz
  go_enter Try.func15, Try.ntmps15
  go_upto_if 21 with fail
  generalize w.alloc (.cells #[.int .i64 2, .int .i64 z, .int .i64 y, .int .i64 x.n, .int .i64 x.bit, .int .u32 x.turn, .int .u64 x.a, .int .u64 x.b, .int .u8 x.fill, .int .i64 x.size, x.fv] 40) = w1 at *
  generalize w.heap.size = T at *
  go_cut [5] (fun u wx => ∃ k : Nat, k < 2 ∧ u = .int .i64 (k : Int) ∧ wx = w1)
  case first =>
    by_cases h1 : r < 0
    · go_wp2_with fail
      go_meet
      exact ⟨1, by omega, rfl, rfl⟩
    · obtain ⟨k, rfl⟩ : ∃ k : Nat, r = (k : Int) := ⟨r.toNat, by omega⟩
      go_wp2_with fail
      go_meet
      exact ⟨k, by omega, rfl, rfl⟩
  case rest =>
    obtain ⟨k, hk, rfl, rfl⟩ := hcut
    have HK := Lib.hid hk
    have k2 : (k : Int) < 2 := by omega
    have cd := R.out.cd hk
    have ce := R.out.ce hk
    clear hk hr hr1 hr2 ob1 ob2 cz
    go_wp2_with fail
    go_quiet (fail)
    have FL := Lib.hid (fun n => (R.out.drewN n).flush HK.out)
    clear cd ce cy
    go_wp2_with fail
    clear cK
    refine (FL.out _).mono ?_
    rintro e w2 ⟨rfl, R2⟩
    have RF := Lib.hid (R2.rflush HK.out (Nat.le_of_lt (HL.out k HK.out)))
    clear R2 FL
    generalize flushE ps = v1 at *
    go_wp2_with fail
    refine RF.out.mono ?_
    rintro e w3 ⟨rfl, R3⟩
    have R3 := Lib.hid R3
    clear RF
    go_wp2
    go_ret
    exact ⟨_, _, _, _, _, _, rfl, R3.out.rig, lim_upd (lim_flush _ _)⟩


set_option maxRecDepth 100000 in
set_option maxHeartbeats 4000000 in
theorem do_3 (h : RigO w0 w t p q dd ee ps ps s s) (ok : ActOk w0 x) (hl : ∀ k, k < 2 → (s k).lim < 1000000) (hK : x.kind = 3) :
    Calls Try.prog 15 #[.pointer (some ⟨t, 0, none⟩), argA x] w fun e w' => DoP w0 e w' t s := by
  have ba := (Below.refl w.heap.size w).alloc (Nat.le_refl _) (.cells #[.int .i64 x.kind, .int .i64 x.ofw, .int .i64 x.at_, .int .i64 x.n, .int .i64 x.bit, .int .u32 x.turn, .int .u64 x.a, .int .u64 x.b, .int .u8 x.fill, .int .i64 x.size, x.fv] 40)
  have aa : Arr (w.alloc (.cells #[.int .i64 x.kind, .int .i64 x.ofw, .int .i64 x.at_, .int .i64 x.n, .int .i64 x.bit, .int .u32 x.turn, .int .u64 x.a, .int .u64 x.b, .int .u8 x.fill, .int .i64 x.size, x.fv] 40)) w.heap.size 40 11 (actF x) := ⟨_, heap_at _ _ _ rfl, rfl, fun i hi => by
    have : i = 0 ∨ i = 1 ∨ i = 2 ∨ i = 3 ∨ i = 4 ∨ i = 5 ∨ i = 6 ∨ i = 7 ∨ i = 8 ∨ i = 9 ∨ i = 10 := by omega
    rcases this with rfl | rfl | rfl | rfl | rfl | rfl | rfl | rfl | rfl | rfl | rfl <;> rfl⟩
  have R := RigT.of (x := x) h ba aa (Nat.le_refl _)
  have cK := R.act 0 (by omega)
  have cz := R.act 1 (by omega)
  have cy := R.act 2 (by omega)
  simp only [actF] at cK cz cy
  clear ba aa
  unfold argA
  rw [hK] at cK cz cy R ⊢
  replace R := Lib.hid R
  have OK := Lib.hid ok
  have HL := Lib.hid hl
  obtain ⟨r, hr⟩ : ∃ r, x.ofw.tmod 2 = r := ⟨_, rfl⟩
  have HRB : -1 ≤ r ∧ r ≤ 1 := by have := tmod2 x.ofw; rw [hr] at this; exact this
  obtain ⟨hr1, hr2⟩ := HRB
  obtain ⟨ob1, ob2⟩ := bounds_i64 ok.ofw
  obtain ⟨a, ha⟩ : ∃ a : Nat, x.a = (a : Int) := ⟨x.a.toNat, by have := bounds_u64 ok.a; omega⟩
  obtain ⟨b, hb⟩ : ∃ b : Nat, x.b = (b : Int) := ⟨x.b.toNat, by have := bounds_u64 ok.b; omega⟩
  have EA := Lib.hid (And.intro ha (And.intro hb (And.intro (show a < 18446744073709551616 by have := bounds_u64 ok.a; omega) (show b < 18446744073709551616 by have := bounds_u64 ok.b; omega))))
  clear ha hb
  clear h ok hl
  generalize hy : x.at_ = y at *
  generalize hz : x.ofw = z at *
  have HY := Lib.hid (And.intro hy hz)
  clear hy hz
  go_enter Try.func15, Try.ntmps15
  go_upto_if 21 with fail
  generalize w.alloc (.cells #[.int .i64 3, .int .i64 z, .int .i64 y, .int .i64 x.n, .int .i64 x.bit, .int .u32 x.turn, .int .u64 x.a, .int .u64 x.b, .int .u8 x.fill, .int .i64 x.size, x.fv] 40) = w1 at *
  generalize w.heap.size = T at *
  go_cut [5] (fun u wx => ∃ k : Nat, k < 2 ∧ u = .int .i64 (k : Int) ∧ wx = w1)
  case first =>
    by_cases h1 : r < 0
    · go_wp2_with fail
      go_meet
      exact ⟨1, by omega, rfl, rfl⟩
    · obtain ⟨k, rfl⟩ : ∃ k : Nat, r = (k : Int) := ⟨r.toNat, by omega⟩
      go_wp2_with fail
      go_meet
      exact ⟨k, by omega, rfl, rfl⟩
  case rest =>
    obtain ⟨k, hk, rfl, rfl⟩ := hcut
    have HK := Lib.hid hk
    have k2 : (k : Int) < 2 := by omega
    have cd := R.out.cd hk
    have ce := R.out.ce hk
    clear hk hr hr1 hr2 ob1 ob2 cz
    go_wp2_with fail
    go_quiet (fail)
    have ca : wc.cell? ⟨T, 6, none⟩ = some (.int .u64 x.a) := R.out.act 6 (by omega)
    have cb : wc.cell? ⟨T, 7, none⟩ = some (.int .u64 x.b) := R.out.act 7 (by omega)
    rw [EA.out.1] at ca
    rw [EA.out.2.1] at cb
    have FL := Lib.hid (fun n => (R.out.drewN n).fail HK.out a b EA.out.2.2.1 EA.out.2.2.2)
    clear cd ce cy
    go_wp2_with fail
    clear cK
    refine (FL.out _).mono ?_
    rintro e w2 ⟨rfl, R2⟩
    have R3 := R2.setRd HK.out a EA.out.2.2.1
    have R4 := Lib.hid (R3.setWr HK.out b EA.out.2.2.2)
    obtain ⟨⟨v2, e2⟩, -, f⟩ := R2.ecell HK.out
    have f2 := f 2
    obtain ⟨-, ⟨v3, e3⟩, f'⟩ := R3.ecell HK.out
    have f3 := f' 3
    have ca2 : w2.cell? ⟨T, 6, none⟩ = some (.int .u64 (a : Int)) := by rw [← EA.out.1]; exact R2.act 6 (by omega)
    have cb2 : (w2.setCell ⟨ee k, 2, none⟩ (.int .u64 (a : Int))).cell? ⟨T, 7, none⟩ = some (.int .u64 (b : Int)) := by rw [← EA.out.2.1]; exact R3.act 7 (by omega)
    clear R2 R3 FL ca cb f f'
    go_wp2
    go_ret
    have RF := R4.out.rig
    rw [upd_upd, upd_same] at RF
    exact ⟨p, q, dd, ee, ps, upd s k { s k with rd := a, wr := b }, rfl, RF, lim_upd (Nat.le_succ _)⟩


set_option maxRecDepth 100000 in
set_option maxHeartbeats 4000000 in
theorem do_4 (h : RigO w0 w t p q dd ee ps ps s s) (ok : ActOk w0 x) (hl : ∀ k, k < 2 → (s k).lim < 1000000) (hK : x.kind = 4) :
    Calls Try.prog 15 #[.pointer (some ⟨t, 0, none⟩), argA x] w fun e w' => DoP w0 e w' t s := by
  have ba := (Below.refl w.heap.size w).alloc (Nat.le_refl _) (.cells #[.int .i64 x.kind, .int .i64 x.ofw, .int .i64 x.at_, .int .i64 x.n, .int .i64 x.bit, .int .u32 x.turn, .int .u64 x.a, .int .u64 x.b, .int .u8 x.fill, .int .i64 x.size, x.fv] 40)
  have aa : Arr (w.alloc (.cells #[.int .i64 x.kind, .int .i64 x.ofw, .int .i64 x.at_, .int .i64 x.n, .int .i64 x.bit, .int .u32 x.turn, .int .u64 x.a, .int .u64 x.b, .int .u8 x.fill, .int .i64 x.size, x.fv] 40)) w.heap.size 40 11 (actF x) := ⟨_, heap_at _ _ _ rfl, rfl, fun i hi => by
    have : i = 0 ∨ i = 1 ∨ i = 2 ∨ i = 3 ∨ i = 4 ∨ i = 5 ∨ i = 6 ∨ i = 7 ∨ i = 8 ∨ i = 9 ∨ i = 10 := by omega
    rcases this with rfl | rfl | rfl | rfl | rfl | rfl | rfl | rfl | rfl | rfl | rfl <;> rfl⟩
  have R := RigT.of (x := x) h ba aa (Nat.le_refl _)
  have cK := R.act 0 (by omega)
  have cz := R.act 1 (by omega)
  have cy := R.act 2 (by omega)
  simp only [actF] at cK cz cy
  clear ba aa
  unfold argA
  rw [hK] at cK cz cy R ⊢
  replace R := Lib.hid R
  have OK := Lib.hid ok
  have HL := Lib.hid hl
  obtain ⟨r, hr⟩ : ∃ r, x.ofw.tmod 2 = r := ⟨_, rfl⟩
  have HRB : -1 ≤ r ∧ r ≤ 1 := by have := tmod2 x.ofw; rw [hr] at this; exact this
  obtain ⟨hr1, hr2⟩ := HRB
  obtain ⟨ob1, ob2⟩ := bounds_i64 ok.ofw
  obtain ⟨turn, ht⟩ : ∃ a : Nat, x.turn = (a : Int) := ⟨x.turn.toNat, by have := bounds_u32 ok.turn; omega⟩
  have ET := Lib.hid (And.intro ht (show turn < 4294967296 by have := bounds_u32 ok.turn; omega))
  clear ht
  clear h ok hl
  generalize hy : x.at_ = y at *
  generalize hz : x.ofw = z at *
  have HY := Lib.hid (And.intro hy hz)
  clear hy hz
  go_enter Try.func15, Try.ntmps15
  go_upto_if 21 with fail
  generalize w.alloc (.cells #[.int .i64 4, .int .i64 z, .int .i64 y, .int .i64 x.n, .int .i64 x.bit, .int .u32 x.turn, .int .u64 x.a, .int .u64 x.b, .int .u8 x.fill, .int .i64 x.size, x.fv] 40) = w1 at *
  generalize w.heap.size = T at *
  go_cut [5] (fun u wx => ∃ k : Nat, k < 2 ∧ u = .int .i64 (k : Int) ∧ wx = w1)
  case first =>
    by_cases h1 : r < 0
    · go_wp2_with fail
      go_meet
      exact ⟨1, by omega, rfl, rfl⟩
    · obtain ⟨k, rfl⟩ : ∃ k : Nat, r = (k : Int) := ⟨r.toNat, by omega⟩
      go_wp2_with fail
      go_meet
      exact ⟨k, by omega, rfl, rfl⟩
  case rest =>
    obtain ⟨k, hk, rfl, rfl⟩ := hcut
    have HK := Lib.hid hk
    have k2 : (k : Int) < 2 := by omega
    have cd := R.out.cd hk
    have ce := R.out.ce hk
    clear hk hr hr1 hr2 ob1 ob2 cz
    go_wp2_with fail
    go_quiet (fail)
    have cb : wc.cell? ⟨T, 4, none⟩ = some (.int .i64 x.bit) := R.out.act 4 (by omega)
    have ct : wc.cell? ⟨T, 5, none⟩ = some (.int .u32 x.turn) := R.out.act 5 (by omega)
    rw [ET.out.1] at ct
    have RO := Lib.hid (fun n => (R.out.drewN n).rot HK.out y x.bit turn ET.out.2 (Nat.le_of_lt (HL.out k HK.out)))
    have SZ := Lib.hid (R.out.size64 HK.out)
    have SF := Lib.hid (fun W ps rs s r (R : RigT w0 W T x t p q dd ee ps rs s r) => (⟨by rw [← HY.out.1]; exact R.act 2 (by omega), R.act 4 (by omega), by rw [← ET.out.1]; exact R.act 5 (by omega)⟩ : W.cell? ⟨T, 2, none⟩ = some (.int .i64 y) ∧ W.cell? ⟨T, 4, none⟩ = some (.int .i64 x.bit) ∧ W.cell? ⟨T, 5, none⟩ = some (.int .u32 (turn : Int))))
    generalize x.bit = b at *
    clear cd ce cy
    go_wp2_with fail
    clear cK
    obtain ⟨y1, y2, y3⟩ := SF.out _ _ _ _ _ (R.out.drewN nq).drew
    generalize hv1 : rotE (s k) y b turn = v1 at *
    have HV1 := Lib.hid hv1
    clear hv1 cb ct
    go_region_held_law (fun W => W.cell? ⟨T, 2, none⟩ = some (.int .i64 y) ∧ W.cell? ⟨T, 4, none⟩ = some (.int .i64 b) ∧ W.cell? ⟨T, 5, none⟩ = some (.int .u32 (turn : Int))) (first | exact ⟨y1, y2, y3⟩ | exact ⟨y4, y5, y6⟩ | exact ⟨y7, y8, y9⟩)
      (first
        | (go_at_call 28; (with_reducible refine (RO.out _).mono ?_); rintro e w3 ⟨rfl, R3⟩; obtain ⟨y4, y5, y6⟩ := SF.out _ _ _ _ _ R3; have RR := Lib.hid (R3.rrot HK.out y b turn ET.out.2 (Nat.le_of_lt (HL.out k HK.out)) SZ.out); rw [HV1.out] at RR; clear R3)
        | (go_at_call 41; (with_reducible refine RR.out.mono ?_); rintro e w4 ⟨rfl, R4⟩; obtain ⟨y7, y8, y9⟩ := SF.out _ _ _ _ _ R4))
    all_goals
      have R4 := Lib.hid R4
      clear y1 y2 y3 y4 y5 y6 y7 y8 y9 RR RO SF
      go_wp2
      go_ret
      exact ⟨_, _, _, _, _, _, rfl, R4.out.rig, lim_upd (lim_rot _ _ _ _)⟩


set_option maxRecDepth 100000 in
set_option maxHeartbeats 4000000 in
theorem do_5 (h : RigO w0 w t p q dd ee ps ps s s) (ok : ActOk w0 x) (hl : ∀ k, k < 2 → (s k).lim < 1000000) (hK : x.kind = 5) :
    Calls Try.prog 15 #[.pointer (some ⟨t, 0, none⟩), argA x] w fun e w' => DoP w0 e w' t s := by
  have ba := (Below.refl w.heap.size w).alloc (Nat.le_refl _) (.cells #[.int .i64 x.kind, .int .i64 x.ofw, .int .i64 x.at_, .int .i64 x.n, .int .i64 x.bit, .int .u32 x.turn, .int .u64 x.a, .int .u64 x.b, .int .u8 x.fill, .int .i64 x.size, x.fv] 40)
  have aa : Arr (w.alloc (.cells #[.int .i64 x.kind, .int .i64 x.ofw, .int .i64 x.at_, .int .i64 x.n, .int .i64 x.bit, .int .u32 x.turn, .int .u64 x.a, .int .u64 x.b, .int .u8 x.fill, .int .i64 x.size, x.fv] 40)) w.heap.size 40 11 (actF x) := ⟨_, heap_at _ _ _ rfl, rfl, fun i hi => by
    have : i = 0 ∨ i = 1 ∨ i = 2 ∨ i = 3 ∨ i = 4 ∨ i = 5 ∨ i = 6 ∨ i = 7 ∨ i = 8 ∨ i = 9 ∨ i = 10 := by omega
    rcases this with rfl | rfl | rfl | rfl | rfl | rfl | rfl | rfl | rfl | rfl | rfl <;> rfl⟩
  have R := RigT.of (x := x) h ba aa (Nat.le_refl _)
  have cK := R.act 0 (by omega)
  have cz := R.act 1 (by omega)
  have cy := R.act 2 (by omega)
  simp only [actF] at cK cz cy
  clear ba aa
  unfold argA
  rw [hK] at cK cz cy R ⊢
  replace R := Lib.hid R
  have OK := Lib.hid ok
  have HL := Lib.hid hl
  obtain ⟨r, hr⟩ : ∃ r, x.ofw.tmod 2 = r := ⟨_, rfl⟩
  have HRB : -1 ≤ r ∧ r ≤ 1 := by have := tmod2 x.ofw; rw [hr] at this; exact this
  obtain ⟨hr1, hr2⟩ := HRB
  obtain ⟨ob1, ob2⟩ := bounds_i64 ok.ofw
  clear h ok hl
  generalize hy : x.at_ = y at *
  generalize hz : x.ofw = z at *
  have HY := Lib.hid (And.intro hy hz)
  clear hy hz
  go_enter Try.func15, Try.ntmps15
  go_upto_if 21 with fail
  generalize w.alloc (.cells #[.int .i64 5, .int .i64 z, .int .i64 y, .int .i64 x.n, .int .i64 x.bit, .int .u32 x.turn, .int .u64 x.a, .int .u64 x.b, .int .u8 x.fill, .int .i64 x.size, x.fv] 40) = w1 at *
  generalize w.heap.size = T at *
  go_cut [5] (fun u wx => ∃ k : Nat, k < 2 ∧ u = .int .i64 (k : Int) ∧ wx = w1)
  case first =>
    by_cases h1 : r < 0
    · go_wp2_with fail
      go_meet
      exact ⟨1, by omega, rfl, rfl⟩
    · obtain ⟨k, rfl⟩ : ∃ k : Nat, r = (k : Int) := ⟨r.toNat, by omega⟩
      go_wp2_with fail
      go_meet
      exact ⟨k, by omega, rfl, rfl⟩
  case rest =>
    obtain ⟨k, hk, rfl, rfl⟩ := hcut
    have HK := Lib.hid hk
    have k2 : (k : Int) < 2 := by omega
    have cd := R.out.cd hk
    have ce := R.out.ce hk
    clear hk hr hr1 hr2 ob1 ob2 cz
    go_wp2_with fail
    go_quiet (fail)
    have cn : wc.cell? ⟨T, 3, none⟩ = some (.int .i64 x.n) := R.out.act 3 (by omega)
    have SF := Lib.hid (fun W ps rs s r (R : RigT w0 W T x t p q dd ee ps rs s r) => (⟨R.top 0 (by omega), R.top 3 (by omega), R.act 3 (by omega)⟩ : W.cell? ⟨t, 0, none⟩ = some (.pointer (some ⟨p, 0, none⟩)) ∧ W.cell? ⟨t, 3, none⟩ = some (.pointer (some ⟨q, 0, none⟩)) ∧ W.cell? ⟨T, 3, none⟩ = some (.int .i64 x.n)))
    have NB := bounds_i64 OK.out.n
    obtain ⟨nb1, nb2⟩ := NB
    generalize x.n = n at *
    have FP := Lib.hid (fun m => pow_fuse (R.out.drewN m).pw n nb1 nb2)
    have HR := Lib.hid (fun m w' (h1 : Pow w' p (fuseP ps n)) (h2 : Keeps (fun j => j = p) (wc.drewN m) w') => (R.out.drewN m).power h1 h2)
    clear cd ce cy
    go_wp2_with fail
    clear cK
    obtain ⟨y1, y2, y3⟩ := SF.out _ _ _ _ _ (R.out.drewN nq).drew
    generalize hv1 : fuseE ps n = v1 at *
    have HV1 := Lib.hid hv1
    have NB := Lib.hid (And.intro nb1 nb2)
    clear hv1 cn nb1 nb2
    go_region_held_law (fun W => W.cell? ⟨t, 0, none⟩ = some (.pointer (some ⟨p, 0, none⟩)) ∧ W.cell? ⟨t, 3, none⟩ = some (.pointer (some ⟨q, 0, none⟩)) ∧ W.cell? ⟨T, 3, none⟩ = some (.int .i64 n)) (first | exact ⟨y1, y2, y3⟩ | exact ⟨y4, y5, y6⟩ | exact ⟨y7, y8, y9⟩)
      (first
        | (go_at_call 8; (with_reducible refine (FP.out _).mono ?_); rintro e w3 ⟨rfl, h3, k3, -⟩; have R3 := HR.out _ _ h3 k3; obtain ⟨y4, y5, y6⟩ := SF.out _ _ _ _ _ R3; have RR := Lib.hid (rp_fuse R3.rp n NB.out.1 NB.out.2); rw [HV1.out] at RR; have HR3 := Lib.hid R3; clear R3 h3 k3)
        | (go_at_call 42; (with_reducible refine RR.out.mono ?_); rintro e w4 ⟨rfl, h4, k4, -⟩; have R4 := HR3.out.rpower h4 k4; obtain ⟨y7, y8, y9⟩ := SF.out _ _ _ _ _ R4))
    all_goals
      have R4 := Lib.hid R4
      clear y1 y2 y3 y4 y5 y6 y7 y8 y9 RR FP SF h4 k4
      go_wp2
      go_ret
      exact ⟨_, _, _, _, _, _, rfl, R4.out.rig, fun _ _ => Nat.le_succ _⟩


set_option maxRecDepth 100000 in
set_option maxHeartbeats 4000000 in
theorem do_6 (h : RigO w0 w t p q dd ee ps ps s s) (ok : ActOk w0 x) (hl : ∀ k, k < 2 → (s k).lim < 1000000) (hK : x.kind = 6) :
    Calls Try.prog 15 #[.pointer (some ⟨t, 0, none⟩), argA x] w fun e w' => DoP w0 e w' t s := by
  have ba := (Below.refl w.heap.size w).alloc (Nat.le_refl _) (.cells #[.int .i64 x.kind, .int .i64 x.ofw, .int .i64 x.at_, .int .i64 x.n, .int .i64 x.bit, .int .u32 x.turn, .int .u64 x.a, .int .u64 x.b, .int .u8 x.fill, .int .i64 x.size, x.fv] 40)
  have aa : Arr (w.alloc (.cells #[.int .i64 x.kind, .int .i64 x.ofw, .int .i64 x.at_, .int .i64 x.n, .int .i64 x.bit, .int .u32 x.turn, .int .u64 x.a, .int .u64 x.b, .int .u8 x.fill, .int .i64 x.size, x.fv] 40)) w.heap.size 40 11 (actF x) := ⟨_, heap_at _ _ _ rfl, rfl, fun i hi => by
    have : i = 0 ∨ i = 1 ∨ i = 2 ∨ i = 3 ∨ i = 4 ∨ i = 5 ∨ i = 6 ∨ i = 7 ∨ i = 8 ∨ i = 9 ∨ i = 10 := by omega
    rcases this with rfl | rfl | rfl | rfl | rfl | rfl | rfl | rfl | rfl | rfl | rfl <;> rfl⟩
  have R := RigT.of (x := x) h ba aa (Nat.le_refl _)
  have cK := R.act 0 (by omega)
  have cz := R.act 1 (by omega)
  have cy := R.act 2 (by omega)
  simp only [actF] at cK cz cy
  clear ba aa
  unfold argA
  rw [hK] at cK cz cy R ⊢
  replace R := Lib.hid R
  have OK := Lib.hid ok
  have HL := Lib.hid hl
  obtain ⟨r, hr⟩ : ∃ r, x.ofw.tmod 2 = r := ⟨_, rfl⟩
  have HRB : -1 ≤ r ∧ r ≤ 1 := by have := tmod2 x.ofw; rw [hr] at this; exact this
  obtain ⟨hr1, hr2⟩ := HRB
  obtain ⟨ob1, ob2⟩ := bounds_i64 ok.ofw
  clear h ok hl
  generalize hy : x.at_ = y at *
  generalize hz : x.ofw = z at *
  have HY := Lib.hid (And.intro hy hz)
  clear hy hz
  go_enter Try.func15, Try.ntmps15
  go_upto_if 21 with fail
  generalize w.alloc (.cells #[.int .i64 6, .int .i64 z, .int .i64 y, .int .i64 x.n, .int .i64 x.bit, .int .u32 x.turn, .int .u64 x.a, .int .u64 x.b, .int .u8 x.fill, .int .i64 x.size, x.fv] 40) = w1 at *
  generalize w.heap.size = T at *
  go_cut [5] (fun u wx => ∃ k : Nat, k < 2 ∧ u = .int .i64 (k : Int) ∧ wx = w1)
  case first =>
    by_cases h1 : r < 0
    · go_wp2_with fail
      go_meet
      exact ⟨1, by omega, rfl, rfl⟩
    · obtain ⟨k, rfl⟩ : ∃ k : Nat, r = (k : Int) := ⟨r.toNat, by omega⟩
      go_wp2_with fail
      go_meet
      exact ⟨k, by omega, rfl, rfl⟩
  case rest =>
    obtain ⟨k, hk, rfl, rfl⟩ := hcut
    have HK := Lib.hid hk
    have k2 : (k : Int) < 2 := by omega
    have cd := R.out.cd hk
    have ce := R.out.ce hk
    clear hk hr hr1 hr2 ob1 ob2 cz
    go_wp2_with fail
    go_quiet (fail)
    have c0 := R.out.top 0 (by omega)
    simp only [twF] at c0
    have FP := Lib.hid (fun m => pow_cut (R.out.drewN m).pw)
    clear cd ce cy
    go_wp2_with fail
    clear cK
    refine (FP.out _).mono ?_
    rintro e w2 ⟨rfl, h2, k2, -⟩
    have R2 := (R.out.drewN _).power h2 k2
    have c3 := R2.top 3 (by omega)
    simp only [twF] at c3
    have q0 := R2.rp.c0
    have f0 := R2.rp.free 0
    have R3 := Lib.hid (R2.rpower R2.rp.cut (keep_cell _ _ _ _))
    clear R2 h2 k2 FP c0
    go_wp2
    go_ret
    exact ⟨_, _, _, _, _, _, rfl, R3.out.rig, fun _ _ => Nat.le_succ _⟩


set_option maxRecDepth 100000 in
set_option maxHeartbeats 4000000 in
theorem do_7 (h : RigO w0 w t p q dd ee ps ps s s) (ok : ActOk w0 x) (hl : ∀ k, k < 2 → (s k).lim < 1000000) (hK : x.kind = 7) :
    Calls Try.prog 15 #[.pointer (some ⟨t, 0, none⟩), argA x] w fun e w' => DoP w0 e w' t s := by
  have ba := (Below.refl w.heap.size w).alloc (Nat.le_refl _) (.cells #[.int .i64 x.kind, .int .i64 x.ofw, .int .i64 x.at_, .int .i64 x.n, .int .i64 x.bit, .int .u32 x.turn, .int .u64 x.a, .int .u64 x.b, .int .u8 x.fill, .int .i64 x.size, x.fv] 40)
  have aa : Arr (w.alloc (.cells #[.int .i64 x.kind, .int .i64 x.ofw, .int .i64 x.at_, .int .i64 x.n, .int .i64 x.bit, .int .u32 x.turn, .int .u64 x.a, .int .u64 x.b, .int .u8 x.fill, .int .i64 x.size, x.fv] 40)) w.heap.size 40 11 (actF x) := ⟨_, heap_at _ _ _ rfl, rfl, fun i hi => by
    have : i = 0 ∨ i = 1 ∨ i = 2 ∨ i = 3 ∨ i = 4 ∨ i = 5 ∨ i = 6 ∨ i = 7 ∨ i = 8 ∨ i = 9 ∨ i = 10 := by omega
    rcases this with rfl | rfl | rfl | rfl | rfl | rfl | rfl | rfl | rfl | rfl | rfl <;> rfl⟩
  have R := RigT.of (x := x) h ba aa (Nat.le_refl _)
  have cK := R.act 0 (by omega)
  have cz := R.act 1 (by omega)
  have cy := R.act 2 (by omega)
  simp only [actF] at cK cz cy
  clear ba aa
  unfold argA
  rw [hK] at cK cz cy R ⊢
  replace R := Lib.hid R
  have OK := Lib.hid ok
  have HL := Lib.hid hl
  obtain ⟨r, hr⟩ : ∃ r, x.ofw.tmod 2 = r := ⟨_, rfl⟩
  have HRB : -1 ≤ r ∧ r ≤ 1 := by have := tmod2 x.ofw; rw [hr] at this; exact this
  obtain ⟨hr1, hr2⟩ := HRB
  obtain ⟨ob1, ob2⟩ := bounds_i64 ok.ofw
  clear h ok hl
  generalize hy : x.at_ = y at *
  generalize hz : x.ofw = z at *
  have HY := Lib.hid (And.intro hy hz)
  clear hy hz
  go_enter Try.func15, Try.ntmps15
  go_upto_if 21 with fail
  generalize w.alloc (.cells #[.int .i64 7, .int .i64 z, .int .i64 y, .int .i64 x.n, .int .i64 x.bit, .int .u32 x.turn, .int .u64 x.a, .int .u64 x.b, .int .u8 x.fill, .int .i64 x.size, x.fv] 40) = w1 at *
  generalize w.heap.size = T at *
  go_cut [5] (fun u wx => ∃ k : Nat, k < 2 ∧ u = .int .i64 (k : Int) ∧ wx = w1)
  case first =>
    by_cases h1 : r < 0
    · go_wp2_with fail
      go_meet
      exact ⟨1, by omega, rfl, rfl⟩
    · obtain ⟨k, rfl⟩ : ∃ k : Nat, r = (k : Int) := ⟨r.toNat, by omega⟩
      go_wp2_with fail
      go_meet
      exact ⟨k, by omega, rfl, rfl⟩
  case rest =>
    obtain ⟨k, hk, rfl, rfl⟩ := hcut
    have HK := Lib.hid hk
    have k2 : (k : Int) < 2 := by omega
    have cd := R.out.cd hk
    have ce := R.out.ce hk
    clear hk hr hr1 hr2 ob1 ob2 cz
    go_wp2_with fail
    go_quiet (fail)
    have cf : wc.cell? ⟨T, 10, none⟩ = some (x.fv) := R.out.act 10 (by omega)
    have CR := Lib.hid (fun n => two_crash (R.out.drewN n).rig OK.out.fs OK.out.len (fun k hk => Nat.le_of_lt (HL.out k hk)))
    clear cd ce cy
    go_wp2_with fail
    clear cK
    refine (CR.out _).mono ?_
    rintro e w2 ⟨rfl, p2, q2, dd2, ee2, s2, R2, E2⟩
    have R2 := Lib.hid R2
    have E2 := Lib.hid E2
    clear CR cf
    go_wp2
    go_ret
    exact ⟨_, _, _, _, _, _, rfl, R2.out, fun k hk => by rw [E2.out k hk]; exact Nat.le_succ _⟩


set_option maxRecDepth 100000 in
set_option maxHeartbeats 4000000 in
theorem do_8 (h : RigO w0 w t p q dd ee ps ps s s) (ok : ActOk w0 x) (hl : ∀ k, k < 2 → (s k).lim < 1000000) (hK : x.kind = 8) :
    Calls Try.prog 15 #[.pointer (some ⟨t, 0, none⟩), argA x] w fun e w' => DoP w0 e w' t s := by
  have ba := (Below.refl w.heap.size w).alloc (Nat.le_refl _) (.cells #[.int .i64 x.kind, .int .i64 x.ofw, .int .i64 x.at_, .int .i64 x.n, .int .i64 x.bit, .int .u32 x.turn, .int .u64 x.a, .int .u64 x.b, .int .u8 x.fill, .int .i64 x.size, x.fv] 40)
  have aa : Arr (w.alloc (.cells #[.int .i64 x.kind, .int .i64 x.ofw, .int .i64 x.at_, .int .i64 x.n, .int .i64 x.bit, .int .u32 x.turn, .int .u64 x.a, .int .u64 x.b, .int .u8 x.fill, .int .i64 x.size, x.fv] 40)) w.heap.size 40 11 (actF x) := ⟨_, heap_at _ _ _ rfl, rfl, fun i hi => by
    have : i = 0 ∨ i = 1 ∨ i = 2 ∨ i = 3 ∨ i = 4 ∨ i = 5 ∨ i = 6 ∨ i = 7 ∨ i = 8 ∨ i = 9 ∨ i = 10 := by omega
    rcases this with rfl | rfl | rfl | rfl | rfl | rfl | rfl | rfl | rfl | rfl | rfl <;> rfl⟩
  have R := RigT.of (x := x) h ba aa (Nat.le_refl _)
  have cK := R.act 0 (by omega)
  have cz := R.act 1 (by omega)
  have cy := R.act 2 (by omega)
  simp only [actF] at cK cz cy
  clear ba aa
  unfold argA
  rw [hK] at cK cz cy R ⊢
  replace R := Lib.hid R
  have OK := Lib.hid ok
  have HL := Lib.hid hl
  obtain ⟨r, hr⟩ : ∃ r, x.ofw.tmod 2 = r := ⟨_, rfl⟩
  have HRB : -1 ≤ r ∧ r ≤ 1 := by have := tmod2 x.ofw; rw [hr] at this; exact this
  obtain ⟨hr1, hr2⟩ := HRB
  obtain ⟨ob1, ob2⟩ := bounds_i64 ok.ofw
  clear h ok hl
  generalize hy : x.at_ = y at *
  generalize hz : x.ofw = z at *
  have HY := Lib.hid (And.intro hy hz)
  clear hy hz
  go_enter Try.func15, Try.ntmps15
  go_upto_if 21 with fail
  generalize w.alloc (.cells #[.int .i64 8, .int .i64 z, .int .i64 y, .int .i64 x.n, .int .i64 x.bit, .int .u32 x.turn, .int .u64 x.a, .int .u64 x.b, .int .u8 x.fill, .int .i64 x.size, x.fv] 40) = w1 at *
  generalize w.heap.size = T at *
  go_cut [5] (fun u wx => ∃ k : Nat, k < 2 ∧ u = .int .i64 (k : Int) ∧ wx = w1)
  case first =>
    by_cases h1 : r < 0
    · go_wp2_with fail
      go_meet
      exact ⟨1, by omega, rfl, rfl⟩
    · obtain ⟨k, rfl⟩ : ∃ k : Nat, r = (k : Int) := ⟨r.toNat, by omega⟩
      go_wp2_with fail
      go_meet
      exact ⟨k, by omega, rfl, rfl⟩
  case rest =>
    obtain ⟨k, hk, rfl, rfl⟩ := hcut
    have HK := Lib.hid hk
    have k2 : (k : Int) < 2 := by omega
    have cd := R.out.cd hk
    have ce := R.out.ce hk
    clear hk hr hr1 hr2 ob1 ob2 cz
    go_wp2_with fail
    go_quiet (fail)
    have cf : wc.cell? ⟨T, 10, none⟩ = some (x.fv) := R.out.act 10 (by omega)
    have NP := Lib.hid (show ∀ m, Calls Try.prog 17 #[] (wc.drewN m) fun e w' => e = .returned (.pointer (some ⟨wc.heap.size, 0, none⟩)) ∧ Pow w' wc.heap.size newP ∧ Below (wc.drewN m).heap.size (wc.drewN m) w' from fun m => (pow_new (wc.drewN m)).mono (fun _ _ ⟨a, b, c, _⟩ => ⟨a, b, c⟩))
    clear cd ce cy
    go_wp2_with fail
    clear cK
    have cf1 : (wc.drewN nq).drew.cell? ⟨T, 10, none⟩ = some x.fv := cf
    have R1 := Lib.hid (R.out.drewN nq).drew
    have FS := Lib.hid (And.intro OK.out.fs OK.out.len)
    go_region_held_law (fun W => W.cell? ⟨T, 10, none⟩ = some x.fv) (first | exact cf1 | exact cf2 | exact cf3)
      (first
        | (go_at_call 17; (with_reducible refine (NP.out _).mono ?_); rintro e w2 ⟨rfl, h2, b2⟩; have R2 := (R.out.drewN _).below b2; have cf2 : w2.cell? ⟨T, 10, none⟩ = some x.fv := R2.act 10 (by omega); have CR := Lib.hid (R2.dcrash HK.out h2 (Nat.le_of_lt (HL.out k HK.out)) FS.out.1 FS.out.2); clear R2 h2 b2)
        | (go_at_call 16; (with_reducible refine CR.out.mono ?_); rintro e w3 ⟨⟨d, rfl, hd⟩, R3⟩; have cf3 : w3.cell? ⟨T, 10, none⟩ = some x.fv := R3.act 10 (by omega)))
    all_goals
      have BA := (Below.refl w3.heap.size w3).alloc (Nat.le_refl _) (.cells #[.bool false, .bool false, .int .i64 0, .int .i64 0] 81)
      have R4 := R3.below BA
      have cf4 : (w3.alloc (.cells #[.bool false, .bool false, .int .i64 0, .int .i64 0] 81)).cell? ⟨T, 10, none⟩ = some x.fv := R4.act 10 (by omega)
      have CE := Lib.hid (R4.rcrash HK.out w3.heap.size (Nat.le_of_lt (HL.out k HK.out)) FS.out.1 FS.out.2)
      have HD := Lib.hid hd
      clear R3 R4 BA hd CR NP cf cf1 cf2 cf3 R1
      go_wp2_with fail
      refine CE.out.mono ?_
      rintro e w5 ⟨⟨d5, rfl⟩, R5⟩
      have R5 := Lib.hid R5
      clear CE cf4
      generalize hc : crashE (s k) x.fs = v1 at *
      clear hc
      rcases HD.out with ⟨rfl, y1, rfl⟩ | ⟨hv, rfl⟩
      · clear HD
        go_wp2
        go_ret
        exact ⟨_, _, _, _, _, _, rfl, R5.out.rig, fun _ _ => Nat.le_succ _⟩
      · have e1 : (v1 == 0) = false := by simpa using hv
        clear HD hv
        go_wp2
        go_ret
        exact ⟨_, _, _, _, _, _, rfl, R5.out.rig, fun _ _ => Nat.le_succ _⟩


set_option maxRecDepth 100000 in
set_option maxHeartbeats 4000000 in
theorem do_9 (h : RigO w0 w t p q dd ee ps ps s s) (ok : ActOk w0 x) (hl : ∀ k, k < 2 → (s k).lim < 1000000) (h0 : (x.kind == 0) = false) (h1 : (x.kind == 1) = false) (h2 : (x.kind == 2) = false) (h3 : (x.kind == 3) = false) (h4 : (x.kind == 4) = false) (h5 : (x.kind == 5) = false) (h6 : (x.kind == 6) = false) (h7 : (x.kind == 7) = false) (h8 : (x.kind == 8) = false) :
    Calls Try.prog 15 #[.pointer (some ⟨t, 0, none⟩), argA x] w fun e w' => DoP w0 e w' t s := by
  have ba := (Below.refl w.heap.size w).alloc (Nat.le_refl _) (.cells #[.int .i64 x.kind, .int .i64 x.ofw, .int .i64 x.at_, .int .i64 x.n, .int .i64 x.bit, .int .u32 x.turn, .int .u64 x.a, .int .u64 x.b, .int .u8 x.fill, .int .i64 x.size, x.fv] 40)
  have aa : Arr (w.alloc (.cells #[.int .i64 x.kind, .int .i64 x.ofw, .int .i64 x.at_, .int .i64 x.n, .int .i64 x.bit, .int .u32 x.turn, .int .u64 x.a, .int .u64 x.b, .int .u8 x.fill, .int .i64 x.size, x.fv] 40)) w.heap.size 40 11 (actF x) := ⟨_, heap_at _ _ _ rfl, rfl, fun i hi => by
    have : i = 0 ∨ i = 1 ∨ i = 2 ∨ i = 3 ∨ i = 4 ∨ i = 5 ∨ i = 6 ∨ i = 7 ∨ i = 8 ∨ i = 9 ∨ i = 10 := by omega
    rcases this with rfl | rfl | rfl | rfl | rfl | rfl | rfl | rfl | rfl | rfl | rfl <;> rfl⟩
  have R := RigT.of (x := x) h ba aa (Nat.le_refl _)
  have cK := R.act 0 (by omega)
  have cz := R.act 1 (by omega)
  have cy := R.act 2 (by omega)
  simp only [actF] at cK cz cy
  clear ba aa
  unfold argA
  replace R := Lib.hid R
  have OK := Lib.hid ok
  have HL := Lib.hid hl
  obtain ⟨r, hr⟩ : ∃ r, x.ofw.tmod 2 = r := ⟨_, rfl⟩
  have HRB : -1 ≤ r ∧ r ≤ 1 := by have := tmod2 x.ofw; rw [hr] at this; exact this
  obtain ⟨hr1, hr2⟩ := HRB
  obtain ⟨ob1, ob2⟩ := bounds_i64 ok.ofw
  clear h ok hl
  generalize hy : x.at_ = y at *
  generalize hz : x.ofw = z at *
  have HY := Lib.hid (And.intro hy hz)
  clear hy hz
  go_enter Try.func15, Try.ntmps15
  go_upto_if 21 with fail
  generalize w.alloc (.cells #[.int .i64 x.kind, .int .i64 z, .int .i64 y, .int .i64 x.n, .int .i64 x.bit, .int .u32 x.turn, .int .u64 x.a, .int .u64 x.b, .int .u8 x.fill, .int .i64 x.size, x.fv] 40) = w1 at *
  generalize w.heap.size = T at *
  go_cut [5] (fun u wx => ∃ k : Nat, k < 2 ∧ u = .int .i64 (k : Int) ∧ wx = w1)
  case first =>
    by_cases h1 : r < 0
    · go_wp2_with fail
      go_meet
      exact ⟨1, by omega, rfl, rfl⟩
    · obtain ⟨k, rfl⟩ : ∃ k : Nat, r = (k : Int) := ⟨r.toNat, by omega⟩
      go_wp2_with fail
      go_meet
      exact ⟨k, by omega, rfl, rfl⟩
  case rest =>
    obtain ⟨k, hk, rfl, rfl⟩ := hcut
    have HK := Lib.hid hk
    have k2 : (k : Int) < 2 := by omega
    have cd := R.out.cd hk
    have ce := R.out.ce hk
    clear hk hr hr1 hr2 ob1 ob2 cz
    go_wp2_with fail
    go_quiet (fail)
    have R1 := Lib.hid (fun m => (R.out.drewN m).rig)
    generalize x.kind = kd at *
    clear cd ce cy
    go_wp2
    go_ret
    exact ⟨_, _, _, _, _, _, rfl, R1.out _, fun _ _ => Nat.le_succ _⟩


theorem two_do (h : RigO w0 w t p q dd ee ps ps s s) (ok : ActOk w0 x) (hl : ∀ k, k < 2 → (s k).lim < 1000000) :
    Calls Try.prog 15 #[.pointer (some ⟨t, 0, none⟩), argA x] w fun e w' => DoP w0 e w' t s := by
  by_cases h0 : x.kind = 0
  · exact do_0 h ok hl h0
  by_cases h1 : x.kind = 1
  · exact do_1 h ok hl h1
  by_cases h2 : x.kind = 2
  · exact do_2 h ok hl h2
  by_cases h3 : x.kind = 3
  · exact do_3 h ok hl h3
  by_cases h4 : x.kind = 4
  · exact do_4 h ok hl h4
  by_cases h5 : x.kind = 5
  · exact do_5 h ok hl h5
  by_cases h6 : x.kind = 6
  · exact do_6 h ok hl h6
  by_cases h7 : x.kind = 7
  · exact do_7 h ok hl h7
  by_cases h8 : x.kind = 8
  · exact do_8 h ok hl h8
  exact do_9 h ok hl (beq_eq_false_iff_ne.2 h0) (beq_eq_false_iff_ne.2 h1) (beq_eq_false_iff_ne.2 h2) (beq_eq_false_iff_ne.2 h3) (beq_eq_false_iff_ne.2 h4) (beq_eq_false_iff_ne.2 h5) (beq_eq_false_iff_ne.2 h6) (beq_eq_false_iff_ne.2 h7) (beq_eq_false_iff_ne.2 h8)

end

end Go.Proofs.Ytlfeglnacphhlaa
