/- Two.crash: both devices, and the document's, behind a crash with fates made to fit. -/
import Derived.Test.YtlfeglnacphhlaaTw
namespace Go.Proofs.Ytlfeglnacphhlaa
open Go.RowKit Go.Maps
set_option linter.unusedVariables false

/-- Behind a crash with fates made to fit. -/
def cfD (s : DS) (fs : List Int) : DS := crashD s (fitL (looseL s) fs)

theorem fitL_len (l : List (Nat × Nat)) (fs : List Int) : (fitL l fs).length = min l.length fs.length := by
  unfold fitL; rw [List.length_map, List.length_zip]

theorem cf_ok (s : DS) (fs : List Int) : crashE s (fitL (looseL s) fs) = 0 := by
  unfold crashE
  have hl : (looseL s).length = (looseI s).length := by simp [looseL]
  have h1 : ¬ (looseI s).length < (fitL (looseL s) fs).length := by rw [fitL_len, hl]; omega
  rw [if_neg h1]
  have h2 : (crashL s (fitL (looseL s) fs)).any (badF s) = false := by
    apply List.any_eq_false.2
    intro x hx
    obtain ⟨j, hj⟩ := List.getElem?_of_mem hx
    unfold crashL at hj
    obtain ⟨ha, hb⟩ := List.getElem?_zip_eq_some.1 hj
    unfold fitL at hb
    rw [List.getElem?_map] at hb
    cases hz : ((looseL s).zip fs)[j]? with
    | none => rw [hz] at hb; cases hb
    | some y =>
      rw [hz] at hb
      obtain ⟨hy1, hy2⟩ := List.getElem?_zip_eq_some.1 hz
      unfold looseL at hy1
      rw [List.getElem?_map, ha] at hy1
      simp only [Option.map_some, Option.some.injEq] at hy1 hb
      have h3 := fit1_le y.1.2 y.2
      rw [← hy1] at h3 hb
      simp only at h3 hb
      unfold badF
      rw [← hb]
      simp only [Bool.or_eq_true, decide_eq_true_eq, not_or]
      omega
  rw [h2]
  rfl

theorem fit_len {s : DS} (fs : List Int) (h : s.n ≤ 4096) : (fitL (looseL s) fs).length ≤ 4096 := by
  have := looseI_n s
  rw [fitL_len]
  have hl : (looseL s).length = (looseI s).length := by simp [looseL]
  omega

/-- While both crash: which device stands on which power is open. -/
structure RigC (z : Nat) (w : World) (t p q p0 q0 : Nat) (dd ee : Nat → Nat) (A B : Nat → Nat → Prop) (pp qq : Nat → Nat) (s r : Nat → DS) : Prop where
  top : Arr w t 34 6 (twF p0 q0 dd ee)
  pw : Pow w p newP
  rp : RPow w q newP
  dv : ∀ k, k < 2 → DevO (dd k) (pp k) (s k) (A k) w
  rv : ∀ k, k < 2 → RvO (ee k) (qq k) (r k) (B k) w
  oa : ∀ k, k < 2 → Own (A k) w
  ob : ∀ k, k < 2 → Own (B k) w
  ta : ∀ k, k < 2 → ¬ A k t ∧ ¬ A k p ∧ ¬ A k q
  tb : ∀ k, k < 2 → ¬ B k t ∧ ¬ B k p ∧ ¬ B k q
  tp : t ≠ p ∧ t ≠ q ∧ p ≠ q
  aa : ∀ j, A 0 j → ¬ A 1 j
  bb : ∀ j, B 0 j → ¬ B 1 j
  ab : ∀ k l, k < 2 → l < 2 → ∀ j, A k j → ¬ B l j
  za : ∀ k, k < 2 → ∀ j, A k j → z ≤ j
  zb : ∀ k, k < 2 → ∀ j, B k j → z ≤ j
  zt : z ≤ t ∧ z ≤ p ∧ z ≤ q

section
variable {z : Nat} {w w' w2 w3 w4 : World} {t p q p0 q0 : Nat} {dd ee : Nat → Nat} {A B : Nat → Nat → Prop} {pp qq : Nat → Nat} {ps rs : PS} {s r : Nat → DS}

theorem RigC.of (h : Rig z w t p0 q0 dd ee A B ps rs s r) (b : Below w.heap.size w w') (hp : Pow w' p newP) (hq : RPow w' q newP) (h1 : w.heap.size ≤ p) (h2 : w.heap.size ≤ q) (h3 : p ≠ q) : RigC z w' t p q p0 q0 dd ee A B (fun _ => p0) (fun _ => q0) s r := by
  have k := h.below b
  have ht := h.top.lt
  have hz := h.size
  exact ⟨k.top, hp, hq, k.dv, k.rv, k.oa, k.ob, fun i hi => ⟨(h.ta i hi).1, fun x => by have := h.oa i hi _ x; omega, fun x => by have := h.oa i hi _ x; omega⟩, fun i hi => ⟨(h.tb i hi).1, fun x => by have := h.ob i hi _ x; omega, fun x => by have := h.ob i hi _ x; omega⟩, ⟨by omega, by omega, h3⟩, h.aa, h.bb, h.ab, h.za, h.zb, ⟨h.zt.1, by omega, by omega⟩⟩

theorem RigC.size (h : RigC z w t p q p0 q0 dd ee A B pp qq s r) : z ≤ w.heap.size := by have := h.zt.1; have := h.top.lt; omega

theorem RigC.below (h : RigC z w t p q p0 q0 dd ee A B pp qq s r) (k : Below w.heap.size w w') : RigC z w' t p q p0 q0 dd ee A B pp qq s r := by
  have n : ∀ j, j < w.heap.size → ¬ w.heap.size ≤ j := fun j h => by omega
  have kk := Keeps.of_below k
  exact { h with
    top := h.top.keep kk (n _ h.top.lt)
    pw := h.pw.keep kk (n _ h.pw.top.lt)
    rp := h.rp.keep kk (n _ h.rp.lt)
    dv := fun i hi => Rep.keep (h.dv i hi) (h.oa i hi) kk (fun j x => n _ (h.oa i hi j x))
    rv := fun i hi => Rep.keep (h.rv i hi) (h.ob i hi) kk (fun j x => n _ (h.ob i hi j x))
    oa := fun i hi => (h.oa i hi).grow k.size
    ob := fun i hi => (h.ob i hi).grow k.size }

/-- A store into the rig itself. -/
theorem RigC.store (h : RigC z w t p q p0 q0 dd ee A B pp qq s r) {j : Nat} {v : Value} {p1 q1 : Nat} {dd1 ee1 : Nat → Nat} (hj : ∀ i, i < 6 → (if i = j then v else twF p0 q0 dd ee i) = twF p1 q1 dd1 ee1 i)
    (h1 : ∀ k, k < 2 → DevO (dd1 k) (pp k) (s k) (A k) w) (h2 : ∀ k, k < 2 → RvO (ee1 k) (qq k) (r k) (B k) w) : RigC z (w.setCell ⟨t, j, none⟩ v) t p q p1 q1 dd1 ee1 A B pp qq s r := by
  have kk := keep_cell w t j v
  exact { h with
    top := (h.top.set j v).congr (fun i hi => hj i hi)
    pw := h.pw.keep kk (fun e => h.tp.1 e.symm)
    rp := h.rp.keep kk (fun e => h.tp.2.1 e.symm)
    dv := fun i hi => Rep.keep (h1 i hi) (h.oa i hi) kk (fun j x y => (h.ta i hi).1 (y ▸ x))
    rv := fun i hi => Rep.keep (h2 i hi) (h.ob i hi) kk (fun j x y => (h.tb i hi).1 (y ▸ x))
    oa := fun i hi j x => by rw [World.size_setCell]; exact h.oa i hi j x
    ob := fun i hi j x => by rw [World.size_setCell]; exact h.ob i hi j x }

theorem twF_d (p q : Nat) (dd ee : Nat → Nat) {k : Nat} (hk : k < 2) (x : Nat) : ∀ i, i < 6 → (if i = 1 + k then .pointer (some ⟨x, 0, none⟩) else twF p q dd ee i) = twF p q (upd dd k x) ee i := fun i hi => by
  have hk' : k = 0 ∨ k = 1 := by omega
  have : i = 0 ∨ i = 1 ∨ i = 2 ∨ i = 3 ∨ i = 4 ∨ i = 5 := by omega
  clear hi hk
  rcases hk' with rfl | rfl <;> rcases this with rfl | rfl | rfl | rfl | rfl | rfl <;> rfl
theorem twF_e (p q : Nat) (dd ee : Nat → Nat) {k : Nat} (hk : k < 2) (x : Nat) : ∀ i, i < 6 → (if i = 4 + k then .pointer (some ⟨x, 0, none⟩) else twF p q dd ee i) = twF p q dd (upd ee k x) i := fun i hi => by
  have hk' : k = 0 ∨ k = 1 := by omega
  have : i = 0 ∨ i = 1 ∨ i = 2 ∨ i = 3 ∨ i = 4 ∨ i = 5 := by omega
  clear hi hk
  rcases hk' with rfl | rfl <;> rcases this with rfl | rfl | rfl | rfl | rfl | rfl <;> rfl
theorem twF_p (p q x : Nat) (dd ee : Nat → Nat) : ∀ i, i < 6 → (if i = 0 then .pointer (some ⟨x, 0, none⟩) else twF p q dd ee i) = twF x q dd ee i := fun i hi => by
  have : i = 0 ∨ i = 1 ∨ i = 2 ∨ i = 3 ∨ i = 4 ∨ i = 5 := by omega
  rcases this with rfl | rfl | rfl | rfl | rfl | rfl <;> rfl
theorem twF_q (p q x : Nat) (dd ee : Nat → Nat) : ∀ i, i < 6 → (if i = 3 then .pointer (some ⟨x, 0, none⟩) else twF p q dd ee i) = twF p x dd ee i := fun i hi => by
  have : i = 0 ∨ i = 1 ∨ i = 2 ∨ i = 3 ∨ i = 4 ∨ i = 5 := by omega
  rcases this with rfl | rfl | rfl | rfl | rfl | rfl <;> rfl

/-- New ones in the place of elder ones; the rig itself still names the elder ones. -/
theorem RigC.new (h : RigC z w t p q p0 q0 dd ee A B pp qq s r) {k : Nat} (hk : k < 2) (b2 : Below w.heap.size w w2) {x y : Nat} {s1 r1 : DS} (hd : DevO x p s1 (New w2 w3) w3) (b3 : Below w2.heap.size w2 w3) (he : RvO y q r1 (New w3 w4) w4) (b4 : Below w3.heap.size w3 w4) :
    RigC z ((w4.setCell ⟨t, 1 + k, none⟩ (.pointer (some ⟨x, 0, none⟩))).setCell ⟨t, 4 + k, none⟩ (.pointer (some ⟨y, 0, none⟩))) t p q p0 q0 (upd dd k x) (upd ee k y) (upd A k (New w2 w3)) (upd B k (New w3 w4)) (upd pp k p) (upd qq k q) (upd s k s1) (upd r k r1) := by
  have h4 := h.below ((b2.trans (b3.mono b2.size)).trans (b4.mono (Nat.le_trans b2.size b3.size)))
  have z2 := b2.size
  have z3 := b3.size
  have z4 := b4.size
  have hz := h.size
  have ht := h.top.lt
  have hp := h.pw.top.lt
  have hq := h.rp.lt
  have hd4 : DevO x p s1 (New w2 w3) w4 := Rep.keep hd (new_own _ _) (Keeps.of_below b4) (fun j x => by have := x.2; omega)
  have kD := keep_cell w4 t (1 + k) (.pointer (some ⟨x, 0, none⟩))
  have kE := keep_cells kD rfl (4 + k) (.pointer (some ⟨y, 0, none⟩))
  have hA : ∀ i, i < 2 → ∀ j, upd A k (New w2 w3) i j → (A i j ∧ i ≠ k) ∨ (New w2 w3 j ∧ i = k) := fun i hi j x => by
    unfold upd at x
    by_cases e : i = k
    · rw [if_pos e] at x; exact .inr ⟨x, e⟩
    · rw [if_neg e] at x; exact .inl ⟨x, e⟩
  have hB : ∀ i, i < 2 → ∀ j, upd B k (New w3 w4) i j → (B i j ∧ i ≠ k) ∨ (New w3 w4 j ∧ i = k) := fun i hi j x => by
    unfold upd at x
    by_cases e : i = k
    · rw [if_pos e] at x; exact .inr ⟨x, e⟩
    · rw [if_neg e] at x; exact .inl ⟨x, e⟩
  have n4 : ∀ j, New w2 w3 j → w.heap.size ≤ j ∧ j < w3.heap.size := fun j x => ⟨by have := x.1; omega, x.2⟩
  have n5 : ∀ j, New w3 w4 j → w3.heap.size ≤ j ∧ j < w4.heap.size := fun j x => ⟨x.1, x.2⟩
  have oA : ∀ i, i < 2 → ∀ j, upd A k (New w2 w3) i j → j < w4.heap.size ∧ z ≤ j ∧ j ≠ t ∧ j ≠ p ∧ j ≠ q := fun i hi j x => by
    rcases hA i hi j x with ⟨x, _⟩ | ⟨x, _⟩
    · have := h.oa i hi j x
      have h0 := h.ta i hi
      exact ⟨by omega, h.za i hi j x, fun e => h0.1 (e ▸ x), fun e => h0.2.1 (e ▸ x), fun e => h0.2.2 (e ▸ x)⟩
    · have := n4 j x
      exact ⟨by omega, by omega, by omega, by omega, by omega⟩
  have oB : ∀ i, i < 2 → ∀ j, upd B k (New w3 w4) i j → j < w4.heap.size ∧ z ≤ j ∧ j ≠ t ∧ j ≠ p ∧ j ≠ q := fun i hi j x => by
    rcases hB i hi j x with ⟨x, _⟩ | ⟨x, _⟩
    · have := h.ob i hi j x
      have h0 := h.tb i hi
      exact ⟨by omega, h.zb i hi j x, fun e => h0.1 (e ▸ x), fun e => h0.2.1 (e ▸ x), fun e => h0.2.2 (e ▸ x)⟩
    · have := n5 j x
      exact ⟨by omega, by omega, by omega, by omega, by omega⟩
  refine ⟨((((h4.top.set _ _).congr (twF_d p0 q0 dd ee hk x)).set _ _).congr (twF_e p0 q0 _ ee hk y)), h4.pw.keep kE (fun e => h.tp.1 e.symm), h4.rp.keep kE (fun e => h.tp.2.1 e.symm), fun i hi => ?_, fun i hi => ?_, fun i hi j x => ?_, fun i hi j x => ?_, fun i hi => ?_, fun i hi => ?_, h.tp, fun j x y => ?_, fun j x y => ?_, fun i l hi hl j x y => ?_, fun i hi j x => (oA i hi j x).2.1, fun i hi j x => (oB i hi j x).2.1, h.zt⟩
  · unfold upd
    by_cases e : i = k
    · simp only [if_pos e]
      exact Rep.keep hd4 (fun j x => by have := x.2; omega) kE (fun j x y => by have := n4 j x; omega)
    · simp only [if_neg e]
      exact Rep.keep (h4.dv i hi) (h4.oa i hi) kE (fun j x y => (h.ta i hi).1 (y ▸ x))
  · unfold upd
    by_cases e : i = k
    · simp only [if_pos e]
      exact Rep.keep he (new_own _ _) kE (fun j x y => by have := n5 j x; omega)
    · simp only [if_neg e]
      exact Rep.keep (h4.rv i hi) (h4.ob i hi) kE (fun j x y => (h.tb i hi).1 (y ▸ x))
  · simp only [World.size_setCell]; exact (oA i hi j x).1
  · simp only [World.size_setCell]; exact (oB i hi j x).1
  · exact ⟨fun x => (oA i hi _ x).2.2.1 rfl, fun x => (oA i hi _ x).2.2.2.1 rfl, fun x => (oA i hi _ x).2.2.2.2 rfl⟩
  · exact ⟨fun x => (oB i hi _ x).2.2.1 rfl, fun x => (oB i hi _ x).2.2.2.1 rfl, fun x => (oB i hi _ x).2.2.2.2 rfl⟩
  · rcases hA 0 (by omega) j x with ⟨x, ex⟩ | ⟨x, ex⟩ <;> rcases hA 1 (by omega) j y with ⟨y, ey⟩ | ⟨y, ey⟩
    · exact h.aa j x y
    · have := h.oa 0 (by omega) j x; have := n4 j y; omega
    · have := h.oa 1 (by omega) j y; have := n4 j x; omega
    · omega
  · rcases hB 0 (by omega) j x with ⟨x, ex⟩ | ⟨x, ex⟩ <;> rcases hB 1 (by omega) j y with ⟨y, ey⟩ | ⟨y, ey⟩
    · exact h.bb j x y
    · have := h.ob 0 (by omega) j x; have := n5 j y; omega
    · have := h.ob 1 (by omega) j y; have := n5 j x; omega
    · omega
  · rcases hA i hi j x with ⟨x, ex⟩ | ⟨x, ex⟩ <;> rcases hB l hl j y with ⟨y, ey⟩ | ⟨y, ey⟩
    · exact h.ab i l hi hl j x y
    · have := h.oa i hi j x; have := n5 j y; omega
    · have := h.ob l hl j y; have := n4 j x; omega
    · have := n4 j x; have := n5 j y; omega

theorem RigC.fin (h : RigC z w t p q p0 q0 dd ee A B pp qq s r) (hp : ∀ k, k < 2 → pp k = p) (hq : ∀ k, k < 2 → qq k = q) :
    Rig z ((w.setCell ⟨t, 0, none⟩ (.pointer (some ⟨p, 0, none⟩))).setCell ⟨t, 3, none⟩ (.pointer (some ⟨q, 0, none⟩))) t p q dd ee A B newP newP s r := by
  have g := (h.store (twF_p p0 q0 p dd ee) h.dv h.rv).store (twF_q p q0 q dd ee) (h.store (twF_p p0 q0 p dd ee) h.dv h.rv).dv (h.store (twF_p p0 q0 p dd ee) h.dv h.rv).rv
  exact ⟨g.top, g.pw, g.rp, fun k hk => by have := g.dv k hk; rwa [hp k hk] at this, fun k hk => by have := g.rv k hk; rwa [hq k hk] at this, g.oa, g.ob, g.ta, g.tb, g.tp, g.aa, g.bb, g.ab, g.za, g.zb, g.zt⟩
end

section
variable {w0 w : World} {t p q : Nat} {dd ee : Nat → Nat} {ps rs : PS} {s : Nat → DS} {v : Value} {fs : List Int}

/-- What stands behind k rounds. -/
def CrS (w0 wr : World) (t p q p0 q0 : Nat) (s : Nat → DS) (fs : List Int) (k : Nat) : Prop := ∃ dd ee A B pp qq s1, RigC w0.heap.size wr t p q p0 q0 dd ee A B pp qq s1 s1 ∧ Below w0.heap.size w0 wr ∧ ∀ j, (j < k → pp j = p ∧ qq j = q ∧ s1 j = cfD (s j) fs) ∧ (k ≤ j → s1 j = s j)

set_option maxRecDepth 100000 in
set_option maxHeartbeats 4000000 in
theorem two_crash (h : RigO w0 w t p q dd ee ps rs s s) (hv : RdZ w0 v fs) (hfm : fs.length ≤ 9223372036854775807) (hl : ∀ k, k < 2 → (s k).lim ≤ 1000000) :
    Calls Try.prog 43 #[.pointer (some ⟨t, 0, none⟩), v] w fun e w' => e = .returned (.bool true) ∧ ∃ p' q' dd' ee' s', RigO w0 w' t p' q' dd' ee' newP newP s' s' ∧ ∀ k, k < 2 → s' k = cfD (s k) fs := by
  obtain ⟨A, B, hr, hb⟩ := h
  have NP := Lib.hid (pow_new w)
  have HR := Lib.hid hr
  have HB := Lib.hid hb
  have HV := Lib.hid hv
  have HF := Lib.hid hfm
  have HL := Lib.hid hl
  clear hr hb hv hfm hl
  go_enter Try.func43, Try.ntmps43
  go_wp2_with fail
  refine NP.out.mono ?_
  rintro e w1 ⟨rfl, hp1, b1, z1⟩
  have S1 := Lib.hid (show CrS w0 (w1.alloc (.cells #[.bool false, .bool false, .int .i64 0, .int .i64 0] 81)) t w.heap.size w1.heap.size p q s fs 0 by
    have ba := (Below.refl w1.heap.size w1).alloc (Nat.le_refl _) (.cells #[.bool false, .bool false, .int .i64 0, .int .i64 0] 81)
    have bb := b1.trans (ba.mono b1.size)
    exact ⟨_, _, _, _, _, _, _, RigC.of HR.out bb (hp1.below ba hp1.top.lt) (RPow.made w1) (Nat.le_refl _) b1.size (by omega), HB.out.trans (bb.mono HR.out.size), fun j => ⟨fun x => by omega, fun _ => rfl⟩⟩)
  clear hp1 b1 z1 NP HR HB
  go_wp2_with fail
  generalize w1.alloc (.cells #[.bool false, .bool false, .int .i64 0, .int .i64 0] 81) = w2 at *
  generalize hpn : w.heap.size = p1 at *
  generalize hqn : w1.heap.size = q1 at *
  clear hpn hqn
  go_loopw [7] (fun i wr => ∃ k : Nat, k ≤ 2 ∧ i = .int .i64 (k : Int) ∧ CrS w0 wr t p1 q1 p q s fs k) (fun i _ => 2 - (intOf i).toNat)
  case atStart => exact ⟨0, by omega, rfl, S1.out⟩
  case round =>
    obtain ⟨k, hk, rfl, dd, ee, A, B, pp, qq, s1, hc, hb, hs⟩ := hrel
    have HC := Lib.hid hc
    have HB := Lib.hid hb
    have HS := Lib.hid hs
    by_cases h1 : (k : Int) < 2
    · have hk2 : k < 2 := by omega
      have HK := Lib.hid hk2
      have cd : wr.cell? ⟨t, 1 + k, none⟩ = some (.pointer (some ⟨dd k, 0, none⟩)) := by
        have := hc.top.cell (i := 1 + k) (by omega)
        rw [this]
        have : k = 0 ∨ k = 1 := by omega
        rcases this with rfl | rfl <;> rfl
      have ce : wr.cell? ⟨t, 4 + k, none⟩ = some (.pointer (some ⟨ee k, 0, none⟩)) := by
        have := hc.top.cell (i := 4 + k) (by omega)
        rw [this]
        have : k = 0 ∨ k = 1 := by omega
        rcases this with rfl | rfl <;> rfl
      have es := (hs k).2 (Nat.le_refl _)
      obtain ⟨G, LV, hrv, _⟩ := hc.rv k hk2
      have LO := Lib.hid (rv_loose hrv (by rw [es]; exact HL.out k hk2))
      have LN := Lib.hid (show (looseL (s1 k)).length ≤ 4096 ∧ (∀ x, x ∈ looseL (s1 k) → x.2 ≤ 1000000) ∧ (fitL (looseL (s1 k)) fs).length ≤ 9223372036854775807 by
        refine ⟨?_, fun x hx => ?_, by have := fit_len (s := s1 k) fs hrv.n1; omega⟩
        · have := looseI_n (s1 k); have := hrv.n1; simp only [looseL, List.length_map]; omega
        · unfold looseL at hx
          obtain ⟨i, hi, rfl⟩ := List.mem_map.1 hx
          have := hrv.ll i (mem_looseI.1 hi).1
          have := HL.out k hk2
          rw [← es] at this
          simp only; omega)
      have ES := Lib.hid es
      clear hc hb hs hk hk2 es hrv
      go_wp2_with fail
      refine LO.out.mono ?_
      rintro e w3 ⟨u, rfl, hr3, b3, _⟩
      have FI := Lib.hid (fit_any hr3 ((HV.out.old HB.out).old b3) LN.out.1 LN.out.2.1 HF.out)
      have B3 := Lib.hid b3
      clear hr3 b3 LO
      go_wp2_with fail
      refine FI.out.mono ?_
      rintro e w4 ⟨v4, rfl, hz4, b4⟩
      have b34 := B3.out.trans (b4.mono B3.out.size)
      have h4 := HC.out.below b34
      have CD := Lib.hid (dv_crash (h4.dv k HK.out) (h4.oa k HK.out) h4.pw (by rw [ES.out]; exact HL.out k HK.out) hz4 LN.out.2.2)
      have cd4 := ((Keeps.of_below b34).old cd)
      have ce4 := ((Keeps.of_below b34).old ce)
      have B34 := Lib.hid b34
      have HZ4 := Lib.hid hz4
      have H4 := Lib.hid h4
      clear hz4 b4 b34 h4 FI cd ce B3
      go_wp2_with fail
      refine CD.out.mono ?_
      rintro e w5 ⟨b5, h5⟩
      rcases h5 with ⟨_, x, rfl, hx⟩ | ⟨h5, _⟩
      · have h5 := H4.out.below b5
        have CE := Lib.hid (rv_crash (h5.rv k HK.out) (h5.ob k HK.out) q1 (by rw [ES.out]; exact HL.out k HK.out) (HZ4.out.old b5) LN.out.2.2)
        have ce5 := ((Keeps.of_below b5).old ce4)
        have cd5 := ((Keeps.of_below b5).old cd4)
        have B5 := Lib.hid b5
        have HX := Lib.hid hx
        clear b5 hx h5 CD cd4 ce4
        go_wp2_with fail
        refine CE.out.mono ?_
        rintro e w6 ⟨b6, h6⟩
        rcases h6 with ⟨_, y, rfl, hy⟩ | ⟨h6, _⟩
        · have ce6 := ((Keeps.of_below b6).old ce5)
          have cd6 := ((Keeps.of_below b6).old cd5)
          have h6 := (H4.out.below B5.out).below b6
          have f1 := h6.top.free (1 + k)
          have f2 := h6.top.free (4 + k)
          have ce7 : (w6.setCell ⟨t, 1 + k, none⟩ (.pointer (some ⟨x, 0, none⟩))).cell? ⟨t, 4 + k, none⟩ = some (.pointer (some ⟨ee k, 0, none⟩)) := by
            have := (h6.top.set (1 + k) (.pointer (some ⟨x, 0, none⟩))).cell (i := 4 + k) (by have := HK.out; omega)
            rw [this, if_neg (by omega)]
            have := HK.out
            have : k = 0 ∨ k = 1 := by omega
            rcases this with rfl | rfl <;> rfl
          have f3 : (w6.setCell ⟨t, 1 + k, none⟩ (.pointer (some ⟨x, 0, none⟩))).frozen? ⟨t, 4 + k, none⟩ = false := (h6.top.set (1 + k) (.pointer (some ⟨x, 0, none⟩))).free (4 + k)
          have NX := Lib.hid (show CrS w0 ((w6.setCell ⟨t, 1 + k, none⟩ (.pointer (some ⟨x, 0, none⟩))).setCell ⟨t, 4 + k, none⟩ (.pointer (some ⟨y, 0, none⟩))) t p1 q1 p q s fs (k + 1) by
            have hbb := HB.out.trans ((B34.out.trans ((B5.out.trans (b6.mono B5.out.size)).mono B34.out.size)).mono HC.out.size)
            refine ⟨_, _, _, _, _, _, _, HC.out.new HK.out B34.out HX.out B5.out hy b6, (hbb.setCell (p := ⟨t, 1 + k, none⟩) HC.out.zt.1 _).setCell (p := ⟨t, 4 + k, none⟩) HC.out.zt.1 _, fun j => ⟨fun hj => ?_, fun hj => ?_⟩⟩
            · by_cases e : j = k
              · subst e
                refine ⟨upd_same _ _ _, upd_same _ _ _, ?_⟩
                rw [upd_same, ES.out]; rfl
              · unfold upd
                simp only [if_neg e]
                exact (HS.out j).1 (by omega)
            · unfold upd
              rw [if_neg (by omega)]
              exact (HS.out j).2 (by omega))
          have k2 : (k : Int) < 2 := h1
          clear hy b6 h6 CE ce5 cd5
          go_wp2
          go_roundw
          case rel => exact ⟨k + 1, HK.out, by simp, NX.out⟩
          case measure => have := HK.out; simp only [intOf]; omega
        · exact absurd (cf_ok _ _) h6
      · exact absurd (cf_ok _ _) h5
    · have hk2 : k = 2 := by omega
      have c0 := hc.top.cell (i := 0) (by omega)
      have f0 := hc.top.free 0
      have c3 : (wr.setCell ⟨t, 0, none⟩ (.pointer (some ⟨p1, 0, none⟩))).cell? ⟨t, 3, none⟩ = some (.pointer (some ⟨q, 0, none⟩)) := (hc.top.set 0 (.pointer (some ⟨p1, 0, none⟩))).cell (i := 3) (by omega)
      have f3 : (wr.setCell ⟨t, 0, none⟩ (.pointer (some ⟨p1, 0, none⟩))).frozen? ⟨t, 3, none⟩ = false := (hc.top.set 0 (.pointer (some ⟨p1, 0, none⟩))).free 3
      have HK := Lib.hid hk2
      clear hc hb hs hk hk2
      go_wp2
      go_ret
      have e2 := HK.out
      have hS := HS.out
      refine ⟨rfl, _, _, _, _, s1, ⟨A, B, HC.out.fin (fun j hj => ((hS j).1 (by omega)).1) (fun j hj => ((hS j).1 (by omega)).2.1), ?_⟩, fun j hj => ((hS j).1 (by omega)).2.2⟩
      exact (HB.out.setCell (p := ⟨t, 0, none⟩) HC.out.zt.1 _).setCell (p := ⟨t, 3, none⟩) HC.out.zt.1 _
end

end Go.Proofs.Ytlfeglnacphhlaa
