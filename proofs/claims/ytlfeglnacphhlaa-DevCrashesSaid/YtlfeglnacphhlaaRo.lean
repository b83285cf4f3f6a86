/- Rot: a sector's bits turned. -/
import Derived.Test.YtlfeglnacphhlaaTr4
import Derived.Test.YtlfeglnacphhlaaDf
namespace Go.Proofs.Ytlfeglnacphhlaa
open Go.RowKit Go.Maps
set_option linter.unusedVariables false

def rotD (s : DS) (i : Nat) (c : ByteArray) : DS := { s with fixed := fun j => if j = i then c else s.fixed j, rot := fun j => if j = i then true else s.rot j, lim := s.lim + 1 }
def mayR (s : DS) (x bit : Int) : Prop := hasD s x ∧ 0 ≤ bit ∧ bit < 512
instance (s : DS) (x bit : Int) : Decidable (mayR s x bit) := by unfold mayR hasD; exact inferInstance
def busyR (s : DS) (i : Nat) : Bool := s.rot i || !(s.loose i).isEmpty
def rotE (s : DS) (x bit : Int) (turn : Nat) : Int := if mayR s x bit then (if busyR s x.toNat = true then 6 else if turnB (s.fixed x.toNat) bit.toNat turn = s.fixed x.toNat then 1 else 0) else 3
def rotS (s : DS) (x bit : Int) (turn : Nat) : DS := if rotE s x bit turn = 0 then rotD s x.toNat (turnB (s.fixed x.toNat) bit.toNat turn) else s

section
variable {w w' : World} {b p : Nat} {R : DR} {s : DS} {ps : PS} {S : Nat → Prop}

/-- A sector is rotten now. -/
theorem Dv.putR (h : Dv w b p R s) {i nr : Nat} (hi : i < s.n) (hm : IMap w' R.r nr (fun z => if z = (i : Int) then some (.int .i64 1) else rotM s z)) (hn : nr ≤ s.lim + 1) (ht : w.mapTurned w' R.r) :
    Dv w' b p { R with nr := nr } { s with rot := fun j => if j = i then true else s.rot j, lim := s.lim + 1 } := by
  have k := keeps_turned ht
  have a3 : ∀ v c, Byt w v c → ∀ g, v.ownBlock = some g → ¬ g = R.r := fun v c hv g e x => hv.ne_map h.rm (x ▸ e)
  exact { h with
    top := (h.top.keep k (fun e => h.rm.ne_arr h.top e.symm)).congr (fun x hx => by
      have : x = 0 ∨ x = 1 ∨ x = 2 ∨ x = 3 ∨ x = 4 ∨ x = 5 := by omega
      rcases this with rfl | rfl | rfl | rfl | rfl | rfl <;> rfl)
    fx := h.fx.keep k (fun e => h.rm.ne_arr h.fx e.symm)
    fb := fun j hj => (h.fb j hj).keep k (a3 _ _ (h.fb j hj))
    lm := h.lm.keep k h.mr
    lo := fun x hx => row_keep (h.lo x hx) k (fun g e e' => row_ne_map (h.lo x hx) h.rm (e' ▸ e))
    lb := fun x hx j c hc => by
      obtain ⟨v, hv, hb⟩ := h.lb x hx j c hc
      exact ⟨v, hv, hb.keep k (a3 _ _ hb)⟩
    rm := hm.congr (fun x hx => by
      unfold rotM
      by_cases e : x = (i : Int)
      · subst e; rw [if_pos rfl, if_pos ⟨by omega, by show (i : Int) < (s.n : Int); omega, by simp⟩]
      · rw [if_neg e]
        by_cases e2 : 0 ≤ x
        · have : x.toNat ≠ i := by omega
          simp only [if_neg this]
        · rw [if_neg (fun y => e2 y.1), if_neg (fun y => e2 y.1)])
    ll := fun i hi => Nat.le_succ_of_le (h.ll i hi)
    nl := Nat.le_succ_of_le h.nl
    nr := hn }

theorem Dv.rotten (h : Dv w b p R s) {i : Nat} (hi : i < s.n) {u : Value} {c : ByteArray} (hu : Byt w u c) {w3 : World} {nr : Nat}
    (hm : IMap w3 R.r nr (fun z => if z = (i : Int) then some (.int .i64 1) else rotM s z)) (hn : nr ≤ s.lim + 1) (ht : (w.setCell ⟨R.F, i, none⟩ u).mapTurned w3 R.r) :
    Dv w3 b p { R with FV := fun j => if j = i then u else R.FV j, nr := nr } (rotD s i c) :=
  (h.setF hi hu).putR hi hm hn ht

set_option maxRecDepth 100000 in
set_option maxHeartbeats 4000000 in
theorem dv_rot (h : DevO b p s S w) (ho : Own S w) (x bit : Int) (turn : Nat) (ht : turn < 4294967296) (hl : s.lim ≤ 1000000) :
    Calls Try.prog 28 #[.pointer (some ⟨b, 0, none⟩), .int .i64 x, .int .i64 bit, .int .u32 (turn : Int)] w fun e w' => e = .returned (.int .i64 (rotE s x bit turn)) ∧ DevO b p (rotS s x bit turn) (Ext S w w') w' ∧ Keeps S w w' := by
  have O := Lib.hid (Rep.mono h (fun k x => .inl x) : DevO b p s (Ext S w w) w)
  obtain ⟨R, hd, hin⟩ := h
  have RR := Lib.hid (dv_real hd)
  have HH := Lib.hid (dv_has2 hd x)
  by_cases hx : hasD s x
  · have hh : decide (hasD s x) = true := decide_eq_true hx
    rw [hh] at HH
    by_cases b0 : 0 ≤ bit
    · by_cases b1 : bit < 512
      · obtain ⟨i, rfl⟩ : ∃ i : Nat, x = (i : Int) := ⟨x.toNat, by have := hx.1; omega⟩
        obtain ⟨at_, rfl⟩ : ∃ a : Nat, bit = (a : Int) := ⟨bit.toNat, by omega⟩
        have hi : i < s.n := by have := hx.2; omega
        have hm : mayR s (i : Int) (at_ : Int) := ⟨hx, b0, b1⟩
        unfold rotS rotE
        rw [if_pos hm, Int.toNat_natCast, Int.toNat_natCast]
        have c1 := hd.c1
        have c2 := hd.c2
        have c3 := hd.c3
        have L1 := hd.look i hi
        have L2 := hd.lookR i hi
        have iI : (i : Int) < (s.n : Int) := by omega
        have d1 : decide ((at_ : Int) < 0) = false := decide_eq_false (by omega)
        have d2 : decide (512 ≤ (at_ : Int)) = false := decide_eq_false (by omega)
        cases hr : s.rot i
        · cases hll : s.loose i with
          | cons y l =>
            have hb : busyR s i = true := by simp [busyR, hll]
            rw [if_pos hb]
            simp only [Int.reduceEq, if_false]
            rw [hr, if_neg (by decide)] at L2
            obtain ⟨A, cp, hLV⟩ := row_slice (hd.lo i hi)
            rw [hll] at hLV
            rw [hLV] at L1
            have g1 : decide ((0 : Int) < (((y :: l).length : Nat) : Int)) = true := decide_eq_true (by simp)
            have g2 : 0 < (y :: l).length := by simp
            generalize (y :: l).length = nl at *
            clear hx hd hin ho hh hm hr hb b0 b1 hi hl ht hll hLV
            go_enter Try.func28, Try.ntmps28
            go_wp2_with fail
            refine RR.out.mono ?_
            rintro e w' ⟨rfl, rfl⟩
            go_wp2_with fail
            refine HH.out.mono ?_
            rintro e w' ⟨rfl, rfl⟩
            go_wp2
            go_ret
            exact ⟨rfl, O.out, Keeps.refl _ _⟩
          | nil =>
            have hb : ¬ busyR s i = true := by simp [busyR, hll, hr]
            rw [if_neg hb]
            rw [hr, if_neg (by decide)] at L2
            rw [hd.le i hi hll] at L1
            have fb := hd.fb i hi
            have hsz := fb.size
            have cf : w.cell? ⟨R.F, i, none⟩ = some (R.FV i) := hd.fx.cell (i := i) hi
            have CT := Lib.hid (crc_turn fb.rd hsz at_ turn (by omega) ht (by obtain ⟨g, cap, cur, f, hv, _⟩ := fb; exact ⟨_, _, hv⟩))
            have HD := Lib.hid hd
            have HI := Lib.hid hin
            have HO := Lib.hid ho
            have HL := Lib.hid hl
            have HIN := Lib.hid hi
            have HFB := Lib.hid fb
            have HR := Lib.hid hr
            clear hx hd hin ho hh hm hb b0 b1 hi hl ht hll fb hsz hr
            generalize R.FV i = fv at *
            go_enter Try.func28, Try.ntmps28
            go_wp2_with fail
            refine RR.out.mono ?_
            rintro e w' ⟨rfl, rfl⟩
            go_wp2_with fail
            refine HH.out.mono ?_
            rintro e w' ⟨rfl, rfl⟩
            go_wp2_with fail
            refine CT.out.mono ?_
            rintro e w1 ⟨u, rfl, hu, b1⟩
            have hu2 := hu
            rw [turnB_size] at hu
            obtain ⟨gu, cu, rfl, hgu, hcu, hcm, RU⟩ := row_parts hu2 (turnB_size _ _ _)
            have hD1 := Rep.keep (show DevO b p s S w from ⟨R, HD.out, HI.out⟩) HO.out (Keeps.of_below b1) (fun j x y => by have := HO.out j x; omega)
            have cf1 := (Keeps.of_below b1).old cf
            have c1' := (Keeps.of_below b1).old c1
            have c3' := (Keeps.of_below b1).old c3
            have EQ := Lib.hid (eq_oct (RdB.of_row hu2) (HFB.out.keep (Keeps.of_below b1) (fun g e => by have := HFB.out.lt g e; omega)).rd (turnB_size _ _ _) HFB.out.size)
            have HU := Lib.hid hu2
            have HB1 := Lib.hid b1
            have HGU := Lib.hid hgu
            clear hu hu2 b1 hgu RU hcu hcm hD1 cf c1 c2 c3 L1 L2 CT
            go_wp2_with fail
            refine EQ.out.mono ?_
            rintro e w2 ⟨rfl, nd, hnd⟩
            have B2 : Below w.heap.size w w2 := by rw [hnd]; exact Keeps.below ((Keeps.of_below HB1.out).drewN nd) (Nat.le_refl _)
            have u2 : Byt w2 (.slice (some ⟨gu, 0, none⟩) 64 cu) (turnB (s.fixed i) at_ turn) := (Byt.of_row HU.out (turnB_size _ _ _)).keep (T := fun _ => False) (by rw [hnd]; exact (Keeps.refl _ _).drewN nd) (fun _ _ x => x)
            have hd2 := HD.out.keep HI.out (Keeps.of_below B2) (fun j x => Nat.not_le.2 (HO.out j x))
            have HB2 := Lib.hid B2
            have HU2 := Lib.hid u2
            have HD2 := Lib.hid hd2
            have hz : w1.heap.size = w2.heap.size := by rw [hnd]; rfl
            have HGU2 := Lib.hid (show w.heap.size ≤ gu ∧ gu < w2.heap.size from ⟨HGU.out, HU2.out.lt gu rfl⟩)
            by_cases hq : turnB (s.fixed i) at_ turn = s.fixed i
            · rw [decide_eq_true hq]
              have D2 := Lib.hid (show DevO b p s (Ext S w w2) w2 from ⟨R, hd2, HI.out.mono (fun k x => .inl x)⟩)
              have HQ := Lib.hid hq
              clear hq hd2 u2 B2 hz hnd cf1 c1' c3' HU HB1
              go_wp2
              go_ret
              exact ⟨rfl, D2.out, Below.keeps HB2.out S HO.out⟩
            · rw [decide_eq_false hq]
              have HQ := Lib.hid hq
              have c1 := hd2.c1
              have c3 := hd2.c3
              have cf : w2.cell? ⟨R.F, i, none⟩ = some (R.FV i) := hd2.fx.cell (i := i) HIN.out
              have ff := hd2.fx.free i
              have NB := Lib.hid (show R.nr < maxLen by have := hd2.nr; have := HL.out; unfold maxLen; omega)
              have hsf := hd2.setF HIN.out u2
              have c33 : (w2.setCell ⟨R.F, i, none⟩ (.slice (some ⟨gu, 0, none⟩) 64 cu)).cell? ⟨b, 3, none⟩ = some (.map (some R.r)) := hsf.c3
              have RM : IMap (w2.setCell ⟨R.F, i, none⟩ (.slice (some ⟨gu, 0, none⟩) 64 cu)) R.r R.nr (rotM s) := hsf.rm
              have HRM := Lib.hid RM
              have hwi : (Lit.int .i64 (i : Int)).wf = true := WalkArith.wf_i64 (by have := hd2.n1; have := HIN.out; omega)
              have KK := Lib.hid ((Below.keeps HB2.out S HO.out).setCell (p := ⟨R.F, i, none⟩) (.inl HI.out.F) (.slice (some ⟨gu, 0, none⟩) 64 cu))
              clear hq hd2 u2 B2 hz hnd cf1 c1' c3' HU HB1 hsf RM
              go_wp2_with (first
                | (at_mapUpdate; refine wpList_update_v (b := R.r) (n := R.nr) (k := 3) (q := .i64) (R := plainElem Try.prog 3) (M := rotM s) rfl _ _ _ rfl Try.underlying3 Try.underlying70 rfl HRM.out NB.out (i : Int) (.int .i64 1) rfl rfl hwi (plainElem_int Try.underlying3 (by decide)) ?_; intro w6 hm6 ht6)
                | go_in)
              have D6 := Lib.hid (HD2.out.rotten HIN.out HU2.out hm6 (by have := HD2.out.nr; split <;> omega) ht6)
              have K6 := Lib.hid (KK.out.trans (keeps_turned ht6) (fun n (e : n = R.r) => .inl (e ▸ HI.out.r)))
              have Z6 := Lib.hid (show w2.heap.size ≤ w6.heap.size by have := (keeps_turned ht6).size; rw [World.size_setCell] at this; exact this)
              clear hm6 ht6
              go_wp2
              go_ret
              refine ⟨rfl, ?_, K6.out⟩
              refine ⟨_, D6.out, ⟨.inl HI.out.b, .inl HI.out.F, .inl HI.out.m, .inl HI.out.r, fun j hj g e => ?_, fun j hj g e => .inl (HI.out.lv j hj g e), fun j hj v hv g e => .inl (HI.out.lg j hj v hv g e)⟩⟩
              by_cases ej : j = i
              · simp only [ej, if_true] at e
                have e : some gu = some g := e
                injection e with e
                subst e
                exact .inr ⟨HGU2.out.1, Nat.lt_of_lt_of_le HGU2.out.2 Z6.out⟩
              · simp only [if_neg ej] at e
                exact .inl (HI.out.fv j hj g e)
        · have hb : busyR s i = true := by simp [busyR, hr]
          rw [if_pos hb]
          simp only [Int.reduceEq, if_false]
          rw [hr, if_pos rfl] at L2
          clear hx hd hin ho hh hm hr hb b0 b1 hi hl ht
          go_enter Try.func28, Try.ntmps28
          go_wp2_with fail
          refine RR.out.mono ?_
          rintro e w' ⟨rfl, rfl⟩
          go_wp2_with fail
          refine HH.out.mono ?_
          rintro e w' ⟨rfl, rfl⟩
          go_wp2
          go_ret
          exact ⟨rfl, O.out, Keeps.refl _ _⟩
      · have hm : ¬ mayR s x bit := fun h => b1 h.2.2
        unfold rotS rotE
        rw [if_neg hm]
        simp only [Int.reduceEq, if_false]
        have d1 : decide (bit < 0) = false := decide_eq_false (by omega)
        have d2 : decide (512 ≤ bit) = true := decide_eq_true (by omega)
        clear hx hd hin ho hh hm b0 b1 hl ht
        go_enter Try.func28, Try.ntmps28
        go_wp2_with fail
        refine RR.out.mono ?_
        rintro e w' ⟨rfl, rfl⟩
        go_wp2_with fail
        refine HH.out.mono ?_
        rintro e w' ⟨rfl, rfl⟩
        go_wp2
        go_ret
        exact ⟨rfl, O.out, Keeps.refl _ _⟩
    · have hm : ¬ mayR s x bit := fun h => b0 h.2.1
      unfold rotS rotE
      rw [if_neg hm]
      simp only [Int.reduceEq, if_false]
      have d1 : decide (bit < 0) = true := decide_eq_true (by omega)
      clear hx hd hin ho hh hm b0 hl ht
      go_enter Try.func28, Try.ntmps28
      go_wp2_with fail
      refine RR.out.mono ?_
      rintro e w' ⟨rfl, rfl⟩
      go_wp2_with fail
      refine HH.out.mono ?_
      rintro e w' ⟨rfl, rfl⟩
      go_wp2
      go_ret
      exact ⟨rfl, O.out, Keeps.refl _ _⟩
  · have hm : ¬ mayR s x bit := fun h => hx h.1
    unfold rotS rotE
    rw [if_neg hm]
    simp only [Int.reduceEq, if_false]
    rw [decide_eq_false hx] at HH
    clear hx hd hin ho hm hl ht
    go_enter Try.func28, Try.ntmps28
    go_wp2_with fail
    refine RR.out.mono ?_
    rintro e w' ⟨rfl, rfl⟩
    go_wp2_with fail
    refine HH.out.mono ?_
    rintro e w' ⟨rfl, rfl⟩
    go_wp2
    go_ret
    exact ⟨rfl, O.out, Keeps.refl _ _⟩
end

end Go.Proofs.Ytlfeglnacphhlaa
