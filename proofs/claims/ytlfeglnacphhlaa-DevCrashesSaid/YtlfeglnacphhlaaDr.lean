/- The program's device: walks of next, Rotten, Peek, Read, Fail. -/
import Derived.Test.YtlfeglnacphhlaaDv
import Derived.WalkSmall
namespace Go.Proofs.Ytlfeglnacphhlaa
open Go.RowKit Go.Maps
set_option linter.unusedVariables false

theorem pat_next {w : World} {b i n : Nat} (hc : w.cell? ⟨b, i, none⟩ = some (.int .u64 (n : Int))) (hf : w.frozen? ⟨b, i, none⟩ = false) (hn : n < 18446744073709551616) :
    Calls Try.prog 35 #[.pointer (some ⟨b, i, none⟩)] w fun e w' => e = .returned (.bool (n % 2 == 1)) ∧ w' = w.setCell ⟨b, i, none⟩ (.int .u64 ((n / 2 : Nat) : Int)) := by
  have e1 : bits .and .u64 (n : Int) 1 = ((n % 2 : Nat) : Int) := by
    rw [and_one_u64 (n : Int) (by omega) (by omega)]; omega
  have e2 : ((n / 2 : Nat) : Int) = (n : Int) / 2 := by omega
  have e3 : ((((n % 2 : Nat) : Int)) == 1) = (n % 2 == 1) := by
    rcases Nat.mod_two_eq_zero_or_one n with h | h <;> rw [h] <;> rfl
  rw [e2, ← e3]
  clear e2 e3
  generalize ((n % 2 : Nat) : Int) = q at *
  go_enter Try.func35, Try.ntmps35
  go_wp2
  go_ret
  exact ⟨rfl, rfl⟩

theorem row_ne {w : World} {base sz n b L : Nat} {t t' : TypeId} {v : Value} {xs : List Value} {F : Nat → Value} (h : w.ownsRow base t sz v n xs) (a : Arr w b t' L F) (ht : t ≠ t') : v.ownBlock ≠ some b := by
  intro e
  obtain ⟨cs, hb, _⟩ := a
  rcases h.2 with ⟨e1, _⟩ | ⟨g, cap, cur, e1, _, hc, _⟩
  · rw [e1] at e; simp [Value.ownBlock] at e
  · rw [e1] at e
    obtain rfl : g = b := by simpa [Value.ownBlock] using e
    rw [hc] at hb
    simp at hb
    exact ht hb.2

/-- A device's blocks other than its head. -/
structure DvRest (b : Nat) (R : DR) (s : DS) (S : Nat → Prop) : Prop where
  F : S R.F
  m : S R.m
  r : S R.r
  fv : ∀ i, i < s.n → ∀ g, (R.FV i).ownBlock = some g → S g
  lv : ∀ i, i < s.n → ∀ g, (R.LV i).ownBlock = some g → S g
  lg : ∀ i, i < s.n → ∀ (j : Nat) (c : ByteArray), (s.loose i)[j]? = some c → ∀ v, (R.LG i)[j]? = some v → ∀ g, v.ownBlock = some g → S g

section
variable {w w' : World} {b p : Nat} {R : DR} {s : DS} {ps : PS} {S : Nat → Prop}

theorem Dv.apart (h : Dv w b p R s) : DvRest b R s (fun k => k ≠ b) :=
  ⟨h.fx.ne h.top (by decide), fun e => h.lm.ne_arr h.top e, fun e => h.rm.ne_arr h.top e, fun i hi g e e' => (h.fb i hi).ne_arr h.top (by decide) (e' ▸ e), fun i hi g e e' => row_ne (h.lo i hi) h.top (by decide) (e' ▸ e),
    fun i hi j c hc v hv g e e' => by
      obtain ⟨v', hv', hb⟩ := h.lb i hi j c hc
      rw [hv] at hv'
      obtain rfl : v = v' := by simpa using hv'
      exact hb.ne_arr h.top (by decide) (e' ▸ e)⟩

/-- The head turns. -/
theorem Dv.head {T : Nat → Prop} {s' : DS} (h : Dv w b p R s) (k : Keeps T w w') (hT : DvRest b R s (fun j => ¬ T j)) (top : Arr w' b 73 6 (dvF p R s')) (en : s'.n = s.n) (ef : s'.fixed = s.fixed) (el : s'.loose = s.loose) (er : s'.rot = s.rot) (e0 : s.lim ≤ s'.lim) (r1 : s'.rd < 18446744073709551616) (w1 : s'.wr < 18446744073709551616) : Dv w' b p R s' := by
  obtain ⟨n, fixed, loose, rot, rd, wr, lim⟩ := s
  obtain ⟨n', fixed', loose', rot', rd', wr', lim'⟩ := s'
  simp only at en ef el er e0 r1 w1
  subst en ef el er
  exact { h with
    top := top
    fx := h.fx.keep k hT.F
    fb := fun x hx => (h.fb x hx).keep k (fun g e => hT.fv x hx g e)
    lm := h.lm.keep k hT.m
    lo := fun x hx => row_keep (h.lo x hx) k (fun g e => hT.lv x hx g e)
    lb := fun x hx j c hc => by
      obtain ⟨v, hv, hb⟩ := h.lb x hx j c hc
      exact ⟨v, hv, hb.keep k (fun g e => hT.lg x hx j c hc v hv g e)⟩
    rm := h.rm.keep k hT.r
    r1 := r1
    w1 := w1
    ll := fun i hi => Nat.le_trans (h.ll i hi) e0
    nl := Nat.le_trans h.nl e0
    nr := Nat.le_trans h.nr e0 }

theorem DvRest.imp {T : Nat → Prop} (h : DvRest b R s S) (hs : ∀ k, S k → T k) : DvRest b R s T :=
  ⟨hs _ h.F, hs _ h.m, hs _ h.r, fun i hi g e => hs _ (h.fv i hi g e), fun i hi g e => hs _ (h.lv i hi g e), fun i hi j c hc v hv g e => hs _ (h.lg i hi j c hc v hv g e)⟩

theorem Dv.setRd (h : Dv w b p R s) (n : Nat) (hn : n < 18446744073709551616) : Dv (w.setCell ⟨b, 4, none⟩ (.int .u64 (n : Int))) b p R { s with rd := n } :=
  h.head (keep_cell w b 4 _) h.apart ((h.top.set 4 _).congr fun i hi => by
    have : i = 0 ∨ i = 1 ∨ i = 2 ∨ i = 3 ∨ i = 4 ∨ i = 5 := by omega
    rcases this with rfl | rfl | rfl | rfl | rfl | rfl <;> rfl) rfl rfl rfl rfl (Nat.le_refl _) hn h.w1
theorem Dv.setWr (h : Dv w b p R s) (n : Nat) (hn : n < 18446744073709551616) : Dv (w.setCell ⟨b, 5, none⟩ (.int .u64 (n : Int))) b p R { s with wr := n } :=
  h.head (keep_cell w b 5 _) h.apart ((h.top.set 5 _).congr fun i hi => by
    have : i = 0 ∨ i = 1 ∨ i = 2 ∨ i = 3 ∨ i = 4 ∨ i = 5 := by omega
    rcases this with rfl | rfl | rfl | rfl | rfl | rfl <;> rfl) rfl rfl rfl rfl (Nat.le_refl _) h.r1 hn

theorem DvIn.same {s' : DS} (i : DvIn b R s S) (en : s'.n = s.n) : DvIn b R s' S :=
  ⟨i.b, i.F, i.m, i.r, fun x hx => i.fv x (by omega), fun x hx => i.lv x (by omega), fun x hx => i.lg x (by omega)⟩

theorem dv_fail (h : DevO b p s S w) (x y : Nat) (hx : x < 18446744073709551616) (hy : y < 18446744073709551616) :
    Calls Try.prog 25 #[.pointer (some ⟨b, 0, none⟩), .int .u64 (x : Int), .int .u64 (y : Int)] w fun e w' => e = .returned (.tuple #[]) ∧ DevO b p { s with rd := x, wr := y } (Ext S w w') w' ∧ Keeps S w w' := by
  obtain ⟨R, h, i⟩ := h
  have f4 := h.top.free 4
  have f5 := h.top.free 5
  have c4 := h.c4
  have c5 := h.c5
  have RR := Lib.hid (dv_real h)
  have h2 := (h.setRd x hx).setWr y hy
  have O := Lib.hid (show DevO b p { s with rd := x, wr := y } S _ from ⟨R, h2, i.same rfl⟩)
  have K := Lib.hid (keep_cells (keep_cells (Keeps.refl S w) i.b 4 (.int .u64 (x : Int))) i.b 5 (.int .u64 (y : Int)))
  clear h h2 i
  go_enter Try.func25, Try.ntmps25
  go_wp2_with fail
  refine RR.out.mono ?_
  rintro e w' ⟨rfl, rfl⟩
  go_wp2
  go_end0
  exact ⟨rfl, Rep.mono O.out (fun k x => .inl x), K.out⟩

theorem dv_rotten (h : Dv w b p R s) (x : Int) (x0 : -9223372036854775808 ≤ x) (x1 : x ≤ 9223372036854775807) :
    Calls Try.prog 29 #[.pointer (some ⟨b, 0, none⟩), .int .i64 x] w fun e w' => e = .returned (.bool (rotM s x).isSome) ∧ w = w' := by
  have c3 := h.c3
  have RR := Lib.hid (dv_real h)
  have L := h.rm.look Try.underlying3 Try.underlying70 (plain_told Try.underlying3) (zeroI w) (plainElem_int Try.underlying3 (by decide)) x (WalkArith.wf_i64 (by omega))
  have hM : rotM s x = some (.int .i64 1) ∨ rotM s x = none := by unfold rotM; split <;> simp
  clear h x0 x1
  rcases hM with hM | hM
  all_goals
    rw [hM] at L ⊢
    simp only [Option.getD] at L
    clear hM
    go_enter Try.func29, Try.ntmps29
    go_wp2_with fail
    refine RR.out.mono ?_
    rintro e w' ⟨rfl, rfl⟩
    go_wp2
    go_ret
    exact ⟨rfl, rfl⟩

/-- Is there a sector? -/
def hasD (s : DS) (x : Int) : Prop := 0 ≤ x ∧ x < (s.n : Int)
instance (s : DS) (x : Int) : Decidable (hasD s x) := by unfold hasD; exact inferInstance
theorem hasD_dec (s : DS) (x : Int) : (decide (0 ≤ x) && decide (x < (s.n : Int))) = decide (hasD s x) := by
  rw [Bool.eq_iff_iff, Bool.and_eq_true, decide_eq_true_iff, decide_eq_true_iff, decide_eq_true_iff]; rfl

theorem dv_has2 (h : Dv w b p R s) (x : Int) : Calls Try.prog 34 #[.pointer (some ⟨b, 0, none⟩), .int .i64 x] w fun e w' => e = .returned (.bool (decide (hasD s x))) ∧ w = w' := by
  have := dv_has h x
  rwa [hasD_dec] at this

/-- What Peek shows. -/
def peekD (s : DS) (x : Int) : ByteArray := if hasD s x then standsD s x.toNat else ByteArray.empty

theorem row_nil8 (w : World) (B : Nat) : w.ownsRow B 5 1 (.slice none 0 0) ByteArray.empty.size (octV ByteArray.empty) := ⟨by simp [octV], .inl ⟨rfl, rfl⟩⟩

theorem dv_peek (h : Dv w b p R s) (x : Int) :
    Calls Try.prog 20 #[.pointer (some ⟨b, 0, none⟩), .int .i64 x] w fun e w' => ∃ v, e = .returned (.tuple #[v, .bool (decide (hasD s x))]) ∧ w'.ownsRow w.heap.size 5 1 v (peekD s x).size (octV (peekD s x)) ∧ Below w.heap.size w w' := by
  have RR := Lib.hid (dv_real h)
  have HH := Lib.hid (dv_has2 h x)
  unfold peekD
  by_cases hx : hasD s x
  · have e0 : decide (hasD s x) = true := decide_eq_true hx
    rw [e0] at HH
    rw [if_pos hx, e0]
    obtain ⟨i, rfl⟩ : ∃ i : Nat, x = (i : Int) := ⟨x.toNat, by have := hx.1; omega⟩
    rw [Int.toNat_natCast]
    have ST := Lib.hid (dv_stands h i (by have := hx.2; omega))
    have CL := Lib.hid (fun v (hv : Byt w v (standsD s i)) => clone_any hv.rd (by have := hv.size; omega))
    clear h hx e0
    go_enter Try.func20, Try.ntmps20
    go_wp2_with fail
    refine RR.out.mono ?_
    rintro e w' ⟨rfl, rfl⟩
    go_wp2_with fail
    refine HH.out.mono ?_
    rintro e w' ⟨rfl, rfl⟩
    go_wp2_with fail
    refine ST.out.mono ?_
    rintro e w' ⟨⟨v, rfl, hv⟩, rfl⟩
    have C := Lib.hid (CL.out v hv)
    clear hv
    go_wp2_with fail
    refine C.out.mono ?_
    rintro e w2 ⟨u, rfl, ho, hb⟩
    have O := Lib.hid ho
    have B := Lib.hid hb
    clear ho hb
    go_wp2
    go_ret2
    exact ⟨_, rfl, O.out, B.out⟩
  · have e0 : decide (hasD s x) = false := decide_eq_false hx
    rw [e0] at HH
    rw [if_neg hx, e0]
    clear h hx e0
    go_enter Try.func20, Try.ntmps20
    go_wp2_with fail
    refine RR.out.mono ?_
    rintro e w' ⟨rfl, rfl⟩
    go_wp2_with fail
    refine HH.out.mono ?_
    rintro e w' ⟨rfl, rfl⟩
    go_wp2
    go_ret2
    exact ⟨_, rfl, row_nil8 _ _, Below.refl _ _⟩

/-- What Read answers, and what it leaves. -/
def readE (s : DS) (ps : PS) (x : Int) : Int := if ps.off = true then 80 else if hasD s x then (if s.rd % 2 = 1 then 81 else 0) else 3
def readD (s : DS) (ps : PS) (x : Int) : DS := if ps.off = true then s else if hasD s x then { s with rd := s.rd / 2 } else s
def readC (s : DS) (ps : PS) (x : Int) : ByteArray := if readE s ps x = 0 then standsD s x.toNat else ByteArray.empty

theorem dv_read (h : DevO b p s S w) (ho : Own S w) (hp : Pow w p ps) (x : Int) :
    Calls Try.prog 27 #[.pointer (some ⟨b, 0, none⟩), .int .i64 x] w fun e w' => ∃ v, e = .returned (.tuple #[v, .int .i64 (readE s ps x)]) ∧
      w'.ownsRow w.heap.size 5 1 v (readC s ps x).size (octV (readC s ps x)) ∧ DevO b p (readD s ps x) (Ext S w w') w' ∧ Keeps S w w' := by
  have O := Lib.hid (Rep.mono h (fun k x => .inl x) : DevO b p s (Ext S w w) w)
  obtain ⟨R, h, i⟩ := h
  have RD := Lib.hid (dv_ready h hp)
  unfold readC readE readD
  cases hoff : ps.off
  · rw [hoff] at RD
    rw [if_neg (show ¬ (false = true) by decide)] at RD
    simp only [Bool.false_eq_true, if_false]
    have HH := Lib.hid (dv_has2 h x)
    by_cases hx : hasD s x
    · have e0 : decide (hasD s x) = true := decide_eq_true hx
      rw [e0] at HH
      simp only [if_pos hx]
      obtain ⟨k, rfl⟩ : ∃ k : Nat, x = (k : Int) := ⟨x.toNat, by have := hx.1; omega⟩
      rw [Int.toNat_natCast]
      have c4 := h.c4
      have f4 := h.top.free 4
      have N := Lib.hid (pat_next c4 f4 h.r1)
      have h2 := h.setRd (s.rd / 2) (by have := h.r1; omega)
      have KC := Lib.hid (keep_cells (Keeps.refl S w) i.b 4 (.int .u64 ((s.rd / 2 : Nat) : Int)))
      have SZ := Lib.hid (World.size_setCell w ⟨b, 4, none⟩ (.int .u64 ((s.rd / 2 : Nat) : Int)))
      have ST := Lib.hid (dv_stands h2 k (by have := hx.2; show k < s.n; omega))
      have O2 := Lib.hid (show DevO b p { s with rd := s.rd / 2 } S (w.setCell ⟨b, 4, none⟩ (.int .u64 ((s.rd / 2 : Nat) : Int))) from ⟨R, h2, i.same rfl⟩)
      have HO := Lib.hid ho
      have est : standsD { s with rd := s.rd / 2 } k = standsD s k := rfl
      rw [est] at ST
      clear h h2 hx e0 i ho c4 f4 est
      have hq : s.rd % 2 = 1 ∨ s.rd % 2 = 0 := by omega
      rcases hq with hq | hq
      · rw [hq] at N ⊢
        simp only [if_true, Int.reduceEq, if_false]
        clear hq
        go_enter Try.func27, Try.ntmps27
        go_wp2_with fail
        refine RD.out.mono ?_
        rintro e w' ⟨rfl, rfl⟩
        go_wp2_with fail
        refine HH.out.mono ?_
        rintro e w' ⟨rfl, rfl⟩
        go_wp2_with fail
        refine N.out.mono ?_
        rintro e w' ⟨rfl, rfl⟩
        go_wp2
        go_ret2
        exact ⟨_, rfl, row_nil8 _ _, Rep.mono O2.out (fun k x => .inl x), KC.out⟩
      · rw [hq] at N ⊢
        simp only [Nat.zero_ne_one, if_false, if_true]
        clear hq
        generalize w.setCell ⟨b, 4, none⟩ (.int .u64 ((s.rd / 2 : Nat) : Int)) = wx at *
        go_enter Try.func27, Try.ntmps27
        go_wp2_with fail
        refine RD.out.mono ?_
        rintro e w' ⟨rfl, rfl⟩
        go_wp2_with fail
        refine HH.out.mono ?_
        rintro e w' ⟨rfl, rfl⟩
        go_wp2_with fail
        refine N.out.mono ?_
        rintro e w' ⟨rfl, rfl⟩
        go_wp2_with fail
        refine ST.out.mono ?_
        rintro e w' ⟨⟨v, rfl, hv⟩, rfl⟩
        have C := Lib.hid (clone_any hv.rd (by have := hv.size; omega))
        clear hv
        go_wp2_with fail
        refine C.out.mono ?_
        rintro e w2 ⟨u, rfl, hr, hb⟩
        have QR := Lib.hid hr
        have B := Lib.hid hb
        clear hr hb
        go_wp2
        go_ret2
        have KB : Keeps S _ w2 := Below.keeps B.out S (fun k hk => by have := HO.out k hk; have := SZ.out; omega)
        exact ⟨_, rfl, by rw [← SZ.out]; exact QR.out, Rep.mono (Rep.keep O2.out (fun k hk => by have := HO.out k hk; have := SZ.out; omega) (Keeps.of_below B.out) (fun k hk => by have := HO.out k hk; have := SZ.out; omega)) (fun k x => .inl x), KC.out.trans KB (fun n x => .inl x)⟩
    · have e0 : decide (hasD s x) = false := decide_eq_false hx
      rw [e0] at HH
      simp only [if_neg hx, Int.reduceEq, if_false]
      clear h hx e0 i ho
      go_enter Try.func27, Try.ntmps27
      go_wp2_with fail
      refine RD.out.mono ?_
      rintro e w' ⟨rfl, rfl⟩
      go_wp2_with fail
      refine HH.out.mono ?_
      rintro e w' ⟨rfl, rfl⟩
      go_wp2
      go_ret2
      exact ⟨_, rfl, row_nil8 _ _, O.out, Keeps.refl _ _⟩
  · rw [hoff] at RD
    rw [if_pos (show true = true from rfl)] at RD
    simp only [if_true, Int.reduceEq, if_false]
    clear h i ho
    go_enter Try.func27, Try.ntmps27
    go_wp2_with fail
    refine RD.out.mono ?_
    rintro e w' ⟨rfl, rfl⟩
    go_wp2
    go_ret2
    exact ⟨_, rfl, row_nil8 _ _, O.out, Keeps.refl _ _⟩
end

end Go.Proofs.Ytlfeglnacphhlaa
