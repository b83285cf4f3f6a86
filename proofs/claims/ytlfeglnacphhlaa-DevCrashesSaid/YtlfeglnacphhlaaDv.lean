/- The program's device: what stands in memory; walks of real, Size, has, ready, stands. -/
import Derived.Test.YtlfeglnacphhlaaDp
namespace Go.Proofs.Ytlfeglnacphhlaa
open Go.RowKit Go.Maps
set_option linter.unusedVariables false

/-- The slice v is a row of 64 octets that reads as c. -/
def Byt (w : World) (v : Value) (c : ByteArray) : Prop :=
  ∃ g cap cur f, v = .slice (some ⟨g, 0, none⟩) 64 cap ∧ w.heap[g]? = some (.cells cur 5 f) ∧ c.size = 64 ∧ Lib.Bytes w g 0 c

theorem Byt.rd {w : World} {v : Value} {c : ByteArray} (h : Byt w v c) : RdB w v c := by
  obtain ⟨g, cap, cur, f, hv, hb, hs, hc⟩ := h
  exact .inr ⟨g, 0, cap, by rw [hs]; exact hv, hc⟩
theorem Byt.size {w : World} {v : Value} {c : ByteArray} (h : Byt w v c) : c.size = 64 := by
  obtain ⟨g, cap, cur, f, hv, hb, hs, hc⟩ := h
  exact hs
theorem Byt.keep {T : Nat → Prop} {w w' : World} {v : Value} {c : ByteArray} (h : Byt w v c) (k : Keeps T w w') (hT : ∀ g, v.ownBlock = some g → ¬ T g) : Byt w' v c := by
  obtain ⟨g, cap, cur, f, hv, hb, hs, hc⟩ := h
  have hg := hT g (by rw [hv]; rfl)
  exact ⟨g, cap, cur, f, hv, k.blk hb hg, hs, fun i hi => k.cell (hc i hi) hg⟩
theorem Byt.lt {w : World} {v : Value} {c : ByteArray} (h : Byt w v c) : ∀ g, v.ownBlock = some g → g < w.heap.size := by
  obtain ⟨g, cap, cur, f, hv, hb, hs, hc⟩ := h
  intro k e
  rw [hv] at e
  obtain rfl : g = k := by simpa [Value.ownBlock] using e
  exact blk_lt' hb
theorem Byt.ne_arr {w : World} {v : Value} {c : ByteArray} (h : Byt w v c) {b L : Nat} {t : TypeId} {F : Nat → Value} (a : Arr w b t L F) (ht : t ≠ 5) : v.ownBlock ≠ some b := by
  obtain ⟨g, cap, cur, f, hv, hb, hs, hc⟩ := h
  obtain ⟨cs, hb', _⟩ := a
  rw [hv]
  intro e
  obtain rfl : g = b := by simpa [Value.ownBlock] using e
  rw [hb] at hb'
  simp at hb'
  exact ht hb'.2.1.symm
theorem Byt.ne_row {w : World} {v : Value} {c : ByteArray} (h : Byt w v c) {base sz n : Nat} {t : TypeId} {u : Value} {xs : List Value} (a : w.ownsRow base t sz u n xs) (ht : t ≠ 5) : ∀ g, u.ownBlock = some g → v.ownBlock ≠ some g := by
  obtain ⟨g, cap, cur, f, hv, hb, hs, hc⟩ := h
  intro k e e'
  rw [hv] at e'
  obtain rfl : g = k := by simpa [Value.ownBlock] using e'
  rcases a.2 with ⟨e1, _⟩ | ⟨g', cap', cur', e1, _, hb', _⟩
  · rw [e1] at e; simp [Value.ownBlock] at e
  · rw [e1] at e
    obtain rfl : g' = g := by simpa [Value.ownBlock] using e
    rw [hb] at hb'
    simp at hb'
    exact ht hb'.2.1.symm
theorem Byt.ne_map {w : World} {v : Value} {c : ByteArray} (h : Byt w v c) {P : Program} {k : TypeId} {q : IntKind} {R : Value → Option (DataW Unit × List MemPlace)} {b n : Nat} {M : Int → Option Value} (a : MapV P k q R w b n M) : v.ownBlock ≠ some b := by
  obtain ⟨g, cap, cur, f, hv, hb, hs, hc⟩ := h
  obtain ⟨D, ⟨es, clock, hb', _⟩, _⟩ := a
  rw [hv]
  intro e
  obtain rfl : g = b := by simpa [Value.ownBlock] using e
  rw [hb] at hb'
  cases hb'
theorem Byt.of_row {w : World} {base : Nat} {v : Value} {s : ByteArray} (h : w.ownsRow base 5 1 v s.size (octV s)) (hs : s.size = 64) : Byt w v s := by
  have hr := RdB.of_row h
  rcases h.2 with h0 | ⟨g, cap, cur, hv, hb, hc, _⟩
  · omega
  · rcases hr with x | ⟨g', o, c, hv', hB⟩
    · omega
    · rw [hv] at hv'
      simp at hv'
      obtain ⟨⟨rfl, rfl⟩, rfl⟩ := hv'
      exact ⟨g, cap, cur, (0, 0), by rw [hv, hs], hc, hs, hB⟩

/-- What a device knows: how many sectors; of each what is fixed, the loose writes, whether it is rotten; which next calls fail; more than its loose writes and rotten sectors. -/
structure DS where
  n : Nat
  fixed : Nat → ByteArray
  loose : Nat → List ByteArray
  rot : Nat → Bool
  rd : Nat
  wr : Nat
  lim : Nat

/-- Where a device's parts lie. -/
structure DR where
  F : Nat
  m : Nat
  r : Nat
  nl : Nat
  nr : Nat
  FV : Nat → Value
  LV : Nat → Value
  LG : Nat → List Value

def dvF (p : Nat) (R : DR) (s : DS) : Nat → Value
  | 0 => .pointer (some ⟨p, 0, none⟩)
  | 1 => .slice (some ⟨R.F, 0, none⟩) s.n s.n
  | 2 => .map (some R.m)
  | 3 => .map (some R.r)
  | 4 => .int .u64 (s.rd : Int)
  | _ => .int .u64 (s.wr : Int)

def looseM (R : DR) (s : DS) (x : Int) : Option Value := if 0 ≤ x ∧ x < s.n ∧ s.loose x.toNat ≠ [] then some (R.LV x.toNat) else none
def rotM (s : DS) (x : Int) : Option Value := if 0 ≤ x ∧ x < s.n ∧ s.rot x.toNat = true then some (.int .i64 1) else none

abbrev LMap (w : World) (b n : Nat) (M : Int → Option Value) : Prop := MapV Try.prog 3 .i64 hdr w b n M
abbrev IMap (w : World) (b n : Nat) (M : Int → Option Value) : Prop := MapV Try.prog 3 .i64 (plainElem Try.prog 3) w b n M

structure Dv (w : World) (b p : Nat) (R : DR) (s : DS) : Prop where
  top : Arr w b 73 6 (dvF p R s)
  fx : Arr w R.F 44 s.n R.FV
  fb : ∀ i, i < s.n → Byt w (R.FV i) (s.fixed i)
  lm : LMap w R.m R.nl (looseM R s)
  lo : ∀ i, i < s.n → w.ownsRow 0 44 1 (R.LV i) (s.loose i).length (R.LG i)
  lb : ∀ i, i < s.n → ∀ (j : Nat) (c : ByteArray), (s.loose i)[j]? = some c → ∃ v, (R.LG i)[j]? = some v ∧ Byt w v c
  le : ∀ i, i < s.n → s.loose i = [] → R.LV i = .slice none 0 0
  rm : IMap w R.r R.nr (rotM s)
  ap : ∀ i, i < s.n → (R.LV i).ownBlock ≠ some R.F
  aa : ∀ i j, i < s.n → j < s.n → i ≠ j → ∀ g, (R.LV i).ownBlock = some g → (R.LV j).ownBlock ≠ some g
  mr : R.m ≠ R.r
  ll : ∀ i, i < s.n → (s.loose i).length ≤ s.lim
  nl : R.nl ≤ s.lim
  nr : R.nr ≤ s.lim
  n1 : s.n ≤ 4096
  r1 : s.rd < 18446744073709551616
  w1 : s.wr < 18446744073709551616

/-- A device's blocks. -/
structure DvIn (b : Nat) (R : DR) (s : DS) (S : Nat → Prop) : Prop where
  b : S b
  F : S R.F
  m : S R.m
  r : S R.r
  fv : ∀ i, i < s.n → ∀ g, (R.FV i).ownBlock = some g → S g
  lv : ∀ i, i < s.n → ∀ g, (R.LV i).ownBlock = some g → S g
  lg : ∀ i, i < s.n → ∀ v, v ∈ R.LG i → ∀ g, v.ownBlock = some g → S g

theorem DvIn.mono {b : Nat} {R : DR} {s : DS} {S T : Nat → Prop} (h : DvIn b R s S) (hs : ∀ k, S k → T k) : DvIn b R s T :=
  ⟨hs _ h.b, hs _ h.F, hs _ h.m, hs _ h.r, fun i hi g e => hs _ (h.fv i hi g e), fun i hi g e => hs _ (h.lv i hi g e), fun i hi v hv g e => hs _ (h.lg i hi v hv g e)⟩

/-- The device at b on the power at p. -/
def DevO (b p : Nat) (s : DS) (S : Nat → Prop) (w : World) : Prop := ∃ R, Dv w b p R s ∧ DvIn b R s S

theorem row_keep {w w' : World} {T : Nat → Prop} {base sz n : Nat} {t : TypeId} {v : Value} {xs : List Value} (h : w.ownsRow base t sz v n xs) (k : Keeps T w w') (hT : ∀ g, v.ownBlock = some g → ¬ T g) : w'.ownsRow base t sz v n xs := by
  refine ⟨h.1, ?_⟩
  rcases h.2 with x | ⟨g, cap, cur, hv, hb, hc, r⟩
  · exact .inl x
  · exact .inr ⟨g, cap, cur, hv, hb, k.blk hc (hT g (by rw [hv]; rfl)), r⟩

theorem Dv.keep {T : Nat → Prop} {w w' : World} {b p : Nat} {R : DR} {s : DS} {S : Nat → Prop} (h : Dv w b p R s) (i : DvIn b R s S) (k : Keeps T w w') (hT : ∀ j, S j → ¬ T j) : Dv w' b p R s :=
  { h with
    top := h.top.keep k (hT _ i.b)
    fx := h.fx.keep k (hT _ i.F)
    fb := fun x hx => (h.fb x hx).keep k (fun g e => hT _ (i.fv x hx g e))
    lm := h.lm.keep k (hT _ i.m)
    lo := fun x hx => row_keep (h.lo x hx) k (fun g e => hT _ (i.lv x hx g e))
    lb := fun x hx j c hc => by
      obtain ⟨v, hv, hb⟩ := h.lb x hx j c hc
      exact ⟨v, hv, hb.keep k (fun g e => hT _ (i.lg x hx v (List.mem_of_getElem? hv) g e))⟩
    rm := h.rm.keep k (hT _ i.r) }

instance (b p : Nat) (s : DS) : Rep (DevO b p s) where
  keep := fun ⟨R, h, i⟩ _ k ht => ⟨R, h.keep i k ht, i⟩
  mono := fun ⟨R, h, i⟩ hs => ⟨R, h, i.mono hs⟩

theorem Dv.drewN {w : World} {b p : Nat} {R : DR} {s : DS} (h : Dv w b p R s) (n : Nat) : Dv (w.drewN n) b p R s :=
  h.keep (S := fun _ => True) (T := fun _ => False) ⟨trivial, trivial, trivial, trivial, fun _ _ _ _ => trivial, fun _ _ _ _ => trivial, fun _ _ _ _ _ _ => trivial⟩ ((Keeps.refl _ w).drewN n) (fun _ _ x => x)

theorem DevO.drewN {w : World} {b p : Nat} {s : DS} {S : Nat → Prop} (h : DevO b p s S w) (n : Nat) : DevO b p s S (w.drewN n) := by
  obtain ⟨R, h, i⟩ := h
  exact ⟨R, h.drewN n, i⟩

section
variable {w : World} {b p : Nat} {R : DR} {s : DS} {ps : PS}

theorem Dv.c0 (h : Dv w b p R s) : w.cell? ⟨b, 0, none⟩ = some (.pointer (some ⟨p, 0, none⟩)) := h.top.cell (i := 0) (by omega)
theorem Dv.c1 (h : Dv w b p R s) : w.cell? ⟨b, 1, none⟩ = some (.slice (some ⟨R.F, 0, none⟩) s.n s.n) := h.top.cell (i := 1) (by omega)
theorem Dv.c2 (h : Dv w b p R s) : w.cell? ⟨b, 2, none⟩ = some (.map (some R.m)) := h.top.cell (i := 2) (by omega)
theorem Dv.c3 (h : Dv w b p R s) : w.cell? ⟨b, 3, none⟩ = some (.map (some R.r)) := h.top.cell (i := 3) (by omega)
theorem Dv.c4 (h : Dv w b p R s) : w.cell? ⟨b, 4, none⟩ = some (.int .u64 (s.rd : Int)) := h.top.cell (i := 4) (by omega)
theorem Dv.c5 (h : Dv w b p R s) : w.cell? ⟨b, 5, none⟩ = some (.int .u64 (s.wr : Int)) := h.top.cell (i := 5) (by omega)

theorem dv_real (h : Dv w b p R s) : Calls Try.prog 45 #[.pointer (some ⟨b, 0, none⟩)] w fun e w' => e = .returned (.bool true) ∧ w = w' := by
  have c0 := h.c0
  clear h
  go_enter Try.func45, Try.ntmps45
  go_wp2
  go_ret
  exact ⟨rfl, rfl⟩

theorem dv_none (w : World) : Calls Try.prog 45 #[.pointer none] w fun e w' => e = .returned (.bool false) ∧ w = w' := by
  go_enter Try.func45, Try.ntmps45
  go_wp2
  go_ret
  exact ⟨rfl, rfl⟩

/-- A device that nobody made. -/
theorem dv_odd {w : World} {b : Nat} (c0 : w.cell? ⟨b, 0, none⟩ = some (.pointer none)) : Calls Try.prog 45 #[.pointer (some ⟨b, 0, none⟩)] w fun e w' => e = .returned (.bool false) ∧ w = w' := by
  go_enter Try.func45, Try.ntmps45
  go_wp2
  go_ret
  exact ⟨rfl, rfl⟩

theorem dv_size (h : Dv w b p R s) : Calls Try.prog 21 #[.pointer (some ⟨b, 0, none⟩)] w fun e w' => e = .returned (.int .i64 (s.n : Int)) ∧ w = w' := by
  have c1 := h.c1
  have RR := Lib.hid (dv_real h)
  clear h
  go_enter Try.func21, Try.ntmps21
  go_wp2_with fail
  refine RR.out.mono ?_
  rintro e w' ⟨rfl, rfl⟩
  go_wp2
  go_ret
  exact ⟨rfl, rfl⟩

theorem dv_has (h : Dv w b p R s) (x : Int) : Calls Try.prog 34 #[.pointer (some ⟨b, 0, none⟩), .int .i64 x] w fun e w' => e = .returned (.bool (decide (0 ≤ x) && decide (x < s.n))) ∧ w = w' := by
  have c1 := h.c1
  clear h
  by_cases h0 : 0 ≤ x
  · have e0 : decide (0 ≤ x) = true := decide_eq_true h0
    rw [e0, Bool.true_and]
    clear h0
    go_enter Try.func34, Try.ntmps34
    go_wp2
    go_ret
    exact ⟨rfl, rfl⟩
  · have e0 : decide (0 ≤ x) = false := decide_eq_false h0
    rw [e0, Bool.false_and]
    clear h0
    go_enter Try.func34, Try.ntmps34
    go_wp2
    go_ret
    exact ⟨rfl, rfl⟩

theorem dv_ready (h : Dv w b p R s) (hp : Pow w p ps) : Calls Try.prog 32 #[.pointer (some ⟨b, 0, none⟩)] w fun e w' => e = .returned (.int .i64 (if ps.off = true then 80 else 0)) ∧ w = w' := by
  have c0 := h.c0
  have q1 := hp.c1
  have RR := Lib.hid (dv_real h)
  clear h hp
  cases ho : ps.off
  all_goals
    rw [ho] at q1
    clear ho
    go_enter Try.func32, Try.ntmps32
    go_wp2_with fail
    refine RR.out.mono ?_
    rintro e w' ⟨rfl, rfl⟩
    go_wp2
    go_ret
    exact ⟨rfl, rfl⟩

/-- A sector as it stands. -/
def standsD (s : DS) (i : Nat) : ByteArray := (s.loose i).getLast?.getD (s.fixed i)

theorem zeroL (w : World) : (zeroValue 68).run Try.prog w = .ok (.slice none 0 0) w := by kernel_rfl
theorem zeroI (w : World) : (zeroValue 3).run Try.prog w = .ok (.int .i64 0) w := by kernel_rfl

theorem Dv.look (h : Dv w b p R s) (i : Nat) (hi : i < s.n) : (Instr.lookup 69 (.map (some R.m)) (.int .i64 (i : Int)) false).run Try.prog w = .ok (R.LV i) w := by
  have hw : (Lit.int .i64 (i : Int)).wf = true := by
    have := h.n1
    exact WalkArith.wf_i64 (by omega)
  rw [h.lm.look Try.underlying3 Try.underlying69 hdr_told (zeroL w) (hdr_nil) (i : Int) hw]
  unfold looseM
  by_cases hl : s.loose i = []
  · rw [if_neg (by simp [hl]), h.le i hi hl]; rfl
  · rw [if_pos ⟨by omega, by omega, by simpa using hl⟩]; rfl

theorem Dv.lookR (h : Dv w b p R s) (i : Nat) (hi : i < s.n) : (Instr.lookup 70 (.map (some R.r)) (.int .i64 (i : Int)) false).run Try.prog w = .ok (.int .i64 (if s.rot i = true then 1 else 0)) w := by
  have hw : (Lit.int .i64 (i : Int)).wf = true := by
    have := h.n1
    exact WalkArith.wf_i64 (by omega)
  rw [h.rm.look Try.underlying3 Try.underlying70 (plain_told Try.underlying3) (zeroI w) (plainElem_int Try.underlying3 (by decide)) (i : Int) hw]
  unfold rotM
  by_cases hl : s.rot i = true
  · rw [if_pos ⟨by omega, by omega, by simpa using hl⟩, if_pos hl]; rfl
  · rw [if_neg (by simp [hl]), if_neg hl]; rfl

theorem dv_stands (h : Dv w b p R s) (i : Nat) (hi : i < s.n) :
    Calls Try.prog 46 #[.pointer (some ⟨b, 0, none⟩), .int .i64 (i : Int)] w fun e w' => (∃ v, e = .returned v ∧ Byt w v (standsD s i)) ∧ w = w' := by
  have c1 := h.c1
  have c2 := h.c2
  have L := h.look i hi
  have hlo := h.lo i hi
  rcases hlo.2 with ⟨hv, h0⟩ | ⟨g, cap, cur, hv, -, hb, hc, hm, -, -⟩
  · have cF := h.fx.cell hi
    have e0 : s.loose i = [] := List.eq_nil_of_length_eq_zero h0
    have FB := Lib.hid (show Byt w (R.FV i) (standsD s i) by unfold standsD; rw [e0]; exact h.fb i hi)
    rw [hv] at L
    have i1 : (i : Int) < (s.n : Int) := by omega
    clear h hlo hv h0 e0
    go_enter Try.func46, Try.ntmps46
    go_wp2
    go_ret
    exact ⟨⟨_, rfl, FB.out⟩, rfl⟩
  · rw [hv] at L hlo
    by_cases h0 : (s.loose i).length = 0
    · have e0 : s.loose i = [] := List.eq_nil_of_length_eq_zero h0
      have := h.le i hi e0
      rw [hv] at this; cases this
    · obtain ⟨k, hk⟩ : ∃ k, (s.loose i).length = k + 1 := ⟨(s.loose i).length - 1, by omega⟩
      obtain ⟨c, hcc⟩ : ∃ c, (s.loose i)[k]? = some c := ⟨_, List.getElem?_eq_getElem (by omega)⟩
      obtain ⟨v, hv1, hB⟩ := h.lb i hi k c hcc
      have e1 : standsD s i = c := by
        unfold standsD
        rw [List.getLast?_eq_getElem?, hk, show k + 1 - 1 = k by omega, hcc]; rfl
      have cL : w.cell? ⟨g, k, none⟩ = some v := by
        have := hlo.cells (g := g) rfl k v hv1
        rw [addr_add] at this; simpa using this
      rw [← e1] at hB
      have FB := Lib.hid hB
      obtain ⟨gv, capv, curv, fv, rfl, -⟩ := hB
      rw [hk] at L
      have e2 : decide (0 < (k : Int) + 1) = true := decide_eq_true (by omega)
      have hkb : (k : Int) ≤ 9223372036854775806 := by simp only [maxLen] at hm; omega
      clear h hlo hv h0 hcc e1 hv1 hb hm hk hc hi
      go_enter Try.func46, Try.ntmps46
      go_wp2
      go_ret
      exact ⟨⟨_, rfl, FB.out⟩, rfl⟩
end

end Go.Proofs.Ytlfeglnacphhlaa
