/- The sketch of the program: Add, Sum, Halve, Clear, New. -/
import Derived.Test.YtbhcpedokgdipaaSkW
import Derived.Lib.SliceRun
namespace Go.Proofs.Ytbhcpedokgdipaa
open Go.RowKit
set_option linter.unusedVariables false

theorem Sk.setRow {w w' : World} {b : Nat} {g : Nat → Nat} {seed : Int} {width L : Nat} {W : Nat → Nat → Nat} (h : Sk w b g seed width L W) {k : Nat} {V : Nat → Nat} (hk : k < 4) (ha : Arr w' (g k) 23 L (wd V)) (kp : Keeps (fun j => j = g k) w w') (hv : ∀ q, V q < 18446744073709551616) :
    Sk w' b g seed width L (fun r => if r = k then V else W r) where
  top := h.top.keep kp (fun e => (h.top.ne (h.row k hk) (by decide)) e)
  row := fun r hr => by
    by_cases e : r = k
    · subst e; simpa using ha
    · simp only [e, if_false]; exact (h.row r hr).keep kp (fun e' => e (h.inj r k hr hk e'))
  inj := h.inj
  wds := fun r q => by
    by_cases e : r = k
    · subst e; simpa using hv q
    · simp only [e, if_false]; exact h.wds r q
  w1 := h.w1
  w2 := h.w2
  hl := h.hl
  s0 := h.s0
  s1 := h.s1

theorem Sk.congr {w : World} {b : Nat} {g : Nat → Nat} {seed : Int} {width L : Nat} {W V : Nat → Nat → Nat} (h : Sk w b g seed width L W) (e : ∀ r, W r = V r) : Sk w b g seed width L V := by
  have : W = V := funext e
  rw [← this]; exact h

def rowsOf (g : Nat → Nat) : Nat → Prop := fun j => ∃ r, r < 4 ∧ j = g r

/-- The words behind one more of a key, in the first k rows. -/
def addW (W : Nat → Nat → Nat) (seed key : Int) (width k : Nat) : Nat → Nat → Nat := fun r => if r < k then moreW (W r) (pickN seed key width r) else W r

theorem add_any {w : World} {b : Nat} {g : Nat → Nat} {seed : Int} {width L : Nat} {W : Nat → Nat → Nat} (h : Sk w b g seed width L W) (key : Int) (k0 : 0 ≤ key) (k1 : key ≤ 18446744073709551615) :
    Calls Try.prog 18 #[.pointer (some ⟨b, 0, none⟩), .int .u64 key] w fun e w' => e = .returned (.int .i64 (least (fun r => cnt (addW W seed key width 4 r) (pickN seed key width r)) 4 : Int)) ∧
      Sk w' b g seed width L (addW W seed key width 4) ∧ Keeps (rowsOf g) w w' := by
  have c0 : w.cell? ⟨b, 0, none⟩ = some (.int .u64 seed) := h.top.cell (i := 0) (by omega)
  have c1 : w.cell? ⟨b, 1, none⟩ = some (.int .i64 (width : Int)) := h.top.cell (i := 1) (by omega)
  have R := Lib.hid (real_any h)
  have A := Lib.hid (fun w => all4_any seed key (width : Int) h.s0 h.s1 k0 k1 (by have := h.w1; omega) (by have := h.w2; omega) w)
  have O0 := Lib.hid (fun w1 (hb : Below w.drew.heap.size w.drew w1) => (hb.cell (World.block_lt_of_cell? w _ c0)).trans c0)
  have O1 := Lib.hid (fun w1 (hb : Below w.drew.heap.size w.drew w1) => (hb.cell (World.block_lt_of_cell? w _ c1)).trans c1)
  have H := Lib.hid h
  clear h
  go_enter Try.func18, Try.ntmps18
  go_wp2_with fail
  refine R.out.mono ?_
  rintro e w' ⟨rfl, rfl⟩
  go_wp2_with fail
  go_region_held3 (fun w' => w'.cell? ⟨b, 0, none⟩ = some (.int .u64 seed) ∧ w'.cell? ⟨b, 1, none⟩ = some (.int .i64 (width : Int))) (first | go_keep | exact ⟨d0, d1⟩) (first | (go_at_call 55; (with_reducible refine (A.out _).mono ?_); rintro e w1 ⟨a, c, rfl, ha, hc, hp, hb⟩; have d0 := O0.out _ hb; have d1 := O1.out _ hb))
  have H1 := Lib.hid (Sk.below H.out.drew hb)
  have B1 := Lib.hid hb
  have P1 := Lib.hid hp
  have HA := Lib.hid (fun r (hr : r < 4) => (show g r ≠ a by have := (H.out.row r hr).lt; have := hb.size; simp at ha; omega))
  clear hb hp A O0 O1 R c0 c1 d0 d1
  go_wp2
  go_loopw [21] (fun i wr => ∃ k : Nat, k ≤ 4 ∧ i = .int .i64 (k : Int) ∧ Sk wr b g seed width L (addW W seed key width k) ∧ Keeps (rowsOf g) w1 wr) (fun i _ => 4 - (intOf i).toNat)
  case atStart => exact ⟨0, Nat.zero_le _, rfl, H1.out.congr (fun r => by simp [addW]), Keeps.refl _ _⟩
  case round =>
    obtain ⟨k, hk, rfl, hsk, hkp⟩ := hrel
    have HS := Lib.hid hsk
    have HK := Lib.hid hkp
    clear hsk hkp
    by_cases hk4 : k < 4
    · have h1 : (k : Int) < 4 := by omega
      have hpk := HK.out.cell (P1.out k hk4) (fun ⟨r, hr, e⟩ => HA.out r hr e.symm)
      rw [pickN_int _ _ _ _ H1.out.w1] at hpk
      have hlt := pickN_lt seed key width k H1.out.w1
      have hrow : wr.cell? ⟨b, 2 + k, none⟩ = some (.slice (some ⟨g k, 0, none⟩) L L) := by
        rw [show 2 + k = k + 2 by omega]; exact HS.out.top.cell (i := k + 2) (by omega)
      have hWk : addW W seed key width k k = W k := by simp [addW]
      have G := Lib.hid (more_any (g k) L (addW W seed key width k k) wr (HS.out.row k hk4) (by have := H1.out.hl; have := H1.out.w2; omega) (pickN seed key width k) (by have := H1.out.hl; omega) (HS.out.wds k _))
      clear hlt
      go_wp2_with (first | (go_at_call 58; (with_reducible refine G.out.mono ?_); rintro e w' ⟨rfl, ha', hk'⟩))
      have HA' := Lib.hid ha'
      have HK' := Lib.hid hk'
      clear ha' hk'
      go_wp2
      go_roundw
      case rel =>
        refine ⟨k + 1, by omega, by simp, (HS.out.setRow hk4 HA'.out HK'.out (moreW_lt (fun q => HS.out.wds k q))).congr (fun r => ?_), HK.out.trans HK'.out (fun n hn => .inl ⟨k, hk4, hn⟩)⟩
        unfold addW
        by_cases e : r = k
        · subst e; simp
        · simp only [e, if_false]
          by_cases e2 : r < k
          · simp [e2, show r < k + 1 by omega]
          · simp [e2, show ¬ r < k + 1 by omega]
      case measure => simp only [intOf]; omega
    · have h1 : ¬ (k : Int) < 4 := by omega
      obtain rfl : k = 4 := by omega
      have C := Lib.hid (count_any HS.out key k0 k1)
      go_wp2_with fail
      refine C.out.mono ?_
      rintro e w2 ⟨rfl, hb2⟩
      have HB := Lib.hid hb2
      clear hb2
      go_wp2
      go_ret
      refine ⟨rfl, HS.out.below HB.out, ?_⟩
      have e1 : Keeps (rowsOf g) w w1 := (Keeps.of_drewN _ ⟨1, rfl⟩).trans (Keeps.of_below B1.out) (fun n hn => .inr hn)
      have e2 : Keeps (rowsOf g) w wr := e1.trans HK.out (fun n hn => .inl hn)
      exact e2.trans (Keeps.of_below HB.out) (fun n hn => .inr (by have := e2.size; omega))

/-- A cell of an array of four rows, its number a variable. -/
theorem idx4 (A : Nat → Value) (k : Nat) (hk : k < 4) (w : World) : (Instr.index 40 (.agg #[A 0, A 1, A 2, A 3]) (.int .i64 (k : Int))).run Try.prog w = .ok (A k) w := by
  have : k = 0 ∨ k = 1 ∨ k = 2 ∨ k = 3 := by omega
  rcases this with rfl | rfl | rfl | rfl <;> (simp [Instr.index, run_underlying Try.underlying40, asIntOf, go_sem]; done)

def sumN (c : Nat → Nat) : Nat → Nat
  | 0 => 0
  | n + 1 => sumN c n + c n
theorem sumN_le {c : Nat → Nat} {m : Nat} (n : Nat) (h : ∀ i, i < n → c i ≤ m) : sumN c n ≤ m * n := by
  induction n with
  | zero => exact Nat.zero_le _
  | succ n ih =>
    have := ih (fun i hi => h i (by omega))
    have h2 := h n (by omega)
    simp only [sumN, Nat.mul_succ]; omega
theorem sumN_congr {c d : Nat → Nat} (n : Nat) (h : ∀ i, i < n → c i = d i) : sumN c n = sumN d n := by
  induction n with
  | zero => rfl
  | succ n ih => simp only [sumN]; rw [ih (fun i hi => h i (by omega)), h n (by omega)]

set_option maxRecDepth 100000 in
theorem sum_any {w : World} {b : Nat} {g : Nat → Nat} {seed : Int} {width L : Nat} {W : Nat → Nat → Nat} (h : Sk w b g seed width L W) :
    Calls Try.prog 21 #[.pointer (some ⟨b, 0, none⟩)] w fun e w' => e = .returned (.int .i64 (sumN (fun r => sumN (fun i => cnt (W r) i) width) 4 : Int)) ∧ w' = w := by
  have c1 : w.cell? ⟨b, 1, none⟩ = some (.int .i64 (width : Int)) := h.top.cell (i := 1) (by omega)
  have q0 : w.cell? ⟨b, 2, none⟩ = some (.slice (some ⟨g 0, 0, none⟩) L L) := h.top.cell (i := 2) (by omega)
  have q1 : w.cell? ⟨b, 3, none⟩ = some (.slice (some ⟨g 1, 0, none⟩) L L) := h.top.cell (i := 3) (by omega)
  have q2 : w.cell? ⟨b, 4, none⟩ = some (.slice (some ⟨g 2, 0, none⟩) L L) := h.top.cell (i := 4) (by omega)
  have q3 : w.cell? ⟨b, 5, none⟩ = some (.slice (some ⟨g 3, 0, none⟩) L L) := h.top.cell (i := 5) (by omega)
  have R := Lib.hid (real_any h)
  have H := Lib.hid h
  clear h
  go_enter Try.func21, Try.ntmps21
  go_wp2_with fail
  refine R.out.mono ?_
  rintro e w' ⟨rfl, rfl⟩
  go_wp2
  go_loopw [3, 14] (fun n i wr => ∃ k : Nat, k ≤ 4 ∧ i = .int .i64 (k : Int) ∧ n = .int .i64 (sumN (fun r => sumN (fun i => cnt (W r) i) width) k : Int) ∧ wr = w) (fun _ i _ => 4 - (intOf i).toNat)
  case atStart => exact ⟨0, Nat.zero_le _, rfl, rfl, rfl⟩
  case round =>
    obtain ⟨k, hk, rfl, rfl, rfl⟩ := hrel
    by_cases hk4 : k < 4
    · have h1 : (k : Int) < 4 := by omega
      have hix := idx4 (fun r => .slice (some ⟨g r, 0, none⟩) L L) k hk4 wr
      have hSk := H.out.row k hk4
      have hL : L ≤ 4096 := by have := H.out.hl; have := H.out.w2; omega
      have hbd : sumN (fun r => sumN (fun i => cnt (W r) i) width) k ≤ 61440 * k := sumN_le k (fun r hr => by
        have := sumN_le (c := fun i => cnt (W r) i) (m := 15) width (fun i hi => by have := cnt_lt (W r) i; omega)
        have := H.out.w2; omega)
      have G := Lib.hid (fun (i : Nat) (hi : i < width) => get_any (g k) L (W k) wr hSk hL i (by have := H.out.hl; omega) (H.out.wds k _))
      have hw2 := H.out.w2
      generalize hS : sumN (fun r => sumN (fun i => cnt (W r) i) width) k = S at *
      have hSe : sumN (fun r => sumN (fun i => cnt (W r) i) width) (k + 1) = S + sumN (fun i => cnt (W k) i) width := by rw [← hS]; rfl
      have HSE := Lib.hid hSe
      clear hSe hS hSk hL q0 q1 q2 q3
      go_wp2
      go_loopw [3, 21] (fun n i wr' => ∃ j : Nat, j ≤ width ∧ i = .int .i64 (j : Int) ∧ n = .int .i64 ((S + sumN (fun i => cnt (W k) i) j : Nat) : Int) ∧ wr' = wr) (fun _ i _ => width - (intOf i).toNat)
      case atStart => exact ⟨0, Nat.zero_le _, rfl, rfl, rfl⟩
      case round =>
        obtain ⟨j, hj, rfl, rfl, rfl⟩ := hrel
        by_cases hjw : j < width
        · have h2 : (j : Int) < (width : Int) := by omega
          have h3 := sumN_le (c := fun i => cnt (W k) i) (m := 15) j (fun i hi => by have := cnt_lt (W k) i; omega)
          have h4 := cnt_lt (W k) j
          have h5 : (j : Int) + 1 ≤ 9223372036854775807 := by omega
          have hse : sumN (fun i => cnt (W k) i) (j + 1) = sumN (fun i => cnt (W k) i) j + cnt (W k) j := rfl
          have hwr : wrap64 (((S + sumN (fun i => cnt (W k) i) j : Nat) : Int) + (cnt (W k) j : Int)) = ((S + sumN (fun i => cnt (W k) i) (j + 1) : Nat) : Int) := by rw [hse]; simp only [wrap64]; omega
          go_wp2_with (first | (go_at_call 56; (with_reducible refine (G.out j hjw).mono ?_); rintro e w' ⟨rfl, rfl⟩))
          go_roundw
          case rel => refine ⟨j + 1, by omega, by simp, ?_⟩; rw [hse]; simp; omega
          case measure => simp only [intOf]; omega
        · have h2 : ¬ (j : Int) < (width : Int) := by omega
          obtain rfl : j = width := by omega
          go_wp2
          go_roundw
          case rel => refine ⟨k + 1, by omega, by simp, ?_⟩; rw [HSE.out]; simp
          case measure => simp only [intOf]; omega
    · have h1 : ¬ (k : Int) < 4 := by omega
      obtain rfl : k = 4 := by omega
      go_wp2
      go_ret
      exact ⟨rfl, rfl⟩

/-- A word with its counters halved. -/
@[irreducible] def hf (x : Nat) : Nat := x / 2 &&& 8608480567731124087
theorem hf_lt (x : Nat) : hf x < 18446744073709551616 := by rw [hf]; exact half_lt x
theorem cnt_hf (W : Nat → Nat) (i : Nat) : cnt (fun q => hf (W q)) i = cnt W i / 2 := by
  have : (fun q => hf (W q)) = fun q => W q / 2 &&& 8608480567731124087 := funext fun q => by rw [hf]
  rw [this]; exact cnt_half W i
theorem hf_word (x : Nat) (hx : x < 18446744073709551616) : bits BinOp.and IntKind.u64 ((x : Int) / 2) 8608480567731124087 = (hf x : Int) := by
  have h : (x : Int) / 2 = ((x / 2 : Nat) : Int) := by norm_cast
  rw [hf, h, show (8608480567731124087 : Int) = ((8608480567731124087 : Nat) : Int) from rfl, u64_and_nat _ _ (by omega) (by omega)]

theorem halve_any {w : World} {b : Nat} {g : Nat → Nat} {seed : Int} {width L : Nat} {W : Nat → Nat → Nat} (h : Sk w b g seed width L W) :
    Calls Try.prog 19 #[.pointer (some ⟨b, 0, none⟩)] w fun e w' => e = .returned (.int .i64 (sumN (fun r => sumN (fun i => cnt (W r) i / 2) width) 4 : Int)) ∧
      Sk w' b g seed width L (fun r => if r < 4 then (fun q => hf (W r q)) else W r) ∧ Keeps (rowsOf g) w w' := by
  have q0 : w.cell? ⟨b, 2, none⟩ = some (.slice (some ⟨g 0, 0, none⟩) L L) := h.top.cell (i := 2) (by omega)
  have q1 : w.cell? ⟨b, 3, none⟩ = some (.slice (some ⟨g 1, 0, none⟩) L L) := h.top.cell (i := 3) (by omega)
  have q2 : w.cell? ⟨b, 4, none⟩ = some (.slice (some ⟨g 2, 0, none⟩) L L) := h.top.cell (i := 4) (by omega)
  have q3 : w.cell? ⟨b, 5, none⟩ = some (.slice (some ⟨g 3, 0, none⟩) L L) := h.top.cell (i := 5) (by omega)
  have R := Lib.hid (real_any h)
  have H := Lib.hid h
  clear h
  go_enter Try.func19, Try.ntmps19
  go_wp2_with fail
  refine R.out.mono ?_
  rintro e w' ⟨rfl, rfl⟩
  go_wp2
  clear q0 q1 q2 q3
  go_loopw [13] (fun i wr => ∃ k : Nat, k ≤ 4 ∧ i = .int .i64 (k : Int) ∧ Sk wr b g seed width L (fun r => if r < k then (fun q => hf (W r q)) else W r) ∧ Keeps (rowsOf g) w wr) (fun i _ => 4 - (intOf i).toNat)
  case atStart => exact ⟨0, Nat.zero_le _, rfl, H.out.congr (fun r => by simp), Keeps.refl _ _⟩
  case round =>
    obtain ⟨k, hk, rfl, hsk, hkp⟩ := hrel
    have HS := Lib.hid hsk
    have HK := Lib.hid hkp
    clear hsk hkp
    by_cases hk4 : k < 4
    · have h1 : (k : Int) < 4 := by omega
      have hix := idx4 (fun r => .slice (some ⟨g r, 0, none⟩) L L) k hk4 wr
      have hL : L ≤ 4096 := by have := H.out.hl; have := H.out.w2; omega
      have A0 := Lib.hid ((HS.out.row k hk4).congr (G := fun q => .int .u64 ((if q < 0 then hf (W k q) else W k q : Nat) : Int)) (fun q _ => by simp [wd]))
      go_wp2
      go_loopw [18] (fun i wq => ∃ j : Nat, j ≤ L ∧ i = .int .i64 (j : Int) ∧ Arr wq (g k) 23 L (fun q => .int .u64 ((if q < j then hf (W k q) else W k q : Nat) : Int)) ∧ Keeps (fun j => j = g k) wr wq) (fun i _ => L - (intOf i).toNat)
      case atStart => exact ⟨0, Nat.zero_le _, rfl, A0.out, Keeps.refl _ _⟩
      case round =>
        obtain ⟨j, hj, rfl, ha, hkq⟩ := hrel
        by_cases hjL : j < L
        · have h2 : (j : Int) < (L : Int) := by omega
          have h5 : (j : Int) + 1 ≤ 9223372036854775807 := by omega
          have hx := H.out.wds k j
          have hc : wr.cell? ⟨g k, j, none⟩ = some (.int .u64 (W k j : Int)) := by have := ha.cell hjL; simpa using this
          have hfr := ha.free j
          have E := Lib.hid (hf_word (W k j) hx)
          have HA := Lib.hid ha
          have HQ := Lib.hid hkq
          clear ha hkq
          go_wp2
          go_roundw
          case rel =>
            rw [E.out]
            refine ⟨j + 1, by omega, by simp, (HA.out.set j _).congr (fun q _ => ?_), HQ.out.setCell (p := ⟨g k, j, none⟩) (.inl rfl) _⟩
            by_cases e : q = j
            · subst e; simp
            · by_cases e2 : q < j
              · simp [e, e2, show q < j + 1 by omega]
              · simp [e, e2, show ¬ q < j + 1 by omega]
          case measure => simp only [intOf]; omega
        · have h2 : ¬ (j : Int) < (L : Int) := by omega
          obtain rfl : j = L := by omega
          go_wp2
          go_roundw
          case rel =>
            refine ⟨k + 1, by omega, by simp, (HS.out.setRow hk4 (ha.congr (G := wd (fun q => hf (W k q))) (fun q hq => by simp [wd, hq])) hkq (fun q => hf_lt _)).congr (fun r => ?_), HK.out.trans hkq (fun n hn => .inl ⟨k, hk4, hn⟩)⟩
            by_cases e : r = k
            · subst e; simp
            · by_cases e2 : r < k
              · simp [e, e2, show r < k + 1 by omega]
              · simp [e, e2, show ¬ r < k + 1 by omega]
          case measure => simp only [intOf]; omega
    · have h1 : ¬ (k : Int) < 4 := by omega
      obtain rfl : k = 4 := by omega
      have C := Lib.hid (sum_any HS.out)
      have e : sumN (fun r => sumN (fun i => cnt ((fun r => if r < 4 then (fun q => hf (W r q)) else W r) r) i) width) 4 = sumN (fun r => sumN (fun i => cnt (W r) i / 2) width) 4 :=
        sumN_congr 4 (fun r hr => sumN_congr width (fun i _ => by simp only [hr, if_true]; exact cnt_hf _ _))
      rw [e] at C
      clear e
      go_wp2_with fail
      refine C.out.mono ?_
      rintro e w2 ⟨rfl, rfl⟩
      go_wp2
      go_ret
      exact ⟨rfl, HS.out, HK.out⟩

theorem zero_u64 (w : World) : (zeroValue 23).run Try.prog w = .ok (.int .u64 0) w := by kernel_rfl

theorem clear_any {w : World} {b : Nat} {g : Nat → Nat} {seed : Int} {width L : Nat} {W : Nat → Nat → Nat} (h : Sk w b g seed width L W) :
    Calls Try.prog 20 #[.pointer (some ⟨b, 0, none⟩)] w fun e w' => e = .returned (.tuple #[]) ∧
      Sk w' b g seed width L (fun r => if r < 4 then (fun q => 0) else W r) ∧ Keeps (rowsOf g) w w' := by
  have q0 : w.cell? ⟨b, 2, none⟩ = some (.slice (some ⟨g 0, 0, none⟩) L L) := h.top.cell (i := 2) (by omega)
  have q1 : w.cell? ⟨b, 3, none⟩ = some (.slice (some ⟨g 1, 0, none⟩) L L) := h.top.cell (i := 3) (by omega)
  have q2 : w.cell? ⟨b, 4, none⟩ = some (.slice (some ⟨g 2, 0, none⟩) L L) := h.top.cell (i := 4) (by omega)
  have q3 : w.cell? ⟨b, 5, none⟩ = some (.slice (some ⟨g 3, 0, none⟩) L L) := h.top.cell (i := 5) (by omega)
  have R := Lib.hid (real_any h)
  have H := Lib.hid h
  clear h
  go_enter Try.func20, Try.ntmps20
  go_wp2_with fail
  refine R.out.mono ?_
  rintro e w' ⟨rfl, rfl⟩
  go_wp2
  clear q0 q1 q2 q3
  go_loopw [11] (fun i wr => ∃ k : Nat, k ≤ 4 ∧ i = .int .i64 (k : Int) ∧ Sk wr b g seed width L (fun r => if r < k then (fun q => 0) else W r) ∧ Keeps (rowsOf g) w wr) (fun i _ => 4 - (intOf i).toNat)
  case atStart => exact ⟨0, Nat.zero_le _, rfl, H.out.congr (fun r => by simp), Keeps.refl _ _⟩
  case round =>
    obtain ⟨k, hk, rfl, hsk, hkp⟩ := hrel
    have HS := Lib.hid hsk
    have HK := Lib.hid hkp
    clear hsk hkp
    by_cases hk4 : k < 4
    · have h1 : (k : Int) < 4 := by omega
      have hix := idx4 (fun r => .slice (some ⟨g r, 0, none⟩) L L) k hk4 wr
      have hL : L ≤ 4096 := by have := H.out.hl; have := H.out.w2; omega
      have hL1 : 0 < L := by have := H.out.hl; have := H.out.w1; omega
      have A0 := HS.out.row k hk4
      have hcl : ∀ ty, (Builtin.clear_ #[39] ty #[.slice (some ⟨g k, 0, none⟩) L L]).run Try.prog wr = .ok (.tuple #[]) (wr.setCells (g k) 0 (List.replicate L (.int .u64 0))) :=
        fun ty => Lib.run_clear_slice wr _ 23 ty _ Try.underlying39 zero_u64 rfl rfl (g k) 0 L L hL1 (fun j hj => by rw [Nat.zero_add, A0.cell hj]; rfl) (fun j hj => A0.free _)
      have A1 := Lib.hid ((Arr.fill (.int .u64 0) L 0 _ _ A0).congr (G := wd (fun _ => 0)) (fun q hq => by simp [wd, hq]))
      clear A0
      go_wp2
      go_roundw
      case rel =>
        have hkq := Keeps.setCells (g k) (List.replicate L (.int .u64 0)) 0 wr
        refine ⟨k + 1, by omega, by simp, (HS.out.setRow hk4 A1.out hkq (fun q => by omega)).congr (fun r => ?_), HK.out.trans hkq (fun n hn => .inl ⟨k, hk4, hn⟩)⟩
        by_cases e : r = k
        · subst e; simp
        · by_cases e2 : r < k
          · simp [e, e2, show r < k + 1 by omega]
          · simp [e, e2, show ¬ r < k + 1 by omega]
      case measure => simp only [intOf]; omega
    · have h1 : ¬ (k : Int) < 4 := by omega
      obtain rfl : k = 4 := by omega
      go_wp2
      go_end0
      exact ⟨rfl, HS.out, HK.out⟩

end Go.Proofs.Ytbhcpedokgdipaa
