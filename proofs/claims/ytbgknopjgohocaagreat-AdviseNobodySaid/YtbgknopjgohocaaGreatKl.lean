/- The best settings; by how much a tier that keeps all is better. -/
import Derived.Test.YtbgknopjgohocaaGreatKk
namespace Go.Proofs.YtbgknopjgohocaaGreat
open Go.RowKit Fl
open Scan hiding isN
set_option linter.unusedVariables false
set_option maxRecDepth 100000
set_option maxHeartbeats 2000000

/-- A row of settings. -/
def CfL (w : World) (a : Option Addr) (cs : List CF) : Prop := cs ≠ [] → ∃ g off, a = some ⟨g, off, none⟩ ∧ g < w.heap.size ∧ ∀ i c, cs[i]? = some c → ∀ (j : Nat) v, c.cs[j]? = some v → w.cell? ⟨g, off + i * 10 + j, none⟩ = some v
theorem CfL.below {w w' : World} {a : Option Addr} {cs : List CF} (h : CfL w a cs) (k : Below w.heap.size w w') : CfL w' a cs := fun h0 => by
  obtain ⟨g, off, e, gl, hz⟩ := h h0
  exact ⟨g, off, e, Nat.lt_of_lt_of_le gl k.size, fun i c hi j v hv => (k.cell (p := ⟨g, off + i * 10 + j, none⟩) gl).trans (hz i c hi j v hv)⟩
/-- Which, how good, and whether there is one. -/
def stB (z : Nat → Int) (n : Nat) (s : Nat × Nat × Bool) (i : Nat) (c : CF) : Nat × Nat × Bool := match rtX c z n with
  | none => s
  | some f => if s.2.2 = true ∧ ltB s.2.1 f = false then s else (i, f, true)
def bsB (z : Nat → Int) (n : Nat) (cs : List CF) : Nat → Nat × Nat × Bool
  | 0 => (0, 0, false)
  | k + 1 => match cs[k]? with
    | none => bsB z n cs k
    | some c => stB z n (bsB z n cs k) k c
theorem bsB_next {z : Nat → Int} {n : Nat} {cs : List CF} {k : Nat} {c : CF} (h : cs[k]? = some c) : bsB z n cs (k + 1) = stB z n (bsB z n cs k) k c := by
  simp only [bsB, h]
theorem rtC_ex (T : TL) (w : World) : ∃ r, r < 18446744073709551616 ∧ cn r = rtC T := by
  obtain ⟨r, m, _, hr, hc⟩ := run_arith (P := Tryz.prog) .quo (by simp) (floatOfInt .f64 (T.hits : Int)) (floatOfInt .f64 ((T.hits + T.misses + T.byps : Nat) : Int)) w
  exact ⟨r, hr, hc⟩
theorem rtX_some_lt {c : CF} {z : Nat → Int} {n f : Nat} (w : World) (h : rtX c z n = some f) : f < 18446744073709551616 := by
  unfold rtX at h
  split at h
  · obtain ⟨r, hr, hc⟩ := rtC_ex (goR (rcOf c) z n).2.t w
    rw [h] at hc
    unfold cn at hc
    split at hc
    · cases hc
    · cases hc; exact hr
  · cases h
theorem bsB_lt (z : Nat → Int) (n : Nat) (cs : List CF) (w : World) : ∀ k, (bsB z n cs k).2.1 < 18446744073709551616
  | 0 => by show 0 < _; omega
  | k + 1 => by
    have ih := bsB_lt z n cs w k
    cases hc : cs[k]? with
    | none => simp only [bsB, hc]; exact ih
    | some c =>
      rw [bsB_next hc]
      unfold stB
      cases hx : rtX c z n with
      | none => exact ih
      | some f =>
        simp only
        split
        · exact ih
        · exact rtX_some_lt w hx
theorem ad_best (cs : List CF) (B : ∀ c ∈ cs, CFB c) (A : Option Addr) (cc : Nat) (hl : cs.length ≤ 100) (a : Option Addr) (n cp : Nat) (z : Nat → Int) (w : World) (hcs : CfL w A cs) (hr : RdZ2 w a n z) (hn : n ≤ 1000) (hc : n ≤ cp) (hm9 : cp ≤ 9223372036854775807) :
    Calls Tryz.prog 15 #[.slice A cs.length cc, .slice a n cp] w fun e W' => e = .returned (.tuple #[.int .i64 ((bsB z n cs cs.length).1 : Int), .float .f64 (bsB z n cs cs.length).2.1, .bool (bsB z n cs cs.length).2.2]) ∧ Below w.heap.size w W' := by
  have RN := Lib.hid (fun c (hB : CFB c) W (k : Below w.heap.size w W) => ad_rate_any c hB a n cp z W (hr.below k) hn hc hm9)
  have CK := Lib.hid (fun W (k : Below w.heap.size w W) => hcs.below k)
  have BC := Lib.hid B
  have l1 : (cs.length : Int) ≤ 100 := by omega
  have LT : ∀ k, (bsB z n cs k).2.1 < 18446744073709551616 := bsB_lt z n cs w
  have LT := Lib.hid LT
  clear hcs hr hn hc hm9 B hl
  go_enter Tryz.func15, Tryz.ntmps15
  go_wp2
  go_loopw [7, 8, 9, 10, 11, 12, 13, 16] (fun at_ be so _ _ _ _ i wr => ∃ k : Nat, k ≤ cs.length ∧ i = .int .i64 (k : Int) ∧ at_ = .int .i64 ((bsB z n cs k).1 : Int) ∧ be = .float .f64 (bsB z n cs k).2.1 ∧ so = .bool (bsB z n cs k).2.2 ∧ Below w.heap.size w wr) (fun _ _ _ _ _ _ _ i _ => cs.length - (intOf i).toNat)
  case atStart => exact ⟨0, Nat.zero_le _, rfl, rfl, rfl, rfl, Below.refl _ _⟩
  case round =>
    obtain ⟨k, hk, rfl, rfl, rfl, rfl, hb⟩ := hrel
    by_cases hc : k < cs.length
    · obtain ⟨c, hck⟩ : ∃ c, cs[k]? = some c := ⟨_, List.getElem?_eq_getElem hc⟩
      have hcm : c ∈ cs := List.mem_of_getElem? hck
      obtain ⟨g, off, hA, _, hcell⟩ := CK.out _ hb (fun e => by rw [e] at hck; simp at hck)
      subst hA
      have hcell := hcell k c hck
      have STEP0 := bsB_next (z := z) (n := n) hck
      have RX := Lib.hid (fun W (kk : Below w.heap.size w W) => RN.out c (BC.out c hcm) W kk)
      have STX : stB z n (bsB z n cs k) k c = match rtX c z n with | none => bsB z n cs k | some f => if (bsB z n cs k).2.2 = true ∧ ltB (bsB z n cs k).2.1 f = false then bsB z n cs k else (k, f, true) := rfl
      rw [STX] at STEP0
      have LTk := LT.out k
      generalize hrt : rtX c z n = rt at *
      generalize hbs : bsB z n cs k = bs at *
      have HBS := Lib.hid hbs
      clear hrt hbs STX
      obtain ⟨k0, k1, k2, k3, k4, k5, k6, k7, k8, k9⟩ := c
      obtain ⟨b1, b2, b3⟩ := bs
      simp only at STEP0 LTk
      have RX := Lib.hid (fun W (kk : Below w.heap.size w W) => show Calls Tryz.prog 19 #[.agg #[.int .i64 k0, .int .i64 k1, .int .i64 k2, .int .i64 k3, .int .i64 k4, .int .u64 k5, .float .f64 k6, .float .f64 k7, .float .f64 k8, .int .i64 k9], .slice a n cp] W (fun e w' => ∃ (f : Nat) (er : Int), e = .returned (.tuple #[.float .f64 f, .int .i64 er]) ∧ (f < 18446744073709551616 ∧ ((er = 0 ∧ cn f = rt) ∨ (er = 100 ∧ f = 0 ∧ rt = none))) ∧ Below W.heap.size W w') from RX.out W kk)
      have x0 : wr.cell? ⟨g, off + k * 10, none⟩ = some (.int .i64 k0) := hcell 0 _ rfl
      have x1 : wr.cell? ⟨g, off + k * 10 + 1, none⟩ = some (.int .i64 k1) := hcell 1 _ rfl
      have x2 : wr.cell? ⟨g, off + k * 10 + 2, none⟩ = some (.int .i64 k2) := hcell 2 _ rfl
      have x3 : wr.cell? ⟨g, off + k * 10 + 3, none⟩ = some (.int .i64 k3) := hcell 3 _ rfl
      have x4 : wr.cell? ⟨g, off + k * 10 + 4, none⟩ = some (.int .i64 k4) := hcell 4 _ rfl
      have x5 : wr.cell? ⟨g, off + k * 10 + 5, none⟩ = some (.int .u64 k5) := hcell 5 _ rfl
      have x6 : wr.cell? ⟨g, off + k * 10 + 6, none⟩ = some (.float .f64 k6) := hcell 6 _ rfl
      have x7 : wr.cell? ⟨g, off + k * 10 + 7, none⟩ = some (.float .f64 k7) := hcell 7 _ rfl
      have x8 : wr.cell? ⟨g, off + k * 10 + 8, none⟩ = some (.float .f64 k8) := hcell 8 _ rfl
      have x9 : wr.cell? ⟨g, off + k * 10 + 9, none⟩ = some (.int .i64 k9) := hcell 9 _ rfl
      have h1 : (k : Int) < (cs.length : Int) := by omega
      have h2 : (k : Int) + 1 ≤ 200 := by omega
      have HC := Lib.hid hc
      have HB := Lib.hid hb
      have hz := heap_at wr (.cells #[.int .i64 0, .int .i64 0, .int .i64 0, .int .i64 0, .int .i64 0, .int .u64 0, .float .f64 0, .float .f64 0, .float .f64 0, .int .i64 0] 28) _ rfl
      have TH := Lib.hid (there_of (n := 10) hz (by decide))
      have S0 := Lib.hid STEP0
      clear hcell hck hcm hb hk hc STEP0
      go_wp2_with (
        refine wpList_store_mid rfl 28 (.tmp 11) (.tmp 20) rfl wr.heap.size 0 #[.int .i64 k0, .int .i64 k1, .int .i64 k2, .int .i64 k3, .int .i64 k4, .int .u64 k5, .float .f64 k6, .float .f64 k7, .float .f64 k8, .int .i64 k9] rfl rfl TH.out (by kernel_rfl) (by simp [Value.oneCell']) ?_
        obtain ⟨w3, hw3, C3, K3, S3⟩ := cells_all hz #[.int .i64 k0, .int .i64 k1, .int .i64 k2, .int .i64 k3, .int .i64 k4, .int .u64 k5, .float .f64 k6, .float .f64 k7, .float .f64 k8, .int .i64 k9] rfl
        rw [hw3]
        have B3 := Lib.hid (HB.out.trans ((((Keeps.of_below ((Below.refl wr.heap.size wr).alloc (Nat.le_refl _) (.cells #[.int .i64 0, .int .i64 0, .int .i64 0, .int .i64 0, .int .i64 0, .int .u64 0, .float .f64 0, .float .f64 0, .float .f64 0, .int .i64 0] 28))).trans K3 (fun j (hj : j = wr.heap.size) => .inl (by omega))).below (Nat.le_refl _)).mono HB.out.size))
        have y0 := blk_cell' C3 0
        have y1 := blk_cell' C3 1
        have y2 := blk_cell' C3 2
        have y3 := blk_cell' C3 3
        have y4 := blk_cell' C3 4
        have y5 := blk_cell' C3 5
        have y6 := blk_cell' C3 6
        have y7 := blk_cell' C3 7
        have y8 := blk_cell' C3 8
        have y9 := blk_cell' C3 9
        simp only [List.getElem?_toArray, List.getElem?_cons_zero, List.getElem?_cons_succ] at y0 y1 y2 y3 y4 y5 y6 y7 y8 y9
        clear hw3 C3 K3 S3)
      refine (RX.out _ B3.out).mono ?_
      rintro e w4 ⟨f, er, rfl, ⟨hf, hcase⟩, b4⟩
      have BB := Lib.hid (B3.out.trans (b4.mono B3.out.size))
      clear b4 y0 y1 y2 y3 y4 y5 y6 y7 y8 y9
      have LS := Lib.hid (fun W => less_any b2 f LTk hf W)
      rcases hcase with ⟨rfl, hcf⟩ | ⟨rfl, rfl, hrt⟩
      · have nf := ne_self f hf
        cases hN : isN f
        · rw [cnN_num hN] at hcf
          rw [hN] at nf
          have S1 := S0.out
          rw [← hcf] at S1
          simp only at S1
          cases hb3 : b3
          · have STEP := S1.trans (if_neg (by rw [hb3]; simp))
            have STEP := Lib.hid STEP
            subst hb3
            clear hcf hN S1 S0 LTk LS hf
            go_wp2
            go_roundw
            case rel => exact ⟨k + 1, HC.out, by simp, by rw [STEP.out], by rw [STEP.out], by rw [STEP.out], BB.out⟩
            case measure => simp only [intOf]; have := HC.out; omega
          · subst hb3
            cases hL : ltB b2 f
            · have STEP := Lib.hid (S1.trans (if_pos ⟨rfl, hL⟩))
              rw [hL] at LS
              clear hcf hN S1 S0 LTk hf hL
              go_wp2_with fail
              refine (LS.out _).mono ?_
              rintro e _ ⟨rfl, rfl⟩
              go_wp2
              go_roundw
              case rel => exact ⟨k + 1, HC.out, by simp, by rw [STEP.out], by rw [STEP.out], by rw [STEP.out], BB.out⟩
              case measure => simp only [intOf]; have := HC.out; omega
            · have STEP := Lib.hid (S1.trans (if_neg (by rw [hL]; simp)))
              rw [hL] at LS
              clear hcf hN S1 S0 LTk hf hL
              go_wp2_with fail
              refine (LS.out _).mono ?_
              rintro e _ ⟨rfl, rfl⟩
              go_wp2
              go_roundw
              case rel => exact ⟨k + 1, HC.out, by simp, by rw [STEP.out], by rw [STEP.out], by rw [STEP.out], BB.out⟩
              case measure => simp only [intOf]; have := HC.out; omega
        · rw [cnN_nan hN] at hcf
          rw [hN] at nf
          have S1 := S0.out
          rw [← hcf] at S1
          have STEP := Lib.hid S1
          clear hcf hN S1 S0 LTk LS hf
          go_wp2
          go_roundw
          case rel => exact ⟨k + 1, HC.out, by simp, by rw [STEP.out], by rw [STEP.out], by rw [STEP.out], BB.out⟩
          case measure => simp only [intOf]; have := HC.out; omega
      · have S1 := S0.out
        rw [hrt] at S1
        have STEP := Lib.hid S1
        clear hrt S1 S0 LTk LS hf
        go_wp2
        go_roundw
        case rel => exact ⟨k + 1, HC.out, by simp, by rw [STEP.out], by rw [STEP.out], by rw [STEP.out], BB.out⟩
        case measure => simp only [intOf]; have := HC.out; omega
    · have hx : ¬ (k : Int) < (cs.length : Int) := by omega
      have hkk : k = cs.length := by omega
      subst hkk
      have HB := Lib.hid hb
      clear hb hk hc
      go_wp2
      go_ret3
      exact ⟨rfl, HB.out⟩
end Go.Proofs.YtbgknopjgohocaaGreat
