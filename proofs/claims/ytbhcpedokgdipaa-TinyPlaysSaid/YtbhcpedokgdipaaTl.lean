/- The statements of chapter 21: two filters side by side, the page's example, what is thought of keys. -/
import Derived.Test.YtbhcpedokgdipaaTa
import Derived.Test.YtbhcpedokgdipaaRd
namespace Go.Proofs.Ytbhcpedokgdipaa
open Go.RowKit Fl
set_option linter.unusedVariables false

/-- A filter of the program and one of the document, made since w0. -/
def TT (b b' : Nat) (seed : Int) (width sample : Nat) (t t' : TS) (w0 w : World) : Prop := Run2 (TiO b seed width sample t) (RtO b' seed width sample t') w0 w

section
variable {w0 w : World} {b b' : Nat} {seed : Int} {width sample : Nat} {t t' : TS}
theorem TT.drew (h : TT b b' seed width sample t t' w0 w) : TT b b' seed width sample t t' w0 w.drew := Run2.drew h
theorem TT.see (h : TT b b' seed width sample t t' w0 w) (y : Int) (y0 : 0 ≤ y) (y1 : y ≤ 18446744073709551615) (pk : Nat → Nat) (hp : pk = pickN seed y width) :
    Calls Try.prog 23 #[.pointer (some ⟨b, 0, none⟩), .int .u64 y] w fun r w' => r = .returned (.int .i64 (thinkT pk (seeT pk sample t) : Int)) ∧ TT b b' seed width sample (seeT pk sample t) t' w0 w' := by
  subst hp
  exact Run2.left h (fun A x o => ti_see x o y y0 y1)
theorem TT.rsee (h : TT b b' seed width sample t t' w0 w) (y : Int) (y0 : 0 ≤ y) (y1 : y ≤ 18446744073709551615) (pk : Nat → Nat) (hp : pk = pickN seed y width) :
    Calls Try.prog 24 #[.pointer (some ⟨b', 0, none⟩), .int .u64 y] w fun r w' => r = .returned (.int .i64 (thinkT pk (seeT pk sample t') : Int)) ∧ TT b b' seed width sample t (seeT pk sample t') w0 w' := by
  subst hp
  exact Run2.right h (fun A x o => rt_see x o y y0 y1)
theorem TT.think (h : TT b b' seed width sample t t' w0 w) (y : Int) (y0 : 0 ≤ y) (y1 : y ≤ 18446744073709551615) (pk : Nat → Nat) (hp : pk = pickN seed y width) :
    Calls Try.prog 25 #[.pointer (some ⟨b, 0, none⟩), .int .u64 y] w fun r w' => r = .returned (.int .i64 (thinkT pk t : Int)) ∧ TT b b' seed width sample t t' w0 w' := by
  subst hp
  exact Run2.left h (fun A x o => ti_think x o y y0 y1)
theorem TT.rthink (h : TT b b' seed width sample t t' w0 w) (y : Int) (y0 : 0 ≤ y) (y1 : y ≤ 18446744073709551615) (pk : Nat → Nat) (hp : pk = pickN seed y width) :
    Calls Try.prog 26 #[.pointer (some ⟨b', 0, none⟩), .int .u64 y] w fun r w' => r = .returned (.int .i64 (thinkT pk t' : Int)) ∧ TT b b' seed width sample t t' w0 w' := by
  subst hp
  exact Run2.right h (fun A x o => rt_think x o y y0 y1)
theorem TT.admit (h : TT b b' seed width sample t t' w0 w) (x y : Int) (x0 : 0 ≤ x) (x1 : x ≤ 18446744073709551615) (y0 : 0 ≤ y) (y1 : y ≤ 18446744073709551615) (f : Nat) (hf : f < 18446744073709551616) (pk qk : Nat → Nat) (hp : pk = pickN seed x width) (hq : qk = pickN seed y width) :
    Calls Try.prog 30 #[.pointer (some ⟨b, 0, none⟩), .int .u64 x, .int .u64 y, .float .f64 f] w fun r w' => r = .returned (.bool (overB (thinkT pk t) f (thinkT qk t))) ∧ TT b b' seed width sample t t' w0 w' :=
  Run2.left h (fun A g o => ti_admit g o x y x0 x1 y0 y1 f hf pk qk hp hq)
theorem TT.radmit (h : TT b b' seed width sample t t' w0 w) (x y : Int) (x0 : 0 ≤ x) (x1 : x ≤ 18446744073709551615) (y0 : 0 ≤ y) (y1 : y ≤ 18446744073709551615) (f : Nat) (hf : f < 18446744073709551616) (pk qk : Nat → Nat) (hp : pk = pickN seed x width) (hq : qk = pickN seed y width) :
    Calls Try.prog 32 #[.pointer (some ⟨b', 0, none⟩), .int .u64 x, .int .u64 y, .float .f64 f] w fun r w' => r = .returned (.bool (overB (thinkT pk t') f (thinkT qk t'))) ∧ TT b b' seed width sample t t' w0 w' :=
  Run2.right h (fun A g o => rt_admit g o x y x0 x1 y0 y1 f hf pk qk hp hq)
theorem TT.seen (h : TT b b' seed width sample t t' w0 w) :
    Calls Try.prog 27 #[.pointer (some ⟨b, 0, none⟩)] w fun r w' => r = .returned (.int .i64 (t.n : Int)) ∧ w = w' := by
  obtain ⟨⟨A, B, _, _, _, _, _, r, _⟩, _⟩ := h
  exact ti_seen r
theorem TT.celln (h : TT b b' seed width sample t t' w0 w) : w.cell? ⟨b', 2, none⟩ = some (.int .i64 (t'.n : Int)) := by
  obtain ⟨⟨A, B, _, _, _, _, _, _, q⟩, _⟩ := h
  obtain ⟨sb, dg, h, _⟩ := q.open_
  exact h.cell2
theorem TT.old (h : TT b b' seed width sample t t' w0 w) {p : Addr} {v : Value} (hc : w0.cell? p = some v) : w.cell? p = some v := by
  rw [← hc]; exact h.2.cell (World.block_lt_of_cell? w0 p hc)
end

theorem tyBoth (w : World) (width sample : Int) (seed : Int) (hw0 : 0 ≤ width) (hw1 : width ≤ 65535) (hs0 : 0 ≤ sample) (hs1 : sample ≤ 65535) (s0 : 0 ≤ seed) (s1 : seed ≤ 18446744073709551615) (m n : Nat) (hm : 1 + width % 200 = (m : Int)) (hn : 1 + sample % 100 = (n : Int)) :
    Calls Try.prog 22 #[.int .u16 width, .int .u16 sample, .int .u64 seed] w fun r w' => ∃ b b', r = .returned (.tuple #[.pointer (some ⟨b, 0, none⟩), .pointer (some ⟨b', 0, none⟩), .bool true]) ∧ TT b b' seed m n newT newT w w' := by
  have m1 : 1 ≤ m ∧ m ≤ 4096 := by omega
  have n1 : 1 ≤ n ∧ n ≤ 1048576 := by omega
  have N := Lib.hid (ti_new w m n seed m1.1 m1.2 n1.1 n1.2 s0 s1)
  have R := Lib.hid (fun W => rt_new W m n seed m1.1 m1.2 n1.1 n1.2 s0 s1)
  clear m1 n1
  go_enter Try.func22, Try.ntmps22
  go_wp2_with fail
  refine N.out.mono ?_
  rintro e w1 ⟨b, rfl, g1, b1⟩
  have G1 := Lib.hid g1
  have B1 := Lib.hid b1
  clear g1 b1
  go_wp2_with fail
  refine (R.out _).mono ?_
  rintro e w2 ⟨b', rfl, g2, b2⟩
  have F := Lib.hid (Run1.and ⟨G1.out, B1.out⟩ g2 b2)
  clear g2 b2
  go_wp2
  go_ret3
  exact ⟨b, b', rfl, F.out⟩

theorem aw_t1 : thinkT (pickN 1 7 64) (seeT (pickN 1 7 64) 100 newT) = 1 := by kernel_rfl
theorem aw_t2 : thinkT (pickN 1 7 64) (seeT (pickN 1 7 64) 100 (seeT (pickN 1 7 64) 100 newT)) = 2 := by kernel_rfl
theorem aw_o1 : overB 2 4607182418800017408 (thinkT (pickN 1 8 64) (seeT (pickN 1 7 64) 100 (seeT (pickN 1 7 64) 100 newT))) = true := by kernel_rfl
theorem aw_o2 : overB 2 0 (thinkT (pickN 1 8 64) (seeT (pickN 1 7 64) 100 (seeT (pickN 1 7 64) 100 newT))) = false := by kernel_rfl
theorem aw_n : (seeT (pickN 1 7 64) 100 (seeT (pickN 1 7 64) 100 newT)).n = 2 := by kernel_rfl

theorem tyAwake (w : World) : Calls Try.prog 28 #[] w fun r w' => r = .returned (.bool true) ∧ Below w.heap.size w w' := by
  obtain ⟨pk, hpk⟩ : ∃ pk, pk = pickN 1 7 64 := ⟨_, rfl⟩
  obtain ⟨qk, hqk⟩ : ∃ qk, qk = pickN 1 8 64 := ⟨_, rfl⟩
  have e1 := aw_t1
  have e2 := aw_t2
  have e3 := aw_o1
  have e4 := aw_o2
  have e5 := aw_n
  rw [← hpk] at e1 e2 e3 e4 e5
  rw [← hqk] at e3 e4
  have N := Lib.hid (ti_new w 64 100 1 (by omega) (by omega) (by omega) (by omega) (by omega) (by omega))
  have SE := Lib.hid (fun (b : Nat) (W : World) (t : TS) (x : Run1 (TiO b 1 64 100 t) w W) => Run1.step x (fun A g o => hpk ▸ ti_see g o 7 (by omega) (by omega)))
  have TH := Lib.hid (fun (b : Nat) (W : World) (t : TS) (x : Run1 (TiO b 1 64 100 t) w W) => Run1.step x (fun A g o => hpk ▸ ti_think g o 7 (by omega) (by omega)))
  have AD := Lib.hid (fun (b : Nat) (W : World) (t : TS) (x : Run1 (TiO b 1 64 100 t) w W) (f : Nat) (hf : f < 18446744073709551616) => Run1.step x (fun A g o => ti_admit g o 7 8 (by omega) (by omega) (by omega) (by omega) f hf pk qk hpk hqk))
  clear hpk hqk
  have E1 := Lib.hid e1
  have E2 := Lib.hid e2
  have E3 := Lib.hid e3
  have E4 := Lib.hid e4
  have E5 := Lib.hid e5
  clear e1 e2 e3 e4 e5
  go_enter Try.func28, Try.ntmps28
  go_wp2_with fail
  refine N.out.mono ?_
  rintro e w1 ⟨b, rfl, g1, b1⟩
  have G1 := Lib.hid (show Run1 (TiO b 1 64 100 newT) w w1 from ⟨g1, b1⟩)
  clear g1 b1
  go_wp2_with fail
  refine (SE.out _ _ _ G1.out).mono ?_
  rintro e w2 ⟨rfl, g2⟩
  rw [E1.out]
  have G2 := Lib.hid g2
  clear g2
  go_wp2_with fail
  refine (SE.out _ _ _ G2.out).mono ?_
  rintro e w3 ⟨rfl, g3⟩
  rw [E2.out]
  have G3 := Lib.hid g3
  clear g3
  go_wp2_with fail
  refine (ti_seen G3.out.1).mono ?_
  rintro e w' ⟨rfl, rfl⟩
  rw [E5.out]
  go_wp2_with fail
  refine (AD.out _ _ _ G3.out _ (by omega)).mono ?_
  rintro e w4 ⟨rfl, g4⟩
  rw [E2.out, E3.out]
  have G4 := Lib.hid g4
  clear g4
  go_wp2_with fail
  refine (AD.out _ _ _ G4.out _ (by omega)).mono ?_
  rintro e w5 ⟨rfl, g5⟩
  rw [E2.out, E4.out]
  have G5 := Lib.hid g5
  clear g5
  go_wp2_with fail
  refine (TH.out _ _ _ G5.out).mono ?_
  rintro e w6 ⟨rfl, g6⟩
  rw [E2.out]
  have B6 := Lib.hid g6.2
  clear g6
  go_wp2
  go_ret
  exact ⟨rfl, B6.out⟩

end Go.Proofs.Ytbhcpedokgdipaa
