/- Who is let in: Admit of both filters; the page's example; two filters side by side. -/
import Derived.Test.YtbgknopjgohocaaGreatTr
import Derived.Test.YtbgknopjgohocaaGreatZA
namespace Go.Proofs.YtbgknopjgohocaaGreat
open Go.RowKit Fl
set_option linter.unusedVariables false

/-- Is a number, times a float, greater than another one; a float that is none counts as 1. -/
@[irreducible] def overB (m f n : Nat) : Bool := gtC (opC .mul (cn (floatOfInt .f64 (m : Int))) (cn (if isN f then 4607182418800017408 else f))) (cn (floatOfInt .f64 (n : Int)))
theorem overB_nan (m f n : Nat) (h : isN f = true) : overB m f n = overB m 4607182418800017408 n := by
  have h1 : isN 4607182418800017408 = false := by decide
  rw [overB, overB, if_pos h, h1]; rfl

theorem ti_admit {S : Nat → Prop} {w : World} {b : Nat} {seed : Int} {width sample : Nat} {t : TS} (h : TiO b seed width sample t S w) (ho : Own S w) (x y : Int) (x0 : 0 ≤ x) (x1 : x ≤ 18446744073709551615) (y0 : 0 ≤ y) (y1 : y ≤ 18446744073709551615) (f : Nat) (hf : f < 18446744073709551616)
    (pk qk : Nat → Nat) (hpk : pk = pickN seed x width) (hqk : qk = pickN seed y width) :
    Calls Tryz.prog 118 #[.pointer (some ⟨b, 0, none⟩), .int .u64 x, .int .u64 y, .float .f64 f] w fun r w' => r = .returned (.bool (overB (thinkT pk t) f (thinkT qk t))) ∧ TiO b seed width sample t (Ext S w w') w' ∧ Keeps S w w' := by
  have T1 := ti_think h ho x x0 x1
  have T2 := fun (A : Nat → Prop) (W : World) (g : TiO b seed width sample t A W) (o : Own A W) => ti_think g o y y0 y1
  rw [← hpk] at T1
  rw [← hqk] at T2
  have T1 := Lib.hid T1
  have T2 := Lib.hid T2
  have HO := Lib.hid ho
  clear hpk hqk h
  have hne := ne_self f hf
  have HV : overB (thinkT pk t) f (thinkT qk t) = overB (thinkT pk t) f (thinkT qk t) := rfl
  conv at HV => rhs; rw [overB]
  generalize thinkT pk t = m at *
  generalize thinkT qk t = n at *
  have HVV := Lib.hid HV
  clear HV hf
  cases hn : isN f
  all_goals
    rw [hn] at hne HVV
    clear hn
    go_enter Tryz.func118, Tryz.ntmps118
    go_wp2_with fail
    refine T1.out.mono ?_
    rintro e w1 ⟨rfl, g1, k1⟩
    have G1 := Lib.hid g1
    have K1 := Lib.hid k1
    clear g1 k1
    go_wp2_with fail
    refine (T2.out _ _ G1.out (HO.out.ext K1.out.size)).mono ?_
    rintro e w2 ⟨rfl, g2, k2⟩
    have G2 := Lib.hid g2
    have K2 := Lib.hid k2
    clear g2 k2
    go_wp2_with fail
    refine (over_any _ _ _ _).mono ?_
    rintro e w' ⟨rfl, n3, rfl⟩
    go_wp2
    go_ret
    refine ⟨ret_bool' (by rw [HVV.out]; simp), Rep.drewN (Rep.mono G2.out (ext_trans K1.out.size K2.out.size)) (HO.out.ext (Nat.le_trans K1.out.size K2.out.size)) n3, (K1.out.extT K2.out).drewN n3⟩

end Go.Proofs.YtbgknopjgohocaaGreat
