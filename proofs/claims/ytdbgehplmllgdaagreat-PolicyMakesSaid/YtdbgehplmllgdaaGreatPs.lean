/- Both policies side by side: is all told alike (same). -/
import Derived.Test.YtdbgehplmllgdaaGreatPd
namespace Go.Proofs.YtdbgehplmllgdaaGreat
open Go.RowKit Fl
open Scan hiding isN
set_option linter.unusedVariables false
set_option maxRecDepth 100000
set_option maxHeartbeats 8000000

section
variable {S : Nat → Prop} {w : World} {b b' : Nat} {c : PC} {s : PV}

theorem pp_same (h : PP b b' c s s S w) (ho : Own S w) (z : Int) :
    Calls Tryz.prog 27 #[.pointer (some ⟨b, 0, none⟩), .pointer (some ⟨b', 0, none⟩), .int .i64 z] w fun e w' => e = .returned (.bool true) ∧ PP b b' c s s (Ext S w w') w' ∧ Keeps S w w' := by
  have HPL := Lib.hid (Two.l h).choose_spec.1.pl
  obtain ⟨A0, B0, ha, hb, oa, ob, hd, hp, ⟨cf, p, vg, vr, hx⟩, hc, hs⟩ := h
  obtain ⟨A, ca, rfl⟩ := own_any hx.gho
  have HC := Lib.hid hc
  have HS := Lib.hid hs
  have h : Two (PoO b c s) (RpX b' cf c p (.slice A s.G.length ca) vr s.s0 s.scan s.lb s.low s.high s.t s.G s.rd) S w := ⟨A0, B0, ha, hb, oa, ob, hd, hp, hx⟩
  have O0 := Lib.hid (OnWay.begin h ho)
  have FN := Lib.hid (fun (W : World) (k : OnWay (Two (PoO b c s) (RpX b' cf c p (.slice A s.G.length ca) vr s.s0 s.scan s.lb s.low s.high s.t s.G s.rd)) S w W) => show PP b b' c s s (Ext S w W) W ∧ Keeps S w W from (OnWay.done k).imp (fun ⟨A1, B1, ha, hb, oa, ob, hd, hp, hx⟩ => ⟨A1, B1, ha, hb, oa, ob, hd, hp, ⟨⟨cf, p, _, vr, hx⟩, HC.out, HS.out⟩⟩) id)
  have CB := Lib.hid (fun (W : World) (k : OnWay (Two (PoO b c s) (RpX b' cf c p (.slice A s.G.length ca) vr s.s0 s.scan s.lb s.low s.high s.t s.G s.rd)) S w W) => show W.cell? ⟨b', 10, none⟩ = some (.pointer (some ⟨p.tf, 0, none⟩)) ∧ W.cell? ⟨b', 11, none⟩ = some (.pointer (some ⟨p.so, 0, none⟩)) ∧ W.cell? ⟨b', 13, none⟩ = some (.slice A s.G.length ca) from ⟨(pp_c11 k).c10, (pp_c11 k).c11, (pp_c11 k).c13⟩)
  have VP := Lib.hid (fun (W : World) (k : OnWay (Two (PoO b c s) (RpX b' cf c p (.slice A s.G.length ca) vr s.s0 s.scan s.lb s.low s.high s.t s.G s.rd)) S w W) => (Two.l k.1).elim fun _ q => q.1.1.elim fun _ x => po_victim x HC.out)
  have VR := Lib.hid (fun (W : World) (k : OnWay (Two (PoO b c s) (RpX b' cf c p (.slice A s.G.length ca) vr s.s0 s.scan s.lb s.low s.high s.t s.G s.rd)) S w W) => (Two.r k.1).elim fun _ q => rp_victim (s := s) q.1 HC.out HPL.out)
  have WP := Lib.hid (fun (W : World) (k : OnWay (Two (PoO b c s) (RpX b' cf c p (.slice A s.G.length ca) vr s.s0 s.scan s.lb s.low s.high s.t s.G s.rd)) S w W) => k.call (fun A g o => Two.left g (fun A g o => po_welcome g o z)))
  have WR := Lib.hid (fun (W : World) (k : OnWay (Two (PoO b c s) (RpX b' cf c p (.slice A s.G.length ca) vr s.s0 s.scan s.lb s.low s.high s.t s.G s.rd)) S w W) => k.call (fun A g o => Two.right g (fun A g o => rp_welcomeX g HC.out o HPL.out z)))
  have TP := Lib.hid (fun (W : World) (k : OnWay (Two (PoO b c s) (RpX b' cf c p (.slice A s.G.length ca) vr s.s0 s.scan s.lb s.low s.high s.t s.G s.rd)) S w W) => k.call (fun A g o => Two.left g (fun A g o => po_think g o z)))
  have TR := Lib.hid (fun (W : World) (k : OnWay (Two (PoO b c s) (RpX b' cf c p (.slice A s.G.length ca) vr s.s0 s.scan s.lb s.low s.high s.t s.G s.rd)) S w W) => show Calls Tryz.prog 78 #[.pointer (some ⟨p.tf, 0, none⟩), .int .u64 (IntKind.u64.wrap z)] W (fun e w' => e = .returned (.int .i64 (thinkP c s z)) ∧ OnWay (Two (PoO b c s) (RpX b' cf c p (.slice A s.G.length ca) vr s.s0 s.scan s.lb s.low s.high s.t s.G s.rd)) S w w') from k.call (fun A g o => Two.right g (RpX.filc (fun A g o => rt_think g o (kU z) (kU_bd z).1 (kU_bd z).2))))
  have RK := Lib.hid (fun (W : World) (k : OnWay (Two (PoO b c s) (RpX b' cf c p (.slice A s.G.length ca) vr s.s0 s.scan s.lb s.low s.high s.t s.G s.rd)) S w W) => (Two.l k.1).elim fun _ q => (po_ranks q.1).mono fun e w' (hh : ∃ v, e = .returned v ∧ RdI w' v (s.low ++ s.high) ∧ Below W.heap.size W w') => hh.elim fun v hh => (show ∃ v, e = .returned v ∧ RdI w' v (s.low ++ s.high) ∧ OnWay (Two (PoO b c s) (RpX b' cf c p (.slice A s.G.length ca) vr s.s0 s.scan s.lb s.low s.high s.t s.G s.rd)) S w w' from ⟨v, hh.1, hh.2.1, k.below hh.2.2⟩))
  have AL := Lib.hid (fun (W : World) (k : OnWay (Two (PoO b c s) (RpX b' cf c p (.slice A s.G.length ca) vr s.s0 s.scan s.lb s.low s.high s.t s.G s.rd)) S w W) (u : Value) (hu : RdI W u (s.low ++ s.high)) => (Two.r k.1).elim fun _ q => q.1.ord.elim fun _ q => q.1.open_.elim fun _ q => q.elim fun _ q => (rf_all q HPL.out.lo HPL.out.hi).mono fun e w' (hh : ∃ v, e = .returned v ∧ w'.ownsRow W.heap.size 3 1 v (s.low ++ s.high).length ((s.low ++ s.high).map intV) ∧ Below W.heap.size W w') => hh.elim fun v hh => (show ∃ v, e = .returned v ∧ (RdI w' v (s.low ++ s.high) ∧ RdI w' u (s.low ++ s.high)) ∧ OnWay (Two (PoO b c s) (RpX b' cf c p (.slice A s.G.length ca) vr s.s0 s.scan s.lb s.low s.high s.t s.G s.rd)) S w w' from ⟨v, hh.1, ⟨rdI_of hh.2.1, hu.below hh.2.2⟩, k.below hh.2.2⟩))
  have SM := Lib.hid (fun (W : World) (k : OnWay (Two (PoO b c s) (RpX b' cf c p (.slice A s.G.length ca) vr s.s0 s.scan s.lb s.low s.high s.t s.G s.rd)) S w W) (v u : Value) (hv : RdI W v (s.low ++ s.high)) (hu : RdI W u (s.low ++ s.high)) => (same_rows hv hu (by rw [List.length_append]; have := HPL.out.lo; have := HPL.out.hi; omega) (by rw [List.length_append]; have := HPL.out.lo; have := HPL.out.hi; omega)).mono fun e w' (hh : e = .returned (.bool (decide (s.low ++ s.high = s.low ++ s.high))) ∧ ∃ k, w' = W.drewN k) => (show e = .returned (.bool true) ∧ OnWay (Two (PoO b c s) (RpX b' cf c p (.slice A s.G.length ca) vr s.s0 s.scan s.lb s.low s.high s.t s.G s.rd)) S w w' from ⟨by rw [hh.1, decide_eq_true rfl], by obtain ⟨_, j, rfl⟩ := hh; exact k.drewN j⟩))
  have GH := Lib.hid (fun (W : World) (k : OnWay (Two (PoO b c s) (RpX b' cf c p (.slice A s.G.length ca) vr s.s0 s.scan s.lb s.low s.high s.t s.G s.rd)) S w W) => (Two.l k.1).elim fun _ q => (po_ghosts q.1).mono fun e w' (hh : ∃ v, e = .returned v ∧ RowK w' W.heap.size v s.G ∧ Below W.heap.size W w') => hh.elim fun v hh => (show ∃ v, e = .returned v ∧ RdK w' v s.G ∧ OnWay (Two (PoO b c s) (RpX b' cf c p (.slice A s.G.length ca) vr s.s0 s.scan s.lb s.low s.high s.t s.G s.rd)) S w w' from ⟨v, hh.1, hh.2.1.rd, k.below hh.2.2⟩))
  have SG := Lib.hid (fun (W : World) (k : OnWay (Two (PoO b c s) (RpX b' cf c p (.slice A s.G.length ca) vr s.s0 s.scan s.lb s.low s.high s.t s.G s.rd)) S w W) (v : Value) (hv : RdK W v s.G) => (Two.r k.1).elim fun _ q => (rk_same hv q.1.gho.rd (by have := HPL.out.g; have := HC.out.cap; omega) (by have := HPL.out.g; have := HC.out.cap; omega)).mono fun e w' (hh : e = .returned (.bool (decide (s.G = s.G))) ∧ ∃ k, w' = W.drewN k) => (show e = .returned (.bool true) ∧ OnWay (Two (PoO b c s) (RpX b' cf c p (.slice A s.G.length ca) vr s.s0 s.scan s.lb s.low s.high s.t s.G s.rd)) S w w' from ⟨by rw [hh.1, decide_eq_true rfl], by obtain ⟨_, j, rfl⟩ := hh; exact k.drewN j⟩))
  have SP := Lib.hid (fun (W : World) (k : OnWay (Two (PoO b c s) (RpX b' cf c p (.slice A s.G.length ca) vr s.s0 s.scan s.lb s.low s.high s.t s.G s.rd)) S w W) => (Two.l k.1).elim fun _ q => po_scans q.1)
  have SR := Lib.hid (fun (W : World) (k : OnWay (Two (PoO b c s) (RpX b' cf c p (.slice A s.G.length ca) vr s.s0 s.scan s.lb s.low s.high s.t s.G s.rd)) S w W) => (Two.r k.1).elim fun _ q => (rp_scans (s := s) q.1 HS.out).mono fun e w' (hh : e = .returned (.int .i64 (scansP c s)) ∧ ∃ m, w' = W.drewN m) => (show e = .returned (.int .i64 (scansP c s)) ∧ OnWay (Two (PoO b c s) (RpX b' cf c p (.slice A s.G.length ca) vr s.s0 s.scan s.lb s.low s.high s.t s.G s.rd)) S w w' from ⟨hh.1, by obtain ⟨_, j, rfl⟩ := hh; exact k.drewN j⟩))
  clear h ho hx hc hs hp ha hb oa ob hd
  generalize vicN s = q1 at *
  generalize vicL s = q2 at *
  generalize anyP s = q3 at *
  generalize welP c s z = q4 at *
  generalize thinkP c s z = q5 at *
  generalize scansP c s = q6 at *
  go_enter Tryz.func27, Tryz.ntmps27
  go_wp2_with fail
  refine (VP.out _ O0.out).mono ?_
  rintro e w1 ⟨rfl, b1⟩
  have O1 := Lib.hid (O0.out.below b1)
  clear b1
  go_wp2_with fail
  refine (VR.out _ O1.out).mono ?_
  rintro e w2 ⟨rfl, b2⟩
  have O2 := Lib.hid (O1.out.below b2)
  clear b2
  go_wp2_with fail
  have K0 := O2.out.drew
  go_region_held_law (fun W => W.cell? ⟨b', 10, none⟩ = some (.pointer (some ⟨p.tf, 0, none⟩)) ∧ W.cell? ⟨b', 11, none⟩ = some (.pointer (some ⟨p.so, 0, none⟩)) ∧ W.cell? ⟨b', 13, none⟩ = some (.slice A s.G.length ca))
    (first | exact CB.out _ K0 | exact CB.out _ k1 | exact CB.out _ k2 | exact CB.out _ k3 | exact CB.out _ k4 | exact CB.out _ k5 | exact CB.out _ k6 | exact CB.out _ k7 | exact CB.out _ k8 | exact CB.out _ k9 | exact CB.out _ k11) (first
    | (go_at_call 18; (with_reducible refine (WP.out _ K0).mono ?_); rintro e w3 ⟨rfl, k1⟩)
    | (go_at_call 77; (with_reducible refine (WR.out _ k1).mono ?_); rintro e w4 ⟨rfl, k2⟩)
    | (go_at_call 19; (with_reducible refine (TP.out _ k2).mono ?_); rintro e w5 ⟨rfl, k3⟩)
    | (go_at_call 78; (with_reducible refine (TR.out _ k3).mono ?_); rintro e w6 ⟨rfl, k4⟩)
    | (go_at_call 20; (with_reducible refine (RK.out _ k4).mono ?_); rintro e w7 ⟨v7, rfl, r7, k5⟩; have R7 := Lib.hid r7; clear r7)
    | (go_at_call 79; (with_reducible refine (AL.out _ k5 _ R7.out).mono ?_); rintro e w8 ⟨v8, rfl, r8, k6⟩; have R8 := Lib.hid r8; clear r8)
    | (go_at_call 33; (with_reducible refine (SM.out _ k6 _ _ R8.out.2 R8.out.1).mono ?_); rintro e w9 ⟨rfl, k7⟩)
    | (go_at_call 21; (with_reducible refine (GH.out _ k7).mono ?_); rintro e w10 ⟨v10, rfl, r10, k8⟩; have R10 := Lib.hid r10; clear r10)
    | (go_at_call 80; (with_reducible refine (SG.out _ k8 _ R10.out).mono ?_); rintro e w11 ⟨rfl, k9⟩)
    | (go_at_call 22; (with_reducible refine (SP.out _ k9).mono ?_); rintro e w' ⟨rfl, rfl⟩)
    | (go_at_call 81; (with_reducible refine (SR.out _ k9).mono ?_); rintro e w12 ⟨rfl, k11⟩))
  all_goals (
    have F := Lib.hid (FN.out _ k11)
    go_wp2
    go_ret
    exact ⟨rfl, F.out⟩)
end
end Go.Proofs.YtdbgehplmllgdaaGreat
