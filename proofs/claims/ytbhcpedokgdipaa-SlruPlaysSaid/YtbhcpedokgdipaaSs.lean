/- Both orders side by side: same. -/
import Derived.Test.YtbhcpedokgdipaaSr
namespace Go.Proofs.Ytbhcpedokgdipaa
open Go.RowKit Fl
set_option linter.unusedVariables false

/-- Both orders, made since w0. -/
abbrev OO (b b' n most : Nat) (low high : List Nat) (w0 w : World) : Prop := Run2 (SlO b n most low high) (RfO b' n most low high) w0 w
section
variable {w0 w : World} {b b' n most : Nat} {low high : List Nat}
theorem OO.l (h : OO b b' n most low high w0 w) : ∃ S, SlO b n most low high S w := by
  obtain ⟨A, B, _, _, _, _, _, r, _⟩ := h.1
  exact ⟨A, r⟩
theorem OO.r (h : OO b b' n most low high w0 w) : ∃ S, RfO b' n most low high S w := by
  obtain ⟨A, B, _, _, _, _, _, _, r⟩ := h.1
  exact ⟨B, r⟩
theorem OO.len (h : OO b b' n most low high w0 w) : low.length ≤ 1024 ∧ high.length ≤ 1024 := by
  obtain ⟨S, r⟩ := h.l
  have oi := r.oinv
  have := r.small
  have h1 := nodup_len n _ oi.l1 oi.ll
  have h2 := nodup_len n _ oi.h1 oi.hl
  omega

set_option maxRecDepth 100000 in
set_option maxHeartbeats 8000000 in
theorem oo_same (h : OO b b' n most low high w0 w) (m : Int) :
    Calls Try.prog 49 #[.pointer (some ⟨b, 0, none⟩), .pointer (some ⟨b', 0, none⟩), .int .i64 m] w fun e w' => e = .returned (.bool true) ∧ Below w.heap.size w w' := by
  have hlen := h.len
  obtain ⟨SR, hr⟩ := h.r
  obtain ⟨vl, vh, hv⟩ := hr.open_
  obtain ⟨A, ca, rfl⟩ := own_slice hv.lo
  obtain ⟨B, cb, rfl⟩ := own_slice hv.hi
  have RA := Lib.hid (rf_all hv hlen.1 hlen.2)
  obtain ⟨L, hL⟩ : ∃ L, low ++ high = L := ⟨_, rfl⟩
  obtain ⟨N, hN⟩ : ∃ N, L.length = N := ⟨_, rfl⟩
  have hN2 : low.length + high.length = N := by rw [← hN, ← hL, List.length_append]
  have hNb : N ≤ 2048 := by omega
  rw [hL] at RA
  have X := Lib.hid (fun (W : World) (k : Below w.heap.size w W) => h.keep k)
  have F1 := Lib.hid (fun (W0 W : World) (x : OO b b' n most low high w0 W0) (K : Below w.heap.size w W0) (k : Below W0.heap.size W0 W) => (hv.below (K.trans (k.mono K.size))).c1)
  have F3 := Lib.hid (fun (W0 W : World) (x : OO b b' n most low high w0 W0) (K : Below w.heap.size w W0) (k : Below W0.heap.size W0 W) => (hv.below (K.trans (k.mono K.size))).c3)
  have VI := Lib.hid (fun (W0 W : World) (x : OO b b' n most low high w0 W0) (K : Below w.heap.size w W0) (k : Below W0.heap.size W0 W) => (OO.l (x.keep k)).elim fun S r => (sl_victim r).mono fun e w' (hh : e = .returned (.tuple #[.int .i64 (((low ++ high).headD 0 : Nat) : Int), .bool (!(low ++ high).isEmpty)]) ∧ Below W.heap.size W w') => (show e = .returned (.tuple #[.int .i64 ((L.headD 0 : Nat) : Int), .bool (!L.isEmpty)]) ∧ Below W0.heap.size W0 w' from ⟨hL ▸ hh.1, k.trans (hh.2.mono k.size)⟩))
  have AL := Lib.hid (fun (W0 W : World) (x : OO b b' n most low high w0 W0) (K : Below w.heap.size w W0) (k : Below W0.heap.size W0 W) => (OO.l (x.keep k)).elim fun S r => (sl_all r).mono fun e w' (hh : ∃ v, e = .returned v ∧ RdI w' v (low ++ high) ∧ Below W.heap.size W w') => (show ∃ v, e = .returned v ∧ RdI w' v L ∧ Below W0.heap.size W0 w' from hh.elim fun v hh => ⟨v, hh.1, hL ▸ hh.2.1, k.trans (hh.2.2.mono k.size)⟩))
  have SM := Lib.hid (fun (W0 W : World) (x : OO b b' n most low high w0 W0) (K : Below w.heap.size w W0) (k : Below W0.heap.size W0 W) (v u : Value) (hv : RdI W v L) (hu : RdI W u L) => (same_rows hv hu (by omega) (by omega)).mono fun e w' (hh : e = .returned (.bool (decide (L = L))) ∧ ∃ k, w' = W.drewN k) => (show e = .returned (.bool true) ∧ Below W0.heap.size W0 w' from ⟨by rw [hh.1, decide_eq_true rfl], by obtain ⟨_, j, rfl⟩ := hh; exact below_drewN k j⟩))
  have LN := Lib.hid (fun (W0 W : World) (x : OO b b' n most low high w0 W0) (K : Below w.heap.size w W0) (k : Below W0.heap.size W0 W) => (OO.l (x.keep k)).elim fun S r => (sl_len r).mono fun e w' (hh : e = .returned (.int .i64 ((low.length + high.length : Nat) : Int)) ∧ ∃ k, w' = W.drewN k) => (show e = .returned (.int .i64 (N : Int)) ∧ Below W0.heap.size W0 w' from ⟨by rw [hh.1, hN2], by obtain ⟨_, j, rfl⟩ := hh; exact below_drewN k j⟩))
  have PR := Lib.hid (fun (W0 W : World) (x : OO b b' n most low high w0 W0) (K : Below w.heap.size w W0) (k : Below W0.heap.size W0 W) => (OO.l (x.keep k)).elim fun S r => (sl_protected r m).mono fun e w' (hh : e = .returned (.bool (inI m high)) ∧ W = w') => (show e = .returned (.bool (inI m high)) ∧ Below W0.heap.size W0 w' from ⟨hh.1, hh.2 ▸ k⟩))
  have CP := Lib.hid (fun (W0 W : World) (x : OO b b' n most low high w0 W0) (K : Below w.heap.size w W0) (k : Below W0.heap.size W0 W) => (OO.l (x.keep k)).elim fun S r => (sl_cap r).mono fun e w' (hh : e = .returned (.int .i64 (most : Int)) ∧ W = w') => (show e = .returned (.int .i64 (most : Int)) ∧ Below W0.heap.size W0 w' from ⟨hh.1, hh.2 ▸ k⟩))
  have IX := Lib.hid (fun (W0 W : World) (x : OO b b' n most low high w0 W0) (K : Below w.heap.size w W0) (k : Below W0.heap.size W0 W) => (idx_any2 (rdI_of (hv.below (K.trans (k.mono K.size))).hi) (by omega) m).mono fun e w' (hh : ∃ r : Int, e = .returned (.int .i64 r) ∧ ((inI m high = true ∧ ∃ k : Nat, r = (k : Int)) ∨ (inI m high = false ∧ r = -1)) ∧ W = w') => (show ∃ r : Int, e = .returned (.int .i64 r) ∧ ((inI m high = true ∧ ∃ k : Nat, r = (k : Int)) ∨ (inI m high = false ∧ r = -1)) ∧ Below W0.heap.size W0 w' from hh.elim fun r hh => ⟨r, hh.1, hh.2.1, hh.2.2 ▸ k⟩))
  have HN := Lib.hid hN
  generalize inI m high = p at *
  generalize high.length = HLn at *
  generalize low.length = LLn at *
  clear h hr hv hL hN hN2 hlen
  go_enter Try.func49, Try.ntmps49
  go_wp2_with fail
  refine RA.out.mono ?_
  rintro e w1 ⟨v1, rfl, o1, k1⟩
  have RV := Lib.hid (fun (W : World) (k : Below w1.heap.size w1 W) => (rdI_of o1).below k)
  have K1 := Lib.hid k1
  have X1 := Lib.hid (X.out _ k1)
  clear o1 k1
  have AL := Lib.hid (fun W k => AL.out w1 W X1.out K1.out k)
  have SM := Lib.hid (fun W k => SM.out w1 W X1.out K1.out k)
  have LN := Lib.hid (fun W k => LN.out w1 W X1.out K1.out k)
  have PR := Lib.hid (fun W k => PR.out w1 W X1.out K1.out k)
  have CP := Lib.hid (fun W k => CP.out w1 W X1.out K1.out k)
  have IX := Lib.hid (fun W k => IX.out w1 W X1.out K1.out k)
  have F1 := Lib.hid (fun W k => F1.out w1 W X1.out K1.out k)
  have F3 := Lib.hid (fun W k => F3.out w1 W X1.out K1.out k)
  have XK := Lib.hid (fun W (k : Below w1.heap.size w1 W) => X.out W (K1.out.trans (k.mono K1.out.size)))
  obtain ⟨A1, c1, ev, hrow⟩ := RV.out _ (Below.refl _ w1)
  rw [HN.out] at ev
  subst ev
  go_wp2_with fail
  refine (VI.out w1 _ X1.out K1.out (Below.refl _ w1)).mono ?_
  rintro e w2 ⟨rfl, k2⟩
  have K2 := Lib.hid k2
  clear k2
  cases L with
  | nil =>
    obtain rfl : N = 0 := by rw [← HN.out]; rfl
    clear hrow
    go_wp2_with fail
    have KB := Lib.hid K2.out.drew
    have z1 := F1.out _ KB.out
    have z3 := F3.out _ KB.out
    cases p with
    | true =>
      go_region_held3 (fun w' => w'.cell? ⟨b', 1, none⟩ = some (.int .i64 (most : Int)) ∧ w'.cell? ⟨b', 3, none⟩ = some (.slice B HLn cb))
        (first | go_keep | assumption | (go_split_ands; refine ⟨?_, ?_⟩ <;> assumption))
        (first
          | (go_at_call 44; (with_reducible refine (AL.out _ KB.out).mono ?_); rintro e w3 ⟨v3, rfl, r3, k3⟩; have R3 := Lib.hid r3; have KB := Lib.hid k3; have y1 := F1.out _ KB.out; have y3 := F3.out _ KB.out; clear r3 k3)
          | (go_at_call 78; (with_reducible refine (SM.out _ KB.out _ _ R3.out (RV.out _ KB.out)).mono ?_); rintro e w4 ⟨rfl, k4⟩; have KB := Lib.hid k4; have x1 := F1.out _ KB.out; have x3 := F3.out _ KB.out; clear k4)
          | (go_at_call 42; (with_reducible refine (LN.out _ KB.out).mono ?_); rintro e w5 ⟨rfl, k5⟩; have KB := Lib.hid k5; have q1 := F1.out _ KB.out; have q3 := F3.out _ KB.out; clear k5)
          | (go_at_call 39; (with_reducible refine (PR.out _ KB.out).mono ?_); rintro e w6 ⟨rfl, k6⟩; have KB := Lib.hid k6; have t1 := F1.out _ KB.out; have t3 := F3.out _ KB.out; clear k6)
          | (go_at_call 86; (with_reducible refine (IX.out _ KB.out).mono ?_); rintro e w7 ⟨r, rfl, hr, k7⟩; obtain ⟨j, rfl⟩ : ∃ j : Nat, r = (j : Int) := (hr.elim (fun x => x.2) (fun x => by cases x.1)); clear hr; have KB := Lib.hid k7; have s1 := F1.out _ KB.out; have s3 := F3.out _ KB.out; clear k7)
          | (go_at_call 41; (with_reducible refine (CP.out _ KB.out).mono ?_); rintro e w8 ⟨rfl, k8⟩; have KB := Lib.hid k8; have p1 := F1.out _ KB.out; have p3 := F3.out _ KB.out; clear k8))
      all_goals (
        go_wp2
        go_ret
        exact ⟨rfl, K1.out.trans (KB.out.mono K1.out.size)⟩)
    | false =>
      go_region_held3 (fun w' => w'.cell? ⟨b', 1, none⟩ = some (.int .i64 (most : Int)) ∧ w'.cell? ⟨b', 3, none⟩ = some (.slice B HLn cb))
        (first | go_keep | assumption | (go_split_ands; refine ⟨?_, ?_⟩ <;> assumption))
        (first
          | (go_at_call 44; (with_reducible refine (AL.out _ KB.out).mono ?_); rintro e w3 ⟨v3, rfl, r3, k3⟩; have R3 := Lib.hid r3; have KB := Lib.hid k3; have y1 := F1.out _ KB.out; have y3 := F3.out _ KB.out; clear r3 k3)
          | (go_at_call 78; (with_reducible refine (SM.out _ KB.out _ _ R3.out (RV.out _ KB.out)).mono ?_); rintro e w4 ⟨rfl, k4⟩; have KB := Lib.hid k4; have x1 := F1.out _ KB.out; have x3 := F3.out _ KB.out; clear k4)
          | (go_at_call 42; (with_reducible refine (LN.out _ KB.out).mono ?_); rintro e w5 ⟨rfl, k5⟩; have KB := Lib.hid k5; have q1 := F1.out _ KB.out; have q3 := F3.out _ KB.out; clear k5)
          | (go_at_call 39; (with_reducible refine (PR.out _ KB.out).mono ?_); rintro e w6 ⟨rfl, k6⟩; have KB := Lib.hid k6; have t1 := F1.out _ KB.out; have t3 := F3.out _ KB.out; clear k6)
          | (go_at_call 86; (with_reducible refine (IX.out _ KB.out).mono ?_); rintro e w7 ⟨r, rfl, hr, k7⟩; obtain rfl : r = -1 := (hr.elim (fun x => by cases x.1) (fun x => x.2)); clear hr; have KB := Lib.hid k7; have s1 := F1.out _ KB.out; have s3 := F3.out _ KB.out; clear k7)
          | (go_at_call 41; (with_reducible refine (CP.out _ KB.out).mono ?_); rintro e w8 ⟨rfl, k8⟩; have KB := Lib.hid k8; have p1 := F1.out _ KB.out; have p3 := F3.out _ KB.out; clear k8))
      all_goals (
        go_wp2
        go_ret
        exact ⟨rfl, K1.out.trans (KB.out.mono K1.out.size)⟩)
  | cons x r =>
    obtain ⟨g, rfl, hc⟩ : ∃ g, A1 = some ⟨g, 0, none⟩ ∧ ∀ i, i < (x :: r).length → w1.cell? ⟨g, i, none⟩ = some (.int .i64 (((x :: r).getD i 0 : Nat) : Int)) := hrow.elim (fun e => by cases e) id
    have n1 : w2.cell? ⟨g, 0, none⟩ = some (.int .i64 (x : Int)) := (K2.out.cell (World.block_lt_of_cell? w1 _ (hc 0 (by simp)))).trans (hc 0 (by simp))
    have hN0 : 0 < N := by rw [← HN.out]; simp
    have hN1 : (0 : Int) < (N : Int) := by omega
    have hN3 : decide ((0 : Int) < (N : Int)) = true := decide_eq_true hN1
    have hN4 : decide (0 < N) = true := decide_eq_true hN0
    clear hrow hc
    go_wp2_with fail
    have KB := Lib.hid K2.out.drew
    have z1 := F1.out _ KB.out
    have z3 := F3.out _ KB.out
    cases p with
    | true =>
      go_region_held3 (fun w' => w'.cell? ⟨b', 1, none⟩ = some (.int .i64 (most : Int)) ∧ w'.cell? ⟨b', 3, none⟩ = some (.slice B HLn cb))
        (first | go_keep | assumption | (go_split_ands; refine ⟨?_, ?_⟩ <;> assumption))
        (first
          | (go_at_call 44; (with_reducible refine (AL.out _ KB.out).mono ?_); rintro e w3 ⟨v3, rfl, r3, k3⟩; have R3 := Lib.hid r3; have KB := Lib.hid k3; have y1 := F1.out _ KB.out; have y3 := F3.out _ KB.out; clear r3 k3)
          | (go_at_call 78; (with_reducible refine (SM.out _ KB.out _ _ R3.out (RV.out _ KB.out)).mono ?_); rintro e w4 ⟨rfl, k4⟩; have KB := Lib.hid k4; have x1 := F1.out _ KB.out; have x3 := F3.out _ KB.out; clear k4)
          | (go_at_call 42; (with_reducible refine (LN.out _ KB.out).mono ?_); rintro e w5 ⟨rfl, k5⟩; have KB := Lib.hid k5; have q1 := F1.out _ KB.out; have q3 := F3.out _ KB.out; clear k5)
          | (go_at_call 39; (with_reducible refine (PR.out _ KB.out).mono ?_); rintro e w6 ⟨rfl, k6⟩; have KB := Lib.hid k6; have t1 := F1.out _ KB.out; have t3 := F3.out _ KB.out; clear k6)
          | (go_at_call 86; (with_reducible refine (IX.out _ KB.out).mono ?_); rintro e w7 ⟨r, rfl, hr, k7⟩; obtain ⟨j, rfl⟩ : ∃ j : Nat, r = (j : Int) := (hr.elim (fun x => x.2) (fun x => by cases x.1)); clear hr; have KB := Lib.hid k7; have s1 := F1.out _ KB.out; have s3 := F3.out _ KB.out; clear k7)
          | (go_at_call 41; (with_reducible refine (CP.out _ KB.out).mono ?_); rintro e w8 ⟨rfl, k8⟩; have KB := Lib.hid k8; have p1 := F1.out _ KB.out; have p3 := F3.out _ KB.out; clear k8))
      all_goals (
        go_wp2
        go_ret
        exact ⟨rfl, K1.out.trans (KB.out.mono K1.out.size)⟩)
    | false =>
      go_region_held3 (fun w' => w'.cell? ⟨b', 1, none⟩ = some (.int .i64 (most : Int)) ∧ w'.cell? ⟨b', 3, none⟩ = some (.slice B HLn cb))
        (first | go_keep | assumption | (go_split_ands; refine ⟨?_, ?_⟩ <;> assumption))
        (first
          | (go_at_call 44; (with_reducible refine (AL.out _ KB.out).mono ?_); rintro e w3 ⟨v3, rfl, r3, k3⟩; have R3 := Lib.hid r3; have KB := Lib.hid k3; have y1 := F1.out _ KB.out; have y3 := F3.out _ KB.out; clear r3 k3)
          | (go_at_call 78; (with_reducible refine (SM.out _ KB.out _ _ R3.out (RV.out _ KB.out)).mono ?_); rintro e w4 ⟨rfl, k4⟩; have KB := Lib.hid k4; have x1 := F1.out _ KB.out; have x3 := F3.out _ KB.out; clear k4)
          | (go_at_call 42; (with_reducible refine (LN.out _ KB.out).mono ?_); rintro e w5 ⟨rfl, k5⟩; have KB := Lib.hid k5; have q1 := F1.out _ KB.out; have q3 := F3.out _ KB.out; clear k5)
          | (go_at_call 39; (with_reducible refine (PR.out _ KB.out).mono ?_); rintro e w6 ⟨rfl, k6⟩; have KB := Lib.hid k6; have t1 := F1.out _ KB.out; have t3 := F3.out _ KB.out; clear k6)
          | (go_at_call 86; (with_reducible refine (IX.out _ KB.out).mono ?_); rintro e w7 ⟨r, rfl, hr, k7⟩; obtain rfl : r = -1 := (hr.elim (fun x => by cases x.1) (fun x => x.2)); clear hr; have KB := Lib.hid k7; have s1 := F1.out _ KB.out; have s3 := F3.out _ KB.out; clear k7)
          | (go_at_call 41; (with_reducible refine (CP.out _ KB.out).mono ?_); rintro e w8 ⟨rfl, k8⟩; have KB := Lib.hid k8; have p1 := F1.out _ KB.out; have p3 := F3.out _ KB.out; clear k8))
      all_goals (
        go_wp2
        go_ret
        exact ⟨rfl, K1.out.trans (KB.out.mono K1.out.size)⟩)
end

end Go.Proofs.Ytbhcpedokgdipaa
