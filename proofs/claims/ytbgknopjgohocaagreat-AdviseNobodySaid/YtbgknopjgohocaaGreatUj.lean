/- A longer trace: the statement's walk. -/
import Derived.Test.YtbgknopjgohocaaGreatZH
import Derived.Deep.MidRow
namespace Go.Proofs.YtbgknopjgohocaaGreat
open Go.RowKit Fl
open Scan hiding isN
set_option linter.unusedVariables false
set_option maxRecDepth 100000
set_option maxHeartbeats 2000000

theorem rd_news {w W : World} {a : Option Addr} {n : Nat} {z : Nat → Int} (h : RdZ2 W a n z) : ∀ ad, a = some ad → ∀ j u, ((List.range n).map (fun i => Value.int .i64 (z i)))[j]? = some u → W.cell? (ad.add j) = some u := fun ad e j u hj => by
  have hlt : j < n := by
    have := (List.getElem?_eq_some_iff.1 hj).1
    simpa using this
  obtain ⟨g, off, e', _, hc⟩ := h (by omega)
  rw [e] at e'
  cases e'
  have hu : u = .int .i64 (z j) := by simpa [hlt] using hj.symm
  rw [hu]
  rw [show (Addr.mk g off none).add j = ⟨g, off + j, none⟩ from by by_cases h : j = 0 <;> simp [Addr.add, h]]
  exact (hc j hlt).1
theorem rd_row {w : World} {base : Nat} {v : Value} {n : Nat} {z : Nat → Int} (h : w.ownsRow base 3 1 v n ((List.range n).map fun i => Value.int .i64 (z i))) (hz : ∀ i, i < n → i64 (z i)) : ∃ A c, v = .slice A n c ∧ RdZ2 w A n z ∧ n ≤ c ∧ c ≤ 9223372036854775807 := by
  rcases h.2 with ⟨rfl, rfl⟩ | ⟨g, cap, cur, rfl, hb, hh, hc, hm, hs, ht⟩
  · exact ⟨none, 0, rfl, fun h0 => absurd h0 (Nat.lt_irrefl 0), Nat.le_refl _, by omega⟩
  · refine ⟨_, cap, rfl, fun h0 => ⟨g, 0, rfl, blk_lt' hh, fun i hi => ⟨?_, hz i hi⟩⟩, hc, by unfold maxLen at hm; omega⟩
    have h1 : (cur.toList.take (n * 1))[i]? = ((List.range n).map fun i => Value.int .i64 (z i))[i]? := by rw [ht]
    rw [List.getElem?_take_of_lt (by omega)] at h1
    rw [Nat.zero_add, blk_cell' hh]
    simpa [hi] using h1
/-- Two rows of reads, one behind the other. -/
def joinZ (z y : Nat → Int) (n : Nat) (k : Nat) : Int := if k < n then z k else y (k - n)
theorem joinZ_rows (z y : Nat → Int) (n m : Nat) : (List.range n).map (fun i => Value.int .i64 (z i)) ++ (List.range m).map (fun i => Value.int .i64 (y i)) = (List.range (n + m)).map (fun i => Value.int .i64 (joinZ z y n i)) := by
  rw [List.range_add, List.map_append, List.map_map]
  congr 1
  · exact List.map_congr_left (fun i hi => by
      have := List.mem_range.1 hi
      simp [joinZ, this])
  · exact List.map_congr_left (fun i hi => by simp [joinZ, show ¬ (n + i < n) by omega])
theorem joinZ_row {w : World} {base : Nat} {v : Value} {z y : Nat → Int} {n m k : Nat} (hk : k = 0 + n + m) (h : w.ownsRow base 3 1 v k (([] ++ (List.range n).map fun i => Value.int .i64 (z i)) ++ (List.range m).map fun i => Value.int .i64 (y i))) (hz : ∀ i, i < n → i64 (z i)) (hy : ∀ i, i < m → i64 (y i)) :
    ∃ A c, v = .slice A (n + m) c ∧ RdZ2 w A (n + m) (joinZ z y n) ∧ n + m ≤ c ∧ c ≤ 9223372036854775807 := by
  subst hk
  rw [List.nil_append, joinZ_rows, Nat.zero_add] at h
  exact rd_row h (fun i hi => by
    unfold joinZ
    split
    · exact hz i (by assumption)
    · exact hy _ (by omega))
theorem rdI_less {w : World} {B : Option Addr} {cb : Nat} {l x : List Nat} (h : RdI w (.slice B (l ++ x).length cb) (l ++ x)) : RdI w (.slice B l.length cb) l := by
  obtain ⟨A, c, e, h⟩ := h
  cases e
  refine ⟨B, cb, rfl, ?_⟩
  rcases h with h | ⟨g, e, hc⟩
  · exact .inl (List.append_eq_nil_iff.1 h).1
  · refine .inr ⟨g, e, fun i hi => ?_⟩
    rw [hc i (by rw [List.length_append]; omega)]
    simp [List.getD_eq_getElem?_getD, List.getElem?_append_left hi]
theorem cntR_succ (nb : Nat) (z : Nat → Int) (k : Nat) : cntR nb z (k + 1) = cntR nb z k + (if 0 ≤ z k ∧ z k < nb then 1 else 0) := rfl
theorem cntR_le (nb : Nat) (z : Nat → Int) : ∀ k, cntR nb z k ≤ k
  | 0 => Nat.le_refl _
  | k + 1 => by
    have := cntR_le nb z k
    rw [cntR_succ]
    split <;> omega
theorem wsum_mono (F : Nat → Nat) {k n : Nat} (h : k ≤ n) : wsum F k ≤ wsum F n := by
  induction h with
  | refl => exact Nat.le_refl _
  | step _ ih => exact Nat.le_trans ih (Nat.le_add_right _ _)

theorem traceGoes_walk (s : SW) (hs : SWB s) (a : Option Addr) (n cp : Nat) (z : Nat → Int) (b : Option Addr) (m cq : Nat) (y : Nat → Int) (w : World) (ha : RdZ2 w a n z) (hc : n ≤ cp) (hm : cp ≤ 9223372036854775807) (hn : a = none → n = 0 ∧ cp = 0) (hb : RdZ2 w b m y) (hc' : m ≤ cq) (hm' : cq ≤ 9223372036854775807) (hn' : b = none → m = 0 ∧ cq = 0) :
    Calls Tryz.prog 3 #[s.v, .slice a n cp, .slice b m cq] w fun e w' => e = .returned (.bool true) ∧ Below w.heap.size w w' := by
  have C0 := confW_ok hs
  have M0 := confW_may hs
  have SC0 := Lib.hid (fun W => set_confW s hs W)
  have F1 := Lib.hid (fun W (k : Below w.heap.size w W) => few36 a n cp 80 z W (ha.below k) hc hm (by omega))
  have F2 := Lib.hid (fun W (k : Below w.heap.size w W) => few36 b m cq 20 y W (hb.below k) hc' hm' (by omega))
  have RA := Lib.hid (fun W (k : Below w.heap.size w W) => (ha.below k).less (Nat.min_le_left n 80))
  have RB' := Lib.hid (fun W (k : Below w.heap.size w W) => (hb.below k).less (Nat.min_le_left m 20))
  have a1 : min n 80 ≤ 80 := Nat.min_le_right _ _
  have a2 : min n 80 ≤ cp := by omega
  have a3 : a = none → min n 80 = 0 ∧ cp = 0 := fun e => ⟨by have := (hn e).1; omega, (hn e).2⟩
  have b1 : min m 20 ≤ 20 := Nat.min_le_right _ _
  have b2 : min m 20 ≤ cq := by omega
  have b3 : b = none → min m 20 = 0 ∧ cq = 0 := fun e => ⟨by have := (hn' e).1; omega, (hn' e).2⟩
  have ZA := Lib.hid (fun i (hi : i < min n 80) => ((ha (by omega)).elim fun _ h => h.elim fun _ h => (h.2.2 i (by omega)).2 : i64 (z i)))
  have ZB := Lib.hid (fun i (hi : i < min m 20) => ((hb (by omega)).elim fun _ h => h.elim fun _ h => (h.2.2 i (by omega)).2 : i64 (y i)))
  clear ha hb
  generalize hA : min n 80 = n' at *
  generalize hB : min m 20 = m' at *
  have n1 : (n : Int) ≤ (cp : Int) := by omega
  have n2 : (m : Int) ≤ (cq : Int) := by omega
  have n3 : (cp : Int) ≤ 9223372036854775807 := by omega
  have n4 : (cq : Int) ≤ 9223372036854775807 := by omega
  have n5 : (n' : Int) ≤ 80 := by omega
  have n6 : (m' : Int) ≤ 20 := by omega
  have n7 : (n' : Int) ≤ (cp : Int) := by omega
  have n8 : (m' : Int) ≤ (cq : Int) := by omega
  have NN := Lib.hid (And.intro a3 b3)
  clear hn hn' hc hc' hm hm' a1 a2 b1 b2 a3 b3 hA hB
  generalize confW s = cf at *
  have CF0 := Lib.hid (And.intro C0 M0)
  have MA := may_all M0
  clear C0 M0 hs
  obtain ⟨bl, sl, lo, wi, bu, seed, keep, margin, ghost, run⟩ := s
  obtain ⟨k0, k1, k2, k3, k4, k5, k6, k7, k8, k9⟩ := cf
  obtain ⟨r, hr⟩ : ∃ r, rcOf ⟨k0, k1, k2, k3, k4, k5, k6, k7, k8, k9⟩ = r := ⟨_, rfl⟩
  have RR : (r.c.n : Int) = k1 ∧ (r.nb : Int) = k0 ∧ (r.most : Int) = k4 := by
    rw [← hr]
    refine ⟨?_, ?_, ?_⟩
    · show (((k1).toNat : Nat) : Int) = k1
      have := MA.2.1.1; simp only at this; omega
    · show (((k0).toNat : Nat) : Int) = k0
      have := MA.1.1; simp only at this; omega
    · show (((k4).toNat : Nat) : Int) = k4
      have := MA.2.2.2.2.1.1; simp only at this; omega
  have MB : (1 ≤ k0 ∧ k0 ≤ 512) ∧ (1 ≤ k1 ∧ k1 ≤ 192) ∧ (0 ≤ k4 ∧ k4 ≤ 1048576) := ⟨MA.1, MA.2.1, MA.2.2.2.2.1⟩
  have RR := Lib.hid RR
  have MB := Lib.hid MB
  clear MA
  have SC := Lib.hid (fun W => show Calls Tryz.prog 6 #[.agg #[.int .u8 bl, .int .u8 sl, .int .u8 lo, .int .u8 wi, .int .u8 bu, .int .u64 seed, .int .u64 keep, .int .u64 margin, .int .u64 ghost, .int .u8 run]] W (fun e w' => e = .returned (.agg #[.int .i64 k0, .int .i64 k1, .int .i64 k2, .int .i64 k3, .int .i64 k4, .int .u64 k5, .float .f64 k6, .float .f64 k7, .float .f64 k8, .int .i64 k9]) ∧ Below W.heap.size W w') from SC0.out W)
  clear SC0
  have HN := Lib.hid (fun (aa : Option Addr) (nn cc : Nat) (zz : Nat → Int) (W : World) (h0 : RdZ2 W aa nn zz) (h1 : nn ≤ 1000) (h2 : nn ≤ cc) (h3 : cc ≤ 9223372036854775807) =>
    show Calls Tryz.prog 8 #[.agg #[.int .i64 k0, .int .i64 k1, .int .i64 k2, .int .i64 k3, .int .i64 k4, .int .u64 k5, .float .f64 k6, .float .f64 k7, .float .f64 k8, .int .i64 k9], .slice aa nn cc] W (fun e w' => ∃ l A c, e = .returned (.tuple #[.slice A (List.length l) c, .int .i64 0]) ∧ (l = hitsL (goR r zz nn).1 ∧ RdI w' (.slice A (List.length l) c) l ∧ List.length l ≤ nn ∧ List.length l ≤ c ∧ c ≤ 9223372036854775807) ∧ Below W.heap.size W w') from
    (tr_hits ⟨k0, k1, k2, k3, k4, k5, k6, k7, k8, k9⟩ CF0.out.1 CF0.out.2 aa nn cc zz W h0 h1 h2 h3).mono (fun e w' ⟨v, he, ho, _, _, hb⟩ => by
      rw [hr] at ho
      have hl : (hitsL (goR r zz nn).1).length ≤ nn := by have := hitsL_len (goR r zz nn).1; rw [goR_len] at this; exact this
      obtain ⟨A, c, rfl⟩ := own_slice ho
      refine ⟨_, A, c, he, ⟨rfl, rdI_of ho, hl, ?_⟩, hb⟩
      rcases ho.2 with ⟨e1, e2⟩ | ⟨g, cap, cur, e1, _, _, hc, hm, _⟩
      · injection e1 with _ _ e3
        rw [e2, e3]
        exact ⟨Nat.zero_le _, by omega⟩
      · injection e1 with _ _ e3
        rw [e3]
        exact ⟨hc, by unfold maxLen at hm; omega⟩))
  have RN := Lib.hid (fun (aa : Option Addr) (nn cc : Nat) (zz : Nat → Int) (W : World) (h0 : RdZ2 W aa nn zz) (h1 : nn ≤ 1000) (h2 : nn ≤ cc) (h3 : cc ≤ 9223372036854775807) =>
    show Calls Tryz.prog 9 #[.agg #[.int .i64 k0, .int .i64 k1, .int .i64 k2, .int .i64 k3, .int .i64 k4, .int .u64 k5, .float .f64 k6, .float .f64 k7, .float .f64 k8, .int .i64 k9], .slice aa nn cc] W (fun e w' => ∃ T : TL, e = .returned (.tuple #[.agg #[.int .i64 (T.hits : Int), .int .i64 (T.misses : Int), .int .i64 (T.byps : Int), .int .i64 (T.fills : Int), .int .i64 (T.evic : Int), .int .i64 0, .int .i64 0, .int .i64 0, .int .i64 0, .int .i64 0, .int .i64 0, .int .i64 0, .int .i64 (T.filled : Int), .int .i64 0], .int .i64 0]) ∧ (T = (goR r zz nn).2.t ∧ HVs r zz nn) ∧ Below W.heap.size W w') from
    (tr_run ⟨k0, k1, k2, k3, k4, k5, k6, k7, k8, k9⟩ CF0.out.1 CF0.out.2 aa nn cc zz W h0 h1 h2 h3).mono (fun e w' ⟨he, hv, hb⟩ => by
      rw [hr] at he hv
      exact ⟨_, he, ⟨rfl, hv⟩, hb⟩))
  have WN := Lib.hid (fun (aa : Option Addr) (nn cc : Nat) (zz : Nat → Int) (W : World) (h0 : RdZ2 W aa nn zz) (h1 : nn ≤ 1000) (h2 : nn ≤ cc) (h3 : cc ≤ 9223372036854775807) =>
    show Calls Tryz.prog 10 #[.agg #[.int .i64 k0, .int .i64 k1, .int .i64 k2, .int .i64 k3, .int .i64 k4, .int .u64 k5, .float .f64 k6, .float .f64 k7, .float .f64 k8, .int .i64 k9], .slice aa nn cc] W (fun e w' => ∃ (N g : Nat) (F : Nat → Nat), e = .returned (.tuple #[.slice (some ⟨g, 0, none⟩) N N, .int .i64 0]) ∧ (N = r.c.n ∧ F = (goR r zz nn).2.wear ∧ Arr w' g 3 N (weF F)) ∧ Below W.heap.size W w') from
    (tr_wear ⟨k0, k1, k2, k3, k4, k5, k6, k7, k8, k9⟩ CF0.out.1 CF0.out.2 aa nn cc zz W h0 h1 h2 h3).mono (fun e w' ⟨g, he, ha, _, hv, hb⟩ => by
      rw [hr] at he ha
      exact ⟨_, g, _, he, ⟨rfl, rfl, ha⟩, hb⟩))
  clear hr
  show Calls Tryz.prog 3 #[.agg #[.int .u8 bl, .int .u8 sl, .int .u8 lo, .int .u8 wi, .int .u8 bu, .int .u64 seed, .int .u64 keep, .int .u64 margin, .int .u64 ghost, .int .u8 run], .slice a n cp, .slice b m cq] w _
  go_enter Tryz.func3, Tryz.ntmps3
  go_wp2_with fail
  refine (SC.out _).mono ?_
  rintro e w1 ⟨rfl, b1⟩
  have B1 := Lib.hid (((Below.refl w.heap.size w).alloc (Nat.le_refl _) _).trans (b1.mono (by simp)))
  have TH := Lib.hid (cnf_there w1)
  clear b1
  go_wp2_with (
    refine wpList_store_mid rfl 28 (.tmp 7) (.tmp 22) rfl w1.heap.size 0 #[.int .i64 k0, .int .i64 k1, .int .i64 k2, .int .i64 k3, .int .i64 k4, .int .u64 k5, .float .f64 k6, .float .f64 k7, .float .f64 k8, .int .i64 k9] rfl rfl TH.out (by kernel_rfl) (by simp [Value.oneCell']) ?_
    obtain ⟨w3, hw3, BXC, BXB⟩ := cnf_put w1 k0 k1 k2 k3 k4 k5 k6 k7 k8 k9
    rw [hw3]
    have B3 := Lib.hid (B1.out.trans (BXB.1.mono B1.out.size))
    have bx3 : w1.heap.size < w3.heap.size := by have := BXB.2; omega
    have BXC := Lib.hid (fun W (kk : Below w3.heap.size w3 W) => BXC.below kk bx3)
    have bx3 := Lib.hid bx3
    clear hw3 TH BXB)
  refine (F1.out _ B3.out).mono ?_
  rintro e _ ⟨rfl, rfl⟩
  go_wp2_with fail
  refine (F2.out _ B3.out).mono ?_
  rintro e _ ⟨rfl, rfl⟩
  obtain ⟨i0, hif, hz0, hz1, hz2⟩ := info_parts infoInt
  have O0 : (w3.alloc (.cells #[] 3)).ownsRow w3.heap.size 3 1 (.slice (some ⟨w3.heap.size, 0, none⟩) 0 0) 0 [] := ⟨rfl, .inr ⟨_, 0, #[], rfl, Nat.le_refl _, heap_at w3 _ _ rfl, Nat.le_refl _, Nat.zero_le _, rfl, rfl⟩⟩
  have B4 := Lib.hid (B3.out.alloc B3.out.size (.cells #[] 3))
  have ON := Lib.hid O0
  clear O0
  have N4 := Lib.hid (rd_news (w := w3) (RA.out _ B4.out))
  have L4 : ((List.range n').map (fun i => Value.int .i64 (z i))).length = n' := by simp
  have L5 : ((List.range m').map (fun i => Value.int .i64 (y i))).length = m' := by simp
  have P4 : ∀ u ∈ (List.range n').map (fun i => Value.int .i64 (z i)), u.oneCell' = true := fun u hu => by
    obtain ⟨i, _, rfl⟩ := List.mem_map.1 hu
    rfl
  have P5 : ∀ u ∈ (List.range m').map (fun i => Value.int .i64 (y i)), u.oneCell' = true := fun u hu => by
    obtain ⟨i, _, rfl⟩ := List.mem_map.1 hu
    rfl
  have Q4 : 0 + n' ≤ maxLen ∧ (0 + n') * 8 ≤ 140737488355328 ∧ 0 + n' + m' ≤ maxLen ∧ (0 + n' + m') * 8 ≤ 140737488355328 := by unfold maxLen; omega
  have LP := Lib.hid (And.intro (And.intro L4 P4) (And.intro L5 P5))
  have Q4 := Lib.hid Q4
  have G4 := Lib.hid (show w3.heap.size ≤ (w3.alloc (.cells #[] 3)).heap.size by simp)
  have B5 := Lib.hid (fun w5 (g : (w3.alloc (.cells #[] 3)).grownBy w5 (some w3.heap.size)) => ((((Keeps.of_below ((Below.refl w3.heap.size w3).alloc (Nat.le_refl _) (.cells #[] 3))).grown g (fun j ej => .inl (by cases ej; exact Nat.le_refl _))).below (Nat.le_refl _)) : Below w3.heap.size w3 w5))
  clear L4 L5 P4 P5
  go_wp2_with (first
    | (at_builtin; refine wpList_append_row rfl _ _ 25 rfl w3.heap.size 3 i0 (.int .i64 0) 8 Tryz.underlying25 hif hz0 hz1 hz2 rfl _ _ _ rfl ON.out a n' cp _ rfl NN.out.1 LP.out.1.1 N4.out LP.out.1.2 Q4.out.1 Q4.out.2.1 G4.out ?_; intro v5 w5 o5 g5; have O5 := Lib.hid o5; have B6 := Lib.hid (B5.out _ g5); clear o5 g5 ON B5)
    | (at_builtin; refine wpList_append_row rfl _ _ 25 rfl w3.heap.size 3 i0 (.int .i64 0) 8 Tryz.underlying25 hif hz0 hz1 hz2 rfl _ _ _ rfl O5.out b m' cq _ rfl NN.out.2 LP.out.2.1 (rd_news (w := w3) (RB'.out _ (B3.out.trans (B6.out.mono B3.out.size)))) LP.out.2.2 Q4.out.2.2.1 Q4.out.2.2.2 B6.out.size ?_; intro v6 w6 o6 g6; have B7 := Lib.hid (((Keeps.of_below B6.out).grown g6 (fun j ej => .inl (own_ge O5.out j ej))).below (Nat.le_refl _)); obtain ⟨AA, cA, ev, r6, h61, h62⟩ := joinZ_row rfl o6 ZA.out ZB.out; rw [ev]; have R6 := Lib.hid (fun W (kk : Below w6.heap.size w6 W) => r6.below kk); have H61 := Lib.hid (And.intro h61 h62); clear o6 g6 ev r6 O5 B6 ZA ZB LP Q4 G4 B4 N4; obtain ⟨x0, x1, x2, x3, x4, x5, x6, x7, x8, x9⟩ := BXC.out _ B7.out; clear v6))
  have B37 := Lib.hid (B3.out.trans (B7.out.mono B3.out.size))
  refine (HN.out a n' cp z _ (RA.out _ B37.out) (by omega) (by omega) (by omega)).mono ?_
  rintro e w8 ⟨la, A1, c1, rfl, l8, b8⟩
  have L8 := Lib.hid l8
  have B8 := Lib.hid (B7.out.trans (b8.mono B7.out.size))
  have b8 := Lib.hid b8
  clear l8 x0 x1 x2 x3 x4 x5 x6 x7 x8 x9
  obtain ⟨x0, x1, x2, x3, x4, x5, x6, x7, x8, x9⟩ := BXC.out _ B8.out
  go_wp2_with fail
  refine (HN.out AA (n' + m') cA (joinZ z y n') _ (R6.out _ b8.out) (by omega) H61.out.1 H61.out.2).mono ?_
  rintro e w9 ⟨lb, A2, c2, rfl, l9, b9⟩
  have L9 := Lib.hid l9
  have B9 := Lib.hid (B8.out.trans (b9.mono B8.out.size))
  have b69 := Lib.hid (b8.out.trans (b9.mono b8.out.size))
  have b9 := Lib.hid b9
  clear l9 x0 x1 x2 x3 x4 x5 x6 x7 x8 x9
  obtain ⟨x0, x1, x2, x3, x4, x5, x6, x7, x8, x9⟩ := BXC.out _ B9.out
  go_wp2_with fail
  refine (RN.out AA (n' + m') cA (joinZ z y n') _ (R6.out _ b69.out) (by omega) H61.out.1 H61.out.2).mono ?_
  rintro e w10 ⟨T, rfl, t10, b10⟩
  have T10 := Lib.hid t10
  have b10 := Lib.hid b10
  have B10 := Lib.hid (B9.out.trans (b10.out.mono B9.out.size))
  have TH0 := Lib.hid (heap_at w10 tlZ _ rfl)
  have TH := Lib.hid (tl_there TH0.out)
  clear t10 x0 x1 x2 x3 x4 x5 x6 x7 x8 x9
  go_wp2_with (
    refine wpList_store_mid rfl 35 (.tmp 13) (.tmp 48) rfl w10.heap.size 0 #[.int .i64 (T.hits : Int), .int .i64 (T.misses : Int), .int .i64 (T.byps : Int), .int .i64 (T.fills : Int), .int .i64 (T.evic : Int), .int .i64 0, .int .i64 0, .int .i64 0, .int .i64 0, .int .i64 0, .int .i64 0, .int .i64 0, .int .i64 (T.filled : Int), .int .i64 0] rfl rfl TH.out (by kernel_rfl) (by simp [Value.oneCell']) ?_
    obtain ⟨w11, hw11, FC, KC⟩ := tl_put TH0.out (.int .i64 (T.hits : Int)) (.int .i64 (T.misses : Int)) (.int .i64 (T.byps : Int)) (.int .i64 (T.fills : Int)) (.int .i64 (T.evic : Int)) (.int .i64 (T.filled : Int))
    rw [hw11]
    have b11 := Lib.hid ((((Keeps.of_below ((Below.refl w10.heap.size w10).alloc (Nat.le_refl _) tlZ)).trans KC (fun j (hj : j = w10.heap.size) => .inl (by omega))).below (Nat.le_refl _)))
    have B11 := Lib.hid (B10.out.trans (b11.out.mono B10.out.size))
    have FC := Lib.hid FC
    clear hw11 TH TH0 KC
    obtain ⟨x0, x1, x2, x3, x4, x5, x6, x7, x8, x9⟩ := BXC.out _ B11.out)
  have b911 := Lib.hid (b10.out.trans (b11.out.mono b10.out.size))
  have b611 := Lib.hid (b69.out.trans (b911.out.mono b69.out.size))
  refine (WN.out AA (n' + m') cA (joinZ z y n') _ (R6.out _ b611.out) (by omega) H61.out.1 H61.out.2).mono ?_
  rintro e w12 ⟨N, g, F, rfl, f12, b12⟩
  have F12 := Lib.hid f12
  have b12 := Lib.hid b12
  have B12 := Lib.hid (B11.out.trans (b12.out.mono B11.out.size))
  clear f12 x0 x1 x2 x3 x4 x5 x6 x7 x8 x9
  have X : ∃ x, lb = la ++ x ∧ ∀ i, i ∈ x → n' ≤ i := by
    obtain ⟨x, e, hx⟩ := hits_longer r (joinZ z y n') n' m'
    refine ⟨x, ?_, hx⟩
    rw [L9.out.1, e, L8.out.1, goR_congr r (z := joinZ z y n') (y := z) (fun i hi => by unfold joinZ; rw [if_pos hi])]
  obtain ⟨x, hx, hge⟩ := X
  have ql : lb.length = la.length + x.length := by rw [hx, List.length_append]
  have y1 : (la.length : Int) ≤ (c2 : Int) := by have := L9.out.2.2.2.1; omega
  have y2 : (c2 : Int) ≤ 9223372036854775807 := by have := L9.out.2.2.2.2; omega
  have y3 : decide ((lb.length : Int) < (la.length : Int)) = false := decide_eq_false (by omega)
  have y3' : decide (lb.length < la.length) = false := decide_eq_false (by omega)
  have R8 := Lib.hid (L8.out.2.1.below (b9.out.trans ((b911.out.trans (b12.out.mono b911.out.size)).mono b9.out.size)))
  have R9 := Lib.hid (L9.out.2.1.below (b911.out.trans (b12.out.mono b911.out.size)))
  have SM0 := Lib.hid (fun (W : World) (kk : Below w12.heap.size w12 W) => same_rows (w := W) (v := .slice A2 la.length c2) (u := .slice A1 la.length c1) (l := la) (m := la) ((rdI_less (x := x) (by rw [← hx]; exact R9.out)).below kk) (R8.out.below kk) (by have := L8.out.2.2.1; omega) (by have := L8.out.2.2.1; omega))
  have SM := Lib.hid (fun W (kk : Below w12.heap.size w12 W) => show Calls Tryz.prog 11 #[.slice A2 la.length c2, .slice A1 la.length c1] W (fun e w' => e = .returned (.bool true) ∧ Below w12.heap.size w12 w') from (SM0.out W kk).mono (fun e w' h => ⟨by rw [h.1]; simp, by obtain ⟨k, rfl⟩ := h.2; exact ((Keeps.of_below kk).drewN k).below (Nat.le_refl _)⟩))
  clear SM0
  have y4 : (la.length : Int) ≤ 100 := by have := L8.out.2.2.1; omega
  have y5 : (lb.length : Int) ≤ 100 := by have := L9.out.2.2.1; omega
  have FIN : Hid (T.hits = lb.length ∧ T.hits + T.misses + T.byps = cntR r.nb (joinZ z y n') (n' + m') ∧ wsum F N = T.fills ∧ T.filled = 3 * T.fills ∧ T.filled ≤ r.most ∧ N = r.c.n) := by
    refine Lib.hid ?_
    obtain ⟨wn, e1, e2⟩ := goR_facts T10.out.2
    rw [← T10.out.1, ← L9.out.1] at e1
    rw [← T10.out.1] at e2
    have es := wn.sum
    have ed := wn.fd
    have eu := wn.us
    have em := wn.mo
    rw [← T10.out.1] at es ed eu
    rw [← F12.out.2.1, ← F12.out.1] at es
    exact ⟨e1, e2, es, ed, by omega, F12.out.1⟩
  have HX := Lib.hid (And.intro hx (And.intro hge ql))
  clear hx hge ql
  obtain ⟨x0, x1, x2, x3, x4, x5, x6, x7, x8, x9⟩ := BXC.out _ B12.out
  have z0 : x = [] ∨ ∃ v xs, x = v :: xs := by
    cases x with
    | nil => exact .inl rfl
    | cons v xs => exact .inr ⟨v, xs, rfl⟩
  rcases z0 with z0 | ⟨v, xs, z0⟩
  · have y6 : decide ((la.length : Int) < (lb.length : Int)) = false := decide_eq_false (by have := HX.out.2.2; rw [z0] at this; simp at this; omega)
    have y6' : decide (la.length < lb.length) = false := decide_eq_false (by have := HX.out.2.2; rw [z0] at this; simp at this; omega)
    clear z0
    go_wp2_with fail
    refine (SM.out _ (Below.refl _ _)).mono ?_
    rintro e w13 ⟨rfl, b13⟩
    have b13 := Lib.hid b13
    go_wp2_with fail
    have B13 := Lib.hid (B12.out.trans (b13.out.mono B12.out.size))
    have b1113 := Lib.hid (b12.out.trans (b13.out.mono b12.out.size))
    have b913 := Lib.hid (b911.out.trans (b1113.out.mono b911.out.size))
    have b613 := Lib.hid (b69.out.trans (b913.out.mono b69.out.size))
    go_loopw [17, 19] (fun c i wr => ∃ k : Nat, k ≤ n' + m' ∧ i = .int .i64 (k : Int) ∧ c = .int .i64 (cntR r.nb (joinZ z y n') k : Int) ∧ Below w13.heap.size w13 wr) (fun _ i _ => n' + m' - (intOf i).toNat)
    case atStart => exact ⟨0, Nat.zero_le _, rfl, rfl, Below.refl _ _⟩
    case round =>
      obtain ⟨k, hk, rfl, rfl, bw⟩ := hrel
      have BW := Lib.hid bw
      by_cases hc : k < n' + m'
      · obtain ⟨gA, oA, hAA, _, hcell⟩ := R6.out _ (b613.out.trans (bw.mono b613.out.size)) (by omega)
        subst hAA
        obtain ⟨cv, vb⟩ := hcell k hc
        have cn := cntR_le r.nb (joinZ z y n') k
        have cs := cntR_succ r.nb (joinZ z y n') k
        obtain ⟨x0, _, _, _, _, _, _, _, _, _⟩ := BXC.out _ (B13.out.trans (bw.mono B13.out.size))
        generalize joinZ z y n' k = v at *
        generalize hct : cntR r.nb (joinZ z y n') k = ct at *
        have h1 : (k : Int) < ((n' + m' : Nat) : Int) := by omega
        have h2 : (k : Int) + 1 ≤ 1000 := by omega
        have h3 : (ct : Int) + 1 ≤ 1000 := by omega
        have RB := Lib.hid (RR.out.2.1)
        have CS := Lib.hid cs
        have HCT := Lib.hid hct
        clear hcell bw vb cn cs hct
        rcases Int.lt_or_le v 0 with hv | hv
        · have d1 : decide (0 ≤ v) = false := decide_eq_false (by omega)
          have CS := Lib.hid (show cntR r.nb (joinZ z y n') (k + 1) = ct by rw [CS.out, if_neg (by omega)]; omega)
          clear hv
          go_wp2_with fail
          go_quiet (fail)
          go_wp2
          go_roundw
          case rel => exact ⟨k + 1, by omega, by simp, by rw [CS.out], ((Keeps.of_below BW.out).drewN _).below (Nat.le_refl _)⟩
          case measure => simp only [intOf]; omega
        · rcases Int.lt_or_le v k0 with hv2 | hv2
          · have d1 : decide (0 ≤ v) = true := decide_eq_true (by omega)
            have d2 : decide (v < k0) = true := decide_eq_true (by omega)
            have CS := Lib.hid (show cntR r.nb (joinZ z y n') (k + 1) = ct + 1 by rw [CS.out, if_pos ⟨hv, by rw [RB.out]; exact hv2⟩])
            clear hv hv2
            go_wp2_with fail
            go_quiet (fail)
            go_wp2
            go_roundw
            case rel => exact ⟨k + 1, by omega, by simp, by rw [CS.out]; simp, ((Keeps.of_below BW.out).drewN _).below (Nat.le_refl _)⟩
            case measure => simp only [intOf]; omega
          · have d1 : decide (0 ≤ v) = true := decide_eq_true (by omega)
            have d2 : decide (v < k0) = false := decide_eq_false (by omega)
            have CS := Lib.hid (show cntR r.nb (joinZ z y n') (k + 1) = ct by rw [CS.out, if_neg (by rw [RB.out]; omega)]; omega)
            clear hv hv2
            go_wp2_with fail
            go_quiet (fail)
            go_wp2
            go_roundw
            case rel => exact ⟨k + 1, by omega, by simp, by rw [CS.out], ((Keeps.of_below BW.out).drewN _).below (Nat.le_refl _)⟩
            case measure => simp only [intOf]; omega
      · have h1 : ¬ (k : Int) < ((n' + m' : Nat) : Int) := by omega
        have h1' : decide ((k : Int) < ((n' + m' : Nat) : Int)) = false := decide_eq_false h1
        have hkk : k = n' + m' := by omega
        subst hkk
        obtain ⟨wr', rfl⟩ : ∃ w' : World, w' = wr := ⟨_, rfl⟩
        have B14 := Lib.hid (B13.out.trans (BW.out.mono B13.out.size))
        have b14 := Lib.hid (b13.out.trans (BW.out.mono b13.out.size))
        have b1314 := Lib.hid BW.out
        have b1114 := Lib.hid (b1113.out.trans (BW.out.mono b1113.out.size))
        have FB : T.fills ≤ 349525 ∧ N ≤ 192 := by
          have f1 := FIN.out.2.2.2
          have f2 := RR.out
          have f3 := MB.out
          omega
        have FB := Lib.hid FB
        clear BW bw hc
        go_wp2_with fail
        go_loopw [18, 20] (fun c i wr => ∃ k : Nat, k ≤ N ∧ i = .int .i64 (k : Int) ∧ c = .int .i64 (wsum F k : Int) ∧ Below wr'.heap.size wr' wr) (fun _ i _ => N - (intOf i).toNat)
        case atStart => exact ⟨0, Nat.zero_le _, rfl, rfl, Below.refl _ _⟩
        case round =>
          obtain ⟨k, hk, rfl, rfl, bw⟩ := hrel
          have BW := Lib.hid bw
          by_cases hc : k < N
          · have cv : wr.cell? ⟨g, k, none⟩ = some (.int .i64 (F k : Int)) := by
              have h := F12.out.2.2.cell hc
              exact ((b14.out.trans (bw.mono b14.out.size)).cell (World.block_lt_of_cell? _ _ h)).trans h
            have h1 : (k : Int) < (N : Int) := by omega
            have h2 : (k : Int) + 1 ≤ 1000 := by have := FB.out.2; omega
            have h3 : (wsum F k : Int) + (F k : Int) ≤ 349525 := by
              have f1 : wsum F (k + 1) ≤ wsum F N := wsum_mono F hc
              have f2 := FIN.out.2.2.1
              have f3 := FB.out.1
              have f4 : wsum F (k + 1) = wsum F k + F k := rfl
              omega
            have f4 : wsum F (k + 1) = wsum F k + F k := rfl
            generalize hs1 : wsum F k = sk at *
            generalize hs2 : F k = fk at *
            have F4 := Lib.hid f4
            clear f4 bw hs1 hs2
            go_wp2
            go_roundw
            case rel => exact ⟨k + 1, by omega, by simp, by rw [F4.out]; simp, BW.out⟩
            case measure => simp only [intOf]; omega
          · have h1 : ¬ (k : Int) < (N : Int) := by omega
            have hkk : k = N := by omega
            subst hkk
            have B15 := Lib.hid (B14.out.trans (bw.mono B14.out.size))
            have b1315 := Lib.hid (b1314.out.trans (bw.mono b1314.out.size))
            have b1115 := Lib.hid (b1114.out.trans (bw.mono b1114.out.size))
            obtain ⟨c0, c1', c2', c3, _, _, _, _, _, _, _, _, c12, _⟩ := FC.out
            have e0 := (b1115.out.cell (World.block_lt_of_cell? _ _ c0)).trans c0
            have e1 := (b1115.out.cell (World.block_lt_of_cell? _ _ c1')).trans c1'
            have e2 := (b1115.out.cell (World.block_lt_of_cell? _ _ c2')).trans c2'
            have e3 := (b1115.out.cell (World.block_lt_of_cell? _ _ c3)).trans c3
            have e12 := (b1115.out.cell (World.block_lt_of_cell? _ _ c12)).trans c12
            obtain ⟨_, x1, _, _, x4, _, _, _, _, _⟩ := BXC.out _ B15.out
            have q := FIN.out
            have cle := cntR_le r.nb (joinZ z y n') (n' + m')
            have q1 : ((T.hits : Int) + (T.misses : Int) + (T.byps : Int) == (cntR r.nb (joinZ z y n') (n' + m') : Int)) = true := beq_iff_eq.2 (by omega)
            have q2 : ((T.hits : Int) == (lb.length : Int)) = true := beq_iff_eq.2 (by omega)
            have q3 : ((wsum F k : Int) == (T.fills : Int)) = true := beq_iff_eq.2 (by omega)
            have q4 : ((T.filled : Int) == 3 * (T.fills : Int)) = true := beq_iff_eq.2 (by omega)
            have q5 : decide ((T.filled : Int) ≤ k4) = true := decide_eq_true (by have := RR.out; omega)
            have q6 : ((k : Int) == k1) = true := beq_iff_eq.2 (by have := RR.out; omega)
            have r1 : (T.hits : Int) + (T.misses : Int) ≤ 1000 := by omega
            have r2 : (T.hits : Int) + (T.misses : Int) + (T.byps : Int) ≤ 1000 := by omega
            have r3 : (T.fills : Int) ≤ 349525 := by have := FB.out.1; omega
            have AW := Lib.hid (fun W => awake36 W)
            have BWW := Lib.hid (B37.out.trans ((show Below w6.heap.size w6 wr from b613.out.trans (b1315.out.mono b613.out.size)).mono B37.out.size))
            clear q cle c0 c1' c2' c3 c12 bw hc hk
            go_wp2_with fail
            refine (AW.out _).mono ?_
            rintro e w16 ⟨rfl, b16⟩
            have B16 := Lib.hid (BWW.out.trans (b16.mono BWW.out.size))
            clear b16
            go_wp2
            go_ret
            exact ⟨rfl, B16.out⟩
  · have y6 : decide ((la.length : Int) < (lb.length : Int)) = true := decide_eq_true (by have := HX.out.2.2; rw [z0] at this; simp at this; omega)
    have y6' : decide (la.length < lb.length) = true := decide_eq_true (by have := HX.out.2.2; rw [z0] at this; simp at this; omega)
    have vv : n' ≤ v := HX.out.2.1 v (by rw [z0]; exact List.mem_cons_self ..)
    obtain ⟨gB, cB⟩ : ∃ gB, A2 = some ⟨gB, 0, none⟩ ∧ ∀ W, Below w12.heap.size w12 W → W.cell? ⟨gB, la.length, none⟩ = some (.int .i64 (v : Int)) := by
      obtain ⟨A, c, e, hh⟩ := R9.out
      cases e
      have hq : la.length < lb.length := by have := HX.out.2.2; rw [z0] at this; simp at this; omega
      rcases hh with hh | ⟨g, e, hc⟩
      · rw [hh] at hq; exact absurd hq (Nat.not_lt_zero _)
      · refine ⟨g, e, fun W kk => ?_⟩
        have h1 := hc _ hq
        have h2 : lb.getD la.length 0 = v := by rw [HX.out.1, z0]; simp [List.getD_eq_getElem?_getD]
        rw [h2] at h1
        exact (kk.cell (World.block_lt_of_cell? _ _ h1)).trans h1
    obtain ⟨cA2, cB⟩ := cB
    have CB := Lib.hid cB
    clear cB
    have y7 : decide ((v : Int) < (n' : Int)) = false := decide_eq_false (by omega)
    have y8 : (la.length : Int) < (lb.length : Int) := by have := HX.out.2.2; rw [z0] at this; simp at this; omega
    have y7' : decide (v < n') = false := decide_eq_false (by omega)
    clear z0 vv
    subst cA2
    go_wp2_with fail
    refine (SM.out _ (Below.refl _ _)).mono ?_
    rintro e w13 ⟨rfl, b13⟩
    have CB13 := CB.out _ b13
    have b13 := Lib.hid b13
    go_wp2_with fail
    have B13 := Lib.hid (B12.out.trans (b13.out.mono B12.out.size))
    have b1113 := Lib.hid (b12.out.trans (b13.out.mono b12.out.size))
    have b913 := Lib.hid (b911.out.trans (b1113.out.mono b911.out.size))
    have b613 := Lib.hid (b69.out.trans (b913.out.mono b69.out.size))
    go_loopw [17, 19] (fun c i wr => ∃ k : Nat, k ≤ n' + m' ∧ i = .int .i64 (k : Int) ∧ c = .int .i64 (cntR r.nb (joinZ z y n') k : Int) ∧ Below w13.heap.size w13 wr) (fun _ i _ => n' + m' - (intOf i).toNat)
    case atStart => exact ⟨0, Nat.zero_le _, rfl, rfl, Below.refl _ _⟩
    case round =>
      obtain ⟨k, hk, rfl, rfl, bw⟩ := hrel
      have BW := Lib.hid bw
      by_cases hc : k < n' + m'
      · obtain ⟨gA, oA, hAA, _, hcell⟩ := R6.out _ (b613.out.trans (bw.mono b613.out.size)) (by omega)
        subst hAA
        obtain ⟨cv, vb⟩ := hcell k hc
        have cn := cntR_le r.nb (joinZ z y n') k
        have cs := cntR_succ r.nb (joinZ z y n') k
        obtain ⟨x0, _, _, _, _, _, _, _, _, _⟩ := BXC.out _ (B13.out.trans (bw.mono B13.out.size))
        generalize joinZ z y n' k = v at *
        generalize hct : cntR r.nb (joinZ z y n') k = ct at *
        have h1 : (k : Int) < ((n' + m' : Nat) : Int) := by omega
        have h2 : (k : Int) + 1 ≤ 1000 := by omega
        have h3 : (ct : Int) + 1 ≤ 1000 := by omega
        have RB := Lib.hid (RR.out.2.1)
        have CS := Lib.hid cs
        have HCT := Lib.hid hct
        clear hcell bw vb cn cs hct
        rcases Int.lt_or_le v 0 with hv | hv
        · have d1 : decide (0 ≤ v) = false := decide_eq_false (by omega)
          have CS := Lib.hid (show cntR r.nb (joinZ z y n') (k + 1) = ct by rw [CS.out, if_neg (by omega)]; omega)
          clear hv
          go_wp2_with fail
          go_quiet (fail)
          go_wp2
          go_roundw
          case rel => exact ⟨k + 1, by omega, by simp, by rw [CS.out], ((Keeps.of_below BW.out).drewN _).below (Nat.le_refl _)⟩
          case measure => simp only [intOf]; omega
        · rcases Int.lt_or_le v k0 with hv2 | hv2
          · have d1 : decide (0 ≤ v) = true := decide_eq_true (by omega)
            have d2 : decide (v < k0) = true := decide_eq_true (by omega)
            have CS := Lib.hid (show cntR r.nb (joinZ z y n') (k + 1) = ct + 1 by rw [CS.out, if_pos ⟨hv, by rw [RB.out]; exact hv2⟩])
            clear hv hv2
            go_wp2_with fail
            go_quiet (fail)
            go_wp2
            go_roundw
            case rel => exact ⟨k + 1, by omega, by simp, by rw [CS.out]; simp, ((Keeps.of_below BW.out).drewN _).below (Nat.le_refl _)⟩
            case measure => simp only [intOf]; omega
          · have d1 : decide (0 ≤ v) = true := decide_eq_true (by omega)
            have d2 : decide (v < k0) = false := decide_eq_false (by omega)
            have CS := Lib.hid (show cntR r.nb (joinZ z y n') (k + 1) = ct by rw [CS.out, if_neg (by rw [RB.out]; omega)]; omega)
            clear hv hv2
            go_wp2_with fail
            go_quiet (fail)
            go_wp2
            go_roundw
            case rel => exact ⟨k + 1, by omega, by simp, by rw [CS.out], ((Keeps.of_below BW.out).drewN _).below (Nat.le_refl _)⟩
            case measure => simp only [intOf]; omega
      · have h1 : ¬ (k : Int) < ((n' + m' : Nat) : Int) := by omega
        have h1' : decide ((k : Int) < ((n' + m' : Nat) : Int)) = false := decide_eq_false h1
        have hkk : k = n' + m' := by omega
        subst hkk
        obtain ⟨wr', rfl⟩ : ∃ w' : World, w' = wr := ⟨_, rfl⟩
        have B14 := Lib.hid (B13.out.trans (BW.out.mono B13.out.size))
        have b14 := Lib.hid (b13.out.trans (BW.out.mono b13.out.size))
        have b1314 := Lib.hid BW.out
        have b1114 := Lib.hid (b1113.out.trans (BW.out.mono b1113.out.size))
        have FB : T.fills ≤ 349525 ∧ N ≤ 192 := by
          have f1 := FIN.out.2.2.2
          have f2 := RR.out
          have f3 := MB.out
          omega
        have FB := Lib.hid FB
        clear BW bw hc
        go_wp2_with fail
        go_loopw [18, 20] (fun c i wr => ∃ k : Nat, k ≤ N ∧ i = .int .i64 (k : Int) ∧ c = .int .i64 (wsum F k : Int) ∧ Below wr'.heap.size wr' wr) (fun _ i _ => N - (intOf i).toNat)
        case atStart => exact ⟨0, Nat.zero_le _, rfl, rfl, Below.refl _ _⟩
        case round =>
          obtain ⟨k, hk, rfl, rfl, bw⟩ := hrel
          have BW := Lib.hid bw
          by_cases hc : k < N
          · have cv : wr.cell? ⟨g, k, none⟩ = some (.int .i64 (F k : Int)) := by
              have h := F12.out.2.2.cell hc
              exact ((b14.out.trans (bw.mono b14.out.size)).cell (World.block_lt_of_cell? _ _ h)).trans h
            have h1 : (k : Int) < (N : Int) := by omega
            have h2 : (k : Int) + 1 ≤ 1000 := by have := FB.out.2; omega
            have h3 : (wsum F k : Int) + (F k : Int) ≤ 349525 := by
              have f1 : wsum F (k + 1) ≤ wsum F N := wsum_mono F hc
              have f2 := FIN.out.2.2.1
              have f3 := FB.out.1
              have f4 : wsum F (k + 1) = wsum F k + F k := rfl
              omega
            have f4 : wsum F (k + 1) = wsum F k + F k := rfl
            generalize hs1 : wsum F k = sk at *
            generalize hs2 : F k = fk at *
            have F4 := Lib.hid f4
            clear f4 bw hs1 hs2
            go_wp2
            go_roundw
            case rel => exact ⟨k + 1, by omega, by simp, by rw [F4.out]; simp, BW.out⟩
            case measure => simp only [intOf]; omega
          · have h1 : ¬ (k : Int) < (N : Int) := by omega
            have hkk : k = N := by omega
            subst hkk
            have B15 := Lib.hid (B14.out.trans (bw.mono B14.out.size))
            have b1315 := Lib.hid (b1314.out.trans (bw.mono b1314.out.size))
            have b1115 := Lib.hid (b1114.out.trans (bw.mono b1114.out.size))
            obtain ⟨c0, c1', c2', c3, _, _, _, _, _, _, _, _, c12, _⟩ := FC.out
            have e0 := (b1115.out.cell (World.block_lt_of_cell? _ _ c0)).trans c0
            have e1 := (b1115.out.cell (World.block_lt_of_cell? _ _ c1')).trans c1'
            have e2 := (b1115.out.cell (World.block_lt_of_cell? _ _ c2')).trans c2'
            have e3 := (b1115.out.cell (World.block_lt_of_cell? _ _ c3)).trans c3
            have e12 := (b1115.out.cell (World.block_lt_of_cell? _ _ c12)).trans c12
            obtain ⟨_, x1, _, _, x4, _, _, _, _, _⟩ := BXC.out _ B15.out
            have q := FIN.out
            have cle := cntR_le r.nb (joinZ z y n') (n' + m')
            have q1 : ((T.hits : Int) + (T.misses : Int) + (T.byps : Int) == (cntR r.nb (joinZ z y n') (n' + m') : Int)) = true := beq_iff_eq.2 (by omega)
            have q2 : ((T.hits : Int) == (lb.length : Int)) = true := beq_iff_eq.2 (by omega)
            have q3 : ((wsum F k : Int) == (T.fills : Int)) = true := beq_iff_eq.2 (by omega)
            have q4 : ((T.filled : Int) == 3 * (T.fills : Int)) = true := beq_iff_eq.2 (by omega)
            have q5 : decide ((T.filled : Int) ≤ k4) = true := decide_eq_true (by have := RR.out; omega)
            have q6 : ((k : Int) == k1) = true := beq_iff_eq.2 (by have := RR.out; omega)
            have r1 : (T.hits : Int) + (T.misses : Int) ≤ 1000 := by omega
            have r2 : (T.hits : Int) + (T.misses : Int) + (T.byps : Int) ≤ 1000 := by omega
            have r3 : (T.fills : Int) ≤ 349525 := by have := FB.out.1; omega
            have AW := Lib.hid (fun W => awake36 W)
            have BWW := Lib.hid (B37.out.trans ((show Below w6.heap.size w6 wr from b613.out.trans (b1315.out.mono b613.out.size)).mono B37.out.size))
            clear q cle c0 c1' c2' c3 c12 bw hc hk
            go_wp2_with fail
            refine (AW.out _).mono ?_
            rintro e w16 ⟨rfl, b16⟩
            have B16 := Lib.hid (BWW.out.trans (b16.mono BWW.out.size))
            clear b16
            go_wp2
            go_ret
            exact ⟨rfl, B16.out⟩
end Go.Proofs.YtbgknopjgohocaaGreat
