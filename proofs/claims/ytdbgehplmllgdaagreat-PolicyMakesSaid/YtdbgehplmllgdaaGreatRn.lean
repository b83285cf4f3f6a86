/- The document's policy: New. -/
import Derived.Test.YtdbgehplmllgdaaGreatPn
import Derived.Test.YtdbgehplmllgdaaGreatRv2
namespace Go.Proofs.YtdbgehplmllgdaaGreat
open Go.RowKit Fl
open Scan hiding isN
set_option linter.unusedVariables false
set_option maxRecDepth 100000
set_option maxHeartbeats 4000000

def cfF (c : CF) (i : Nat) : Value := (c.cs[i]?).getD (.bool false)
/-- Its parts, wherever they lie. -/
def RP3 (c : CF) (n : Nat) (w0 W : World) (lbk tf so : Nat) : Prop :=
  ∃ a1 b1 a2 b2 a3 b3 : Nat, Cel lbk 3 n (lbF fun _ => 0) (Iv a1 b1) W ∧ RtO tf c.seed (max (8 * n) 16) (10 * n) newT (Iv a2 b2) W ∧ RfO so n (shareI n (keepF c.keep)).toNat [] [] (Iv a3 b3) W ∧
    (w0.heap.size ≤ a1 ∧ b1 ≤ W.heap.size) ∧ (w0.heap.size ≤ a2 ∧ b2 ≤ W.heap.size) ∧ (w0.heap.size ≤ a3 ∧ b3 ≤ W.heap.size) ∧ (b1 ≤ a2 ∨ b2 ≤ a1) ∧ (b1 ≤ a3 ∨ b3 ≤ a1) ∧ (b2 ≤ a3 ∨ b3 ≤ a2) ∧ Below w0.heap.size w0 W
abbrev mkO (n : Nat) : Obj := .cells (madeCells #[.int .i64 0] n) 3
theorem mkL (w : World) (n : Nat) : Cel w.heap.size 3 n (lbF fun _ => 0) (Iv w.heap.size (w.alloc (mkO n)).heap.size) (w.alloc (mkO n)) :=
  ⟨⟨Nat.le_refl _, by simp⟩, Arr.made w 3 n (.int .i64 0) _ (by simp [madeCells]) (fun i hi => madeCells_get' _ _ _ hi)⟩
theorem rp3_0 {c : CF} {n : Nat} {w0 w1 w2 w3 : World} {tf so : Nat} (k0 : Below w0.heap.size w0 w1) (g2 : RtO tf c.seed (max (8 * n) 16) (10 * n) newT (New (w1.drew.alloc (mkO n)) w2) w2) (b2 : Below (w1.drew.alloc (mkO n)).heap.size (w1.drew.alloc (mkO n)) w2)
    (g3 : RfO so n (shareI n (keepF c.keep)).toNat [] [] (New w2 w3) w3) (b3 : Below w2.heap.size w2 w3) : RP3 c n w0 w3 w1.heap.size tf so := by
  have e0 := k0.size
  have e1 : (w1.drew.alloc (mkO n)).heap.size = w1.heap.size + 1 := by simp
  have e2 := b2.size
  have e3 := b3.size
  have BA := (Below.refl w1.heap.size w1).drew.alloc (Nat.le_refl _) (mkO n)
  refine ⟨_, _, _, _, _, _, Iv.keep (Iv.keep (mkL w1.drew n) (Nat.le_refl _) b2) e2 b3, Iv.keep (a := (w1.drew.alloc (mkO n)).heap.size) (b := w2.heap.size) g2 (Nat.le_refl _) b3, (g3 : RfO so n _ [] [] (Iv w2.heap.size w3.heap.size) w3), ⟨e0, by omega⟩, ⟨by omega, e3⟩, ⟨by omega, Nat.le_refl _⟩, .inl (Nat.le_refl _), .inl e2, .inl (Nat.le_refl _), k0.trans ((BA.trans ((b2.mono BA.size).trans (b3.mono (by omega)))).mono e0)⟩
theorem rp3_1 {c : CF} {n : Nat} {w0 w1 w2 w3 : World} {tf so : Nat} (k0 : Below w0.heap.size w0 w1) (g2 : RtO tf c.seed (max (8 * n) 16) (10 * n) newT (New w1.drew w2) w2) (b2 : Below w1.drew.heap.size w1.drew w2)
    (g3 : RfO so n (shareI n (keepF c.keep)).toNat [] [] (New (w2.alloc (mkO n)) w3) w3) (b3 : Below (w2.alloc (mkO n)).heap.size (w2.alloc (mkO n)) w3) : RP3 c n w0 w3 w2.heap.size tf so := by
  have e0 := k0.size
  have e1 : (w2.alloc (mkO n)).heap.size = w2.heap.size + 1 := by simp
  have e2 : w1.heap.size ≤ w2.heap.size := b2.size
  have e3 := b3.size
  have BA := (Below.refl w2.heap.size w2).alloc (Nat.le_refl _) (mkO n)
  have B0 : Below w1.heap.size w1 w2 := (Below.refl w1.heap.size w1).drew.trans b2
  refine ⟨_, _, _, _, _, _, Iv.keep (mkL w2 n) (Nat.le_refl _) b3, Iv.keep (Iv.keep (a := w1.drew.heap.size) (b := w2.heap.size) g2 (Nat.le_refl _) BA) BA.size b3, (g3 : RfO so n _ [] [] (Iv (w2.alloc (mkO n)).heap.size w3.heap.size) w3), ⟨by omega, e3⟩, ⟨e0, by omega⟩, ⟨by omega, Nat.le_refl _⟩, .inr (Nat.le_refl _), .inl (Nat.le_refl _), .inl BA.size, k0.trans ((B0.trans ((BA.trans (b3.mono BA.size)).mono e2)).mono e0)⟩
theorem rp3_2 {c : CF} {n : Nat} {w0 w1 w2 w3 : World} {tf so : Nat} (k0 : Below w0.heap.size w0 w1) (g2 : RtO tf c.seed (max (8 * n) 16) (10 * n) newT (New w1.drew w2) w2) (b2 : Below w1.drew.heap.size w1.drew w2)
    (g3 : RfO so n (shareI n (keepF c.keep)).toNat [] [] (New w2 w3) w3) (b3 : Below w2.heap.size w2 w3) : RP3 c n w0 (w3.alloc (mkO n)) w3.heap.size tf so := by
  have e0 := k0.size
  have e1 : (w3.alloc (mkO n)).heap.size = w3.heap.size + 1 := by simp
  have e2 : w1.heap.size ≤ w2.heap.size := b2.size
  have e3 := b3.size
  have BA := (Below.refl w3.heap.size w3).alloc (Nat.le_refl _) (mkO n)
  have B0 : Below w1.heap.size w1 w2 := (Below.refl w1.heap.size w1).drew.trans b2
  refine ⟨_, _, _, _, _, _, mkL w3 n, Iv.keep (Iv.keep (a := w1.drew.heap.size) (b := w2.heap.size) g2 (Nat.le_refl _) b3) e3 BA, Iv.keep (a := w2.heap.size) (b := w3.heap.size) g3 (Nat.le_refl _) BA, ⟨by omega, Nat.le_refl _⟩, ⟨e0, by omega⟩, ⟨by omega, by omega⟩, .inr e3, .inr (Nat.le_refl _), .inl (Nat.le_refl _), k0.trans ((B0.trans ((b3.trans (BA.mono e3)).mono e2)).mono e0)⟩
abbrev topO (c : CF) (n lbk tf so : Nat) : Obj := .cells #[.int .i64 c.blocks, .int .i64 c.slots, .int .i64 c.log, .int .i64 c.window, .int .i64 c.budget, .int .u64 c.seed, .float .f64 c.keep, .float .f64 c.margin, .float .f64 c.ghost, .int .i64 c.run,
      .pointer (some ⟨tf, 0, none⟩), .pointer (some ⟨so, 0, none⟩), .slice (some ⟨lbk, 0, none⟩) n n, .slice none 0 0, .int .i64 0, .slice none 0 0, .int .i64 0, .bool false] 64
theorem rp_made (c : CF) (B : CFB c) (hm : c.may = true) (n : Nat) (hn : c.slots = n) {w0 w6 : World} {so tf lbk : Nat}
    (R3 : RP3 c n w0 w6 lbk tf so) (wf : World) (cap : Int) (hcap : cap = shareI (4 * n) (divG c.ghost)) (m : Nat) (hwf : wf = ((w6.alloc (topO c n lbk tf so)).drewN m).setCell ⟨w6.heap.size, 14, none⟩ (.int .i64 cap)) :
    RpO w6.heap.size (pcOf c) pv0 (New w0 wf) wf ∧ Below w0.heap.size w0 wf := by
  obtain ⟨a3, b3, a1, b1, a2, b2, L0, G2, G4, ⟨y1, y2⟩, ⟨y3, y4⟩, ⟨y5, y6⟩, y7, y8, y9, kb⟩ := R3
  have k : Below w6.heap.size w6 wf := by
    rw [hwf]
    exact (below_drewN ((Below.refl w6.heap.size w6).alloc (Nat.le_refl _) _) m).setCell (Nat.le_refl _) _
  have zf : wf.heap.size = w6.heap.size + 1 := by rw [hwf]; simp [World.size_alloc, World.size_setCell]
  have L := Iv.keep L0 y2 k
  have T : Cel w6.heap.size 64 18 (rpF (cfF c) (pcOf c) ⟨lbk, so, tf⟩ (.slice none 0 0) (.slice none 0 0) 0 false) (Iv w6.heap.size (w6.heap.size + 1)) wf := by
    refine ⟨⟨Nat.le_refl _, by omega⟩, ?_⟩
    rw [hwf]
    have hn' : (pcOf c).n = n := by show c.slots.toNat = n; omega
    have hc' : ((pcOf c).cap : Int) = cap := by
      show ((shareI (4 * c.slots) (divG c.ghost)).toNat : Int) = cap
      have := shareI_bd (4 * c.slots) (divG c.ghost) (divG_lt w0 _)
      rw [hcap, ← hn]; omega
    refine Arr.congr (Arr.set (Arr.drewN (Arr.mk_ (L := 18) (F := rpF (cfF c) { (pcOf c) with cap := 0 } ⟨lbk, so, tf⟩ (.slice none 0 0) (.slice none 0 0) 0 false) (heap_at _ _ _ (by simp)) (by rfl) (fun i (hi : i < 18) => ?_)) m) 14 _) (fun i hi => ?_)
    · have : i = 0 ∨ i = 1 ∨ i = 2 ∨ i = 3 ∨ i = 4 ∨ i = 5 ∨ i = 6 ∨ i = 7 ∨ i = 8 ∨ i = 9 ∨ i = 10 ∨ i = 11 ∨ i = 12 ∨ i = 13 ∨ i = 14 ∨ i = 15 ∨ i = 16 ∨ i = 17 := by omega
      rcases this with rfl | rfl | rfl | rfl | rfl | rfl | rfl | rfl | rfl | rfl | rfl | rfl | rfl | rfl | rfl | rfl | rfl | rfl
      case inr.inr.inr.inr.inr.inr.inr.inr.inr.inr.inr.inr.inl => show some (Value.slice _ n n) = some (Value.slice _ (pcOf c).n (pcOf c).n); rw [hn']
      all_goals rfl
    · by_cases h14 : i = 14
      · subst h14; show (Value.int .i64 cap) = .int .i64 ((pcOf c).cap : Int); rw [hc']
      · rw [if_neg h14]
        unfold rpF
        split <;> first | rfl | (exact absurd rfl h14)
  have q5 := Two.iv (R := RtO tf c.seed (max (8 * n) 16) (10 * n) newT) (Q := Two (RowG (.slice none 0 0) []) (RowR (.slice none 0 0) [])) (B := fun _ => False) (Iv.keep G2 (by omega) k)
    ⟨fun _ => False, fun _ => False, fun _ x => x, fun _ x => x, fun _ x => x.elim, fun _ x => x.elim, fun _ x => x.elim, ⟨fun j e => by simp [Value.ownBlock] at e, World.ownsRow_nil _ _ _ _⟩, ⟨fun j e => by simp [Value.ownBlock] at e, World.ownsRow_nil _ _ _ _⟩⟩ (by omega) (fun j x => x.elim) (fun j x => x.elim)
  have q4 := Two.iv (Iv.keep G4 (by omega) k) q5 (by omega) (fun j x => by rcases x with x | x; (have := x.2; omega); exact x.elim) (fun j x => by rcases x with x | x; (have := x.1; have := x.2; omega); exact x.elim)
  have q2 := Two.iv L q4 (by omega) (fun j x => by rcases x with x | x | x; (have := x.2; omega); (have := x.2; omega); exact x.elim) (fun j x => by rcases x with x | x | x; (have := x.1; have := x.2; omega); (have := x.1; have := x.2; omega); exact x.elim)
  have q1 := Two.iv T q2 (by omega) (fun j x => by rcases x with x | x | x | x; (have := x.2; omega); (have := x.2; omega); (have := x.2; omega); exact x.elim) (fun j x => by rcases x with x | x | x | x; (have := x.1; have := x.2; omega); (have := x.1; have := x.2; omega); (have := x.1; have := x.2; omega); exact x.elim)
  have q0 := q1.mono (T := New w0 wf) (fun j x => by
    have := kb.size
    show w0.heap.size ≤ j ∧ j < wf.heap.size
    rcases x with x | x | x | x | x
    (have := x.1; have := x.2; omega)
    (have := x.1; have := x.2; omega)
    (have := x.1; have := x.2; omega)
    (have := x.1; have := x.2; omega)
    exact x.elim)
  refine ⟨⟨⟨cfF c, ⟨lbk, so, tf⟩, .slice none 0 0, .slice none 0 0, ?_⟩, pcOk w0 B hm, pb0⟩, kb.trans (k.mono kb.size)⟩
  have hn' : (pcOf c).n = n := by show c.slots.toNat = n; omega
  have h2 : (pcOf c).width = max (8 * n) 16 := by show max (8 * c.slots.toNat) 16 = _; rw [show c.slots.toNat = n by omega]
  have h3 : (pcOf c).sample = 10 * n := by show 10 * c.slots.toNat = _; rw [show c.slots.toNat = n by omega]
  have h4 : (pcOf c).most = (shareI n (keepF c.keep)).toNat := by show (shareI c.slots _).toNat = _; rw [hn]
  show RpX _ _ _ _ _ _ 0 false (fun _ => 0) [] [] newT [] [] _ _
  unfold RpX RpY
  rw [hn', h2, h3, h4]
  exact q0

theorem rp_new (c : CF) (B : CFB c) (hm : c.may = true) (w : World) :
    Calls Tryz.prog 24 #[.agg c.cs] w fun e w' => ∃ b, e = .returned (.pointer (some ⟨b, 0, none⟩)) ∧ RpO b (pcOf c) pv0 (New w w') w' ∧ Below w.heap.size w w' := by
  have HB := Lib.hid B
  have HMM := Lib.hid hm
  have bd := may_bd hm
  have NS := Lib.hid (ne_self c.keep B.k)
  have BN := Lib.hid (bx_new w c)
  obtain ⟨n, hn⟩ : ∃ n : Nat, c.slots = n := ⟨c.slots.toNat, by omega⟩
  obtain ⟨blocks, slots, log, window, budget, seed, keep, margin, ghost, run⟩ := c
  simp only at hn bd
  subst hn
  have n1 : (1 : Int) ≤ n := by omega
  have n2 : (n : Int) ≤ 192 := by omega
  clear bd B hm
  have TN := Lib.hid (fun W (x : Int) (hx : x = (max (8 * n) 16 : Nat)) => show Calls Tryz.prog 68 #[.int .i64 x, .int .i64 (10 * (n : Int)), .int .u64 seed] W (fun e w' => ∃ b, e = .returned (.pointer (some ⟨b, 0, none⟩)) ∧ RtO b seed (max (8 * n) 16) (10 * n) newT (New W w') w' ∧ Below W.heap.size W w') from by
    have := rt_new W (max (8 * n) 16) (10 * n) seed (by omega) (by omega) (by omega) (by omega) HB.out.s0 HB.out.s1
    rw [hx, show (10 * (n : Int)) = ((10 * n : Nat) : Int) by omega]
    exact this)
  obtain ⟨most, hmost⟩ : ∃ m, (shareI n (keepF keep)).toNat = m := ⟨_, rfl⟩
  have SN := Lib.hid (fun W => rf_new W (n := n) (most := most) (keepF keep) (keepF_lt HB.out.k) (by omega) (by have := shareI_bd n (keepF keep) (keepF_lt HB.out.k); omega))
  have HMO := Lib.hid hmost
  clear hmost
  have MK := mk_ints n (by omega)
  change Calls Tryz.prog 24 #[.agg #[.int .i64 blocks, .int .i64 n, .int .i64 log, .int .i64 window, .int .i64 budget, .int .u64 seed, .float .f64 keep, .float .f64 margin, .float .f64 ghost, .int .i64 run]] w _
  have KF : (isN keep = true ∧ keepF keep = 4605380978949069210) ∨ (isN keep = false ∧ keepF keep = keep) := by
    unfold keepF
    cases isN keep <;> simp
  obtain ⟨x, hx⟩ : ∃ x, (if 8 * (n : Int) < 16 then 16 else 8 * (n : Int)) = x := ⟨_, rfl⟩
  have TQ := Lib.hid (fun W => TN.out W x (by rw [← hx]; split <;> omega))
  have q8 : IntKind.i64.wrap (8 * (n : Int)) = 8 * (n : Int) := IntWalk.i64_in _ (by omega)
  have q10 : IntKind.i64.wrap (10 * (n : Int)) = 10 * (n : Int) := IntWalk.i64_in _ (by omega)
  rcases KF with ⟨kn, kf⟩ | ⟨kn, kf⟩
  all_goals (
    rw [kf] at SN
    have NSE := NS.out
    rw [kn] at NSE
    have KFH := Lib.hid kf
    clear kn kf
    go_enter Tryz.func24, Tryz.ntmps24
    go_wp2_with fail
    have BN1 := Lib.hid (show BX (w.alloc (.cells #[.int .i64 blocks, .int .i64 n, .int .i64 log, .int .i64 window, .int .i64 budget, .int .u64 seed, .float .f64 keep, .float .f64 margin, .float .f64 ghost, .int .i64 run] 27)) w.heap.size ⟨blocks, n, log, window, budget, seed, keep, margin, ghost, run⟩ from BN.out)
    have bx1 : w.heap.size < (w.alloc (.cells #[.int .i64 blocks, .int .i64 n, .int .i64 log, .int .i64 window, .int .i64 budget, .int .u64 seed, .float .f64 keep, .float .f64 margin, .float .f64 ghost, .int .i64 run] 27)).heap.size := by simp
    have B1 := Lib.hid ((Below.refl w.heap.size w).alloc (Nat.le_refl _) (.cells #[.int .i64 blocks, .int .i64 n, .int .i64 log, .int .i64 window, .int .i64 budget, .int .u64 seed, .float .f64 keep, .float .f64 margin, .float .f64 ghost, .int .i64 run] 27))
    clear BN
    generalize hw1 : w.alloc (.cells #[.int .i64 blocks, .int .i64 n, .int .i64 log, .int .i64 window, .int .i64 budget, .int .u64 seed, .float .f64 keep, .float .f64 margin, .float .f64 ghost, .int .i64 run] 27) = w1 at *
    have BXL := Lib.hid (fun W (k : Below w1.heap.size w1 W) => show W.cell? ⟨w.heap.size, 0, none⟩ = some (.int .i64 blocks) ∧ W.cell? ⟨w.heap.size, 1, none⟩ = some (.int .i64 (n : Int)) ∧ W.cell? ⟨w.heap.size, 2, none⟩ = some (.int .i64 log) ∧ W.cell? ⟨w.heap.size, 3, none⟩ = some (.int .i64 window) ∧ W.cell? ⟨w.heap.size, 4, none⟩ = some (.int .i64 budget) ∧ W.cell? ⟨w.heap.size, 5, none⟩ = some (.int .u64 seed) ∧ W.cell? ⟨w.heap.size, 6, none⟩ = some (.float .f64 keep) ∧ W.cell? ⟨w.heap.size, 7, none⟩ = some (.float .f64 margin) ∧ W.cell? ⟨w.heap.size, 8, none⟩ = some (.float .f64 ghost) ∧ W.cell? ⟨w.heap.size, 9, none⟩ = some (.int .i64 run) from BN1.out.below k bx1)
    obtain ⟨c0, c1, c2, c3, c4, c5, c6, c7, c8, c9⟩ := BN1.out
    have B0 := (Below.refl w1.heap.size w1).drew
    clear hw1 NSE
    have BA := B0.alloc B0.size (mkO n)
    go_region_held_law (fun W => W.cell? ⟨w.heap.size, 0, none⟩ = some (.int .i64 blocks) ∧ W.cell? ⟨w.heap.size, 1, none⟩ = some (.int .i64 (n : Int)) ∧ W.cell? ⟨w.heap.size, 2, none⟩ = some (.int .i64 log) ∧ W.cell? ⟨w.heap.size, 3, none⟩ = some (.int .i64 window) ∧ W.cell? ⟨w.heap.size, 4, none⟩ = some (.int .i64 budget) ∧ W.cell? ⟨w.heap.size, 5, none⟩ = some (.int .u64 seed) ∧ W.cell? ⟨w.heap.size, 6, none⟩ = some (.float .f64 keep) ∧ W.cell? ⟨w.heap.size, 7, none⟩ = some (.float .f64 margin) ∧ W.cell? ⟨w.heap.size, 8, none⟩ = some (.float .f64 ghost) ∧ W.cell? ⟨w.heap.size, 9, none⟩ = some (.int .i64 run)) (first | exact BXL.out _ B0 | exact BXL.out _ BA | exact BXL.out _ b2' | exact BXL.out _ b3' | exact BXL.out _ (b2'.alloc b2'.size _) | exact BXL.out _ (b3'.alloc b3'.size _) | exact BXL.out _ ((b3'.alloc b3'.size _).alloc (b3'.alloc b3'.size _).size _)) (first
      | (go_at_call 68; (with_reducible refine (TQ.out _).mono ?_); rintro e w2 ⟨tf, rfl, g2, b2⟩; first | (have b2' := B0.trans b2; have p12 := b2') | (have b2' := BA.trans (b2.mono BA.size); have p0 := b2'))
      | (go_at_call 69; (with_reducible refine (SN.out _).mono ?_); rintro e w3 ⟨so, rfl, g3, b3⟩; first | (have b3' := b2'.trans (b3.mono b2'.size)) | (have b3' := (b2'.alloc b2'.size (mkO n)).trans (b3.mono (b2'.alloc b2'.size (mkO n)).size); have p1 := b3')))
    all_goals (
      first
      | (have R3 := Lib.hid (rp3_0 (c := ⟨blocks, n, log, window, budget, seed, keep, margin, ghost, run⟩) (n := n) (w0 := w) B1.out g2 b2 (HMO.out.symm ▸ g3) b3)
         have k6 : Below w1.heap.size w1 w3 := b3'
         have k7 := k6.alloc k6.size (.cells #[.int .i64 blocks, .int .i64 n, .int .i64 log, .int .i64 window, .int .i64 budget, .int .u64 seed, .float .f64 keep, .float .f64 margin, .float .f64 ghost, .int .i64 run, .pointer (some ⟨tf, 0, none⟩), .pointer (some ⟨so, 0, none⟩), .slice (some ⟨w1.heap.size, 0, none⟩) n n, .slice none 0 0, .int .i64 0, .slice none 0 0, .int .i64 0, .bool false] 64)
         have h7 := heap_at w3 (.cells #[.int .i64 blocks, .int .i64 n, .int .i64 log, .int .i64 window, .int .i64 budget, .int .u64 seed, .float .f64 keep, .float .f64 margin, .float .f64 ghost, .int .i64 run, .pointer (some ⟨tf, 0, none⟩), .pointer (some ⟨so, 0, none⟩), .slice (some ⟨w1.heap.size, 0, none⟩) n n, .slice none 0 0, .int .i64 0, .slice none 0 0, .int .i64 0, .bool false] 64) _ rfl
         generalize hW7 : World.alloc w3 (.cells #[.int .i64 blocks, .int .i64 n, .int .i64 log, .int .i64 window, .int .i64 budget, .int .u64 seed, .float .f64 keep, .float .f64 margin, .float .f64 ghost, .int .i64 run, .pointer (some ⟨tf, 0, none⟩), .pointer (some ⟨so, 0, none⟩), .slice (some ⟨w1.heap.size, 0, none⟩) n n, .slice none 0 0, .int .i64 0, .slice none 0 0, .int .i64 0, .bool false] 64) = W7 at *
         have FN := Lib.hid (fun cap hcap m => rp_made ⟨blocks, n, log, window, budget, seed, keep, margin, ghost, run⟩ HB.out HMM.out n rfl R3.out _ cap hcap m rfl)
         rw [hW7] at FN
         generalize hZ : w3.heap.size = Z at *)
      | (have R3 := Lib.hid (rp3_1 (c := ⟨blocks, n, log, window, budget, seed, keep, margin, ghost, run⟩) (n := n) (w0 := w) B1.out g2 b2 (HMO.out.symm ▸ g3) b3)
         have k6 : Below w1.heap.size w1 w3 := b3'
         have k7 := k6.alloc k6.size (.cells #[.int .i64 blocks, .int .i64 n, .int .i64 log, .int .i64 window, .int .i64 budget, .int .u64 seed, .float .f64 keep, .float .f64 margin, .float .f64 ghost, .int .i64 run, .pointer (some ⟨tf, 0, none⟩), .pointer (some ⟨so, 0, none⟩), .slice (some ⟨w2.heap.size, 0, none⟩) n n, .slice none 0 0, .int .i64 0, .slice none 0 0, .int .i64 0, .bool false] 64)
         have h7 := heap_at w3 (.cells #[.int .i64 blocks, .int .i64 n, .int .i64 log, .int .i64 window, .int .i64 budget, .int .u64 seed, .float .f64 keep, .float .f64 margin, .float .f64 ghost, .int .i64 run, .pointer (some ⟨tf, 0, none⟩), .pointer (some ⟨so, 0, none⟩), .slice (some ⟨w2.heap.size, 0, none⟩) n n, .slice none 0 0, .int .i64 0, .slice none 0 0, .int .i64 0, .bool false] 64) _ rfl
         generalize hW7 : World.alloc w3 (.cells #[.int .i64 blocks, .int .i64 n, .int .i64 log, .int .i64 window, .int .i64 budget, .int .u64 seed, .float .f64 keep, .float .f64 margin, .float .f64 ghost, .int .i64 run, .pointer (some ⟨tf, 0, none⟩), .pointer (some ⟨so, 0, none⟩), .slice (some ⟨w2.heap.size, 0, none⟩) n n, .slice none 0 0, .int .i64 0, .slice none 0 0, .int .i64 0, .bool false] 64) = W7 at *
         have FN := Lib.hid (fun cap hcap m => rp_made ⟨blocks, n, log, window, budget, seed, keep, margin, ghost, run⟩ HB.out HMM.out n rfl R3.out _ cap hcap m rfl)
         rw [hW7] at FN
         generalize hZ : w3.heap.size = Z at *)
      | (have R3 := Lib.hid (rp3_2 (c := ⟨blocks, n, log, window, budget, seed, keep, margin, ghost, run⟩) (n := n) (w0 := w) B1.out g2 b2 (HMO.out.symm ▸ g3) b3)
         have k6 : Below w1.heap.size w1 (w3.alloc (mkO n)) := b3'.alloc b3'.size _
         have k7 := k6.alloc k6.size (.cells #[.int .i64 blocks, .int .i64 n, .int .i64 log, .int .i64 window, .int .i64 budget, .int .u64 seed, .float .f64 keep, .float .f64 margin, .float .f64 ghost, .int .i64 run, .pointer (some ⟨tf, 0, none⟩), .pointer (some ⟨so, 0, none⟩), .slice (some ⟨w3.heap.size, 0, none⟩) n n, .slice none 0 0, .int .i64 0, .slice none 0 0, .int .i64 0, .bool false] 64)
         have h7 := heap_at (w3.alloc (mkO n)) (.cells #[.int .i64 blocks, .int .i64 n, .int .i64 log, .int .i64 window, .int .i64 budget, .int .u64 seed, .float .f64 keep, .float .f64 margin, .float .f64 ghost, .int .i64 run, .pointer (some ⟨tf, 0, none⟩), .pointer (some ⟨so, 0, none⟩), .slice (some ⟨w3.heap.size, 0, none⟩) n n, .slice none 0 0, .int .i64 0, .slice none 0 0, .int .i64 0, .bool false] 64) _ rfl
         generalize hW7 : World.alloc (w3.alloc (mkO n)) (.cells #[.int .i64 blocks, .int .i64 n, .int .i64 log, .int .i64 window, .int .i64 budget, .int .u64 seed, .float .f64 keep, .float .f64 margin, .float .f64 ghost, .int .i64 run, .pointer (some ⟨tf, 0, none⟩), .pointer (some ⟨so, 0, none⟩), .slice (some ⟨w3.heap.size, 0, none⟩) n n, .slice none 0 0, .int .i64 0, .slice none 0 0, .int .i64 0, .bool false] 64) = W7 at *
         have FN := Lib.hid (fun cap hcap m => rp_made ⟨blocks, n, log, window, budget, seed, keep, margin, ghost, run⟩ HB.out HMM.out n rfl R3.out _ cap hcap m rfl)
         rw [hW7] at FN
         rw [show (w3.alloc (mkO n)).heap.size = w3.heap.size + 1 from by simp] at h7 FN
         generalize hZ : w3.heap.size + 1 = Z at *)
      have H7 := Lib.hid h7
      have K7 := Lib.hid k7
      have FNH := Lib.hid FN
      clear FN h7 k7 k6 g2 b2 g3 b3 b2' b3' hW7 c0 c1 c2 c3 c4 c5 c6 c7 c8 c9
      obtain ⟨r, m, HR, hr, hcr⟩ := run_arith (P := Tryz.prog) .quo (by simp) ghost 4616189618054758400 W7
      have SD := Lib.hid (share_div (4 * n) ghost r hcr)
      have SH := Lib.hid (fun W => rShare_any (4 * n) r hr W)
      obtain ⟨c0, c1, c2, c3, c4, c5, c6, c7, c8, c9⟩ := BXL.out W7 K7.out
      have t14 := blk_cell' H7.out 14
      have tf14 := blk_free H7.out 14
      clear c0 c2 c3 c4 c5 c6 c7 c9 hr hcr
      go_wp2_with fail
      refine (SH.out _).mono ?_
      rintro e w' ⟨rfl, rfl⟩
      go_wp2
      go_ret
      exact ⟨Z, rfl, FNH.out _ SD.out m⟩))
end Go.Proofs.YtdbgehplmllgdaaGreat
