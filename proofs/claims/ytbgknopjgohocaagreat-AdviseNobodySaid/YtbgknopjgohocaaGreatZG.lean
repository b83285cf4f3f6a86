/- Several texts of this claim, one behind the other. -/
import Derived.Test.YtbgknopjgohocaaGreatTx2
import Derived.Deep.MidRow

/- Who is told of each read: nobody; the places of the hits. -/
namespace Go.Proofs.YtbgknopjgohocaaGreat
open Go.RowKit
set_option linter.unusedVariables false
set_option maxRecDepth 100000
set_option maxHeartbeats 2000000

def NoO (l : List Bool) (S : Nat → Prop) (w : World) : Prop := True
instance (l : List Bool) : Rep (NoO l) where
  keep := fun _ _ _ _ => trivial
  mono := fun _ _ => trivial
theorem tr_nobody (hit : Bool) (w : World) : Calls Tryz.prog 23 #[.bool hit] w fun e w' => e = .returned (.tuple #[]) ∧ w = w' := by
  go_enter Tryz.func23, Tryz.ntmps23
  go_wp2
  go_end0
  exact ⟨rfl, rfl⟩

/-- The places of the hits. -/
def hitsL (l : List Bool) : List Nat := (List.range l.length).filter (fun i => l.getD i false)
theorem hitsL_snoc (l : List Bool) (h : Bool) : hitsL (l ++ [h]) = hitsL l ++ (if h = true then [l.length] else []) := by
  unfold hitsL
  rw [List.length_append, List.length_singleton, List.range_succ, List.filter_append]
  congr 1
  · apply List.filter_congr
    intro i hi
    have : i < l.length := List.mem_range.1 hi
    simp [List.getD_eq_getElem?_getD, List.getElem?_append_left this]
  · cases h <;> simp [List.getD_eq_getElem?_getD]
theorem hitsL_len (l : List Bool) : (hitsL l).length ≤ l.length := by
  unfold hitsL
  exact Nat.le_trans (List.length_filter_le _ _) (by simp)
def HiO (pa pi : Nat) (l : List Bool) (S : Nat → Prop) (w : World) : Prop :=
  ∃ v, Arr w pa 25 1 (fun _ => v) ∧ Arr w pi 3 1 (fun _ => .int .i64 (l.length : Int)) ∧ w.ownsRow 0 3 1 v (hitsL l).length ((hitsL l).map intV) ∧ S pa ∧ S pi ∧ (∀ g, v.ownBlock = some g → S g) ∧ (∀ g, v.ownBlock = some g → g ≠ pi ∧ g ≠ pa)
instance (pa pi : Nat) (l : List Bool) : Rep (HiO pa pi l) where
  keep := fun ⟨v, ha, hi, hr, sa, si, sv, d⟩ _ k ht => ⟨v, ha.keep k (ht _ sa), hi.keep k (ht _ si), row_keepG hr k (fun g e => ht _ (sv g e)), sa, si, sv, d⟩
  mono := fun ⟨v, ha, hi, hr, sa, si, sv, d⟩ ht => ⟨v, ha, hi, hr, ht _ sa, ht _ si, fun g e => ht _ (sv g e), d⟩

theorem tr_told (pa pi : Nat) (l : List Bool) (hit : Bool) (S : Nat → Prop) (w : World) (hl : l.length < 1000) (h : HiO pa pi l S w) (ho : Own S w) :
    Calls Tryz.prog 22 #[.bool hit, .pointer (some ⟨pa, 0, none⟩), .pointer (some ⟨pi, 0, none⟩)] w fun e w' => e = .returned (.tuple #[]) ∧ HiO pa pi (l ++ [hit]) (Ext S w w') w' ∧ Keeps S w w' := by
  obtain ⟨i0, hif, hz0, hz1, hz2⟩ := info_parts infoInt
  obtain ⟨v, ha, hi, hr, sa, si, sv, d⟩ := h
  have npp : pa ≠ pi := ha.ne hi (by decide)
  have EL := Lib.hid (hitsL_snoc l hit)
  have LN := Lib.hid (show (l ++ [hit]).length = l.length + 1 by simp)
  have hi0 : w.cell? ⟨pi, 0, none⟩ = some (.int .i64 (l.length : Int)) := hi.cell (i := 0) (by omega)
  have fi := hi.free 0
  have fa := ha.free 0
  have li := hi.lt
  have la := ha.lt
  have l9 : (l.length : Int) ≤ 1000 := by omega
  cases hit
  · have F := Lib.hid (show HiO pa pi (l ++ [false]) (Ext S w (w.setCell ⟨pi, 0, none⟩ (.int .i64 ((l.length : Int) + 1)))) (w.setCell ⟨pi, 0, none⟩ (.int .i64 ((l.length : Int) + 1))) ∧ Keeps S w (w.setCell ⟨pi, 0, none⟩ (.int .i64 ((l.length : Int) + 1))) from by
      have kk := (Keeps.refl (fun j => j = pi) w).setCell (p := ⟨pi, 0, none⟩) (.inl rfl) (.int .i64 ((l.length : Int) + 1))
      refine ⟨⟨v, ha.far npp _ _, (hi.set 0 _).congr (fun i hi => by rw [if_pos (by omega), LN.out]; rfl), ?_, .inl sa, .inl si, fun g e => .inl (sv g e), d⟩, kk.mono (fun n _ e => e ▸ si)⟩
      rw [EL.out]
      simp only [Bool.false_eq_true, if_false, List.append_nil]
      exact row_keepG hr kk (fun g e => (d g e).1))
    clear ha hi hr sa si sv d hl ho
    go_enter Tryz.func22, Tryz.ntmps22
    go_wp2
    go_end0
    exact ⟨rfl, F.out⟩
  · obtain ⟨A, ca, rfl⟩ := ownRow_any hr
    have ha0 : w.cell? ⟨pa, 0, none⟩ = some (.slice A (hitsL l).length ca) := ha.cell (i := 0) (by omega)
    have HR := Lib.hid (hr.alloc (.cells #[.int .i64 (l.length : Int)] 3))
    have HH := Lib.hid (And.intro ha (And.intro hi (And.intro sa (And.intro si (And.intro sv d)))))
    have HL := Lib.hid (And.intro (hitsL_len l) hl)
    have HO := Lib.hid ho
    have OB := Lib.hid (fun g (e : (Value.slice A (hitsL l).length ca).ownBlock = some g) => (hr.lt g e).2)
    generalize hkl : (hitsL l).length = kl at *
    have HKL := Lib.hid hkl
    clear ha hi hr sa si sv d hl ho hkl
    go_enter Tryz.func22, Tryz.ntmps22
    go_wp2_with (at_builtin; refine wpList_append_own_at _ rfl _ _ 25 rfl 0 3 i0 (.int .i64 0) 1 8 Tryz.underlying25 hif hz0 hz1 hz2 rfl (by decide) _ _ _ rfl HR.out ⟨w.heap.size, 0, none⟩ 1 1 [.int .i64 (l.length : Int)] rfl (by rfl) (World.news_of_block (heap_alloc_new _ _)) ?c2 ?c3 ?c4 ?c5 ?_)
    case c2 => rfl
    case c3 => have := HL.out; unfold maxLen; omega
    case c4 => have := HL.out; omega
    rintro v' w3 hown' hgr - hat
    obtain ⟨A', ca', rfl⟩ := ownRow_any hown'
    have K1 : Keeps S w w3 := (((Keeps.refl S w).alloc (.cells #[.int .i64 (l.length : Int)] 3))).grown hgr (fun r e => .inl (HH.out.2.2.2.2.1 r e))
    have KF : Keeps (fun j => (Value.slice A kl ca).ownBlock = some j) w w3 := (((Keeps.refl _ w).alloc (.cells #[.int .i64 (l.length : Int)] 3))).grown hgr (fun r e => .inl e)
    have A3 := HH.out.1.keep KF (fun e => (HH.out.2.2.2.2.2 pa e).2 rfl)
    have I3 := HH.out.2.1.keep KF (fun e => (HH.out.2.2.2.2.2 pi e).1 rfl)
    have R3 : w3.ownsRow 0 3 1 (.slice A' (kl + 1) ca') (hitsL (l ++ [true])).length ((hitsL (l ++ [true])).map intV) := by
      rw [EL.out]
      simp only [if_true, List.length_append, HKL.out, List.map_append]
      exact hown'
    have N3 : ∀ g, (Value.slice A' (kl + 1) ca').ownBlock = some g → Ext S w w3 g ∧ g ≠ pi ∧ g ≠ pa := fun g e => by
      rcases hat with e2 | e2
      · have := e2.symm.trans e
        exact ⟨.inl (HH.out.2.2.2.2.1 g this), HH.out.2.2.2.2.2 g this⟩
      · have := e2.symm.trans e
        have hg : g = w.heap.size + 1 := by simpa using this.symm
        have := (hown'.lt g e).2
        exact ⟨.inr ⟨by omega, this⟩, by omega, by omega⟩
    have F := Lib.hid (show HiO pa pi (l ++ [true]) (Ext S w ((w3.setCell ⟨pa, 0, none⟩ (.slice A' (kl + 1) ca')).setCell ⟨pi, 0, none⟩ (.int .i64 ((l.length : Int) + 1)))) ((w3.setCell ⟨pa, 0, none⟩ (.slice A' (kl + 1) ca')).setCell ⟨pi, 0, none⟩ (.int .i64 ((l.length : Int) + 1))) ∧ Keeps S w ((w3.setCell ⟨pa, 0, none⟩ (.slice A' (kl + 1) ca')).setCell ⟨pi, 0, none⟩ (.int .i64 ((l.length : Int) + 1))) from by
      have kk := ((Keeps.refl (fun j => j = pi ∨ j = pa) w3).setCell (p := ⟨pa, 0, none⟩) (.inl (.inr rfl)) (.slice A' (kl + 1) ca')).setCell (p := ⟨pi, 0, none⟩) (.inl (.inl rfl)) (.int .i64 ((l.length : Int) + 1))
      have hz : ((w3.setCell ⟨pa, 0, none⟩ (.slice A' (kl + 1) ca')).setCell ⟨pi, 0, none⟩ (.int .i64 ((l.length : Int) + 1))).heap.size = w3.heap.size := by rw [World.size_setCell, World.size_setCell]
      refine ⟨⟨.slice A' (kl + 1) ca', ((A3.set 0 _).far npp _ _).congr (fun i hi => by rw [if_pos (by omega)]), ((I3.far (Ne.symm npp) _ _).set 0 _).congr (fun i hi => by rw [if_pos (by omega), LN.out]; rfl), row_keepG R3 kk (fun g e h => h.elim (N3 g e).2.1 (N3 g e).2.2), .inl HH.out.2.2.1, .inl HH.out.2.2.2.1, fun g e => ?_, fun g e => (N3 g e).2⟩, ((K1.setCell (p := ⟨pa, 0, none⟩) (.inl HH.out.2.2.1) _).setCell (p := ⟨pi, 0, none⟩) (.inl HH.out.2.2.2.1) _)⟩
      have := (N3 g e).1
      unfold Ext at this ⊢
      rw [hz]
      exact this)
    have c1 := A3.cell (i := 0) (by omega)
    have c2 := I3.cell (i := 0) (by omega)
    have f1 := A3.free 0
    have f2 := I3.free 0
    clear hown' hgr hat K1 KF A3 I3 R3 N3 ha0 hi0 fi fa
    go_wp2
    go_end0
    exact ⟨rfl, F.out⟩
end Go.Proofs.YtbgknopjgohocaaGreat


/- What is reckoned: Run, Wear. -/
namespace Go.Proofs.YtbgknopjgohocaaGreat
open Go.RowKit
set_option linter.unusedVariables false
set_option maxRecDepth 100000
set_option maxHeartbeats 2000000

def tlA (t : TL) : Array Value := #[.int .i64 (t.hits : Int), .int .i64 (t.misses : Int), .int .i64 (t.byps : Int), .int .i64 (t.fills : Int), .int .i64 (t.evic : Int), .int .i64 0, .int .i64 0, .int .i64 0, .int .i64 0, .int .i64 0, .int .i64 0, .int .i64 0, .int .i64 (t.filled : Int), .int .i64 0]
theorem RdZ2.below {w w' : World} {a : Option Addr} {n : Nat} {z : Nat → Int} (h : RdZ2 w a n z) (k : Below w.heap.size w w') : RdZ2 w' a n z := fun h0 => by
  obtain ⟨g, off, e, gl, hz⟩ := h h0
  exact ⟨g, off, e, Nat.lt_of_lt_of_le gl k.size, fun i hi => ⟨(k.cell (p := ⟨g, off + i, none⟩) gl).trans (hz i hi).1, (hz i hi).2⟩⟩
abbrev tlZ : Obj := .cells #[.int .i64 0, .int .i64 0, .int .i64 0, .int .i64 0, .int .i64 0, .int .i64 0, .int .i64 0, .int .i64 0, .int .i64 0, .int .i64 0, .int .i64 0, .int .i64 0, .int .i64 0, .int .i64 0] 35
theorem tl_there {w : World} {b : Nat} (h : w.heap[b]? = some tlZ) : w.there b 0 14 := fun j hj => by
  have : j = 0 ∨ j = 1 ∨ j = 2 ∨ j = 3 ∨ j = 4 ∨ j = 5 ∨ j = 6 ∨ j = 7 ∨ j = 8 ∨ j = 9 ∨ j = 10 ∨ j = 11 ∨ j = 12 ∨ j = 13 := by omega
  rw [Nat.zero_add]
  refine ⟨?_, blk_free h j⟩
  rw [blk_cell' h]
  rcases this with rfl | rfl | rfl | rfl | rfl | rfl | rfl | rfl | rfl | rfl | rfl | rfl | rfl | rfl <;> rfl
theorem tl_put {w : World} {b : Nat} (h : w.heap[b]? = some tlZ) (v0 v1 v2 v3 v4 v12 : Value) : ∃ w3, w.setCells b 0 (#[v0, v1, v2, v3, v4, .int .i64 0, .int .i64 0, .int .i64 0, .int .i64 0, .int .i64 0, .int .i64 0, .int .i64 0, v12, .int .i64 0] : Array Value).toList = w3 ∧
    (w3.cell? ⟨b, 0, none⟩ = some v0 ∧ w3.cell? ⟨b, 1, none⟩ = some v1 ∧ w3.cell? ⟨b, 2, none⟩ = some v2 ∧ w3.cell? ⟨b, 3, none⟩ = some v3 ∧ w3.cell? ⟨b, 4, none⟩ = some v4 ∧ w3.cell? ⟨b, 5, none⟩ = some (.int .i64 0) ∧ w3.cell? ⟨b, 6, none⟩ = some (.int .i64 0) ∧ w3.cell? ⟨b, 7, none⟩ = some (.int .i64 0) ∧ w3.cell? ⟨b, 8, none⟩ = some (.int .i64 0) ∧ w3.cell? ⟨b, 9, none⟩ = some (.int .i64 0) ∧ w3.cell? ⟨b, 10, none⟩ = some (.int .i64 0) ∧ w3.cell? ⟨b, 11, none⟩ = some (.int .i64 0) ∧ w3.cell? ⟨b, 12, none⟩ = some v12 ∧ w3.cell? ⟨b, 13, none⟩ = some (.int .i64 0)) ∧ Keeps (fun j => j = b) w w3 := by
  have CI := World.cell?_setCells_in b (#[v0, v1, v2, v3, v4, .int .i64 0, .int .i64 0, .int .i64 0, .int .i64 0, .int .i64 0, .int .i64 0, .int .i64 0, v12, .int .i64 0] : Array Value).toList 0 w (fun j hj => (tl_there h j hj).1)
  simp only [Nat.zero_add] at CI
  exact ⟨_, rfl, ⟨CI 0 (by simp), CI 1 (by simp), CI 2 (by simp), CI 3 (by simp), CI 4 (by simp), CI 5 (by simp), CI 6 (by simp), CI 7 (by simp), CI 8 (by simp), CI 9 (by simp), CI 10 (by simp), CI 11 (by simp), CI 12 (by simp), CI 13 (by simp)⟩, Keeps.setCells b _ 0 w⟩

theorem tr_rec (c : CF) (B : CFB c) (hm : c.may = true) (a : Option Addr) (n cp : Nat) (z : Nat → Int) (w : World) (hr : RdZ2 w a n z) (hn : n ≤ 1000) (hc : n ≤ cp) (hm9 : cp ≤ 9223372036854775807) :
    Calls Tryz.prog 21 #[.agg c.cs, .slice a n cp, .func (.func 23) #[] #[]] w fun e w' => ∃ b q, e = .returned (.tuple #[.pointer (some ⟨b, 0, none⟩), .int .i64 0]) ∧ Run1 (RuX b q (rcOf c) (.func (.func 23) #[] #[]) (goR (rcOf c) z n).2) w w' ∧ HVs (rcOf c) z n := by
  refine (tr_reckonN c B hm NoO (fun l hit A W _ _ ho => (tr_nobody hit W).mono fun e w' ⟨he, hw⟩ => ⟨he, trivial, hw ▸ Keeps.refl _ _⟩) a n cp z hr hn hc hm9 (fun _ => False) trivial (fun _ h => h.elim) (fun _ _ _ _ h => h)).mono fun e w' ⟨b, q, he, ht, hk, hv⟩ => ⟨b, q, he, ⟨?_, (hk.mono (T := fun j => w.heap.size ≤ j) (fun n _ x => x.elim)).below (Nat.le_refl _)⟩, hv⟩
  obtain ⟨A, B', ha, hb, oa, ob, hd, _, hx⟩ := ht
  exact Rep.mono hx (fun k x => (hb k x).elim (fun h => h.elim) (fun h => h))
end Go.Proofs.YtbgknopjgohocaaGreat


/- Run and Wear, walked. -/
namespace Go.Proofs.YtbgknopjgohocaaGreat
open Go.RowKit
set_option linter.unusedVariables false
set_option maxRecDepth 100000
set_option maxHeartbeats 2000000

theorem RuX.weo {S : Nat → Prop} {w : World} {b : Nat} {q : RJ} {r : RC} {told : Value} {s : RV} (h : RuX b q r told s S w) : S q.we := by
  obtain ⟨_, A1, _, h1, _, _, _, _, x1⟩ := h
  obtain ⟨_, A2, _, h2, _, _, _, _, x2⟩ := x1
  obtain ⟨_, A3, _, h3, _, _, _, _, x3⟩ := x2
  obtain ⟨_, A4, _, h4, _, _, _, _, x4⟩ := x3
  exact h1 _ (h2 _ (h3 _ (h4 _ x4.1)))
theorem tr_run (c : CF) (B : CFB c) (hm : c.may = true) (a : Option Addr) (n cp : Nat) (z : Nat → Int) (w : World) (hr : RdZ2 w a n z) (hn : n ≤ 1000) (hc : n ≤ cp) (hm9 : cp ≤ 9223372036854775807) :
    Calls Tryz.prog 9 #[.agg c.cs, .slice a n cp] w fun e w' => e = .returned (.tuple #[.agg (tlA (goR (rcOf c) z n).2.t), .int .i64 0]) ∧ HVs (rcOf c) z n ∧ Below w.heap.size w w' := by
  have NB := Lib.hid (fun W (k : Below w.heap.size w W) => tr_rec c B hm a n cp z W (hr.below k) hn hc hm9)
  generalize rcOf c = r at *
  obtain ⟨k0, k1, k2, k3, k4, k5, k6, k7, k8, k9⟩ := c
  generalize hhv : HVs r z n = HV at *
  generalize hs : (goR r z n).2 = s at *
  obtain ⟨pv, np, pl, used, wear, ⟨t0, t1, t2, t3, t4, t12⟩⟩ := s
  have NB := Lib.hid (fun W (k : Below w.heap.size w W) => show Calls Tryz.prog 21 #[.agg #[.int .i64 k0, .int .i64 k1, .int .i64 k2, .int .i64 k3, .int .i64 k4, .int .u64 k5, .float .f64 k6, .float .f64 k7, .float .f64 k8, .int .i64 k9], .slice a n cp, .func (.func 23) #[] #[]] W (fun e w' => ∃ b q, e = .returned (.tuple #[.pointer (some ⟨b, 0, none⟩), .int .i64 0]) ∧ Run1 (RuX b q r (.func (.func 23) #[] #[]) ⟨pv, np, pl, used, wear, ⟨t0, t1, t2, t3, t4, t12⟩⟩) W w' ∧ HV) from NB.out W k)
  clear B hm hr hn hc hm9 hs hhv
  change Calls Tryz.prog 9 #[.agg #[.int .i64 k0, .int .i64 k1, .int .i64 k2, .int .i64 k3, .int .i64 k4, .int .u64 k5, .float .f64 k6, .float .f64 k7, .float .f64 k8, .int .i64 k9], .slice a n cp] w _
  have B0 := Lib.hid (((Below.refl w.heap.size w).alloc (Nat.le_refl _) (.cells #[.int .i64 k0, .int .i64 k1, .int .i64 k2, .int .i64 k3, .int .i64 k4, .int .u64 k5, .float .f64 k6, .float .f64 k7, .float .f64 k8, .int .i64 k9] 28)).alloc (by simp) tlZ)
  have H0 := Lib.hid (heap_at (w.alloc (.cells #[.int .i64 k0, .int .i64 k1, .int .i64 k2, .int .i64 k3, .int .i64 k4, .int .u64 k5, .float .f64 k6, .float .f64 k7, .float .f64 k8, .int .i64 k9] 28)) tlZ (w.heap.size + 1) (by simp))
  have S0 := Lib.hid (show w.heap.size + 1 < ((w.alloc (.cells #[.int .i64 k0, .int .i64 k1, .int .i64 k2, .int .i64 k3, .int .i64 k4, .int .u64 k5, .float .f64 k6, .float .f64 k7, .float .f64 k8, .int .i64 k9] 28)).alloc tlZ).heap.size by simp)
  go_enter Tryz.func9, Tryz.ntmps9
  go_wp2_with fail
  refine (NB.out _ B0.out).mono ?_
  rintro e w1 ⟨b, q, rfl, ⟨g1, b1⟩, hv⟩
  have HV1 := Lib.hid hv
  have TH0 : w1.heap[w.heap.size + 1]? = some tlZ := (b1.block _ S0.out).trans H0.out
  have TH := Lib.hid (tl_there TH0)
  have B1 := Lib.hid (B0.out.trans (b1.mono B0.out.size))
  have d5 : w1.cell? ⟨b, 5, none⟩ = some (.int .i64 (t0 : Int)) := g1.top.cell (i := 5) (by omega)
  have d6 : w1.cell? ⟨b, 6, none⟩ = some (.int .i64 (t1 : Int)) := g1.top.cell (i := 6) (by omega)
  have d7 : w1.cell? ⟨b, 7, none⟩ = some (.int .i64 (t2 : Int)) := g1.top.cell (i := 7) (by omega)
  have d8 : w1.cell? ⟨b, 8, none⟩ = some (.int .i64 (t3 : Int)) := g1.top.cell (i := 8) (by omega)
  have d9 : w1.cell? ⟨b, 9, none⟩ = some (.int .i64 (t4 : Int)) := g1.top.cell (i := 9) (by omega)
  have d10 : w1.cell? ⟨b, 10, none⟩ = some (.int .i64 0) := g1.top.cell (i := 10) (by omega)
  have d11 : w1.cell? ⟨b, 11, none⟩ = some (.int .i64 0) := g1.top.cell (i := 11) (by omega)
  have d12 : w1.cell? ⟨b, 12, none⟩ = some (.int .i64 0) := g1.top.cell (i := 12) (by omega)
  have d13 : w1.cell? ⟨b, 13, none⟩ = some (.int .i64 0) := g1.top.cell (i := 13) (by omega)
  have d14 : w1.cell? ⟨b, 14, none⟩ = some (.int .i64 0) := g1.top.cell (i := 14) (by omega)
  have d15 : w1.cell? ⟨b, 15, none⟩ = some (.int .i64 0) := g1.top.cell (i := 15) (by omega)
  have d16 : w1.cell? ⟨b, 16, none⟩ = some (.int .i64 0) := g1.top.cell (i := 16) (by omega)
  have d17 : w1.cell? ⟨b, 17, none⟩ = some (.int .i64 (t12 : Int)) := g1.top.cell (i := 17) (by omega)
  have d18 : w1.cell? ⟨b, 18, none⟩ = some (.int .i64 0) := g1.top.cell (i := 18) (by omega)
  have TH1 := Lib.hid TH0
  clear g1 b1 TH0 hv
  go_wp2_with (
    refine wpList_store_mid rfl 35 (.tmp 4) (.tmp 21) rfl (w.heap.size + 1) 0 #[.int .i64 (t0 : Int), .int .i64 (t1 : Int), .int .i64 (t2 : Int), .int .i64 (t3 : Int), .int .i64 (t4 : Int), .int .i64 0, .int .i64 0, .int .i64 0, .int .i64 0, .int .i64 0, .int .i64 0, .int .i64 0, .int .i64 (t12 : Int), .int .i64 0] rfl rfl TH.out (by kernel_rfl) (by simp [Value.oneCell']) ?_
    obtain ⟨w3, hw3, FC, KC⟩ := tl_put TH1.out (.int .i64 (t0 : Int)) (.int .i64 (t1 : Int)) (.int .i64 (t2 : Int)) (.int .i64 (t3 : Int)) (.int .i64 (t4 : Int)) (.int .i64 (t12 : Int))
    rw [hw3]
    have B3 := Lib.hid (((Keeps.of_below B1.out).trans KC (fun j (hj : j = w.heap.size + 1) => .inl (by omega))).below (Nat.le_refl _))
    have FC := Lib.hid FC
    clear hw3 TH KC d5 d6 d7 d8 d9 d10 d11 d12 d13 d14 d15 d16 d17 d18)
  obtain ⟨r0, r1, r2, r3, r4, r5, r6, r7, r8, r9, r10, r11, r12, r13⟩ := FC.out
  refine bodyPost_ret (v := .tuple #[.agg #[.int .i64 (t0 : Int), .int .i64 (t1 : Int), .int .i64 (t2 : Int), .int .i64 (t3 : Int), .int .i64 (t4 : Int), .int .i64 0, .int .i64 0, .int .i64 0, .int .i64 0, .int .i64 0, .int .i64 0, .int .i64 0, .int .i64 (t12 : Int), .int .i64 0], .int .i64 0]) (by simp [results, Tryz.results9, go_sem, r0, r1, r2, r3, r4, r5, r6, r7, r8, r9, r10, r11, r12, r13]) rfl ⟨rfl, HV1.out, B3.out⟩

theorem tr_wear (c : CF) (B : CFB c) (hm : c.may = true) (a : Option Addr) (n cp : Nat) (z : Nat → Int) (w : World) (hr : RdZ2 w a n z) (hn : n ≤ 1000) (hc : n ≤ cp) (hm9 : cp ≤ 9223372036854775807) :
    Calls Tryz.prog 10 #[.agg c.cs, .slice a n cp] w fun e w' => ∃ g, e = .returned (.tuple #[.slice (some ⟨g, 0, none⟩) (rcOf c).c.n (rcOf c).c.n, .int .i64 0]) ∧ Arr w' g 3 (rcOf c).c.n (weF (goR (rcOf c) z n).2.wear) ∧ w.heap.size ≤ g ∧ HVs (rcOf c) z n ∧ Below w.heap.size w w' := by
  have NB := Lib.hid (fun W (k : Below w.heap.size w W) => tr_rec c B hm a n cp z W (hr.below k) hn hc hm9)
  generalize rcOf c = r at *
  obtain ⟨k0, k1, k2, k3, k4, k5, k6, k7, k8, k9⟩ := c
  generalize hhv : HVs r z n = HV at *
  generalize hs : (goR r z n).2 = s at *
  have NB := Lib.hid (fun W (k : Below w.heap.size w W) => show Calls Tryz.prog 21 #[.agg #[.int .i64 k0, .int .i64 k1, .int .i64 k2, .int .i64 k3, .int .i64 k4, .int .u64 k5, .float .f64 k6, .float .f64 k7, .float .f64 k8, .int .i64 k9], .slice a n cp, .func (.func 23) #[] #[]] W (fun e w' => ∃ b q, e = .returned (.tuple #[.pointer (some ⟨b, 0, none⟩), .int .i64 0]) ∧ Run1 (RuX b q r (.func (.func 23) #[] #[]) s) W w' ∧ HV) from NB.out W k)
  clear B hm hr hn hc hm9 hs hhv
  change Calls Tryz.prog 10 #[.agg #[.int .i64 k0, .int .i64 k1, .int .i64 k2, .int .i64 k3, .int .i64 k4, .int .u64 k5, .float .f64 k6, .float .f64 k7, .float .f64 k8, .int .i64 k9], .slice a n cp] w _
  have B0 := Lib.hid ((Below.refl w.heap.size w).alloc (Nat.le_refl _) (.cells #[.int .i64 k0, .int .i64 k1, .int .i64 k2, .int .i64 k3, .int .i64 k4, .int .u64 k5, .float .f64 k6, .float .f64 k7, .float .f64 k8, .int .i64 k9] 28))
  go_enter Tryz.func10, Tryz.ntmps10
  go_wp2_with fail
  refine (NB.out _ B0.out).mono ?_
  rintro e w1 ⟨b, q, rfl, ⟨g1, b1⟩, hv⟩
  have HV1 := Lib.hid hv
  have B1 := Lib.hid (B0.out.trans (b1.mono B0.out.size))
  have d3 : w1.cell? ⟨b, 3, none⟩ = some (.slice (some ⟨q.we, 0, none⟩) r.c.n r.c.n) := g1.top.cell (i := 3) (by omega)
  have W1 := Lib.hid (And.intro g1.wea (Nat.le_trans B0.out.size (RuX.weo g1).1))
  clear g1 b1 hv
  go_wp2
  go_ret2
  exact ⟨_, rfl, W1.out.1, W1.out.2, HV1.out, B1.out⟩
end Go.Proofs.YtbgknopjgohocaaGreat


/- Hits, walked. -/
namespace Go.Proofs.YtbgknopjgohocaaGreat
open Go.RowKit
set_option linter.unusedVariables false
set_option maxRecDepth 100000
set_option maxHeartbeats 2000000

theorem hi_begin (w0 : World) (W : World) (hW : W = (w0.alloc (.cells #[.slice none 0 0] 25)).alloc (.cells #[.int .i64 0] 3)) :
    HiO w0.heap.size (w0.heap.size + 1) [] (fun k => k = w0.heap.size ∨ k = w0.heap.size + 1) W ∧ Own (fun k => k = w0.heap.size ∨ k = w0.heap.size + 1) W ∧ Below w0.heap.size w0 W := by
  subst hW
  have X : ∀ (v : Value) (i : Nat), i < 1 → (#[v] : Array Value)[i]? = some v := fun v i hi => by
    have : i = 0 := by omega
    subst this
    rfl
  have A0 : Arr (w0.alloc (.cells #[.slice none 0 0] 25)) w0.heap.size 25 1 (fun _ => .slice none 0 0) := Arr.mk_ (L := 1) (heap_at w0 _ _ rfl) (by rfl) (fun i hi => X _ i hi)
  have A1 : Arr ((w0.alloc (.cells #[.slice none 0 0] 25)).alloc (.cells #[.int .i64 0] 3)) w0.heap.size 25 1 (fun _ => .slice none 0 0) := A0.past _
  have A2 : Arr ((w0.alloc (.cells #[.slice none 0 0] 25)).alloc (.cells #[.int .i64 0] 3)) (w0.heap.size + 1) 3 1 (fun _ => .int .i64 0) :=
    Arr.mk_ (L := 1) (heap_at _ _ _ (by simp)) (by rfl) (fun i hi => X _ i hi)
  have B0 := (((Below.refl w0.heap.size w0).alloc (Nat.le_refl _) (.cells #[.slice none 0 0] 25)).alloc (by simp) (.cells #[.int .i64 0] 3))
  refine ⟨⟨.slice none 0 0, A1, A2, ⟨by simp [hitsL], .inl ⟨rfl, by simp [hitsL]⟩⟩, .inl rfl, .inr rfl, fun g e => by simp [Value.ownBlock] at e, fun g e => by simp [Value.ownBlock] at e⟩, fun k hk => by simp; omega, ?_⟩
  exact B0

theorem tr_hits (c : CF) (B : CFB c) (hm : c.may = true) (a : Option Addr) (n cp : Nat) (z : Nat → Int) (w : World) (hr : RdZ2 w a n z) (hn : n ≤ 1000) (hc : n ≤ cp) (hm9 : cp ≤ 9223372036854775807) :
    Calls Tryz.prog 8 #[.agg c.cs, .slice a n cp] w fun e w' => ∃ v, e = .returned (.tuple #[v, .int .i64 0]) ∧ w'.ownsRow 0 3 1 v (hitsL (goR (rcOf c) z n).1).length ((hitsL (goR (rcOf c) z n).1).map intV) ∧ (∀ g, v.ownBlock = some g → w.heap.size ≤ g) ∧ HVs (rcOf c) z n ∧ Below w.heap.size w w' := by
  have NB := Lib.hid (fun (W : World) (z0 : Nat) (hz : w.heap.size < z0) (h : HiO z0 (z0 + 1) [] (fun k => k = z0 ∨ k = z0 + 1) W) (o : Own (fun k => k = z0 ∨ k = z0 + 1) W) (k : Below w.heap.size w W) =>
    tr_reckonH (w := W) c B hm z0 (z0 + 1) (HiO z0 (z0 + 1)) (fun l hit A W hl h o => tr_told _ _ l hit A W hl h o) a n cp z (hr.below k) hn hc hm9 (fun k => k = z0 ∨ k = z0 + 1) h o (fun h0 g off e hk => by
      obtain ⟨g', off', e', gl, _⟩ := hr h0
      rw [e] at e'
      cases e'
      omega))
  generalize rcOf c = r at *
  obtain ⟨k0, k1, k2, k3, k4, k5, k6, k7, k8, k9⟩ := c
  clear B hm hr hn hc hm9
  change Calls Tryz.prog 8 #[.agg #[.int .i64 k0, .int .i64 k1, .int .i64 k2, .int .i64 k3, .int .i64 k4, .int .u64 k5, .float .f64 k6, .float .f64 k7, .float .f64 k8, .int .i64 k9], .slice a n cp] w _
  have z1 : (w.alloc (.cells #[.int .i64 k0, .int .i64 k1, .int .i64 k2, .int .i64 k3, .int .i64 k4, .int .u64 k5, .float .f64 k6, .float .f64 k7, .float .f64 k8, .int .i64 k9] 28)).heap.size = w.heap.size + 1 := by simp
  have B0 := Lib.hid ((Below.refl w.heap.size w).alloc (Nat.le_refl _) (.cells #[.int .i64 k0, .int .i64 k1, .int .i64 k2, .int .i64 k3, .int .i64 k4, .int .u64 k5, .float .f64 k6, .float .f64 k7, .float .f64 k8, .int .i64 k9] 28))
  have HB := Lib.hid (fun W => hi_begin (w.alloc (.cells #[.int .i64 k0, .int .i64 k1, .int .i64 k2, .int .i64 k3, .int .i64 k4, .int .u64 k5, .float .f64 k6, .float .f64 k7, .float .f64 k8, .int .i64 k9] 28)) W)
  rw [z1] at HB
  clear z1
  go_enter Tryz.func8, Tryz.ntmps8
  go_wp2_with fail
  obtain ⟨h0, o0, b0⟩ := HB.out _ rfl
  refine (NB.out _ _ (by omega) h0 o0 (B0.out.trans (b0.mono (Nat.le_succ _)))).mono ?_
  rintro e w1 ⟨b, q, rfl, g1, b1, hv⟩
  have HV1 := Lib.hid hv
  have K1 := Lib.hid (((Keeps.of_below (B0.out.trans (b0.mono (Nat.le_succ _)))).trans b1 (fun j hj => .inl (by omega))).below (Nat.le_refl _))
  have b0s := b0.size
  have B0s := B0.out.size
  obtain ⟨A, B', ha, hb, oa, ob, hd, ⟨v, va, vi, vr, sa, si, sv, vd⟩, hx⟩ := g1
  have V := Lib.hid (And.intro vr (fun g e => show w.heap.size ≤ g from by
    have := ha g (sv g e)
    rcases this with (x | x) | x
    · omega
    · omega
    · have := x.1; omega))
  have r0 : w1.cell? ⟨w.heap.size + 1, 0, none⟩ = some v := va.cell (i := 0) (by omega)
  clear ha hb oa ob hd va vi vr sa si sv vd hx b0 b1 hv h0 o0 b0s B0s
  go_wp2
  go_ret2
  exact ⟨_, rfl, V.out.1, V.out.2, HV1.out, K1.out⟩
end Go.Proofs.YtbgknopjgohocaaGreat


/- What settings nothing is reckoned by. -/
namespace Go.Proofs.YtbgknopjgohocaaGreat
open Go.RowKit
set_option linter.unusedVariables false
set_option maxRecDepth 100000
set_option maxHeartbeats 2000000

theorem tr_noN (c : CF) (hm : c.may = false) (a : Option Addr) (n cp : Nat) (w : World) :
    Calls Tryz.prog 21 #[.agg c.cs, .slice a n cp, .func (.func 23) #[] #[]] w fun e w' => e = .returned (.tuple #[.pointer none, .int .i64 100]) ∧ Below w.heap.size w w' := by
  have NB := Lib.hid (fun W => tb_no c hm (.func (.func 23) #[] #[]) W)
  obtain ⟨k0, k1, k2, k3, k4, k5, k6, k7, k8, k9⟩ := c
  clear hm
  change Calls Tryz.prog 21 #[.agg #[.int .i64 k0, .int .i64 k1, .int .i64 k2, .int .i64 k3, .int .i64 k4, .int .u64 k5, .float .f64 k6, .float .f64 k7, .float .f64 k8, .int .i64 k9], .slice a n cp, .func (.func 23) #[] #[]] w _
  have B0 := Lib.hid ((Below.refl w.heap.size w).alloc (Nat.le_refl _) (.cells #[.int .i64 k0, .int .i64 k1, .int .i64 k2, .int .i64 k3, .int .i64 k4, .int .u64 k5, .float .f64 k6, .float .f64 k7, .float .f64 k8, .int .i64 k9] 28))
  go_enter Tryz.func21, Tryz.ntmps21
  go_wp2_with fail
  refine (NB.out _).mono ?_
  rintro e w1 ⟨rfl, b1⟩
  have B1 := Lib.hid (B0.out.trans (b1.mono B0.out.size))
  clear b1
  go_wp2
  go_ret2
  exact ⟨rfl, B1.out⟩

theorem tr_noH (c : CF) (hm : c.may = false) (a : Option Addr) (n cp : Nat) (w : World) (pa pi : Nat) :
    Calls Tryz.prog 21 #[.agg c.cs, .slice a n cp, .func (.func 22) #[] #[.pointer (some ⟨pa, 0, none⟩), .pointer (some ⟨pi, 0, none⟩)]] w fun e w' => e = .returned (.tuple #[.pointer none, .int .i64 100]) ∧ Below w.heap.size w w' := by
  have NB := Lib.hid (fun W => tb_no c hm (.func (.func 22) #[] #[.pointer (some ⟨pa, 0, none⟩), .pointer (some ⟨pi, 0, none⟩)]) W)
  obtain ⟨k0, k1, k2, k3, k4, k5, k6, k7, k8, k9⟩ := c
  clear hm
  change Calls Tryz.prog 21 #[.agg #[.int .i64 k0, .int .i64 k1, .int .i64 k2, .int .i64 k3, .int .i64 k4, .int .u64 k5, .float .f64 k6, .float .f64 k7, .float .f64 k8, .int .i64 k9], .slice a n cp, .func (.func 22) #[] #[.pointer (some ⟨pa, 0, none⟩), .pointer (some ⟨pi, 0, none⟩)]] w _
  have B0 := Lib.hid ((Below.refl w.heap.size w).alloc (Nat.le_refl _) (.cells #[.int .i64 k0, .int .i64 k1, .int .i64 k2, .int .i64 k3, .int .i64 k4, .int .u64 k5, .float .f64 k6, .float .f64 k7, .float .f64 k8, .int .i64 k9] 28))
  go_enter Tryz.func21, Tryz.ntmps21
  go_wp2_with fail
  refine (NB.out _).mono ?_
  rintro e w1 ⟨rfl, b1⟩
  have B1 := Lib.hid (B0.out.trans (b1.mono B0.out.size))
  clear b1
  go_wp2
  go_ret2
  exact ⟨rfl, B1.out⟩

theorem tr_wear_no (c : CF) (hm : c.may = false) (a : Option Addr) (n cp : Nat) (w : World) :
    Calls Tryz.prog 10 #[.agg c.cs, .slice a n cp] w fun e w' => e = .returned (.tuple #[.slice none 0 0, .int .i64 100]) ∧ Below w.heap.size w w' := by
  have NB := Lib.hid (fun W => tr_noN c hm a n cp W)
  obtain ⟨k0, k1, k2, k3, k4, k5, k6, k7, k8, k9⟩ := c
  clear hm
  change Calls Tryz.prog 10 #[.agg #[.int .i64 k0, .int .i64 k1, .int .i64 k2, .int .i64 k3, .int .i64 k4, .int .u64 k5, .float .f64 k6, .float .f64 k7, .float .f64 k8, .int .i64 k9], .slice a n cp] w _
  have B0 := Lib.hid ((Below.refl w.heap.size w).alloc (Nat.le_refl _) (.cells #[.int .i64 k0, .int .i64 k1, .int .i64 k2, .int .i64 k3, .int .i64 k4, .int .u64 k5, .float .f64 k6, .float .f64 k7, .float .f64 k8, .int .i64 k9] 28))
  go_enter Tryz.func10, Tryz.ntmps10
  go_wp2_with fail
  refine (NB.out _).mono ?_
  rintro e w1 ⟨rfl, b1⟩
  have B1 := Lib.hid (B0.out.trans (b1.mono B0.out.size))
  clear b1
  go_wp2
  go_ret2
  exact ⟨rfl, B1.out⟩

theorem tr_hits_no (c : CF) (hm : c.may = false) (a : Option Addr) (n cp : Nat) (w : World) :
    Calls Tryz.prog 8 #[.agg c.cs, .slice a n cp] w fun e w' => e = .returned (.tuple #[.slice none 0 0, .int .i64 100]) ∧ Below w.heap.size w w' := by
  have NB := Lib.hid (fun W pa pi => tr_noH c hm a n cp W pa pi)
  obtain ⟨k0, k1, k2, k3, k4, k5, k6, k7, k8, k9⟩ := c
  clear hm
  change Calls Tryz.prog 8 #[.agg #[.int .i64 k0, .int .i64 k1, .int .i64 k2, .int .i64 k3, .int .i64 k4, .int .u64 k5, .float .f64 k6, .float .f64 k7, .float .f64 k8, .int .i64 k9], .slice a n cp] w _
  have B0 := Lib.hid ((((Below.refl w.heap.size w).alloc (Nat.le_refl _) (.cells #[.int .i64 k0, .int .i64 k1, .int .i64 k2, .int .i64 k3, .int .i64 k4, .int .u64 k5, .float .f64 k6, .float .f64 k7, .float .f64 k8, .int .i64 k9] 28)).alloc (by simp) (.cells #[.slice none 0 0] 25)).alloc (by simp; omega) (.cells #[.int .i64 0] 3))
  have H0 := Lib.hid (Below.heap_alloc ((w.alloc (.cells #[.int .i64 k0, .int .i64 k1, .int .i64 k2, .int .i64 k3, .int .i64 k4, .int .u64 k5, .float .f64 k6, .float .f64 k7, .float .f64 k8, .int .i64 k9] 28)).alloc (.cells #[.slice none 0 0] 25)) (.cells #[.int .i64 0] 3) (w.heap.size + 1) (by simp) |>.trans (heap_at (w.alloc (.cells #[.int .i64 k0, .int .i64 k1, .int .i64 k2, .int .i64 k3, .int .i64 k4, .int .u64 k5, .float .f64 k6, .float .f64 k7, .float .f64 k8, .int .i64 k9] 28)) (.cells #[.slice none 0 0] 25) (w.heap.size + 1) (by simp)))
  have S0 := Lib.hid (show w.heap.size + 1 < (((w.alloc (.cells #[.int .i64 k0, .int .i64 k1, .int .i64 k2, .int .i64 k3, .int .i64 k4, .int .u64 k5, .float .f64 k6, .float .f64 k7, .float .f64 k8, .int .i64 k9] 28)).alloc (.cells #[.slice none 0 0] 25)).alloc (.cells #[.int .i64 0] 3)).heap.size by simp)
  go_enter Tryz.func8, Tryz.ntmps8
  go_wp2_with fail
  refine (NB.out _ _ _).mono ?_
  rintro e w1 ⟨rfl, b1⟩
  have r0 : w1.cell? ⟨w.heap.size + 1, 0, none⟩ = some (.slice none 0 0) := (blk_cell' ((b1.block _ S0.out).trans H0.out) 0).trans rfl
  have B1 := Lib.hid (B0.out.trans (b1.mono B0.out.size))
  clear b1
  go_wp2
  go_ret2
  exact ⟨rfl, B1.out⟩

theorem tr_run_no (c : CF) (hm : c.may = false) (a : Option Addr) (n cp : Nat) (w : World) :
    Calls Tryz.prog 9 #[.agg c.cs, .slice a n cp] w fun e w' => e = .returned (.tuple #[.agg (tlA ⟨0, 0, 0, 0, 0, 0⟩), .int .i64 100]) ∧ Below w.heap.size w w' := by
  have NB := Lib.hid (fun W => tr_noN c hm a n cp W)
  obtain ⟨k0, k1, k2, k3, k4, k5, k6, k7, k8, k9⟩ := c
  clear hm
  change Calls Tryz.prog 9 #[.agg #[.int .i64 k0, .int .i64 k1, .int .i64 k2, .int .i64 k3, .int .i64 k4, .int .u64 k5, .float .f64 k6, .float .f64 k7, .float .f64 k8, .int .i64 k9], .slice a n cp] w _
  have B0 := Lib.hid (((Below.refl w.heap.size w).alloc (Nat.le_refl _) (.cells #[.int .i64 k0, .int .i64 k1, .int .i64 k2, .int .i64 k3, .int .i64 k4, .int .u64 k5, .float .f64 k6, .float .f64 k7, .float .f64 k8, .int .i64 k9] 28)).alloc (by simp) tlZ)
  have H0 := Lib.hid (heap_at (w.alloc (.cells #[.int .i64 k0, .int .i64 k1, .int .i64 k2, .int .i64 k3, .int .i64 k4, .int .u64 k5, .float .f64 k6, .float .f64 k7, .float .f64 k8, .int .i64 k9] 28)) tlZ (w.heap.size + 1) (by simp))
  have S0 := Lib.hid (show w.heap.size + 1 < ((w.alloc (.cells #[.int .i64 k0, .int .i64 k1, .int .i64 k2, .int .i64 k3, .int .i64 k4, .int .u64 k5, .float .f64 k6, .float .f64 k7, .float .f64 k8, .int .i64 k9] 28)).alloc tlZ).heap.size by simp)
  go_enter Tryz.func9, Tryz.ntmps9
  go_wp2_with fail
  refine (NB.out _).mono ?_
  rintro e w1 ⟨rfl, b1⟩
  have TH0 : w1.heap[w.heap.size + 1]? = some tlZ := (b1.block _ S0.out).trans H0.out
  have TH := Lib.hid (tl_there TH0)
  have TH1 := Lib.hid TH0
  have B1 := Lib.hid (B0.out.trans (b1.mono B0.out.size))
  clear b1 TH0
  go_wp2_with (
    refine wpList_store_mid rfl 35 (.tmp 4) (.tmp 16) rfl (w.heap.size + 1) 0 #[.int .i64 0, .int .i64 0, .int .i64 0, .int .i64 0, .int .i64 0, .int .i64 0, .int .i64 0, .int .i64 0, .int .i64 0, .int .i64 0, .int .i64 0, .int .i64 0, .int .i64 0, .int .i64 0] rfl rfl TH.out (by kernel_rfl) (by simp [Value.oneCell']) ?_
    obtain ⟨w3, hw3, FC, KC⟩ := tl_put TH1.out (.int .i64 0) (.int .i64 0) (.int .i64 0) (.int .i64 0) (.int .i64 0) (.int .i64 0)
    rw [hw3]
    have B3 := Lib.hid (((Keeps.of_below B1.out).trans KC (fun j (hj : j = w.heap.size + 1) => .inl (by omega))).below (Nat.le_refl _))
    have FC := Lib.hid FC
    clear hw3 TH KC)
  obtain ⟨r0, r1, r2, r3, r4, r5, r6, r7, r8, r9, r10, r11, r12, r13⟩ := FC.out
  refine bodyPost_ret (v := .tuple #[.agg #[.int .i64 0, .int .i64 0, .int .i64 0, .int .i64 0, .int .i64 0, .int .i64 0, .int .i64 0, .int .i64 0, .int .i64 0, .int .i64 0, .int .i64 0, .int .i64 0, .int .i64 0, .int .i64 0], .int .i64 100]) (by simp [results, Tryz.results9, go_sem, r0, r1, r2, r3, r4, r5, r6, r7, r8, r9, r10, r11, r12, r13]) rfl ⟨rfl, B3.out⟩
end Go.Proofs.YtbgknopjgohocaaGreat


/- What is reckoned: the plain law of a trace. -/
namespace Go.Proofs.YtbgknopjgohocaaGreat
open Go.RowKit
set_option linter.unusedVariables false
set_option maxRecDepth 100000
set_option maxHeartbeats 2000000

def wsum (f : Nat → Nat) : Nat → Nat
  | 0 => 0
  | k + 1 => wsum f k + f k
theorem wsum_bump (f : Nat → Nat) (x : Nat) : ∀ n, wsum (fun k => if k = x then f x + 1 else f k) n = wsum f n + (if x < n then 1 else 0)
  | 0 => by simp [wsum]
  | n + 1 => by
    simp only [wsum]
    rw [wsum_bump f x n]
    by_cases e : n = x
    · subst e
      rw [if_pos rfl, if_neg (by omega), if_pos (by omega)]
      omega
    · rw [if_neg e]
      by_cases l : x < n
      · rw [if_pos l, if_pos (by omega)]; omega
      · rw [if_neg l, if_neg (by omega)]; omega
theorem wsum_zero : ∀ n, wsum (fun _ => 0) n = 0
  | 0 => rfl
  | n + 1 => by simp only [wsum]; rw [wsum_zero n]
/-- Slots are worn by fills alone. -/
structure Wn (r : RC) (s : RV) : Prop where
  sum : wsum s.wear r.c.n = s.t.fills
  fd : s.t.filled = 3 * s.t.fills
  us : s.used = s.t.filled
  mo : s.used ≤ r.most
theorem fillR_w {r : RC} {s : RV} {lba : Nat} {sc : Bool} (hv : anyP s.pv = true → vicP s.pv < r.c.n) (hw : s.pl.wh lba = 0) (h : Wn r s) : Wn r (fillR r s lba sc).2 := by
  unfold fillR
  by_cases hm : sc = true ∨ r.most < s.used + 3
  · rw [if_pos hm]; exact h
  · rw [if_neg hm]
    cases hr : (roomR r s lba).2.1
    · rw [if_neg (by decide)]; exact h
    · rw [if_pos rfl]
      have ok := roomR_ok hv hw hr
      refine ⟨?_, ?_, ?_, ?_⟩
      · show wsum (fun k => if k = (roomR r s lba).1 then s.wear (roomR r s lba).1 + 1 else s.wear k) r.c.n = s.t.fills + 1
        rw [wsum_bump, if_pos ok.kn, h.sum]
      · show s.t.filled + 3 = 3 * (s.t.fills + 1)
        rw [h.fd]; omega
      · show s.used + 3 = s.t.filled + 3
        rw [h.us]
      · show s.used + 3 ≤ r.most
        omega
theorem readR_w {r : RC} {s : RV} {lba : Int} (hv : anyP (rdS r s lba).pv = true → vicP (rdS r s lba).pv < r.c.n) (h : Wn r s) : Wn r (readR r s lba).2 := by
  unfold readR
  split
  · exact h
  · split
    · exact ⟨h.sum, h.fd, h.us, h.mo⟩
    · rename_i hw
      have hw : s.pl.wh lba.toNat = 0 := by simpa using hw
      have f := fillR_w (r := r) (s := rdS r s lba) (lba := lba.toNat) (sc := (rdS r s lba).pv.scan) hv hw ⟨h.sum, h.fd, h.us, h.mo⟩
      split
      · exact ⟨f.sum, f.fd, f.us, f.mo⟩
      · exact ⟨f.sum, f.fd, f.us, f.mo⟩
theorem rv0_w (r : RC) : Wn r rv0 := ⟨wsum_zero _, rfl, rfl, Nat.zero_le _⟩
/-- Reads of a block. -/
def cntR (nb : Nat) (z : Nat → Int) : Nat → Nat
  | 0 => 0
  | k + 1 => cntR nb z k + (if 0 ≤ z k ∧ z k < nb then 1 else 0)
theorem goR_facts {r : RC} {z : Nat → Int} : ∀ {k : Nat}, HVs r z k → Wn r (goR r z k).2 ∧ (goR r z k).2.t.hits = (hitsL (goR r z k).1).length ∧ (goR r z k).2.t.hits + (goR r z k).2.t.misses + (goR r z k).2.t.byps = cntR r.nb z k
  | 0, _ => ⟨rv0_w r, rfl, rfl⟩
  | k + 1, hv => by
    obtain ⟨a, b, c⟩ := goR_facts (k := k) (fun j hj => hv j (by omega))
    obtain ⟨d, e⟩ := readR_counts (hv k (by omega))
    refine ⟨readR_w (hv k (by omega)) a, ?_, ?_⟩
    · show (readR r (goR r z k).2 (z k)).2.t.hits = (hitsL ((goR r z k).1 ++ [(readR r (goR r z k).2 (z k)).1])).length
      rw [hitsL_snoc, List.length_append, d, b]
      by_cases hh : (readR r (goR r z k).2 (z k)).1 = true
      · rw [if_pos hh, if_pos hh]; rfl
      · rw [if_neg hh, if_neg hh]; rfl
    · show (readR r (goR r z k).2 (z k)).2.t.hits + (readR r (goR r z k).2 (z k)).2.t.misses + (readR r (goR r z k).2 (z k)).2.t.byps = cntR r.nb z k + _
      rw [e, c]
theorem goR_congr (r : RC) {z y : Nat → Int} : ∀ {k : Nat}, (∀ i, i < k → z i = y i) → goR r z k = goR r y k
  | 0, _ => rfl
  | k + 1, h => by
    show ((goR r z k).1 ++ [_], _) = ((goR r y k).1 ++ [_], _)
    rw [goR_congr r (k := k) (fun i hi => h i (by omega)), h k (by omega)]
/-- A longer trace has the hits of the shorter one. -/
theorem hits_longer (r : RC) (z : Nat → Int) (n : Nat) : ∀ m, ∃ x, hitsL (goR r z (n + m)).1 = hitsL (goR r z n).1 ++ x ∧ ∀ i, i ∈ x → n ≤ i
  | 0 => ⟨[], by simp, fun i h => by cases h⟩
  | m + 1 => by
    obtain ⟨x, e, hx⟩ := hits_longer r z n m
    refine ⟨x ++ (if (readR r (goR r z (n + m)).2 (z (n + m))).1 = true then [(goR r z (n + m)).1.length] else []), ?_, fun i hi => ?_⟩
    · show hitsL ((goR r z (n + m)).1 ++ [_]) = _
      rw [hitsL_snoc, e, List.append_assoc]
      rfl
    · rcases List.mem_append.1 hi with hi | hi
      · exact hx i hi
      · split at hi
        · have := List.mem_singleton.1 hi
          rw [this, goR_len]; omega
        · cases hi
end Go.Proofs.YtbgknopjgohocaaGreat


/- The page's example of a trace. -/
namespace Go.Proofs.YtbgknopjgohocaaGreat
open Go.RowKit
set_option linter.unusedVariables false
set_option maxRecDepth 100000
set_option maxHeartbeats 2000000

def cf36 : CF := ⟨9, 2, 1, 1, 50, 1, 4602678819172646912, 4607182418800017408, 4607182418800017408, 0⟩
def z36 (i : Nat) : Int := if i = 2 then 6 else 5
def rc36 : RC := ⟨⟨2, 1, 16, 2, 2, 1, 0, 4607182418800017408⟩, 9, 1, 50⟩
theorem cf36_ok : CFB cf36 := ⟨by decide, by decide, by decide, by decide, by decide⟩
theorem cf36_may : cf36.may = true := by decide
theorem rc36_t : (rcOf cf36).c = (pcOf cf36) := rfl
theorem aw36_h : hitsL (goR (rcOf cf36) z36 4).1 = [1, 3] := by kernel_rfl
theorem aw36_t : (goR (rcOf cf36) z36 4).2.t.hits = 2 ∧ (goR (rcOf cf36) z36 4).2.t.misses = 2 := ⟨by kernel_rfl, by kernel_rfl⟩
end Go.Proofs.YtbgknopjgohocaaGreat
