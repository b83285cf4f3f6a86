/- The document's filter: walks of New, Think, See. -/
import Derived.Test.YtdbgehplmllgdaaGreatTi
namespace Go.Proofs.YtdbgehplmllgdaaGreat
open Go.RowKit
set_option linter.unusedVariables false

def rtF (sb dg width : Nat) (n sample : Nat) : Nat → Value
  | 0 => .pointer (some ⟨sb, 0, none⟩)
  | 1 => .slice (some ⟨dg, 0, none⟩) width width
  | 2 => .int .i64 (n : Int)
  | _ => .int .i64 (sample : Int)

structure Rt (w : World) (b sb dg : Nat) (A : Nat → Prop) (seed : Int) (width sample : Nat) (t : TS) : Prop where
  top : Arr w b 164 4 (rtF sb dg width t.n sample)
  sk : RsO sb seed width t.c A w
  own : Own A w
  door : Arr w dg 4 width (fun i => .bool (t.door i))
  nb : ¬ A b
  nd : ¬ A dg
  m1 : 1 ≤ sample
  m2 : sample ≤ 1048576
  s0 : 0 ≤ seed
  s1 : seed ≤ 18446744073709551615

def RtO (b : Nat) (seed : Int) (width sample : Nat) (t : TS) (S : Nat → Prop) (w : World) : Prop :=
  ∃ sb dg A, Rt w b sb dg A seed width sample t ∧ S b ∧ S dg ∧ (∀ k, A k → S k) ∧ t.n < sample

section
variable {S : Nat → Prop} {w : World} {b sb dg : Nat} {A : Nat → Prop} {seed : Int} {width sample : Nat} {t : TS}

theorem Rt.keep {T : Nat → Prop} {w' : World} (h : Rt w b sb dg A seed width sample t) (k : Keeps T w w') (tb : ¬ T b) (td : ¬ T dg) (tA : ∀ k, A k → ¬ T k) : Rt w' b sb dg A seed width sample t :=
  { h with top := h.top.keep k tb, sk := Rep.keep h.sk h.own k tA, own := h.own.grow k.size, door := h.door.keep k td }
instance : Rep (RtO b seed width sample t) where
  keep := fun ⟨sb, d, A, h, hb, hd, hA, hn⟩ _ k ht => ⟨sb, d, A, h.keep k (ht _ hb) (ht _ hd) (fun j hj => ht _ (hA j hj)), hb, hd, hA, hn⟩
  mono := fun ⟨sb, d, A, h, hb, hd, hA, hn⟩ hs => ⟨sb, d, A, h, hs _ hb, hs _ hd, fun k x => hs _ (hA k x), hn⟩
theorem Rt.drewN (h : Rt w b sb dg A seed width sample t) (n : Nat) : Rt (w.drewN n) b sb dg A seed width sample t :=
  h.keep ((Keeps.refl (fun _ => False) w).drewN n) (fun x => x) (fun x => x) (fun _ _ x => x)

theorem RsO.cells (h : RsO sb seed width t.c A w) : w.cell? ⟨sb, 0, none⟩ = some (.int .u64 seed) ∧ w.cell? ⟨sb, 1, none⟩ = some (.int .i64 (width : Int)) := by
  obtain ⟨g, hr, _⟩ := h
  exact ⟨hr.top.cell (i := 0) (by omega), hr.top.cell (i := 1) (by omega)⟩

/-- On the way, since the world w0. -/
def RtS (S : Nat → Prop) (w0 w : World) (b sb dg : Nat) (seed : Int) (width sample : Nat) (t : TS) : Prop :=
  ∃ A, Rt w b sb dg A seed width sample t ∧ (∀ k, A k → S k) ∧ Ext S w0 w dg ∧ Keeps S w0 w

theorem RtO.open_ (h : RtO b seed width sample t S w) : ∃ sb dg, RtS S w w b sb dg seed width sample t ∧ S b ∧ t.n < sample := by
  obtain ⟨sb, dg, A, h, hb, hd, hA, hn⟩ := h
  exact ⟨sb, dg, ⟨A, h, hA, .inl hd, Keeps.refl _ _⟩, hb, hn⟩

variable {w0 : World}
theorem RtS.shut (h : RtS S w0 w b sb dg seed width sample t) (hb : S b) (hn : t.n < sample) : RtO b seed width sample t (Ext S w0 w) w ∧ Keeps S w0 w := by
  obtain ⟨A, h, hA, hd, hk⟩ := h
  exact ⟨⟨sb, dg, A, h, .inl hb, hd, fun k x => .inl (hA k x), hn⟩, hk⟩
theorem RtS.drewN (h : RtS S w0 w b sb dg seed width sample t) (n : Nat) : RtS S w0 (w.drewN n) b sb dg seed width sample t := by
  obtain ⟨A, h, hA, hd, hk⟩ := h
  exact ⟨A, h.drewN n, hA, hd, hk.drewN n⟩
theorem RtS.drew (h : RtS S w0 w b sb dg seed width sample t) : RtS S w0 w.drew b sb dg seed width sample t := h.drewN 1
theorem RtS.top (h : RtS S w0 w b sb dg seed width sample t) : Arr w b 164 4 (rtF sb dg width t.n sample) := by
  obtain ⟨A, h, _⟩ := h
  exact h.top
theorem RtS.wid (h : RtS S w0 w b sb dg seed width sample t) : 1 ≤ width ∧ width ≤ 4096 ∧ 1 ≤ sample ∧ sample ≤ 1048576 := by
  obtain ⟨A, h, _⟩ := h
  exact ⟨h.sk.wid.1, h.sk.wid.2, h.m1, h.m2⟩
theorem RtS.cell0 (h : RtS S w0 w b sb dg seed width sample t) : w.cell? ⟨b, 0, none⟩ = some (.pointer (some ⟨sb, 0, none⟩)) := h.top.cell (i := 0) (by omega)
theorem RtS.cell1 (h : RtS S w0 w b sb dg seed width sample t) : w.cell? ⟨b, 1, none⟩ = some (.slice (some ⟨dg, 0, none⟩) width width) := h.top.cell (i := 1) (by omega)
theorem RtS.cell2 (h : RtS S w0 w b sb dg seed width sample t) : w.cell? ⟨b, 2, none⟩ = some (.int .i64 (t.n : Int)) := h.top.cell (i := 2) (by omega)
theorem RtS.cell3 (h : RtS S w0 w b sb dg seed width sample t) : w.cell? ⟨b, 3, none⟩ = some (.int .i64 (sample : Int)) := h.top.cell (i := 3) (by omega)
theorem RtS.doorc (h : RtS S w0 w b sb dg seed width sample t) (i : Nat) (hi : i < width) : w.cell? ⟨dg, i, none⟩ = some (.bool (t.door i)) := by
  obtain ⟨A, h, _⟩ := h
  exact h.door.cell hi
theorem RtS.doorf (h : RtS S w0 w b sb dg seed width sample t) (i : Nat) : w.frozen? ⟨dg, i, none⟩ = false := by
  obtain ⟨A, h, _⟩ := h
  exact h.door.free i
theorem RtS.scells (h : RtS S w0 w b sb dg seed width sample t) : w.cell? ⟨sb, 0, none⟩ = some (.int .u64 seed) ∧ w.cell? ⟨sb, 1, none⟩ = some (.int .i64 (width : Int)) := by
  obtain ⟨A, h, _⟩ := h
  exact h.sk.cells

theorem RtS.bit (h : RtS S w0 w b sb dg seed width sample t) (key : Int) (k0 : 0 ≤ key) (k1 : key ≤ 18446744073709551615) :
    Calls Tryz.prog 133 #[.pointer (some ⟨b, 0, none⟩), .int .u64 key] w fun r w' => r = .returned (.int .i64 (pickN seed key width 4 : Int)) ∧ ∃ n, w' = w.drewN n := by
  have c0 := h.cell0
  obtain ⟨d0, d1⟩ := h.scells
  have hw := h.wid
  have ss : 0 ≤ seed ∧ seed ≤ 18446744073709551615 := by obtain ⟨A, h, _⟩ := h; exact ⟨h.s0, h.s1⟩
  have P := Lib.hid (fun W => rPick_any seed key 4 (width : Int) ss.1 ss.2 k0 k1 (by omega) (by omega) (by omega) (by omega) W)
  have E := Lib.hid (pickN_int seed key width 4 hw.1)
  clear h hw ss
  go_enter Tryz.func133, Tryz.ntmps133
  go_wp2_with fail
  go_quiet ((go_at_call 171; exact quiet_left (P.out _)))
  go_wp2
  go_ret
  refine ⟨ret_i64 ?_, _, rfl⟩
  rw [← E.out]; rfl

theorem RtS.bit' (h : RtS S w0 w b sb dg seed width sample t) (key : Int) (k0 : 0 ≤ key) (k1 : key ≤ 18446744073709551615) :
    Calls Tryz.prog 133 #[.pointer (some ⟨b, 0, none⟩), .int .u64 key] w fun r w' => r = .returned (.int .i64 (pickN seed key width 4 : Int)) ∧ RtS S w0 w' b sb dg seed width sample t :=
  (h.bit key k0 k1).mono fun e w' ⟨he, n, hw⟩ => ⟨he, by rw [hw]; exact h.drewN n⟩

/-- The counters turn. -/
theorem RtS.count_ (h : RtS S w0 w b sb dg seed width sample t) (ho : Own S w0) {V : Ending → Prop} {f : FuncId} {args : Array Value} {c : Nat → Nat → Nat}
    (hc : ∀ A, RsO sb seed width t.c A w → Calls Tryz.prog f args w fun r w' => V r ∧ RsO sb seed width c A w' ∧ Keeps A w w') :
    Calls Tryz.prog f args w fun r w' => V r ∧ RtS S w0 w' b sb dg seed width sample { t with c := c } := by
  obtain ⟨A, h, hA, hd, hk⟩ := h
  refine (hc A h.sk).mono fun r w' ⟨hr, hs, k⟩ => ⟨hr, A, ⟨h.top.keep k h.nb, hs, h.own.grow k.size, h.door.keep k h.nd, h.nb, h.nd, h.m1, h.m2, h.s0, h.s1⟩, hA, hd.elim .inl (fun y => .inr ⟨y.1, Nat.lt_of_lt_of_le y.2 k.size⟩), hk.trans k (fun j x => .inl (hA j x))⟩
theorem RtS.add (h : RtS S w0 w b sb dg seed width sample t) (ho : Own S w0) (key : Int) (k0 : 0 ≤ key) (k1 : key ≤ 18446744073709551615) :
    Calls Tryz.prog 165 #[.pointer (some ⟨sb, 0, none⟩), .int .u64 key] w fun r w' => (∃ n : Int, r = .returned (.int .i64 n)) ∧ RtS S w0 w' b sb dg seed width sample { t with c := addA t.c (pickN seed key width) } :=
  h.count_ ho (fun A hs => (rsAdd hs key k0 k1).mono fun r w' ⟨hr, x⟩ => ⟨⟨_, hr⟩, x⟩)
theorem RtS.halve (h : RtS S w0 w b sb dg seed width sample t) (ho : Own S w0) :
    Calls Tryz.prog 166 #[.pointer (some ⟨sb, 0, none⟩)] w fun r w' => (∃ n : Int, r = .returned (.int .i64 n)) ∧ RtS S w0 w' b sb dg seed width sample { t with c := halfA t.c } :=
  h.count_ ho (fun A hs => (rsHalve hs).mono fun r w' ⟨hr, x⟩ => ⟨⟨_, hr⟩, x⟩)
theorem RtS.count (h : RtS S w0 w b sb dg seed width sample t) (key : Int) (k0 : 0 ≤ key) (k1 : key ≤ 18446744073709551615) :
    Calls Tryz.prog 132 #[.pointer (some ⟨sb, 0, none⟩), .int .u64 key] w fun r w' => r = .returned (.int .i64 (cntC t.c (pickN seed key width) : Int)) ∧ RtS S w0 w' b sb dg seed width sample t := by
  have h' := h
  obtain ⟨A, h, hA, hd, hk⟩ := h
  exact (rsCount h.sk key k0 k1).mono fun r w' ⟨hr, n, hw⟩ => ⟨hr, by rw [hw]; exact h'.drewN n⟩
theorem RtS.setN (h : RtS S w0 w b sb dg seed width sample t) (hb : S b) (n : Nat) (m : Int) (hm : m = (n : Int)) : RtS S w0 (w.setCell ⟨b, 2, none⟩ (.int .i64 m)) b sb dg seed width sample { t with n := n } := by
  subst hm
  obtain ⟨A, h, hA, hd, hk⟩ := h
  have k := (Keeps.refl (fun j => j = b) w).setCell (p := ⟨b, 2, none⟩) (.inl rfl) (.int .i64 (n : Int))
  refine ⟨A, ⟨(h.top.set 2 _).congr (fun i hi => ?_), Rep.keep h.sk h.own k (fun j x y => h.nb (y ▸ x)), h.own.grow k.size, h.door.keep k (fun x => h.top.ne h.door (by decide) x.symm), h.nb, h.nd, h.m1, h.m2, h.s0, h.s1⟩, hA, hd.elim .inl (fun y => .inr ⟨y.1, Nat.lt_of_lt_of_le y.2 k.size⟩), hk.trans k (fun j x => .inl (x ▸ hb))⟩
  have : i = 0 ∨ i = 1 ∨ i = 2 ∨ i = 3 := by omega
  rcases this with rfl | rfl | rfl | rfl <;> simp [rtF]
theorem RtS.put (h : RtS S w0 w b sb dg seed width sample t) (i : Nat) (hi : i < width) : RtS S w0 (w.setCell ⟨dg, i, none⟩ (.bool true)) b sb dg seed width sample { t with door := fun k => if k = i then true else t.door k } := by
  obtain ⟨A, h, hA, hd, hk⟩ := h
  have k := (Keeps.refl (fun j => j = dg) w).setCell (p := ⟨dg, i, none⟩) (.inl rfl) (.bool true)
  refine ⟨A, ⟨h.top.keep k (h.top.ne h.door (by decide)), Rep.keep h.sk h.own k (fun j x y => h.nd (y ▸ x)), h.own.grow k.size, (h.door.set i _).congr (fun j hj => ?_), h.nb, h.nd, h.m1, h.m2, h.s0, h.s1⟩, hA, hd.elim .inl (fun y => .inr ⟨y.1, Nat.lt_of_lt_of_le y.2 k.size⟩), hk.trans k (fun j x => x ▸ hd.elim .inl (fun y => .inr y.1))⟩
  by_cases e : j = i <;> simp [e]
/-- A new door: all of it is shut. -/
theorem RtS.anew (h : RtS S w0 w b sb dg seed width sample t) (ho : Own S w0) (hb : S b) (cs : Array Value) (hs : cs.size = width) (hc : ∀ i, i < width → cs[i]? = some (.bool false)) :
    RtS S w0 ((w.alloc (.cells cs 4)).setCell ⟨b, 1, none⟩ (.slice (some ⟨w.heap.size, 0, none⟩) width width)) b sb w.heap.size seed width sample { t with door := fun _ => false } := by
  obtain ⟨A, h, hA, hd, hk⟩ := h
  have hz := hk.size
  have k1 := (Keeps.refl (fun j => False) w).alloc (.cells cs 4)
  have k := (k1.mono (T := fun j => j = b) (fun _ _ x => x.elim)).setCell (p := ⟨b, 1, none⟩) (.inl rfl) (.slice (some ⟨w.heap.size, 0, none⟩) width width)
  have hlt := h.top.lt
  refine ⟨A, ⟨((h.top.past _).set 1 _).congr (fun i hi => ?_), Rep.keep h.sk h.own k (fun j x y => h.nb (y ▸ x)), h.own.grow k.size, Arr.far (Arr.made w _ _ _ cs hs hc) (by omega) _ _, h.nb, fun x => by have := h.own _ x; omega, h.m1, h.m2, h.s0, h.s1⟩, hA, .inr ⟨by omega, by simp⟩, hk.trans k (fun j x => .inl (x ▸ hb))⟩
  have : i = 0 ∨ i = 1 ∨ i = 2 ∨ i = 3 := by omega
  rcases this with rfl | rfl | rfl | rfl <;> simp [rtF]

theorem rt_think_pk (pk : Nat → Nat) (h : RtS S w w b sb dg seed width sample t) (hb : S b) (hn : t.n < sample) (key : Int) (hlt : pk 4 < width)
    (C : Calls Tryz.prog 132 #[.pointer (some ⟨sb, 0, none⟩), .int .u64 key] w fun r w' => r = .returned (.int .i64 (cntC t.c pk : Int)) ∧ RtS S w w' b sb dg seed width sample t)
    (BI : ∀ W : World, RtS S w W b sb dg seed width sample t → Calls Tryz.prog 133 #[.pointer (some ⟨b, 0, none⟩), .int .u64 key] W fun r w' => r = .returned (.int .i64 (pk 4 : Int)) ∧ ∃ n, w' = W.drewN n) :
    Calls Tryz.prog 78 #[.pointer (some ⟨b, 0, none⟩), .int .u64 key] w fun r w' => r = .returned (.int .i64 (thinkT pk t : Int)) ∧ RtO b seed width sample t (Ext S w w') w' ∧ Keeps S w w' := by
  have c0 := h.cell0
  have C := Lib.hid C
  have BI := Lib.hid BI
  have FIN := Lib.hid (fun (W : World) (x : RtS S w W b sb dg seed width sample t) => x.shut hb hn)
  have HS := Lib.hid (fun (W : World) (x : RtS S w W b sb dg seed width sample t) => x.doorc (pk 4) hlt)
  have hle := cntC_le t.c pk
  have HX : thinkT pk t = cntC t.c pk + if t.door (pk 4) then 1 else 0 := rfl
  generalize cntC t.c pk = cc at *
  have HXX := Lib.hid HX
  have hlt' : ((pk 4 : Nat) : Int) < (width : Int) := by omega
  clear h HX
  cases hdoor : t.door (pk 4)
  all_goals
    rw [hdoor] at HS HXX
    clear hdoor
    go_enter Tryz.func78, Tryz.ntmps78
    go_wp2_with fail
    refine C.out.mono ?_
    rintro e w1 ⟨rfl, g1⟩
    have c1 := g1.cell1
    have cd := HS.out _ g1
    have G1 := Lib.hid g1
    clear g1
    go_wp2_with fail
    go_quiet ((go_at_call 133; exact Calls.quiet_of (BI.out _ (G1.out.drewN _))))
    go_wp2
    go_ret
    refine ⟨ret_i64 ?_, FIN.out _ (G1.out.drewN _)⟩
    rw [HXX.out]; simp

theorem rt_think (h : RtO b seed width sample t S w) (ho : Own S w) (key : Int) (k0 : 0 ≤ key) (k1 : key ≤ 18446744073709551615) :
    Calls Tryz.prog 78 #[.pointer (some ⟨b, 0, none⟩), .int .u64 key] w fun r w' => r = .returned (.int .i64 (thinkT (pickN seed key width) t : Int)) ∧ RtO b seed width sample t (Ext S w w') w' ∧ Keeps S w w' := by
  obtain ⟨sb, dg, h, hb, hn⟩ := h.open_
  exact rt_think_pk _ h hb hn key (pickN_lt seed key width 4 h.wid.1) (h.count key k0 k1) (fun W x => x.bit key k0 k1)

theorem make_bools (L : Nat) (hL : L ≤ 4096) (W : World) : (Instr.makeSlice 162 (.int .i64 (L : Int)) (.int .i64 (L : Int))).run Tryz.prog W = .ok (.slice (some ⟨W.heap.size, 0, none⟩) L L) (W.alloc (.cells (madeCells #[.bool false] L) 4)) := by
  obtain ⟨i0, hi, hz0, hz1, hz2⟩ := info_parts (show (Tryz.prog.info? 4).map (fun i => (i.zero, i.size, i.bytes)) = some (some (.bool false), 1, 1) by kernel_rfl)
  have := run_make (P := Tryz.prog) (w := W) 162 4 i0 (.bool false) Tryz.underlying162 hi hz0 .i64 .i64 (L : Int) (L : Int) (by omega) (Int.le_refl _) (by rw [hz2]; omega) (by omega)
  rw [this, hz1]
  simp [Value.cells]

set_option maxHeartbeats 2000000 in
theorem rt_see_pk (pk : Nat → Nat) (h : RtS S w w b sb dg seed width sample t) (ho : Own S w) (hb : S b) (hn : t.n < sample) (key : Int) (hlt : pk 4 < width)
    (AD : ∀ (W : World) (t : TS), RtS S w W b sb dg seed width sample t → Calls Tryz.prog 165 #[.pointer (some ⟨sb, 0, none⟩), .int .u64 key] W fun r w' => (∃ n : Int, r = .returned (.int .i64 n)) ∧ RtS S w w' b sb dg seed width sample { t with c := addA t.c pk })
    (BI : ∀ (W : World) (t : TS), RtS S w W b sb dg seed width sample t → Calls Tryz.prog 133 #[.pointer (some ⟨b, 0, none⟩), .int .u64 key] W fun r w' => r = .returned (.int .i64 (pk 4 : Int)) ∧ ∃ n, w' = W.drewN n)
    (TH : ∀ (S : Nat → Prop) (W : World) (t : TS), RtO b seed width sample t S W → Own S W → Calls Tryz.prog 78 #[.pointer (some ⟨b, 0, none⟩), .int .u64 key] W fun r w' => r = .returned (.int .i64 (thinkT pk t : Int)) ∧ RtO b seed width sample t (Ext S W w') w' ∧ Keeps S W w') :
    Calls Tryz.prog 125 #[.pointer (some ⟨b, 0, none⟩), .int .u64 key] w fun r w' => r = .returned (.int .i64 (thinkT pk (seeT pk sample t) : Int)) ∧ RtO b seed width sample (seeT pk sample t) (Ext S w w') w' ∧ Keeps S w w' := by
  have c1 := h.cell1
  have cd := h.doorc (pk 4) hlt
  have BI := Lib.hid BI
  have BI2 : ∀ W : World, RtS S w W b sb dg seed width sample t → Calls Tryz.prog 133 #[.pointer (some ⟨b, 0, none⟩), .int .u64 key] W fun r w' => r = .returned (.int .i64 (pk 4 : Int)) ∧ RtS S w w' b sb dg seed width sample t :=
    fun W x => (BI.out W t x).mono fun r w' ⟨hr, n, hw⟩ => ⟨hr, by rw [hw]; exact x.drewN n⟩
  have BI2 := Lib.hid BI2
  have AD := Lib.hid AD
  have TH := Lib.hid TH
  have hm := h.wid
  have MB := Lib.hid (fun W => make_bools width (by omega) W)
  have HV := Lib.hid (fun (W : World) (t : TS) (x : RtS S w W b sb dg seed width sample t) => RtS.halve x ho)
  have PU := Lib.hid (fun (W : World) (t : TS) (x : RtS S w W b sb dg seed width sample t) => RtS.put x (pk 4) hlt)
  have AN := Lib.hid (fun (W : World) (t : TS) (x : RtS S w W b sb dg seed width sample t) => RtS.anew x ho hb (madeCells #[.bool false] width) (by simp [madeCells]) (fun i hi => madeCells_get _ _ _ hi))
  have FIN := Lib.hid (fun (W : World) (dg : Nat) (t : TS) (x : RtS S w W b sb dg seed width sample t) (hn : t.n < sample) => x.shut hb hn)
  have SN := Lib.hid (fun (W : World) (dg : Nat) (t : TS) (x : RtS S w W b sb dg seed width sample t) (n : Nat) (m : Int) (hm : m = (n : Int)) => RtS.setN x hb n m hm)
  have H := Lib.hid h
  have HO := Lib.hid ho
  have hn1 : (t.n : Int) + 1 ≤ 1048576 := by omega
  have hlt' : ((pk 4 : Nat) : Int) < (width : Int) := by omega
  have HLT := Lib.hid hlt
  clear h hb hlt
  have tail : ∀ (t2 : TS) (dg : Nat) (w3 : World), RtS S w w3 b sb dg seed width sample t2 → t2.n < sample → t2 = seeT pk sample t → Calls Tryz.prog 78 #[.pointer (some ⟨b, 0, none⟩), .int .u64 key] w3 fun r w' => r = .returned (.int .i64 (thinkT pk (seeT pk sample t) : Int)) ∧ RtO b seed width sample (seeT pk sample t) (Ext S w w') w' ∧ Keeps S w w' := by
    intro t2 dg w3 g hlt e2
    subst e2
    obtain ⟨o, k⟩ := FIN.out _ _ _ g hlt
    refine (TH.out _ _ _ o (HO.out.ext k.size)).mono fun r w' ⟨hr, o', k'⟩ => ⟨hr, Rep.mono o' (ext_trans k.size k'.size), k.extT k'⟩
  have TL := Lib.hid tail
  clear tail
  by_cases hs : t.n + 1 = sample
  · cases hdoor : t.door (pk 4)
    · have HSE : seeT pk sample t = seeT pk sample t := rfl
      conv at HSE => rhs; rw [seeT]
      rw [hdoor] at HSE cd
      have HDO := Lib.hid hdoor
      rw [if_pos hs] at HSE
      have HSS := Lib.hid HSE
      have hs1 : ((t.n : Int) + 1 == (sample : Int)) = true := beq_iff_eq.2 (by omega)
      have HHS := Lib.hid hs
      clear hdoor HSE hs
      go_enter Tryz.func125, Tryz.ntmps125
      go_wp2_with fail
      go_quiet ((go_at_call 133; exact Calls.quiet_of (BI.out _ _ (H.out.drewN _))))
      have g1 := H.out.drewN nq
      clear c1 cd
      generalize w.drewN nq = w1 at *
      have Z1 := Lib.hid g1.drew
      have c1 := g1.cell1
      have cd := g1.doorc (pk 4) HLT.out
      have fd := g1.doorf (pk 4)
      have FD := Lib.hid (fun (W : World) (x : RtS S w W b sb dg seed width sample t) => x.doorf (pk 4))
      have CD := Lib.hid (fun (W : World) (x : RtS S w W b sb dg seed width sample t) => x.doorc (pk 4) HLT.out)
      clear g1
      go_wp2_with fail
      go_region_held3 (fun w' => w'.cell? ⟨b, 1, none⟩ = some (.slice (some ⟨dg, 0, none⟩) width width)) (first | go_keep | exact z1 | exact z5) (first | (go_at_call 133; (with_reducible refine (BI2.out _ Z1.out).mono ?_); rintro e w2 ⟨rfl, g2⟩; have z1 := g2.cell1; have z2 := FD.out _ g2; have z3 := CD.out _ g2; have z5 := (PU.out _ _ g2).cell1))
      have g3 := PU.out _ _ g2
      clear g2 z1 z2 z3 z5 c1 cd fd
      generalize w2.setCell ⟨dg, pk 4, none⟩ (.bool true) = w3 at *
      have g3' := g3
      have c2 : w3.cell? ⟨b, 2, none⟩ = some (.int .i64 (t.n : Int)) := g3.cell2
      have f2 := g3.top.free 2
      have G3 := Lib.hid g3'
      clear g3 g3'
      go_wp2_with fail
      have g4 := SN.out _ _ _ G3.out (t.n + 1) ((t.n : Int) + 1) (by omega)
      clear c2 f2
      generalize w3.setCell ⟨b, 2, none⟩ (.int .i64 ((t.n : Int) + 1)) = w4 at *
      have c2 : w4.cell? ⟨b, 2, none⟩ = some (.int .i64 ((t.n : Int) + 1)) := g4.cell2
      have c3 := g4.cell3
      have G4 := Lib.hid g4
      have c0 := g4.cell0
      clear g4
      go_quiet (fail)
      clear c3 c2
      go_wp2_with fail
      refine (HV.out _ _ (G4.out.drewN _)).mono ?_
      rintro e w5 ⟨⟨n5, rfl⟩, g5⟩
      have G5 := Lib.hid g5
      have c5 := g5.cell0
      have c6 := g5.scells.2
      have c7 := g5.cell1
      have f7 := g5.top.free 1
      have M := MB.out
      have c7' : (w5.alloc (.cells (madeCells #[.bool false] width) 4)).cell? ⟨b, 1, none⟩ = some (.slice (some ⟨dg, 0, none⟩) width width) := (g5.top.past _).cell (i := 1) (by omega)
      have f7' : (w5.alloc (.cells (madeCells #[.bool false] width) 4)).frozen? ⟨b, 1, none⟩ = false := (g5.top.past _).free 1
      have g6 := AN.out _ _ g5
      have c8 : ((w5.alloc (.cells (madeCells #[.bool false] width) 4)).setCell ⟨b, 1, none⟩ (.slice (some ⟨w5.heap.size, 0, none⟩) width width)).cell? ⟨b, 2, none⟩ = some (.int .i64 ((t.n : Int) + 1)) := g6.cell2
      have f8 := g6.top.free 2
      have G6 := Lib.hid g6
      have HM := Lib.hid hm
      clear g5 c0 g6 hm hs1 hn1 hn hlt'
      go_wp2_with fail
      refine (TL.out _ _ _ (SN.out _ _ _ G6.out 0 0 rfl) (by have := HM.out; show 0 < sample; omega) ?_).mono ?_
      · rw [HSS.out]; simp
      rintro e w7 ⟨rfl, g7⟩
      go_wp2
      go_ret
      exact ⟨rfl, g7⟩
    · have HSE : seeT pk sample t = seeT pk sample t := rfl
      conv at HSE => rhs; rw [seeT]
      rw [hdoor] at HSE cd
      have HDO := Lib.hid hdoor
      rw [if_pos hs] at HSE
      have HSS := Lib.hid HSE
      have hs1 : ((t.n : Int) + 1 == (sample : Int)) = true := beq_iff_eq.2 (by omega)
      have HHS := Lib.hid hs
      clear hdoor HSE hs
      go_enter Tryz.func125, Tryz.ntmps125
      go_wp2_with fail
      go_quiet ((go_at_call 133; exact Calls.quiet_of (BI.out _ _ (H.out.drewN _))))
      have g1 := H.out.drewN nq
      clear c1 cd
      generalize w.drewN nq = w1 at *
      have G1 := Lib.hid g1
      have c0 := g1.cell0
      clear g1
      go_wp2_with fail
      refine (AD.out _ _ G1.out).mono ?_
      rintro e w3 ⟨⟨n3, rfl⟩, g3⟩
      clear c0
      have g3' : RtS S w w3 b sb dg seed width sample ⟨addA t.c pk, t.door, t.n⟩ := g3
      have c2 : w3.cell? ⟨b, 2, none⟩ = some (.int .i64 (t.n : Int)) := g3.cell2
      have f2 := g3.top.free 2
      have G3 := Lib.hid g3'
      clear g3 g3'
      go_wp2_with fail
      have g4 := SN.out _ _ _ G3.out (t.n + 1) ((t.n : Int) + 1) (by omega)
      clear c2 f2
      generalize w3.setCell ⟨b, 2, none⟩ (.int .i64 ((t.n : Int) + 1)) = w4 at *
      have c2 : w4.cell? ⟨b, 2, none⟩ = some (.int .i64 ((t.n : Int) + 1)) := g4.cell2
      have c3 := g4.cell3
      have G4 := Lib.hid g4
      have c0 := g4.cell0
      clear g4
      go_quiet (fail)
      clear c3 c2
      go_wp2_with fail
      refine (HV.out _ _ (G4.out.drewN _)).mono ?_
      rintro e w5 ⟨⟨n5, rfl⟩, g5⟩
      have G5 := Lib.hid g5
      have c5 := g5.cell0
      have c6 := g5.scells.2
      have c7 := g5.cell1
      have f7 := g5.top.free 1
      have M := MB.out
      have c7' : (w5.alloc (.cells (madeCells #[.bool false] width) 4)).cell? ⟨b, 1, none⟩ = some (.slice (some ⟨dg, 0, none⟩) width width) := (g5.top.past _).cell (i := 1) (by omega)
      have f7' : (w5.alloc (.cells (madeCells #[.bool false] width) 4)).frozen? ⟨b, 1, none⟩ = false := (g5.top.past _).free 1
      have g6 := AN.out _ _ g5
      have c8 : ((w5.alloc (.cells (madeCells #[.bool false] width) 4)).setCell ⟨b, 1, none⟩ (.slice (some ⟨w5.heap.size, 0, none⟩) width width)).cell? ⟨b, 2, none⟩ = some (.int .i64 ((t.n : Int) + 1)) := g6.cell2
      have f8 := g6.top.free 2
      have G6 := Lib.hid g6
      have HM := Lib.hid hm
      clear g5 c0 g6 hm hs1 hn1 hn hlt'
      go_wp2_with fail
      refine (TL.out _ _ _ (SN.out _ _ _ G6.out 0 0 rfl) (by have := HM.out; show 0 < sample; omega) ?_).mono ?_
      · rw [HSS.out]; simp
      rintro e w7 ⟨rfl, g7⟩
      go_wp2
      go_ret
      exact ⟨rfl, g7⟩
  · cases hdoor : t.door (pk 4)
    · have HSE : seeT pk sample t = seeT pk sample t := rfl
      conv at HSE => rhs; rw [seeT]
      rw [hdoor] at HSE cd
      have HDO := Lib.hid hdoor
      rw [if_neg hs] at HSE
      have HSS := Lib.hid HSE
      have hs1 : ((t.n : Int) + 1 == (sample : Int)) = false := beq_eq_false_iff_ne.2 (by omega)
      have HHS := Lib.hid hs
      clear hdoor HSE hs
      go_enter Tryz.func125, Tryz.ntmps125
      go_wp2_with fail
      go_quiet ((go_at_call 133; exact Calls.quiet_of (BI.out _ _ (H.out.drewN _))))
      have g1 := H.out.drewN nq
      clear c1 cd
      generalize w.drewN nq = w1 at *
      have Z1 := Lib.hid g1.drew
      have c1 := g1.cell1
      have cd := g1.doorc (pk 4) HLT.out
      have fd := g1.doorf (pk 4)
      have FD := Lib.hid (fun (W : World) (x : RtS S w W b sb dg seed width sample t) => x.doorf (pk 4))
      have CD := Lib.hid (fun (W : World) (x : RtS S w W b sb dg seed width sample t) => x.doorc (pk 4) HLT.out)
      clear g1
      go_wp2_with fail
      go_region_held3 (fun w' => w'.cell? ⟨b, 1, none⟩ = some (.slice (some ⟨dg, 0, none⟩) width width)) (first | go_keep | exact z1 | exact z5) (first | (go_at_call 133; (with_reducible refine (BI2.out _ Z1.out).mono ?_); rintro e w2 ⟨rfl, g2⟩; have z1 := g2.cell1; have z2 := FD.out _ g2; have z3 := CD.out _ g2; have z5 := (PU.out _ _ g2).cell1))
      have g3 := PU.out _ _ g2
      clear g2 z1 z2 z3 z5 c1 cd fd
      generalize w2.setCell ⟨dg, pk 4, none⟩ (.bool true) = w3 at *
      have g3' := g3
      have c2 : w3.cell? ⟨b, 2, none⟩ = some (.int .i64 (t.n : Int)) := g3.cell2
      have f2 := g3.top.free 2
      have G3 := Lib.hid g3'
      clear g3 g3'
      go_wp2_with fail
      have g4 := SN.out _ _ _ G3.out (t.n + 1) ((t.n : Int) + 1) (by omega)
      clear c2 f2
      generalize w3.setCell ⟨b, 2, none⟩ (.int .i64 ((t.n : Int) + 1)) = w4 at *
      have c2 : w4.cell? ⟨b, 2, none⟩ = some (.int .i64 ((t.n : Int) + 1)) := g4.cell2
      have c3 := g4.cell3
      have G4 := Lib.hid g4
      have c0 := g4.cell0
      clear g4
      go_quiet (fail)
      clear c3 c2 c0
      go_wp2_with fail
      refine (TL.out _ _ _ (G4.out.drewN _) (by have := HHS.out; show t.n + 1 < sample; omega) ?_).mono ?_
      · rw [HSS.out]; simp
      rintro e w5 ⟨rfl, g5⟩
      go_wp2
      go_ret
      exact ⟨rfl, g5⟩
    · have HSE : seeT pk sample t = seeT pk sample t := rfl
      conv at HSE => rhs; rw [seeT]
      rw [hdoor] at HSE cd
      have HDO := Lib.hid hdoor
      rw [if_neg hs] at HSE
      have HSS := Lib.hid HSE
      have hs1 : ((t.n : Int) + 1 == (sample : Int)) = false := beq_eq_false_iff_ne.2 (by omega)
      have HHS := Lib.hid hs
      clear hdoor HSE hs
      go_enter Tryz.func125, Tryz.ntmps125
      go_wp2_with fail
      go_quiet ((go_at_call 133; exact Calls.quiet_of (BI.out _ _ (H.out.drewN _))))
      have g1 := H.out.drewN nq
      clear c1 cd
      generalize w.drewN nq = w1 at *
      have G1 := Lib.hid g1
      have c0 := g1.cell0
      clear g1
      go_wp2_with fail
      refine (AD.out _ _ G1.out).mono ?_
      rintro e w3 ⟨⟨n3, rfl⟩, g3⟩
      clear c0
      have g3' : RtS S w w3 b sb dg seed width sample ⟨addA t.c pk, t.door, t.n⟩ := g3
      have c2 : w3.cell? ⟨b, 2, none⟩ = some (.int .i64 (t.n : Int)) := g3.cell2
      have f2 := g3.top.free 2
      have G3 := Lib.hid g3'
      clear g3 g3'
      go_wp2_with fail
      have g4 := SN.out _ _ _ G3.out (t.n + 1) ((t.n : Int) + 1) (by omega)
      clear c2 f2
      generalize w3.setCell ⟨b, 2, none⟩ (.int .i64 ((t.n : Int) + 1)) = w4 at *
      have c2 : w4.cell? ⟨b, 2, none⟩ = some (.int .i64 ((t.n : Int) + 1)) := g4.cell2
      have c3 := g4.cell3
      have G4 := Lib.hid g4
      have c0 := g4.cell0
      clear g4
      go_quiet (fail)
      clear c3 c2 c0
      go_wp2_with fail
      refine (TL.out _ _ _ (G4.out.drewN _) (by have := HHS.out; show t.n + 1 < sample; omega) ?_).mono ?_
      · rw [HSS.out]; simp only [if_true]; congr 1; funext k; by_cases e : k = pk 4
        · subst e; simp [HDO.out]
        · simp [e]
      rintro e w5 ⟨rfl, g5⟩
      go_wp2
      go_ret
      exact ⟨rfl, g5⟩

theorem rt_see (h : RtO b seed width sample t S w) (ho : Own S w) (key : Int) (k0 : 0 ≤ key) (k1 : key ≤ 18446744073709551615) :
    Calls Tryz.prog 125 #[.pointer (some ⟨b, 0, none⟩), .int .u64 key] w fun r w' => r = .returned (.int .i64 (thinkT (pickN seed key width) (seeT (pickN seed key width) sample t) : Int)) ∧ RtO b seed width sample (seeT (pickN seed key width) sample t) (Ext S w w') w' ∧ Keeps S w w' := by
  obtain ⟨sb, dg, h, hb, hn⟩ := h.open_
  exact rt_see_pk _ h ho hb hn key (pickN_lt seed key width 4 h.wid.1) (fun W t x => x.add ho key k0 k1) (fun W t x => x.bit key k0 k1) (fun S W t x o => rt_think x o key k0 k1)
end

theorem rt_mk {w wf : World} {b sb dg : Nat} {A : Nat → Prop} {seed : Int} {width sample : Nat} (top : Arr wf b 164 4 (rtF sb dg width 0 sample)) (sk : RsO sb seed width (fun _ _ => 0) A wf) (hA : ∀ k, A k → w.heap.size ≤ k ∧ k < wf.heap.size)
    (door : Arr wf dg 4 width (fun _ => .bool false)) (hb : w.heap.size ≤ b) (hd : w.heap.size ≤ dg) (nb : ¬ A b) (nd : ¬ A dg) (m1 : 1 ≤ sample) (m2 : sample ≤ 1048576) (s0 : 0 ≤ seed) (s1 : seed ≤ 18446744073709551615) : RtO b seed width sample newT (New w wf) wf :=
  ⟨sb, dg, A, ⟨top, sk, fun k x => (hA k x).2, door, nb, nd, m1, m2, s0, s1⟩, ⟨hb, top.lt⟩, ⟨hd, door.lt⟩, hA, by show 0 < sample; omega⟩

theorem rt_new (w : World) (width sample : Nat) (seed : Int) (h1 : 1 ≤ width) (h2 : width ≤ 4096) (m1 : 1 ≤ sample) (m2 : sample ≤ 1048576) (s0 : 0 ≤ seed) (s1 : seed ≤ 18446744073709551615) :
    Calls Tryz.prog 68 #[.int .i64 (width : Int), .int .i64 (sample : Int), .int .u64 seed] w fun r w' => ∃ b, r = .returned (.pointer (some ⟨b, 0, none⟩)) ∧
      RtO b seed width sample newT (New w w') w' ∧ Below w.heap.size w w' := by
  have N := Lib.hid (fun W => rsNew W width seed h1 h2 s0 s1)
  have M := fun W => make_bools width h2 W
  go_enter Tryz.func68, Tryz.ntmps68
  go_wp2_with fail
  go_region_held3 (fun w' => True) (first | trivial | go_keep) (first | (go_at_call 122; (with_reducible refine (N.out _).mono ?_); rintro e w1 ⟨rfl, g1, b1⟩))
  · go_wp2
    go_ret
    have z1 : w.heap.size < w1.heap.size := by
      obtain ⟨g, hr, _⟩ := g1
      exact hr.top.lt
    have bb : Below w.heap.size w w1 := ⟨b1.os, b1.tape, b1.output, b1.size, b1.block⟩
    have G1 : RsO w.heap.size seed width (fun _ _ => 0) (New w.drew w1) w1 := g1
    refine ⟨_, rfl, rt_mk (sb := w.heap.size) (dg := w1.heap.size) (A := New w.drew w1) ⟨_, heap_at _ _ _ (by simp), rfl, fun i hi => ?_⟩ (Rep.keep G1 (new_own _ _) (((Keeps.refl (fun _ => False) w1).alloc _).alloc _) (fun _ _ x => x)) (fun k x => ⟨x.1, by have := x.2; simp only [World.size_alloc]; omega⟩) ((Arr.made w1 _ _ (.bool false) _ (by simp [madeCells]) (fun i hi => madeCells_get _ _ _ hi)).past _) (by omega) (by omega) (fun x => by have := x.2; omega) (fun x => by have := x.2; omega) m1 m2 s0 s1, (bb.alloc bb.size _).alloc (by rw [World.size_alloc]; omega) _⟩
    have : i = 0 ∨ i = 1 ∨ i = 2 ∨ i = 3 := by omega
    rcases this with rfl | rfl | rfl | rfl <;> rfl
  · go_wp2
    go_ret
    have z0 : (w.alloc (Obj.cells (madeCells #[Value.bool false] width) 4)).drew.heap.size = w.heap.size + 1 := World.size_alloc _ _
    have bb := b1
    rw [z0] at bb g1
    have b2 : Below w.heap.size w (w.alloc (Obj.cells (madeCells #[Value.bool false] width) 4)).drew := ((Below.refl w.heap.size w).alloc (Nat.le_refl _) _).drew
    have b3 := b2.trans (bb.mono (Nat.le_succ _))
    have k1 : Keeps (fun j => w.heap.size + 1 ≤ j) (w.alloc (Obj.cells (madeCells #[Value.bool false] width) 4)).drew w1 := Keeps.of_below bb
    have d1 : Arr w1 w.heap.size 4 width (fun _ => .bool false) := Arr.keep (w := (w.alloc (Obj.cells (madeCells #[Value.bool false] width) 4)).drew) (Arr.made w _ _ (.bool false) _ (by simp [madeCells]) (fun i hi => madeCells_get _ _ _ hi)) k1 (by omega)
    have z1 : w.heap.size + 1 < w1.heap.size := by
      obtain ⟨g, hr, _⟩ := g1
      exact hr.top.lt
    refine ⟨_, rfl, rt_mk (sb := w.heap.size + 1) (dg := w.heap.size) (A := New (w.alloc (Obj.cells (madeCells #[Value.bool false] width) 4)).drew w1) ⟨_, heap_at _ _ _ rfl, rfl, fun i hi => ?_⟩ (Rep.keep g1 (new_own _ _) ((Keeps.refl (fun _ => False) w1).alloc _) (fun _ _ x => x)) (fun k x => ⟨by have := x.1; rw [z0] at this; omega, by have := x.2; simp only [World.size_alloc]; omega⟩) (d1.past _) (by omega) (by omega) (fun x => by have := x.2; omega) (fun x => by have := x.1; rw [z0] at this; omega) m1 m2 s0 s1, b3.alloc b3.size _⟩
    have : i = 0 ∨ i = 1 ∨ i = 2 ∨ i = 3 := by omega
    rcases this with rfl | rfl | rfl | rfl <;> rfl

end Go.Proofs.YtdbgehplmllgdaaGreat
