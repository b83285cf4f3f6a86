/- The program's filter: walks of New, Think, See, Seen. -/
import Derived.Test.YtbgknopjgohocaaGreatZB
import Derived.Test.YtbgknopjgohocaaGreatBt
namespace Go.Proofs.YtbgknopjgohocaaGreat
open Go.RowKit
set_option linter.unusedVariables false

/-- What a filter knows: counters, a door, how many were seen. -/
structure TS where
  c : Nat → Nat → Nat
  door : Nat → Bool
  n : Nat

/-- What is thought of a key: pk are its places. -/
def thinkT (pk : Nat → Nat) (t : TS) : Nat := cntC t.c pk + if t.door (pk 4) then 1 else 0
def seeT (pk : Nat → Nat) (sample : Nat) (t : TS) : TS :=
  let c := if t.door (pk 4) then addA t.c pk else t.c
  if t.n + 1 = sample then ⟨halfA c, fun _ => false, 0⟩ else ⟨c, fun i => if i = pk 4 then true else t.door i, t.n + 1⟩
def newT : TS := ⟨fun _ _ => 0, fun _ => false, 0⟩

def tiF (sb d : Nat) (seed : Int) (n sample : Nat) : Nat → Value
  | 0 => .pointer (some ⟨sb, 0, none⟩)
  | 1 => .pointer (some ⟨d, 0, none⟩)
  | 2 => .int .u64 seed
  | 3 => .int .i64 (n : Int)
  | _ => .int .i64 (sample : Int)

/-- The program's filter at block b: its parts. -/
structure Ti (w : World) (b sb d e L : Nat) (D : Nat → Nat) (A : Nat → Prop) (seed : Int) (width sample : Nat) (t : TS) : Prop where
  top : Arr w b 139 5 (tiF sb d seed t.n sample)
  sk : SkO sb seed width t.c A w
  own : Own A w
  bt : Bt w d e width L D
  door : ∀ i, i < width → bitD D i = t.door i
  nb : ¬ A b
  nd : ¬ A d
  ne : ¬ A e
  m1 : 1 ≤ sample
  m2 : sample ≤ 1048576
  s0 : 0 ≤ seed
  s1 : seed ≤ 18446744073709551615

def TiO (b : Nat) (seed : Int) (width sample : Nat) (t : TS) (S : Nat → Prop) (w : World) : Prop :=
  ∃ sb d e L D A, Ti w b sb d e L D A seed width sample t ∧ S b ∧ S d ∧ S e ∧ (∀ k, A k → S k) ∧ t.n < sample

theorem Ti.keep {T : Nat → Prop} {w w' : World} {b sb d e L : Nat} {D : Nat → Nat} {A : Nat → Prop} {seed : Int} {width sample : Nat} {t : TS} (h : Ti w b sb d e L D A seed width sample t) (k : Keeps T w w') (tb : ¬ T b) (td : ¬ T d) (te : ¬ T e) (tA : ∀ k, A k → ¬ T k) : Ti w' b sb d e L D A seed width sample t :=
  { h with top := h.top.keep k tb, sk := Rep.keep h.sk h.own k tA, own := h.own.grow k.size, bt := h.bt.keep k td te }

instance (b : Nat) (seed : Int) (width sample : Nat) (t : TS) : Rep (TiO b seed width sample t) where
  keep := fun ⟨sb, d, e, L, D, A, h, hb, hd, he, hA, hn⟩ _ k ht => ⟨sb, d, e, L, D, A, h.keep k (ht _ hb) (ht _ hd) (ht _ he) (fun j hj => ht _ (hA j hj)), hb, hd, he, hA, hn⟩
  mono := fun ⟨sb, d, e, L, D, A, h, hb, hd, he, hA, hn⟩ hs => ⟨sb, d, e, L, D, A, h, hs _ hb, hs _ hd, hs _ he, fun k x => hs _ (hA k x), hn⟩

section
variable {S : Nat → Prop} {w : World} {b sb d e L : Nat} {D : Nat → Nat} {A : Nat → Prop} {seed : Int} {width sample : Nat} {t : TS}

theorem Ti.drewN (h : Ti w b sb d e L D A seed width sample t) (n : Nat) : Ti (w.drewN n) b sb d e L D A seed width sample t :=
  h.keep ((Keeps.refl (fun _ => False) w).drewN n) (fun x => x) (fun x => x) (fun x => x) (fun _ _ x => x)

theorem ti_real (h : Ti w b sb d e L D A seed width sample t) :
    Calls Tryz.prog 77 #[.pointer (some ⟨b, 0, none⟩)] w fun e w' => e = .returned (.bool true) ∧ w = w' := by
  have c4 : w.cell? ⟨b, 4, none⟩ = some (.int .i64 (sample : Int)) := h.top.cell (i := 4) (by omega)
  have h1 : (0 : Int) < (sample : Int) := by have := h.m1; omega
  have h2 : 0 < sample := by omega
  clear h
  go_enter Tryz.func77, Tryz.ntmps77
  go_wp2
  go_ret
  exact ⟨rfl, rfl⟩

theorem ti_bit (h : Ti w b sb d e L D A seed width sample t) (key : Int) (k0 : 0 ≤ key) (k1 : key ≤ 18446744073709551615) :
    Calls Tryz.prog 79 #[.pointer (some ⟨b, 0, none⟩), .int .u64 key] w fun e w' => e = .returned (.int .i64 (pickN seed key width 4 : Int)) ∧ ∃ n, w' = w.drewN n := by
  have c1 : w.cell? ⟨b, 1, none⟩ = some (.pointer (some ⟨d, 0, none⟩)) := h.top.cell (i := 1) (by omega)
  have c2 : w.cell? ⟨b, 2, none⟩ = some (.int .u64 seed) := h.top.cell (i := 2) (by omega)
  have N := Lib.hid (fun (W : World) (x : Bt W d e width L D) => bt_len x)
  have B := Lib.hid (fun n => h.bt.drewN n)
  have P := Lib.hid (fun W => pick_any seed key 4 (width : Int) h.s0 h.s1 k0 k1 (by omega) (by omega) (by have := h.bt.n1; omega) (by have := h.bt.n2; omega) W)
  have E := Lib.hid (pickN_int seed key width 4 h.bt.n1)
  clear h
  go_enter Tryz.func79, Tryz.ntmps79
  go_wp2_with fail
  go_quiet ((first | (go_at_call 105; exact quiet_left (N.out _ (B.out _))) | (go_at_call 104; exact quiet_left (P.out _))))
  go_wp2
  go_ret
  refine ⟨ret_i64 ?_, _, rfl⟩
  rw [← E.out]; rfl

theorem cntC_le (c : Nat → Nat → Nat) (pk : Nat → Nat) : cntC c pk ≤ 15 := least_le _ _
theorem thinkT_le (pk : Nat → Nat) (t : TS) : thinkT pk t ≤ 16 := by
  have := cntC_le t.c pk
  unfold thinkT; split <;> omega

/-- On the way: the filter at b, its parts' blocks, since the world w0. -/
def TiS (S : Nat → Prop) (w0 w : World) (b sb d e L : Nat) (seed : Int) (width sample : Nat) (t : TS) : Prop :=
  ∃ D A, Ti w b sb d e L D A seed width sample t ∧ (∀ k, A k → Ext S w0 w k) ∧ Keeps S w0 w

theorem TiO.open_ (h : TiO b seed width sample t S w) : ∃ sb d e L, TiS S w w b sb d e L seed width sample t ∧ S b ∧ S d ∧ S e ∧ t.n < sample := by
  obtain ⟨sb, d, e, L, D, A, h, hb, hd, he, hA, hn⟩ := h
  exact ⟨sb, d, e, L, ⟨D, A, h, fun k x => .inl (hA k x), Keeps.refl _ _⟩, hb, hd, he, hn⟩

variable {w0 : World}
theorem TiS.shut (h : TiS S w0 w b sb d e L seed width sample t) (hb : S b) (hd : S d) (he : S e) (hn : t.n < sample) : TiO b seed width sample t (Ext S w0 w) w ∧ Keeps S w0 w := by
  obtain ⟨D, A, h, hA, hk⟩ := h
  exact ⟨⟨sb, d, e, L, D, A, h, .inl hb, .inl hd, .inl he, hA, hn⟩, hk⟩
theorem TiS.drewN (h : TiS S w0 w b sb d e L seed width sample t) (n : Nat) : TiS S w0 (w.drewN n) b sb d e L seed width sample t := by
  obtain ⟨D, A, h, hA, hk⟩ := h
  exact ⟨D, A, h.drewN n, hA, hk.drewN n⟩
theorem TiS.drew (h : TiS S w0 w b sb d e L seed width sample t) : TiS S w0 w.drew b sb d e L seed width sample t := h.drewN 1
theorem TiS.top (h : TiS S w0 w b sb d e L seed width sample t) : Arr w b 139 5 (tiF sb d seed t.n sample) := by
  obtain ⟨D, A, h, hA, hk⟩ := h
  exact h.top
theorem TiS.wid (h : TiS S w0 w b sb d e L seed width sample t) : 1 ≤ width ∧ width ≤ 4096 ∧ 1 ≤ sample ∧ sample ≤ 1048576 := by
  obtain ⟨D, A, h, hA, hk⟩ := h
  exact ⟨h.bt.n1, h.bt.n2, h.m1, h.m2⟩

theorem TiS.bit (h : TiS S w0 w b sb d e L seed width sample t) (key : Int) (k0 : 0 ≤ key) (k1 : key ≤ 18446744073709551615) :
    Calls Tryz.prog 79 #[.pointer (some ⟨b, 0, none⟩), .int .u64 key] w fun e w' => e = .returned (.int .i64 (pickN seed key width 4 : Int)) ∧ ∃ n, w' = w.drewN n := by
  obtain ⟨D, A, h, hA, hk⟩ := h
  exact ti_bit h key k0 k1
theorem TiS.bit' (h : TiS S w0 w b sb d e L seed width sample t) (key : Int) (k0 : 0 ≤ key) (k1 : key ≤ 18446744073709551615) :
    Calls Tryz.prog 79 #[.pointer (some ⟨b, 0, none⟩), .int .u64 key] w fun r w' => r = .returned (.int .i64 (pickN seed key width 4 : Int)) ∧ TiS S w0 w' b sb d e L seed width sample t :=
  (h.bit key k0 k1).mono fun e w' ⟨he, n, hw⟩ => ⟨he, by rw [hw]; exact h.drewN n⟩
theorem TiS.cell1 (h : TiS S w0 w b sb d e L seed width sample t) : w.cell? ⟨b, 1, none⟩ = some (.pointer (some ⟨d, 0, none⟩)) := h.top.cell (i := 1) (by omega)
theorem TiS.cell0 (h : TiS S w0 w b sb d e L seed width sample t) : w.cell? ⟨b, 0, none⟩ = some (.pointer (some ⟨sb, 0, none⟩)) := h.top.cell (i := 0) (by omega)
theorem TiS.cell3 (h : TiS S w0 w b sb d e L seed width sample t) : w.cell? ⟨b, 3, none⟩ = some (.int .i64 (t.n : Int)) := h.top.cell (i := 3) (by omega)
theorem TiS.cell4 (h : TiS S w0 w b sb d e L seed width sample t) : w.cell? ⟨b, 4, none⟩ = some (.int .i64 (sample : Int)) := h.top.cell (i := 4) (by omega)
theorem TiS.has (h : TiS S w0 w b sb d e L seed width sample t) (i : Nat) (hi : i < width) :
    Calls Tryz.prog 103 #[.pointer (some ⟨d, 0, none⟩), .int .i64 (i : Int)] w fun e w' => e = .returned (.bool (t.door i)) ∧ w = w' := by
  obtain ⟨D, A, h, hA, hk⟩ := h
  rw [← h.door i hi]
  exact bt_has h.bt i hi
theorem TiS.real (h : TiS S w0 w b sb d e L seed width sample t) :
    Calls Tryz.prog 77 #[.pointer (some ⟨b, 0, none⟩)] w fun e w' => e = .returned (.bool true) ∧ w = w' := by
  obtain ⟨D, A, h, hA, hk⟩ := h
  exact ti_real h

/-- The door's words turn. -/
theorem TiS.door_ (ho : Own S w0) (he : S e) (h : TiS S w0 w b sb d e L seed width sample t) {V : Ending → Prop} {f : FuncId} {args : Array Value} {door : Nat → Bool}
    (hc : ∀ D, Bt w d e width L D → (∀ i, i < width → bitD D i = t.door i) → Calls Tryz.prog f args w fun r w' => V r ∧ (∃ D', Bt w' d e width L D' ∧ ∀ i, i < width → bitD D' i = door i) ∧ Keeps (fun k => k = e) w w') :
    Calls Tryz.prog f args w fun r w' => V r ∧ TiS S w0 w' b sb d e L seed width sample { t with door := door } := by
  obtain ⟨D, A, h, hA, hk⟩ := h
  refine (hc D h.bt h.door).mono fun r w' ⟨hr, ⟨D', hb, hd⟩, k⟩ => ⟨hr, D', A, ⟨h.top.keep k (h.top.ne h.bt.row (by decide)), Rep.keep h.sk h.own k (fun j x y => h.ne (y ▸ x)), h.own.grow k.size, hb, hd, h.nb, h.nd, h.ne, h.m1, h.m2, h.s0, h.s1⟩, fun j x => (hA j x).elim .inl (fun y => .inr ⟨y.1, Nat.lt_of_lt_of_le y.2 k.size⟩), hk.trans k (fun j x => .inl (x ▸ he))⟩
theorem TiS.put (ho : Own S w0) (he : S e) (h : TiS S w0 w b sb d e L seed width sample t) (i : Nat) (hi : i < width) :
    Calls Tryz.prog 78 #[.pointer (some ⟨d, 0, none⟩), .int .i64 (i : Int)] w fun r w' => r = .returned (.bool (!t.door i)) ∧ TiS S w0 w' b sb d e L seed width sample { t with door := fun k => if k = i then true else t.door k } :=
  TiS.door_ ho he h (fun D hb hd => (bt_put hb i hi).mono fun r w' ⟨hr, hb', k⟩ => ⟨by rw [hr, hd i hi], ⟨_, hb', fun k hk => by
    rw [hd i hi]
    by_cases e : k = i
    · subst e
      cases hx : t.door k
      · simp [bitD_put]
      · simp [hd k hk, hx]
    · cases hx : t.door i
      · simp [bitD_put, e, hd k hk]
      · simp [e, hd k hk]⟩, k⟩)
theorem TiS.clear (ho : Own S w0) (he : S e) (h : TiS S w0 w b sb d e L seed width sample t) :
    Calls Tryz.prog 82 #[.pointer (some ⟨d, 0, none⟩)] w fun r w' => r = .returned (.tuple #[]) ∧ TiS S w0 w' b sb d e L seed width sample { t with door := fun _ => false } :=
  TiS.door_ ho he h (fun D hb hd => (bt_clear hb).mono fun r w' ⟨hr, hb', k⟩ => ⟨hr, ⟨_, hb', fun k hk => by simp [bitD]⟩, k⟩)

/-- The counters turn. -/
theorem TiS.count_ (ho : Own S w0) (h : TiS S w0 w b sb d e L seed width sample t) {V : Ending → Prop} {f : FuncId} {args : Array Value} {c : Nat → Nat → Nat}
    (hc : ∀ A, SkO sb seed width t.c A w → Calls Tryz.prog f args w fun r w' => V r ∧ SkO sb seed width c (Ext A w w') w' ∧ Keeps A w w') :
    Calls Tryz.prog f args w fun r w' => V r ∧ TiS S w0 w' b sb d e L seed width sample { t with c := c } := by
  obtain ⟨D, A, h, hA, hk⟩ := h
  refine (hc A h.sk).mono fun r w' ⟨hr, hs, k⟩ => ⟨hr, D, Ext A w w', ⟨h.top.keep k h.nb, hs, h.own.ext k.size, h.bt.keep k h.nd h.ne, h.door, ?_, ?_, ?_, h.m1, h.m2, h.s0, h.s1⟩, ?_, hk.trans k (fun j x => (hA j x).elim .inl (fun y => .inr y.1))⟩
  · rintro (x | x)
    · exact h.nb x
    · have := h.top.lt; omega
  · rintro (x | x)
    · exact h.nd x
    · have := h.bt.top.lt; omega
  · rintro (x | x)
    · exact h.ne x
    · have := h.bt.row.lt; omega
  · intro j x
    have h1 := hk.size
    have h2 := k.size
    rcases x with x | x
    · rcases hA j x with y | y
      · exact .inl y
      · exact .inr ⟨y.1, by omega⟩
    · exact .inr ⟨by omega, x.2⟩
theorem TiS.count (ho : Own S w0) (h : TiS S w0 w b sb d e L seed width sample t) (key : Int) (k0 : 0 ≤ key) (k1 : key ≤ 18446744073709551615) :
    Calls Tryz.prog 109 #[.pointer (some ⟨sb, 0, none⟩), .int .u64 key] w fun r w' => r = .returned (.int .i64 (cntC t.c (pickN seed key width) : Int)) ∧ TiS S w0 w' b sb d e L seed width sample t :=
  TiS.count_ ho h (fun A hs => skCount hs key k0 k1)
theorem TiS.add (ho : Own S w0) (h : TiS S w0 w b sb d e L seed width sample t) (key : Int) (k0 : 0 ≤ key) (k1 : key ≤ 18446744073709551615) :
    Calls Tryz.prog 80 #[.pointer (some ⟨sb, 0, none⟩), .int .u64 key] w fun r w' => (∃ n : Int, r = .returned (.int .i64 n)) ∧ TiS S w0 w' b sb d e L seed width sample { t with c := addA t.c (pickN seed key width) } :=
  TiS.count_ ho h (fun A hs => (skAdd hs key k0 k1).mono fun r w' ⟨hr, x⟩ => ⟨⟨_, hr⟩, x⟩)
theorem TiS.halve (ho : Own S w0) (h : TiS S w0 w b sb d e L seed width sample t) :
    Calls Tryz.prog 81 #[.pointer (some ⟨sb, 0, none⟩)] w fun r w' => (∃ n : Int, r = .returned (.int .i64 n)) ∧ TiS S w0 w' b sb d e L seed width sample { t with c := halfA t.c } :=
  TiS.count_ ho h (fun A hs => (skHalve hs).mono fun r w' ⟨hr, x⟩ => ⟨⟨_, hr⟩, x⟩)
theorem TiS.setN (ho : Own S w0) (hb : S b) (h : TiS S w0 w b sb d e L seed width sample t) (n : Nat) (m : Int) (hm : m = (n : Int)) : TiS S w0 (w.setCell ⟨b, 3, none⟩ (.int .i64 m)) b sb d e L seed width sample { t with n := n } := by
  subst hm
  obtain ⟨D, A, h, hA, hk⟩ := h
  have k := (Keeps.refl (fun j => j = b) w).setCell (p := ⟨b, 3, none⟩) (.inl rfl) (.int .i64 (n : Int))
  refine ⟨D, A, ⟨(h.top.set 3 _).congr (fun i hi => ?_), Rep.keep h.sk h.own k (fun j x y => h.nb (y ▸ x)), h.own.grow k.size, h.bt.keep k (fun x => h.top.ne h.bt.top (by decide) x.symm) (fun x => h.top.ne h.bt.row (by decide) x.symm), h.door, h.nb, h.nd, h.ne, h.m1, h.m2, h.s0, h.s1⟩, fun j x => (hA j x).elim .inl (fun y => .inr ⟨y.1, Nat.lt_of_lt_of_le y.2 k.size⟩), hk.trans k (fun j x => .inl (x ▸ hb))⟩
  have : i = 0 ∨ i = 1 ∨ i = 2 ∨ i = 3 ∨ i = 4 := by omega
  rcases this with rfl | rfl | rfl | rfl | rfl <;> simp [tiF]

theorem ti_think (h : TiO b seed width sample t S w) (ho : Own S w) (key : Int) (k0 : 0 ≤ key) (k1 : key ≤ 18446744073709551615) :
    Calls Tryz.prog 83 #[.pointer (some ⟨b, 0, none⟩), .int .u64 key] w fun e w' => e = .returned (.int .i64 (thinkT (pickN seed key width) t : Int)) ∧ TiO b seed width sample t (Ext S w w') w' ∧ Keeps S w w' := by
  obtain ⟨sb, d, e, L, h, hb, hd, he, hn⟩ := h.open_
  have c0 : w.cell? ⟨b, 0, none⟩ = some (.pointer (some ⟨sb, 0, none⟩)) := h.top.cell (i := 0) (by omega)
  have R := Lib.hid h.real
  have hlt := pickN_lt seed key width 4 h.wid.1
  have C := Lib.hid (TiS.count ho h key k0 k1)
  have BI := Lib.hid (fun (W : World) (x : TiS S w W b sb d e L seed width sample t) => TiS.bit x key k0 k1)
  have FIN := Lib.hid (fun (W : World) (x : TiS S w W b sb d e L seed width sample t) => x.shut hb hd he hn)
  generalize hpk : pickN seed key width = pk at *
  have HS := Lib.hid (fun (W : World) (x : TiS S w W b sb d e L seed width sample t) => TiS.has x (pk 4) hlt)
  have hle := cntC_le t.c pk
  have HX : thinkT pk t = cntC t.c pk + if t.door (pk 4) then 1 else 0 := rfl
  generalize cntC t.c pk = cc at *
  have HXX := Lib.hid HX
  clear h hlt HX hpk
  cases hdoor : t.door (pk 4)
  all_goals
    rw [hdoor] at HS HXX
    clear hdoor
    go_enter Tryz.func83, Tryz.ntmps83
    go_wp2_with fail
    refine R.out.mono ?_
    rintro e w' ⟨rfl, rfl⟩
    go_wp2_with fail
    refine C.out.mono ?_
    rintro e w1 ⟨rfl, g1⟩
    have c1 : w1.cell? ⟨b, 1, none⟩ = some (.pointer (some ⟨d, 0, none⟩)) := g1.top.cell (i := 1) (by omega)
    have G1 := Lib.hid g1
    clear g1
    go_wp2_with fail
    go_quiet ((first | (go_at_call 79; exact Calls.quiet_of (BI.out _ (G1.out.drewN _))) | (go_at_call 103; exact quiet_left (HS.out _ (G1.out.drewN _)))))
    go_wp2
    go_ret
    refine ⟨ret_i64 ?_, FIN.out _ (G1.out.drewN _)⟩
    rw [HXX.out]; simp


theorem ti_see (h : TiO b seed width sample t S w) (ho : Own S w) (key : Int) (k0 : 0 ≤ key) (k1 : key ≤ 18446744073709551615) :
    Calls Tryz.prog 61 #[.pointer (some ⟨b, 0, none⟩), .int .u64 key] w fun e w' => e = .returned (.int .i64 (thinkT (pickN seed key width) (seeT (pickN seed key width) sample t) : Int)) ∧ TiO b seed width sample (seeT (pickN seed key width) sample t) (Ext S w w') w' ∧ Keeps S w w' := by
  obtain ⟨sb, d, e, L, h, hb, hd, he, hn⟩ := h.open_
  have c1 : w.cell? ⟨b, 1, none⟩ = some (.pointer (some ⟨d, 0, none⟩)) := h.top.cell (i := 1) (by omega)
  have R := Lib.hid h.real
  have hlt := pickN_lt seed key width 4 h.wid.1
  have BI := Lib.hid (fun (W : World) (t : TS) (x : TiS S w W b sb d e L seed width sample t) => TiS.bit' x key k0 k1)
  have PU := Lib.hid (fun (W : World) (t : TS) (x : TiS S w W b sb d e L seed width sample t) => TiS.put ho he x (pickN seed key width 4) hlt)
  have PU1 := Lib.hid (fun (W : World) (x : TiS S w W b sb d e L seed width sample t) => TiS.put ho he x (pickN seed key width 4) hlt)
  have AD := Lib.hid (fun (W : World) (t : TS) (x : TiS S w W b sb d e L seed width sample t) => TiS.add ho x key k0 k1)
  have HV := Lib.hid (fun (W : World) (t : TS) (x : TiS S w W b sb d e L seed width sample t) => TiS.halve ho x)
  have CL := Lib.hid (fun (W : World) (t : TS) (x : TiS S w W b sb d e L seed width sample t) => TiS.clear ho he x)
  have TH := Lib.hid (fun (S : Nat → Prop) (W : World) (t : TS) (x : TiO b seed width sample t S W) (ho : Own S W) => ti_think x ho key k0 k1)
  have FIN := Lib.hid (fun (W : World) (t : TS) (x : TiS S w W b sb d e L seed width sample t) (hn : t.n < sample) => x.shut hb hd he hn)
  have SN := Lib.hid (fun (W : World) (t : TS) (x : TiS S w W b sb d e L seed width sample t) (n : Nat) (m : Int) (hm : m = (n : Int)) => TiS.setN ho hb x n m hm)
  have hm := h.wid.2.2
  generalize pickN seed key width = pk at *
  have H := Lib.hid h
  have HO := Lib.hid ho
  have hn1 : (t.n : Int) + 1 ≤ 1048576 := by omega
  clear h hlt hb hd he
  have tail : ∀ (t2 : TS) (w3 : World), TiS S w w3 b sb d e L seed width sample t2 → t2.n < sample → t2 = seeT pk sample t → Calls Tryz.prog 83 #[.pointer (some ⟨b, 0, none⟩), .int .u64 key] w3 fun r w' => r = .returned (.int .i64 (thinkT pk (seeT pk sample t) : Int)) ∧ TiO b seed width sample (seeT pk sample t) (Ext S w w') w' ∧ Keeps S w w' := by
    intro t2 w3 g hlt e2
    subst e2
    obtain ⟨o, k⟩ := FIN.out _ _ g hlt
    refine (TH.out _ _ _ o (HO.out.ext k.size)).mono fun r w' ⟨hr, o', k'⟩ => ⟨hr, Rep.mono o' (ext_trans k.size k'.size), k.extT k'⟩
  have TL := Lib.hid tail
  clear tail
  by_cases hs : t.n + 1 = sample
  · cases hdoor : t.door (pk 4)
    · have HSE : seeT pk sample t = seeT pk sample t := rfl
      conv at HSE => rhs; rw [seeT]
      rw [hdoor] at PU1 HSE
      rw [if_pos hs] at HSE
      have HSS := Lib.hid HSE
      have hs1 : decide ((sample : Int) ≤ (t.n : Int) + 1) = true := decide_eq_true (by omega)
      have HHS := Lib.hid hs
      clear hdoor HSE hs
      go_enter Tryz.func61, Tryz.ntmps61
      go_wp2_with fail
      refine R.out.mono ?_
      rintro e w' ⟨rfl, rfl⟩
      go_wp2_with fail
      have Z1 := Lib.hid H.out.drew
      go_region_held3 (fun w' => w'.cell? ⟨b, 1, none⟩ = some (.pointer (some ⟨d, 0, none⟩))) (first | go_keep | exact z1 | exact z2) (first | (go_at_call 79; (with_reducible refine (BI.out _ _ Z1.out).mono ?_); rintro e w1 ⟨rfl, g1⟩; have z1 := g1.cell1) | (go_at_call 78; (with_reducible refine (PU1.out _ g1).mono ?_); rintro e w2 ⟨rfl, g2⟩; have z2 := g2.cell1))
      have G2 := Lib.hid g2
      have c0 := g2.cell0
      have c3 : w2.cell? ⟨b, 3, none⟩ = some (.int .i64 (t.n : Int)) := g2.cell3
      have f3 := g2.top.free 3
      clear g1 g2 z1 z2 c1 c0
      go_wp2_with fail
      have g4 := SN.out _ _ G2.out (t.n + 1) ((t.n : Int) + 1) (by omega)
      clear c3 f3
      generalize w2.setCell ⟨b, 3, none⟩ (.int .i64 ((t.n : Int) + 1)) = w4 at *
      have c3 : w4.cell? ⟨b, 3, none⟩ = some (.int .i64 ((t.n : Int) + 1)) := g4.cell3
      have c4 := g4.cell4
      have G4 := Lib.hid g4
      have c0 := g4.cell0
      clear g4
      go_quiet (fail)
      clear c3 c4
      go_wp2_with fail
      refine (HV.out _ _ (G4.out.drewN _)).mono ?_
      rintro e w5 ⟨⟨n5, rfl⟩, g5⟩
      have G5 := Lib.hid g5
      have c1 := g5.cell1
      clear g5 c0
      go_wp2_with fail
      refine (CL.out _ _ G5.out).mono ?_
      rintro e w6 ⟨rfl, g6⟩
      have G6 := Lib.hid g6
      have c3 : w6.cell? ⟨b, 3, none⟩ = some (.int .i64 ((t.n : Int) + 1)) := g6.cell3
      have f3 := g6.top.free 3
      clear g6 c1
      go_wp2_with fail
      refine (TL.out _ _ (SN.out _ _ G6.out 0 0 rfl) (by have := hm.1; show 0 < sample; omega) ?_).mono ?_
      · rw [HSS.out]; simp
      rintro e w7 ⟨rfl, g7⟩
      go_wp2
      go_ret
      exact ⟨rfl, g7⟩
    · have HSE : seeT pk sample t = seeT pk sample t := rfl
      conv at HSE => rhs; rw [seeT]
      rw [hdoor] at PU1 HSE
      rw [if_pos hs] at HSE
      have HSS := Lib.hid HSE
      have hs1 : decide ((sample : Int) ≤ (t.n : Int) + 1) = true := decide_eq_true (by omega)
      have HHS := Lib.hid hs
      clear hdoor HSE hs
      go_enter Tryz.func61, Tryz.ntmps61
      go_wp2_with fail
      refine R.out.mono ?_
      rintro e w' ⟨rfl, rfl⟩
      go_wp2_with fail
      have Z1 := Lib.hid H.out.drew
      go_region_held3 (fun w' => w'.cell? ⟨b, 1, none⟩ = some (.pointer (some ⟨d, 0, none⟩))) (first | go_keep | exact z1 | exact z2) (first | (go_at_call 79; (with_reducible refine (BI.out _ _ Z1.out).mono ?_); rintro e w1 ⟨rfl, g1⟩; have z1 := g1.cell1) | (go_at_call 78; (with_reducible refine (PU1.out _ g1).mono ?_); rintro e w2 ⟨rfl, g2⟩; have z2 := g2.cell1))
      have G2 := Lib.hid g2
      have c0 := g2.cell0
      clear g1 g2 z1 z2 c1
      go_wp2_with fail
      refine (AD.out _ _ G2.out).mono ?_
      rintro e w3 ⟨⟨n3, rfl⟩, g3⟩
      have G3 := Lib.hid g3
      have c3 : w3.cell? ⟨b, 3, none⟩ = some (.int .i64 (t.n : Int)) := g3.cell3
      have f3 := g3.top.free 3
      clear g3 c0
      go_wp2_with fail
      have g4 := SN.out _ _ G3.out (t.n + 1) ((t.n : Int) + 1) (by omega)
      clear c3 f3
      generalize w3.setCell ⟨b, 3, none⟩ (.int .i64 ((t.n : Int) + 1)) = w4 at *
      have c3 : w4.cell? ⟨b, 3, none⟩ = some (.int .i64 ((t.n : Int) + 1)) := g4.cell3
      have c4 := g4.cell4
      have G4 := Lib.hid g4
      have c0 := g4.cell0
      clear g4
      go_quiet (fail)
      clear c3 c4
      go_wp2_with fail
      refine (HV.out _ _ (G4.out.drewN _)).mono ?_
      rintro e w5 ⟨⟨n5, rfl⟩, g5⟩
      have G5 := Lib.hid g5
      have c1 := g5.cell1
      clear g5 c0
      go_wp2_with fail
      refine (CL.out _ _ G5.out).mono ?_
      rintro e w6 ⟨rfl, g6⟩
      have G6 := Lib.hid g6
      have c3 : w6.cell? ⟨b, 3, none⟩ = some (.int .i64 ((t.n : Int) + 1)) := g6.cell3
      have f3 := g6.top.free 3
      clear g6 c1
      go_wp2_with fail
      refine (TL.out _ _ (SN.out _ _ G6.out 0 0 rfl) (by have := hm.1; show 0 < sample; omega) ?_).mono ?_
      · rw [HSS.out]; simp
      rintro e w7 ⟨rfl, g7⟩
      go_wp2
      go_ret
      exact ⟨rfl, g7⟩
  · cases hdoor : t.door (pk 4)
    · have HSE : seeT pk sample t = seeT pk sample t := rfl
      conv at HSE => rhs; rw [seeT]
      rw [hdoor] at PU1 HSE
      rw [if_neg hs] at HSE
      have HSS := Lib.hid HSE
      have hs1 : decide ((sample : Int) ≤ (t.n : Int) + 1) = false := decide_eq_false (by omega)
      have HHS := Lib.hid hs
      clear hdoor HSE hs
      go_enter Tryz.func61, Tryz.ntmps61
      go_wp2_with fail
      refine R.out.mono ?_
      rintro e w' ⟨rfl, rfl⟩
      go_wp2_with fail
      have Z1 := Lib.hid H.out.drew
      go_region_held3 (fun w' => w'.cell? ⟨b, 1, none⟩ = some (.pointer (some ⟨d, 0, none⟩))) (first | go_keep | exact z1 | exact z2) (first | (go_at_call 79; (with_reducible refine (BI.out _ _ Z1.out).mono ?_); rintro e w1 ⟨rfl, g1⟩; have z1 := g1.cell1) | (go_at_call 78; (with_reducible refine (PU1.out _ g1).mono ?_); rintro e w2 ⟨rfl, g2⟩; have z2 := g2.cell1))
      have G2 := Lib.hid g2
      have c0 := g2.cell0
      have c3 : w2.cell? ⟨b, 3, none⟩ = some (.int .i64 (t.n : Int)) := g2.cell3
      have f3 := g2.top.free 3
      clear g1 g2 z1 z2 c1 c0
      go_wp2_with fail
      have g4 := SN.out _ _ G2.out (t.n + 1) ((t.n : Int) + 1) (by omega)
      clear c3 f3
      generalize w2.setCell ⟨b, 3, none⟩ (.int .i64 ((t.n : Int) + 1)) = w4 at *
      have c3 : w4.cell? ⟨b, 3, none⟩ = some (.int .i64 ((t.n : Int) + 1)) := g4.cell3
      have c4 := g4.cell4
      have G4 := Lib.hid g4
      have c0 := g4.cell0
      clear g4
      go_quiet (fail)
      clear c3 c4 c0
      go_wp2_with fail
      refine (TL.out _ _ (G4.out.drewN _) (by have := HHS.out; show t.n + 1 < sample; omega) ?_).mono ?_
      · rw [HSS.out]; simp
      rintro e w5 ⟨rfl, g5⟩
      go_wp2
      go_ret
      exact ⟨rfl, g5⟩
    · have HSE : seeT pk sample t = seeT pk sample t := rfl
      conv at HSE => rhs; rw [seeT]
      rw [hdoor] at PU1 HSE
      rw [if_neg hs] at HSE
      have HSS := Lib.hid HSE
      have hs1 : decide ((sample : Int) ≤ (t.n : Int) + 1) = false := decide_eq_false (by omega)
      have HHS := Lib.hid hs
      clear hdoor HSE hs
      go_enter Tryz.func61, Tryz.ntmps61
      go_wp2_with fail
      refine R.out.mono ?_
      rintro e w' ⟨rfl, rfl⟩
      go_wp2_with fail
      have Z1 := Lib.hid H.out.drew
      go_region_held3 (fun w' => w'.cell? ⟨b, 1, none⟩ = some (.pointer (some ⟨d, 0, none⟩))) (first | go_keep | exact z1 | exact z2) (first | (go_at_call 79; (with_reducible refine (BI.out _ _ Z1.out).mono ?_); rintro e w1 ⟨rfl, g1⟩; have z1 := g1.cell1) | (go_at_call 78; (with_reducible refine (PU1.out _ g1).mono ?_); rintro e w2 ⟨rfl, g2⟩; have z2 := g2.cell1))
      have G2 := Lib.hid g2
      have c0 := g2.cell0
      clear g1 g2 z1 z2 c1
      go_wp2_with fail
      refine (AD.out _ _ G2.out).mono ?_
      rintro e w3 ⟨⟨n3, rfl⟩, g3⟩
      have G3 := Lib.hid g3
      have c3 : w3.cell? ⟨b, 3, none⟩ = some (.int .i64 (t.n : Int)) := g3.cell3
      have f3 := g3.top.free 3
      clear g3 c0
      go_wp2_with fail
      have g4 := SN.out _ _ G3.out (t.n + 1) ((t.n : Int) + 1) (by omega)
      clear c3 f3
      generalize w3.setCell ⟨b, 3, none⟩ (.int .i64 ((t.n : Int) + 1)) = w4 at *
      have c3 : w4.cell? ⟨b, 3, none⟩ = some (.int .i64 ((t.n : Int) + 1)) := g4.cell3
      have c4 := g4.cell4
      have G4 := Lib.hid g4
      have c0 := g4.cell0
      clear g4
      go_quiet (fail)
      clear c3 c4 c0
      go_wp2_with fail
      refine (TL.out _ _ (G4.out.drewN _) (by have := HHS.out; show t.n + 1 < sample; omega) ?_).mono ?_
      · rw [HSS.out]; simp
      rintro e w5 ⟨rfl, g5⟩
      go_wp2
      go_ret
      exact ⟨rfl, g5⟩
end

theorem ti_new (w : World) (width sample : Nat) (seed : Int) (h1 : 1 ≤ width) (h2 : width ≤ 4096) (m1 : 1 ≤ sample) (m2 : sample ≤ 1048576) (s0 : 0 ≤ seed) (s1 : seed ≤ 18446744073709551615) :
    Calls Tryz.prog 54 #[.int .i64 (width : Int), .int .i64 (sample : Int), .int .u64 seed] w fun r w' => ∃ b, r = .returned (.tuple #[.pointer (some ⟨b, 0, none⟩), .int .i64 0]) ∧
      TiO b seed width sample newT (New w w') w' ∧ Below w.heap.size w w' := by
  have N := Lib.hid (skNew w width seed h1 h2 s0 s1)
  have B := Lib.hid (fun W => bt_new W width h1 h2)
  have a1 : ¬ (sample : Int) < 1 := by omega
  have a2 : ¬ (1048576 : Int) < (sample : Int) := by omega
  go_enter Tryz.func54, Tryz.ntmps54
  go_wp2_with fail
  refine N.out.mono ?_
  rintro e w1 ⟨rfl, g1, b1⟩
  have G1 := Lib.hid g1
  have B1 := Lib.hid b1
  clear g1 b1
  go_wp2_with fail
  refine (B.out _).mono ?_
  rintro e w2 ⟨rfl, g2, b2, hz⟩
  have G2 := Lib.hid g2
  have B2 := Lib.hid b2
  have HZ := Lib.hid hz
  clear g2 b2 hz
  go_wp2
  go_ret2
  have b3 := (B1.out.trans (B2.out.mono B1.out.size)).alloc (Nat.le_trans B1.out.size B2.out.size) (.cells #[.pointer (some ⟨w.heap.size, 0, none⟩), .pointer (some ⟨w1.heap.size + 1, 0, none⟩), .int .u64 seed, .int .i64 0, .int .i64 (sample : Int)] 139)
  have k2 : Keeps (fun j => w1.heap.size ≤ j) w1 w2 := Keeps.of_below B2.out
  have k3 := k2.alloc (.cells #[.pointer (some ⟨w.heap.size, 0, none⟩), .pointer (some ⟨w1.heap.size + 1, 0, none⟩), .int .u64 seed, .int .i64 0, .int .i64 (sample : Int)] 139)
  have z1 := B1.out.size
  have z2 := HZ.out
  have k4 : Keeps (fun j => False) w2 (w2.alloc (.cells #[.pointer (some ⟨w.heap.size, 0, none⟩), .pointer (some ⟨w1.heap.size + 1, 0, none⟩), .int .u64 seed, .int .i64 0, .int .i64 (sample : Int)] 139)) := (Keeps.refl _ _).alloc _
  refine ⟨_, rfl, ⟨w.heap.size, w1.heap.size + 1, w1.heap.size, _, _, New w w1, ⟨⟨_, heap_at _ _ _ rfl, rfl, fun i hi => ?_⟩, Rep.keep G1.out (new_own _ _) k3 (fun k x => by have := x.2; omega), fun k x => ?_, G2.out.keep k4 (fun x => x) (fun x => x), fun i hi => by simp [bitD, newT], ?_, ?_, ?_, m1, m2, s0, s1⟩, ?_, ?_, ?_, fun k x => ?_, by show 0 < sample; omega⟩, b3⟩
  · have : i = 0 ∨ i = 1 ∨ i = 2 ∨ i = 3 ∨ i = 4 := by omega
    rcases this with rfl | rfl | rfl | rfl | rfl <;> rfl
  · have := x.2; rw [World.size_alloc]; omega
  · intro x; have := x.2; omega
  · intro x; have := x.2; omega
  · intro x; have := x.2; omega
  · exact ⟨by omega, by rw [World.size_alloc]; omega⟩
  · exact ⟨by omega, by rw [World.size_alloc]; omega⟩
  · exact ⟨by omega, by rw [World.size_alloc]; omega⟩
  · exact ⟨x.1, by have := x.2; rw [World.size_alloc]; omega⟩

end Go.Proofs.YtbgknopjgohocaaGreat
