/- The program's order of slots: walks of New, Enter, Touch, Leave, Protected, Victim, Len, Cap. -/
import Derived.Test.YtbgknopjgohocaaGreatZD
import Derived.Test.YtbgknopjgohocaaGreatZA
namespace Go.Proofs.YtbgknopjgohocaaGreat
open Go.RowKit Fl
set_option linter.unusedVariables false

def slF (lb n most : Nat) : Nat → Value
  | 0 => .pointer (some ⟨lb, 0, none⟩)
  | 1 => .int .i64 (n : Int)
  | _ => .int .i64 (most : Int)

/-- On the way: the order at b, its lists at lb, since the world w0. -/
def SlS (S : Nat → Prop) (w0 w : World) (b lb g q n most : Nat) (t : LS) : Prop :=
  Arr w b 144 3 (slF lb n most) ∧ Li w lb g q n 2 t ∧ Keeps S w0 w

/-- An order: low and high, of each the one first that goes first. -/
def SlO (b n most : Nat) (low high : List Nat) (S : Nat → Prop) (w : World) : Prop :=
  ∃ lb g q t, Arr w b 144 3 (slF lb n most) ∧ Li w lb g q n 2 t ∧ (t.rows 0).reverse = low ∧ (t.rows 1).reverse = high ∧ most ≤ 2147483648 ∧ S b ∧ S lb ∧ S g ∧ S q

instance (b n most : Nat) (low high : List Nat) : Rep (SlO b n most low high) where
  keep := fun ⟨lb, g, q, t, ha, hl, h0, h1, hm, hb, hlb, hg, hq⟩ _ k ht => ⟨lb, g, q, t, ha.keep k (ht _ hb), hl.keep k (ht _ hlb) (ht _ hg) (ht _ hq), h0, h1, hm, hb, hlb, hg, hq⟩
  mono := fun ⟨lb, g, q, t, ha, hl, h0, h1, hm, hb, hlb, hg, hq⟩ hs => ⟨lb, g, q, t, ha, hl, h0, h1, hm, hs _ hb, hs _ hlb, hs _ hg, hs _ hq⟩

/-! ### Plain laws on rows -/
theorem wo_append (m : Nat) (a b : List Nat) : wo m (a ++ b) = wo m a ++ wo m b := by simp [wo]
theorem wo_reverse (m : Nat) (l : List Nat) : (wo m l).reverse = wo m l.reverse := by simp [wo, List.filter_reverse]

theorem push_rows {n K k m j : Nat} {t : LS} (h : LInv n K t) (hk : k < K) (hm : m < n) (hj : j < K) :
    (pushS n t k m).rows j = if j = k then m :: wo m (t.rows k) else wo m (t.rows j) := by
  unfold pushS
  by_cases ht : 0 < t.tg m
  · rw [if_pos ht]
    show (if j = k then m :: wo m (t.rows k) else wo m (t.rows j)) = _
    rfl
  · rw [if_neg ht]
    have hnot : ∀ i, i < K → m ∉ t.rows i := fun i hi hx => by have := (h.mem i hi m hm).1 hx; omega
    show (if j = k then m :: t.rows k else t.rows j) = _
    rw [wo_not (hnot k hk), wo_not (hnot j hj)]
theorem push_inv {n K k m : Nat} {t : LS} (h : LInv n K t) (hk : k < K) (hm : m < n) : LInv n K (pushS n t k m) := by
  unfold pushS
  by_cases ht : 0 < t.tg m
  · rw [if_pos ht]; exact link_inv (unlink_inv h hm ht) hk hm (up1_at _ _ _)
  · rw [if_neg ht]; exact link_inv h hk hm (by omega)

theorem nodup_rev {l : List Nat} (h : l.Nodup) : l.reverse.Nodup := by
  unfold List.Nodup at h ⊢
  rw [List.pairwise_reverse]; exact h.imp (fun hab => Ne.symm hab)

/-- Which numbers an order has: none twice. -/
structure OInv (n : Nat) (low high : List Nat) : Prop where
  l1 : low.Nodup
  h1 : high.Nodup
  apart : ∀ x, x ∈ low → x ∉ high
  ll : ∀ x ∈ low, x < n
  hl : ∀ x ∈ high, x < n
theorem oinv_of {n : Nat} {t : LS} (h : LInv n 2 t) : OInv n (t.rows 0).reverse (t.rows 1).reverse :=
  ⟨nodup_rev (h.nod 0 (by omega)), nodup_rev (h.nod 1 (by omega)), fun x a b => by
    rw [List.mem_reverse] at a b
    have hx := h.lt 0 (by omega) x a
    have h1 := (h.mem 0 (by omega) x hx).1 a
    have h2 := (h.mem 1 (by omega) x hx).1 b
    omega, fun x a => h.lt 0 (by omega) x (List.mem_reverse.1 a), fun x a => h.lt 1 (by omega) x (List.mem_reverse.1 a)⟩
theorem SlO.oinv {b n most : Nat} {low high : List Nat} {S : Nat → Prop} {w : World} (h : SlO b n most low high S w) : OInv n low high := by
  obtain ⟨lb, g, q, t, ha, hl, h0, h1, _⟩ := h
  rw [← h0, ← h1]; exact oinv_of hl.inv
theorem SlO.small {b n most : Nat} {low high : List Nat} {S : Nat → Prop} {w : World} (h : SlO b n most low high S w) : n ≤ 1024 ∧ most ≤ 2147483648 := by
  obtain ⟨lb, g, q, t, ha, hl, h0, h1, hm, _⟩ := h
  exact ⟨hl.n2, hm⟩

theorem tag_low {n m : Nat} {t : LS} (h : LInv n 2 t) (hm : m < n) : (m ∈ (t.rows 0).reverse ↔ t.tg m = 1) ∧ (m ∈ (t.rows 1).reverse ↔ t.tg m = 2) ∧ t.tg m ≤ 2 :=
  ⟨by rw [List.mem_reverse]; exact h.mem 0 (by omega) m hm, by rw [List.mem_reverse]; exact h.mem 1 (by omega) m hm, h.tle m hm⟩

section
variable {S : Nat → Prop} {w0 w : World} {b lb g q n most : Nat} {t : LS}

theorem SlS.c0 (h : SlS S w0 w b lb g q n most t) : w.cell? ⟨b, 0, none⟩ = some (.pointer (some ⟨lb, 0, none⟩)) := h.1.cell (i := 0) (by omega)
theorem SlS.c2 (h : SlS S w0 w b lb g q n most t) : w.cell? ⟨b, 2, none⟩ = some (.int .i64 (most : Int)) := h.1.cell (i := 2) (by omega)
theorem SlS.drewN (h : SlS S w0 w b lb g q n most t) (k : Nat) : SlS S w0 (w.drewN k) b lb g q n most t :=
  ⟨h.1.drewN k, h.2.1.keep ((Keeps.refl (fun _ => False) w).drewN k) (fun x => x) (fun x => x) (fun x => x), h.2.2.drewN k⟩

/-- What turns the lists alone. -/
theorem SlS.turn (hg : S g) (hq : S q) (h : SlS S w0 w b lb g q n most t) {V : Ending → Prop} {f : FuncId} {args : Array Value} {t' : LS}
    (hc : Calls Tryz.prog f args w fun e w' => V e ∧ Li w' lb g q n 2 t' ∧ Keeps (fun j => j = g ∨ j = q) w w') : Calls Tryz.prog f args w fun e w' => V e ∧ SlS S w0 w' b lb g q n most t' :=
  hc.mono fun e w' ⟨he, hl, hk⟩ => ⟨he, h.1.keep hk (fun x => x.elim (fun e => h.1.ne h.2.1.nod (by decide) e) (fun e => h.1.ne h.2.1.many (by decide) e)), hl, h.2.2.trans hk (fun j x => x.elim (fun e => .inl (e ▸ hg)) (fun e => .inl (e ▸ hq)))⟩

theorem sl_real (h : SlS S w0 w b lb g q n most t) :
    Calls Tryz.prog 86 #[.pointer (some ⟨b, 0, none⟩)] w fun e w' => e = .returned (.bool true) ∧ w = w' := by
  have c0 := h.c0
  clear h
  go_enter Tryz.func86, Tryz.ntmps86
  go_wp2
  go_ret
  exact ⟨rfl, rfl⟩

theorem SlO.open_ {low high : List Nat} (h : SlO b n most low high S w) : ∃ lb g q t, SlS S w w b lb g q n most t ∧ (t.rows 0).reverse = low ∧ (t.rows 1).reverse = high ∧ most ≤ 2147483648 ∧ S b ∧ S lb ∧ S g ∧ S q := by
  obtain ⟨lb, g, q, t, ha, hl, h0, h1, hm, hS⟩ := h
  exact ⟨lb, g, q, t, ⟨ha, hl, Keeps.refl _ _⟩, h0, h1, hm, hS⟩
theorem SlS.shut {low high : List Nat} (h : SlS S w0 w b lb g q n most t) (h0 : (t.rows 0).reverse = low) (h1 : (t.rows 1).reverse = high) (hm : most ≤ 2147483648) (hb : S b) (hlb : S lb) (hg : S g) (hq : S q) : SlO b n most low high (Ext S w0 w) w ∧ Keeps S w0 w :=
  ⟨⟨lb, g, q, t, h.1, h.2.1, h0, h1, hm, .inl hb, .inl hlb, .inl hg, .inl hq⟩, h.2.2⟩

theorem sl_enter {low high : List Nat} (h : SlO b n most low high S w) (m : Nat) (hm : m < n) :
    Calls Tryz.prog 97 #[.pointer (some ⟨b, 0, none⟩), .int .i64 (m : Int)] w fun e w' => e = .returned (.bool true) ∧ SlO b n most (wo m low ++ [m]) (wo m high) (Ext S w w') w' ∧ Keeps S w w' := by
  obtain ⟨lb, g, q, t, h, h0, h1, hmo, hb, hlb, hg, hq⟩ := h.open_
  have c0 := h.c0
  have R := Lib.hid (sl_real h)
  have P : Calls Tryz.prog 88 #[.pointer (some ⟨lb, 0, none⟩), .int .i64 0, .int .i64 (m : Int)] w fun e w' => e = .returned (.bool true) ∧ SlS S w w' b lb g q n most (pushS n t 0 m) := SlS.turn hg hq h (li_push h.2.1 0 m (by omega) hm)
  have P := Lib.hid P
  have F := Lib.hid (fun (w' : World) (x : SlS S w w' b lb g q n most (pushS n t 0 m)) => x.shut (low := wo m low ++ [m]) (high := wo m high) (by rw [push_rows h.2.1.inv (by omega) hm (by omega), if_pos rfl, List.reverse_cons, wo_reverse, h0]) (by rw [push_rows h.2.1.inv (by omega) hm (by omega), if_neg (by omega), wo_reverse, h1]) hmo hb hlb hg hq)
  clear h h0 h1
  go_enter Tryz.func97, Tryz.ntmps97
  go_wp2_with fail
  refine R.out.mono ?_
  rintro e w' ⟨rfl, rfl⟩
  go_wp2_with fail
  refine P.out.mono ?_
  rintro e w1 ⟨rfl, g1⟩
  have G1 := Lib.hid g1
  clear g1
  go_wp2
  go_ret
  exact ⟨rfl, F.out _ G1.out⟩

theorem sl_enter_no {low high : List Nat} (h : SlO b n most low high S w) (m : Int) (hm : ¬ (0 ≤ m ∧ m < n)) :
    Calls Tryz.prog 97 #[.pointer (some ⟨b, 0, none⟩), .int .i64 m] w fun e w' => e = .returned (.bool false) ∧ w = w' := by
  obtain ⟨lb, g, q, t, h, h0, h1, hmo, hb, hlb, hg, hq⟩ := h.open_
  have c0 := h.c0
  have R := Lib.hid (sl_real h)
  have P : Calls Tryz.prog 88 #[.pointer (some ⟨lb, 0, none⟩), .int .i64 0, .int .i64 m] w fun e w' => e = .returned (.bool false) ∧ w = w' := li_push_no h.2.1 0 m (by omega) hm
  have P := Lib.hid P
  clear h h0 h1 hm
  go_enter Tryz.func97, Tryz.ntmps97
  go_wp2_with fail
  refine R.out.mono ?_
  rintro e w' ⟨rfl, rfl⟩
  go_wp2_with fail
  refine P.out.mono ?_
  rintro e w' ⟨rfl, rfl⟩
  go_wp2
  go_ret
  exact ⟨rfl, rfl⟩

theorem sl_leave {low high : List Nat} (h : SlO b n most low high S w) (m : Nat) (hm : m < n) (hin : m ∈ low ∨ m ∈ high) :
    Calls Tryz.prog 119 #[.pointer (some ⟨b, 0, none⟩), .int .i64 (m : Int)] w fun e w' => e = .returned (.bool true) ∧ SlO b n most (wo m low) (wo m high) (Ext S w w') w' ∧ Keeps S w w' := by
  obtain ⟨lb, g, q, t, h, h0, h1, hmo, hb, hlb, hg, hq⟩ := h.open_
  have c0 := h.c0
  have R := Lib.hid (sl_real h)
  have ht : 0 < t.tg m := by
    obtain ⟨a, c, _⟩ := tag_low h.2.1.inv hm
    rw [h0] at a; rw [h1] at c
    rcases hin with x | x
    · have := a.1 x; omega
    · have := c.1 x; omega
  have P := Lib.hid (SlS.turn hg hq h (li_remove h.2.1 m hm ht))
  have F := Lib.hid (fun (w' : World) (x : SlS S w w' b lb g q n most (unlinkS t m)) => x.shut (low := wo m low) (high := wo m high) (by show (wo m (t.rows 0)).reverse = _; rw [wo_reverse, h0]) (by show (wo m (t.rows 1)).reverse = _; rw [wo_reverse, h1]) hmo hb hlb hg hq)
  clear h h0 h1
  go_enter Tryz.func119, Tryz.ntmps119
  go_wp2_with fail
  refine R.out.mono ?_
  rintro e w' ⟨rfl, rfl⟩
  go_wp2_with fail
  refine P.out.mono ?_
  rintro e w1 ⟨rfl, g1⟩
  have G1 := Lib.hid g1
  clear g1
  go_wp2
  go_ret
  exact ⟨rfl, F.out _ G1.out⟩

theorem sl_leave_none {low high : List Nat} (h : SlO b n most low high S w) (m : Nat) (hm : m < n) (hin : ¬ (m ∈ low ∨ m ∈ high)) :
    Calls Tryz.prog 119 #[.pointer (some ⟨b, 0, none⟩), .int .i64 (m : Int)] w fun e w' => e = .returned (.bool false) ∧ w = w' := by
  obtain ⟨lb, g, q, t, h, h0, h1, hmo, hb, hlb, hg, hq⟩ := h.open_
  have c0 := h.c0
  have R := Lib.hid (sl_real h)
  have ht : t.tg m = 0 := by
    obtain ⟨a, c, d⟩ := tag_low h.2.1.inv hm
    rw [h0] at a; rw [h1] at c
    have h1 : t.tg m ≠ 1 := fun e => hin (.inl (a.2 e))
    have h2 : t.tg m ≠ 2 := fun e => hin (.inr (c.2 e))
    omega
  have P := Lib.hid (li_remove_none h.2.1 m hm ht)
  clear h h0 h1 ht hin
  go_enter Tryz.func119, Tryz.ntmps119
  go_wp2_with fail
  refine R.out.mono ?_
  rintro e w' ⟨rfl, rfl⟩
  go_wp2_with fail
  refine P.out.mono ?_
  rintro e w' ⟨rfl, rfl⟩
  go_wp2
  go_ret
  exact ⟨rfl, rfl⟩

theorem sl_leave_no {low high : List Nat} (h : SlO b n most low high S w) (m : Int) (hm : ¬ (0 ≤ m ∧ m < n)) :
    Calls Tryz.prog 119 #[.pointer (some ⟨b, 0, none⟩), .int .i64 m] w fun e w' => e = .returned (.bool false) ∧ w = w' := by
  obtain ⟨lb, g, q, t, h, h0, h1, hmo, hb, hlb, hg, hq⟩ := h.open_
  have c0 := h.c0
  have R := Lib.hid (sl_real h)
  have P := Lib.hid (li_remove_no h.2.1 m hm)
  clear h h0 h1 hm
  go_enter Tryz.func119, Tryz.ntmps119
  go_wp2_with fail
  refine R.out.mono ?_
  rintro e w' ⟨rfl, rfl⟩
  go_wp2_with fail
  refine P.out.mono ?_
  rintro e w' ⟨rfl, rfl⟩
  go_wp2
  go_ret
  exact ⟨rfl, rfl⟩

/-- Is a number in a row? -/
def inI (m : Int) (l : List Nat) : Bool := decide (0 ≤ m) && decide (m.toNat ∈ l)
theorem inI_nat (m : Nat) (l : List Nat) : inI (m : Int) l = decide (m ∈ l) := by simp [inI]
theorem inI_out {m : Int} {n : Nat} {l : List Nat} (h : ∀ x ∈ l, x < n) (hm : ¬ (0 ≤ m ∧ m < n)) : inI m l = false := by
  unfold inI
  by_cases h0 : 0 ≤ m
  · have : m.toNat ∉ l := fun x => by have := h _ x; omega
    simp [this]
  · simp [h0]

end

end Go.Proofs.YtbgknopjgohocaaGreat
