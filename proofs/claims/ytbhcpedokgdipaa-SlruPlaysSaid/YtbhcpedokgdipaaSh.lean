/- The document's order of slots: its two rows; Has, Leave. -/
import Derived.Test.YtbhcpedokgdipaaSg
import Derived.Maps.AppendAt
namespace Go.Proofs.Ytbhcpedokgdipaa
open Go.RowKit Fl
set_option linter.unusedVariables false

def rfF (n most : Nat) (vl vh : Value) : Nat → Value
  | 0 => .int .i64 (n : Int)
  | 1 => .int .i64 (most : Int)
  | 2 => vl
  | _ => vh

/-- A row of numbers that is its holder's own. -/
abbrev RowO (w : World) (v : Value) (l : List Nat) : Prop := w.ownsRow 0 3 1 v l.length (l.map intV)
theorem own_base {w : World} {base : Nat} {e : TypeId} {size : Nat} {v : Value} {n : Nat} {xs : List Value} (h : w.ownsRow base e size v n xs) : w.ownsRow 0 e size v n xs :=
  ⟨h.1, h.2.imp id (fun ⟨g, cap, cur, ev, hb, r⟩ => ⟨g, cap, cur, ev, Nat.zero_le _, r⟩)⟩
theorem own_ne {w : World} {b L : Nat} {t : TypeId} {F : Nat → Value} (h : Arr w b t L F) {base : Nat} {e : TypeId} {size : Nat} {v : Value} {n : Nat} {xs : List Value} (r : w.ownsRow base e size v n xs) (ht : t ≠ e) : ∀ j, v.ownBlock = some j → j ≠ b := fun j ej => by
  rcases r.2 with ⟨rfl, _⟩ | ⟨g, cap, cur, rfl, _, hh, _⟩
  · simp [Value.ownBlock] at ej
  · obtain rfl : g = j := by simpa [Value.ownBlock] using ej
    rintro rfl
    obtain ⟨cs, hc, _⟩ := h
    rw [hh] at hc
    simp at hc
    exact ht hc.2.symm

/-- The document's order on the way, since the world w0. -/
structure RfV (S : Nat → Prop) (w0 w : World) (b n most : Nat) (vl vh : Value) (low high : List Nat) : Prop where
  top : Arr w b 108 4 (rfF n most vl vh)
  lo : RowO w vl low
  hi : RowO w vh high
  sb : S b
  sl : ∀ j, vl.ownBlock = some j → Ext S w0 w j
  sh : ∀ j, vh.ownBlock = some j → Ext S w0 w j
  apart : ∀ j, vl.ownBlock = some j → vh.ownBlock ≠ some j
  keeps : Keeps S w0 w

def RfO (b n most : Nat) (low high : List Nat) (S : Nat → Prop) (w : World) : Prop :=
  ∃ vl vh, Arr w b 108 4 (rfF n most vl vh) ∧ RowO w vl low ∧ RowO w vh high ∧ S b ∧ (∀ j, vl.ownBlock = some j → S j) ∧ (∀ j, vh.ownBlock = some j → S j) ∧ ∀ j, vl.ownBlock = some j → vh.ownBlock ≠ some j

instance (b n most : Nat) (low high : List Nat) : Rep (RfO b n most low high) where
  keep := fun ⟨vl, vh, ha, hl, hh, hb, sl, sh, d⟩ _ k ht => ⟨vl, vh, ha.keep k (ht _ hb), own_keep hl k (fun j e => ht _ (sl j e)), own_keep hh k (fun j e => ht _ (sh j e)), hb, sl, sh, d⟩
  mono := fun ⟨vl, vh, ha, hl, hh, hb, sl, sh, d⟩ hs => ⟨vl, vh, ha, hl, hh, hs _ hb, fun j e => hs _ (sl j e), fun j e => hs _ (sh j e), d⟩

section
variable {S : Nat → Prop} {w0 w : World} {b n most : Nat} {low high : List Nat} {vl vh : Value}

theorem RfO.open_ (h : RfO b n most low high S w) : ∃ vl vh, RfV S w w b n most vl vh low high := by
  obtain ⟨vl, vh, ha, hl, hh, hb, sl, sh, d⟩ := h
  exact ⟨vl, vh, ha, hl, hh, hb, fun j e => .inl (sl j e), fun j e => .inl (sh j e), d, Keeps.refl _ _⟩
theorem RfV.shut (h : RfV S w0 w b n most vl vh low high) : RfO b n most low high (Ext S w0 w) w ∧ Keeps S w0 w :=
  ⟨⟨vl, vh, h.top, h.lo, h.hi, .inl h.sb, h.sl, h.sh, h.apart⟩, h.keeps⟩
theorem RfV.below {w' : World} (h : RfV S w0 w b n most vl vh low high) (k : Below w.heap.size w w') : RfV S w0 w' b n most vl vh low high where
  top := h.top.below k h.top.lt
  lo := own_keep h.lo (Keeps.of_below k) (fun j ej => Nat.not_le.2 (own_lt h.lo j ej))
  hi := own_keep h.hi (Keeps.of_below k) (fun j ej => Nat.not_le.2 (own_lt h.hi j ej))
  sb := h.sb
  sl := fun j e => (h.sl j e).elim .inl (fun x => .inr ⟨x.1, Nat.lt_of_lt_of_le x.2 k.size⟩)
  sh := fun j e => (h.sh j e).elim .inl (fun x => .inr ⟨x.1, Nat.lt_of_lt_of_le x.2 k.size⟩)
  apart := h.apart
  keeps := h.keeps.trans (Keeps.of_below k) (fun j x => .inr (Nat.le_trans h.keeps.size x))

theorem rfF_low (v : Value) : ∀ i, i < 4 → (fun k => if k = 2 then v else rfF n most vl vh k) i = rfF n most v vh i := fun i hi => by
  have : i = 0 ∨ i = 1 ∨ i = 2 ∨ i = 3 := by omega
  rcases this with rfl | rfl | rfl | rfl <;> rfl
theorem rfF_high (v : Value) : ∀ i, i < 4 → (fun k => if k = 3 then v else rfF n most vl vh k) i = rfF n most vl v i := fun i hi => by
  have : i = 0 ∨ i = 1 ∨ i = 2 ∨ i = 3 := by omega
  rcases this with rfl | rfl | rfl | rfl <;> rfl

/-- The row of the low ones is another one. -/
theorem RfV.setLow (h : RfV S w0 w b n most vl vh low high) {base : Nat} {v : Value} {l : List Nat} (ho : w.ownsRow base 3 1 v l.length (l.map intV)) (hv : ∀ j, v.ownBlock = some j → Ext S w0 w j) (hd : ∀ j, v.ownBlock = some j → vh.ownBlock ≠ some j) :
    RfV S w0 (w.setCell ⟨b, 2, none⟩ v) b n most v vh l high := by
  have hs : (w.setCell ⟨b, 2, none⟩ v).heap.size = w.heap.size := World.size_setCell _ _ _
  have kk : Keeps (fun j => j = b) w (w.setCell ⟨b, 2, none⟩ v) := (Keeps.refl (fun j => j = b) w).setCell (p := ⟨b, 2, none⟩) (.inl rfl) v
  exact {
    top := (h.top.set 2 v).congr (rfF_low v)
    lo := own_keep (own_base ho) kk (fun j e => own_ne h.top ho (by decide) j e)
    hi := own_keep h.hi kk (fun j e => own_ne h.top h.hi (by decide) j e)
    sb := h.sb
    sl := fun j e => by have := hv j e; unfold Ext at this ⊢; rwa [hs]
    sh := fun j e => by have := h.sh j e; unfold Ext at this ⊢; rwa [hs]
    apart := hd
    keeps := h.keeps.trans kk (fun j x => .inl (x ▸ h.sb)) }
theorem RfV.setHigh (h : RfV S w0 w b n most vl vh low high) {base : Nat} {v : Value} {l : List Nat} (ho : w.ownsRow base 3 1 v l.length (l.map intV)) (hv : ∀ j, v.ownBlock = some j → Ext S w0 w j) (hd : ∀ j, v.ownBlock = some j → vl.ownBlock ≠ some j) :
    RfV S w0 (w.setCell ⟨b, 3, none⟩ v) b n most vl v low l := by
  have hs : (w.setCell ⟨b, 3, none⟩ v).heap.size = w.heap.size := World.size_setCell _ _ _
  have kk : Keeps (fun j => j = b) w (w.setCell ⟨b, 3, none⟩ v) := (Keeps.refl (fun j => j = b) w).setCell (p := ⟨b, 3, none⟩) (.inl rfl) v
  exact {
    top := (h.top.set 3 v).congr (rfF_high v)
    lo := own_keep h.lo kk (fun j e => own_ne h.top h.lo (by decide) j e)
    hi := own_keep (own_base ho) kk (fun j e => own_ne h.top ho (by decide) j e)
    sb := h.sb
    sl := fun j e => by have := h.sl j e; unfold Ext at this ⊢; rwa [hs]
    sh := fun j e => by have := hv j e; unfold Ext at this ⊢; rwa [hs]
    apart := fun j e e' => hd j e' e
    keeps := h.keeps.trans kk (fun j x => .inl (x ▸ h.sb)) }

theorem RfV.c0 (h : RfV S w0 w b n most vl vh low high) : w.cell? ⟨b, 0, none⟩ = some (.int .i64 (n : Int)) := h.top.cell (i := 0) (by omega)
theorem RfV.c1 (h : RfV S w0 w b n most vl vh low high) : w.cell? ⟨b, 1, none⟩ = some (.int .i64 (most : Int)) := h.top.cell (i := 1) (by omega)
theorem RfV.c2 (h : RfV S w0 w b n most vl vh low high) : w.cell? ⟨b, 2, none⟩ = some vl := h.top.cell (i := 2) (by omega)
theorem RfV.c3 (h : RfV S w0 w b n most vl vh low high) : w.cell? ⟨b, 3, none⟩ = some vh := h.top.cell (i := 3) (by omega)

theorem rf_has (h : RfV S w0 w b n most vl vh low high) (m : Int) (hl : low.length ≤ 1048576) (hh : high.length ≤ 1048576) :
    Calls Try.prog 83 #[.pointer (some ⟨b, 0, none⟩), .int .i64 m] w fun e w' => e = .returned (.bool (inI m low || inI m high)) ∧ w = w' := by
  obtain ⟨A, ca, rfl⟩ := own_slice h.lo
  obtain ⟨B, cb, rfl⟩ := own_slice h.hi
  have c2 := h.c2
  have c3 := h.c3
  have I2 := Lib.hid (idx_any (rdI_of h.lo) hl m)
  have I3 := Lib.hid (idx_any (rdI_of h.hi) hh m)
  clear h
  generalize inI m low = p at *
  generalize inI m high = q at *
  generalize hlen : low.length = ll at *
  generalize hlen2 : high.length = lh at *
  clear hlen hlen2
  cases p with
  | true =>
    go_enter Try.func83, Try.ntmps83
    go_wp2_with fail
    refine I2.out.mono ?_
    rintro e w' ⟨r, rfl, hr, rfl⟩
    have d0 := of_decide_eq_true hr
    have d1 : ¬ r < 0 := by omega
    go_wp2
    go_ret
    exact ⟨rfl, rfl⟩
  | false =>
    go_enter Try.func83, Try.ntmps83
    go_wp2_with fail
    refine I2.out.mono ?_
    rintro e w' ⟨r, rfl, hr, rfl⟩
    have d0 : ¬ (0 : Int) ≤ r := of_decide_eq_false hr
    have d1 : r < 0 := by omega
    go_wp2_with fail
    refine I3.out.mono ?_
    rintro e w' ⟨r2, rfl, hr2, rfl⟩
    have HR2 := Lib.hid hr2
    clear hr hr2
    go_wp2
    go_ret
    exact ⟨by rw [← HR2.out]; rfl, rfl⟩
end

end Go.Proofs.Ytbhcpedokgdipaa
