/- Several texts of this claim, one behind the other. -/
import Derived.Test.YtdbgehplmllgdaaGreatSe
import Derived.Maps.AppendAt
import Derived.Deep.RegionHeld3
import Derived.Deep.RegionLaw
import Derived.Deep.AppendLies

/- The document's order of slots: where a number stands in a row; a row without a number. -/
namespace Go.Proofs.YtdbgehplmllgdaaGreat
open Go.RowKit Fl
set_option linter.unusedVariables false

theorem inI_at {m : Int} {l : List Nat} {k : Nat} (hk : k < l.length) (h : ((l.getD k 0 : Nat) : Int) = m) : inI m l = true := by
  subst h
  rw [inI_nat]
  refine decide_eq_true ?_
  rw [List.getD_eq_getElem?_getD, List.getElem?_eq_getElem hk]
  exact List.getElem_mem hk
theorem inI_none {m : Int} {l : List Nat} (h : ∀ i, i < l.length → ((l.getD i 0 : Nat) : Int) ≠ m) : inI m l = false := by
  by_cases hm : 0 ≤ m
  · obtain ⟨k, rfl⟩ : ∃ k : Nat, m = (k : Int) := ⟨m.toNat, by omega⟩
    rw [inI_nat]
    refine decide_eq_false fun hx => ?_
    obtain ⟨i, hi, e⟩ := List.getElem_of_mem hx
    exact h i hi (by rw [List.getD_eq_getElem?_getD, List.getElem?_eq_getElem hi]; simp [e])
  · unfold inI
    simp [hm]

set_option maxHeartbeats 1000000 in
theorem idx_any2 {w : World} {v : Value} {l : List Nat} (hv : RdI w v l) (hl : l.length ≤ 1048576) (m : Int) :
    Calls Tryz.prog 187 #[v, .int .i64 m] w fun e w' => ∃ r : Int, e = .returned (.int .i64 r) ∧ ((inI m l = true ∧ ∃ k : Nat, r = (k : Int)) ∨ (inI m l = false ∧ r = -1)) ∧ w = w' := by
  obtain ⟨A, c, rfl, hA⟩ := hv
  have HA := Lib.hid hA
  clear hA
  go_enter Tryz.func187, Tryz.ntmps187
  go_wp2
  go_loopw [5] (fun i wr => ∃ k : Nat, k ≤ l.length ∧ i = .int .i64 (k : Int) ∧ (∀ i, i < k → ((l.getD i 0 : Nat) : Int) ≠ m) ∧ wr = w) (fun i _ => l.length - (intOf i).toNat)
  case atStart => exact ⟨0, Nat.zero_le _, rfl, fun i h => absurd h (Nat.not_lt_zero i), rfl⟩
  case round =>
    obtain ⟨k, hk, rfl, he, rfl⟩ := hrel
    by_cases hc : k < l.length
    · rcases HA.out with e | ⟨gA, rfl, cA⟩
      · rw [e] at hc; exact absurd hc (Nat.not_lt_zero k)
      have a1 := cA k hc
      have x1 : (k : Int) < (l.length : Int) := by omega
      have x2 : (k : Int) + 1 ≤ 1048577 := by omega
      by_cases hm : ((l.getD k 0 : Nat) : Int) = m
      · have H := Lib.hid (inI_at hc hm)
        rw [hm] at a1
        clear he cA hm
        go_wp2
        go_ret
        exact ⟨_, rfl, .inl ⟨H.out, k, rfl⟩, rfl⟩
      · have HE := Lib.hid he
        have HM := Lib.hid hm
        have n1 : (((l.getD k 0 : Nat) : Int) == m) = false := beq_eq_false_iff_ne.2 hm
        have n2 : decide (((l.getD k 0 : Nat) : Int) = m) = false := decide_eq_false hm
        generalize l.getD k 0 = x at a1 n1 n2
        clear he cA hm
        go_wp2
        go_roundw
        case rel =>
          refine ⟨k + 1, by omega, by simp, fun i hi => ?_, (by first | rfl | trivial)⟩
          by_cases e : i = k
          · subst e; exact HM.out
          · exact HE.out i (by omega)
        case measure => simp only [intOf]; omega
    · have x1 : ¬ (k : Int) < (l.length : Int) := by omega
      have H := Lib.hid (inI_none (fun i hi => he i (by omega)))
      clear he
      go_wp2
      go_ret
      exact ⟨_, rfl, .inr ⟨H.out, rfl⟩, rfl⟩

theorem idx_any {w : World} {v : Value} {l : List Nat} (hv : RdI w v l) (hl : l.length ≤ 1048576) (m : Int) :
    Calls Tryz.prog 187 #[v, .int .i64 m] w fun e w' => ∃ r : Int, e = .returned (.int .i64 r) ∧ decide (0 ≤ r) = inI m l ∧ w = w' :=
  (idx_any2 hv hl m).mono fun e w' ⟨r, he, h, hw⟩ => ⟨r, he, by
    rcases h with ⟨h1, k, h2⟩ | ⟨h1, h2⟩
    · rw [h1, h2]; exact decide_eq_true (by omega)
    · rw [h1, h2]; rfl, hw⟩

def woI (m : Int) (l : List Nat) : List Nat := l.filter (fun x => decide ((x : Int) ≠ m))
theorem woI_nat (m : Nat) (l : List Nat) : woI (m : Int) l = wo m l := by
  unfold woI wo
  congr 1
  funext x
  simp [Int.ofNat_inj]
theorem woI_take {m : Int} {l : List Nat} {k : Nat} (hk : k < l.length) : woI m (l.take (k + 1)) = if ((l.getD k 0 : Nat) : Int) = m then woI m (l.take k) else woI m (l.take k) ++ [l.getD k 0] := by
  have : l.take (k + 1) = l.take k ++ [l.getD k 0] := by
    rw [List.take_add_one, List.getElem?_eq_getElem hk, List.getD_eq_getElem?_getD, List.getElem?_eq_getElem hk]
    rfl
  rw [this]
  unfold woI
  rw [List.filter_append]
  by_cases h : ((l.getD k 0 : Nat) : Int) = m
  · rw [if_pos h]
    generalize l.getD k 0 = x at *
    simp [h]
  · rw [if_neg h]
    generalize l.getD k 0 = x at *
    simp [h]
theorem woI_le (m : Int) (l : List Nat) : (woI m l).length ≤ l.length := List.length_filter_le _ _

set_option maxHeartbeats 2000000 in
theorem without_any {w : World} {v : Value} {l : List Nat} (hv : RdI w v l) (hl : l.length ≤ 4096) (m : Int) :
    Calls Tryz.prog 169 #[v, .int .i64 m] w fun e w' => ∃ v', e = .returned v' ∧ w'.ownsRow w.heap.size 3 1 v' (woI m l).length ((woI m l).map intV) ∧ Below w.heap.size w w' := by
  obtain ⟨A, c, rfl, hA⟩ := hv
  have HA := Lib.hid hA
  obtain ⟨i0, hi, hz0, hz1, hz2⟩ := info_parts infoInt
  clear hA
  go_enter Tryz.func169, Tryz.ntmps169
  go_wp2
  go_loopw [5, 6] (fun v i wr => ∃ k : Nat, k ≤ l.length ∧ i = .int .i64 (k : Int) ∧ wr.ownsRow w.heap.size 3 1 v (woI m (l.take k)).length ((woI m (l.take k)).map intV) ∧ Below w.heap.size w wr) (fun _ i _ => l.length - (intOf i).toNat)
  case atStart => exact ⟨0, Nat.zero_le _, rfl, World.ownsRow_nil _ _ _ _, Below.refl _ _⟩
  case round =>
    obtain ⟨k, hk, rfl, hown, hb⟩ := hrel
    by_cases hc : k < l.length
    · rcases HA.out with e | ⟨gA, rfl, cA⟩
      · rw [e] at hc; exact absurd hc (Nat.not_lt_zero k)
      have a1 := (hb.cell (World.block_lt_of_cell? w _ (cA k hc))).trans (cA k hc)
      have WT := Lib.hid (woI_take (m := m) hc)
      have WL := Lib.hid (Nat.le_trans (woI_le m (l.take k)) (List.length_take_le _ _))
      have x1 : (k : Int) < (l.length : Int) := by omega
      have x2 : (k : Int) + 1 ≤ 1048577 := by omega
      clear cA
      by_cases hm : ((l.getD k 0 : Nat) : Int) = m
      · have WT := Lib.hid (WT.out.trans (if_pos hm))
        rw [hm] at a1
        have HO := Lib.hid hown
        have HB := Lib.hid hb
        clear hm hown hb
        go_wp2
        go_roundw
        case rel => exact ⟨k + 1, by omega, by simp, by rw [WT.out]; exact HO.out, HB.out⟩
        case measure => simp only [intOf]; omega
      · have WT := Lib.hid (WT.out.trans (if_neg hm))
        have n1 : (((l.getD k 0 : Nat) : Int) == m) = false := beq_eq_false_iff_ne.2 hm
        have n2 : decide (((l.getD k 0 : Nat) : Int) = m) = false := decide_eq_false hm
        have n3 : (((l.getD k 0 : Nat) : Int) != m) = true := by rw [bne_iff_ne]; exact hm
        clear hm
        generalize l.getD k 0 = x at a1 n1 n2 n3 WT
        generalize woI m (l.take k) = L at hown WT WL
        obtain ⟨A5, c5, rfl⟩ := own_slice hown
        have HB := Lib.hid hb
        have HO := Lib.hid hown
        clear hb hown
        go_wp2_with (first
          | (at_builtin; refine wpList_append_own _ rfl _ _ 35 rfl w.heap.size 3 i0 (.int .i64 0) 1 8 Tryz.underlying35 hi hz0 hz1 hz2 rfl (by decide) _ _ _ rfl (HO.out.alloc _) ⟨wr.heap.size, 0, none⟩ 1 1 [.int .i64 (x : Int)] rfl rfl ?c1 ?c2 ?c3 ?c4 ?c5 ?_)
          | go_in)
        case c1 =>
          intro j u hj
          match j, hj with
          | 0, hj => simp at hj; subst hj; simp [Addr.add]
        case c2 => intro u hu; simp at hu; subst hu; rfl
        case c3 => have := WL.out; unfold maxLen; omega
        case c4 => have := WL.out; omega
        case c5 => have := HB.out.size; simp; omega
        rintro v' w1 hown' hgr -
        have hb' : Below w.heap.size w w1 := by
          have hsz := HB.out.size
          exact (HB.out.alloc hsz _).grown hgr (by simp; omega) (fun k' hk' => (HO.out.lt k' hk').1)
        have HB' := Lib.hid hb'
        have HO' := Lib.hid hown'
        obtain ⟨A6, c6, rfl⟩ := own_slice hown'
        clear hb' hown' hgr
        go_wp2
        go_roundw
        case rel => exact ⟨k + 1, by omega, by simp, by rw [WT.out]; simpa [intV] using HO'.out, HB'.out⟩
        case measure => simp only [intOf]; omega
    · have x1 : ¬ (k : Int) < (l.length : Int) := by omega
      have e : l.take k = l := List.take_of_length_le (by omega)
      rw [e] at hown
      have HB := Lib.hid hb
      have HO := Lib.hid hown
      clear hb hown e
      go_wp2
      go_ret
      exact ⟨_, rfl, HO.out, HB.out⟩

end Go.Proofs.YtdbgehplmllgdaaGreat


/- The document's order of slots: its two rows; Has, Leave. -/
namespace Go.Proofs.YtdbgehplmllgdaaGreat
open Go.RowKit Fl
set_option linter.unusedVariables false

def rfF (n most : Nat) (vl vh : Value) : Nat → Value
  | 0 => .int .i64 (n : Int)
  | 1 => .int .i64 (most : Int)
  | 2 => vl
  | _ => vh

/-- A row of numbers that is its holder's own. -/
abbrev RowO (w : World) (v : Value) (l : List Nat) : Prop := w.ownsRow 0 3 1 v l.length (l.map intV)
theorem own_base {w : World} {base : Nat} {e : TypeId} {size : Nat} {v : Value} {n : Nat} {xs : List Value} (h : w.ownsRow base e size v n xs) : w.ownsRow 0 e size v n xs :=
  ⟨h.1, h.2.imp id (fun ⟨g, cap, cur, ev, hb, r⟩ => ⟨g, cap, cur, ev, Nat.zero_le _, r⟩)⟩
theorem own_ne {w : World} {b L : Nat} {t : TypeId} {F : Nat → Value} (h : Arr w b t L F) {base : Nat} {e : TypeId} {size : Nat} {v : Value} {n : Nat} {xs : List Value} (r : w.ownsRow base e size v n xs) (ht : t ≠ e) : ∀ j, v.ownBlock = some j → j ≠ b := fun j ej => by
  rcases r.2 with ⟨rfl, _⟩ | ⟨g, cap, cur, rfl, _, hh, _⟩
  · simp [Value.ownBlock] at ej
  · obtain rfl : g = j := by simpa [Value.ownBlock] using ej
    rintro rfl
    obtain ⟨cs, hc, _⟩ := h
    rw [hh] at hc
    simp at hc
    exact ht hc.2.symm

/-- The document's order on the way, since the world w0. -/
structure RfV (S : Nat → Prop) (w0 w : World) (b n most : Nat) (vl vh : Value) (low high : List Nat) : Prop where
  top : Arr w b 166 4 (rfF n most vl vh)
  lo : RowO w vl low
  hi : RowO w vh high
  sb : S b
  sl : ∀ j, vl.ownBlock = some j → Ext S w0 w j
  sh : ∀ j, vh.ownBlock = some j → Ext S w0 w j
  apart : ∀ j, vl.ownBlock = some j → vh.ownBlock ≠ some j
  keeps : Keeps S w0 w

def RfO (b n most : Nat) (low high : List Nat) (S : Nat → Prop) (w : World) : Prop :=
  ∃ vl vh, Arr w b 166 4 (rfF n most vl vh) ∧ RowO w vl low ∧ RowO w vh high ∧ S b ∧ (∀ j, vl.ownBlock = some j → S j) ∧ (∀ j, vh.ownBlock = some j → S j) ∧ ∀ j, vl.ownBlock = some j → vh.ownBlock ≠ some j

instance (b n most : Nat) (low high : List Nat) : Rep (RfO b n most low high) where
  keep := fun ⟨vl, vh, ha, hl, hh, hb, sl, sh, d⟩ _ k ht => ⟨vl, vh, ha.keep k (ht _ hb), own_keep hl k (fun j e => ht _ (sl j e)), own_keep hh k (fun j e => ht _ (sh j e)), hb, sl, sh, d⟩
  mono := fun ⟨vl, vh, ha, hl, hh, hb, sl, sh, d⟩ hs => ⟨vl, vh, ha, hl, hh, hs _ hb, fun j e => hs _ (sl j e), fun j e => hs _ (sh j e), d⟩

section
variable {S : Nat → Prop} {w0 w : World} {b n most : Nat} {low high : List Nat} {vl vh : Value}

theorem RfO.open_ (h : RfO b n most low high S w) : ∃ vl vh, RfV S w w b n most vl vh low high := by
  obtain ⟨vl, vh, ha, hl, hh, hb, sl, sh, d⟩ := h
  exact ⟨vl, vh, ha, hl, hh, hb, fun j e => .inl (sl j e), fun j e => .inl (sh j e), d, Keeps.refl _ _⟩
theorem RfV.shut (h : RfV S w0 w b n most vl vh low high) : RfO b n most low high (Ext S w0 w) w ∧ Keeps S w0 w :=
  ⟨⟨vl, vh, h.top, h.lo, h.hi, .inl h.sb, h.sl, h.sh, h.apart⟩, h.keeps⟩
theorem RfV.below {w' : World} (h : RfV S w0 w b n most vl vh low high) (k : Below w.heap.size w w') : RfV S w0 w' b n most vl vh low high where
  top := h.top.below k h.top.lt
  lo := own_keep h.lo (Keeps.of_below k) (fun j ej => Nat.not_le.2 (own_lt h.lo j ej))
  hi := own_keep h.hi (Keeps.of_below k) (fun j ej => Nat.not_le.2 (own_lt h.hi j ej))
  sb := h.sb
  sl := fun j e => (h.sl j e).elim .inl (fun x => .inr ⟨x.1, Nat.lt_of_lt_of_le x.2 k.size⟩)
  sh := fun j e => (h.sh j e).elim .inl (fun x => .inr ⟨x.1, Nat.lt_of_lt_of_le x.2 k.size⟩)
  apart := h.apart
  keeps := h.keeps.trans (Keeps.of_below k) (fun j x => .inr (Nat.le_trans h.keeps.size x))

theorem rfF_low (v : Value) : ∀ i, i < 4 → (fun k => if k = 2 then v else rfF n most vl vh k) i = rfF n most v vh i := fun i hi => by
  have : i = 0 ∨ i = 1 ∨ i = 2 ∨ i = 3 := by omega
  rcases this with rfl | rfl | rfl | rfl <;> rfl
theorem rfF_high (v : Value) : ∀ i, i < 4 → (fun k => if k = 3 then v else rfF n most vl vh k) i = rfF n most vl v i := fun i hi => by
  have : i = 0 ∨ i = 1 ∨ i = 2 ∨ i = 3 := by omega
  rcases this with rfl | rfl | rfl | rfl <;> rfl

/-- The row of the low ones is another one. -/
theorem RfV.setLow (h : RfV S w0 w b n most vl vh low high) {base : Nat} {v : Value} {l : List Nat} (ho : w.ownsRow base 3 1 v l.length (l.map intV)) (hv : ∀ j, v.ownBlock = some j → Ext S w0 w j) (hd : ∀ j, v.ownBlock = some j → vh.ownBlock ≠ some j) :
    RfV S w0 (w.setCell ⟨b, 2, none⟩ v) b n most v vh l high := by
  have hs : (w.setCell ⟨b, 2, none⟩ v).heap.size = w.heap.size := World.size_setCell _ _ _
  have kk : Keeps (fun j => j = b) w (w.setCell ⟨b, 2, none⟩ v) := (Keeps.refl (fun j => j = b) w).setCell (p := ⟨b, 2, none⟩) (.inl rfl) v
  exact {
    top := (h.top.set 2 v).congr (rfF_low v)
    lo := own_keep (own_base ho) kk (fun j e => own_ne h.top ho (by decide) j e)
    hi := own_keep h.hi kk (fun j e => own_ne h.top h.hi (by decide) j e)
    sb := h.sb
    sl := fun j e => by have := hv j e; unfold Ext at this ⊢; rwa [hs]
    sh := fun j e => by have := h.sh j e; unfold Ext at this ⊢; rwa [hs]
    apart := hd
    keeps := h.keeps.trans kk (fun j x => .inl (x ▸ h.sb)) }
theorem RfV.setHigh (h : RfV S w0 w b n most vl vh low high) {base : Nat} {v : Value} {l : List Nat} (ho : w.ownsRow base 3 1 v l.length (l.map intV)) (hv : ∀ j, v.ownBlock = some j → Ext S w0 w j) (hd : ∀ j, v.ownBlock = some j → vl.ownBlock ≠ some j) :
    RfV S w0 (w.setCell ⟨b, 3, none⟩ v) b n most vl v low l := by
  have hs : (w.setCell ⟨b, 3, none⟩ v).heap.size = w.heap.size := World.size_setCell _ _ _
  have kk : Keeps (fun j => j = b) w (w.setCell ⟨b, 3, none⟩ v) := (Keeps.refl (fun j => j = b) w).setCell (p := ⟨b, 3, none⟩) (.inl rfl) v
  exact {
    top := (h.top.set 3 v).congr (rfF_high v)
    lo := own_keep h.lo kk (fun j e => own_ne h.top h.lo (by decide) j e)
    hi := own_keep (own_base ho) kk (fun j e => own_ne h.top ho (by decide) j e)
    sb := h.sb
    sl := fun j e => by have := h.sl j e; unfold Ext at this ⊢; rwa [hs]
    sh := fun j e => by have := hv j e; unfold Ext at this ⊢; rwa [hs]
    apart := fun j e e' => hd j e' e
    keeps := h.keeps.trans kk (fun j x => .inl (x ▸ h.sb)) }

theorem RfV.c0 (h : RfV S w0 w b n most vl vh low high) : w.cell? ⟨b, 0, none⟩ = some (.int .i64 (n : Int)) := h.top.cell (i := 0) (by omega)
theorem RfV.c1 (h : RfV S w0 w b n most vl vh low high) : w.cell? ⟨b, 1, none⟩ = some (.int .i64 (most : Int)) := h.top.cell (i := 1) (by omega)
theorem RfV.c2 (h : RfV S w0 w b n most vl vh low high) : w.cell? ⟨b, 2, none⟩ = some vl := h.top.cell (i := 2) (by omega)
theorem RfV.c3 (h : RfV S w0 w b n most vl vh low high) : w.cell? ⟨b, 3, none⟩ = some vh := h.top.cell (i := 3) (by omega)

theorem rf_has (h : RfV S w0 w b n most vl vh low high) (m : Int) (hl : low.length ≤ 1048576) (hh : high.length ≤ 1048576) :
    Calls Tryz.prog 168 #[.pointer (some ⟨b, 0, none⟩), .int .i64 m] w fun e w' => e = .returned (.bool (inI m low || inI m high)) ∧ w = w' := by
  obtain ⟨A, ca, rfl⟩ := own_slice h.lo
  obtain ⟨B, cb, rfl⟩ := own_slice h.hi
  have c2 := h.c2
  have c3 := h.c3
  have I2 := Lib.hid (idx_any (rdI_of h.lo) hl m)
  have I3 := Lib.hid (idx_any (rdI_of h.hi) hh m)
  clear h
  generalize inI m low = p at *
  generalize inI m high = q at *
  generalize hlen : low.length = ll at *
  generalize hlen2 : high.length = lh at *
  clear hlen hlen2
  cases p with
  | true =>
    go_enter Tryz.func168, Tryz.ntmps168
    go_wp2_with fail
    refine I2.out.mono ?_
    rintro e w' ⟨r, rfl, hr, rfl⟩
    have d0 := of_decide_eq_true hr
    have d1 : ¬ r < 0 := by omega
    go_wp2
    go_ret
    exact ⟨rfl, rfl⟩
  | false =>
    go_enter Tryz.func168, Tryz.ntmps168
    go_wp2_with fail
    refine I2.out.mono ?_
    rintro e w' ⟨r, rfl, hr, rfl⟩
    have d0 : ¬ (0 : Int) ≤ r := of_decide_eq_false hr
    have d1 : r < 0 := by omega
    go_wp2_with fail
    refine I3.out.mono ?_
    rintro e w' ⟨r2, rfl, hr2, rfl⟩
    have HR2 := Lib.hid hr2
    clear hr hr2
    go_wp2
    go_ret
    exact ⟨by rw [← HR2.out]; rfl, rfl⟩
end

end Go.Proofs.YtdbgehplmllgdaaGreat


/- The document's order of slots: Leave, Enter. -/
namespace Go.Proofs.YtdbgehplmllgdaaGreat
open Go.RowKit Fl
set_option linter.unusedVariables false

section
variable {S : Nat → Prop} {w0 w : World} {b n most : Nat} {low high : List Nat} {vl vh : Value}

theorem own_ext {w0 w w' : World} {S : Nat → Prop} {v : Value} {l : List Nat} (h : w'.ownsRow w.heap.size 3 1 v l.length (l.map intV)) (hs : w0.heap.size ≤ w.heap.size) : ∀ j, v.ownBlock = some j → Ext S w0 w' j := fun j e => .inr ⟨Nat.le_trans hs (own_ge h j e), own_lt h j e⟩
theorem own_new {w w' : World} {v u : Value} {l l' : List Nat} (h : w'.ownsRow w.heap.size 3 1 v l.length (l.map intV)) (h' : RowO w u l') : ∀ j, v.ownBlock = some j → u.ownBlock ≠ some j := fun j e e' => by
  have := own_ge h j e
  have := own_lt h' j e'
  omega

set_option maxHeartbeats 2000000 in
theorem rf_leave (h : RfV S w0 w b n most vl vh low high) (m : Int) (hl : low.length ≤ 1024) (hh : high.length ≤ 1024) :
    Calls Tryz.prog 127 #[.pointer (some ⟨b, 0, none⟩), .int .i64 m] w fun e w' => e = .returned (.bool (lvS m low high).1) ∧ ∃ vl' vh', RfV S w0 w' b n most vl' vh' (lvS m low high).2.1 (lvS m low high).2.2 := by
  have HAS := rf_has h m (by omega) (by omega)
  unfold lvS
  by_cases hi : (inI m low || inI m high) = true
  · rw [if_pos hi]
    rw [hi] at HAS
    obtain ⟨k, rfl, hk⟩ := inI_or.1 hi
    rw [Int.toNat_natCast]
    have HAS := Lib.hid HAS
    obtain ⟨A, ca, rfl⟩ := own_slice h.lo
    obtain ⟨B, cb, rfl⟩ := own_slice h.hi
    have W2 := without_any (rdI_of h.lo) (by omega) (k : Int)
    rw [woI_nat] at W2
    have W2 := Lib.hid W2
    have W3 := Lib.hid (fun (w' : World) (r : RowO w' (.slice B high.length cb) high) => without_any (rdI_of r) (by omega) (k : Int))
    have c2 := h.c2
    have H := Lib.hid h
    have HH := Lib.hid hh
    clear h hi hk hl hh
    go_enter Tryz.func127, Tryz.ntmps127
    go_wp2_with fail
    refine HAS.out.mono ?_
    rintro e w' ⟨rfl, rfl⟩
    go_wp2_with fail
    refine W2.out.mono ?_
    rintro e w1 ⟨v1, rfl, o1, b1⟩
    obtain ⟨A1, c1, rfl⟩ := own_slice o1
    have R1 := Lib.hid (H.out.below b1)
    have R2 := Lib.hid (R1.out.setLow o1 (own_ext o1 H.out.keeps.size) (own_new o1 H.out.hi))
    have f2 := R1.out.top.free 2
    have c3 := R1.out.c3
    have c3' := R2.out.c3
    have c2' := R1.out.c2
    have O1 := Lib.hid o1
    clear o1 b1 c2
    generalize (wo k low).length = L1 at *
    go_wp2_with fail
    have z := W3.out _ R2.out.hi
    rw [woI_nat] at z
    refine z.mono ?_
    rintro e w3 ⟨v3, rfl, o3, b3⟩
    obtain ⟨A3, c3, rfl⟩ := own_slice o3
    have R3 := Lib.hid (R2.out.below b3)
    have f3 := R3.out.top.free 3
    have e3 := R3.out.c3
    have R4 := Lib.hid (R3.out.setHigh o3 (own_ext o3 R2.out.keeps.size) (own_new o3 R2.out.lo))
    clear z o3 b3
    go_wp2
    go_ret
    exact ⟨rfl, _, _, R4.out⟩
  · rw [if_neg hi]
    rw [Bool.not_eq_true] at hi
    rw [hi] at HAS
    have HAS := Lib.hid HAS
    have H := Lib.hid h
    clear h hi hl hh
    go_enter Tryz.func127, Tryz.ntmps127
    go_wp2_with fail
    refine HAS.out.mono ?_
    rintro e w' ⟨rfl, rfl⟩
    go_wp2
    go_ret
    exact ⟨rfl, _, _, H.out⟩

theorem RfV.mkLow {w' : World} (top : Arr w' b 166 4 (rfF n most vl vh)) (hi : RowO w' vh high) (sb : S b) (sh : ∀ j, vh.ownBlock = some j → Ext S w0 w' j) (keeps : Keeps S w0 w')
    {v : Value} {l : List Nat} (ho : RowO w' v l) (hv : ∀ j, v.ownBlock = some j → Ext S w0 w' j) (hd : ∀ j, v.ownBlock = some j → vh.ownBlock ≠ some j) :
    RfV S w0 (w'.setCell ⟨b, 2, none⟩ v) b n most v vh l high := by
  have hs : (w'.setCell ⟨b, 2, none⟩ v).heap.size = w'.heap.size := World.size_setCell _ _ _
  have kk : Keeps (fun j => j = b) w' (w'.setCell ⟨b, 2, none⟩ v) := (Keeps.refl (fun j => j = b) w').setCell (p := ⟨b, 2, none⟩) (.inl rfl) v
  exact {
    top := (top.set 2 v).congr (rfF_low v)
    lo := own_keep (own_base ho) kk (fun j e => own_ne top ho (by decide) j e)
    hi := own_keep hi kk (fun j e => own_ne top hi (by decide) j e)
    sb := sb
    sl := fun j e => by have := hv j e; unfold Ext at this ⊢; rwa [hs]
    sh := fun j e => by have := sh j e; unfold Ext at this ⊢; rwa [hs]
    apart := hd
    keeps := keeps.trans kk (fun j x => .inl (x ▸ sb)) }
theorem RfV.mkHigh {w' : World} (top : Arr w' b 166 4 (rfF n most vl vh)) (lo : RowO w' vl low) (sb : S b) (sl : ∀ j, vl.ownBlock = some j → Ext S w0 w' j) (keeps : Keeps S w0 w')
    {v : Value} {l : List Nat} (ho : RowO w' v l) (hv : ∀ j, v.ownBlock = some j → Ext S w0 w' j) (hd : ∀ j, v.ownBlock = some j → vl.ownBlock ≠ some j) :
    RfV S w0 (w'.setCell ⟨b, 3, none⟩ v) b n most vl v low l := by
  have hs : (w'.setCell ⟨b, 3, none⟩ v).heap.size = w'.heap.size := World.size_setCell _ _ _
  have kk : Keeps (fun j => j = b) w' (w'.setCell ⟨b, 3, none⟩ v) := (Keeps.refl (fun j => j = b) w').setCell (p := ⟨b, 3, none⟩) (.inl rfl) v
  exact {
    top := (top.set 3 v).congr (rfF_high v)
    lo := own_keep lo kk (fun j e => own_ne top lo (by decide) j e)
    hi := own_keep (own_base ho) kk (fun j e => own_ne top ho (by decide) j e)
    sb := sb
    sl := fun j e => by have := sl j e; unfold Ext at this ⊢; rwa [hs]
    sh := fun j e => by have := hv j e; unfold Ext at this ⊢; rwa [hs]
    apart := fun j e e' => hd j e' e
    keeps := keeps.trans kk (fun j x => .inl (x ▸ sb)) }

theorem ext_grow {S : Nat → Prop} {a b c : World} (h : b.heap.size ≤ c.heap.size) {j : Nat} (x : Ext S a b j) : Ext S a c j := x.elim .inl (fun y => .inr ⟨y.1, Nat.lt_of_lt_of_le y.2 h⟩)

theorem RfV.growLow (h : RfV S w0 w b n most vl vh low high) {w' : World} {v' : Value} {l' : List Nat} (ho : RowO w' v' l') (hg : w.grownBy w' vl.ownBlock) (hat : v'.ownBlock = vl.ownBlock ∨ v'.ownBlock = some w.heap.size) :
    RfV S w0 (w'.setCell ⟨b, 2, none⟩ v') b n most v' vh l' high := by
  have kk : Keeps (fun j => vl.ownBlock = some j) w w' := (Keeps.refl (fun j => vl.ownBlock = some j) w).grown hg (fun r e => .inl e)
  refine RfV.mkLow (vl := vl) (h.top.keep kk (fun x => own_ne h.top h.lo (by decide) b x rfl)) (own_keep h.hi kk (fun j e x => h.apart j x e)) h.sb (fun j e => ext_grow hg.size (h.sh j e)) (h.keeps.trans kk (fun j x => (h.sl j x).imp id (fun y => y.1))) ho (fun j e => ?_) (fun j e e' => ?_)
  · rcases hat with x | x
    · exact ext_grow hg.size (h.sl j (x ▸ e))
    · have : w.heap.size = j := by rw [x] at e; simpa using e
      exact .inr ⟨this ▸ h.keeps.size, own_lt ho j e⟩
  · rcases hat with x | x
    · exact h.apart j (x ▸ e) e'
    · have : w.heap.size = j := by rw [x] at e; simpa using e
      have := own_lt h.hi j e'
      omega
theorem RfV.growHigh (h : RfV S w0 w b n most vl vh low high) {w' : World} {v' : Value} {l' : List Nat} (ho : RowO w' v' l') (hg : w.grownBy w' vh.ownBlock) (hat : v'.ownBlock = vh.ownBlock ∨ v'.ownBlock = some w.heap.size) :
    RfV S w0 (w'.setCell ⟨b, 3, none⟩ v') b n most vl v' low l' := by
  have kk : Keeps (fun j => vh.ownBlock = some j) w w' := (Keeps.refl (fun j => vh.ownBlock = some j) w).grown hg (fun r e => .inl e)
  refine RfV.mkHigh (vh := vh) (h.top.keep kk (fun x => own_ne h.top h.hi (by decide) b x rfl)) (own_keep h.lo kk (fun j e x => h.apart j e x)) h.sb (fun j e => ext_grow hg.size (h.sl j e)) (h.keeps.trans kk (fun j x => (h.sh j x).imp id (fun y => y.1))) ho (fun j e => ?_) (fun j e e' => ?_)
  · rcases hat with x | x
    · exact ext_grow hg.size (h.sh j (x ▸ e))
    · have : w.heap.size = j := by rw [x] at e; simpa using e
      exact .inr ⟨this ▸ h.keeps.size, own_lt ho j e⟩
  · rcases hat with x | x
    · exact h.apart j e' (x ▸ e)
    · have : w.heap.size = j := by rw [x] at e; simpa using e
      have := own_lt h.lo j e'
      omega

theorem rowO_snoc {w : World} {v : Value} {l : List Nat} {k : Nat} (h : w.ownsRow 0 3 1 v (l.length + 1) (l.map intV ++ [.int .i64 (k : Int)])) : RowO w v (l ++ [k]) := by
  have e : (l ++ [k]).map intV = l.map intV ++ [.int .i64 (k : Int)] := by simp [intV]
  show w.ownsRow 0 3 1 v (l ++ [k]).length ((l ++ [k]).map intV)
  rw [e, List.length_append]
  exact h

theorem inI_not {k : Nat} {low high : List Nat} (h : ¬ (inI (k : Int) low || inI (k : Int) high) = true) : k ∉ low ∧ k ∉ high := by
  simp only [inI_nat, Bool.or_eq_true, decide_eq_true_eq, not_or] at h
  exact h
theorem lvS_rows (k : Nat) (low high : List Nat) : (lvS (k : Int) low high).2.1 = wo k low ∧ (lvS (k : Int) low high).2.2 = wo k high := by
  unfold lvS
  by_cases hi : (inI (k : Int) low || inI (k : Int) high) = true
  · rw [if_pos hi]; exact ⟨rfl, rfl⟩
  · rw [if_neg hi]
    obtain ⟨h1, h2⟩ := inI_not hi
    exact ⟨(wo_not h1).symm, (wo_not h2).symm⟩

set_option maxHeartbeats 2000000 in
theorem rf_enter (h : RfV S w0 w b n most vl vh low high) (m : Int) (hl : low.length ≤ 1024) (hh : high.length ≤ 1024) :
    Calls Tryz.prog 128 #[.pointer (some ⟨b, 0, none⟩), .int .i64 m] w fun e w' => e = .returned (.bool (enS n m low high).1) ∧ ∃ vl' vh', RfV S w0 w' b n most vl' vh' (enS n m low high).2.1 (enS n m low high).2.2 := by
  unfold enS
  have c0 := h.c0
  by_cases hm : 0 ≤ m ∧ m < n
  · rw [if_pos hm]
    obtain ⟨k, rfl⟩ : ∃ k : Nat, m = (k : Int) := ⟨m.toNat, by omega⟩
    rw [Int.toNat_natCast]
    have LV := rf_leave h (k : Int) hl hh
    rw [(lvS_rows k low high).1, (lvS_rows k low high).2] at LV
    generalize (lvS (k : Int) low high).1 = ans at LV
    have LV := Lib.hid LV
    have WL := Lib.hid (Nat.le_trans (wo_le k low) hl)
    obtain ⟨i0, hi, hz0, hz1, hz2⟩ := info_parts infoInt
    generalize wo k low = lo at *
    generalize wo k high = hg at *
    have d0 : decide ((k : Int) < 0) = false := decide_eq_false (by omega)
    have d1 : decide ((n : Int) ≤ (k : Int)) = false := decide_eq_false (by omega)
    have d2 : decide (n ≤ k) = false := decide_eq_false (by omega)
    clear h hm hl hh
    go_enter Tryz.func128, Tryz.ntmps128
    go_wp2_with fail
    refine LV.out.mono ?_
    rintro e w1 ⟨rfl, vl1, vh1, r1⟩
    obtain ⟨A1, c1, rfl⟩ := own_slice r1.lo
    have c2 := r1.c2
    have R1 := Lib.hid r1
    have R2 := Lib.hid (r1.below ((Below.refl _ w1).alloc (Nat.le_refl _) (.cells #[.int .i64 (k : Int)] 3)))
    have sz := Lib.hid (World.size_alloc w1 (.cells #[.int .i64 (k : Int)] 3))
    clear r1 c0
    go_wp2_with (first
      | (at_builtin; refine wpList_append_own_at _ rfl _ _ 35 rfl 0 3 i0 (.int .i64 0) 1 8 Tryz.underlying35 hi hz0 hz1 hz2 rfl (by decide) _ _ _ rfl R2.out.lo ⟨w1.heap.size, 0, none⟩ 1 1 [.int .i64 (k : Int)] rfl rfl ?c1 ?c2 ?c3 ?c4 ?c5 ?_)
      | go_in)
    case c1 =>
      intro j u hj
      match j, hj with
      | 0, hj => simp at hj; subst hj; simp [Addr.add]
    case c2 => intro u hu; simp at hu; subst hu; rfl
    case c3 => have := WL.out; unfold maxLen; omega
    case c4 => have := WL.out; omega
    case c5 => exact Nat.zero_le _
    rintro v' w2 hown' hgr - hat
    obtain ⟨A2, c3, rfl⟩ := own_slice hown'
    have R3 := Lib.hid (R2.out.growLow (rowO_snoc hown') hgr (by rw [sz.out]; exact hat))
    have kk : Keeps (fun j => (Value.slice A1 lo.length c1).ownBlock = some j) _ w2 := (Keeps.refl (fun j => (Value.slice A1 lo.length c1).ownBlock = some j) _).grown hgr (fun r e => .inl e)
    have t2 := R2.out.top.keep kk (fun x => own_ne R2.out.top R2.out.lo (by decide) b x rfl)
    have e2 := t2.cell (i := 2) (by omega)
    have f2 := t2.free 2
    simp only [rfF] at e2
    clear hown' hgr hat kk t2 c2
    go_wp2
    go_ret
    exact ⟨rfl, _, _, R3.out⟩
  · rw [if_neg hm]
    have H := Lib.hid h
    clear h hl hh
    by_cases h0 : m < 0
    · go_enter Tryz.func128, Tryz.ntmps128
      go_wp2
      go_ret
      exact ⟨rfl, _, _, H.out⟩
    · have d0 : decide (m < 0) = false := decide_eq_false h0
      have h1 : (n : Int) ≤ m := by omega
      have d1 : decide ((n : Int) ≤ m) = true := decide_eq_true h1
      clear hm
      go_enter Tryz.func128, Tryz.ntmps128
      go_wp2
      go_ret
      exact ⟨rfl, _, _, H.out⟩
end

end Go.Proofs.YtdbgehplmllgdaaGreat


/- The document's order of slots: Touch. -/
namespace Go.Proofs.YtdbgehplmllgdaaGreat
open Go.RowKit Fl
set_option linter.unusedVariables false

section
variable {S : Nat → Prop} {w0 w : World} {b n most : Nat} {low high : List Nat} {vl vh : Value}

theorem RfV.drewN (h : RfV S w0 w b n most vl vh low high) (k : Nat) : RfV S w0 (w.drewN k) b n most vl vh low high := h.below (below_drewN (Below.refl _ _) k)
theorem RfV.drew (h : RfV S w0 w b n most vl vh low high) : RfV S w0 w.drew b n most vl vh low high := h.below (Below.refl _ _).drew

theorem tail_cells {w : World} {g N c a : Nat} {r : List Nat} (h : RdI w (.slice (some ⟨g, 0, none⟩) N c) (a :: r)) : ∀ j u, (r.map intV)[j]? = some u → w.cell? ((⟨g, 1, none⟩ : Addr).add j) = some u := by
  obtain ⟨A, c', e, h⟩ := h
  intro j u hj
  rcases h with x | ⟨g', eg, hc⟩
  · cases x
  · subst eg
    obtain rfl : g = g' := by simp at e; exact e.1
    have hlt : j < r.length := by
      have := (List.getElem?_eq_some_iff.1 hj).1
      simpa using this
    have := hc (j + 1) (by simp; omega)
    rw [show ((⟨g, 1, none⟩ : Addr).add j) = ⟨g, j + 1, none⟩ from by simp [Addr.add, Nat.add_comm], this]
    rw [List.getElem?_map, List.getElem?_eq_getElem hlt] at hj
    simp at hj
    rw [← hj]
    simp [intV, hlt]

theorem RfV.tailHigh {W7 : World} (h : RfV S w0 W7 b n most vl vh low high) {w9 : World} {v9 : Value} {r : List Nat} {N : Nat} (hN : r.length = N) (ho : w9.ownsRow 0 3 1 v9 N (r.map intV))
    (hg : (W7.alloc (.cells #[] 3)).grownBy w9 (Value.slice (some ⟨W7.heap.size, 0, none⟩) 0 0).ownBlock)
    (hat : v9.ownBlock = (Value.slice (some ⟨W7.heap.size, 0, none⟩) 0 0).ownBlock ∨ v9.ownBlock = some (W7.heap.size + 1)) :
    RfV S w0 (w9.setCell ⟨b, 3, none⟩ v9) b n most vl v9 low r ∧ w9.cell? ⟨b, 3, none⟩ = some vh ∧ w9.frozen? ⟨b, 3, none⟩ = false := by
  have kk : Keeps (fun j => W7.heap.size ≤ j) W7 w9 := ((Keeps.refl (fun j => W7.heap.size ≤ j) W7).alloc (.cells #[] 3)).grown hg (fun j e => by
    have : W7.heap.size = j := by simpa [Value.ownBlock] using e
    exact .inr (by omega))
  have R := h.below (kk.below (Nat.le_refl _))
  have ho' : w9.ownsRow 0 3 1 v9 r.length (r.map intV) := by rw [hN]; exact ho
  have hB : ∀ j, v9.ownBlock = some j → W7.heap.size ≤ j := fun j e => by
    rcases hat with x | x
    · rw [x] at e
      have : W7.heap.size = j := by simpa [Value.ownBlock] using e
      omega
    · rw [x] at e
      have : W7.heap.size + 1 = j := by simpa using e
      omega
  exact ⟨R.setHigh ho' (fun j e => .inr ⟨Nat.le_trans h.keeps.size (hB j e), own_lt ho' j e⟩) (fun j e e' => by have := hB j e; have := own_lt h.lo j e'; omega), R.c3, R.top.free 3⟩

set_option maxRecDepth 100000 in
set_option maxHeartbeats 8000000 in
theorem rf_touch (h : RfV S w0 w b n most vl vh low high) (m : Int) (hl : low.length ≤ 1024) (hh : high.length ≤ 1024) :
    Calls Tryz.prog 72 #[.pointer (some ⟨b, 0, none⟩), .int .i64 m] w fun e w' => e = .returned (.bool (toS most m low high).1) ∧ ∃ vl' vh', RfV S w0 w' b n most vl' vh' (toS most m low high).2.1 (toS most m low high).2.2 := by
  have LV := rf_leave h m hl hh
  unfold toS
  unfold lvS at LV
  by_cases hi : (inI m low || inI m high) = true
  · rw [if_pos hi]
    simp only [if_pos hi] at LV
    obtain ⟨k, rfl, hk⟩ := inI_or.1 hi
    rw [Int.toNat_natCast] at *
    have LV := Lib.hid LV
    have WL := Lib.hid (Nat.le_trans (wo_le k low) hl)
    have WH := Lib.hid (Nat.le_trans (wo_le k high) hh)
    obtain ⟨i0, hi, hz0, hz1, hz2⟩ := info_parts infoInt
    unfold touchL
    generalize wo k low = lo at *
    generalize wo k high = hg at *
    obtain ⟨a, r, hr⟩ := head_tail hg k
    rw [hr, List.headD_cons, List.tail_cons]
    have HRR := Lib.hid hr
    obtain ⟨N1, hN1⟩ : ∃ N1, (a :: r).length = N1 := ⟨_, rfl⟩
    have HRL := Lib.hid (show N1 = hg.length + 1 by rw [← hN1, ← hr]; simp)
    rw [hN1]
    obtain ⟨L2, H2, eL, eH, hLH⟩ : ∃ L2 H2, (if N1 ≤ most then (lo, a :: r) else (lo ++ [a], r)).1 = L2 ∧ (if N1 ≤ most then (lo, a :: r) else (lo ++ [a], r)).2 = H2 ∧ ((N1 ≤ most → L2 = lo ∧ H2 = a :: r) ∧ (¬ N1 ≤ most → L2 = lo ++ [a] ∧ H2 = r)) :=
      ⟨_, _, rfl, rfl, fun x => by rw [if_pos x]; exact ⟨rfl, rfl⟩, fun x => by rw [if_neg x]; exact ⟨rfl, rfl⟩⟩
    show Calls _ _ _ _ fun e w' => e = .returned (.bool true) ∧ ∃ vl' vh', RfV S w0 w' b n most vl' vh' (if N1 ≤ most then (lo, a :: r) else (lo ++ [a], r)).1 (if N1 ≤ most then (lo, a :: r) else (lo ++ [a], r)).2
    rw [eL, eH]
    have HLH := Lib.hid hLH
    have HN := Lib.hid hN1
    clear h hk hl hh hr eL eH hLH hN1
    go_enter Tryz.func72, Tryz.ntmps72
    go_wp2_with fail
    refine LV.out.mono ?_
    rintro e w1 ⟨rfl, vl1, vh1, r1⟩
    obtain ⟨A1, c1, rfl⟩ := own_slice r1.hi
    obtain ⟨Al, cl, rfl⟩ := own_slice r1.lo
    have c3 := r1.c3
    have R1 := Lib.hid r1
    have R2 := Lib.hid (r1.below ((Below.refl _ w1).alloc (Nat.le_refl _) (.cells #[.int .i64 (k : Int)] 3)))
    have sz := Lib.hid (World.size_alloc w1 (.cells #[.int .i64 (k : Int)] 3))
    clear r1
    go_wp2_with (first
      | (at_builtin; refine wpList_append_own_at _ rfl _ _ 35 rfl 0 3 i0 (.int .i64 0) 1 8 Tryz.underlying35 hi hz0 hz1 hz2 rfl (by decide) _ _ _ rfl R2.out.hi ⟨w1.heap.size, 0, none⟩ 1 1 [.int .i64 (k : Int)] rfl rfl ?c1 ?c2 ?c3 ?c4 ?c5 ?_)
      | go_in)
    case c1 =>
      intro j u hj
      match j, hj with
      | 0, hj => simp at hj; subst hj; simp [Addr.add]
    case c2 => intro u hu; simp at hu; subst hu; rfl
    case c3 => have := WH.out; unfold maxLen; omega
    case c4 => have := WH.out; omega
    case c5 => exact Nat.zero_le _
    rintro v' w2 hown' hgr - hat
    have ho : RowO w2 v' (a :: r) := HRR.out ▸ rowO_snoc hown'
    obtain ⟨g, cap, F, rfl, -, hF, hcap, hFv⟩ := own_arr ho (by simp)
    have R3 := Lib.hid (R2.out.growHigh ho hgr (by rw [sz.out]; exact hat))
    have kk : Keeps (fun j => (Value.slice A1 hg.length c1).ownBlock = some j) _ w2 := (Keeps.refl (fun j => (Value.slice A1 hg.length c1).ownBlock = some j) _).grown hgr (fun r e => .inl e)
    have t2 := R2.out.top.keep kk (fun x => own_ne R2.out.top R2.out.hi (by decide) b x rfl)
    have e2 := t2.cell (i := 3) (by omega)
    have f2 := t2.free 3
    simp only [rfF] at e2
    have R3 : Hid (RfV S w0 (w2.setCell ⟨b, 3, none⟩ (.slice (some ⟨g, 0, none⟩) N1 cap)) b n most (.slice Al lo.length cl) (.slice (some ⟨g, 0, none⟩) N1 cap) lo (a :: r)) := Lib.hid (HN.out ▸ R3.out)
    rw [HN.out]
    clear hown' hgr hat kk t2 c3 ho hF hFv hcap
    go_wp2_with fail
    have r1 := R3.out.c1
    have r2 := R3.out.c2
    have r3 := R3.out.c3
    have q0 : (w2.setCell ⟨b, 3, none⟩ (.slice (some ⟨g, 0, none⟩) N1 cap)).cell? ⟨g, 0, none⟩ = some (.int .i64 (a : Int)) := by
      obtain ⟨B', c', eB, hB⟩ := rdI_of R3.out.hi
      rcases hB with x | ⟨g', eg, hc⟩
      · cases x
      · subst eg
        obtain rfl : g = g' := by simp at eB; exact eB.1
        exact hc 0 (by simp)
    clear e2 f2
    generalize w2.setCell ⟨b, 3, none⟩ (.slice (some ⟨g, 0, none⟩) N1 cap) = W at *
    by_cases hc : N1 ≤ most
    · have hLH := HLH.out.1 hc
      have E1 := Lib.hid hLH.1
      have E2 := Lib.hid hLH.2
      clear hLH
      have d1 : decide ((most : Int) < (N1 : Int)) = false := decide_eq_false (by omega)
      have d2 : decide (most < N1) = false := decide_eq_false (by omega)
      clear hc
      go_quiet (fail)
      go_wp2
      go_ret
      exact ⟨rfl, _, _, by rw [E1.out, E2.out]; exact R3.out.drewN nq⟩
    · have hLH := HLH.out.2 hc
      have E1 := Lib.hid hLH.1
      have E2 := Lib.hid hLH.2
      clear hLH
      have d1 : decide ((most : Int) < (N1 : Int)) = true := decide_eq_true (by omega)
      have d2 : decide (most < N1) = true := decide_eq_true (by omega)
      clear hc
      go_quiet (fail)
      go_wp2_with fail
      have RQ := Lib.hid (R3.out.drewN nq)
      have s2 := RQ.out.c2
      have s3 := RQ.out.c3
      have s4 : (W.drewN nq).cell? ⟨g, 0, none⟩ = some (.int .i64 (a : Int)) := q0
      have z2 := RQ.out.top.free 2
      clear r1 r2 r3 q0 d1 d2
      generalize W.drewN nq = W5 at *
      have lb := RQ.out.top.lt
      have lg : g < W5.heap.size := World.block_lt_of_cell? W5 _ s4
      have nb : (Value.slice Al lo.length cl).ownBlock ≠ some b := fun e => own_ne RQ.out.top RQ.out.lo (by decide) b e rfl
      have ng : (Value.slice Al lo.length cl).ownBlock ≠ some g := fun e => RQ.out.apart g e rfl
      have p1 : (0 : Int) < (N1 : Int) := by have := HRL.out; omega
      have p2 : 0 < N1 := by have := HRL.out; omega
      have p3 : decide ((0 : Int) < (N1 : Int)) = true := decide_eq_true p1
      have p4 : decide (0 < N1) = true := decide_eq_true p2
      have FZ := Lib.hid (fun (o : Obj) (w6 : World) (hgrow : ((W5.alloc o).drew).grownBy w6 (Value.slice Al lo.length cl).ownBlock) => show w6.frozen? ⟨b, 2, none⟩ = false from (hgrow.frozen_far (⟨b, 2, none⟩ : Addr) (by simp; omega) (Ne.symm nb)).trans ((RQ.out.below ((Below.refl _ W5).alloc (Nat.le_refl _) o)).drew.top.free 2))
      have FY := Lib.hid (fun (o : Obj) (w6 : World) (hgrow : ((W5.alloc o).drew).grownBy w6 (Value.slice Al lo.length cl).ownBlock) => show w6.cell? ⟨b, 2, none⟩ = some (.slice Al lo.length cl) from (hgrow.cell_far (⟨b, 2, none⟩ : Addr) (by simp; omega) (Ne.symm nb)).trans ((RQ.out.below ((Below.refl _ W5).alloc (Nat.le_refl _) o)).drew.c2))
      have FX := Lib.hid (fun (o : Obj) (w6 : World) (hgrow : ((W5.alloc o).drew).grownBy w6 (Value.slice Al lo.length cl).ownBlock) => show w6.cell? ⟨b, 3, none⟩ = some (.slice (some ⟨g, 0, none⟩) N1 cap) from (hgrow.cell_far (⟨b, 3, none⟩ : Addr) (by simp; omega) (Ne.symm nb)).trans ((RQ.out.below ((Below.refl _ W5).alloc (Nat.le_refl _) o)).drew.c3))
      have FV := Lib.hid (fun (o : Obj) (w6 : World) (hgrow : ((W5.alloc o).drew).grownBy w6 (Value.slice Al lo.length cl).ownBlock) => show w6.cell? ⟨g, 0, none⟩ = some (.int .i64 (a : Int)) from (hgrow.cell_far (⟨g, 0, none⟩ : Addr) (by simp; omega) (Ne.symm ng)).trans ((((Below.refl _ W5).alloc (Nat.le_refl _) o).drew.cell (p := ⟨g, 0, none⟩) lg).trans s4))
      go_region_law
        ((refine step_append_lies _ (by rfl) _ _ _ (by rfl) 0 3 i0 _ 1 8 Tryz.underlying35 hi hz0 hz1 hz2 rfl (by decide) (.slice Al lo.length cl) lo.length (lo.map intV) (by rfl) ((RQ.out.lo.alloc _).drew)
              ⟨W5.heap.size, 0, none⟩ 1 1 [.int .i64 (a : Int)] (by rfl) (by rfl) (World.news_of_block (cs := #[.int .i64 (a : Int)]) (t := 3) (fr := (0, 0)) (heap_alloc_new W5 _)) (by simp [Value.oneCell'])
              (by omega) (by have := WL.out; unfold maxLen; omega) (by have := WL.out; omega) (Nat.zero_le _) (W5.heap.size + 1) (by simp) ?_; intro gg cap1 w6 hown6 hgrow hat6 hlt6; have z6 := FZ.out _ _ hgrow; have y6 := FY.out _ _ hgrow; have x6 := FX.out _ _ hgrow; have v6 := FV.out _ _ hgrow; have HO := Lib.hid hown6; have HG := Lib.hid hgrow; have HT := Lib.hid hat6; clear hown6 hgrow hat6 hlt6))
      all_goals (
        have R7 := Lib.hid (((RQ.out.below ((Below.refl _ W5).alloc (Nat.le_refl _) (.cells #[.int .i64 (a : Int)] 3))).drew).growLow (rowO_snoc HO.out) HG.out (HT.out.imp (fun e => e.symm) (fun e => by rw [e]; simp [Value.ownBlock])))
        clear y6 x6 v6 z6
        have hcap1 : N1 ≤ cap := by
          rcases R7.out.hi.2 with ⟨x, _⟩ | ⟨_, _, _, x, _, _, y, _⟩
          · cases x
          · simp at x; have := HN.out; omega
        generalize w6.setCell ⟨b, 2, none⟩ (.slice (some ⟨gg, 0, none⟩) (lo.length + 1) cap1) = W7 at *
        have R8 := Lib.hid (R7.out.below ((Below.refl _ W7).alloc (Nat.le_refl _) (.cells #[] 3)))
        have u3 := R8.out.c3
        have fz := R8.out.top.free 3
        have m1 : (1 : Int) ≤ (N1 : Int) := by omega
        have m2 : (N1 : Int) ≤ (cap : Int) := by omega
        have OE := Lib.hid (World.ownsRow_made (base := 0) (size := 1) (e := 3) W7 #[] 0 (Nat.zero_le _) (Nat.zero_le _) rfl)
        have NW := Lib.hid (tail_cells (rdI_of R8.out.hi))
        have HL := Lib.hid (show (r.map intV).length = (N1 - 1) * 1 by have := HN.out; simp at this ⊢; omega)
        have HR := Lib.hid (show r.length = N1 - 1 by have := HN.out; simp at this ⊢; omega)
        by_cases hz : cap = 1
        · have hr0 : r = [] := List.eq_nil_of_length_eq_zero (by have := HR.out; omega)
          subst hr0
          subst hz
          obtain rfl : N1 = 1 := by omega
          clear NW HL
          have HL0 := Lib.hid (show (List.map intV []).length = 0 * 1 from rfl)
          go_wp2_with (at_builtin; refine wpList_append_own_at _ rfl _ _ 35 rfl 0 3 i0 (.int .i64 0) 1 8 Tryz.underlying35 hi hz0 hz1 hz2 rfl (by decide) _ _ _ rfl OE.out ⟨g, 0, none⟩ 0 0 (List.map intV []) rfl HL0.out ?c1 ?c2 ?c3 ?c4 ?c5 ?_)
          case c1 => intro j u hj; simp at hj
          case c2 => intro u hu; simp at hu
          case c3 => have := WH.out; have := HRL.out; unfold maxLen; omega
          case c4 => have := WH.out; have := HRL.out; omega
          case c5 => exact Nat.zero_le _
          rintro v9 w9 hown9 hg9 - hat9
          have T9 := R7.out.tailHigh (r := []) (N := 0) rfl (by simpa using hown9) hg9 hat9
          obtain ⟨A9, c9, rfl⟩ := own_slice hown9
          have T9' := Lib.hid T9.1
          have q1 := T9.2.1
          have q2 := T9.2.2
          clear T9 hown9 hg9 hat9 u3 fz
          go_wp2
          go_ret
          exact ⟨rfl, _, _, by rw [E1.out, E2.out]; exact T9'.out⟩
        · go_wp2_with (at_builtin; refine wpList_append_own_at _ rfl _ _ 35 rfl 0 3 i0 (.int .i64 0) 1 8 Tryz.underlying35 hi hz0 hz1 hz2 rfl (by decide) _ _ _ rfl OE.out ⟨g, 1, none⟩ (N1 - 1) (cap - 1) (r.map intV) rfl HL.out ?c1 ?c2 ?c3 ?c4 ?c5 ?_)
          case c1 => exact NW.out
          case c2 => intro u hu; obtain ⟨x, _, rfl⟩ := List.mem_map.1 hu; rfl
          case c3 => have := WH.out; have := HRL.out; unfold maxLen; omega
          case c4 => have := WH.out; have := HRL.out; omega
          case c5 => exact Nat.zero_le _
          rintro v9 w9 hown9 hg9 - hat9
          have T9 := R7.out.tailHigh HR.out hown9 hg9 hat9
          obtain ⟨A9, c9, rfl⟩ := own_slice hown9
          have T9' := Lib.hid T9.1
          have q1 := T9.2.1
          have q2 := T9.2.2
          clear T9 hown9 hg9 hat9 u3 fz
          go_wp2
          go_ret
          exact ⟨rfl, _, _, by rw [E1.out, E2.out]; exact T9'.out⟩)
  · rw [if_neg hi]
    simp only [if_neg hi] at LV
    have LV := Lib.hid LV
    clear h hi hl hh
    go_enter Tryz.func72, Tryz.ntmps72
    go_wp2_with fail
    refine LV.out.mono ?_
    rintro e w' ⟨rfl, vl1, vh1, r1⟩
    have R1 := Lib.hid r1
    clear r1
    go_wp2
    go_ret
    exact ⟨rfl, _, _, R1.out⟩
end

end Go.Proofs.YtdbgehplmllgdaaGreat


/- The document's order of slots: All, New. -/
namespace Go.Proofs.YtdbgehplmllgdaaGreat
open Go.RowKit Fl
set_option linter.unusedVariables false

/-- A row behind another one: a step of a region that draws. -/
theorem step_row {ops : Array Oper} {o : Oper} {a : Act} {K : Act → World → Prop} {Q : Exit → Act → World → Prop} {E : Prop} {w : World} (hgd : o.guard = none) (s x : Operand)
    (ho : o.op = .call { callee := .builtin .append, args := #[s, x], argTypes := #[35, 35] })
    (base : Nat) (v u : Value) (xs l : List Nat) (hs : a.eval s = v) (hx : a.eval x = u) (hown : w.ownsRow base 3 1 v xs.length (xs.map intV)) (hu : RowO w u l) (hb : base ≤ w.heap.size) (hn : xs.length + l.length ≤ 1000000)
    (h : ∀ v' w', w'.ownsRow base 3 1 v' (xs ++ l).length ((xs ++ l).map intV) → w.grownBy w' v.ownBlock → K (a.put o.dst v') w') :
    if Region.wanted o (yielded ops a.tmps) = true then Oper.wp Tryz.prog o a w K Q else E := by
  have hw : Region.wanted o (yielded ops a.tmps) = true := by simp [Region.wanted, hgd]
  rw [if_pos hw]
  obtain ⟨i0, hi, hz0, hz1, hz2⟩ := info_parts infoInt
  rcases hu.2 with ⟨rfl, h0⟩ | ⟨g, cap, cur, rfl, hbg, hh, hc, hm, hs', ht⟩
  · obtain rfl : l = [] := List.eq_nil_of_length_eq_zero h0
    have hrun := run_append_owned_none (P := Tryz.prog) (w := w) base 35 o.type 3 i0 1 Tryz.underlying35 hi v xs.length (xs.map intV) hown
    have h1 := h v w (by simpa using hown) (World.grownBy.refl w _)
    unfold Oper.wp
    simp [execOp, ho, resolve, invoke, builtin, hs, hx, hrun, Result.andThen]
    exact h1
  · refine wp_append_own w s x 35 ho base 3 i0 (.int .i64 0) 1 8 Tryz.underlying35 hi hz0 hz1 hz2 rfl (by decide) v xs.length (xs.map intV) hs hown ⟨g, 0, none⟩ l.length cap (l.map intV) hx (by simp) (hu.cells (g := g) rfl) (fun y hy => ?_) (by unfold maxLen; omega) (by omega) hb (fun v' w' h1 h2 _ => h v' w' (by simpa using h1) h2)
    obtain ⟨z, _, rfl⟩ := List.mem_map.1 hy
    rfl

section
variable {S : Nat → Prop} {w0 w : World} {b n most : Nat} {low high : List Nat} {vl vh : Value}

set_option maxRecDepth 100000 in
set_option maxHeartbeats 4000000 in
theorem rf_all (h : RfV S w0 w b n most vl vh low high) (hl : low.length ≤ 1024) (hh : high.length ≤ 1024) :
    Calls Tryz.prog 79 #[.pointer (some ⟨b, 0, none⟩)] w fun e w' => ∃ v, e = .returned v ∧ w'.ownsRow w.heap.size 3 1 v (low ++ high).length ((low ++ high).map intV) ∧ Below w.heap.size w w' := by
  obtain ⟨A, ca, rfl⟩ := own_slice h.lo
  obtain ⟨B, cb, rfl⟩ := own_slice h.hi
  have c2 := h.c2
  have c3 := h.c3
  have lb := h.top.lt
  have H := Lib.hid h
  have HL := Lib.hid hl
  have HH := Lib.hid hh
  have OE := Lib.hid (World.ownsRow_made (base := w.heap.size) (size := 1) (e := 3) w.drew #[] 0 (Nat.le_refl _) (Nat.zero_le _) rfl)
  have B0 := Lib.hid (((Below.refl w.heap.size w).drew).alloc (Nat.le_refl _) (.cells #[] 3))
  have KL := Lib.hid (fun (W : World) (k : Below w.heap.size w W) => (H.out.below k).lo)
  have KH := Lib.hid (fun (W : World) (k : Below w.heap.size w W) => (H.out.below k).hi)
  have K3 := Lib.hid (fun (W : World) (k : Below w.heap.size w W) => (H.out.below k).c3)
  have FB := Lib.hid (fun (W : World) (hg : (w.drew.alloc (.cells #[] 3)).grownBy W (Value.slice (some ⟨w.heap.size, 0, none⟩) 0 0).ownBlock) => B0.out.grown hg (by simp) (fun k e => by simp [Value.ownBlock] at e; omega))
  clear h hl hh
  go_enter Tryz.func79, Tryz.ntmps79
  go_wp2_with fail
  go_region_law
    (first
      | ((refine step_row (by rfl) _ _ (by rfl) w.heap.size V1 _ low high (by rfl) (by rfl) O1.out (KH.out _ B1.out) B1.out.size (by have := HL.out; have := HH.out; omega) ?_; intro v2 w2 o2 g2; have O2 := Lib.hid o2; have B2 := Lib.hid (B1.out.grown g2 B1.out.size (fun k e => own_ge O1.out k e)); clear o2 g2))
      | ((refine step_row (by rfl) _ _ (by rfl) w.heap.size _ _ [] low (by rfl) (by rfl) OE.out (KL.out _ B0.out) (by simp) (by have := HL.out; simp; omega) ?_; intro V1 w1 o1 g1; have O1 := Lib.hid (show w1.ownsRow w.heap.size 3 1 V1 low.length (low.map intV) from o1); have B1 := Lib.hid (FB.out _ g1); have c3' := K3.out _ B1.out; clear o1 g1)))
  all_goals (
    go_wp2
    go_ret
    exact ⟨_, rfl, O2.out, B2.out⟩)

theorem rf_new (w : World) (f : Nat) (hf : f < 18446744073709551616) (hn : n ≤ 1024) (hm : (most : Int) = shareI n f) :
    Calls Tryz.prog 69 #[.int .i64 (n : Int), .float .f64 f] w fun e w' => ∃ b, e = .returned (.pointer (some ⟨b, 0, none⟩)) ∧ RfO b n most [] [] (New w w') w' ∧ Below w.heap.size w w' := by
  have SH := rShare_any n f hf w
  rw [← hm] at SH
  have SH := Lib.hid SH
  clear hm
  go_enter Tryz.func69, Tryz.ntmps69
  go_wp2_with fail
  refine SH.out.mono ?_
  rintro e w' ⟨rfl, rfl⟩
  go_wp2
  go_ret
  refine ⟨_, rfl, ⟨.slice none 0 0, .slice none 0 0, Arr.mk_ (L := 4) (heap_at _ _ _ rfl) (by rfl) (fun i (hi : i < 4) => ?_), World.ownsRow_nil _ _ _ _, World.ownsRow_nil _ _ _ _, ⟨Nat.le_refl _, by rw [World.size_alloc]; omega⟩, fun j e => by simp [Value.ownBlock] at e, fun j e => by simp [Value.ownBlock] at e, fun j e => by simp [Value.ownBlock] at e⟩, (Below.refl _ _).alloc (Nat.le_refl _) _⟩
  have : i = 0 ∨ i = 1 ∨ i = 2 ∨ i = 3 := by omega
  rcases this with rfl | rfl | rfl | rfl <;> rfl
end

end Go.Proofs.YtdbgehplmllgdaaGreat
