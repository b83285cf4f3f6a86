/- Maps as functions: a block that is a map holds at x what M x says; a reader of elements that tells values apart; elements that are slices read by their headers. -/
import Derived.Test.YtlfeglnacphhlaaFr
import Derived.Maps.OwnOps
import Derived.Maps.OwnSet
import Derived.Maps.RangeWalk
import Derived.Maps.Views
namespace Go.Proofs.Ytlfeglnacphhlaa
open Go.RowKit Go.Maps Go.WideMaps Go.WideElems Go.MapKept
set_option linter.unusedVariables false

/-- A slice's header as numbers; nil reads as nought. -/
def hdr {H : Type} (v : Value) : Option (DataW H × List MemPlace) :=
  match v with
  | .slice none 0 0 => some (.lit (.int .i64 0), [])
  | .slice (some ⟨g, 0, none⟩) n c => some (.slice [.lit (.int .i64 g), .lit (.int .i64 n), .lit (.int .i64 c)] [], [])
  | _ => none

theorem hdr_nil {H : Type} : hdr (H := H) (.slice none 0 0) = some (.lit (.int .i64 0), []) := rfl
theorem hdr_some {H : Type} (g n c : Nat) : hdr (H := H) (.slice (some ⟨g, 0, none⟩) n c) = some (.slice [.lit (.int .i64 g), .lit (.int .i64 n), .lit (.int .i64 c)] [], []) := rfl

/-- A reader of elements that tells values apart. -/
def Told {H : Type} (R : Value → Option (DataW H × List MemPlace)) : Prop := ∀ u v d p q, R u = some (d, p) → R v = some (d, q) → u = v

/-- A header is known by how it reads. -/
theorem hdr_told {H : Type} : Told (hdr (H := H)) := by
  intro u v d p q hu hv
  unfold hdr at hu hv
  split at hu <;> split at hv <;> simp at hu hv
  · rfl
  · obtain ⟨hu, -⟩ := hu; obtain ⟨hv, -⟩ := hv; rw [← hu] at hv; cases hv
  · obtain ⟨hu, -⟩ := hu; obtain ⟨hv, -⟩ := hv; rw [← hu] at hv; cases hv
  · obtain ⟨hu, -⟩ := hu; obtain ⟨hv, -⟩ := hv; rw [← hu] at hv
    simp at hv
    obtain ⟨a, b, c⟩ := hv
    rw [Int.ofNat_inj.1 a, Int.ofNat_inj.1 b, Int.ofNat_inj.1 c]

theorem plain_told {H : Type} {P : Program} {e : TypeId} {q : IntKind} (he : P.underlying e = some (.int q)) : Told (plainElem (H := H) P e) := by
  intro u v d p p' hu hv
  obtain ⟨a, rfl, h1, _⟩ := plainElem_int_inv he hu
  obtain ⟨b, rfl, h2, _⟩ := plainElem_int_inv he hv
  simp at h1 h2
  rw [h1.1] at h2
  simpa using h2.1

/-- Block b is a map with keys of kind q and n entries; at x it holds M x. -/
def MapV (P : Program) (k : TypeId) (q : IntKind) (R : Value → Option (DataW Unit × List MemPlace)) (w : World) (b n : Nat) (M : Int → Option Value) : Prop :=
  ∃ D : DataW Unit, w.ownsMap P k R b n D ∧ Maps.size D = n ∧ ∀ x, (Lit.int q x).wf = true → match M x with
    | none => Maps.has D (.int q x) = false
    | some v => ∃ d ps, R v = some (d, ps) ∧ ∀ z, D.atKey (.int q x) z = d

theorem ownsMap_tight {P : Program} {k : TypeId} {R : Value → Option (DataW Unit × List MemPlace)} {w : World} {b n : Nat} {D : DataW Unit} (h : w.ownsMap P k R b n D) : w.ownsMap P k R b (Maps.size D) D := by
  obtain ⟨es, clock, hb, F, hs, rfl⟩ := h
  exact ⟨es, clock, hb, F, by simp [Maps.size, length_sorted], rfl⟩

theorem isKey_int (q : IntKind) (x : Int) : WideAt.IsKeyLit (.int q x) := by simp [WideAt.IsKeyLit]

section
variable {P : Program} {k : TypeId} {q : IntKind} {R : Value → Option (DataW Unit × List MemPlace)} {w w' : World} {b n : Nat} {M N : Int → Option Value}

theorem MapV.congr (h : MapV P k q R w b n M) (e : ∀ x, (Lit.int q x).wf = true → M x = N x) : MapV P k q R w b n N := by
  obtain ⟨D, h1, h2, h3⟩ := h
  exact ⟨D, h1, h2, fun x hx => by rw [← e x hx]; exact h3 x hx⟩

theorem MapV.lt (h : MapV P k q R w b n M) : b < w.heap.size := by
  obtain ⟨D, h1, _⟩ := h
  exact h1.lt

theorem MapV.keep {S : Nat → Prop} (h : MapV P k q R w b n M) (kp : Keeps S w w') (hS : ¬ S b) : MapV P k q R w' b n M := by
  obtain ⟨D, ⟨es, clock, hb, r⟩, h2⟩ := h
  exact ⟨D, ⟨es, clock, kp.blk hb hS, r⟩, h2⟩

theorem MapV.drewN (h : MapV P k q R w b n M) (m : Nat) : MapV P k q R (w.drewN m) b n M := h

theorem MapV.ne_arr (h : MapV P k q R w b n M) {g L : Nat} {t : TypeId} {F : Nat → Value} (a : Arr w g t L F) : b ≠ g := by
  rintro rfl
  obtain ⟨D, ⟨es, clock, hb, _⟩, _⟩ := h
  obtain ⟨cs, hc, _⟩ := a
  rw [hb] at hc
  cases hc

theorem MapV.made (P : Program) (k : TypeId) (q : IntKind) (R : Value → Option (DataW Unit × List MemPlace)) (w : World) : MapV P k q R (w.alloc (.map #[] 0)) w.heap.size 0 (fun _ => none) :=
  ⟨.map [], World.ownsMap_made w P k R, rfl, fun x hx => rfl⟩

theorem keeps_turned {b : Nat} (h : w.mapTurned w' b) : Keeps (fun j => j = b) w w' := by
  have g := h.grown
  exact ⟨g.os, g.tape, g.output, g.size, fun j hj hn => g.block j hj (fun e => hn (by simpa using e))⟩

theorem turned_size {b : Nat} (h : w.mapTurned w' b) : w'.heap.size = w.heap.size := by
  obtain ⟨es, clock, es', clock', hb, rfl⟩ := h
  simp [ChangeMaps.setBlock]

variable {t e : TypeId}

/-- 'm[x]'. -/
theorem MapV.look (h : MapV P k q R w b n M) (hk : P.underlying k = some (.int q)) (ht : P.underlying t = some (.map k e)) (T : Told R) {z : Value} (hz : (zeroValue e).run P w = .ok z w) {zd : DataW Unit} {zp : List MemPlace} (hzd : R z = some (zd, zp)) (x : Int) (hx : (Lit.int q x).wf = true) :
    (Instr.lookup t (.map (some b)) (.int q x) false).run P w = .ok ((M x).getD z) w := by
  obtain ⟨D, h1, h2, h3⟩ := h
  obtain ⟨v, ps, hrun, hv⟩ := h1.lookup (int_keyed hk) ht hz hzd (keyOf_int_mk hk hx)
  have := h3 x hx
  rw [hrun]
  cases hM : M x with
  | none =>
    rw [hM] at this
    rw [atKey_of_not_has this] at hv
    rw [T _ _ _ _ _ hv hzd]; rfl
  | some u =>
    rw [hM] at this
    obtain ⟨d, ps', hu, hd⟩ := this
    rw [hd] at hv
    rw [T _ _ _ _ _ hv hu]; rfl

/-- 'v, ok := m[x]'. -/
theorem MapV.look_ok (h : MapV P k q R w b n M) (hk : P.underlying k = some (.int q)) (ht : P.underlying t = some (.map k e)) (T : Told R) {z : Value} (hz : (zeroValue e).run P w = .ok z w) {zd : DataW Unit} {zp : List MemPlace} (hzd : R z = some (zd, zp)) (x : Int) (hx : (Lit.int q x).wf = true) :
    (Instr.lookup t (.map (some b)) (.int q x) true).run P w = .ok (.tuple #[(M x).getD z, .bool (M x).isSome]) w := by
  obtain ⟨D, h1, h2, h3⟩ := h
  obtain ⟨v, ps, hrun, hv⟩ := h1.look_ok (int_keyed hk) ht hz hzd (keyOf_int_mk hk hx)
  have := h3 x hx
  rw [hrun]
  cases hM : M x with
  | none =>
    rw [hM] at this
    rw [atKey_of_not_has this] at hv
    rw [T _ _ _ _ _ hv hzd, this]; rfl
  | some u =>
    rw [hM] at this
    obtain ⟨d, ps', hu, hd⟩ := this
    have hh := has_true_of_atKey hd
    rw [hd] at hv
    rw [T _ _ _ _ _ hv hu, hh]; rfl

/-- 'm[x] = v'. -/
theorem MapV.store (h : MapV P k q R w b n M) (hk : P.underlying k = some (.int q)) (ht : P.underlying t = some (.map k e)) (hn : n < maxLen) (x : Int) (hx : (Lit.int q x).wf = true) {v : Value} {d : DataW Unit} {ps : List MemPlace} (hv : R v = some (d, ps)) :
    ∃ w', (Instr.mapUpdate t (.map (some b)) (.int q x) v).run P w = .ok () w' ∧ MapV P k q R w' b (if (M x).isSome then n else n + 1) (fun y => if y = x then some v else M y) ∧ w.mapTurned w' b := by
  obtain ⟨D, h1, h2, h3⟩ := h
  have K := int_keyed hk
  obtain ⟨w', hrun, h4, h5⟩ := h1.store K ht hn (keyOf_int_mk hk hx) hv
  have hsz : Maps.size (D.put (.int q x) d) = if (M x).isSome then n else n + 1 := by
    have := h3 x hx
    rw [size_put (h1.tidy K), h2]
    cases hM : M x with
    | none => rw [hM] at this; simp only at this; rw [this]; rfl
    | some u => rw [hM] at this; obtain ⟨d', ps', hu, hd⟩ := this; rw [has_true_of_atKey hd]; rfl
  refine ⟨w', hrun, ⟨_, hsz ▸ ownsMap_tight h4, hsz, fun y hy => ?_⟩, h5⟩
  by_cases e1 : y = x
  · subst e1
    simp only [if_true]
    exact ⟨d, ps, hv, fun z => atKey_put_same h1.isMap (isKey_int q y) d z⟩
  · simp only [if_neg e1]
    have hne : (Lit.int q y) ≠ .int q x := fun e2 => e1 (by simpa using e2)
    have := h3 y hy
    cases hM : M y with
    | none => rw [hM] at this; simp only at this ⊢; rw [has_put_other hne]; exact this
    | some u =>
      rw [hM] at this
      obtain ⟨d', ps', hu, hd⟩ := this
      exact ⟨d', ps', hu, fun z => by rw [atKey_put_other hne]; exact hd z⟩

theorem MapV.count (h : MapV P k q R w b n M) (hk : P.underlying k = some (.int q)) {x : Int} (hx : (Lit.int q x).wf = true) (hs : (M x).isSome = true) : 0 < n := by
  obtain ⟨D, h1, h2, h3⟩ := h
  have := h3 x hx
  obtain ⟨u, hu⟩ := Option.isSome_iff_exists.1 hs
  rw [hu] at this
  obtain ⟨d, ps, _, hd⟩ := this
  have e := size_del (k := .int q x) (h1.tidy (int_keyed hk))
  rw [has_true_of_atKey hd] at e
  simp at e
  omega

/-- What 'delete' leaves of a map as a function. -/
theorem mapV_del {D : DataW Unit} (hT : Tidy D) (hs : Maps.size D = n) (h3 : ∀ y, (Lit.int q y).wf = true → match M y with
    | none => Maps.has D (.int q y) = false
    | some v => ∃ d ps, R v = some (d, ps) ∧ ∀ z, D.atKey (.int q y) z = d) (x : Int) (hx : (Lit.int q x).wf = true) :
    Maps.size (D.del (.int q x)) = (if (M x).isSome then n - 1 else n) ∧ ∀ y, (Lit.int q y).wf = true → match (if y = x then none else M y) with
    | none => Maps.has (D.del (.int q x)) (.int q y) = false
    | some v => ∃ d ps, R v = some (d, ps) ∧ ∀ z, (D.del (.int q x)).atKey (.int q y) z = d := by
  constructor
  · have := h3 x hx
    have e1 := size_del (k := .int q x) hT
    rw [hs] at e1
    cases hM : M x with
    | none => rw [hM] at this; simp only at this; rw [this] at e1; simpa using e1
    | some u =>
      rw [hM] at this; obtain ⟨d', ps', hu, hd⟩ := this
      rw [has_true_of_atKey hd] at e1
      simp at e1 ⊢
      omega
  · intro y hy
    by_cases e1 : y = x
    · subst e1
      simp only [if_true]
      exact has_del_same
    · simp only [if_neg e1]
      have hne : (Lit.int q y) ≠ .int q x := fun e2 => e1 (by simpa using e2)
      have := h3 y hy
      cases hM : M y with
      | none => rw [hM] at this; simp only at this ⊢; rw [has_del_other hne]; exact this
      | some u =>
        rw [hM] at this
        obtain ⟨d', ps', hu, hd⟩ := this
        exact ⟨d', ps', hu, fun z => by rw [atKey_del_other hne]; exact hd z⟩

/-- 'delete(m, x)'. -/
theorem MapV.drop (h : MapV P k q R w b n M) (hk : P.underlying k = some (.int q)) (ht : P.underlying t = some (.map k e)) (x : Int) (hx : (Lit.int q x).wf = true) (ty : TypeId) :
    ∃ w', (Builtin.delete_ #[t, k] ty #[.map (some b), .int q x]).run P w = .ok (.tuple #[]) w' ∧ MapV P k q R w' b (if (M x).isSome then n - 1 else n) (fun y => if y = x then none else M y) ∧ w.mapTurned w' b := by
  obtain ⟨D, h1, h2, h3⟩ := h
  have K := int_keyed hk
  obtain ⟨w', hrun, h4, h5⟩ := h1.drop K ht (keyOf_int_mk hk hx) ty
  obtain ⟨hsz, hM⟩ := mapV_del (h1.tidy K) h2 h3 x hx
  exact ⟨w', hrun, ⟨_, hsz ▸ ownsMap_tight h4, hsz, hM⟩, h5⟩

/-- 'len(m)'. -/
theorem MapV.len (h : MapV P k q R w b n M) (ht : P.underlying t = some (.map k e)) (ty : TypeId) : (Builtin.len_ #[t] ty #[.map (some b)]).run P w = .ok (.int .i64 (n : Int)) w := by
  obtain ⟨D, h1, h2, h3⟩ := h
  rw [h1.len ht ty, h2]

/-- 'clear(m)'. -/
theorem MapV.clear (h : MapV P k q R w b n M) (ht : P.underlying t = some (.map k e)) (ty : TypeId) :
    ∃ w', (Builtin.clear_ #[t] ty #[.map (some b)]).run P w = .ok (.tuple #[]) w' ∧ MapV P k q R w' b 0 (fun _ => none) ∧ w.mapTurned w' b := by
  obtain ⟨D, ⟨es, clock, hb, F, hs, rfl⟩, h2⟩ := h
  refine ⟨ChangeMaps.setBlock w b (.map #[] clock), ?_, ⟨.map [], ⟨#[], clock, ChangeMaps.heap_setBlock_same hb _, ⟨by simp, ?_, by simp⟩, Nat.le_refl _, rfl⟩, rfl, fun x hx => rfl⟩, ⟨es, clock, #[], clock, hb, rfl⟩⟩
  · simp [Builtin.clear_, run_underlying ht, MapKept.run_getObj_map hb, ChangeMaps.setBlock, Go.setObj, Sem.run, hb, Result.andThen]
  · exact stamped_empty clock
end

end Go.Proofs.Ytlfeglnacphhlaa
