/- Ranges over maps as functions. -/
import Derived.Test.YtlfeglnacphhlaaMp
namespace Go.Proofs.Ytlfeglnacphhlaa
open Go.RowKit Go.Maps Go.WideMaps Go.WideElems Go.MapKept
set_option linter.unusedVariables false

/-- A range over the map in block b by the iterator in block r: n entries; it holds M; L says which keys are still to come, c how many. -/
def RangeV (P : Program) (k : TypeId) (q : IntKind) (R : Value → Option (DataW Unit × List MemPlace)) (w : World) (b r n : Nat) (M : Int → Option Value) (L : Int → Bool) (c : Nat) : Prop :=
  ∃ (D : DataW Unit) (left : Lit → Bool), w.ranges P k R b r n D left c ∧ Maps.size D = n ∧ (∀ x, (Lit.int q x).wf = true → left (.int q x) = L x) ∧ ∀ x, (Lit.int q x).wf = true → match M x with
    | none => Maps.has D (.int q x) = false
    | some v => ∃ d ps, R v = some (d, ps) ∧ ∀ z, D.atKey (.int q x) z = d

section
variable {P : Program} {k : TypeId} {q : IntKind} {R : Value → Option (DataW Unit × List MemPlace)} {w w' : World} {b r n c : Nat} {M : Int → Option Value} {L L' : Int → Bool}

theorem RangeV.map (h : RangeV P k q R w b r n M L c) : MapV P k q R w b n M := by
  obtain ⟨D, left, h1, h2, h3, h4⟩ := h
  exact ⟨D, h1.owns, h2, h4⟩

theorem RangeV.keep {S : Nat → Prop} (h : RangeV P k q R w b r n M L c) (kp : Keeps S w w') (hb : ¬ S b) (hr : ¬ S r) : RangeV P k q R w' b r n M L c := by
  obtain ⟨D, left, h1, h2⟩ := h
  have hlb := h1.owns.lt
  have hlr := h1.lt
  obtain ⟨es, clock, since, seen, c0, ha, F, hs, hD, hi, rest⟩ := h1
  exact ⟨D, left, ⟨es, clock, since, seen, c0, (kp.block b hlb hb).trans ha, F, hs, hD, (kp.block r hlr hr).trans hi, rest⟩, h2⟩

theorem RangeV.ne (h : RangeV P k q R w b r n M L c) : r ≠ b := by
  obtain ⟨D, left, h1, _⟩ := h
  exact h1.ne

theorem RangeV.lt (h : RangeV P k q R w b r n M L c) : r < w.heap.size := by
  obtain ⟨D, left, h1, _⟩ := h
  exact h1.lt

theorem RangeV.left_eq (h : RangeV P k q R w b r n M L c) : w.rangeLeft b r = c := by
  obtain ⟨D, left, h1, _⟩ := h
  exact h1.left_eq

theorem RangeV.congr (h : RangeV P k q R w b r n M L c) (e : ∀ x, (Lit.int q x).wf = true → L x = L' x) : RangeV P k q R w b r n M L' c := by
  obtain ⟨D, left, h1, h2, h3, h4⟩ := h
  exact ⟨D, left, h1, h2, fun x hx => (h3 x hx).trans (e x hx), h4⟩

/-- What is still to come is there. -/
theorem RangeV.there (h : RangeV P k q R w b r n M L c) (hk : P.underlying k = some (.int q)) {x : Int} (hx : (Lit.int q x).wf = true) (hl : L x = true) : (M x).isSome = true := by
  obtain ⟨D, left, ⟨es, clock, since, seen, c0, ha, F, hs, hD, hi, h5, h6, h7, h8, h9⟩, h2, h3, h4⟩ := h
  rw [← h3 x hx] at hl
  obtain ⟨e, he, hek⟩ := h8 _ hl
  have hM := h4 x hx
  cases hm : M x with
  | some v => rfl
  | none =>
    rw [hm] at hM
    simp only at hM
    rw [hD] at hM
    have := (List.any_eq_false.1 hM) (rg P k R e) (mem_sorted.2 (List.mem_map.2 ⟨e, he, rfl⟩))
    rw [hek, WideAt.sameKey_self (isKey_int q x)] at this
    exact absurd rfl this

variable {ops : Array Oper} {rest : List Oper} {o : Oper} {a : Act} {Q : Exit → Act → World → Prop} {t e : TypeId}

/-- 'range m'. -/
theorem wpList_range_v (hg : o.guard = none) (m : Operand) (hop : o.op = Op.range t m) (hk : P.underlying k = some (.int q)) (ht : P.underlying t = some (.map k e))
    (hm : a.eval m = .map (some b)) (h : MapV P k q R w b n M)
    (hK : ∀ w', RangeV P k q R w' b w.heap.size n M (fun x => (M x).isSome) n → Keeps (fun _ => False) w w' → w'.heap.size = w.heap.size + 1 → wpList P ops Q rest (a.put o.dst (.pointer (some ⟨w.heap.size, 0, none⟩))) w') :
    wpList P ops Q (o :: rest) a w := by
  obtain ⟨D, h1, h2, h3⟩ := h
  refine wpList_range_own (H := Unit) w hg m t hop k e (int_keyed hk) ht R b n D hm h1 fun w' hr hgr hs => hK w' ⟨D, _, by rw [← h2]; rw [h2]; rw [h2] at hr; exact hr, h2, fun x hx => ?_, h3⟩ ⟨hgr.os, hgr.tape, hgr.output, hgr.size, fun j hj _ => hgr.block j hj (by simp)⟩ hs
  have := h3 x hx
  cases hM : M x with
  | none => rw [hM] at this; show Maps.has D _ = (M x).isSome; rw [hM]; exact this
  | some v => rw [hM] at this; obtain ⟨d, ps, _, hd⟩ := this; show Maps.has D _ = (M x).isSome; rw [hM, has_true_of_atKey hd]; rfl

/-- The step, where what is to come lies at keys that are not below nought; V says what lies there. -/
theorem wpList_next_v (hg : o.guard = none) (it : Operand) (hop : o.op = Op.next it false) (hk : P.underlying k = some (.int q)) (T : Told R)
    (hit : a.eval it = .pointer (some ⟨r, 0, none⟩)) (h : RangeV P k q R w b r n M L c) (V : Nat → Value) (h0 : ∀ x, L x = true → 0 ≤ x) (hV : ∀ i : Nat, L i = true → M i = some (V i))
    (hDone : c = 0 → (∀ x, (Lit.int q x).wf = true → L x = false) → wpList P ops Q rest (a.put o.dst (.tuple #[.bool false])) w)
    (hMore : ∀ (i : Nat) (w' : World) (c' : Nat), (Lit.int q (i : Int)).wf = true → L i = true → RangeV P k q R w' b r n M (fun y => L y && !(y == (i : Int))) c' → c' < c → Keeps (fun j => j = r) w w' → w'.heap.size = w.heap.size →
      (Instr.entry (.pointer (some ⟨r, 0, none⟩))).run P w' = .ok (.tuple #[.int q (i : Int), V i]) w' → wpList P ops Q rest (a.put o.dst (.tuple #[.bool true, .int q (i : Int), V i])) w') :
    wpList P ops Q (o :: rest) a w := by
  obtain ⟨D, left, h1, h2, h3, h4⟩ := h
  refine wpList_plain hg fun K' hK' => ?_
  unfold Oper.wp
  rcases h1.next (int_keyed hk) o.type with ⟨hc, hl, hrun⟩ | ⟨key, v, kl, y, w', c', hkey, hlk, hv, hat, hrun, hrg, hlt, hgr, hsz, hen⟩
  · simp [execOp, hop, hit, hrun, Result.andThen]
    exact hK' _ _ (hDone hc (fun x hx => by rw [← h3 x hx]; exact hl _))
  · obtain ⟨x, rfl, rfl, hwx⟩ := Maps.keyOf_int_inv hk hkey
    have hlx : L x = true := by rw [← h3 x hwx]; exact hlk
    obtain ⟨i, rfl⟩ : ∃ i : Nat, x = (i : Int) := ⟨x.toNat, by have := h0 x hlx; omega⟩
    have hMi := hV i hlx
    have h5 := h4 _ hwx
    rw [hMi] at h5
    obtain ⟨d, ps, hRV, hd⟩ := h5
    obtain rfl : v = V i := T _ _ _ _ _ (show R v = some (y.1, y.2) from hv) (by rw [hRV, ← hat .nil, hd])
    simp [execOp, hop, hit, hrun, Result.andThen]
    refine hK' _ _ (hMore i w' c' hwx hlx ⟨D, _, hrg, h2, fun y hy => ?_, h4⟩ hlt ⟨hgr.os, hgr.tape, hgr.output, hgr.size, fun j hj hn => hgr.block j hj (fun e => hn (by simpa using e))⟩ hsz hen)
    rw [h3 y hy]
    by_cases e : y = (i : Int)
    · subst e; simp [WideAt.sameKey_self (isKey_int q _)]
    · rw [sameKey_ne (fun e2 => e (by simpa using e2))]; simp [e]

/-- 'delete(m, x)'. -/
theorem wpList_delete_v (hg : o.guard = none) (m x : Operand) (hop : o.op = Op.call { callee := Callee.builtin Builtin.delete, args := #[m, x], argTypes := #[t, k] })
    (hk : P.underlying k = some (.int q)) (ht : P.underlying t = some (.map k e)) (hm : a.eval m = .map (some b)) (h : MapV P k q R w b n M) (y : Int) (hx : a.eval x = .int q y) (hy : (Lit.int q y).wf = true)
    (hK : ∀ w', MapV P k q R w' b (if (M y).isSome then n - 1 else n) (fun z => if z = y then none else M z) → w.mapTurned w' b → wpList P ops Q rest (a.put o.dst (.tuple #[])) w') :
    wpList P ops Q (o :: rest) a w := by
  refine wpList_plain hg fun K' hK' => ?_
  obtain ⟨w', hrun, r1, r2⟩ := h.drop hk ht y hy o.type
  unfold Oper.wp
  simp [execOp, hop, resolve, invoke, builtin, hm, hx, hrun, Result.andThen]
  exact hK' _ _ (hK w' r1 r2)

/-- 'clear(m)'. -/
theorem wpList_clear_v (hg : o.guard = none) (m : Operand) (hop : o.op = Op.call { callee := Callee.builtin Builtin.clear, args := #[m], argTypes := #[t] })
    (ht : P.underlying t = some (.map k e)) (hm : a.eval m = .map (some b)) (h : MapV P k q R w b n M)
    (hK : ∀ w', MapV P k q R w' b 0 (fun _ => none) → w.mapTurned w' b → wpList P ops Q rest (a.put o.dst (.tuple #[])) w') :
    wpList P ops Q (o :: rest) a w := by
  refine wpList_plain hg fun K' hK' => ?_
  obtain ⟨w', hrun, r1, r2⟩ := h.clear ht o.type
  unfold Oper.wp
  simp [execOp, hop, resolve, invoke, builtin, hm, hrun, Result.andThen]
  exact hK' _ _ (hK w' r1 r2)

/-- 'm[x] = v'. -/
theorem wpList_update_v (hg : o.guard = none) (m x v : Operand) (hop : o.op = Op.mapUpdate t m x v)
    (hk : P.underlying k = some (.int q)) (ht : P.underlying t = some (.map k e)) (hm : a.eval m = .map (some b)) (h : MapV P k q R w b n M) (hn : n < maxLen) (y : Int) (u : Value) (hx : a.eval x = .int q y) (hv : a.eval v = u) (hy : (Lit.int q y).wf = true) {d : DataW Unit} {ps : List MemPlace} (hu : R u = some (d, ps))
    (hK : ∀ w', MapV P k q R w' b (if (M y).isSome then n else n + 1) (fun z => if z = y then some u else M z) → w.mapTurned w' b → wpList P ops Q rest (a.put o.dst undef) w') :
    wpList P ops Q (o :: rest) a w := by
  refine wpList_plain hg fun K' hK' => ?_
  obtain ⟨w', hrun, r1, r2⟩ := h.store hk ht hn y hy hu
  unfold Oper.wp
  simp [execOp, hop, hm, hx, hv, hrun, Result.andThen]
  exact hK' _ _ (hK w' r1 r2)
end

end Go.Proofs.Ytlfeglnacphhlaa
