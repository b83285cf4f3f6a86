/- The program's device: Flush. -/
import Derived.Test.YtlfeglnacphhlaaDw
import Derived.Test.YtlfeglnacphhlaaMq
namespace Go.Proofs.Ytlfeglnacphhlaa
open Go.RowKit Go.Maps
set_option linter.unusedVariables false

section
variable {w w' w0 : World} {b p : Nat} {R : DR} {s : DS} {ps : PS} {S : Nat → Prop}

/-- A sector is fixed anew. -/
theorem Dv.setF (h : Dv w b p R s) {i : Nat} (hi : i < s.n) {u : Value} {c : ByteArray} (hu : Byt w u c) :
    Dv (w.setCell ⟨R.F, i, none⟩ u) b p { R with FV := fun j => if j = i then u else R.FV j } { s with fixed := fun j => if j = i then c else s.fixed j } := by
  have k := keep_cell w R.F i u
  have a3 : ∀ v c, Byt w v c → ∀ g, v.ownBlock = some g → ¬ g = R.F := fun v c hv g e x => hv.ne_arr h.fx (by decide) (x ▸ e)
  exact { h with
    top := (h.top.keep k (fun e => (h.fx.ne h.top (by decide)) e.symm)).congr (fun x hx => by
      have : x = 0 ∨ x = 1 ∨ x = 2 ∨ x = 3 ∨ x = 4 ∨ x = 5 := by omega
      rcases this with rfl | rfl | rfl | rfl | rfl | rfl <;> rfl)
    fx := h.fx.set i u
    fb := fun j hj => by
      by_cases e : j = i
      · simp only [e, if_true]; exact hu.keep k (a3 _ _ hu)
      · simp only [if_neg e]; exact (h.fb j hj).keep k (a3 _ _ (h.fb j hj))
    lm := h.lm.keep k (h.lm.ne_arr h.fx)
    lo := fun x hx => row_keep (h.lo x hx) k (fun g e e' => h.ap x hx (e' ▸ e))
    lb := fun x hx j c hc => by
      obtain ⟨v, hv, hb⟩ := h.lb x hx j c hc
      exact ⟨v, hv, hb.keep k (a3 _ _ hb)⟩
    rm := h.rm.keep k (h.rm.ne_arr h.fx) }

/-- A sector is rotten no more. -/
theorem Dv.dropR (h : Dv w b p R s) {i nr : Nat} (hm : IMap w' R.r nr (fun z => if z = (i : Int) then none else rotM s z)) (hn : nr ≤ s.lim) (ht : w.mapTurned w' R.r) :
    Dv w' b p { R with nr := nr } { s with rot := fun j => if j = i then false else s.rot j } := by
  have k := keeps_turned ht
  have a3 : ∀ v c, Byt w v c → ∀ g, v.ownBlock = some g → ¬ g = R.r := fun v c hv g e x => hv.ne_map h.rm (x ▸ e)
  exact { h with
    top := (h.top.keep k (fun e => h.rm.ne_arr h.top e.symm)).congr (fun x hx => by
      have : x = 0 ∨ x = 1 ∨ x = 2 ∨ x = 3 ∨ x = 4 ∨ x = 5 := by omega
      rcases this with rfl | rfl | rfl | rfl | rfl | rfl <;> rfl)
    fx := h.fx.keep k (fun e => h.rm.ne_arr h.fx e.symm)
    fb := fun j hj => (h.fb j hj).keep k (a3 _ _ (h.fb j hj))
    lm := h.lm.keep k h.mr
    lo := fun x hx => row_keep (h.lo x hx) k (fun g e e' => row_ne_map (h.lo x hx) h.rm (e' ▸ e))
    lb := fun x hx j c hc => by
      obtain ⟨v, hv, hb⟩ := h.lb x hx j c hc
      exact ⟨v, hv, hb.keep k (a3 _ _ hb)⟩
    rm := hm.congr (fun x hx => by
      unfold rotM
      by_cases e : x = (i : Int)
      · subst e; simp
      · rw [if_neg e]
        by_cases e2 : 0 ≤ x
        · have : x.toNat ≠ i := by omega
          simp only [if_neg this]
        · rw [if_neg (fun y => e2 y.1), if_neg (fun y => e2 y.1)])
    nr := hn }

/-- No write is loose any more. -/
theorem Dv.cleared (h : Dv w b p R s) (hm : LMap w' R.m 0 (fun _ => none)) (ht : w.mapTurned w' R.m) :
    Dv w' b p { R with nl := 0, LV := fun _ => .slice none 0 0, LG := fun _ => [] } { s with loose := fun _ => [] } := by
  have k := keeps_turned ht
  have a3 : ∀ v c, Byt w v c → ∀ g, v.ownBlock = some g → ¬ g = R.m := fun v c hv g e x => hv.ne_map h.lm (x ▸ e)
  exact { h with
    top := (h.top.keep k (fun e => h.lm.ne_arr h.top e.symm)).congr (fun x hx => by
      have : x = 0 ∨ x = 1 ∨ x = 2 ∨ x = 3 ∨ x = 4 ∨ x = 5 := by omega
      rcases this with rfl | rfl | rfl | rfl | rfl | rfl <;> rfl)
    fx := h.fx.keep k (fun e => h.lm.ne_arr h.fx e.symm)
    fb := fun j hj => (h.fb j hj).keep k (a3 _ _ (h.fb j hj))
    lm := hm.congr (fun x hx => by unfold looseM; rw [if_neg (by simp)])
    lo := fun x hx => World.ownsRow_nil _ _ _ _
    lb := fun x hx j c hc => by simp at hc
    le := fun _ _ _ => rfl
    rm := h.rm.keep k (fun e => h.mr e.symm)
    ap := fun i hi e => by simp [Value.ownBlock] at e
    aa := fun i j hi hj hij g e => by simp [Value.ownBlock] at e
    ll := fun i hi => by simp
    nl := Nat.zero_le _ }

/-- The last of a sector's loose writes. -/
def lastV (R : DR) (i : Nat) : Value := (R.LG i).getLast?.getD (.slice none 0 0)

/-- On the way through the loose sectors: L says which are still to come. -/
def flD (s : DS) (L : Int → Bool) : DS := { s with fixed := fun i => if L i || (s.loose i).isEmpty then s.fixed i else standsD s i, rot := fun i => if L i || (s.loose i).isEmpty then s.rot i else false }
def flR (R : DR) (s : DS) (L : Int → Bool) (nr : Nat) : DR := { R with FV := fun i => if L i || (s.loose i).isEmpty then R.FV i else lastV R i, nr := nr }
structure FlS (S : Nat → Prop) (w0 w : World) (b p it : Nat) (R : DR) (s : DS) (L : Int → Bool) (nr c : Nat) : Prop where
  lo : ∀ x, L x = true → (looseM R s x).isSome = true
  rg : RangeV Try.prog 3 .i64 hdr w R.m it R.nl (looseM R s) L c
  dv : Dv w b p (flR R s L nr) (flD s L)
  kp : Keeps S w0 w
  it : w0.heap.size ≤ it

theorem Dv.last (h : Dv w b p R s) {i : Nat} (hi : i < s.n) (hl : s.loose i ≠ []) : ∃ g len cap gv cv, R.LV i = .slice (some ⟨g, 0, none⟩) (len + 1) cap ∧ (s.loose i).length = len + 1 ∧ lastV R i = .slice (some ⟨gv, 0, none⟩) 64 cv ∧
    w.cell? ⟨g, len, none⟩ = some (.slice (some ⟨gv, 0, none⟩) 64 cv) ∧ Byt w (.slice (some ⟨gv, 0, none⟩) 64 cv) (standsD s i) ∧ len ≤ 9223372036854775806 := by
  have hlo := h.lo i hi
  rcases hlo.2 with ⟨hv, h0⟩ | ⟨g, cap, cur, hv, -, hb, hc, hm, -, -⟩
  · exact absurd (List.eq_nil_of_length_eq_zero h0) hl
  · obtain ⟨k, hk⟩ : ∃ k, (s.loose i).length = k + 1 := ⟨(s.loose i).length - 1, by have := List.length_pos_iff.2 hl; omega⟩
    obtain ⟨c, hcc⟩ : ∃ c, (s.loose i)[k]? = some c := ⟨_, List.getElem?_eq_getElem (by omega)⟩
    obtain ⟨v, hv1, hB⟩ := h.lb i hi k c hcc
    have hlg : (R.LG i).length = k + 1 := by have := hlo.1; omega
    have e1 : standsD s i = c := by
      unfold standsD
      rw [List.getLast?_eq_getElem?, hk, show k + 1 - 1 = k by omega, hcc]; rfl
    have e2 : lastV R i = v := by
      unfold lastV
      rw [List.getLast?_eq_getElem?, hlg, show k + 1 - 1 = k by omega, hv1]; rfl
    rw [hv] at hlo
    have cL : w.cell? ⟨g, k, none⟩ = some v := by
      have := hlo.cells (g := g) rfl k v hv1
      rw [addr_add] at this; simpa using this
    obtain ⟨gv, cv, curv, fv, e3, _⟩ := id hB
    subst e3
    exact ⟨g, k, cap, gv, cv, by rw [hv, hk], hk, e2, cL, by rw [e1]; exact hB, by simp only [maxLen] at hm; omega⟩

theorem looseM_some {x : Int} (h : (looseM R s x).isSome = true) : 0 ≤ x ∧ x < (s.n : Int) ∧ s.loose x.toNat ≠ [] := by
  unfold looseM at h
  split at h
  · assumption
  · cases h

def lvB (R : DR) (i : Nat) : Nat := match R.LV i with | .slice (some a) _ _ => a.block | _ => 0
def lvC (R : DR) (i : Nat) : Nat := match R.LV i with | .slice _ _ c => c | _ => 0

theorem DvIn.fl (inn : DvIn b R s S) (L : Int → Bool) (nr : Nat) : DvIn b (flR R s L nr) (flD s L) S :=
  ⟨inn.b, inn.F, inn.m, inn.r, fun i hi g e => by
    simp only [flR] at e
    split at e
    · exact inn.fv i hi g e
    · unfold lastV at e
      cases hl : (R.LG i).getLast? with
      | none => rw [hl] at e; simp [Value.ownBlock] at e
      | some v => rw [hl] at e; exact inn.lg i hi v (List.mem_of_getLast? hl) g e, inn.lv, inn.lg⟩

theorem flD_step (s : DS) (L : Int → Bool) {i : Nat} (hl : s.loose i ≠ []) : flD s (fun y => L y && !(y == (i : Int))) = { flD s L with fixed := fun j => if j = i then standsD s i else (flD s L).fixed j, rot := fun j => if j = i then false else (flD s L).rot j } := by
  have he : (s.loose i).isEmpty = false := by cases h : s.loose i <;> simp_all
  have e1 : (fun j : Nat => if (L (j : Int) && !((j : Int) == (i : Int))) || (s.loose j).isEmpty then s.fixed j else standsD s j) = fun j => if j = i then standsD s i else (if L (j : Int) || (s.loose j).isEmpty then s.fixed j else standsD s j) := by
    funext j
    by_cases e : j = i
    · subst e; simp [he]
    · have e2 : ((j : Int) == (i : Int)) = false := by simp; omega
      simp [e, e2]
  have e2 : (fun j : Nat => if (L (j : Int) && !((j : Int) == (i : Int))) || (s.loose j).isEmpty then s.rot j else false) = fun j => if j = i then false else (if L (j : Int) || (s.loose j).isEmpty then s.rot j else false) := by
    funext j
    by_cases e : j = i
    · subst e; simp [he]
    · have e2 : ((j : Int) == (i : Int)) = false := by simp; omega
      simp [e, e2]
  simp only [flD, e1, e2]

theorem flR_step (R : DR) (s : DS) (L : Int → Bool) {i : Nat} (nr nr' : Nat) (hl : s.loose i ≠ []) : flR R s (fun y => L y && !(y == (i : Int))) nr' = { flR R s L nr with FV := fun j => if j = i then lastV R i else (flR R s L nr).FV j, nr := nr' } := by
  have he : (s.loose i).isEmpty = false := by cases h : s.loose i <;> simp_all
  have e1 : (fun j : Nat => if (L (j : Int) && !((j : Int) == (i : Int))) || (s.loose j).isEmpty then R.FV j else lastV R j) = fun j => if j = i then lastV R i else (if L (j : Int) || (s.loose j).isEmpty then R.FV j else lastV R j) := by
    funext j
    by_cases e : j = i
    · subst e; simp [he]
    · have e2 : ((j : Int) == (i : Int)) = false := by simp; omega
      simp [e, e2]
  simp only [flR, e1]

theorem FlS.val {it nr c : Nat} {L : Int → Bool} (h : FlS S w0 w b p it R s L nr c) {i : Nat} (hL : L (i : Int) = true) : looseM R s (i : Int) = some (.slice (some ⟨lvB R i, 0, none⟩) (s.loose i).length (lvC R i)) := by
  have hl := looseM_some (h.lo _ hL)
  have hi : i < s.n := by have := hl.2.1; omega
  have hne : s.loose i ≠ [] := by have := hl.2.2; simpa using this
  obtain ⟨g, len, cap, gv, cv, e1, e2, _⟩ := h.dv.last hi hne
  have e1' : R.LV i = _ := e1
  rw [looseM_in hl.1 hl.2.1 hl.2.2, Int.toNat_natCast]
  unfold lvB lvC
  have e2' : (s.loose i).length = len + 1 := e2
  rw [e1', e2']

/-- A round: behind the step and the store. -/
theorem FlS.round {it nr c c1 i : Nat} {L : Int → Bool} {w1 : World} (h : FlS S w0 w b p it R s L nr c) (inn : DvIn b R s S) (ow : Own S w0) (hL : L (i : Int) = true)
    (hr : RangeV Try.prog 3 .i64 hdr w1 R.m it R.nl (looseM R s) (fun y => L y && !(y == (i : Int))) c1) (k1 : Keeps (fun j => j = it) w w1) :
    ∃ g len cap gv cv, i < s.n ∧ lvB R i = g ∧ lvC R i = cap ∧ (s.loose i).length = len + 1 ∧ len ≤ 9223372036854775806 ∧ lastV R i = .slice (some ⟨gv, 0, none⟩) 64 cv ∧ w1.cell? ⟨g, len, none⟩ = some (.slice (some ⟨gv, 0, none⟩) 64 cv) ∧
    Dv w1 b p (flR R s L nr) (flD s L) ∧ Dv (w1.setCell ⟨R.F, i, none⟩ (lastV R i)) b p { flR R s L nr with FV := fun j => if j = i then lastV R i else (flR R s L nr).FV j } { flD s L with fixed := fun j => if j = i then standsD s i else (flD s L).fixed j } ∧
    ∀ w3 nr', IMap w3 R.r nr' (fun z => if z = (i : Int) then none else rotM (flD s L) z) → nr' ≤ s.lim → (w1.setCell ⟨R.F, i, none⟩ (lastV R i)).drew.mapTurned w3 R.r → FlS S w0 w3 b p it R s (fun y => L y && !(y == (i : Int))) nr' c1 := by
  have hl := looseM_some (h.lo _ hL)
  have hi : i < s.n := by have := hl.2.1; omega
  have hne : s.loose i ≠ [] := by have := hl.2.2; simpa using this
  have d1 := h.dv.keep (inn.fl L nr) k1 (fun j hj e => by have := ow j hj; have := h.it; omega)
  obtain ⟨g, len, cap, gv, cv, e1, e2, e3, e4, e5, e6⟩ := d1.last hi hne
  have est : standsD (flD s L) i = standsD s i := by
    unfold standsD
    have : (s.loose i).getLast? ≠ none := by simpa using hne
    cases hg : (s.loose i).getLast? with
    | none => exact absurd hg this
    | some c => show ((s.loose i).getLast?).getD _ = _; rw [hg]; rfl
  rw [est, ← e3] at e5
  have elv : lastV (flR R s L nr) i = lastV R i := rfl
  rw [elv] at e5
  have d2 := d1.setF hi e5
  have e1' : R.LV i = _ := e1
  refine ⟨g, len, cap, gv, cv, hi, by unfold lvB; rw [e1'], by unfold lvC; rw [e1'], e2, e6, e3, e4, d1, d2, fun w3 nr' hm hn ht => ?_⟩
  have d3 := Dv.dropR (show Dv (w1.setCell ⟨R.F, i, none⟩ (lastV R i)).drew b p _ _ from d2.drewN 1) hm hn ht
  have kF := (keep_cell w1 R.F i (lastV R i)).drew
  have kR := keeps_turned ht
  have rF := hr.keep kF (h.dv.lm.ne_arr h.dv.fx) (fun e => by have := ow _ inn.F; have := h.it; omega)
  have rR := rF.keep kR h.dv.mr (fun e => by have := ow _ inn.r; have := h.it; omega)
  refine ⟨fun x hx => h.lo x (by simp at hx; exact hx.1), rR, ?_, ?_, h.it⟩
  · rw [flD_step s L hne, flR_step R s L nr nr' hne]; exact d3
  · exact h.kp.trans ((k1.mono (T := fun k => S k ∨ w0.heap.size ≤ k) (fun n _ e => .inr (by have := h.it; omega))).trans ((kF.mono (T := fun k => S k ∨ w0.heap.size ≤ k) (fun n _ e => .inl (e ▸ inn.F))).trans (kR.mono (T := fun k => S k ∨ w0.heap.size ≤ k) (fun n _ e => .inl (e ▸ inn.r))) (fun n x => .inl x)) (fun n x => .inl x)) (fun n x => x)

theorem Dv.agree (h : Dv w b p R s) {FV : Nat → Value} {f : Nat → ByteArray} {r : Nat → Bool} (e1 : ∀ i, i < s.n → FV i = R.FV i) (e2 : ∀ i, i < s.n → f i = s.fixed i) (e3 : ∀ i, i < s.n → r i = s.rot i) : Dv w b p { R with FV := FV } { s with fixed := f, rot := r } :=
  { h with
    top := h.top.congr (fun x hx => by
      have : x = 0 ∨ x = 1 ∨ x = 2 ∨ x = 3 ∨ x = 4 ∨ x = 5 := by omega
      rcases this with rfl | rfl | rfl | rfl | rfl | rfl <;> rfl)
    fx := h.fx.congr (fun i hi => (e1 i hi).symm)
    fb := fun i hi => by rw [show ({ R with FV := FV } : DR).FV i = R.FV i from e1 i hi, show ({ s with fixed := f, rot := r } : DS).fixed i = s.fixed i from e2 i hi]; exact h.fb i hi
    rm := h.rm.congr (fun x hx => by
      unfold rotM
      by_cases e : 0 ≤ x ∧ x < (s.n : Int)
      · have := e3 x.toNat (by omega)
        simp only [this]
      · rw [if_neg (fun y => e ⟨y.1, y.2.1⟩), if_neg (fun y => e ⟨y.1, y.2.1⟩)]) }

theorem looseM_iff {i : Nat} (hi : i < s.n) : (looseM R s (i : Int)).isSome = !(s.loose i).isEmpty := by
  unfold looseM
  by_cases e : s.loose i = []
  · rw [if_neg (by simp [e])]; simp [e]
  · rw [if_pos ⟨by omega, by omega, by simpa using e⟩]
    cases h : s.loose i <;> simp_all

theorem FlS.start (h : Dv w b p R s) (inn : DvIn b R s S) (ow : Own S w) (hr : RangeV Try.prog 3 .i64 hdr w' R.m w.heap.size R.nl (looseM R s) (fun x => (looseM R s x).isSome) R.nl) (k : Keeps (fun _ => False) w w') :
    FlS S w w' b p w.heap.size R s (fun x => (looseM R s x).isSome) R.nr R.nl :=
  ⟨fun x hx => hx, hr, (h.keep inn k (fun _ _ x => x)).agree
    (fun i hi => by
      show (if (looseM R s (i : Int)).isSome || (s.loose i).isEmpty then R.FV i else lastV R i) = R.FV i
      rw [looseM_iff hi, if_pos (by cases (s.loose i).isEmpty <;> rfl)])
    (fun i hi => by
      show (if (looseM R s (i : Int)).isSome || (s.loose i).isEmpty then s.fixed i else standsD s i) = s.fixed i
      rw [looseM_iff hi, if_pos (by cases (s.loose i).isEmpty <;> rfl)])
    (fun i hi => by
      show (if (looseM R s (i : Int)).isSome || (s.loose i).isEmpty then s.rot i else false) = s.rot i
      rw [looseM_iff hi, if_pos (by cases (s.loose i).isEmpty <;> rfl)]), k.mono (fun _ _ x => x.elim), Nat.le_refl _⟩

def flushD (s : DS) : DS := { s with fixed := fun i => standsD s i, loose := fun _ => [], rot := fun i => if (s.loose i).isEmpty then s.rot i else false }

/-- At the end: nothing is still to come; the loose writes are cleared. -/
theorem FlS.done {it nr c : Nat} {L : Int → Bool} {w3 : World} (h : FlS S w0 w b p it R s L nr c) (inn : DvIn b R s S) (hL : ∀ x, (Lit.int .i64 x).wf = true → L x = false) (hm : LMap w3 R.m 0 (fun _ => none)) (ht : w.mapTurned w3 R.m) :
    DevO b p (flushD s) S w3 ∧ Keeps S w0 w3 := by
  have d := h.dv.cleared hm ht
  have n1 := h.dv.n1
  have d2 := d.agree (FV := (flR R s L nr).FV) (f := fun i => standsD s i) (r := fun i => if (s.loose i).isEmpty then s.rot i else false) (fun _ _ => rfl) (fun i hi => by
    have hw : L (i : Int) = false := hL _ (WalkArith.wf_i64 (by have : i < s.n := hi; have : s.n ≤ 4096 := n1; omega))
    show standsD s i = (if L (i : Int) || (s.loose i).isEmpty then s.fixed i else standsD s i)
    rw [hw]
    cases hl : s.loose i with
    | nil => simp [standsD, hl]
    | cons a l => simp) (fun i hi => by
    have hw : L (i : Int) = false := hL _ (WalkArith.wf_i64 (by have : i < s.n := hi; have : s.n ≤ 4096 := n1; omega))
    show (if (s.loose i).isEmpty then s.rot i else false) = (if L (i : Int) || (s.loose i).isEmpty then s.rot i else false)
    rw [hw]; simp)
  have i2 := inn.fl L nr
  exact ⟨⟨_, d2, ⟨i2.b, i2.F, i2.m, i2.r, i2.fv, fun i hi g e => by simp [Value.ownBlock] at e, fun i hi v hv => by simp at hv⟩⟩, h.kp.trans (keeps_turned ht) (fun n e => .inl (e ▸ inn.m))⟩

/-- What Flush answers, and what it leaves. -/
def flushE (ps : PS) : Int := if ps.off = true then 80 else if ps.fuse = 0 then 80 else 0
def flushP (ps : PS) : PS := if ps.off = true then ps else spendP ps
def flushS (s : DS) (ps : PS) : DS := if ps.off = true then s else if ps.fuse = 0 then s else flushD s

set_option maxRecDepth 100000 in
set_option maxHeartbeats 4000000 in
theorem dv_flush1 (h : DevO b p s S w) (ho : Own S w) (hp : Pow w p ps) (hS : ¬ S p) (o0 : ps.off = false) (o1 : ps.fuse ≠ 0) :
    Calls Try.prog 9 #[.pointer (some ⟨b, 0, none⟩)] w fun e w' => e = .returned (.int .i64 0) ∧ DevO b p (flushD s) (Ext S w w') w' ∧ Pow w' p (spendP ps) ∧ Keeps (fun k => S k ∨ k = p) w w' := by
  obtain ⟨R, h, inn⟩ := h
  have RD := dv_ready h hp
  rw [o0, if_neg (show ¬ (false = true) by decide)] at RD
  replace RD := Lib.hid RD
  have SP := pow_spend hp
  rw [show spendB ps = true by simp [spendB, o1]] at SP
  replace SP := Lib.hid SP
  have c0 := h.c0
  have KP := Lib.hid (fun (W : World) (k : Keeps (fun k => k = p) w W) => h.keep inn k (fun j hj e => hS (e ▸ hj)))
  have FR := Lib.hid inn
  have OW := Lib.hid ho
  have HS := Lib.hid hS
  clear h hp hS inn ho o0 o1
  go_enter Try.func9, Try.ntmps9
  go_wp2_with fail
  refine RD.out.mono ?_
  rintro e w' ⟨rfl, rfl⟩
  go_wp2_with fail
  refine SP.out.mono ?_
  rintro e w1 ⟨rfl, hp1, k1, z1⟩
  have h1 := KP.out w1 k1
  have H1 := Lib.hid h1
  have HP1 := Lib.hid hp1
  have K1 := Lib.hid k1
  have Z1 := Lib.hid z1
  have c2 := h1.c2
  have OW1 := Lib.hid (show Own S w1 from OW.out.grow (by omega))
  clear h1 hp1 k1 z1 KP RD SP
  go_wp2_with (first
    | (at_range; refine wpList_range_v (b := R.m) (n := R.nl) (k := 3) (q := .i64) (R := hdr) (M := looseM R s) rfl _ rfl Try.underlying3 Try.underlying69 rfl H1.out.lm ?_; intro w2 hr2 k2 z2)
    | go_in)
  go_frame
  have ST := Lib.hid (FlS.start H1.out FR.out OW1.out hr2 k2)
  clear hr2 k2
  go_loopw [4] (fun _ wr => ∃ L nr c, FlS S w1 wr b p w1.heap.size R s L nr c) (fun _ wr => wr.rangeLeft R.m w1.heap.size)
  case atStart => exact ⟨_, _, _, ST.out⟩
  case round =>
    obtain ⟨L, nr, c, hf⟩ := hrel
    have HF := Lib.hid hf
    clear hf
    go_wp2_with (first
      | (at_next; refine wpList_next_v (k := 3) (q := .i64) (R := hdr) rfl _ rfl Try.underlying3 hdr_told rfl HF.out.rg (fun i => .slice (some ⟨lvB R i, 0, none⟩) (s.loose i).length (lvC R i)) (fun x hx => (looseM_some (HF.out.lo x hx)).1) (fun i hi => HF.out.val hi) ?_ ?_)
      | go_in)
    · intro hc hl
      have c2' := HF.out.dv.c2
      go_wp2_with (first
        | ((with_reducible refine wpList_clear_v (b := R.m) (n := R.nl) (k := 3) (q := .i64) (R := hdr) (M := looseM R s) (t := 69) (e := 68) ?c1 ?cm ?c2 Try.underlying69 ?c3 HF.out.rg.map ?c4); (case c1 => exact rfl); (case c2 => exact rfl); (case c3 => exact rfl); intro w5 hm ht)
        | go_in)
      have FIN := HF.out.done FR.out hl hm ht
      have FIN := Lib.hid FIN
      clear hm ht
      go_wp2
      go_ret
      exact ⟨rfl, Rep.mono FIN.out.1 (fun k x => .inl x), HP1.out.keep FIN.out.2 HS.out, (K1.out.mono (fun _ _ x => .inr x)).trans FIN.out.2 (fun n x => .inl (.inl x))⟩
    · intro i w4 c4 hwi hLi hr4 hlt k4 z4 hen
      obtain ⟨g, len, cap, gv, cv, e0, e1, e2, e3, e4, e5, e6, FIN⟩ := HF.out.round FR.out OW1.out hLi hr4 k4
      obtain ⟨d1, d2, FN⟩ := FIN
      have FIN := Lib.hid FN
      have c1 : w4.cell? ⟨b, 1, none⟩ = some (.slice (some ⟨R.F, 0, none⟩) s.n s.n) := d1.c1
      have cf : w4.cell? ⟨R.F, i, none⟩ = some ((flR R s L nr).FV i) := d1.fx.cell e0
      have ff : w4.frozen? ⟨R.F, i, none⟩ = false := d1.fx.free i
      have i1 : (i : Int) < (s.n : Int) := by omega
      rw [e5] at d2 FIN
      have c3 : (w4.setCell ⟨R.F, i, none⟩ (.slice (some ⟨gv, 0, none⟩) 64 cv)).cell? ⟨b, 3, none⟩ = some (.map (some R.r)) := d2.c3
      have RM := Lib.hid (show IMap (w4.setCell ⟨R.F, i, none⟩ (.slice (some ⟨gv, 0, none⟩) 64 cv)).drew R.r nr (rotM (flD s L)) from d2.rm)
      have HLT := Lib.hid hlt
      have NR := Lib.hid (show nr ≤ s.lim from d2.nr)
      have RE := Lib.hid HF.out.rg.left_eq
      have HE0 := Lib.hid e0
      rw [e1, e2, e3] at hen ⊢
      clear d1 d2 FN hr4 k4 z4 hLi hlt e1 e2 e5 e0
      generalize (flR R s L nr).FV i = vold at *
      have e2 : decide (0 < (len : Int) + 1) = true := decide_eq_true (by omega)
      go_wp2_with fail
      go_region
      all_goals
        go_wp2_with (first
          | (at_delete; refine wpList_delete_v (b := R.r) (n := nr) (k := 3) (q := .i64) (R := plainElem Try.prog 3) (M := rotM (flD s L)) rfl _ _ rfl Try.underlying3 Try.underlying70 rfl RM.out (i : Int) rfl hwi ?_; intro w5 hm5 ht5)
          | go_in)
        have F5 := Lib.hid (FIN.out w5 _ hm5 (by have := NR.out; split <;> omega) ht5)
        clear hm5 ht5
        go_frame
        go_roundw
        case rel => exact ⟨_, _, _, F5.out⟩
        case measure =>
          rw [F5.out.rg.left_eq, RE.out]; exact HLT.out

theorem dv_flush (h : DevO b p s S w) (ho : Own S w) (hp : Pow w p ps) (hS : ¬ S p) :
    Calls Try.prog 9 #[.pointer (some ⟨b, 0, none⟩)] w fun e w' => e = .returned (.int .i64 (flushE ps)) ∧ DevO b p (flushS s ps) (Ext S w w') w' ∧ Pow w' p (flushP ps) ∧ Keeps (fun k => S k ∨ k = p) w w' := by
  have O := Lib.hid (Rep.mono h (fun k x => .inl x) : DevO b p s (Ext S w w) w)
  have HP := Lib.hid hp
  unfold flushE flushS flushP
  cases o0 : ps.off
  · simp only [Bool.false_eq_true, if_false]
    by_cases o1 : ps.fuse = 0
    · simp only [if_pos o1]
      obtain ⟨R, h, inn⟩ := h
      have RD := dv_ready h hp
      rw [o0, if_neg (show ¬ (false = true) by decide)] at RD
      replace RD := Lib.hid RD
      have SP := pow_spend hp
      rw [show spendB ps = false by simp [spendB, o1]] at SP
      replace SP := Lib.hid SP
      have c0 := h.c0
      have FIN := Lib.hid (fun (W : World) (k : Keeps (fun k => k = p) w W) => (⟨Rep.mono (Rep.keep (R := DevO b p s) ⟨R, h, inn⟩ ho k (fun j hj e => hS (e ▸ hj))) (fun k x => .inl x), k.mono (fun _ _ x => .inr x)⟩ : DevO b p s (Ext S w W) W ∧ Keeps (fun k => S k ∨ k = p) w W))
      clear h hp hS inn ho o0 o1
      go_enter Try.func9, Try.ntmps9
      go_wp2_with fail
      refine RD.out.mono ?_
      rintro e w' ⟨rfl, rfl⟩
      go_wp2_with fail
      refine SP.out.mono ?_
      rintro e w1 ⟨rfl, hp1, k1, z1⟩
      have HP1 := Lib.hid hp1
      have F1 := Lib.hid (FIN.out w1 k1)
      clear hp1 k1 z1
      go_wp2
      go_ret
      exact ⟨rfl, F1.out.1, HP1.out, F1.out.2⟩
    · simp only [if_neg o1]
      exact dv_flush1 h ho hp hS o0 o1
  · simp only [if_true]
    obtain ⟨R, h, inn⟩ := h
    have RD := dv_ready h hp
    rw [o0, if_pos (show true = true from rfl)] at RD
    replace RD := Lib.hid RD
    clear h hp hS inn ho o0
    go_enter Try.func9, Try.ntmps9
    go_wp2_with fail
    refine RD.out.mono ?_
    rintro e w' ⟨rfl, rfl⟩
    go_wp2
    go_ret
    exact ⟨rfl, O.out, HP.out, Keeps.refl _ _⟩
end

end Go.Proofs.Ytlfeglnacphhlaa
