/- A range over a function whose iterator writes variables of its own: a law of this project. -/
import Derived.Test.YtbgknopjgohocaaGreatKc
import Derived.Test.YtbgknopjgohocaaGreatPb
import Derived.Deep.MidRow
namespace Go.Proofs.YtbgknopjgohocaaGreat
open Go.RowKit Go.Shelf
set_option linter.unusedVariables false
set_option maxHeartbeats 1000000

/-- An iterator's word, where it may write the blocks of Z between two rounds, and asks that a round leaves those of T. -/
def GivesZ {α : Type} (F : Fence) (n : Nat) (P : Program) (g : Nat) (lb : Array Value) (enc : α → Value) (Z T : Nat → Prop) (S Sp : List α → Prop) (N : Nat) (w : World) : Prop :=
  ∀ (l : Nat) (J Jx : List α → World → Prop) (W : World), Below w.heap.size w W → (∀ s A B, J s A → Keeps Z A B → J s B) → (∀ s A B, Jx s A → Keeps Z A B → Jx s B) →
    (∀ pre x W1, J pre W1 → pre.length < N → YieldAt F (n - 1) P l #[enc x] W1 fun e W' => (e = .returned (.bool true) ∧ J (pre ++ [x]) W' ∧ KT T W1 W') ∨ (e = .returned (.bool false) ∧ Jx (pre ++ [x]) W')) →
    J [] W →
    CallsIn F n P g (#[.func (.yield l) #[] #[]] ++ lb) W fun e W' => (∃ v, e = .returned v) ∧ ((∃ xs, S xs ∧ J xs W') ∨ (∃ pre, Sp pre ∧ Jx pre W'))

/-- The two blocks that the statement lays for its own books lie as they lay. -/
def Books (d : Nat) (A B : World) : Prop := B.heap[d]? = A.heap[d]? ∧ B.heap[d + 1]? = A.heap[d + 1]?

/-- How a round may be left: off its end, or by a return. -/
def roundEnd {α : Type} (d : Nat) (T : Nat → Prop) (I Ix : List α → World → Prop) (xs : List α) (A : World) : Exit → Act → World → Prop
  | .normal, _, B => Books d A B ∧ KT T A B ∧ I xs B
  | .ret, _, B => Books d A B ∧ Ix xs B
  | _, _, _ => False

theorem putObj_keeps (W : World) (l : Nat) (o : Obj) {S : Nat → Prop} (h : S l) : Keeps S W (W.putObj l o) :=
  have g := grownBy_putObj' W l o
  ⟨g.os, g.tape, g.output, g.size, fun k hk hS => g.block k hk (fun e => hS (by injection e with e; rw [e]; exact h))⟩

theorem wpIn_range_writes {α : Type} {F : Fence} {n : Nat} {P : Program} {g : Operand} {p : Tmp} {assign body : Code} {Q : Exit → Act → World → Prop} {a : Act} {w : World}
    (hro : F.round = none) (h1 : 1 ≤ n) {gf : Nat} {lb : Array Value} (hg : a.eval g = .func (.func gf) #[] lb) (hFg : F.fn gf) (eg : ∀ args w, (callFunc gf args).run P w = .ok (.enter gf args) w)
    {enc : α → Value} {Z T : Nat → Prop} {S Sp : List α → Prop} {N : Nat} (hseq : GivesZ F (n - 1) P gf lb enc Z T S Sp N w)
    (hZ : ∀ j, Z j → j < w.heap.size) (hT : ∀ j, T j → j < w.heap.size)
    (I Ix : List α → World → Prop) (hI : ∀ s A B, I s A → Keeps (fun j => Z j ∨ j = w.heap.size ∨ j = w.heap.size + 1) A B → I s B) (hIx : ∀ s A B, Ix s A → Keeps (fun j => Z j ∨ j = w.heap.size ∨ j = w.heap.size + 1) A B → Ix s B) (h0 : I [] w)
    (Ax : α → Act → World → Prop) (hAx : ∀ x a' A B, Ax x a' A → Keeps (fun j => Z j ∨ j = w.heap.size ∨ j = w.heap.size + 1) A B → Ax x a' B)
    (hassign : ∀ (l : Nat) (pre : List α) (x : α) (W : World) (K : Act → World → Prop), I pre W → w.heap.size + 2 ≤ W.heap.size → (∀ a' W', Books w.heap.size W W' → KT T W W' → I pre W' → Ax x a' W' → K a' W') →
      assign.wpIn (F.inRound l) (n - 1 - 1) P (Exit.then K (fun _ _ _ => False)) { tmps := ((#[p]).zip #[enc x]).foldl (fun t (p, v) => t.setIfInBounds p v) a.tmps, defers := [] } W)
    (hbody : ∀ (l : Nat) (pre : List α) (x : α) (a' : Act) (W : World), w.heap.size + 2 ≤ W.heap.size → I pre W → Ax x a' W → pre.length < N → body.wpIn (F.inRound l) (n - 1 - 1) P (roundEnd w.heap.size T I Ix (pre ++ [x]) W) a' W)
    (hdone : ∀ (xs : List α) (W : World), S xs → I xs W → W.heap[w.heap.size]? = some (.deferred (some [])) → Q .normal { a with defers := { target := .collected w.heap.size, args := #[] } :: a.defers } W)
    (hstop : ∀ (pre : List α) (W : World), Sp pre → Ix pre W → W.heap[w.heap.size]? = some (.deferred (some [])) → Code.ret.wpIn F n P Q { a with defers := { target := .collected w.heap.size, args := #[] } :: a.defers } W) :
    (Code.rangeFunc g #[p] assign body).wpIn F n P Q a w := by
  refine wpIn_rangeFunc fun fn hfn => ?_
  rw [hro]
  -- the loop's record, in each of its states
  obtain ⟨R, hR⟩ : ∃ R : LoopState → Option Code → Loop, R = fun st pe => { state := st, pending := pe, fn, tmps := a.tmps, params := #[p], assign, body, defers := w.heap.size } := ⟨_, rfl⟩
  obtain ⟨w1, hw1⟩ : ∃ w1, (w.alloc (.deferred (some []))).alloc (.loop (R .ready none)) = w1 := ⟨_, rfl⟩
  have b1 : Below w.heap.size w w1 := by rw [← hw1]; exact ((Below.refl _ w).alloc (Nat.le_refl _) _).alloc (by simp) _
  have s1 : w1.heap.size = w.heap.size + 2 := by rw [← hw1]; simp
  have r1 : w1.heap[w.heap.size + 1]? = some (.loop (R .ready none)) := by rw [← hw1]; exact heap_at _ _ _ (by simp)
  have d1 : w1.heap[w.heap.size]? = some (.deferred (some [])) := by rw [← hw1]; exact (heap_past _ _ _ (by simp)).trans (heap_at w _ _ rfl)
  have i1 : I [] w1 := hI _ _ _ h0 ((Keeps.of_below b1).mono (fun j hj x => by omega))
  have zd : ∀ j, Z j → j ≠ w.heap.size ∧ j ≠ w.heap.size + 1 := fun j x => by have := hZ j x; omega
  have td : ∀ l, w.heap.size ≤ l → ¬ T l := fun l hl x => by have := hT l x; omega
  have ktp : ∀ (A : World) (l : Nat) (o : Obj), w.heap.size ≤ l → KT T A (A.putObj l o) := fun A l o hl => putObj_keeps A l o (td l hl)
  have zp : ∀ (A : World) (o : Obj), Keeps (fun j => Z j ∨ j = w.heap.size ∨ j = w.heap.size + 1) A (A.putObj (w.heap.size + 1) o) := fun A o => putObj_keeps A _ o (.inr (.inr rfl))
  refine ⟨w.heap.size + 1, [{ target := .collected w.heap.size, args := #[] }], w1, { target := .fn (.func gf) lb, args := #[.func (.yield (w.heap.size + 1)) #[] #[]] }, w1, gf, #[.func (.yield (w.heap.size + 1)) #[] #[]] ++ lb, w1, ?enter, ?call, ?leads, ?invoke, fun _ => h1, ?contract⟩
  case enter => rw [← hw1, hR]; exact run_enterLoop_outer _ _ _ _ _
  case call =>
    simp only [resolve, hg]
    simp [go_sem]
  case leads =>
    intro f' hf'
    simp [Target.leads] at hf'
    rw [← hf']; exact hFg
  case invoke => simp [invoke, go_sem, eg]
  case contract =>
    refine (hseq (w.heap.size + 1) (fun pre W => I pre W ∧ W.heap[w.heap.size + 1]? = some (.loop (R .ready none)) ∧ W.heap[w.heap.size]? = some (.deferred (some [])))
      (fun pre W => Ix pre W ∧ W.heap[w.heap.size + 1]? = some (.loop (R .done (some .ret))) ∧ W.heap[w.heap.size]? = some (.deferred (some []))) w1 b1
      (fun s A B h k => ⟨hI _ _ _ h.1 (k.mono fun j _ x => .inl x), k.blk h.2.1 (fun x => (zd _ x).2 rfl), k.blk h.2.2 (fun x => (zd _ x).1 rfl)⟩)
      (fun s A B h k => ⟨hIx _ _ _ h.1 (k.mono fun j _ x => .inl x), k.blk h.2.1 (fun x => (zd _ x).2 rfl), k.blk h.2.2 (fun x => (zd _ x).1 rfl)⟩) ?round ⟨i1, r1, d1⟩).mono ?behind
    case round =>
      rintro pre x W ⟨hi, hl, hk⟩ hlen
      have hy := run_yield (P := P) (args := #[enc x]) hl (by rw [hR]; rfl)
      rw [hR] at hy
      refine ⟨fn, _, assign, body, hy, roundIn_of_wpIn hfn (hassign _ pre x W _ hi (by have := blk_lt' hl; omega) ?_)⟩
      clear hy
      intro a' Wa bk kt ia ax
      have hl1 := bk.2.trans hl
      have hk1 := bk.1.trans hk
      refine ⟨_, run_beginRound hl1 (by rw [hR]), ?_⟩
      obtain ⟨Wb, hWb⟩ : ∃ Wb, Wa.putObj (w.heap.size + 1) (.loop { R .ready none with state := .busy }) = Wb := ⟨_, rfl⟩
      have hl2 : Wb.heap[w.heap.size + 1]? = some (.loop { R .ready none with state := .busy }) := by rw [← hWb]; exact World.putObj_heap_same (blk_lt' hl1)
      have hk2 : Wb.heap[w.heap.size]? = some (.deferred (some [])) := by rw [← hWb]; exact (World.putObj_heap_other (by omega)).trans hk1
      have zb : Keeps (fun j => Z j ∨ j = w.heap.size ∨ j = w.heap.size + 1) Wa Wb := by rw [← hWb]; exact zp _ _
      have tb : KT T W Wb := by rw [← hWb]; exact KT.t kt (ktp _ _ _ (by omega))
      rw [hWb]
      refine wpIn_mono (hbody _ pre x a' Wb (by have := blk_lt' hl2; omega) (hI _ _ _ ia zb) (hAx _ _ _ _ ax zb) hlen) ?_
      rintro e a3 W3 hp
      cases e with
      | normal =>
        obtain ⟨bk3, kt3, i3⟩ := hp
        have hl3 := bk3.2.trans hl2
        have er := run_endRound (P := P) none hl3
        have hl4 := World.putObj_heap_same (o := .loop (R .ready none)) (blk_lt' hl3)
        have hk4 := (World.putObj_heap_other (o := .loop (R .ready none)) (w := W3) (show w.heap.size ≠ w.heap.size + 1 by omega)).trans (bk3.1.trans hk2)
        rw [hR] at er hl4 hk4 ⊢
        exact ⟨_, _, er, .inl ⟨rfl, ⟨hI _ _ _ i3 (zp _ _), hl4, hk4⟩, KT.t tb (KT.t kt3 (ktp _ _ _ (by omega)))⟩⟩
      | ret =>
        obtain ⟨bk3, i3⟩ := hp
        have hl3 := bk3.2.trans hl2
        have er := run_endRound (P := P) (some .ret) hl3
        have hl4 := World.putObj_heap_same (o := .loop (R .done (some .ret))) (blk_lt' hl3)
        have hk4 := (World.putObj_heap_other (o := .loop (R .done (some .ret))) (w := W3) (show w.heap.size ≠ w.heap.size + 1 by omega)).trans (bk3.1.trans hk2)
        rw [hR] at er hl4 hk4 ⊢
        exact ⟨_, _, er, .inr ⟨rfl, hIx _ _ _ i3 (zp _ _), hl4, hk4⟩⟩
      | exit id => exact hp.elim
      | goto t => exact hp.elim
      | panic ch => exact hp.elim
      | outgrown => exact hp.elim
    case behind =>
      rintro e W2 ⟨⟨v, rfl⟩, (⟨xs, hS, hi, hl, hk⟩ | ⟨pre, hSp, hi, hl, hk⟩)⟩
      · have en := run_endLoop (P := P) hl (by rw [hR]; simp)
        rw [hR] at en
        exact ⟨none, _, en, hdone xs _ hS (hI _ _ _ hi (zp _ _)) ((World.putObj_heap_other (by omega)).trans hk)⟩
      · have en := run_endLoop (P := P) hl (by rw [hR]; simp)
        rw [hR] at en
        exact ⟨some .ret, _, en, hstop pre _ hSp (hIx _ _ _ hi (zp _ _)) ((World.putObj_heap_other (by omega)).trans hk)⟩

/-- The store of a long struct, in a fence. -/
theorem wpListIn_store_mid {F : Fence} {n : Nat} {P : Program} {ops : Array Oper} {rest : List Oper} {op : Oper} {a : Act} {w : World} {Q : Exit → Act → World → Prop} (hgd : op.guard = none) (ty : TypeId) (x y : Operand) (ho : op.op = .store ty x y)
    (b o : Nat) (cells : Array Value) (hx : a.eval x = .pointer (some ⟨b, o, none⟩)) (hy : a.eval y = .agg cells)
    (ht : w.there b o cells.size) (hi : (P.info? ty).map (·.size) = some cells.size) (h1 : cells.all (·.oneCell') = true)
    (h : wpListIn F n P ops Q rest (a.put op.dst undef) (w.setCells b o cells.toList)) : wpListIn F n P ops Q (op :: rest) a w := by
  refine wpListIn_plain hgd fun K hK => ?_
  unfold Oper.wpIn
  refine ⟨by simp [Oper.about, ho], ?_⟩
  rw [Oper.semAt_plain F _ _ (by rw [ho]; intro c hc'; cases hc')]
  simp only [execOp, ho, hx, hy, Sem.run_bind, run_storeAt_mid w b o ty cells ht hi h1]
  exact hK _ _ h
end Go.Proofs.YtbgknopjgohocaaGreat
