/- Words on memory that this project's proofs share: what a world keeps outside a set of blocks, what a block holds behind stores and new blocks. No condition beyond each statement's own. -/
import Derived.Test.YtlfeglnacphhlaaRows
import Derived.WalkKit
import Derived.WalkLawsBesides
import Derived.WalkSpells
import Derived.Deep.QuietTactic
import Derived.BigQuiet
import Derived.Lib.Hide
namespace Go.Proofs.Ytlfeglnacphhlaa
open Go.RowKit

/-- Outside the blocks of S, w' is as w was; new blocks may have come. -/
structure Keeps (S : Nat → Prop) (w w' : World) : Prop where
  os : w'.os = w.os
  tape : w'.tape = w.tape
  output : w'.output = w.output
  size : w.heap.size ≤ w'.heap.size
  block : ∀ k, k < w.heap.size → ¬ S k → w'.heap[k]? = w.heap[k]?

theorem Keeps.refl (S : Nat → Prop) (w : World) : Keeps S w w := ⟨rfl, rfl, rfl, Nat.le_refl _, fun _ _ _ => rfl⟩

theorem Keeps.trans {S T : Nat → Prop} {a b c : World} (h : Keeps S a b) (k : Keeps T b c) (hs : ∀ n, T n → S n ∨ a.heap.size ≤ n) : Keeps S a c :=
  ⟨k.os.trans h.os, k.tape.trans h.tape, k.output.trans h.output, Nat.le_trans h.size k.size, fun n hn hS =>
    (k.block n (Nat.lt_of_lt_of_le hn h.size) (fun ht => (hs n ht).elim hS (fun hle => by omega))).trans (h.block n hn hS)⟩

theorem Keeps.mono {S T : Nat → Prop} {w w' : World} (h : Keeps S w w') (hs : ∀ n, n < w.heap.size → S n → T n) : Keeps T w w' :=
  ⟨h.os, h.tape, h.output, h.size, fun n hn hT => h.block n hn (fun hS => hT (hs n hn hS))⟩

theorem Keeps.drewN {S : Nat → Prop} {w w' : World} (h : Keeps S w w') (n : Nat) : Keeps S w (w'.drewN n) := ⟨h.os, h.tape, h.output, h.size, h.block⟩
theorem Keeps.drew {S : Nat → Prop} {w w' : World} (h : Keeps S w w') : Keeps S w w'.drew := ⟨h.os, h.tape, h.output, h.size, h.block⟩

theorem Keeps.alloc {S : Nat → Prop} {w w' : World} (h : Keeps S w w') (o : Obj) : Keeps S w (w'.alloc o) :=
  ⟨h.os, h.tape, h.output, by have := h.size; simp only [World.size_alloc]; omega, fun n hn hS => by
    rw [Below.heap_alloc _ _ _ (Nat.lt_of_lt_of_le hn h.size)]; exact h.block n hn hS⟩

theorem Keeps.setCell {S : Nat → Prop} {w w' : World} (h : Keeps S w w') {p : Addr} (hp : S p.block ∨ w.heap.size ≤ p.block) (u : Value) : Keeps S w (w'.setCell p u) :=
  ⟨h.os, h.tape, h.output, by simpa only [World.size_setCell] using h.size, fun n hn hS => by
    rw [Below.heap_setCell _ _ _ _ (by rintro rfl; exact hp.elim hS (fun hle => by omega))]; exact h.block n hn hS⟩

theorem Keeps.below {w w' : World} {B : Nat} (h : Keeps (fun k => B ≤ k) w w') (hB : B ≤ w.heap.size) : Below B w w' :=
  ⟨h.os, h.tape, h.output, h.size, fun k hk => h.block k (by omega) (by omega)⟩

theorem Keeps.of_below {w w' : World} {B : Nat} (h : Below B w w') : Keeps (fun k => B ≤ k) w w' :=
  ⟨h.os, h.tape, h.output, h.size, fun k _ hk => h.block k (by omega)⟩

theorem Keeps.of_drewN {w w' : World} (S : Nat → Prop) (h : ∃ n, w' = w.drewN n) : Keeps S w w' := by
  obtain ⟨n, rfl⟩ := h; exact (Keeps.refl S w).drewN n

/-- S, and the blocks that came. -/
def Ext (S : Nat → Prop) (w w' : World) : Nat → Prop := fun k => S k ∨ (w.heap.size ≤ k ∧ k < w'.heap.size)

theorem blk_lt' {w : World} {b : Nat} {o : Obj} (h : w.heap[b]? = some o) : b < w.heap.size := (Array.getElem?_eq_some_iff.1 h).1

theorem Keeps.blk {S : Nat → Prop} {w w' : World} (h : Keeps S w w') {b : Nat} {o : Obj} (hb : w.heap[b]? = some o) (hS : ¬ S b) : w'.heap[b]? = some o :=
  (h.block b (blk_lt' hb) hS).trans hb

theorem Keeps.cell {S : Nat → Prop} {w w' : World} (h : Keeps S w w') {a : Addr} {v : Value} (hc : w.cell? a = some v) (hS : ¬ S a.block) : w'.cell? a = some v := by
  rw [← hc]
  exact World.cell?_of_block (w := w) (h.block a.block (World.block_lt_of_cell? w a hc) hS)

/-- What stood when the call began stands as it did. -/
theorem Keeps.old {w w' : World} (h : Keeps (fun j => w.heap.size ≤ j) w w') {a : Addr} {v : Value} (hc : w.cell? a = some v) : w'.cell? a = some v :=
  h.cell hc (Nat.not_le.2 (World.block_lt_of_cell? w _ hc))

/-! ### What a block holds -/
def setObj (i : Nat) (v : Value) : Obj → Obj
  | .cells c e f => .cells (c.setIfInBounds i v) e f
  | o => o

theorem heap_past (w : World) (o : Obj) (n : Nat) (h : n < w.heap.size) : (w.alloc o).heap[n]? = w.heap[n]? := Below.heap_alloc w o n h
theorem heap_at (w : World) (o : Obj) (n : Nat) (h : n = w.heap.size) : (w.alloc o).heap[n]? = some o := by subst h; exact heap_alloc_new w o
theorem heap_far (w : World) (m i n : Nat) (v : Value) (h : n ≠ m) : (w.setCell ⟨m, i, none⟩ v).heap[n]? = w.heap[n]? := Below.heap_setCell w _ v n h
theorem heap_set (w : World) (n i : Nat) (v : Value) : (w.setCell ⟨n, i, none⟩ v).heap[n]? = (w.heap[n]?).map (setObj i v) := by
  simp only [World.setCell, Array.getElem?_modify, if_true]
  cases w.heap[n]? with
  | none => rfl
  | some o => cases o <;> rfl
@[go_sem] theorem setCell_drewN (w : World) (n : Nat) (a : Addr) (v : Value) : (w.drewN n).setCell a v = (w.setCell a v).drewN n := rfl
@[go_sem] theorem alloc_drewN (w : World) (n : Nat) (o : Obj) : (w.drewN n).alloc o = (w.alloc o).drewN n := rfl
theorem heap_drew (w : World) : w.drew.heap = w.heap := rfl

theorem blk_cell' {w : World} {b : Nat} {cs : Array Value} {t : TypeId} {f : Nat × Nat} (h : w.heap[b]? = some (.cells cs t f)) : ∀ i, w.cell? ⟨b, i, none⟩ = cs[i]? := fun i => by simp [World.cell?, h]
theorem blk_free {w : World} {b : Nat} {cs : Array Value} {t : TypeId} (h : w.heap[b]? = some (.cells cs t (0, 0))) : ∀ i, w.frozen? ⟨b, i, none⟩ = false := fun i => by simp [World.frozen?, h]

end Go.Proofs.Ytlfeglnacphhlaa
