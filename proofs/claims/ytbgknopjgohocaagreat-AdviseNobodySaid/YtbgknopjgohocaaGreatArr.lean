/- Rows of cells in blocks of their own: what a row holds behind stores, new blocks, and what other calls leave. -/
import Derived.Test.YtbgknopjgohocaaGreatZA
import Derived.OwnWalk
import Derived.Laws.IdiomCopy
namespace Go.Proofs.YtbgknopjgohocaaGreat
open Go.RowKit
set_option linter.unusedVariables false

/-- Block g holds L cells of type t, cell i is F i. -/
def Arr (w : World) (g : Nat) (t : TypeId) (L : Nat) (F : Nat → Value) : Prop :=
  ∃ cs : Array Value, w.heap[g]? = some (.cells cs t (0, 0)) ∧ cs.size = L ∧ ∀ i, i < L → cs[i]? = some (F i)

section
variable {w w' : World} {g L : Nat} {t : TypeId} {F G : Nat → Value}

theorem Arr.cell (h : Arr w g t L F) {i : Nat} (hi : i < L) : w.cell? ⟨g, i, none⟩ = some (F i) := by
  obtain ⟨cs, hb, hs, hc⟩ := h
  rw [blk_cell' hb]; exact hc i hi
theorem Arr.free (h : Arr w g t L F) (i : Nat) : w.frozen? ⟨g, i, none⟩ = false := by
  obtain ⟨cs, hb, _⟩ := h
  exact blk_free hb i
theorem Arr.lt (h : Arr w g t L F) : g < w.heap.size := by
  obtain ⟨cs, hb, _⟩ := h
  exact blk_lt' hb
theorem Arr.ne (h : Arr w g t L F) {g' L' : Nat} {t' : TypeId} {F' : Nat → Value} (h' : Arr w g' t' L' F') (ht : t ≠ t') : g ≠ g' := by
  rintro rfl
  obtain ⟨cs, hb, _⟩ := h
  obtain ⟨cs', hb', _⟩ := h'
  rw [hb] at hb'
  simp at hb'
  exact ht hb'.2
theorem Arr.keep {S : Nat → Prop} (h : Arr w g t L F) (k : Keeps S w w') (hS : ¬ S g) : Arr w' g t L F := by
  obtain ⟨cs, hb, hs⟩ := h
  exact ⟨cs, k.blk hb hS, hs⟩
theorem Arr.below {B : Nat} (h : Arr w g t L F) (k : Below B w w') (hB : g < B) : Arr w' g t L F := by
  obtain ⟨cs, hb, hs⟩ := h
  exact ⟨cs, (k.block g hB).trans hb, hs⟩
theorem Arr.drewN (h : Arr w g t L F) (n : Nat) : Arr (w.drewN n) g t L F := h
theorem Arr.congr (h : Arr w g t L F) (e : ∀ i, i < L → F i = G i) : Arr w g t L G := by
  obtain ⟨cs, hb, hs, hc⟩ := h
  exact ⟨cs, hb, hs, fun i hi => by rw [hc i hi, e i hi]⟩
theorem Arr.set (h : Arr w g t L F) (i : Nat) (v : Value) : Arr (w.setCell ⟨g, i, none⟩ v) g t L (fun k => if k = i then v else F k) := by
  obtain ⟨cs, hb, hs, hc⟩ := h
  refine ⟨cs.setIfInBounds i v, by rw [heap_set, hb]; rfl, by simp [hs], fun k hk => ?_⟩
  rw [Array.getElem?_setIfInBounds]
  by_cases e : i = k
  · subst e; simp [hs, hk]
  · have e' : ¬ k = i := fun h => e h.symm
    simp only [e, e', if_false]; exact hc k hk
theorem Arr.far (h : Arr w g t L F) {m : Nat} (hm : g ≠ m) (i : Nat) (v : Value) : Arr (w.setCell ⟨m, i, none⟩ v) g t L F := by
  obtain ⟨cs, hb, hs⟩ := h
  exact ⟨cs, by rw [heap_far _ _ _ _ _ hm]; exact hb, hs⟩
theorem Arr.past (h : Arr w g t L F) (o : Obj) : Arr (w.alloc o) g t L F := by
  have := h.lt
  obtain ⟨cs, hb, hs⟩ := h
  exact ⟨cs, by rw [heap_past _ _ _ this]; exact hb, hs⟩
end

theorem Arr.made (w : World) (t : TypeId) (n : Nat) (z : Value) (cs : Array Value) (hs : cs.size = n) (hc : ∀ i, i < n → cs[i]? = some z) : Arr (w.alloc (.cells cs t)) w.heap.size t n (fun _ => z) :=
  ⟨cs, heap_at _ _ _ rfl, hs, hc⟩

theorem Arr.fill {g L : Nat} {t : TypeId} (z : Value) : ∀ (n o : Nat) (w : World) (F : Nat → Value), Arr w g t L F → Arr (w.setCells g o (List.replicate n z)) g t L (fun j => if o ≤ j ∧ j < o + n then z else F j)
  | 0, o, w, F, h => h.congr (fun j _ => by simp only [Nat.add_zero]; rw [if_neg (by omega)])
  | n + 1, o, w, F, h => by
    rw [List.replicate_succ, World.setCells]
    refine (Arr.fill z n (o + 1) _ _ (h.set o z)).congr (fun j _ => ?_)
    by_cases e : j = o
    · subst e; simp
    · by_cases e2 : o + 1 ≤ j ∧ j < o + 1 + n
      · rw [if_pos e2, if_pos (by omega)]
      · have e3 : ¬ (o ≤ j ∧ j < o + (n + 1)) := by omega
        simp only [e, e2, e3, if_false]

theorem Keeps.setCells (g : Nat) : ∀ (vs : List Value) (o : Nat) (w : World), Keeps (fun j => j = g) w (w.setCells g o vs)
  | [], o, w => Keeps.refl _ _
  | v :: vs, o, w => ((Keeps.refl (fun j => j = g) w).setCell (p := ⟨g, o, none⟩) (.inl rfl) v).trans (Keeps.setCells g vs (o + 1) _) (fun _ h => .inl h)

end Go.Proofs.YtbgknopjgohocaaGreat
