/- What all slots have, as a row. -/
import Derived.Test.YtbgknopjgohocaaGreatKb
import Derived.Maps.OwnIn
namespace Go.Proofs.YtbgknopjgohocaaGreat
open Go.RowKit Go.Shelf
set_option linter.unusedVariables false
set_option maxRecDepth 100000
set_option maxHeartbeats 2000000
attribute [local go_sem] Oper.semAt_some

/-- The cells of a row of entries. -/
def rowE (sl : Nat → Int) (l : List Nat) : List Value := l.flatMap (fun x => (entA sl x).toList)
theorem rowE_snoc (sl : Nat → Int) (l : List Nat) (x : Nat) : rowE sl (l ++ [x]) = rowE sl l ++ [.int .i64 (x : Int), .int .i64 (sl x - 1), .int .u64 (tgI (sl x))] := by
  simp [rowE, entA]
theorem infoEntry : (Tryz.prog.info? 93).map (fun i => (i.zero, i.size, i.bytes)) = some (some (.agg #[.int .i64 0, .int .i64 0, .int .u64 0]), 3, 24) := by kernel_rfl

section
variable {w : World} {b sb wb nb ns N : Nat} {P : PLS} {m : Int}
theorem pl_rows (h : Pl w b sb wb nb ns N P m) (lo hi : Nat) (hlo : lo ≤ 100000) (hhi : hi ≤ 100000) :
    Calls Tryz.prog 34 #[.pointer (some ⟨b, 0, none⟩), .int .i64 (lo : Int), .int .i64 (hi : Int)] w fun e W' => ∃ v, e = .returned v ∧ W'.ownsRow w.heap.size 93 3 v (usedR P.sl lo (min hi ns - lo)).length (rowE P.sl (usedR P.sl lo (min hi ns - lo))) ∧ Below w.heap.size w W' := by
  have n1 := h.i.n1
  have hlen : (usedR P.sl lo (min hi ns - lo)).length ≤ 192 := Nat.le_trans (usedR_len _ _ _) (by omega)
  obtain ⟨i0, hif, hz0, hz1, hz2⟩ := info_parts infoEntry
  refine callsIn_wide.1 (?_ : CallsIn Fence.wide 5 Tryz.prog 34 #[.pointer (some ⟨b, 0, none⟩), .int .i64 (lo : Int), .int .i64 (hi : Int)] w _)
  refine callsIn_of_wp_marks Tryz.func34 rfl trivial ?_ rfl
  simp only [Tryz.ntmps34, List.size_toArray, List.length_cons, List.length_nil, Nat.reduceAdd, Nat.reduceSub, Array.replicate_succ, Array.replicate_zero, List.push_toArray, List.append_toArray, List.nil_append, List.cons_append]
  gi_wp2_with (refine ⟨trivial, ?_⟩; gi_at_call 50; refine (callsIn_wide.2 (pe_each _ b lo hi)).mono ?_; rintro e w' ⟨rfl, rfl⟩)
  obtain ⟨w1, hw1⟩ : ∃ w1, w.alloc (.cells #[.slice none 0 0] 41) = w1 := ⟨_, rfl⟩
  have s1 : w1.heap.size = w.heap.size + 1 := by rw [← hw1]; simp
  obtain ⟨w2, hw2⟩ : ∃ w2, w1.alloc (.cells #[.pointer (some ⟨b, 0, none⟩)] 61) = w2 := ⟨_, rfl⟩
  have s2 : w2.heap.size = w.heap.size + 2 := by rw [← hw2]; simp; omega
  obtain ⟨w3, hw3⟩ : ∃ w3, w2.alloc (.cells #[.int .i64 (lo : Int)] 3) = w3 := ⟨_, rfl⟩
  have s3 : w3.heap.size = w.heap.size + 3 := by rw [← hw3]; simp; omega
  obtain ⟨w4, hw4⟩ : ∃ w4, w3.alloc (.cells #[.int .i64 (hi : Int)] 3) = w4 := ⟨_, rfl⟩
  have s4 : w4.heap.size = w.heap.size + 4 := by rw [← hw4]; simp; omega
  have bO : Boxed w4 w.heap.size 41 (.slice none 0 0) := by rw [← hw4, ← hw3, ← hw2, ← hw1]; exact (((Boxed.new w 41 (.slice none 0 0)).alloc _).alloc _).alloc _
  have B1 : Below w.heap.size w w1 := by rw [← hw1]; exact (Below.refl _ w).alloc (Nat.le_refl _) _
  have B2 : Below w.heap.size w w2 := by rw [← hw2]; exact B1.alloc (by omega) _
  have B3 : Below w.heap.size w w3 := by rw [← hw3]; exact B2.alloc (by omega) _
  have hB0 : Below w.heap.size w w4 := by rw [← hw4]; exact B3.alloc (by omega) _
  have c1 : w4.cell? ⟨w.heap.size + 1, 0, none⟩ = some (.pointer (some ⟨b, 0, none⟩)) := by
    have := (Boxed.new w1 61 (.pointer (some ⟨b, 0, none⟩))).alloc (.cells #[.int .i64 (lo : Int)] 3)
    have := (this.alloc (.cells #[.int .i64 (hi : Int)] 3)).cell
    rw [hw2, hw3, hw4, s1] at this
    exact this
  have c2 : w4.cell? ⟨w.heap.size + 2, 0, none⟩ = some (.int .i64 (lo : Int)) := by
    have := ((Boxed.new w2 3 (.int .i64 (lo : Int))).alloc (.cells #[.int .i64 (hi : Int)] 3)).cell
    rw [hw3, hw4, s2] at this
    exact this
  have c3 : w4.cell? ⟨w.heap.size + 3, 0, none⟩ = some (.int .i64 (hi : Int)) := by
    have := (Boxed.new w3 3 (.int .i64 (hi : Int))).cell
    rw [hw4, s3] at this
    exact this
  have hL' : Pl w4 b sb wb nb ns N P m := h.keep (Keeps.of_below hB0) (Nat.not_le.2 h.top.lt) (Nat.not_le.2 h.sl.lt) (Nat.not_le.2 h.wh.lt)
  have lb := h.top.lt
  have lg := h.sl.lt
  have lq := h.wh.lt
  obtain ⟨T, hT⟩ : ∃ T : Nat → Prop, ∀ j, T j ↔ (j = w.heap.size + 1 ∨ j = w.heap.size + 2 ∨ j = w.heap.size + 3 ∨ j = b ∨ j = sb ∨ j = wb) := ⟨_, fun _ => Iff.rfl⟩
  have hTl : ∀ j, T j → j < w4.heap.size := fun j x => by rw [s4]; rcases (hT j).1 x with e | e | e | e | e | e <;> omega
  have hTn : ∀ j, T j → j < w.heap.size + 4 ∧ j ≠ w.heap.size := fun j x => by rcases (hT j).1 x with e | e | e | e | e | e <;> omega
  have HTN := Lib.hid hTn
  have e1 : w.alloc (.cells #[.slice none 0 0] 41) = w1 := hw1
  simp only [hw1, hw2, hw3, hw4]
  clear hw1 hw2 hw3 hw4 B1 B2 B3
  refine wpIn_rangeFunc_ownH rfl (by omega) (gf := 70) (lb := #[.pointer (some ⟨w.heap.size + 1, 0, none⟩), .pointer (some ⟨w.heap.size + 2, 0, none⟩), .pointer (some ⟨w.heap.size + 3, 0, none⟩)]) rfl trivial (enters_of Tryz.func70 (by kernel_rfl) rfl)
    (pe_stops _ _ _ b sb wb nb ns N lo hi P m w4 T hT hlo hhi c1 c2 c3 hL') KT.t (KT.b hTl) (Below.refl _ _) (fun _ => rfl)
    (fun pre W => (∃ v, Boxed W w.heap.size 41 v ∧ W.ownsRow (w.heap.size + 4) 93 3 v pre.length (rowE P.sl pre) ∧ True) ∧ Below w.heap.size w W ∧ w.heap.size + 4 ≤ W.heap.size)
    (fun _ _ _ => False)
    (OwnFrom.and (Own.from (holdsRow_own (w.heap.size + 4) w.heap.size 41 93 3 (fun pre : List Nat => pre.length) (fun pre => rowE P.sl pre) (fun pre v => True)) _) (OwnFrom.and (ownFrom_below (Nat.le_refl _) (by omega)) (fun s A B row hs hg hr => Nat.le_trans hs hg.size)))
    (fun _ _ _ _ _ hs _ _ => hs)
    ⟨⟨_, bO, World.ownsRow_nil _ _ _ _, trivial⟩, hB0, by omega⟩
    (fun x a' W => ∃ B, a' = { tmps := #[.pointer (some ⟨b, 0, none⟩), .int .i64 (lo : Int), .int .i64 (hi : Int), undef, undef, undef, .slice none 0 0, .pointer (some ⟨w.heap.size, 0, none⟩), .pointer (some ⟨B, 0, none⟩), .pointer (some ⟨b, 0, none⟩), .int .i64 (lo : Int), .int .i64 (hi : Int), .func (.func 70) #[] #[.pointer (some ⟨w.heap.size + 1, 0, none⟩), .pointer (some ⟨w.heap.size + 2, 0, none⟩), .pointer (some ⟨w.heap.size + 3, 0, none⟩)], .agg (entA P.sl x), undef, undef, undef, undef, undef], defers := [] } ∧ W.heap[B]? = some (.cells (entA P.sl x) 93))
    (fun x a' _ A B row hs hg hr => by
      obtain ⟨C, e, hc⟩ := hs
      exact ⟨C, e, (hg.block C (blk_lt' hc) (fun e' => by obtain ⟨_, o, ho, hcc⟩ := hr C e'.symm; rw [hc] at ho; cases ho; cases hcc)).trans hc⟩) ?assign ?body ?done ?stop
  case assign =>
    intro l pre x W K hI hK
    obtain ⟨⟨v, hv, hrow, -⟩, hB, hsz⟩ := hI
    unfold entA
    gi_wp2
    exact hK _ _ ((KeepsOthers.alloc W _).from _) ((Keeps.refl _ W).alloc _) ⟨⟨v, hv.alloc _, hrow.alloc _, trivial⟩, hB.alloc hB.size _, by simp; omega⟩ ⟨W.heap.size, rfl, heap_at W _ _ rfl⟩
  case body =>
    rintro l pre x a' W hl hrec ⟨⟨v, hv, hrow, -⟩, hB, hsz⟩ ⟨B, rfl, hb⟩ hlt
    have hc := hv.cell
    have hpl : pre.length ≤ 192 := by omega
    have x0 : W.cell? ⟨B, 0, none⟩ = some (.int .i64 (x : Int)) := blk_cell' hb 0
    have x1 : W.cell? ⟨B, 1, none⟩ = some (.int .i64 (P.sl x - 1)) := blk_cell' hb 1
    have x2 : W.cell? ⟨B, 2, none⟩ = some (.int .u64 (tgI (P.sl x))) := blk_cell' hb 2
    have ER := Lib.hid (rowE_snoc P.sl pre x)
    generalize hxx : P.sl x - 1 = xx at *
    generalize htg : tgI (P.sl x) = tg at *
    clear hxx htg hb
    gi_wp2_with (gi_at_builtin; refine wpListIn_append_own_at _ rfl _ _ 41 rfl (w.heap.size + 4) 93 i0 (.agg #[.int .i64 0, .int .i64 0, .int .u64 0]) 3 24 Tryz.underlying41 hif hz0 hz1 hz2 rfl (by decide) _ _ _ rfl (hrow.alloc _) ⟨W.heap.size, 0, none⟩ 1 1 [.int .i64 (x : Int), .int .i64 xx, .int .u64 tg] rfl (by rfl) (World.news_of_block (heap_alloc_new _ _)) ?c2 ?c3 ?c4 ?c5 ?_)
    case c2 => intro u hu; simp at hu; rcases hu with rfl | rfl | rfl <;> rfl
    case c3 => unfold maxLen; omega
    case c4 => omega
    case c5 => simp; omega
    rintro v' w5 hown' hgrow - hat
    obtain ⟨g', cap', rfl⟩ := ownsRow_succ hown'
    obtain ⟨hv1, hv2, hr2, hk2, hb2, hkt⟩ := boxed_more (n₀ := w.heap.size) hv (by decide) hrow hB.size (Nat.le_refl _) (by omega) hown' hgrow
    have hc1 := hv1.cell
    have hf1 := hv1.frozen
    gi_wp2
    exact ⟨hk2.from _, hkt T HTN.out, ⟨_, hv2, by rw [List.length_append, ER.out]; exact hr2, trivial⟩, hB.trans hb2, Nat.le_trans hsz hb2.size⟩
  case done =>
    rintro D ys W hD rfl ⟨⟨v, hv, hrow, -⟩, hB, hsz⟩ hK
    have hc := hv.cell
    gi_wp2
    refine ⟨by simp, .inl ⟨_, _, rfl, run_takeDeferred hK, ?_⟩⟩
    refine ⟨_, results_tmp rfl _ _ _, v, rfl, ?_, hB.trans (belowK_b (w := w) (Nat.le_refl _) W D _ _ (by omega) hK rfl rfl)⟩
    have hr := ownsRow_putObj hrow (.deferred none) hK rfl
    exact ⟨hr.1, hr.2.imp id (fun ⟨g, cap, cur, e, hb, r⟩ => ⟨g, cap, cur, e, by omega, r⟩)⟩
  case stop =>
    rintro D c pre W _ _ h _
    exact h.elim
end
end Go.Proofs.YtbgknopjgohocaaGreat
