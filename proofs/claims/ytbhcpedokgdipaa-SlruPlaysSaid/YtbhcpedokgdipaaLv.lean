/- The program's lists: walks of Of, Remove, Len, Back, New. -/
import Derived.Test.YtbhcpedokgdipaaLw
import Derived.Test.YtbhcpedokgdipaaMix
namespace Go.Proofs.Ytbhcpedokgdipaa
open Go.RowKit
set_option linter.unusedVariables false

section
variable {w : World} {b g q n K : Nat} {t : LS}

theorem li_of (h : Li w b g q n K t) (m : Nat) (hm : m < n) (ht : 0 < t.tg m) :
    Calls Try.prog 73 #[.pointer (some ⟨b, 0, none⟩), .int .i64 (m : Int)] w fun e w' => e = .returned (.tuple #[.int .i64 ((t.tg m - 1 : Nat) : Int), .bool true]) ∧ w = w' := by
  have HS := li_has h (m : Int)
  rw [decide_eq_true (show 0 ≤ (m : Int) ∧ (m : Int) < n by omega)] at HS
  have HS := Lib.hid HS
  have c0 := h.c0
  obtain ⟨d0, d1, d2⟩ := h.node (k := m) (by omega)
  have x1 : (m : Int) < ((n + K : Nat) : Int) := by omega
  have x2 : ((t.tg m : Int) == 0) = false := beq_eq_false_iff_ne.2 (by omega)
  have x3 : (t.tg m : Int) ≤ 16 := by have := h.inv.tle m hm; have := h.k2; omega
  have x4 : 1 ≤ (t.tg m : Int) := by omega
  clear h
  go_enter Try.func73, Try.ntmps73
  go_wp2_with fail
  refine HS.out.mono ?_
  rintro e w' ⟨rfl, rfl⟩
  go_wp2
  go_ret2
  refine ⟨?_, rfl⟩
  rw [show ((t.tg m - 1 : Nat) : Int) = (t.tg m : Int) - 1 by omega]; rfl

theorem li_of_none (h : Li w b g q n K t) (m : Nat) (hm : m < n) (ht : t.tg m = 0) :
    Calls Try.prog 73 #[.pointer (some ⟨b, 0, none⟩), .int .i64 (m : Int)] w fun e w' => e = .returned (.tuple #[.int .i64 0, .bool false]) ∧ w = w' := by
  have HS := li_has h (m : Int)
  rw [decide_eq_true (show 0 ≤ (m : Int) ∧ (m : Int) < n by omega)] at HS
  have HS := Lib.hid HS
  have c0 := h.c0
  obtain ⟨d0, d1, d2⟩ := h.node (k := m) (by omega)
  rw [ht] at d2
  have x1 : (m : Int) < ((n + K : Nat) : Int) := by omega
  clear h ht
  go_enter Try.func73, Try.ntmps73
  go_wp2_with fail
  refine HS.out.mono ?_
  rintro e w' ⟨rfl, rfl⟩
  go_wp2
  go_ret2
  exact ⟨rfl, rfl⟩

theorem li_of_no (h : Li w b g q n K t) (m : Int) (hm : ¬ (0 ≤ m ∧ m < n)) :
    Calls Try.prog 73 #[.pointer (some ⟨b, 0, none⟩), .int .i64 m] w fun e w' => e = .returned (.tuple #[.int .i64 0, .bool false]) ∧ w = w' := by
  have HS := li_has h m
  rw [decide_eq_false hm] at HS
  have HS := Lib.hid HS
  clear h hm
  go_enter Try.func73, Try.ntmps73
  go_wp2_with fail
  refine HS.out.mono ?_
  rintro e w' ⟨rfl, rfl⟩
  go_wp2
  go_ret2
  exact ⟨rfl, rfl⟩

theorem li_remove (h : Li w b g q n K t) (m : Nat) (hm : m < n) (ht : 0 < t.tg m) :
    Calls Try.prog 76 #[.pointer (some ⟨b, 0, none⟩), .int .i64 (m : Int)] w fun e w' => e = .returned (.bool true) ∧ Li w' b g q n K (unlinkS t m) ∧ Keeps (fun j => j = g ∨ j = q) w w' := by
  have HS := li_has h (m : Int)
  rw [decide_eq_true (show 0 ≤ (m : Int) ∧ (m : Int) < n by omega)] at HS
  have HS := Lib.hid HS
  have U := Lib.hid (li_unlink h m hm ht)
  have c0 := h.c0
  obtain ⟨d0, d1, d2⟩ := h.node (k := m) (by omega)
  have x1 : (m : Int) < ((n + K : Nat) : Int) := by omega
  have x2 : ((t.tg m : Int) == 0) = false := beq_eq_false_iff_ne.2 (by omega)
  clear h
  go_enter Try.func76, Try.ntmps76
  go_wp2_with fail
  refine HS.out.mono ?_
  rintro e w' ⟨rfl, rfl⟩
  go_wp2_with fail
  refine U.out.mono ?_
  rintro e w' ⟨rfl, h', k'⟩
  have H' := Lib.hid h'
  have K' := Lib.hid k'
  clear h' k'
  go_wp2
  go_ret
  exact ⟨rfl, H'.out, K'.out⟩

theorem li_remove_none (h : Li w b g q n K t) (m : Nat) (hm : m < n) (ht : t.tg m = 0) :
    Calls Try.prog 76 #[.pointer (some ⟨b, 0, none⟩), .int .i64 (m : Int)] w fun e w' => e = .returned (.bool false) ∧ w = w' := by
  have HS := li_has h (m : Int)
  rw [decide_eq_true (show 0 ≤ (m : Int) ∧ (m : Int) < n by omega)] at HS
  have HS := Lib.hid HS
  have c0 := h.c0
  obtain ⟨d0, d1, d2⟩ := h.node (k := m) (by omega)
  rw [ht] at d2
  have x1 : (m : Int) < ((n + K : Nat) : Int) := by omega
  clear h ht
  go_enter Try.func76, Try.ntmps76
  go_wp2_with fail
  refine HS.out.mono ?_
  rintro e w' ⟨rfl, rfl⟩
  go_wp2
  go_ret
  exact ⟨rfl, rfl⟩

theorem li_remove_no (h : Li w b g q n K t) (m : Int) (hm : ¬ (0 ≤ m ∧ m < n)) :
    Calls Try.prog 76 #[.pointer (some ⟨b, 0, none⟩), .int .i64 m] w fun e w' => e = .returned (.bool false) ∧ w = w' := by
  have HS := li_has h m
  rw [decide_eq_false hm] at HS
  have HS := Lib.hid HS
  clear h hm
  go_enter Try.func76, Try.ntmps76
  go_wp2_with fail
  refine HS.out.mono ?_
  rintro e w' ⟨rfl, rfl⟩
  go_wp2
  go_ret
  exact ⟨rfl, rfl⟩

theorem li_len (h : Li w b g q n K t) (k : Nat) (hk : k < K) :
    Calls Try.prog 74 #[.pointer (some ⟨b, 0, none⟩), .int .i64 (k : Int)] w fun e w' => e = .returned (.int .i64 ((t.rows k).length : Int)) ∧ w = w' := by
  have HD := Lib.hid (li_head h k hk)
  have c2 := h.c2
  have dm := h.many.cell hk
  rw [h.inv.many k hk] at dm
  have x5 : (k : Int) < (K : Int) := by omega
  clear h
  go_enter Try.func74, Try.ntmps74
  go_wp2_with fail
  refine HD.out.mono ?_
  rintro e w' ⟨rfl, rfl⟩
  go_wp2
  go_ret
  exact ⟨rfl, rfl⟩

theorem li_end (h : Li w b g q n K t) (m : Nat) :
    Calls Try.prog 97 #[.pointer (some ⟨b, 0, none⟩), .int .i64 (m : Int)] w fun e w' => e = .returned (.tuple #[.int .i64 ((if m < n then m else 0 : Nat) : Int), .bool (decide (m < n))]) ∧ w = w' := by
  have HS := li_has h (m : Int)
  clear h
  by_cases hm : m < n
  · rw [decide_eq_true (show 0 ≤ (m : Int) ∧ (m : Int) < n by omega)] at HS
    have HS := Lib.hid HS
    rw [if_pos hm, decide_eq_true hm]
    go_enter Try.func97, Try.ntmps97
    go_wp2_with fail
    refine HS.out.mono ?_
    rintro e w' ⟨rfl, rfl⟩
    go_wp2
    go_ret2
    exact ⟨rfl, rfl⟩
  · rw [decide_eq_false (show ¬ (0 ≤ (m : Int) ∧ (m : Int) < n) by omega)] at HS
    have HS := Lib.hid HS
    rw [if_neg hm, decide_eq_false hm]
    go_enter Try.func97, Try.ntmps97
    go_wp2_with fail
    refine HS.out.mono ?_
    rintro e w' ⟨rfl, rfl⟩
    go_wp2
    go_ret2
    exact ⟨rfl, rfl⟩

/-- The last one of a row, and whether there is one. -/
def backN (l : List Nat) : Nat := l.getLast?.getD 0
theorem li_back (h : Li w b g q n K t) (k : Nat) (hk : k < K) :
    Calls Try.prog 75 #[.pointer (some ⟨b, 0, none⟩), .int .i64 (k : Int)] w fun e w' => e = .returned (.tuple #[.int .i64 (backN (t.rows k) : Int), .bool (!(t.rows k).isEmpty)]) ∧ w = w' := by
  have HD := Lib.hid (li_head h k hk)
  have E := li_end h (t.pv (n + k))
  have hl := last_of h.inv hk
  have e1 : ((if t.pv (n + k) < n then t.pv (n + k) else 0 : Nat)) = backN (t.rows k) ∧ decide (t.pv (n + k) < n) = !(t.rows k).isEmpty := by
    rw [hl]
    rcases List.eq_nil_or_concat (t.rows k) with e | ⟨l, a, e⟩
    · rw [e]; simp [backN, show ¬ n + k < n by omega]
    · have hlt := h.inv.lt k hk a (by rw [e]; simp)
      rw [e]; simp [backN, hlt]
  rw [e1.1, e1.2] at E
  have E := Lib.hid E
  have c0 := h.c0
  obtain ⟨d0, d1, d2⟩ := h.node (k := n + k) (by omega)
  have x2 : ((n + k : Nat) : Int) < ((n + K : Nat) : Int) := by omega
  clear h hl e1
  go_enter Try.func75, Try.ntmps75
  go_wp2_with fail
  refine HD.out.mono ?_
  rintro e w' ⟨rfl, rfl⟩
  go_wp2_with fail
  refine E.out.mono ?_
  rintro e w' ⟨rfl, rfl⟩
  go_wp2
  first
    | (go_ret2; exact ⟨rfl, rfl⟩)
    | (go_ret; exact ⟨rfl, rfl⟩)
end

/-- The zero of a node. -/
theorem infoNode : (Try.prog.info? 119).map (fun i => (i.zero, i.size, i.bytes)) = some (some (.agg #[.int .i64 0, .int .i64 0, .int .i64 0]), 3, 24) := by kernel_rfl

theorem toList_madeCells3 (z : Value) (n : Nat) : (madeCells #[z, z, z] (n * 3)).size = n * 3 ∧ ∀ i, i < n * 3 → (madeCells #[z, z, z] (n * 3))[i]? = some z := by
  refine ⟨size_madeCells _ _, fun i hi => ?_⟩
  have : i % 3 = 0 ∨ i % 3 = 1 ∨ i % 3 = 2 := by omega
  unfold madeCells
  rw [Array.getElem?_map, Array.getElem?_range, if_pos hi]
  rcases this with e | e | e <;> simp [e]

theorem make_nodes (L : Nat) (hL : L ≤ 2048) (W : World) : (Instr.makeSlice 115 (.int .i64 (L : Int)) (.int .i64 (L : Int))).run Try.prog W = .ok (.slice (some ⟨W.heap.size, 0, none⟩) L L) (W.alloc (.cells (madeCells #[.int .i64 0, .int .i64 0, .int .i64 0] (L * 3)) 119)) := by
  obtain ⟨i0, hi, hz0, hz1, hz2⟩ := info_parts infoNode
  have := run_make (P := Try.prog) (w := W) 115 119 i0 (.agg #[.int .i64 0, .int .i64 0, .int .i64 0]) Try.underlying115 hi hz0 .i64 .i64 (L : Int) (L : Int) (by omega) (Int.le_refl _) (by rw [hz2]; omega) (by omega)
  rw [this, hz1]
  simp [Value.cells]

theorem mk_ints (L : Nat) (hL : L ≤ 4096) (W : World) : (Instr.makeSlice 79 (.int .i64 (L : Int)) (.int .i64 (L : Int))).run Try.prog W = .ok (.slice (some ⟨W.heap.size, 0, none⟩) L L) (W.alloc (.cells (madeCells #[.int .i64 0] L) 3)) := by
  obtain ⟨i0, hi, hz0, hz1, hz2⟩ := info_parts infoInt
  have := run_make (P := Try.prog) (w := W) 79 3 i0 (.int .i64 0) Try.underlying79 hi hz0 .i64 .i64 (L : Int) (L : Int) (by omega) (Int.le_refl _) (by rw [hz2]; omega) (by omega)
  rw [this, hz1]
  simp [Value.cells]

def newLS : LS := ⟨fun i => i, fun i => i, fun _ => 0, fun _ => 0, fun _ => []⟩
theorem newLS_inv (n K : Nat) : LInv n K newLS :=
  ⟨fun k hk => by show Links _ _ [n + k, n + k]; exact ⟨rfl, rfl, trivial⟩, fun k hk => List.nodup_nil, fun k hk x hx => (by cases hx), fun k hk x hx => by simp [newLS], fun x hx => Nat.zero_le _, fun k hk => rfl⟩

theorem madeCells_get' (z : Value) (n i : Nat) (hi : i < n) : (madeCells #[z] n)[i]? = some z := by
  have h := toList_madeCells_one z n
  have : (madeCells #[z] n).toList[i]? = some z := by rw [h]; simp [hi]
  simpa using this

/-- The nodes on the way: those below k are laid. -/
def partF (k i : Nat) : Value := if i < k * 3 then ndF newLS i else .int .i64 0
theorem part_step {w : World} {g L : Nat} {ty : TypeId} {k : Nat} (h : Arr w g ty (L * 3) (partF k)) :
    Arr (((w.setCell ⟨g, k * 3, none⟩ (.int .i64 (k : Int))).setCell ⟨g, k * 3 + 1, none⟩ (.int .i64 (k : Int))).setCell ⟨g, k * 3 + 2, none⟩ (.int .i64 0)) g ty (L * 3) (partF (k + 1)) :=
  (((h.set (k * 3) _).set (k * 3 + 1) _).set (k * 3 + 2) _).congr (fun i hi => by
    by_cases e0 : i = k * 3
    · subst e0
      rw [if_neg (by omega), if_neg (by omega), if_pos rfl, partF, if_pos (by omega), ndF0]; rfl
    · by_cases e1 : i = k * 3 + 1
      · subst e1
        rw [if_neg (by omega), if_pos rfl, partF, if_pos (by omega), ndF1]; rfl
      · by_cases e2 : i = k * 3 + 2
        · subst e2
          rw [if_pos rfl, partF, if_pos (by omega), ndF2]; rfl
        · rw [if_neg e2, if_neg e1, if_neg e0, partF, partF]
          by_cases h : i < k * 3
          · rw [if_pos h, if_pos (by omega)]
          · rw [if_neg h, if_neg (by omega)])

/-- What 'New' leaves. -/
def NewLi (n K : Nat) (w : World) (e : Ending) (w' : World) : Prop := ∃ b g q, e = .returned (.tuple #[.pointer (some ⟨b, 0, none⟩), .int .i64 0]) ∧
  Li w' b g q n K newLS ∧ New w w' b ∧ New w w' g ∧ New w w' q ∧ Below w.heap.size w w'
theorem Arr.mk_ {w : World} {g L : Nat} {t : TypeId} {F : Nat → Value} {cs : Array Value} (h : w.heap[g]? = some (.cells cs t (0, 0))) (hs : cs.size = L) (hc : ∀ i, i < L → cs[i]? = some (F i)) : Arr w g t L F := ⟨cs, h, hs, hc⟩

set_option maxHeartbeats 1000000 in
theorem li_new (w : World) (n K : Nat) (hn : n ≤ 1024) (hK : K ≤ 16) (hK1 : 1 ≤ K) :
    Calls Try.prog 69 #[.int .i64 (n : Int), .int .i64 (K : Int)] w (NewLi n K w) := by
  have M1 : ∀ W, (Instr.makeSlice 115 (.int .i64 ((n : Int) + (K : Int))) (.int .i64 ((n : Int) + (K : Int)))).run Try.prog W = .ok (.slice (some ⟨W.heap.size, 0, none⟩) (n + K) (n + K)) (W.alloc (.cells (madeCells #[.int .i64 0, .int .i64 0, .int .i64 0] ((n + K) * 3)) 119)) := fun W => by
    have := make_nodes (n + K) (by omega) W
    rw [show ((n + K : Nat) : Int) = (n : Int) + (K : Int) by omega] at this; exact this
  have M2 := fun W => mk_ints K (by omega) W
  have a1 : ¬ (n : Int) < 0 := by omega
  have a2 : ¬ (1024 : Int) < (n : Int) := by omega
  have a3 : ¬ (K : Int) < 0 := by omega
  have a4 : ¬ (16 : Int) < (K : Int) := by omega
  have a5 : (n : Int) ≤ 1024 := by omega
  have a6 : (K : Int) ≤ 16 := by omega
  go_enter Try.func69, Try.ntmps69
  go_wp2_with fail
  go_region
  · have bb : Below w.heap.size w (((w.alloc (.cells (madeCells #[.int .i64 0, .int .i64 0, .int .i64 0] ((n + K) * 3)) 119)).alloc (.cells (madeCells #[.int .i64 0] K) 3)).alloc (.cells #[.slice (some ⟨w.heap.size, 0, none⟩) (n + K) (n + K), .int .i64 (n : Int), .slice (some ⟨w.heap.size + 1, 0, none⟩) K K] 117)).drew := ((((Below.refl w.heap.size w).alloc (Nat.le_refl _) _).alloc (by simp) _).alloc (by simp; omega) _).drew
    have hz : (((w.alloc (.cells (madeCells #[.int .i64 0, .int .i64 0, .int .i64 0] ((n + K) * 3)) 119)).alloc (.cells (madeCells #[.int .i64 0] K) 3)).alloc (.cells #[.slice (some ⟨w.heap.size, 0, none⟩) (n + K) (n + K), .int .i64 (n : Int), .slice (some ⟨w.heap.size + 1, 0, none⟩) K K] 117)).drew.heap.size = w.heap.size + 3 := by simp
    have A0 : Arr (((w.alloc (.cells (madeCells #[.int .i64 0, .int .i64 0, .int .i64 0] ((n + K) * 3)) 119)).alloc (.cells (madeCells #[.int .i64 0] K) 3)).alloc (.cells #[.slice (some ⟨w.heap.size, 0, none⟩) (n + K) (n + K), .int .i64 (n : Int), .slice (some ⟨w.heap.size + 1, 0, none⟩) K K] 117)).drew w.heap.size 119 ((n + K) * 3) (partF 0) := Arr.drewN (Arr.past (Arr.past (Arr.mk_ (w := w.alloc (.cells (madeCells #[.int .i64 0, .int .i64 0, .int .i64 0] ((n + K) * 3)) 119)) (heap_at _ _ _ rfl) (toList_madeCells3 _ _).1 (fun i hi => by rw [(toList_madeCells3 _ _).2 i hi]; simp [partF])) _) _) 1
    have M0 : Arr (((w.alloc (.cells (madeCells #[.int .i64 0, .int .i64 0, .int .i64 0] ((n + K) * 3)) 119)).alloc (.cells (madeCells #[.int .i64 0] K) 3)).alloc (.cells #[.slice (some ⟨w.heap.size, 0, none⟩) (n + K) (n + K), .int .i64 (n : Int), .slice (some ⟨w.heap.size + 1, 0, none⟩) K K] 117)).drew (w.heap.size + 1) 3 K (fun k => .int .i64 ((newLS.cn k : Nat) : Int)) := Arr.drewN (Arr.past (Arr.mk_ (w := (w.alloc (.cells (madeCells #[.int .i64 0, .int .i64 0, .int .i64 0] ((n + K) * 3)) 119)).alloc (.cells (madeCells #[.int .i64 0] K) 3)) (heap_at _ _ _ (by simp)) (size_madeCells _ _) (fun i hi => madeCells_get' _ _ _ hi)) _) 1
    have T0 : Arr (((w.alloc (.cells (madeCells #[.int .i64 0, .int .i64 0, .int .i64 0] ((n + K) * 3)) 119)).alloc (.cells (madeCells #[.int .i64 0] K) 3)).alloc (.cells #[.slice (some ⟨w.heap.size, 0, none⟩) (n + K) (n + K), .int .i64 (n : Int), .slice (some ⟨w.heap.size + 1, 0, none⟩) K K] 117)).drew (w.heap.size + 1 + 1) 117 3 (liF w.heap.size (w.heap.size + 1) n K) := Arr.drewN (Arr.mk_ (L := 3) (heap_at _ _ _ (by simp)) (by rfl) (fun i (hi : i < 3) => by
      have : i = 0 ∨ i = 1 ∨ i = 2 := by omega
      rcases this with rfl | rfl | rfl <;> rfl)) 1
    generalize (((w.alloc (.cells (madeCells #[.int .i64 0, .int .i64 0, .int .i64 0] ((n + K) * 3)) 119)).alloc (.cells (madeCells #[.int .i64 0] K) 3)).alloc (.cells #[.slice (some ⟨w.heap.size, 0, none⟩) (n + K) (n + K), .int .i64 (n : Int), .slice (some ⟨w.heap.size + 1, 0, none⟩) K K] 117)).drew = w0 at *
    obtain ⟨g, hg⟩ : ∃ g, g = w.heap.size := ⟨_, rfl⟩
    obtain ⟨q, hq⟩ : ∃ q, q = (w.heap.size + 1) := ⟨_, rfl⟩
    obtain ⟨b, hb⟩ : ∃ b, b = w.heap.size + 1 + 1 := ⟨_, rfl⟩
    rw [← hb, ← hq, ← hg] at T0
    rw [← hg] at A0
    rw [← hq] at M0
    have c0 : w0.cell? ⟨b, 0, none⟩ = some (.slice (some ⟨g, 0, none⟩) (n + K) (n + K)) := T0.cell (i := 0) (by omega)
    rw [hb, hg] at c0
    have HG := Lib.hid hg
    have HQ := Lib.hid hq
    have HB := Lib.hid hb
    have T0' := Lib.hid T0
    have M0' := Lib.hid M0
    have A0' := Lib.hid A0
    have BB := Lib.hid bb
    have HZ := Lib.hid hz
    clear T0 M0 A0 bb hz hg hq hb
    go_wp2_with fail
    have hzz := HZ.out
    go_loopw [36, 7] (fun i _ wr => ∃ k : Nat, k ≤ n + K ∧ i = .int .i64 (k : Int) ∧ Arr wr g 119 ((n + K) * 3) (partF k) ∧ Keeps (fun j => j = g) w0 wr) (fun i _ _ => n + K - (intOf i).toNat)
    case atStart => exact ⟨0, Nat.zero_le _, rfl, A0'.out, Keeps.refl _ _⟩
    case round =>
      obtain ⟨k, hk, rfl, ha, hkk⟩ := hrel
      have tg := T0'.out.keep hkk (fun e => T0'.out.ne A0'.out (by decide) e)
      have d0 : wr.cell? ⟨b, 0, none⟩ = some (.slice (some ⟨g, 0, none⟩) (n + K) (n + K)) := tg.cell (i := 0) (by omega)
      rw [HB.out, HG.out] at d0
      have HK := Lib.hid hkk
      have HA := Lib.hid ha
      have HT := Lib.hid tg
      by_cases h1 : k < n + K
      · have x1 : (k : Int) < ((n + K : Nat) : Int) := by omega
        have x2 : (k : Int) ≤ 1040 := by omega
        have f0 := fun i => ha.free i
        have y0 := ha.cell (i := k * 3) (by omega)
        have y1 := ha.cell (i := k * 3 + 1) (by omega)
        have y2 := ha.cell (i := k * 3 + 2) (by omega)
        rw [HG.out] at f0 y0 y1 y2
        have ST := part_step ha
        have KS := (((HK.out.setCell (p := ⟨g, k * 3, none⟩) (.inl rfl) (.int .i64 (k : Int))).setCell (p := ⟨g, k * 3 + 1, none⟩) (.inl rfl) (.int .i64 (k : Int))).setCell (p := ⟨g, k * 3 + 2, none⟩) (.inl rfl) (.int .i64 0))
        have HST := Lib.hid ST
        have HKS := Lib.hid KS
        clear ha hkk tg ST KS
        go_wp2
        go_roundw
        case rel => exact ⟨k + 1, by omega, by simp, by rw [HG.out] at HST ⊢; exact HST.out, by rw [HG.out] at HKS ⊢; exact HKS.out⟩
        case measure => simp only [intOf]; omega
      · have x1 : ¬ (k : Int) < ((n + K : Nat) : Int) := by omega
        obtain rfl : k = n + K := by omega
        clear ha hkk tg d0
        go_wp2
        go_ret2
        have hsz := HK.out.size
        have hg := HG.out
        have hq := HQ.out
        have hb := HB.out
        refine ⟨b, g, q, by rw [hb]; rfl, ⟨HT.out, nd_congr HA.out (fun k hk => ?_), M0'.out.keep HK.out (fun e => M0'.out.ne A0'.out (by decide) e), newLS_inv n K, hn, hK⟩, ⟨by omega, by omega⟩, ⟨by omega, by omega⟩, ⟨by omega, by omega⟩, BB.out.trans ((HK.out.mono (T := fun j => w.heap.size ≤ j) (fun _ _ x => by omega)).below (by omega))⟩
        unfold partF
        rw [if_pos (by omega), if_pos (by omega), if_pos (by omega)]
        exact ⟨ndF0 _ _, ndF1 _ _, ndF2 _ _⟩
  · have bb : Below w.heap.size w (((w.alloc (.cells (madeCells #[.int .i64 0] K) 3)).alloc (.cells (madeCells #[.int .i64 0, .int .i64 0, .int .i64 0] ((n + K) * 3)) 119)).alloc (.cells #[.slice (some ⟨w.heap.size + 1, 0, none⟩) (n + K) (n + K), .int .i64 (n : Int), .slice (some ⟨w.heap.size, 0, none⟩) K K] 117)).drew := ((((Below.refl w.heap.size w).alloc (Nat.le_refl _) _).alloc (by simp) _).alloc (by simp; omega) _).drew
    have hz : (((w.alloc (.cells (madeCells #[.int .i64 0] K) 3)).alloc (.cells (madeCells #[.int .i64 0, .int .i64 0, .int .i64 0] ((n + K) * 3)) 119)).alloc (.cells #[.slice (some ⟨w.heap.size + 1, 0, none⟩) (n + K) (n + K), .int .i64 (n : Int), .slice (some ⟨w.heap.size, 0, none⟩) K K] 117)).drew.heap.size = w.heap.size + 3 := by simp
    have M0 : Arr (((w.alloc (.cells (madeCells #[.int .i64 0] K) 3)).alloc (.cells (madeCells #[.int .i64 0, .int .i64 0, .int .i64 0] ((n + K) * 3)) 119)).alloc (.cells #[.slice (some ⟨w.heap.size + 1, 0, none⟩) (n + K) (n + K), .int .i64 (n : Int), .slice (some ⟨w.heap.size, 0, none⟩) K K] 117)).drew w.heap.size 3 K (fun k => .int .i64 ((newLS.cn k : Nat) : Int)) := Arr.drewN (Arr.past (Arr.past (Arr.mk_ (w := w.alloc (.cells (madeCells #[.int .i64 0] K) 3)) (heap_at _ _ _ rfl) (size_madeCells _ _) (fun i hi => madeCells_get' _ _ _ hi)) _) _) 1
    have A0 : Arr (((w.alloc (.cells (madeCells #[.int .i64 0] K) 3)).alloc (.cells (madeCells #[.int .i64 0, .int .i64 0, .int .i64 0] ((n + K) * 3)) 119)).alloc (.cells #[.slice (some ⟨w.heap.size + 1, 0, none⟩) (n + K) (n + K), .int .i64 (n : Int), .slice (some ⟨w.heap.size, 0, none⟩) K K] 117)).drew (w.heap.size + 1) 119 ((n + K) * 3) (partF 0) := Arr.drewN (Arr.past (Arr.mk_ (w := (w.alloc (.cells (madeCells #[.int .i64 0] K) 3)).alloc (.cells (madeCells #[.int .i64 0, .int .i64 0, .int .i64 0] ((n + K) * 3)) 119)) (heap_at _ _ _ (by simp)) (toList_madeCells3 _ _).1 (fun i hi => by rw [(toList_madeCells3 _ _).2 i hi]; simp [partF])) _) 1
    have T0 : Arr (((w.alloc (.cells (madeCells #[.int .i64 0] K) 3)).alloc (.cells (madeCells #[.int .i64 0, .int .i64 0, .int .i64 0] ((n + K) * 3)) 119)).alloc (.cells #[.slice (some ⟨w.heap.size + 1, 0, none⟩) (n + K) (n + K), .int .i64 (n : Int), .slice (some ⟨w.heap.size, 0, none⟩) K K] 117)).drew (w.heap.size + 1 + 1) 117 3 (liF (w.heap.size + 1) w.heap.size n K) := Arr.drewN (Arr.mk_ (L := 3) (heap_at _ _ _ (by simp)) (by rfl) (fun i (hi : i < 3) => by
      have : i = 0 ∨ i = 1 ∨ i = 2 := by omega
      rcases this with rfl | rfl | rfl <;> rfl)) 1
    generalize (((w.alloc (.cells (madeCells #[.int .i64 0] K) 3)).alloc (.cells (madeCells #[.int .i64 0, .int .i64 0, .int .i64 0] ((n + K) * 3)) 119)).alloc (.cells #[.slice (some ⟨w.heap.size + 1, 0, none⟩) (n + K) (n + K), .int .i64 (n : Int), .slice (some ⟨w.heap.size, 0, none⟩) K K] 117)).drew = w0 at *
    obtain ⟨g, hg⟩ : ∃ g, g = (w.heap.size + 1) := ⟨_, rfl⟩
    obtain ⟨q, hq⟩ : ∃ q, q = w.heap.size := ⟨_, rfl⟩
    obtain ⟨b, hb⟩ : ∃ b, b = w.heap.size + 1 + 1 := ⟨_, rfl⟩
    rw [← hb, ← hg, ← hq] at T0
    rw [← hg] at A0
    rw [← hq] at M0
    have c0 : w0.cell? ⟨b, 0, none⟩ = some (.slice (some ⟨g, 0, none⟩) (n + K) (n + K)) := T0.cell (i := 0) (by omega)
    rw [hb, hg] at c0
    have HG := Lib.hid hg
    have HQ := Lib.hid hq
    have HB := Lib.hid hb
    have T0' := Lib.hid T0
    have M0' := Lib.hid M0
    have A0' := Lib.hid A0
    have BB := Lib.hid bb
    have HZ := Lib.hid hz
    clear T0 M0 A0 bb hz hg hq hb
    go_wp2_with fail
    have hzz := HZ.out
    go_loopw [36, 7] (fun i _ wr => ∃ k : Nat, k ≤ n + K ∧ i = .int .i64 (k : Int) ∧ Arr wr g 119 ((n + K) * 3) (partF k) ∧ Keeps (fun j => j = g) w0 wr) (fun i _ _ => n + K - (intOf i).toNat)
    case atStart => exact ⟨0, Nat.zero_le _, rfl, A0'.out, Keeps.refl _ _⟩
    case round =>
      obtain ⟨k, hk, rfl, ha, hkk⟩ := hrel
      have tg := T0'.out.keep hkk (fun e => T0'.out.ne A0'.out (by decide) e)
      have d0 : wr.cell? ⟨b, 0, none⟩ = some (.slice (some ⟨g, 0, none⟩) (n + K) (n + K)) := tg.cell (i := 0) (by omega)
      rw [HB.out, HG.out] at d0
      have HK := Lib.hid hkk
      have HA := Lib.hid ha
      have HT := Lib.hid tg
      by_cases h1 : k < n + K
      · have x1 : (k : Int) < ((n + K : Nat) : Int) := by omega
        have x2 : (k : Int) ≤ 1040 := by omega
        have f0 := fun i => ha.free i
        have y0 := ha.cell (i := k * 3) (by omega)
        have y1 := ha.cell (i := k * 3 + 1) (by omega)
        have y2 := ha.cell (i := k * 3 + 2) (by omega)
        rw [HG.out] at f0 y0 y1 y2
        have ST := part_step ha
        have KS := (((HK.out.setCell (p := ⟨g, k * 3, none⟩) (.inl rfl) (.int .i64 (k : Int))).setCell (p := ⟨g, k * 3 + 1, none⟩) (.inl rfl) (.int .i64 (k : Int))).setCell (p := ⟨g, k * 3 + 2, none⟩) (.inl rfl) (.int .i64 0))
        have HST := Lib.hid ST
        have HKS := Lib.hid KS
        clear ha hkk tg ST KS
        go_wp2
        go_roundw
        case rel => exact ⟨k + 1, by omega, by simp, by rw [HG.out] at HST ⊢; exact HST.out, by rw [HG.out] at HKS ⊢; exact HKS.out⟩
        case measure => simp only [intOf]; omega
      · have x1 : ¬ (k : Int) < ((n + K : Nat) : Int) := by omega
        obtain rfl : k = n + K := by omega
        clear ha hkk tg d0
        go_wp2
        go_ret2
        have hsz := HK.out.size
        have hg := HG.out
        have hq := HQ.out
        have hb := HB.out
        refine ⟨b, g, q, by rw [hb]; rfl, ⟨HT.out, nd_congr HA.out (fun k hk => ?_), M0'.out.keep HK.out (fun e => M0'.out.ne A0'.out (by decide) e), newLS_inv n K, hn, hK⟩, ⟨by omega, by omega⟩, ⟨by omega, by omega⟩, ⟨by omega, by omega⟩, BB.out.trans ((HK.out.mono (T := fun j => w.heap.size ≤ j) (fun _ _ x => by omega)).below (by omega))⟩
        unfold partF
        rw [if_pos (by omega), if_pos (by omega), if_pos (by omega)]
        exact ⟨ndF0 _ _, ndF1 _ _, ndF2 _ _⟩

end Go.Proofs.Ytbhcpedokgdipaa
