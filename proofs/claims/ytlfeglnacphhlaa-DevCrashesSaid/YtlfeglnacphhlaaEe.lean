/- The document's device: New, Has, Stands, Read. -/
import Derived.Test.YtlfeglnacphhlaaEd
namespace Go.Proofs.Ytlfeglnacphhlaa
open Go.RowKit Go.Maps
set_option linter.unusedVariables false

theorem infoOne : (Try.prog.info? 62).map (fun i => (i.zero, i.size, i.bytes)) = some (some (.agg #[.string ByteArray.empty, .slice none 0 0, .bool false]), 3, 48) := by kernel_rfl

def zeroOne (j : Nat) : Value := if j % 3 = 0 then .string ByteArray.empty else if j % 3 = 1 then .slice none 0 0 else .bool false

theorem make_ones (n : Nat) (hn : n ≤ 4096) (W : World) : ∃ cs, (Instr.makeSlice 55 (.int .i64 (n : Int)) (.int .i64 (n : Int))).run Try.prog W = .ok (.slice (some ⟨W.heap.size, 0, none⟩) n n) (W.alloc (.cells cs 62)) ∧ Arr (W.alloc (.cells cs 62)) W.heap.size 62 (n * 3) zeroOne := by
  obtain ⟨i0, hi, hz0, hz1, hz2⟩ := info_parts infoOne
  have := run_make (P := Try.prog) (w := W) 55 62 i0 (.agg #[.string ByteArray.empty, .slice none 0 0, .bool false]) Try.underlying55 hi hz0 .i64 .i64 (n : Int) (n : Int) (by omega) (Int.le_refl _) (by rw [hz2]; omega) (by omega)
  rw [hz1] at this
  refine ⟨_, by rw [this]; rfl, _, heap_at _ _ _ rfl, by rw [size_madeCells]; simp, fun i hi => ?_⟩
  have h3 : i % 3 = 0 ∨ i % 3 = 1 ∨ i % 3 = 2 := by omega
  have hn' : i < (n : Int).toNat * 3 := by omega
  unfold madeCells zeroOne
  rw [Array.getElem?_map, Array.getElem?_range, if_pos hn']
  simp only [Option.map_some]
  have hz : (Value.agg #[Value.string ByteArray.empty, Value.slice none 0 0, Value.bool false]).cells.size = 3 := rfl
  rw [hz]
  rcases h3 with h | h | h <;> rw [h] <;> rfl

/-- On the way: k sectors are made. -/
structure RvN (w wr : World) (q n k : Nat) : Prop where
  size : w.heap.size + 2 ≤ wr.heap.size
  top : Arr wr (w.heap.size + 1) 57 4 (rvF q w.heap.size (newD n))
  fx : Arr wr w.heap.size 62 (n * 3) (fun j => if j / 3 < k then oneF (fun _ => .slice none 0 0) (newD n) j else zeroOne j)
  old : Below w.heap.size w wr

theorem RvN.next {w wr w' : World} {q n k : Nat} (h : RvN w wr q n k) (hk : k < n) (hb : Below wr.heap.size wr w') : RvN w (w'.setCell ⟨w.heap.size, k * 3, none⟩ (.string (zer 64))) q n (k + 1) := by
  have hl := h.fx.lt
  have hz := h.size
  have hz' := hb.size
  refine ⟨by rw [World.size_setCell]; omega, (h.top.below hb (by omega)).far (by omega) _ _, ((h.fx.below hb hl).set (k * 3) _).congr (fun j hj => ?_), (h.old.trans (hb.mono h.old.size)).setCell (p := ⟨w.heap.size, k * 3, none⟩) (Nat.le_refl _) _⟩
  by_cases e : j = k * 3
  · subst e
    rw [if_pos rfl, if_pos (by omega)]
    unfold oneF
    rw [if_pos (by omega)]
    rfl
  · rw [if_neg e]
    by_cases e2 : j / 3 < k
    · rw [if_pos e2, if_pos (by omega)]
    · rw [if_neg e2]
      by_cases e3 : j / 3 = k
      · rw [if_pos (by omega)]
        unfold oneF zeroOne
        have : j % 3 ≠ 0 := by omega
        rw [if_neg this, if_neg this]
        rfl
      · rw [if_neg (by omega)]

section
variable {w : World} {q : Nat}

theorem rv_new (w : World) (n : Nat) (hn : n ≤ 4096) :
    Calls Try.prog 30 #[.int .i64 (n : Int), .pointer (some ⟨q, 0, none⟩)] w fun e w' => e = .returned (.pointer (some ⟨w.heap.size + 1, 0, none⟩)) ∧ RvO (w.heap.size + 1) q (newD n) (New w w') w' ∧ Below w.heap.size w w' := by
  have HN := Lib.hid hn
  have M6 := make_64
  obtain ⟨cs, M, hA⟩ := make_ones n hn w
  have ST : RvN w ((w.alloc (.cells cs 62)).alloc (.cells #[.pointer (some ⟨q, 0, none⟩), .slice (some ⟨w.heap.size, 0, none⟩) n n, .int .u64 0, .int .u64 0] 57)) q n 0 := by
    have z := World.size_alloc w (.cells cs 62)
    refine ⟨by rw [World.size_alloc]; omega, ⟨_, heap_at _ _ _ (by omega), rfl, fun i hi => ?_⟩, (hA.past _).congr (fun j hj => by simp), ((Below.refl _ _).alloc (Nat.le_refl _) _).alloc (by omega) _⟩
    have : i = 0 ∨ i = 1 ∨ i = 2 ∨ i = 3 := by omega
    rcases this with rfl | rfl | rfl | rfl <;> rfl
  have ST := Lib.hid ST
  clear hA hn
  go_enter Try.func30, Try.ntmps30
  go_wp2
  clear M
  generalize (w.alloc (.cells cs 62)).alloc (.cells #[.pointer (some ⟨q, 0, none⟩), .slice (some ⟨w.heap.size, 0, none⟩) n n, .int .u64 0, .int .u64 0] 57) = w0 at *
  go_loopw [6] (fun i wr => ∃ k : Nat, k ≤ n ∧ i = .int .i64 (k : Int) ∧ RvN w wr q n k) (fun i _ => n - (intOf i).toNat)
  case atStart => exact ⟨0, Nat.zero_le _, rfl, ST.out⟩
  case round =>
    obtain ⟨k, hk, rfl, hr⟩ := hrel
    by_cases hk4 : k < n
    · have h1 : (k : Int) < (n : Int) := by omega
      have h3 : (k : Int) ≤ 4096 := by have := HN.out; omega
      have hz0 : zeroOne (k * 3) = .string ByteArray.empty := by unfold zeroOne; rw [if_pos (by omega)]
      have hv : (if k * 3 / 3 < k then oneF (fun _ => .slice none 0 0) (newD n) (k * 3) else zeroOne (k * 3)) = .string ByteArray.empty := by rw [if_neg (by omega), hz0]
      have c1 : wr.cell? ⟨w.heap.size + 1, 1, none⟩ = some (.slice (some ⟨w.heap.size, 0, none⟩) n n) := hr.top.cell (i := 1) (by omega)
      have hc : wr.cell? ⟨w.heap.size, k * 3, none⟩ = some (.string ByteArray.empty) := by have := hr.fx.cell (i := k * 3) (by omega); rw [hv] at this; exact this
      have hf := hr.fx.free (k * 3)
      have c1' : (wr.alloc (.cells (madeCells #[.int .u8 0] 64) 5)).cell? ⟨w.heap.size + 1, 1, none⟩ = some (.slice (some ⟨w.heap.size, 0, none⟩) n n) := (hr.top.past _).cell (i := 1) (by omega)
      have hc' : (wr.alloc (.cells (madeCells #[.int .u8 0] 64) 5)).cell? ⟨w.heap.size, k * 3, none⟩ = some (.string ByteArray.empty) := by have := (hr.fx.past (.cells (madeCells #[.int .u8 0] 64) 5)).cell (i := k * 3) (by omega); rw [hv] at this; exact this
      have hf' : (wr.alloc (.cells (madeCells #[.int .u8 0] 64) 5)).frozen? ⟨w.heap.size, k * 3, none⟩ = false := (hr.fx.past _).free (k * 3)
      have AR := (Arr.made wr 5 64 (.int .u8 0) (madeCells #[.int .u8 0] 64) (size_madeCells _ _) (fun i hi => madeCells_at _ _ _ hi)).congr (fun j hj => (octF_zer 64 j).symm)
      have cv : (convert 44 9 (.slice (some ⟨wr.heap.size, 0, none⟩) 64 64)).run Try.prog (wr.alloc (.cells (madeCells #[.int .u8 0] 64) 5)).drew = .ok (.string (zer 64)) (wr.alloc (.cells (madeCells #[.int .u8 0] 64) 5)).drew := ((Byt.of_arr AR (zer_size 64)).rd.drewN 1).str
      have NX := Lib.hid (hr.next hk4 (((Below.refl wr.heap.size wr).alloc (Nat.le_refl _) (.cells (madeCells #[.int .u8 0] 64) 5)).drew))
      have HK := Lib.hid hk4
      clear hr hk4 hk AR hv hz0
      go_wp2_with fail
      go_region
      all_goals
        go_wp2
        go_roundw
        case rel =>
          refine ⟨k + 1, HK.out, by simp, ?_⟩
          exact NX.out
        case measure => have := HK.out; simp only [intOf]; omega
    · have h1 : ¬ (k : Int) < (n : Int) := by omega
      obtain rfl : k = n := by omega
      have HR := Lib.hid hr
      clear hr
      go_wp2
      go_ret
      have hr := HR.out
      have hz := hr.size
      exact ⟨rfl, ⟨w.heap.size, fun _ => .slice none 0 0, ⟨hr.top, hr.fx.congr (fun j hj => by rw [if_pos (by omega)]), fun i hi => .inl ⟨rfl, rfl⟩, fun i hi => Nat.zero_le _, HN.out, (by decide : (0 : Nat) < 18446744073709551616), (by decide : (0 : Nat) < 18446744073709551616)⟩, ⟨by omega, by omega⟩, ⟨by omega, by omega⟩, fun i hi g e => by simp [Value.ownBlock] at e⟩, hr.old⟩
end

section
variable {w : World} {e q G : Nat} {LV : Nat → Value} {s : DS} {ps : PS} {S : Nat → Prop}

theorem Rv.c0 (h : Rv w e q G LV s) : w.cell? ⟨e, 0, none⟩ = some (.pointer (some ⟨q, 0, none⟩)) := h.top.cell (i := 0) (by omega)
theorem Rv.c1 (h : Rv w e q G LV s) : w.cell? ⟨e, 1, none⟩ = some (.slice (some ⟨G, 0, none⟩) s.n s.n) := h.top.cell (i := 1) (by omega)
theorem Rv.c2 (h : Rv w e q G LV s) : w.cell? ⟨e, 2, none⟩ = some (.int .u64 (s.rd : Int)) := h.top.cell (i := 2) (by omega)
theorem Rv.c3 (h : Rv w e q G LV s) : w.cell? ⟨e, 3, none⟩ = some (.int .u64 (s.wr : Int)) := h.top.cell (i := 3) (by omega)
theorem Rv.f0 (h : Rv w e q G LV s) {i : Nat} (hi : i < s.n) : w.cell? ⟨G, i * 3, none⟩ = some (.string (s.fixed i)) := by
  have := h.fx.cell (i := i * 3) (by omega)
  unfold oneF at this
  rwa [if_pos (by omega), show i * 3 / 3 = i by omega] at this
theorem Rv.f1 (h : Rv w e q G LV s) {i : Nat} (hi : i < s.n) : w.cell? ⟨G, i * 3 + 1, none⟩ = some (LV i) := by
  have := h.fx.cell (i := i * 3 + 1) (by omega)
  unfold oneF at this
  rwa [if_neg (by omega), if_pos (by omega), show (i * 3 + 1) / 3 = i by omega] at this
theorem Rv.f2 (h : Rv w e q G LV s) {i : Nat} (hi : i < s.n) : w.cell? ⟨G, i * 3 + 2, none⟩ = some (.bool (s.rot i)) := by
  have := h.fx.cell (i := i * 3 + 2) (by omega)
  unfold oneF at this
  rwa [if_neg (by omega), if_neg (by omega), show (i * 3 + 2) / 3 = i by omega] at this

theorem rv_has (h : Rv w e q G LV s) (x : Int) : Calls Try.prog 52 #[.pointer (some ⟨e, 0, none⟩), .int .i64 x] w fun r w' => r = .returned (.bool (decide (hasD s x))) ∧ w = w' := by
  have c1 := h.c1
  have H := Lib.hid (hasD_dec s x)
  clear h
  by_cases h0 : 0 ≤ x
  · have e0 : decide (0 ≤ x) = true := decide_eq_true h0
    rw [e0, Bool.true_and] at H
    clear h0
    go_enter Try.func52, Try.ntmps52
    go_wp2
    go_ret
    exact ⟨by rw [← H.out]; rfl, rfl⟩
  · have e0 : decide (0 ≤ x) = false := decide_eq_false h0
    rw [e0, Bool.false_and] at H
    clear h0
    go_enter Try.func52, Try.ntmps52
    go_wp2
    go_ret
    exact ⟨by rw [← H.out]; rfl, rfl⟩

theorem rv_stands (h : Rv w e q G LV s) (i : Nat) (hi : i < s.n) (hl : s.lim ≤ 1000000) :
    Calls Try.prog 49 #[.pointer (some ⟨e, 0, none⟩), .int .i64 (i : Int)] w fun r w' => r = .returned (.string (standsD s i)) ∧ w = w' := by
  have c1 := h.c1
  have c0 := h.f0 hi
  have cl := h.f1 hi
  have hll := h.ll i hi
  obtain ⟨A, c, hv, hA⟩ := (h.lo i hi).open_
  rw [hv] at cl
  have i1 : (i : Int) < (s.n : Int) := by omega
  by_cases h0 : (s.loose i).length = 0
  · have e0 : s.loose i = [] := List.eq_nil_of_length_eq_zero h0
    have ES : standsD s i = s.fixed i := by unfold standsD; rw [e0]; rfl
    rw [ES]
    rw [h0] at cl
    clear h hA hv ES e0 h0 hi hl hll
    go_enter Try.func49, Try.ntmps49
    go_wp2
    go_ret
    exact ⟨rfl, rfl⟩
  · obtain ⟨k, hk⟩ : ∃ k, (s.loose i).length = k + 1 := ⟨(s.loose i).length - 1, by omega⟩
    obtain ⟨g, rfl, hc⟩ := hA (by omega)
    obtain ⟨x, hx⟩ : ∃ x, (s.loose i)[k]? = some x := ⟨_, List.getElem?_eq_getElem (by omega)⟩
    have ck := hc k x hx
    have ES : standsD s i = x := by
      unfold standsD
      rw [List.getLast?_eq_getElem?, hk, show k + 1 - 1 = k by omega, hx]; rfl
    rw [ES]
    rw [hk] at cl
    have e2 : decide (0 < (k : Int) + 1) = true := decide_eq_true (by omega)
    have hkb : (k : Int) ≤ 1000000 := by omega
    clear h hA hv ES h0 hi hl hk hx hc hll
    go_enter Try.func49, Try.ntmps49
    go_wp2
    go_ret
    exact ⟨rfl, rfl⟩

theorem Rv.setRd (h : Rv w e q G LV s) (n : Nat) (hn : n < 18446744073709551616) : Rv (w.setCell ⟨e, 2, none⟩ (.int .u64 (n : Int))) e q G LV { s with rd := n } :=
  { h with
    top := (h.top.set 2 _).congr fun i hi => by
             have : i = 0 ∨ i = 1 ∨ i = 2 ∨ i = 3 := by omega
             rcases this with rfl | rfl | rfl | rfl <;> rfl
    fx := h.fx.keep (keep_cell w e 2 _) (h.fx.ne h.top (by decide))
    lo := fun i hi => (h.lo i hi).keep (keep_cell w e 2 _) (fun g x y => (h.lo i hi).ne h.top (by decide) (y ▸ x))
    r1 := hn }
theorem Rv.setWr (h : Rv w e q G LV s) (n : Nat) (hn : n < 18446744073709551616) : Rv (w.setCell ⟨e, 3, none⟩ (.int .u64 (n : Int))) e q G LV { s with wr := n } :=
  { h with
    top := (h.top.set 3 _).congr fun i hi => by
             have : i = 0 ∨ i = 1 ∨ i = 2 ∨ i = 3 := by omega
             rcases this with rfl | rfl | rfl | rfl <;> rfl
    fx := h.fx.keep (keep_cell w e 3 _) (h.fx.ne h.top (by decide))
    lo := fun i hi => (h.lo i hi).keep (keep_cell w e 3 _) (fun g x y => (h.lo i hi).ne h.top (by decide) (y ▸ x))
    w1 := hn }

theorem rv_read (h : RvO e q s S w) (hq : RPow w q ps) (x : Int) (hl : s.lim ≤ 1000000) :
    Calls Try.prog 38 #[.pointer (some ⟨e, 0, none⟩), .int .i64 x] w fun r w' => r = .returned (.tuple #[.string (readC s ps x), .int .i64 (readE s ps x)]) ∧ RvO e q (readD s ps x) (Ext S w w') w' ∧ Keeps S w w' := by
  have O := Lib.hid (Rep.mono h (fun k x => .inl x) : RvO e q s (Ext S w w) w)
  obtain ⟨G, LV, h, se, sG, sl⟩ := h
  have c0 := h.c0
  have p0 := hq.c0
  unfold readC readE readD
  cases hoff : ps.off
  · rw [hoff] at p0
    simp only [Bool.false_eq_true, if_false]
    have HH := Lib.hid (rv_has h x)
    by_cases hx : hasD s x
    · have e0 : decide (hasD s x) = true := decide_eq_true hx
      rw [e0] at HH
      simp only [if_pos hx]
      obtain ⟨k, rfl⟩ : ∃ k : Nat, x = (k : Int) := ⟨x.toNat, by have := hx.1; omega⟩
      rw [Int.toNat_natCast]
      have c2 := h.c2
      have f2 := h.top.free 2
      have b0 : (0 : Int) ≤ (s.rd : Int) := by omega
      have b1 : (s.rd : Int) ≤ 18446744073709551615 := by have := h.r1; omega
      have h2 := h.setRd (s.rd / 2) (by have := h.r1; omega)
      have hrd : ((s.rd / 2 : Nat) : Int) = (s.rd : Int) / 2 := by omega
      rw [hrd] at h2
      have KC := Lib.hid (keep_cells (Keeps.refl S w) se 2 (.int .u64 ((s.rd : Int) / 2)))
      have ST := Lib.hid (rv_stands h2 k (by have := hx.2; show k < s.n; omega) hl)
      have O2 := Lib.hid (show RvO e q { s with rd := s.rd / 2 } (Ext S w (w.setCell ⟨e, 2, none⟩ (.int .u64 ((s.rd : Int) / 2)))) (w.setCell ⟨e, 2, none⟩ (.int .u64 ((s.rd : Int) / 2))) from ⟨G, LV, h2, .inl se, .inl sG, fun i hi g x => .inl (sl i hi g x)⟩)
      have est : standsD { s with rd := s.rd / 2 } k = standsD s k := rfl
      rw [est] at ST
      have hm : ((s.rd : Int) % 2 == 1) = (s.rd % 2 == 1) := by
        rcases Nat.mod_two_eq_zero_or_one s.rd with h | h
        · rw [h, show (s.rd : Int) % 2 = 0 by omega]; rfl
        · rw [h, show (s.rd : Int) % 2 = 1 by omega]; rfl
      clear h h2 hx e0 est hrd hl se sG sl hq
      have hq : s.rd % 2 = 1 ∨ s.rd % 2 = 0 := by omega
      rcases hq with hq | hq
      · have m1 : (s.rd : Int) % 2 = 1 := by omega
        rw [hq]
        simp only [if_true, Int.reduceEq, if_false]
        clear hq hm
        generalize (s.rd : Int) = rd at *
        go_enter Try.func38, Try.ntmps38
        go_wp2_with fail
        refine HH.out.mono ?_
        rintro r w' ⟨rfl, rfl⟩
        go_wp2
        go_ret2
        exact ⟨rfl, O2.out, KC.out⟩
      · have m1 : (s.rd : Int) % 2 = 0 := by omega
        rw [hq]
        simp only [Nat.zero_ne_one, if_false, if_true]
        clear hq hm
        generalize (s.rd : Int) = rd at *
        go_enter Try.func38, Try.ntmps38
        go_wp2_with fail
        refine HH.out.mono ?_
        rintro r w' ⟨rfl, rfl⟩
        go_wp2_with fail
        refine ST.out.mono ?_
        rintro r w' ⟨rfl, rfl⟩
        go_wp2
        go_ret2
        exact ⟨rfl, O2.out, KC.out⟩
    · have e0 : decide (hasD s x) = false := decide_eq_false hx
      rw [e0] at HH
      simp only [if_neg hx, Int.reduceEq, if_false]
      clear h hx e0 hl hq
      go_enter Try.func38, Try.ntmps38
      go_wp2_with fail
      refine HH.out.mono ?_
      rintro r w' ⟨rfl, rfl⟩
      go_wp2
      go_ret2
      exact ⟨rfl, O.out, Keeps.refl _ _⟩
  · rw [hoff] at p0
    simp only [if_true, Int.reduceEq, if_false]
    clear h hq hl
    go_enter Try.func38, Try.ntmps38
    go_wp2
    go_ret2
    exact ⟨rfl, O.out, Keeps.refl _ _⟩
end

end Go.Proofs.Ytlfeglnacphhlaa
