/- The program's device: New. -/
import Derived.Test.YtlfeglnacphhlaaDr
namespace Go.Proofs.Ytlfeglnacphhlaa
open Go.RowKit Go.Maps
set_option linter.unusedVariables false

theorem infoB : (Try.prog.info? 44).map (fun i => (i.zero, i.size, i.bytes)) = some (some (.slice none 0 0), 1, 24) := by kernel_rfl

theorem madeCells_at (z : Value) (n i : Nat) (h : i < n) : (madeCells #[z] n)[i]? = some z := by
  have := toList_madeCells_one z n
  rw [← Array.getElem?_toList, this, List.getElem?_replicate, if_pos h]

theorem make_rows (n : Nat) (hn : n ≤ 4096) (W : World) : (Instr.makeSlice 68 (.int .i64 (n : Int)) (.int .i64 (n : Int))).run Try.prog W = .ok (.slice (some ⟨W.heap.size, 0, none⟩) n n) (W.alloc (.cells (madeCells #[.slice none 0 0] n) 44)) := by
  obtain ⟨i0, hi, hz0, hz1, hz2⟩ := info_parts infoB
  have := run_make (P := Try.prog) (w := W) 68 44 i0 (.slice none 0 0) Try.underlying68 hi hz0 .i64 .i64 (n : Int) (n : Int) (by omega) (Int.le_refl _) (by rw [hz2]; omega) (by omega)
  rw [this, hz1]
  simp [Value.cells]

theorem make_oct (n : Nat) (hn : n ≤ 1000000) (W : World) : (Instr.makeSlice 44 (.int .i64 (n : Int)) (.int .i64 (n : Int))).run Try.prog W = .ok (.slice (some ⟨W.heap.size, 0, none⟩) n n) (W.alloc (.cells (madeCells #[.int .u8 0] n) 5)) := by
  obtain ⟨i0, hi, hz0, hz1, hz2⟩ := info_parts infoU8
  have := run_make (P := Try.prog) (w := W) 44 5 i0 (.int .u8 0) Try.underlying44 hi hz0 .i64 .i64 (n : Int) (n : Int) (by omega) (Int.le_refl _) (by rw [hz2]; omega) (by omega)
  rw [this, hz1]
  simp [Value.cells]

theorem make_64 (W : World) : (Instr.makeSlice 44 (.int .i64 64) (.int .i64 64)).run Try.prog W = .ok (.slice (some ⟨W.heap.size, 0, none⟩) 64 64) (W.alloc (.cells (madeCells #[.int .u8 0] 64) 5)) := make_oct 64 (by omega) W

/-- n octets that are nought. -/
def zer (n : Nat) : ByteArray := ⟨(List.replicate n 0).toArray⟩
theorem zer_size (n : Nat) : (zer n).size = n := by simp [zer, ByteArray.size]
theorem zer_at (n i : Nat) (h : i < (zer n).size) : (zer n)[i] = 0 := by
  have : (zer n)[i] = (zer n).data[i]'(by simpa using h) := rfl
  rw [this]; simp [zer]

/-- The octets of c as a block's cells. -/
def octF (c : ByteArray) (k : Nat) : Value := .int .u8 ((c.data.toList.getD k 0).toNat : Int)
theorem octF_at (c : ByteArray) (k : Nat) (h : k < c.size) : octF c k = .int .u8 (c[k].toNat : Int) := by
  have h2 : k < c.data.toList.length := by simpa using h
  unfold octF
  rw [List.getD_eq_getElem?_getD, List.getElem?_eq_getElem h2]
  rfl
theorem octF_zer (n k : Nat) : octF (zer n) k = .int .u8 0 := by
  unfold octF
  have : (zer n).data.toList.getD k 0 = 0 := by
    simp [zer, List.getD_eq_getElem?_getD, List.getElem?_replicate]
    split <;> rfl
  rw [this]; rfl

theorem Byt.of_arr {w : World} {g : Nat} {c : ByteArray} (h : Arr w g 5 64 (octF c)) (hs : c.size = 64) : Byt w (.slice (some ⟨g, 0, none⟩) 64 64) c := by
  have hc : Lib.Bytes w g 0 c := fun i hi => by
    have := h.cell (i := i) (by omega)
    rw [octF_at c i hi] at this
    simpa using this
  obtain ⟨cs, hb, _⟩ := h
  exact ⟨g, 64, cs, (0, 0), rfl, hb, hs, hc⟩

/-- A device without loose writes whose rows lie one behind the other: it was made at H. -/
structure DvX (w : World) (H p n nr : Nat) (C : Nat → ByteArray) (rot : Nat → Bool) : Prop where
  top : Arr w (H + 3) 73 6 (dvF p ⟨H, H + 1, H + 2, 0, nr, fun i => .slice (some ⟨H + 4 + i, 0, none⟩) 64 64, fun _ => .slice none 0 0, fun _ => []⟩ ⟨n, C, fun _ => [], rot, 0, 0, nr⟩)
  fx : Arr w H 44 n (fun i => .slice (some ⟨H + 4 + i, 0, none⟩) 64 64)
  fb : ∀ i, i < n → Arr w (H + 4 + i) 5 64 (octF (C i)) ∧ (C i).size = 64
  lm : LMap w (H + 1) 0 (fun _ => none)
  rm : IMap w (H + 2) nr (rotM ⟨n, C, fun _ => [], rot, 0, 0, nr⟩)
  n1 : n ≤ 4096

def newD (n : Nat) : DS := ⟨n, fun _ => zer 64, fun _ => [], fun _ => false, 0, 0, 0⟩

theorem DvX.dv {w : World} {H p n nr : Nat} {C : Nat → ByteArray} {rot : Nat → Bool} (h : DvX w H p n nr C rot) (S : Nat → Prop) (hS : ∀ k, H ≤ k → k < H + 4 + n → S k) : DevO (H + 3) p ⟨n, C, fun _ => [], rot, 0, 0, nr⟩ S w :=
  ⟨⟨H, H + 1, H + 2, 0, nr, fun i => .slice (some ⟨H + 4 + i, 0, none⟩) 64 64, fun _ => .slice none 0 0, fun _ => []⟩,
    ⟨h.top, h.fx, fun i hi => Byt.of_arr (h.fb i hi).1 (h.fb i hi).2, h.lm.congr fun x hx => by unfold looseM; rw [if_neg (by simp)],
      fun i hi => World.ownsRow_nil _ _ _ _, fun i hi j c hc => by simp at hc, fun _ _ _ => rfl, h.rm, fun i hi e => by simp [Value.ownBlock] at e, fun i j hi hj hij g e => by simp [Value.ownBlock] at e,
      by simp, fun i hi => by simp, Nat.zero_le _, Nat.le_refl _, h.n1, (by decide : (0 : Nat) < 18446744073709551616), (by decide : (0 : Nat) < 18446744073709551616)⟩,
    ⟨hS _ (by omega) (by omega), hS _ (by simp) (by simp; omega), hS _ (by simp) (by simp; omega), hS _ (by simp) (by simp; omega),
      fun i (hi : i < n) g e => by
        have : H + 4 + i = g := by simpa [Value.ownBlock] using e
        exact hS g (by omega) (by omega),
      fun i hi g e => by simp [Value.ownBlock] at e, fun i hi v hv => by simp at hv⟩⟩

/-- On the way: k rows are made. -/
structure NewR (w wr : World) (p n k : Nat) : Prop where
  size : wr.heap.size = w.heap.size + 4 + k
  top : Arr wr (w.heap.size + 3) 73 6 (dvF p ⟨w.heap.size, w.heap.size + 1, w.heap.size + 2, 0, 0, fun i => .slice (some ⟨w.heap.size + 4 + i, 0, none⟩) 64 64, fun _ => .slice none 0 0, fun _ => []⟩ (newD n))
  fx : Arr wr w.heap.size 44 n (fun i => if i < k then .slice (some ⟨w.heap.size + 4 + i, 0, none⟩) 64 64 else .slice none 0 0)
  fb : ∀ i, i < k → Arr wr (w.heap.size + 4 + i) 5 64 (octF (zer 64))
  lm : LMap wr (w.heap.size + 1) 0 (fun _ => none)
  rm : IMap wr (w.heap.size + 2) 0 (fun _ => none)
  old : Below w.heap.size w wr

theorem NewR.start (w : World) (p n : Nat) : NewR w ((((w.alloc (.cells (madeCells #[.slice none 0 0] n) 44)).alloc (.map #[] 0)).alloc (.map #[] 0)).alloc (.cells #[.pointer (some ⟨p, 0, none⟩), .slice (some ⟨w.heap.size, 0, none⟩) n n, .map (some (w.heap.size + 1)), .map (some (w.heap.size + 2)), .int .u64 0, .int .u64 0] 73)) p n 0 := by
  have z1 := World.size_alloc w (.cells (madeCells #[.slice none 0 0] n) 44)
  have A1 := Arr.made w 44 n (.slice none 0 0) (madeCells #[.slice none 0 0] n) (size_madeCells _ _) (fun i hi => madeCells_at _ _ _ hi)
  have b1 := (Below.refl w.heap.size w).alloc (Nat.le_refl _) (.cells (madeCells #[.slice none 0 0] n) 44)
  generalize w.alloc (.cells (madeCells #[.slice none 0 0] n) 44) = w1 at *
  have A2 := A1.past (.map #[] 0)
  have L2 := MapV.made Try.prog 3 .i64 hdr w1
  have z2 := World.size_alloc w1 (.map #[] 0)
  have b2 := b1.alloc (by omega) (.map #[] 0)
  rw [z1] at L2
  generalize w1.alloc (.map #[] 0) = w2 at *
  have A3 := A2.past (.map #[] 0)
  have L3 := MapV.made Try.prog 3 .i64 (plainElem Try.prog 3) w2
  have z3 := World.size_alloc w2 (.map #[] 0)
  have b3 := b2.alloc (by omega) (.map #[] 0)
  have L2' := L2.keep ((Keeps.refl (fun _ => False) w2).alloc (.map #[] 0)) (fun x => x)
  have e2 : w2.heap.size = w.heap.size + 2 := by omega
  rw [e2] at L3
  generalize w2.alloc (.map #[] 0) = w3 at *
  have k3 := (Keeps.refl (fun _ => False) w3).alloc (.cells #[.pointer (some ⟨p, 0, none⟩), .slice (some ⟨w.heap.size, 0, none⟩) n n, .map (some (w.heap.size + 1)), .map (some (w.heap.size + 2)), .int .u64 0, .int .u64 0] 73)
  refine ⟨by rw [World.size_alloc]; omega, ⟨_, heap_at _ _ _ (by omega), rfl, fun i hi => ?_⟩, (A3.past _).congr (fun i hi => by simp), fun i hi => by omega, L2'.keep k3 (fun x => x), L3.keep k3 (fun x => x), b3.alloc (by omega) _⟩
  have : i = 0 ∨ i = 1 ∨ i = 2 ∨ i = 3 ∨ i = 4 ∨ i = 5 := by omega
  rcases this with rfl | rfl | rfl | rfl | rfl | rfl <;> rfl

theorem NewR.next {w wr : World} {p n k : Nat} (h : NewR w wr p n k) (hk : k < n) :
    NewR w ((wr.setCell ⟨w.heap.size, k, none⟩ (.slice (some ⟨wr.heap.size, 0, none⟩) 64 64)).alloc (.cells (madeCells #[.int .u8 0] 64) 5)).drew p n (k + 1) := by
  have hz := h.size
  have hl := h.fx.lt
  have k1 := (Keeps.refl (fun j => j = w.heap.size) wr).setCell (p := ⟨w.heap.size, k, none⟩) (.inl rfl) (.slice (some ⟨wr.heap.size, 0, none⟩) 64 64)
  have k2 := (k1.alloc (.cells (madeCells #[.int .u8 0] 64) 5)).drew
  have z1 := World.size_setCell wr ⟨w.heap.size, k, none⟩ (.slice (some ⟨wr.heap.size, 0, none⟩) 64 64)
  refine ⟨?_, h.top.keep k2 (by omega), ((((h.fx.set k _).past _).drewN 1).congr (fun i hi => ?_)), fun i hi => ?_, h.lm.keep k2 (by omega), h.rm.keep k2 (by omega), ((h.old.setCell (p := ⟨w.heap.size, k, none⟩) (Nat.le_refl _) _).alloc (by rw [World.size_setCell]; omega) _).drew⟩
  · show (World.alloc _ _).heap.size = _
    rw [World.size_alloc]; omega
  · by_cases e : i = k
    · subst e; simp [hz]
    · by_cases e2 : i < k
      · simp only [e, e2, if_false, if_true, show i < k + 1 by omega]
      · simp only [e, e2, if_false, show ¬ i < k + 1 by omega]
  · by_cases e : i = k
    · subst e
      have := Arr.made (wr.setCell ⟨w.heap.size, i, none⟩ (.slice (some ⟨wr.heap.size, 0, none⟩) 64 64)) 5 64 (.int .u8 0) (madeCells #[.int .u8 0] 64) (size_madeCells _ _) (fun i hi => madeCells_at _ _ _ hi)
      rw [show w.heap.size + 4 + i = (wr.setCell ⟨w.heap.size, i, none⟩ (.slice (some ⟨wr.heap.size, 0, none⟩) 64 64)).heap.size by omega]
      exact (this.drewN 1).congr (fun j hj => (octF_zer 64 j).symm)
    · exact (h.fb i (by omega)).keep k2 (by omega)

section
variable {w : World} {p : Nat} {ps : PS}

theorem dv_new (hp : Pow w p ps) (n : Nat) (hn : n ≤ 4096) :
    Calls Try.prog 24 #[.int .i64 (n : Int), .pointer (some ⟨p, 0, none⟩)] w fun e w' => e = .returned (.tuple #[.pointer (some ⟨w.heap.size + 3, 0, none⟩), .int .i64 0]) ∧
      DvX w' w.heap.size p n 0 (fun _ => zer 64) (fun _ => false) ∧ Below w.heap.size w w' ∧ w'.heap.size = w.heap.size + 4 + n := by
  have RP := Lib.hid (pow_real hp)
  have M := make_rows n hn
  have M6 := make_64
  have hmm := @run_makeMap Try.prog
  have a1 : ¬ (n : Int) < 0 := by omega
  have a2 : ¬ (4096 : Int) < (n : Int) := by omega
  have HN := Lib.hid hn
  have ST := Lib.hid (NewR.start w p n)
  clear hp hn
  go_enter Try.func24, Try.ntmps24
  go_wp2_with fail
  refine RP.out.mono ?_
  rintro e w' ⟨rfl, rfl⟩
  go_wp2
  clear M hmm RP
  simp only [Nat.add_assoc, Nat.reduceAdd]
  generalize (((w.alloc (.cells (madeCells #[.slice none 0 0] n) 44)).alloc (.map #[] 0)).alloc (.map #[] 0)).alloc (.cells #[.pointer (some ⟨p, 0, none⟩), .slice (some ⟨w.heap.size, 0, none⟩) n n, .map (some (w.heap.size + 1)), .map (some (w.heap.size + 2)), .int .u64 0, .int .u64 0] 73) = w0 at *
  go_loopw [29] (fun i wr => ∃ k : Nat, k ≤ n ∧ i = .int .i64 (k : Int) ∧ NewR w wr p n k) (fun i _ => n - (intOf i).toNat)
  case atStart => exact ⟨0, Nat.zero_le _, rfl, ST.out⟩
  case round =>
    obtain ⟨k, hk, rfl, hr⟩ := hrel
    by_cases hk4 : k < n
    · have h1 : (k : Int) < (n : Int) := by omega
      have c1 : wr.cell? ⟨w.heap.size + 3, 1, none⟩ = some (.slice (some ⟨w.heap.size, 0, none⟩) n n) := hr.top.cell (i := 1) (by omega)
      have hc : wr.cell? ⟨w.heap.size, k, none⟩ = some (.slice none 0 0) := by have := hr.fx.cell (i := k) hk4; simpa using this
      have hf := hr.fx.free k
      have NX := Lib.hid (hr.next hk4)
      have c1' : (wr.alloc (.cells (madeCells #[.int .u8 0] 64) 5)).cell? ⟨w.heap.size + 3, 1, none⟩ = some (.slice (some ⟨w.heap.size, 0, none⟩) n n) := (hr.top.past _).cell (i := 1) (by omega)
      have hc' : (wr.alloc (.cells (madeCells #[.int .u8 0] 64) 5)).cell? ⟨w.heap.size, k, none⟩ = some (.slice none 0 0) := by have := (hr.fx.past (.cells (madeCells #[.int .u8 0] 64) 5)).cell (i := k) hk4; simpa using this
      have hf' : (wr.alloc (.cells (madeCells #[.int .u8 0] 64) 5)).frozen? ⟨w.heap.size, k, none⟩ = false := (hr.fx.past _).free k
      have hb : w.heap.size < wr.heap.size := hr.fx.lt
      have HK := Lib.hid hk4
      clear hr hk4 hk
      go_wp2_with fail
      go_region
      all_goals
        go_wp2
        go_roundw
        case rel =>
          refine ⟨k + 1, HK.out, by simp, ?_⟩
          exact NX.out
        case measure => have := HK.out; simp only [intOf]; omega
    · have h1 : ¬ (k : Int) < (n : Int) := by omega
      obtain rfl : k = n := by omega
      have HR := Lib.hid hr
      clear hr
      go_wp2
      go_ret2
      have hr := HR.out
      exact ⟨rfl, ⟨hr.top, hr.fx.congr (fun i hi => by rw [if_pos hi]), fun i hi => ⟨hr.fb i hi, zer_size 64⟩, hr.lm, hr.rm.congr (fun x hx => by unfold rotM; rw [if_neg (by simp)]), HN.out⟩, hr.old, hr.size⟩
end

end Go.Proofs.Ytlfeglnacphhlaa
