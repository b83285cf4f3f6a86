/- Two sketches side by side: what each call makes of both. -/
import Derived.Test.YtbhcpedokgdipaaSkS
namespace Go.Proofs.Ytbhcpedokgdipaa
open Go.RowKit
set_option linter.unusedVariables false

/-- What a key counts. -/
def cntC (c : Nat → Nat → Nat) (pk : Nat → Nat) : Nat := least (fun r => c r (pk r)) 4
def sumC (width : Nat) (c : Nat → Nat → Nat) : Nat := sumN (fun r => sumN (fun i => c r i) width) 4
def addA (c : Nat → Nat → Nat) (pk : Nat → Nat) : Nat → Nat → Nat := fun r i => if i = pk r then min (c r i + 1) 15 else c r i
def halfA (c : Nat → Nat → Nat) : Nat → Nat → Nat := fun r i => c r i / 2

/-- The program's sketch at b counts c, the document's at b' counts d; the blocks of F are none of theirs. -/
structure PairD (F : Nat → Prop) (w : World) (b b' : Nat) (seed : Int) (width : Nat) (c d : Nat → Nat → Nat) : Prop where
  old : ∀ j, F j → j < w.heap.size
  prog : ∃ g L W, Sk w b g seed width L W ∧ (∀ r i, r < 4 → i < width → cnt (W r) i = c r i) ∧ ¬ F b ∧ ∀ r, r < 4 → ¬ F (g r)
  ref : ∃ g, RSk w b' g seed width d ∧ ¬ F b' ∧ ∀ r, r < 4 → ¬ F (g r)

theorem least_congr {c d : Nat → Nat} (k : Nat) (h : ∀ r, r < k → c r = d r) : least c k = least d k := by
  induction k with
  | zero => rfl
  | succ k ih => simp only [least]; rw [ih (fun r hr => h r (by omega)), h k (by omega)]

section
variable {F : Nat → Prop} {w : World} {b b' : Nat} {seed : Int} {width : Nat} {c d : Nat → Nat → Nat}

theorem PairD.drewN (h : PairD F w b b' seed width c d) (n : Nat) : PairD F (w.drewN n) b b' seed width c d := by
  obtain ⟨h0, ⟨g, L, W, hs, hc⟩, g', hr, hn⟩ := h
  exact ⟨h0, ⟨g, L, W, hs.drewN n, hc⟩, g', hr.drewN n, hn⟩

theorem PairD.drew (h : PairD F w b b' seed width c d) : PairD F w.drew b b' seed width c d := by
  obtain ⟨h0, ⟨g, L, W, hs, hc⟩, g', hr, hn⟩ := h
  exact ⟨h0, ⟨g, L, W, hs.drew, hc⟩, g', hr.drewN 1, hn⟩

theorem PairD.mono {G : Nat → Prop} (h : PairD F w b b' seed width c d) (hG : ∀ j, G j → F j) : PairD G w b b' seed width c d := by
  obtain ⟨h0, ⟨g, L, W, hs, hc, hb, hg⟩, g', hr, hb', hg'⟩ := h
  exact ⟨fun j hj => h0 j (hG j hj), ⟨g, L, W, hs, hc, fun x => hb (hG _ x), fun r hr x => hg r hr (hG _ x)⟩, g', hr, fun x => hb' (hG _ x), fun r hr x => hg' r hr (hG _ x)⟩

/-- A new block, which is none of theirs. -/
theorem PairD.past (h : PairD F w b b' seed width c d) (o : Obj) : PairD (fun j => F j ∨ j = w.heap.size) (w.alloc o) b b' seed width c d := by
  obtain ⟨h0, ⟨g, L, W, hs, hc, hb, hg⟩, g', hr, hb', hg'⟩ := h
  have k0 : Keeps (fun _ => False) w (w.alloc o) := (Keeps.refl _ w).alloc o
  refine ⟨fun j hj => ?_, ⟨g, L, W, hs.keep k0 (fun x => x) (fun _ _ x => x), hc, ?_, ?_⟩, g', hr.keep k0 (fun x => x) (fun _ _ x => x), ?_, ?_⟩
  · rw [World.size_alloc]
    rcases hj with hj | hj
    · have := h0 j hj; omega
    · omega
  · rintro (x | x)
    · exact hb x
    · have := hs.top.lt; omega
  · rintro r hr (x | x)
    · exact hg r hr x
    · have := (hs.row r hr).lt; omega
  · rintro (x | x)
    · exact hb' x
    · have := hr.top.lt; omega
  · rintro r hr4 (x | x)
    · exact hg' r hr4 x
    · have := (hr.row r hr4).lt; omega

theorem pCount (h : PairD F w b b' seed width c d) (key : Int) (k0 : 0 ≤ key) (k1 : key ≤ 18446744073709551615) :
    Calls Try.prog 15 #[.pointer (some ⟨b, 0, none⟩), .int .u64 key] w fun e w' => e = .returned (.int .i64 (cntC c (pickN seed key width) : Int)) ∧ PairD F w' b b' seed width c d ∧ Keeps (fun j => ¬ F j) w w' := by
  obtain ⟨h0, ⟨g, L, W, hs, hc, hb, hg⟩, g', hr, hb', hg'⟩ := h
  refine (count_any hs key k0 k1).mono fun e w' ⟨he, hk⟩ => ⟨?_, ⟨fun j hj => Nat.lt_of_lt_of_le (h0 j hj) hk.size, ⟨g, L, W, hs.below hk, hc, hb, hg⟩, g', hr.keep (Keeps.of_below hk) (Nat.not_le.2 hr.top.lt) (fun r hr4 => Nat.not_le.2 (hr.row r hr4).lt), hb', hg'⟩, (Keeps.of_below hk).mono (fun n hn hS => by omega)⟩
  rw [he, cntC, least_congr 4 (fun r hr4 => hc r _ hr4 (pickN_lt seed key width r hs.w1))]

theorem pRCount (h : PairD F w b b' seed width c d) (key : Int) (k0 : 0 ≤ key) (k1 : key ≤ 18446744073709551615) :
    Calls Try.prog 16 #[.pointer (some ⟨b', 0, none⟩), .int .u64 key] w fun e w' => e = .returned (.int .i64 (cntC d (pickN seed key width) : Int)) ∧ PairD F w' b b' seed width c d ∧ Keeps (fun j => ¬ F j) w w' := by
  have h' := h
  obtain ⟨h0, ⟨g, L, W, hs, hc, hb, hg⟩, g', hr, hb', hg'⟩ := h
  refine (rCount_any hr key k0 k1).mono fun e w' ⟨he, n, hw⟩ => ⟨he, ?_, ?_⟩
  · subst hw; exact h'.drewN n
  · subst hw; exact (Keeps.refl _ w).drewN n

theorem pSum (h : PairD F w b b' seed width c d) :
    Calls Try.prog 21 #[.pointer (some ⟨b, 0, none⟩)] w fun e w' => e = .returned (.int .i64 (sumC width c : Int)) ∧ w' = w := by
  obtain ⟨h0, ⟨g, L, W, hs, hc, hb, hg⟩, g', hr, hb', hg'⟩ := h
  refine (sum_any hs).mono fun e w' ⟨he, hk⟩ => ⟨?_, hk⟩
  rw [he, sumC, sumN_congr 4 (fun r hr4 => sumN_congr width (fun i hi => hc r i hr4 hi))]

theorem pRSum (h : PairD F w b b' seed width c d) :
    Calls Try.prog 53 #[.pointer (some ⟨b', 0, none⟩)] w fun e w' => e = .returned (.int .i64 (sumC width d : Int)) ∧ w' = w := by
  obtain ⟨h0, ⟨g, L, W, hs, hc, hb, hg⟩, g', hr, hb', hg'⟩ := h
  exact rSum_any hr

/-- The document's sketch stands where the program's rows turn. -/
theorem RSk.apart {w' : World} {g g' : Nat → Nat} {L : Nat} {W : Nat → Nat → Nat} (hr : RSk w b' g' seed width d) (hs : Sk w b g seed width L W) (k : Keeps (rowsOf g) w w') : RSk w' b' g' seed width d :=
  hr.keep k (fun ⟨s, hs4, e⟩ => hr.top.ne (hs.row s hs4) (by decide) e) (fun r hr4 ⟨s, hs4, e⟩ => (hr.row r hr4).ne (hs.row s hs4) (by decide) e)
/-- The program's stands where the document's turns. -/
theorem Sk.apart {w' : World} {g g' : Nat → Nat} {L : Nat} {W : Nat → Nat → Nat} (hs : Sk w b g seed width L W) (hr : RSk w b' g' seed width d) (k : Keeps (fun j => j = b' ∨ rowsOf g' j) w w') : Sk w' b g seed width L W := by
  refine hs.keep k ?_ (fun r hr4 => ?_)
  · rintro (e | ⟨s, hs4, e⟩)
    · exact hs.top.ne hr.top (by decide) e
    · exact hs.top.ne (hr.row s hs4) (by decide) e
  · rintro (e | ⟨s, hs4, e⟩)
    · exact (hs.row r hr4).ne hr.top (by decide) e
    · exact (hs.row r hr4).ne (hr.row s hs4) (by decide) e

theorem pAdd (h : PairD F w b b' seed width c d) (key : Int) (k0 : 0 ≤ key) (k1 : key ≤ 18446744073709551615) :
    Calls Try.prog 18 #[.pointer (some ⟨b, 0, none⟩), .int .u64 key] w fun e w' => e = .returned (.int .i64 (cntC (addA c (pickN seed key width)) (pickN seed key width) : Int)) ∧
      PairD F w' b b' seed width (addA c (pickN seed key width)) d ∧ Keeps (fun j => ¬ F j) w w' := by
  obtain ⟨h0, ⟨g, L, W, hs, hc, hb, hg⟩, g', hr, hb', hg'⟩ := h
  have hcc : ∀ r i, r < 4 → i < width → cnt (addW W seed key width 4 r) i = addA c (pickN seed key width) r i := fun r i hr4 hi => by
    unfold addW addA
    rw [if_pos hr4, cnt_moreW (hs.wds r _), hc r i hr4 hi]
  refine (add_any hs key k0 k1).mono fun e w' ⟨he, hs', hk⟩ => ⟨?_, ⟨fun j hj => Nat.lt_of_lt_of_le (h0 j hj) hk.size, ⟨g, L, _, hs', hcc, hb, hg⟩, g', hr.apart hs hk, hb', hg'⟩, hk.mono (fun n _ ⟨r, hr4, e⟩ => e ▸ hg r hr4)⟩
  rw [he, cntC, least_congr 4 (fun r hr4 => hcc r _ hr4 (pickN_lt seed key width r hs.w1))]

theorem pRAdd (h : PairD F w b b' seed width c d) (key : Int) (k0 : 0 ≤ key) (k1 : key ≤ 18446744073709551615) :
    Calls Try.prog 50 #[.pointer (some ⟨b', 0, none⟩), .int .u64 key] w fun e w' => e = .returned (.int .i64 (cntC (addA d (pickN seed key width)) (pickN seed key width) : Int)) ∧
      PairD F w' b b' seed width c (addA d (pickN seed key width)) ∧ Keeps (fun j => ¬ F j) w w' := by
  obtain ⟨h0, ⟨g, L, W, hs, hc, hb, hg⟩, g', hr, hb', hg'⟩ := h
  have hcc : ∀ r i, r < 4 → addC d (pickN seed key width) 4 r i = addA d (pickN seed key width) r i := fun r i hr4 => by
    unfold addC addA; rw [if_pos hr4]
  refine (rAdd_any hr key k0 k1).mono fun e w' ⟨he, hr', hk⟩ => ⟨?_, ⟨fun j hj => Nat.lt_of_lt_of_le (h0 j hj) hk.size, ⟨g, L, W, hs.apart hr (hk.mono (fun n _ hn => .inr hn)), hc, hb, hg⟩, g', hr'.alike (fun r q hr4 _ => hcc r q hr4) (fun r i => ?_), hb', hg'⟩, hk.mono (fun n _ ⟨r, hr4, e⟩ => e ▸ hg' r hr4)⟩
  · rw [he, cntC, least_congr 4 (fun r hr4 => hcc r _ hr4)]
  · have := hr.cap r i
    unfold addA; split <;> omega

theorem pHalve (h : PairD F w b b' seed width c d) :
    Calls Try.prog 19 #[.pointer (some ⟨b, 0, none⟩)] w fun e w' => e = .returned (.int .i64 (sumC width (halfA c) : Int)) ∧ PairD F w' b b' seed width (halfA c) d ∧ Keeps (fun j => ¬ F j) w w' := by
  obtain ⟨h0, ⟨g, L, W, hs, hc, hb, hg⟩, g', hr, hb', hg'⟩ := h
  refine (halve_any hs).mono fun e w' ⟨he, hs', hk⟩ => ⟨?_, ⟨fun j hj => Nat.lt_of_lt_of_le (h0 j hj) hk.size, ⟨g, L, _, hs', fun r i hr4 hi => ?_, hb, hg⟩, g', hr.apart hs hk, hb', hg'⟩, hk.mono (fun n _ ⟨r, hr4, e⟩ => e ▸ hg r hr4)⟩
  · rw [he, sumC, sumN_congr 4 (fun r hr4 => sumN_congr width (fun i hi => by rw [hc r i hr4 hi]))]; rfl
  · simp only [hr4, if_true]; rw [cnt_hf, hc r i hr4 hi]; rfl

theorem pRHalve (h : PairD F w b b' seed width c d) :
    Calls Try.prog 51 #[.pointer (some ⟨b', 0, none⟩)] w fun e w' => e = .returned (.int .i64 (sumC width (halfA d) : Int)) ∧ PairD F w' b b' seed width c (halfA d) ∧ Keeps (fun j => ¬ F j) w w' := by
  obtain ⟨h0, ⟨g, L, W, hs, hc, hb, hg⟩, g', hr, hb', hg'⟩ := h
  refine (rHalve_any hr).mono fun e w' ⟨he, hr', hk⟩ => ⟨he, ⟨fun j hj => Nat.lt_of_lt_of_le (h0 j hj) hk.size, ⟨g, L, W, hs.apart hr (hk.mono (fun n _ hn => .inr hn)), hc, hb, hg⟩, g', hr'.alike (fun r q hr4 _ => ?_) (fun r i => ?_), hb', hg'⟩, hk.mono (fun n _ ⟨r, hr4, e⟩ => e ▸ hg' r hr4)⟩
  · simp [hC, halfA, hr4]
  · have := hr.cap r i
    unfold halfA; omega

theorem pClear (h : PairD F w b b' seed width c d) :
    Calls Try.prog 20 #[.pointer (some ⟨b, 0, none⟩)] w fun e w' => e = .returned (.tuple #[]) ∧ PairD F w' b b' seed width (fun _ _ => 0) d ∧ Keeps (fun j => ¬ F j) w w' := by
  obtain ⟨h0, ⟨g, L, W, hs, hc, hb, hg⟩, g', hr, hb', hg'⟩ := h
  refine (clear_any hs).mono fun e w' ⟨he, hs', hk⟩ => ⟨he, ⟨fun j hj => Nat.lt_of_lt_of_le (h0 j hj) hk.size, ⟨g, L, _, hs', fun r i hr4 hi => ?_, hb, hg⟩, g', hr.apart hs hk, hb', hg'⟩, hk.mono (fun n _ ⟨r, hr4, e⟩ => e ▸ hg r hr4)⟩
  simp only [hr4, if_true]; exact cnt_zero i

theorem pRClear (h : PairD F w b b' seed width c d) :
    Calls Try.prog 52 #[.pointer (some ⟨b', 0, none⟩)] w fun e w' => e = .returned (.tuple #[]) ∧ PairD F w' b b' seed width c (fun _ _ => 0) ∧ Keeps (fun j => ¬ F j) w w' := by
  obtain ⟨h0, ⟨g, L, W, hs, hc, hb, hg⟩, g', hr, hb', hg'⟩ := h
  exact (rClear_any hr).mono fun e w' ⟨he, hr', hk⟩ => ⟨he, ⟨fun j hj => Nat.lt_of_lt_of_le (h0 j hj) hk.size, ⟨g, L, W, hs.apart hr (hk.mono (fun n _ hn => .inl hn)), hc, hb, hg⟩, _, hr', hb', fun r hr4 x => by have := h0 _ x; omega⟩, hk.mono (fun n _ e => e ▸ hb')⟩
end

end Go.Proofs.Ytbhcpedokgdipaa
