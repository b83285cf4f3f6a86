/- The program's sketch alone, by what it counts. -/
import Derived.Test.YtbhcpedokgdipaaSkB
namespace Go.Proofs.Ytbhcpedokgdipaa
open Go.RowKit
set_option linter.unusedVariables false

/-- The program's sketch at b counts c; the blocks of F are none of its own. -/
structure One (F : Nat → Prop) (w : World) (b : Nat) (seed : Int) (width : Nat) (c : Nat → Nat → Nat) : Prop where
  old : ∀ j, F j → j < w.heap.size
  prog : ∃ g L W, Sk w b g seed width L W ∧ (∀ r i, r < 4 → i < width → cnt (W r) i = c r i) ∧ ¬ F b ∧ ∀ r, r < 4 → ¬ F (g r)

section
variable {F : Nat → Prop} {w : World} {b : Nat} {seed : Int} {width : Nat} {c d : Nat → Nat → Nat}

theorem One.drewN (h : One F w b seed width c) (n : Nat) : One F (w.drewN n) b seed width c := by
  obtain ⟨h0, ⟨g, L, W, hs, hc⟩⟩ := h
  exact ⟨h0, ⟨g, L, W, hs.drewN n, hc⟩⟩
theorem One.drew (h : One F w b seed width c) : One F w.drew b seed width c := by
  obtain ⟨h0, ⟨g, L, W, hs, hc⟩⟩ := h
  exact ⟨h0, ⟨g, L, W, hs.drew, hc⟩⟩
theorem One.wid (h : One F w b seed width c) : 1 ≤ width ∧ width ≤ 4096 := by
  obtain ⟨h0, ⟨g, L, W, hs, hc⟩⟩ := h
  exact ⟨hs.w1, hs.w2⟩
theorem One.keep {w' : World} (h : One F w b seed width c) (k : Keeps F w w') : One F w' b seed width c := by
  obtain ⟨h0, ⟨g, L, W, hs, hc, hb, hg⟩⟩ := h
  exact ⟨fun j hj => Nat.lt_of_lt_of_le (h0 j hj) k.size, ⟨g, L, W, hs.keep k hb hg, hc, hb, hg⟩⟩
theorem One.mono {G : Nat → Prop} (h : One F w b seed width c) (hG : ∀ j, G j → F j) : One G w b seed width c := by
  obtain ⟨h0, ⟨g, L, W, hs, hc, hb, hg⟩⟩ := h
  exact ⟨fun j hj => h0 j (hG j hj), ⟨g, L, W, hs, hc, fun x => hb (hG _ x), fun r hr x => hg r hr (hG _ x)⟩⟩
theorem One.past (h : One F w b seed width c) (o : Obj) : One (fun j => F j ∨ j = w.heap.size) (w.alloc o) b seed width c := by
  obtain ⟨h0, ⟨g, L, W, hs, hc, hb, hg⟩⟩ := h
  have k0 : Keeps (fun _ => False) w (w.alloc o) := (Keeps.refl _ w).alloc o
  refine ⟨fun j hj => ?_, ⟨g, L, W, hs.keep k0 (fun x => x) (fun _ _ x => x), hc, ?_, ?_⟩⟩
  · rw [World.size_alloc]
    rcases hj with hj | hj
    · have := h0 j hj; omega
    · omega
  · rintro (x | x)
    · exact hb x
    · have := hs.top.lt; omega
  · rintro r hr (x | x)
    · exact hg r hr x
    · have := (hs.row r hr).lt; omega

theorem oNew (w : World) (width : Nat) (seed : Int) (h1 : 1 ≤ width) (h2 : width ≤ 4096) (s0 : 0 ≤ seed) (s1 : seed ≤ 18446744073709551615) :
    Calls Try.prog 12 #[.int .i64 (width : Int), .int .u64 seed] w fun e w' => e = .returned (.tuple #[.pointer (some ⟨w.heap.size, 0, none⟩), .int .i64 0]) ∧
      One (fun j => j < w.heap.size) w' w.heap.size seed width (fun _ _ => 0) ∧ Below w.heap.size w w' :=
  (new_any w width seed h1 h2 s0 s1 _ rfl).mono fun e w' ⟨he, hs, hb⟩ => ⟨he, ⟨fun j hj => Nat.lt_of_lt_of_le hj hb.size, _, _, _, hs, fun r i _ _ => cnt_zero i, by omega, fun r _ => by omega⟩, hb⟩

theorem oCount (h : One F w b seed width c) (key : Int) (k0 : 0 ≤ key) (k1 : key ≤ 18446744073709551615) :
    Calls Try.prog 15 #[.pointer (some ⟨b, 0, none⟩), .int .u64 key] w fun e w' => e = .returned (.int .i64 (cntC c (pickN seed key width) : Int)) ∧ One F w' b seed width c ∧ Keeps (fun j => ¬ F j) w w' := by
  obtain ⟨h0, ⟨g, L, W, hs, hc, hb, hg⟩⟩ := h
  refine (count_any hs key k0 k1).mono fun e w' ⟨he, hk⟩ => ⟨?_, ⟨fun j hj => Nat.lt_of_lt_of_le (h0 j hj) hk.size, ⟨g, L, W, hs.below hk, hc, hb, hg⟩⟩, (Keeps.of_below hk).mono (fun n hn hS => by omega)⟩
  rw [he, cntC, least_congr 4 (fun r hr4 => hc r _ hr4 (pickN_lt seed key width r hs.w1))]

theorem oSum (h : One F w b seed width c) :
    Calls Try.prog 21 #[.pointer (some ⟨b, 0, none⟩)] w fun e w' => e = .returned (.int .i64 (sumC width c : Int)) ∧ w' = w := by
  obtain ⟨h0, ⟨g, L, W, hs, hc, hb, hg⟩⟩ := h
  refine (sum_any hs).mono fun e w' ⟨he, hk⟩ => ⟨?_, hk⟩
  rw [he, sumC, sumN_congr 4 (fun r hr4 => sumN_congr width (fun i hi => hc r i hr4 hi))]

theorem oAdd (h : One F w b seed width c) (key : Int) (k0 : 0 ≤ key) (k1 : key ≤ 18446744073709551615) :
    Calls Try.prog 18 #[.pointer (some ⟨b, 0, none⟩), .int .u64 key] w fun e w' => e = .returned (.int .i64 (cntC (addA c (pickN seed key width)) (pickN seed key width) : Int)) ∧
      One F w' b seed width (addA c (pickN seed key width)) ∧ Keeps (fun j => ¬ F j) w w' := by
  obtain ⟨h0, ⟨g, L, W, hs, hc, hb, hg⟩⟩ := h
  have hcc : ∀ r i, r < 4 → i < width → cnt (addW W seed key width 4 r) i = addA c (pickN seed key width) r i := fun r i hr4 hi => by
    unfold addW addA
    rw [if_pos hr4, cnt_moreW (hs.wds r _), hc r i hr4 hi]
  refine (add_any hs key k0 k1).mono fun e w' ⟨he, hs', hk⟩ => ⟨?_, ⟨fun j hj => Nat.lt_of_lt_of_le (h0 j hj) hk.size, ⟨g, L, _, hs', hcc, hb, hg⟩⟩, hk.mono (fun n _ ⟨r, hr4, e⟩ => e ▸ hg r hr4)⟩
  rw [he, cntC, least_congr 4 (fun r hr4 => hcc r _ hr4 (pickN_lt seed key width r hs.w1))]

theorem oHalve (h : One F w b seed width c) :
    Calls Try.prog 19 #[.pointer (some ⟨b, 0, none⟩)] w fun e w' => e = .returned (.int .i64 (sumC width (halfA c) : Int)) ∧ One F w' b seed width (halfA c) ∧ Keeps (fun j => ¬ F j) w w' := by
  obtain ⟨h0, ⟨g, L, W, hs, hc, hb, hg⟩⟩ := h
  refine (halve_any hs).mono fun e w' ⟨he, hs', hk⟩ => ⟨?_, ⟨fun j hj => Nat.lt_of_lt_of_le (h0 j hj) hk.size, ⟨g, L, _, hs', fun r i hr4 hi => ?_, hb, hg⟩⟩, hk.mono (fun n _ ⟨r, hr4, e⟩ => e ▸ hg r hr4)⟩
  · rw [he, sumC, sumN_congr 4 (fun r hr4 => sumN_congr width (fun i hi => by rw [hc r i hr4 hi]))]; rfl
  · simp only [hr4, if_true]; rw [cnt_hf, hc r i hr4 hi]; rfl

theorem oClear (h : One F w b seed width c) :
    Calls Try.prog 20 #[.pointer (some ⟨b, 0, none⟩)] w fun e w' => e = .returned (.tuple #[]) ∧ One F w' b seed width (fun _ _ => 0) ∧ Keeps (fun j => ¬ F j) w w' := by
  obtain ⟨h0, ⟨g, L, W, hs, hc, hb, hg⟩⟩ := h
  refine (clear_any hs).mono fun e w' ⟨he, hs', hk⟩ => ⟨he, ⟨fun j hj => Nat.lt_of_lt_of_le (h0 j hj) hk.size, ⟨g, L, _, hs', fun r i hr4 hi => ?_, hb, hg⟩⟩, hk.mono (fun n _ ⟨r, hr4, e⟩ => e ▸ hg r hr4)⟩
  simp only [hr4, if_true]; exact cnt_zero i
end

/-- One place of a row. -/
theorem sumN_one (p m n : Nat) : sumN (fun i => if i = p then m else 0) n = if p < n then m else 0 := by
  induction n with
  | zero => rfl
  | succ n ih =>
    simp only [sumN]; rw [ih]
    by_cases h : n = p
    · subst h; simp
    · by_cases h2 : p < n
      · simp [h, h2, show p < n + 1 by omega]
      · simp [h, h2, show ¬ p < n + 1 by omega]

theorem cnt_one (pk : Nat → Nat) : cntC (addA (fun _ _ => 0) pk) pk = 1 := by simp [cntC, least, addA]
theorem cnt_two (pk : Nat → Nat) : cntC (addA (addA (fun _ _ => 0) pk) pk) pk = 2 := by simp [cntC, least, addA]
theorem sum_two (pk : Nat → Nat) (n : Nat) (h : ∀ r, pk r < n) : sumC n (halfA (addA (addA (fun _ _ => 0) pk) pk)) = 4 := by
  have e : ∀ r, (fun i => halfA (addA (addA (fun _ _ => 0) pk) pk) r i) = fun i => if i = pk r then 1 else 0 := fun r => funext fun i => by
    unfold halfA addA
    by_cases h : i = pk r <;> simp [h]
  unfold sumC
  simp only [e, sumN_one, h, if_true, sumN]
theorem sum_one (pk : Nat → Nat) (n : Nat) (h : ∀ r, pk r < n) : sumC n (addA (fun _ _ => 0) pk) = 4 := by
  have e : ∀ r, (fun i => addA (fun _ _ => 0) pk r i) = fun i => if i = pk r then 1 else 0 := fun r => funext fun i => by
    unfold addA
    by_cases h : i = pk r <;> simp [h]
  unfold sumC
  simp only [e, sumN_one, h, if_true, sumN]

theorem skAwake (w : World) : Calls Try.prog 17 #[] w fun e w' => e = .returned (.bool true) ∧ Below w.heap.size w w' := by
  obtain ⟨pk, hpk⟩ : ∃ pk, pk = pickN 1 5 64 := ⟨_, rfl⟩
  have hlt : ∀ r, pk r < 64 := fun r => by rw [hpk]; exact pickN_lt _ _ _ _ (by omega)
  have N := Lib.hid (oNew w 64 1 (by omega) (by omega) (by omega) (by omega))
  have A := Lib.hid (fun (F : Nat → Prop) (w : World) (b : Nat) (c : Nat → Nat → Nat) (h : One F w b 1 64 c) => hpk ▸ oAdd h 5 (by omega) (by omega))
  have C := Lib.hid (fun (F : Nat → Prop) (w : World) (b : Nat) (c : Nat → Nat → Nat) (h : One F w b 1 64 c) => hpk ▸ oCount h 5 (by omega) (by omega))
  clear hpk
  go_enter Try.func17, Try.ntmps17
  go_wp2_with fail
  refine N.out.mono ?_
  rintro e w1 ⟨rfl, h1, b1⟩
  have H1 := Lib.hid h1
  have B1 := Lib.hid b1
  clear h1 b1
  go_wp2_with fail
  refine (A.out _ _ _ _ H1.out).mono ?_
  rintro e w2 ⟨rfl, h2, k2⟩
  rw [cnt_one]
  have H2 := Lib.hid h2
  have K2 := Lib.hid k2
  clear h2 k2
  go_wp2_with fail
  refine (A.out _ _ _ _ H2.out).mono ?_
  rintro e w3 ⟨rfl, h3, k3⟩
  rw [cnt_two]
  have H3 := Lib.hid h3
  have K3 := Lib.hid k3
  clear h3 k3
  go_wp2_with fail
  refine (C.out _ _ _ _ H3.out).mono ?_
  rintro e w4 ⟨rfl, h4, k4⟩
  rw [cnt_two]
  have H4 := Lib.hid h4
  have K4 := Lib.hid k4
  clear h4 k4
  go_wp2_with fail
  refine (oHalve H4.out).mono ?_
  rintro e w5 ⟨rfl, h5, k5⟩
  rw [sum_two pk 64 hlt]
  go_wp2
  go_ret
  refine ⟨rfl, ?_⟩
  have k := ((K2.out.trans K3.out (fun n h => .inl h)).trans K4.out (fun n h => .inl h)).trans k5 (fun n h => .inl h)
  exact B1.out.trans ((k.mono (T := fun j => w.heap.size ≤ j) (fun n _ h => by omega)).below B1.out.size)

end Go.Proofs.Ytbhcpedokgdipaa
