/- Both sketches by the blocks that they own. -/
import Derived.Test.YtbhcpedokgdipaaSkO
import Derived.Test.YtbhcpedokgdipaaFr
namespace Go.Proofs.Ytbhcpedokgdipaa
open Go.RowKit
set_option linter.unusedVariables false

/-- The program's sketch at b counts c; its blocks lie in S. -/
def SkO (b : Nat) (seed : Int) (width : Nat) (c : Nat → Nat → Nat) (S : Nat → Prop) (w : World) : Prop :=
  ∃ g L W, Sk w b g seed width L W ∧ (∀ r i, r < 4 → i < width → cnt (W r) i = c r i) ∧ S b ∧ ∀ r, r < 4 → S (g r)

/-- The document's. -/
def RsO (b : Nat) (seed : Int) (width : Nat) (c : Nat → Nat → Nat) (S : Nat → Prop) (w : World) : Prop :=
  ∃ g, RSk w b g seed width c ∧ S b ∧ ∀ r, r < 4 → S (g r)

instance (b : Nat) (seed : Int) (width : Nat) (c : Nat → Nat → Nat) : Rep (SkO b seed width c) where
  keep := fun ⟨g, L, W, h, hc, hb, hg⟩ _ k ht => ⟨g, L, W, h.keep k (ht _ hb) (fun r hr => ht _ (hg r hr)), hc, hb, hg⟩
  mono := fun ⟨g, L, W, h, hc, hb, hg⟩ hs => ⟨g, L, W, h, hc, hs _ hb, fun r hr => hs _ (hg r hr)⟩
instance (b : Nat) (seed : Int) (width : Nat) (c : Nat → Nat → Nat) : Rep (RsO b seed width c) where
  keep := fun ⟨g, h, hb, hg⟩ _ k ht => ⟨g, h.keep k (ht _ hb) (fun r hr => ht _ (hg r hr)), hb, hg⟩
  mono := fun ⟨g, h, hb, hg⟩ hs => ⟨g, h, hs _ hb, fun r hr => hs _ (hg r hr)⟩

section
variable {S : Nat → Prop} {w w' : World} {b : Nat} {seed : Int} {width : Nat} {c d : Nat → Nat → Nat}

theorem SkO.one (h : SkO b seed width c S w) : One (fun j => j < w.heap.size ∧ ¬ S j) w b seed width c := by
  obtain ⟨g, L, W, hs, hc, hb, hg⟩ := h
  exact ⟨fun j hj => hj.1, g, L, W, hs, hc, fun x => x.2 hb, fun r hr x => x.2 (hg r hr)⟩
theorem SkO.of_one (h : One (fun j => j < w.heap.size ∧ ¬ S j) w' b seed width c) : SkO b seed width c (Ext S w w') w' := by
  obtain ⟨h0, ⟨g, L, W, hs, hc, hb, hg⟩⟩ := h
  have key : ∀ j, j < w'.heap.size → ¬ (j < w.heap.size ∧ ¬ S j) → Ext S w w' j := fun j hj x => by
    by_cases hS : S j
    · exact .inl hS
    · exact .inr ⟨by by_cases hz : j < w.heap.size; exact absurd ⟨hz, hS⟩ x; omega, hj⟩
  exact ⟨g, L, W, hs, hc, key b hs.top.lt hb, fun r hr => key _ (hs.row r hr).lt (hg r hr)⟩
theorem Keeps.of_not (k : Keeps (fun j => ¬ (j < w.heap.size ∧ ¬ S j)) w w') : Keeps S w w' :=
  k.mono (fun n hn x => by
    by_cases hS : S n
    · exact hS
    · exact absurd ⟨hn, hS⟩ x)

theorem SkO.wid (h : SkO b seed width c S w) : 1 ≤ width ∧ width ≤ 4096 := by
  obtain ⟨g, L, W, hs, _⟩ := h
  exact ⟨hs.w1, hs.w2⟩

theorem skNew (w : World) (width : Nat) (seed : Int) (h1 : 1 ≤ width) (h2 : width ≤ 4096) (s0 : 0 ≤ seed) (s1 : seed ≤ 18446744073709551615) :
    Calls Try.prog 12 #[.int .i64 (width : Int), .int .u64 seed] w fun e w' => e = .returned (.tuple #[.pointer (some ⟨w.heap.size, 0, none⟩), .int .i64 0]) ∧
      SkO w.heap.size seed width (fun _ _ => 0) (New w w') w' ∧ Below w.heap.size w w' :=
  (new_any w width seed h1 h2 s0 s1 _ rfl).mono fun e w' ⟨he, hs, hb⟩ => ⟨he, ⟨_, _, _, hs, fun r i _ _ => cnt_zero i, ⟨Nat.le_refl _, hs.top.lt⟩, fun r hr => ⟨by omega, (hs.row r hr).lt⟩⟩, hb⟩

theorem skCount (h : SkO b seed width c S w) (key : Int) (k0 : 0 ≤ key) (k1 : key ≤ 18446744073709551615) :
    Calls Try.prog 15 #[.pointer (some ⟨b, 0, none⟩), .int .u64 key] w fun e w' => e = .returned (.int .i64 (cntC c (pickN seed key width) : Int)) ∧ SkO b seed width c (Ext S w w') w' ∧ Keeps S w w' :=
  (oCount h.one key k0 k1).mono fun e w' ⟨he, ho, hk⟩ => ⟨he, SkO.of_one ho, hk.of_not⟩
theorem skSum (h : SkO b seed width c S w) :
    Calls Try.prog 21 #[.pointer (some ⟨b, 0, none⟩)] w fun e w' => e = .returned (.int .i64 (sumC width c : Int)) ∧ w' = w := oSum h.one
theorem skAdd (h : SkO b seed width c S w) (key : Int) (k0 : 0 ≤ key) (k1 : key ≤ 18446744073709551615) :
    Calls Try.prog 18 #[.pointer (some ⟨b, 0, none⟩), .int .u64 key] w fun e w' => e = .returned (.int .i64 (cntC (addA c (pickN seed key width)) (pickN seed key width) : Int)) ∧
      SkO b seed width (addA c (pickN seed key width)) (Ext S w w') w' ∧ Keeps S w w' :=
  (oAdd h.one key k0 k1).mono fun e w' ⟨he, ho, hk⟩ => ⟨he, SkO.of_one ho, hk.of_not⟩
theorem skHalve (h : SkO b seed width c S w) :
    Calls Try.prog 19 #[.pointer (some ⟨b, 0, none⟩)] w fun e w' => e = .returned (.int .i64 (sumC width (halfA c) : Int)) ∧ SkO b seed width (halfA c) (Ext S w w') w' ∧ Keeps S w w' :=
  (oHalve h.one).mono fun e w' ⟨he, ho, hk⟩ => ⟨he, SkO.of_one ho, hk.of_not⟩
theorem skClear (h : SkO b seed width c S w) :
    Calls Try.prog 20 #[.pointer (some ⟨b, 0, none⟩)] w fun e w' => e = .returned (.tuple #[]) ∧ SkO b seed width (fun _ _ => 0) (Ext S w w') w' ∧ Keeps S w w' :=
  (oClear h.one).mono fun e w' ⟨he, ho, hk⟩ => ⟨he, SkO.of_one ho, hk.of_not⟩

theorem rsNew (w : World) (width : Nat) (seed : Int) (h1 : 1 ≤ width) (h2 : width ≤ 4096) (s0 : 0 ≤ seed) (s1 : seed ≤ 18446744073709551615) :
    Calls Try.prog 13 #[.int .i64 (width : Int), .int .u64 seed] w fun e w' => e = .returned (.pointer (some ⟨w.heap.size, 0, none⟩)) ∧
      RsO w.heap.size seed width (fun _ _ => 0) (New w w') w' ∧ Below w.heap.size w w' :=
  (rNew_any w width seed h1 h2 s0 s1).mono fun e w' ⟨he, hr, hb⟩ => ⟨he, ⟨_, hr, ⟨Nat.le_refl _, hr.top.lt⟩, fun r hr4 => ⟨by omega, (hr.row r hr4).lt⟩⟩, hb⟩
theorem rsCount (h : RsO b seed width c S w) (key : Int) (k0 : 0 ≤ key) (k1 : key ≤ 18446744073709551615) :
    Calls Try.prog 16 #[.pointer (some ⟨b, 0, none⟩), .int .u64 key] w fun e w' => e = .returned (.int .i64 (cntC c (pickN seed key width) : Int)) ∧ ∃ n, w' = w.drewN n := by
  obtain ⟨g, hr, _⟩ := h
  exact rCount_any hr key k0 k1
theorem rsAdd (h : RsO b seed width c S w) (key : Int) (k0 : 0 ≤ key) (k1 : key ≤ 18446744073709551615) :
    Calls Try.prog 50 #[.pointer (some ⟨b, 0, none⟩), .int .u64 key] w fun e w' => e = .returned (.int .i64 (cntC (addA c (pickN seed key width)) (pickN seed key width) : Int)) ∧
      RsO b seed width (addA c (pickN seed key width)) S w' ∧ Keeps S w w' := by
  obtain ⟨g, hr, hb, hg⟩ := h
  have hcc : ∀ r i, r < 4 → addC c (pickN seed key width) 4 r i = addA c (pickN seed key width) r i := fun r i hr4 => by
    unfold addC addA; rw [if_pos hr4]
  refine (rAdd_any hr key k0 k1).mono fun e w' ⟨he, hr', hk⟩ => ⟨?_, ⟨g, hr'.alike (fun r q hr4 _ => hcc r q hr4) (fun r i => ?_), hb, hg⟩, hk.mono (fun n _ ⟨r, hr4, e⟩ => e ▸ hg r hr4)⟩
  · rw [he, cntC, least_congr 4 (fun r hr4 => hcc r _ hr4)]
  · have := hr.cap r i
    unfold addA; split <;> omega
theorem rsHalve (h : RsO b seed width c S w) :
    Calls Try.prog 51 #[.pointer (some ⟨b, 0, none⟩)] w fun e w' => e = .returned (.int .i64 (sumC width (halfA c) : Int)) ∧ RsO b seed width (halfA c) S w' ∧ Keeps S w w' := by
  obtain ⟨g, hr, hb, hg⟩ := h
  refine (rHalve_any hr).mono fun e w' ⟨he, hr', hk⟩ => ⟨he, ⟨g, hr'.alike (fun r q hr4 _ => ?_) (fun r i => ?_), hb, hg⟩, hk.mono (fun n _ ⟨r, hr4, e⟩ => e ▸ hg r hr4)⟩
  · simp [hC, halfA, hr4]
  · have := hr.cap r i
    unfold halfA; omega
theorem RsO.wid (h : RsO b seed width c S w) : 1 ≤ width ∧ width ≤ 4096 := by
  obtain ⟨g, hs, _⟩ := h
  exact ⟨hs.w1, hs.w2⟩
end

end Go.Proofs.Ytbhcpedokgdipaa
