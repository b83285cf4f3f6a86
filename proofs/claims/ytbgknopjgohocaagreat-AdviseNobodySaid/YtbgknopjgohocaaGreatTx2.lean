/- A trace that is reckoned: the whole of it. -/
import Derived.Test.YtbgknopjgohocaaGreatTv
namespace Go.Proofs.YtbgknopjgohocaaGreat
open Go.RowKit
set_option linter.unusedVariables false
set_option maxRecDepth 100000
set_option maxHeartbeats 2000000

/-- What is told, and what is held, behind so many reads. -/
def goR (r : RC) (z : Nat → Int) : Nat → List Bool × RV
  | 0 => ([], rv0)
  | k + 1 => ((goR r z k).1 ++ [(readR r (goR r z k).2 (z k)).1], (readR r (goR r z k).2 (z k)).2)
theorem goR_len (r : RC) (z : Nat → Int) : ∀ k, (goR r z k).1.length = k
  | 0 => rfl
  | k + 1 => by
    show ((goR r z k).1 ++ [_]).length = k + 1
    rw [List.length_append, goR_len r z k]; rfl
/-- A row of reads. -/
def RdZ2 (w : World) (a : Option Addr) (n : Nat) (z : Nat → Int) : Prop :=
  0 < n → ∃ g off, a = some ⟨g, off, none⟩ ∧ g < w.heap.size ∧ ∀ i, i < n → w.cell? ⟨g, off + i, none⟩ = some (.int .i64 (z i)) ∧ i64 (z i)

theorem OnWay.fresh {R Q : (Nat → Prop) → World → Prop} [Rep R] {S : Nat → Prop} {w0 w1 w2 : World} (h : OnWay R S w0 w1) (q : Q (New w1 w2) w2) (k : Below w1.heap.size w1 w2) : OnWay (Two R Q) S w0 w2 := by
  have t := Two.new h.1 h.2.1 k q (fun j x => x)
  exact ⟨Two.mono t (ext_trans h.2.2.size k.size), h.own k.size, h.2.2.trans (Keeps.of_below k) (fun n hn => .inr (Nat.le_trans h.2.2.size hn))⟩

/-- The victims are slots, all the way. -/
def HVs (r : RC) (z : Nat → Int) (k : Nat) : Prop := ∀ j, j < k → (anyP (rdS r (goR r z j).2 (z j)).pv = true → vicP (rdS r (goR r z j).2 (z j)).pv < r.c.n)
theorem HVs.next {r : RC} {z : Nat → Int} {k : Nat} (h : HVs r z k) (x : anyP (rdS r (goR r z k).2 (z k)).pv = true → vicP (rdS r (goR r z k).2 (z k)).pv < r.c.n) : HVs r z (k + 1) := fun j hj => by
  by_cases e : j = k
  · subst e; exact x
  · exact h j (by omega)

/-- What reckon answers. -/
def RecP (T : List Bool → (Nat → Prop) → World → Prop) (r : RC) (told : Value) (z : Nat → Int) (n : Nat) (S : Nat → Prop) (w : World) (e : Ending) (w' : World) : Prop :=
  ∃ b q, e = .returned (.tuple #[.pointer (some ⟨b, 0, none⟩), .int .i64 0]) ∧ Two (T (goR r z n).1) (RuX b q r told (goR r z n).2) (Ext S w w') w' ∧ Keeps S w w' ∧ HVs r z n

section
variable {w : World}
theorem tr_reckonN (c : CF) (B : CFB c) (hm : c.may = true) (T : List Bool → (Nat → Prop) → World → Prop) [∀ l, Rep (T l)]
    (hT : ∀ l hit A W, l.length < 1000 → T l A W → Own A W → Calls Tryz.prog 23 #[.bool hit] W fun e w' => e = .returned (.tuple #[]) ∧ T (l ++ [hit]) (Ext A W w') w' ∧ Keeps A W w')
    (a : Option Addr) (n cp : Nat) (z : Nat → Int) (hr : RdZ2 w a n z) (hn : n ≤ 1000) (hc : n ≤ cp) (hm9 : cp ≤ 9223372036854775807) (S : Nat → Prop) (h0 : T [] S w) (ho : Own S w) (hS : 0 < n → ∀ g off, a = some ⟨g, off, none⟩ → ¬ S g) :
    Calls Tryz.prog 21 #[.agg c.cs, .slice a n cp, .func (.func 23) #[] #[]] w (RecP T (rcOf c) (.func (.func 23) #[] #[]) z n S w) := by
  have NB := Lib.hid (fun W => tb_new c B hm 23 #[] W)
  have RB0 := Lib.hid (rb0 hm)
  have O0 := Lib.hid (OnWay.begin h0 ho)
  have HR := Lib.hid (And.intro hr hS)
  have HT := Lib.hid hT
  generalize rcOf c = r at *
  obtain ⟨k0, k1, k2, k3, k4, k5, k6, k7, k8, k9⟩ := c
  have NB := Lib.hid (fun W => show Calls Tryz.prog 32 #[.agg #[.int .i64 k0, .int .i64 k1, .int .i64 k2, .int .i64 k3, .int .i64 k4, .int .u64 k5, .float .f64 k6, .float .f64 k7, .float .f64 k8, .int .i64 k9], .func (.func 23) #[] #[]] W (fun e w' => ∃ b q, e = .returned (.tuple #[.pointer (some ⟨b, 0, none⟩), .int .i64 0]) ∧ RuX b q r (.func (.func 23) #[] #[]) rv0 (New W w') w' ∧ Below W.heap.size W w') from NB.out W)
  have n1 : (n : Int) ≤ 1000 := by omega
  have n2 : (n : Int) ≤ (cp : Int) := by omega
  have n3 : (cp : Int) ≤ 9223372036854775807 := by omega
  have HN := Lib.hid hn
  clear B hm hT hr hn hc hm9 h0 ho hS
  change Calls Tryz.prog 21 #[.agg #[.int .i64 k0, .int .i64 k1, .int .i64 k2, .int .i64 k3, .int .i64 k4, .int .u64 k5, .float .f64 k6, .float .f64 k7, .float .f64 k8, .int .i64 k9], .slice a n cp, .func (.func 23) #[] #[]] w _
  have B0 := Lib.hid ((Below.refl w.heap.size w).alloc (Nat.le_refl _) (.cells #[.int .i64 k0, .int .i64 k1, .int .i64 k2, .int .i64 k3, .int .i64 k4, .int .u64 k5, .float .f64 k6, .float .f64 k7, .float .f64 k8, .int .i64 k9] 28))
  go_enter Tryz.func21, Tryz.ntmps21
  go_wp2_with fail
  refine (NB.out _).mono ?_
  rintro e w1 ⟨b, q, rfl, g1, b1⟩
  have O1 := Lib.hid (show OnWay (Two (T (goR r z 0).1) (RuX b q r (.func (.func 23) #[] #[]) (goR r z 0).2)) S w w1 from OnWay.fresh (O0.out.below B0.out) g1 b1)
  clear g1 b1
  go_wp2
  go_loopw [24] (fun i wr => ∃ k : Nat, k ≤ n ∧ i = .int .i64 (k : Int) ∧ (RB r (goR r z k).2 k ∧ HVs r z k) ∧ OnWay (Two (T (goR r z k).1) (RuX b q r (.func (.func 23) #[] #[]) (goR r z k).2)) S w wr) (fun i _ => n - (intOf i).toNat)
  case atStart => exact ⟨0, Nat.zero_le _, rfl, ⟨RB0.out, fun j h => by omega⟩, O1.out⟩
  case round =>
    obtain ⟨k, hk, rfl, hb, hO⟩ := hrel
    have HO := Lib.hid hO
    have HB := Lib.hid hb
    by_cases hc : (k : Int) < (n : Int)
    · obtain ⟨g, off, rfl, gl, hz⟩ := HR.out.1 (by omega)
      obtain ⟨e0, hi⟩ := hz k (by omega)
      have e1 := OnWay.old hO e0 (HR.out.2 (by omega) g off rfl)
      have HK := Lib.hid (show k + 1 ≤ n by omega)
      have RD := Lib.hid (hO.call (fun A h o => Two.right h (fun A h o => ru_read h o hb.1 (by have := HN.out; omega) (z k) hi)))
      have EG := Lib.hid (show goR r z (k + 1) = ((goR r z k).1 ++ [(readR r (goR r z k).2 (z k)).1], (readR r (goR r z k).2 (z k)).2) from rfl)
      have RBN := Lib.hid (readR_ok (lba := z k) (Two.r hO.1).choose_spec.1.vic hb.1)
      have HVN := Lib.hid (HVs.next hb.2 (Two.r hO.1).choose_spec.1.vic)
      generalize hq : readR r (goR r z k).2 (z k) = rr at *
      obtain ⟨hit, s'⟩ := rr
      have HQ := Lib.hid hq
      clear hz e0 hi hb hO hk hq
      go_wp2_with fail
      refine RD.out.mono ?_
      rintro e w2 ⟨rfl, h2⟩
      have c19 : w2.cell? ⟨b, 19, none⟩ = some (.func (.func 23) #[] #[]) := (Two.r h2.1).choose_spec.1.top.cell (i := 19) (by omega)
      have O2 := Lib.hid h2
      clear h2 e1
      go_wp2_with fail
      refine (O2.out.call (fun A h o => Two.left h (fun A h o => HT.out _ hit A _ (by rw [goR_len]; have := HK.out; have := HN.out; omega) h o))).mono ?_
      rintro e w3 ⟨rfl, h3⟩
      have F := Lib.hid (show OnWay (Two (T (goR r z (k + 1)).1) (RuX b q r (.func (.func 23) #[] #[]) (goR r z (k + 1)).2)) S w w3 from by rw [EG.out]; exact h3)
      have RBN := Lib.hid (show RB r (goR r z (k + 1)).2 (k + 1) from by rw [EG.out]; exact RBN.out)
      clear h3 c19
      go_wp2
      go_roundw
      case rel => exact ⟨k + 1, HK.out, by simp, ⟨RBN.out, HVN.out⟩, F.out⟩
      case measure => have := HK.out; simp only [intOf]; omega
    · have HE := Lib.hid (show k = n by omega)
      clear hb hO hk
      go_wp2
      go_ret2
      exact ⟨b, q, rfl, (HE.out ▸ OnWay.done HO.out).1, (HE.out ▸ OnWay.done HO.out).2, HE.out ▸ HB.out.2⟩

theorem tr_reckonH (c : CF) (B : CFB c) (hm : c.may = true) (pa pi : Nat) (T : List Bool → (Nat → Prop) → World → Prop) [∀ l, Rep (T l)]
    (hT : ∀ l hit A W, l.length < 1000 → T l A W → Own A W → Calls Tryz.prog 22 #[.bool hit, .pointer (some ⟨pa, 0, none⟩), .pointer (some ⟨pi, 0, none⟩)] W fun e w' => e = .returned (.tuple #[]) ∧ T (l ++ [hit]) (Ext A W w') w' ∧ Keeps A W w')
    (a : Option Addr) (n cp : Nat) (z : Nat → Int) (hr : RdZ2 w a n z) (hn : n ≤ 1000) (hc : n ≤ cp) (hm9 : cp ≤ 9223372036854775807) (S : Nat → Prop) (h0 : T [] S w) (ho : Own S w) (hS : 0 < n → ∀ g off, a = some ⟨g, off, none⟩ → ¬ S g) :
    Calls Tryz.prog 21 #[.agg c.cs, .slice a n cp, .func (.func 22) #[] #[.pointer (some ⟨pa, 0, none⟩), .pointer (some ⟨pi, 0, none⟩)]] w (RecP T (rcOf c) (.func (.func 22) #[] #[.pointer (some ⟨pa, 0, none⟩), .pointer (some ⟨pi, 0, none⟩)]) z n S w) := by
  have NB := Lib.hid (fun W => tb_new c B hm 22 #[.pointer (some ⟨pa, 0, none⟩), .pointer (some ⟨pi, 0, none⟩)] W)
  have RB0 := Lib.hid (rb0 hm)
  have O0 := Lib.hid (OnWay.begin h0 ho)
  have HR := Lib.hid (And.intro hr hS)
  have HT := Lib.hid hT
  generalize rcOf c = r at *
  obtain ⟨k0, k1, k2, k3, k4, k5, k6, k7, k8, k9⟩ := c
  have NB := Lib.hid (fun W => show Calls Tryz.prog 32 #[.agg #[.int .i64 k0, .int .i64 k1, .int .i64 k2, .int .i64 k3, .int .i64 k4, .int .u64 k5, .float .f64 k6, .float .f64 k7, .float .f64 k8, .int .i64 k9], .func (.func 22) #[] #[.pointer (some ⟨pa, 0, none⟩), .pointer (some ⟨pi, 0, none⟩)]] W (fun e w' => ∃ b q, e = .returned (.tuple #[.pointer (some ⟨b, 0, none⟩), .int .i64 0]) ∧ RuX b q r (.func (.func 22) #[] #[.pointer (some ⟨pa, 0, none⟩), .pointer (some ⟨pi, 0, none⟩)]) rv0 (New W w') w' ∧ Below W.heap.size W w') from NB.out W)
  have n1 : (n : Int) ≤ 1000 := by omega
  have n2 : (n : Int) ≤ (cp : Int) := by omega
  have n3 : (cp : Int) ≤ 9223372036854775807 := by omega
  have HN := Lib.hid hn
  clear B hm hT hr hn hc hm9 h0 ho hS
  change Calls Tryz.prog 21 #[.agg #[.int .i64 k0, .int .i64 k1, .int .i64 k2, .int .i64 k3, .int .i64 k4, .int .u64 k5, .float .f64 k6, .float .f64 k7, .float .f64 k8, .int .i64 k9], .slice a n cp, .func (.func 22) #[] #[.pointer (some ⟨pa, 0, none⟩), .pointer (some ⟨pi, 0, none⟩)]] w _
  have B0 := Lib.hid ((Below.refl w.heap.size w).alloc (Nat.le_refl _) (.cells #[.int .i64 k0, .int .i64 k1, .int .i64 k2, .int .i64 k3, .int .i64 k4, .int .u64 k5, .float .f64 k6, .float .f64 k7, .float .f64 k8, .int .i64 k9] 28))
  go_enter Tryz.func21, Tryz.ntmps21
  go_wp2_with fail
  refine (NB.out _).mono ?_
  rintro e w1 ⟨b, q, rfl, g1, b1⟩
  have O1 := Lib.hid (show OnWay (Two (T (goR r z 0).1) (RuX b q r (.func (.func 22) #[] #[.pointer (some ⟨pa, 0, none⟩), .pointer (some ⟨pi, 0, none⟩)]) (goR r z 0).2)) S w w1 from OnWay.fresh (O0.out.below B0.out) g1 b1)
  clear g1 b1
  go_wp2
  go_loopw [24] (fun i wr => ∃ k : Nat, k ≤ n ∧ i = .int .i64 (k : Int) ∧ (RB r (goR r z k).2 k ∧ HVs r z k) ∧ OnWay (Two (T (goR r z k).1) (RuX b q r (.func (.func 22) #[] #[.pointer (some ⟨pa, 0, none⟩), .pointer (some ⟨pi, 0, none⟩)]) (goR r z k).2)) S w wr) (fun i _ => n - (intOf i).toNat)
  case atStart => exact ⟨0, Nat.zero_le _, rfl, ⟨RB0.out, fun j h => by omega⟩, O1.out⟩
  case round =>
    obtain ⟨k, hk, rfl, hb, hO⟩ := hrel
    have HO := Lib.hid hO
    have HB := Lib.hid hb
    by_cases hc : (k : Int) < (n : Int)
    · obtain ⟨g, off, rfl, gl, hz⟩ := HR.out.1 (by omega)
      obtain ⟨e0, hi⟩ := hz k (by omega)
      have e1 := OnWay.old hO e0 (HR.out.2 (by omega) g off rfl)
      have HK := Lib.hid (show k + 1 ≤ n by omega)
      have RD := Lib.hid (hO.call (fun A h o => Two.right h (fun A h o => ru_read h o hb.1 (by have := HN.out; omega) (z k) hi)))
      have EG := Lib.hid (show goR r z (k + 1) = ((goR r z k).1 ++ [(readR r (goR r z k).2 (z k)).1], (readR r (goR r z k).2 (z k)).2) from rfl)
      have RBN := Lib.hid (readR_ok (lba := z k) (Two.r hO.1).choose_spec.1.vic hb.1)
      have HVN := Lib.hid (HVs.next hb.2 (Two.r hO.1).choose_spec.1.vic)
      generalize hq : readR r (goR r z k).2 (z k) = rr at *
      obtain ⟨hit, s'⟩ := rr
      have HQ := Lib.hid hq
      clear hz e0 hi hb hO hk hq
      go_wp2_with fail
      refine RD.out.mono ?_
      rintro e w2 ⟨rfl, h2⟩
      have c19 : w2.cell? ⟨b, 19, none⟩ = some (.func (.func 22) #[] #[.pointer (some ⟨pa, 0, none⟩), .pointer (some ⟨pi, 0, none⟩)]) := (Two.r h2.1).choose_spec.1.top.cell (i := 19) (by omega)
      have O2 := Lib.hid h2
      clear h2 e1
      go_wp2_with fail
      refine (O2.out.call (fun A h o => Two.left h (fun A h o => HT.out _ hit A _ (by rw [goR_len]; have := HK.out; have := HN.out; omega) h o))).mono ?_
      rintro e w3 ⟨rfl, h3⟩
      have F := Lib.hid (show OnWay (Two (T (goR r z (k + 1)).1) (RuX b q r (.func (.func 22) #[] #[.pointer (some ⟨pa, 0, none⟩), .pointer (some ⟨pi, 0, none⟩)]) (goR r z (k + 1)).2)) S w w3 from by rw [EG.out]; exact h3)
      have RBN := Lib.hid (show RB r (goR r z (k + 1)).2 (k + 1) from by rw [EG.out]; exact RBN.out)
      clear h3 c19
      go_wp2
      go_roundw
      case rel => exact ⟨k + 1, HK.out, by simp, ⟨RBN.out, HVN.out⟩, F.out⟩
      case measure => have := HK.out; simp only [intOf]; omega
    · have HE := Lib.hid (show k = n by omega)
      clear hb hO hk
      go_wp2
      go_ret2
      exact ⟨b, q, rfl, (HE.out ▸ OnWay.done HO.out).1, (HE.out ▸ OnWay.done HO.out).2, HE.out ▸ HB.out.2⟩
end
end Go.Proofs.YtbgknopjgohocaaGreat
