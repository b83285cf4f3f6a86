/- All slots of an order; two rows of numbers held side by side. -/
import Derived.Test.YtdbgehplmllgdaaGreatZD
import Derived.Test.YtdbgehplmllgdaaGreatRv
import Derived.Test.YtdbgehplmllgdaaGreatSm
import Derived.OwnWalk
import Derived.Laws.AppendOwnNone
namespace Go.Proofs.YtdbgehplmllgdaaGreat
open Go.RowKit
set_option linter.unusedVariables false

theorem own_keep {S : Nat → Prop} {w w' : World} {base : Nat} {e : TypeId} {size : Nat} {v : Value} {n : Nat} {xs : List Value} (h : w.ownsRow base e size v n xs) (k : Keeps S w w') (hS : ∀ j, v.ownBlock = some j → ¬ S j) : w'.ownsRow base e size v n xs := by
  refine ⟨h.1, h.2.imp id (fun ⟨g, cap, cur, e, hb, hh, r⟩ => ⟨g, cap, cur, e, hb, ?_, r⟩)⟩
  subst e
  exact k.blk hh (hS g rfl)
theorem own_lt {w : World} {base : Nat} {e : TypeId} {size : Nat} {v : Value} {n : Nat} {xs : List Value} (h : w.ownsRow base e size v n xs) : ∀ j, v.ownBlock = some j → j < w.heap.size := fun j ej => by
  rcases h.2 with ⟨rfl, _⟩ | ⟨g, cap, cur, rfl, _, hh, _⟩
  · simp [Value.ownBlock] at ej
  · obtain rfl : g = j := by simpa [Value.ownBlock] using ej
    exact blk_lt' hh
theorem own_ge {w : World} {base : Nat} {e : TypeId} {size : Nat} {v : Value} {n : Nat} {xs : List Value} (h : w.ownsRow base e size v n xs) : ∀ j, v.ownBlock = some j → base ≤ j := fun j ej => by
  rcases h.2 with ⟨rfl, _⟩ | ⟨g, cap, cur, rfl, hb, _, _⟩
  · simp [Value.ownBlock] at ej
  · obtain rfl : g = j := by simpa [Value.ownBlock] using ej
    exact hb

/-- The row at hand, cell by cell. -/
theorem own_arr {w : World} {base : Nat} {e : TypeId} {v : Value} {l : List Nat} (h : w.ownsRow base e 1 v l.length (l.map intV)) (hl : l ≠ []) :
    ∃ g cap F, v = .slice (some ⟨g, 0, none⟩) l.length cap ∧ base ≤ g ∧ Arr w g e cap F ∧ l.length ≤ cap ∧ ∀ i, i < l.length → F i = .int .i64 ((l.getD i 0 : Nat) : Int) := by
  rcases h.2 with ⟨_, h0⟩ | ⟨g, cap, cur, rfl, hb, hh, hc, _, hs, ht⟩
  · exact absurd (List.eq_nil_of_length_eq_zero h0) hl
  · refine ⟨g, cap, fun i => cur.getD i undef, rfl, hb, ⟨cur, hh, by omega, fun i hi => ?_⟩, hc, fun i hi => ?_⟩
    · have : i < cur.size := by omega
      simp [Array.getD, this]
    · have h1 : (cur.toList.take (l.length * 1))[i]? = (l.map intV)[i]? := by rw [ht]
      rw [List.getElem?_take_of_lt (by omega)] at h1
      have h2 : i < cur.size := by omega
      simp [h2, hi] at h1
      simp [Array.getD, h2, h1, intV, hi]

/-- A box, and the row that it holds, where the row has grown: no new block ahead. -/
theorem boxed_more0 {W w1 : World} {nb B : Nat} {t e : TypeId} {size : Nat} {v v' : Value} {k m : Nat} {xs ys : List Value}
    (hv : Boxed W B t v) (hte : t ≠ e) (hrow : W.ownsRow nb e size v k xs) (hown' : w1.ownsRow nb e size v' m ys) (hgrow : W.grownBy w1 v.ownBlock) :
    Boxed w1 B t v ∧ Boxed (w1.setCell ⟨B, 0, none⟩ v') B t v' ∧ (w1.setCell ⟨B, 0, none⟩ v').ownsRow nb e size v' m ys ∧
      ∀ T : Nat → Prop, (∀ j, T j → j < nb ∧ j ≠ B) → KT T W (w1.setCell ⟨B, 0, none⟩ v') := by
  have hv1 : Boxed w1 B t v := hv.kept hgrow (hv.not_row hte hrow)
  refine ⟨hv1, hv1.set v', hown'.kept (grownBy_setCell' w1 B v') (.inr (hv1.not_row hte hown').symm), fun T hT => ?_⟩
  exact ((Keeps.refl _ W).grown hgrow (fun j ej => .inl (fun x => by have := own_ge hrow j ej; have := (hT j x).1; omega))).setCell (p := ⟨B, 0, none⟩) (.inl (fun x => (hT B x).2 rfl)) v'

theorem own_slice {w : World} {base : Nat} {e : TypeId} {size : Nat} {v : Value} {n : Nat} {xs : List Value} (h : w.ownsRow base e size v n xs) : ∃ A c, v = .slice A n c := by
  rcases h.2 with ⟨rfl, rfl⟩ | ⟨g, cap, cur, rfl, _⟩
  · exact ⟨_, _, rfl⟩
  · exact ⟨_, _, rfl⟩

theorem KT.refl (T : Nat → Prop) (w : World) : KT T w w := Keeps.refl _ _

set_option maxHeartbeats 1000000 in
/-- The closure of All: one list, turned, behind what there is. -/
theorem sl_all1 {w : World} {b lb g q n most : Nat} {t : LS} {ob O nb : Nat} {v : Value} {xs : List Nat} (hT : Arr w b 142 3 (slF lb n most)) (hL : Li w lb g q n 2 t) (k : Nat) (hk : k < 2)
    (hob : w.cell? ⟨ob, 0, none⟩ = some (.pointer (some ⟨b, 0, none⟩))) (hv : Boxed w O 35 v) (hrow : w.ownsRow nb 3 1 v xs.length (xs.map intV)) (hnb : nb ≤ w.heap.size) (hx : xs.length ≤ 1024) :
    Calls Tryz.prog 118 #[.int .i64 (k : Int), .pointer (some ⟨ob, 0, none⟩), .pointer (some ⟨O, 0, none⟩)] w fun e w' => e = .returned (.tuple #[]) ∧ ∃ v', Boxed w' O 35 v' ∧
      w'.ownsRow nb 3 1 v' (xs ++ (t.rows k).reverse).length ((xs ++ (t.rows k).reverse).map intV) ∧ ∀ T : Nat → Prop, (∀ j, T j → j < nb ∧ j ≠ O) → KT T w w' := by
  have c0 : w.cell? ⟨b, 0, none⟩ = some (.pointer (some ⟨lb, 0, none⟩)) := hT.cell (i := 0) (by omega)
  have AL := Lib.hid (li_all hL k hk)
  have hlen := nodup_len n _ (hL.inv.nod k hk) (hL.inv.lt k hk)
  have hn2 := hL.n2
  obtain ⟨i0, hi, hz0, hz1, hz2⟩ := info_parts infoInt
  obtain ⟨A, c, rfl⟩ := own_slice hrow
  have HV := Lib.hid hv
  have HR := Lib.hid hrow
  have hO := hv.lt
  by_cases he : t.rows k = []
  · rw [he] at AL ⊢
    have ap : xs ++ ([] : List Nat).reverse = xs := by simp
    rw [ap]
    clear hv hrow he ap hT hL hlen
    go_enter Tryz.func118, Tryz.ntmps118
    go_wp2_with fail
    refine AL.out.mono ?_
    rintro e w1 ⟨v1, rfl, ho1, hn1, hb1⟩
    obtain rfl : v1 = .slice none 0 0 := hn1.2 trivial
    have B1 := Lib.hid hb1
    have bx : Boxed w1 O 35 (.slice A xs.length c) := (hb1.block _ hO).trans HV.out
    have rw1 := own_keep HR.out (Keeps.of_below hb1) (fun j ej => Nat.not_le.2 (own_lt HR.out j ej))
    have hc := bx.cell
    have hf := bx.frozen
    have BX := Lib.hid bx
    have RW := Lib.hid rw1
    clear ho1 hn1 hb1 bx rw1
    go_wp2_with fail
    refine (rev_nil _).mono ?_
    rintro e w' ⟨rfl, rfl⟩
    go_wp2_with (at_builtin; refine wpList_append_own_none rfl _ _ 35 rfl nb 3 i0 1 Tryz.underlying35 hi (.slice A xs.length c) _ _ rfl RW.out rfl ?_)
    go_end0
    obtain ⟨h1, h2, h3, h4⟩ := boxed_more0 BX.out (by decide) RW.out RW.out (World.grownBy.refl w' _)
    exact ⟨rfl, _, h2, h3, fun T hT => KT.t ((Keeps.of_below B1.out).mono (fun j hj x y => by have := (hT j y).1; omega)) (h4 T hT)⟩
  · have hpos : 0 < (t.rows k).length := by
      cases e : t.rows k with
      | nil => exact absurd e he
      | cons a l => simp
    have HE := Lib.hid he
    have HP := Lib.hid hpos
    clear hv hrow he hT hL hpos
    go_enter Tryz.func118, Tryz.ntmps118
    go_wp2_with fail
    refine AL.out.mono ?_
    rintro e w1 ⟨v1, rfl, ho1, hn1, hb1⟩
    obtain ⟨g1, cap1, F, rfl, hge, hA, hcap, hF⟩ := own_arr ho1 HE.out
    have R := Lib.hid (rev_any hA (t.rows k).length cap1 hF hcap (by omega))
    have B1 := Lib.hid hb1
    have HG := Lib.hid hge
    have HC := Lib.hid hcap
    clear ho1 hn1 hb1 hA hF hge hcap
    go_wp2_with fail
    refine R.out.mono ?_
    rintro e w2 ⟨rfl, hA2, k2⟩
    have hge := HG.out
    have bx : Boxed w2 O 35 (.slice A xs.length c) := Keeps.blk k2 ((B1.out.block _ hO).trans HV.out) (by omega)
    have rw1 := own_keep (own_keep HR.out (Keeps.of_below B1.out) (fun j ej => Nat.not_le.2 (own_lt HR.out j ej))) k2 (fun j ej x => by have := own_lt HR.out j ej; omega)
    have hnews : ∀ j u, ((t.rows k).reverse.map intV)[j]? = some u → w2.cell? ((⟨g1, 0, none⟩ : Addr).add j) = some u := fun j u hu => by
      have e1 : (⟨g1, 0, none⟩ : Addr).add j = ⟨g1, j, none⟩ := by unfold Addr.add; split <;> simp_all
      rw [List.getElem?_map] at hu
      obtain ⟨x, hx1, hx2⟩ := Option.map_eq_some_iff.1 hu
      have hj : j < (t.rows k).length := by
        have := (List.getElem?_eq_some_iff.1 hx1).1
        simpa using this
      rw [e1, hA2.cell (by have := HC.out; omega), if_pos hj, ← hx2]
      have : (t.rows k).getD ((t.rows k).length - 1 - j) 0 = x := by
        rw [List.getElem?_reverse hj] at hx1
        rw [List.getD_eq_getElem?_getD, hx1]; rfl
      rw [this]; rfl
    have hbase : nb ≤ w2.heap.size := Nat.le_trans hnb (Nat.le_trans B1.out.size k2.size)
    have hc := bx.cell
    have hf := bx.frozen
    have K2 := Lib.hid k2
    have BX := Lib.hid bx
    have RW := Lib.hid rw1
    have HN := Lib.hid hnews
    clear hA2 k2 bx rw1 hnews
    go_wp2_with (at_builtin; refine wpList_append_own _ rfl _ _ 35 rfl nb 3 i0 (.int .i64 0) 1 8 Tryz.underlying35 hi hz0 hz1 hz2 rfl (by decide) (.slice A xs.length c) _ _ rfl RW.out ⟨g1, 0, none⟩ (t.rows k).length cap1 ((t.rows k).reverse.map intV) rfl (by simp) HN.out (by simp [intV, Value.oneCell']) (by unfold maxLen; omega) (by omega) hbase ?_; intro v' w3 hown' hgrow _; obtain ⟨A', c', rfl⟩ := own_slice hown'; obtain ⟨h1, h2, h3, h4⟩ := boxed_more0 BX.out (by decide) RW.out hown' hgrow; have hc3 := h1.cell; have hf3 := h1.frozen)
    go_end0
    refine ⟨rfl, _, h2, by simpa using h3, fun T hT => KT.t (KT.t ((Keeps.of_below B1.out).mono (fun j hj x y => by have := (hT j y).1; omega)) (K2.out.mono (fun j hj x y => by have := (hT j y).1; have := HG.out; omega))) (h4 T hT)⟩

/-- What a slice tells: a row of numbers. -/
def RdI (w : World) (v : Value) (l : List Nat) : Prop :=
  ∃ A c, v = .slice A l.length c ∧ (l = [] ∨ ∃ g, A = some ⟨g, 0, none⟩ ∧ ∀ i, i < l.length → w.cell? ⟨g, i, none⟩ = some (.int .i64 ((l.getD i 0 : Nat) : Int)))
theorem rdI_of {w : World} {base : Nat} {e : TypeId} {v : Value} {l : List Nat} (h : w.ownsRow base e 1 v l.length (l.map intV)) : RdI w v l := by
  by_cases hl : l = []
  · obtain ⟨A, c, rfl⟩ := own_slice h
    exact ⟨A, c, rfl, .inl hl⟩
  · obtain ⟨g, cap, F, rfl, _, hA, hc, hF⟩ := own_arr h hl
    exact ⟨_, _, rfl, .inr ⟨g, rfl, fun i hi => by rw [hA.cell (by omega), hF i hi]⟩⟩
theorem RdI.below {w w' : World} {v : Value} {l : List Nat} (h : RdI w v l) (k : Below w.heap.size w w') : RdI w' v l := by
  obtain ⟨A, c, e, h⟩ := h
  exact ⟨A, c, e, h.imp id (fun ⟨g, eg, hc⟩ => ⟨g, eg, fun i hi => (k.cell (World.block_lt_of_cell? w _ (hc i hi))).trans (hc i hi)⟩)⟩

/-- Two rows held side by side. -/
theorem same_rows {w : World} {v u : Value} {l m : List Nat} (hv : RdI w v l) (hu : RdI w u m) (hl : l.length ≤ 1048576) (hm : m.length ≤ 1048576) :
    Calls Tryz.prog 33 #[v, u] w fun e w' => e = .returned (.bool (decide (l = m))) ∧ ∃ k, w' = w.drewN k := by
  obtain ⟨A, c, rfl, hA⟩ := hv
  obtain ⟨B, d, rfl, hB⟩ := hu
  by_cases hlen : l.length = m.length
  · have hB' : m = [] ∨ ∃ g, B = some ⟨g, 0, none⟩ ∧ ∀ i, i < l.length → w.cell? ⟨g, i, none⟩ = some (.int .i64 ((m.getD i 0 : Nat) : Int)) := by rw [hlen]; exact hB
    have fin : ∀ k, l.length ≤ k → (∀ i, i < k → l.getD i 0 = m.getD i 0) → decide (l = m) = true := fun k hk h => decide_eq_true (List.ext_getElem hlen (fun i h1 h2 => by
      have := h i (by omega)
      simpa [List.getD_eq_getElem?_getD, h1, h2] using this))
    have dif : ∀ k, l.getD k 0 ≠ m.getD k 0 → decide (l = m) = false := fun k h => decide_eq_false (fun e => h (by rw [e]))
    rw [← hlen]
    have HL := Lib.hid hlen
    have HA := Lib.hid hA
    have HB := Lib.hid hB'
    have FIN := Lib.hid fin
    have DIF := Lib.hid dif
    have y1 : (l.length : Int) ≤ 1048576 := by omega
    clear hlen hA hB hB' fin dif
    go_enter Tryz.func33, Tryz.ntmps33
    go_wp2
    go_loopw [5] (fun i wr => ∃ k j : Nat, k ≤ l.length ∧ i = .int .i64 (k : Int) ∧ (∀ i, i < k → l.getD i 0 = m.getD i 0) ∧ wr = w.drewN j) (fun i _ => l.length - (intOf i).toNat)
    case atStart => exact ⟨0, 0, Nat.zero_le _, rfl, fun i h => absurd h (Nat.not_lt_zero i), rfl⟩
    case round =>
      obtain ⟨k, j, hk, rfl, he, hwr⟩ := hrel
      have HE := Lib.hid he
      by_cases hc : k < l.length
      · have hA := HA.out
        have hB := HB.out
        have hml : m.length ≠ 0 := by have := HL.out; omega
        rcases hA with e | ⟨gA, rfl, cA⟩
        · rw [e] at hc; exact absurd hc (Nat.not_lt_zero k)
        rcases hB with e | ⟨gB, rfl, cB⟩
        · rw [e] at hml; exact absurd rfl hml
        have a1 : wr.cell? ⟨gA, k, none⟩ = some (.int .i64 ((l.getD k 0 : Nat) : Int)) := by rw [hwr]; exact cA k hc
        have a2 : wr.cell? ⟨gB, k, none⟩ = some (.int .i64 ((m.getD k 0 : Nat) : Int)) := by rw [hwr]; exact cB k hc
        have x1 : (k : Int) < (l.length : Int) := by omega
        have x2 : (k : Int) + 1 ≤ 1048577 := by omega
        have HW := Lib.hid hwr
        obtain ⟨a, ea⟩ : ∃ a, a = l.getD k 0 := ⟨_, rfl⟩
        obtain ⟨b, eb⟩ : ∃ b, b = m.getD k 0 := ⟨_, rfl⟩
        rw [← ea] at a1
        rw [← eb] at a2
        have EA := Lib.hid ea
        have EB := Lib.hid eb
        clear he cA cB hwr ea eb hml
        by_cases hab : a = b
        · subst hab
          go_wp2_with fail
          go_quiet (fail)
          go_wp2
          go_roundw
          case rel =>
            refine ⟨k + 1, j + nq, by omega, by simp, fun i hi => ?_, by rw [HW.out, World.drewN_drewN]⟩
            by_cases e : i = k
            · subst e; rw [← EA.out, ← EB.out]
            · exact HE.out i (by omega)
          case measure => simp only [intOf]; omega
        · have n1 : ((a : Int) == (b : Int)) = false := beq_eq_false_iff_ne.2 (by omega)
          have n2 : ((a : Int) != (b : Int)) = true := by rw [bne_iff_ne]; omega
          have n3 : (a == b) = false := beq_eq_false_iff_ne.2 hab
          have n4 : (a != b) = true := by rw [bne_iff_ne]; exact hab
          have D := Lib.hid (DIF.out k (by rw [← EA.out, ← EB.out]; exact hab))
          clear hab
          go_wp2_with fail
          go_quiet (fail)
          go_wp2
          go_ret
          refine ⟨?_, j + nq, by rw [HW.out, World.drewN_drewN]⟩
          rw [D.out]; rfl
      · have x1 : ¬ (k : Int) < (l.length : Int) := by omega
        have F := Lib.hid (FIN.out k (by omega) he)
        have HW := Lib.hid hwr
        clear he hwr
        go_wp2
        go_ret
        refine ⟨?_, j, HW.out⟩
        rw [F.out]; rfl
  · have h1 : decide (l = m) = false := decide_eq_false (fun e => hlen (by rw [e]))
    have h2 : ((l.length : Int) == (m.length : Int)) = false := beq_eq_false_iff_ne.2 (by omega)
    have h3 : ((l.length : Int) != (m.length : Int)) = true := by rw [bne_iff_ne]; omega
    have h4 : (l.length == m.length) = false := beq_eq_false_iff_ne.2 hlen
    rw [h1]
    clear h1 hA hB hlen
    go_enter Tryz.func33, Tryz.ntmps33
    go_wp2
    go_ret
    exact ⟨rfl, 0, rfl⟩

end Go.Proofs.YtdbgehplmllgdaaGreat
