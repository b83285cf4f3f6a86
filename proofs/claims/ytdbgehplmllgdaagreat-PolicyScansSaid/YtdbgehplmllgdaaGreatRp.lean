/- The document's rows of keys: Put. -/
import Derived.Test.YtdbgehplmllgdaaGreatRk
namespace Go.Proofs.YtdbgehplmllgdaaGreat
open Go.RowKit Go.Maps
set_option linter.unusedVariables false

section
variable {w : World} {v u : Value} {l m : List Int} {most : Nat}

set_option maxRecDepth 100000 in
set_option maxHeartbeats 4000000 in
theorem rk_put (hv : RdK w v l) (hl : l.length ≤ most) (hm : most ≤ 1024) (key : Int) :
    Calls Tryz.prog 130 #[v, .int .u64 key, .int .i64 (most : Int)] w fun e w' => ∃ v', e = .returned v' ∧ RowK w' w.heap.size v' (putG most l key) ∧ Below w.heap.size w w' := by
  have WO := Lib.hid (rk_without hv (by omega) key)
  obtain ⟨i0, hif, hz0, hz1, hz2⟩ := info_parts infoU64
  have HL := Lib.hid (And.intro (Nat.le_trans (woK_le key l) hl) hm)
  have EP := Lib.hid (show putG most l key = lastG most (woK key l ++ [key]) from rfl)
  have m1 : (most : Int) ≤ 1024 := by omega
  clear hv hl hm
  go_enter Tryz.func130, Tryz.ntmps130
  go_wp2_with fail
  refine WO.out.mono ?_
  rintro e w1 ⟨v1, rfl, h1, b1⟩
  obtain ⟨A1, c1, rfl⟩ := rowS h1
  have B1 := Lib.hid b1
  have O1 := Lib.hid h1
  have OW := Lib.hid (h1.alloc (.cells #[.int .u64 key] 22))
  have BAA := Lib.hid (b1.alloc b1.size (.cells #[.int .u64 key] 22))
  have KLO := Lib.hid (show ∀ g, (Value.slice A1 (woK key l).length c1).ownBlock = some g → w.heap.size ≤ g from fun g e => (h1.lt g e).1)
  generalize hK : woK key l = K at *
  generalize hkl : K.length = kl at *
  have HKL := Lib.hid hkl
  clear h1 b1 WO hkl hK
  go_wp2_with (at_builtin; refine wpList_append_own_at _ rfl _ _ 50 rfl w.heap.size 22 i0 (.int .u64 0) 1 8 Tryz.underlying50 hif hz0 hz1 hz2 rfl (by decide) _ _ _ rfl OW.out ⟨w1.heap.size, 0, none⟩ 1 1 [.int .u64 key] rfl (by rfl) (World.news_of_block (heap_alloc_new _ _)) ?c2 ?c3 ?c4 ?c5 ?_)
  case c2 => intro u hu; simp at hu; subst hu; rfl
  case c3 => have := HL.out; unfold maxLen; omega
  case c4 => have := HL.out; omega
  case c5 => exact BAA.out.size
  rintro v2 w2 hown hgr - hat
  have O2 : RowK w2 w.heap.size v2 (K ++ [key]) := by
    unfold RowK
    rw [List.map_append, List.length_append, HKL.out]
    exact hown
  have B2 := Lib.hid (BAA.out.grown hgr BAA.out.size (fun g e => KLO.out g e))
  have HO2 := Lib.hid O2
  obtain ⟨g, cap, cur, rfl, hbg, hh, hc, hmx, hs', ht⟩ : ∃ g cap cur, v2 = .slice (some ⟨g, 0, none⟩) (K ++ [key]).length cap ∧ w.heap.size ≤ g ∧ w2.heap[g]? = some (.cells cur 22 (0, 0)) ∧ (K ++ [key]).length ≤ cap ∧ cap ≤ maxLen ∧ cur.size = cap * 1 ∧ cur.toList.take ((K ++ [key]).length * 1) = (K ++ [key]).map (Value.int .u64) := by
    rcases O2.2 with ⟨_, h0⟩ | h
    · simp at h0
    · exact h
  have elen : (K ++ [key]).length = kl + 1 := by rw [List.length_append, HKL.out]; rfl
  rw [elen]
  have CELL := Lib.hid (show ∀ W, Below w2.heap.size w2 W → ∀ (j : Nat) (x : Int), (K ++ [key])[j]? = some x → W.cell? ⟨g, j, none⟩ = some (.int .u64 x) from fun W hb j x hx => by
    obtain ⟨A, c, e1, hcc⟩ := O2.rd
    simp at e1
    obtain ⟨g', e2, h⟩ := hcc (by rw [elen]; omega)
    rw [← e1.1] at e2
    simp at e2
    subst e2
    exact (Keeps.of_below hb).old (h j x hx))
  rw [elen] at hc
  have HC := Lib.hid hc
  have kb : (kl : Int) ≤ 1024 := by have := HL.out; omega
  by_cases hb : most < kl + 1
  · have d1 : decide (most < kl + 1) = true := decide_eq_true hb
    have d2 : decide ((most : Int) < (kl : Int) + 1) = true := decide_eq_true (by omega)
    have EL := Lib.hid (show lastG most (K ++ [key]) = (K ++ [key]).drop 1 by
      unfold lastG
      rw [elen, show kl + 1 - most = 1 by have := HL.out; omega])
    have HE := Lib.hid elen
    have OE := Lib.hid (World.ownsRow_lit (base := w.heap.size) (e := 22) (size := 1) w2 #[] 0 B2.out.size (Nat.zero_le _) rfl)
    have BE := Lib.hid ((Below.refl w2.heap.size w2).alloc (Nat.le_refl _) (.cells #[] 22))
    have NEWS := Lib.hid (show ∀ j u, (((K ++ [key]).drop 1).map (Value.int .u64))[j]? = some u → (w2.alloc (.cells #[] 22)).cell? ⟨g, 1 + j, none⟩ = some u from fun j u hu => by
      rw [List.getElem?_map, List.getElem?_drop] at hu
      cases hx : (K ++ [key])[1 + j]? with
      | none => rw [hx] at hu; cases hu
      | some x => rw [hx] at hu; simp at hu; rw [← hu]; exact CELL.out _ BE.out _ _ hx)
    have NLEN := Lib.hid (show (((K ++ [key]).drop 1).map (Value.int .u64)).length = kl * 1 by rw [List.length_map, List.length_drop, elen]; omega)
    have FIN := Lib.hid (fun (v' : Value) (w3 : World) (h : w3.ownsRow w.heap.size 22 1 v' (0 + kl) ([] ++ ((K ++ [key]).drop 1).map (Value.int .u64))) (hg : (w2.alloc (.cells #[] 22)).grownBy w3 (some w2.heap.size)) => (by
      have hb2 : Below w.heap.size w (w2.alloc (.cells #[] 22)) := B2.out.alloc B2.out.size _
      refine ⟨?_, hb2.grown hg hb2.size (fun k e => by simp at e; rw [← e]; exact B2.out.size)⟩
      rw [EP.out, EL.out]
      unfold RowK
      have e1 : ((K ++ [key]).drop 1).length = kl := by rw [List.length_drop, HE.out]; omega
      rw [e1]
      simpa using h : RowK w3 w.heap.size v' (putG most l key) ∧ Below w.heap.size w w3))
    by_cases hc1 : cap = 1
    · have k0 : kl = 0 := by omega
      subst hc1
      subst k0
      have d3 : decide ((most : Int) < 1) = true := decide_eq_true (by omega)
      have n0 : (K ++ [key]).drop 1 = [] := List.eq_nil_of_length_eq_zero (by rw [List.length_drop, HE.out])
      clear hown hgr hat O2 hh hmx hs' ht hb hc elen
      go_wp2_with (at_builtin; refine wpList_append_own _ rfl _ _ 50 rfl w.heap.size 22 i0 (.int .u64 0) 1 8 Tryz.underlying50 hif hz0 hz1 hz2 rfl (by decide) _ _ _ rfl OE.out ⟨g, 0, none⟩ 0 0 [] rfl rfl (fun j u hu => by simp at hu) (fun u hu => by simp at hu) ?c3 ?c4 ?c5 ?_)
      case c5 => have := B2.out.size; omega
      rintro v' w3 hown' hgr' -
      have F := Lib.hid (FIN.out v' w3 (by rw [n0]; exact hown') hgr')
      clear hown' hgr'
      go_wp2
      go_ret
      exact ⟨_, rfl, F.out⟩
    · have c2 : 1 < cap := by omega
      have hcm : (cap : Int) ≤ 9223372036854775807 := by unfold maxLen at hmx; omega
      have KMX := Lib.hid (show 0 + kl ≤ maxLen by have := HL.out; unfold maxLen; omega)
      clear hown hgr hat O2 hh hmx hs' ht hb hc1 elen
      generalize hD : (K ++ [key]).drop 1 = D at *
      go_wp2_with (at_builtin; refine wpList_append_own _ rfl _ _ 50 rfl w.heap.size 22 i0 (.int .u64 0) 1 8 Tryz.underlying50 hif hz0 hz1 hz2 rfl (by decide) _ _ _ rfl OE.out ⟨g, 1, none⟩ kl (cap - 1) (D.map (Value.int .u64)) rfl NLEN.out (fun j u hu => by rw [addr_addG]; exact NEWS.out j u hu) ?e2 ?e3 ?e4 ?e5 ?_)
      case e2 => intro u hu; rfl
      case e3 => have := HL.out; unfold maxLen; omega
      case e4 => have := HL.out; omega
      case e5 => have := B2.out.size; omega
      rintro v' w3 hown' hgr' -
      have F := Lib.hid (FIN.out v' w3 (by rw [Nat.zero_add]; exact hown') hgr')
      clear hown' hgr'
      go_wp2
      go_ret
      exact ⟨_, rfl, F.out⟩
  · have d1 : decide (most < kl + 1) = false := decide_eq_false hb
    have d2 : decide ((most : Int) < (kl : Int) + 1) = false := decide_eq_false (by omega)
    have EL := Lib.hid (show putG most l key = K ++ [key] by
      rw [EP.out]
      exact lastG_same (by rw [elen]; omega))
    have O3 := HO2.out
    unfold RowK at O3
    rw [elen] at O3
    have HO3 := Lib.hid O3
    have HE := Lib.hid elen
    clear hown hgr hat O2 hh hc hmx hs' ht hb elen O3
    go_wp2
    go_ret
    refine ⟨_, rfl, ?_, B2.out⟩
    rw [EL.out]
    unfold RowK
    rw [HE.out]
    exact HO3.out
end

end Go.Proofs.YtdbgehplmllgdaaGreat
