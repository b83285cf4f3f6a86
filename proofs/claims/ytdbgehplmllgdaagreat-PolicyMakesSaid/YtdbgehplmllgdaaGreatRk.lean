/- The document's rows of keys (layer 23): Has, Without, Put, Same. -/
import Derived.Test.YtdbgehplmllgdaaGreatGa
namespace Go.Proofs.YtdbgehplmllgdaaGreat
open Go.RowKit Go.Maps
set_option linter.unusedVariables false

/-- The slice v reads as a row of keys. -/
def RdK (w : World) (v : Value) (l : List Int) : Prop :=
  ∃ A c, v = .slice A l.length c ∧ (0 < l.length → ∃ g, A = some ⟨g, 0, none⟩ ∧ ∀ (i : Nat) (x : Int), l[i]? = some x → w.cell? ⟨g, i, none⟩ = some (.int .u64 x))

theorem RowK.rd {w : World} {base : Nat} {v : Value} {l : List Int} (h : RowK w base v l) : RdK w v l := by
  rcases h.2 with ⟨h1, h2⟩ | ⟨g, cap, cur, e1, hB, hbk, h1, h2, h3, h4⟩
  · exact ⟨none, 0, by rw [h1, h2], fun x => by omega⟩
  · refine ⟨_, cap, e1, fun _ => ⟨g, rfl, fun j x hx => ?_⟩⟩
    have hj : j < l.length := (List.getElem?_eq_some_iff.1 hx).1
    rw [blk_cell' hbk]
    have := congrArg (fun l => l[j]?) h4
    simp only [List.getElem?_take_of_lt (show j < l.length * 1 by omega), Array.getElem?_toList, List.getElem?_map, hx, Option.map_some] at this
    exact this
theorem RdK.old {w w' : World} {v : Value} {l : List Int} (h : RdK w v l) (k : Below w.heap.size w w') : RdK w' v l := by
  obtain ⟨A, c, hv, hc⟩ := h
  refine ⟨A, c, hv, fun h0 => ?_⟩
  obtain ⟨g, hA, hcc⟩ := hc h0
  exact ⟨g, hA, fun i x hx => (Keeps.of_below k).old (hcc i x hx)⟩
theorem RdK.drewN {w : World} {v : Value} {l : List Int} (h : RdK w v l) (n : Nat) : RdK (w.drewN n) v l := h

section
variable {w : World} {v u : Value} {l m : List Int}

set_option maxHeartbeats 1000000 in
theorem rk_has (hv : RdK w v l) (hl : l.length ≤ 1000000) (key : Int) :
    Calls Tryz.prog 26 #[v, .int .u64 key] w fun e w' => e = .returned (.bool (decide (key ∈ l))) ∧ w = w' := by
  obtain ⟨A, c, rfl, hA⟩ := hv
  have HA := Lib.hid hA
  obtain ⟨L, hL⟩ : ∃ L, l.length = L := ⟨_, rfl⟩
  rw [hL]
  have HL := Lib.hid hL
  have l1 : (L : Int) ≤ 1000000 := by omega
  have YES := Lib.hid (fun (h : key ∈ l) => decide_eq_true h)
  have NO := Lib.hid (fun (h : key ∉ l) => decide_eq_false h)
  generalize hd : decide (key ∈ l) = d at *
  clear hA hL hl hd
  go_enter Tryz.func26, Tryz.ntmps26
  go_wp2
  go_loopw [5] (fun i wr => ∃ k : Nat, k ≤ L ∧ i = .int .i64 (k : Int) ∧ (key ∉ l.take k) ∧ wr = w) (fun i _ => L - (intOf i).toNat)
  case atStart => exact ⟨0, Nat.zero_le _, rfl, by simp, rfl⟩
  case round =>
    obtain ⟨k, hk, rfl, he, rfl⟩ := hrel
    have HE := Lib.hid he
    by_cases hc : (k : Int) < (L : Int)
    · have hk2 : k < l.length := by have := HL.out; omega
      obtain ⟨g, rfl, cA⟩ := HA.out (by omega)
      have hx := List.getElem?_eq_getElem hk2
      have a1 := cA k _ hx
      have HT := Lib.hid (List.take_succ_eq_append_getElem hk2)
      have HM := Lib.hid (List.getElem_mem hk2)
      have HK := Lib.hid (show k + 1 ≤ L by omega)
      generalize l[k] = x at *
      clear he cA hx hk2 hk
      by_cases hm : x = key
      · subst hm
        have HD := Lib.hid (YES.out HM.out)
        go_wp2
        go_ret
        refine ⟨?_, rfl⟩
        rw [HD.out]; rfl
      · have n1 : (x == key) = false := beq_eq_false_iff_ne.2 hm
        have n2 : decide (x = key) = false := decide_eq_false hm
        have HNE := Lib.hid hm
        clear hm
        go_wp2
        go_roundw
        case rel =>
          refine ⟨k + 1, HK.out, by simp, ?_, (by first | rfl | trivial)⟩
          rw [HT.out, List.mem_append, List.mem_singleton]
          exact fun h => h.elim HE.out (fun e => HNE.out e.symm)
        case measure => have := HK.out; simp only [intOf]; omega
    · have e1 : decide (k < L) = false := decide_eq_false (by omega)
      have HD := Lib.hid (NO.out (by have := HL.out; rwa [show k = l.length by omega, List.take_length] at he))
      clear he hk hc
      go_wp2
      go_ret
      refine ⟨?_, rfl⟩
      rw [HD.out]; rfl

theorem woK_take {l : List Int} {k : Nat} {x : Int} (key : Int) (hx : l[k]? = some x) : woK key (l.take (k + 1)) = if x = key then woK key (l.take k) else woK key (l.take k) ++ [x] := by
  obtain ⟨hk, e⟩ := List.getElem?_eq_some_iff.1 hx
  unfold woK
  rw [List.take_succ_eq_append_getElem hk, e, List.filter_append]
  by_cases h : x = key
  · rw [if_pos h]; simp [h]
  · rw [if_neg h]; simp [h]

set_option maxRecDepth 100000 in
set_option maxHeartbeats 2000000 in
theorem rk_without (hv : RdK w v l) (hl : l.length ≤ 1000000) (key : Int) :
    Calls Tryz.prog 129 #[v, .int .u64 key] w fun e w' => ∃ v', e = .returned v' ∧ RowK w' w.heap.size v' (woK key l) ∧ Below w.heap.size w w' := by
  obtain ⟨A, c, rfl, hA⟩ := hv
  have HA := Lib.hid hA
  obtain ⟨i0, hif, hz0, hz1, hz2⟩ := info_parts infoU64
  obtain ⟨L, hL⟩ : ∃ L, l.length = L := ⟨_, rfl⟩
  rw [hL]
  have HL := Lib.hid hL
  have HLB := Lib.hid hl
  have l1 : (L : Int) ≤ 1000000 := by omega
  have O0 := Lib.hid (show RowK w w.heap.size (.slice none 0 0) (woK key (l.take 0)) from World.ownsRow_nil w w.heap.size 22 1)
  clear hA hL hl
  go_enter Tryz.func129, Tryz.ntmps129
  go_wp2
  go_loopw [5, 6] (fun u i wr => ∃ k : Nat, k ≤ L ∧ i = .int .i64 (k : Int) ∧ RowK wr w.heap.size u (woK key (l.take k)) ∧ Below w.heap.size w wr) (fun _ i _ => L - (intOf i).toNat)
  case atStart => exact ⟨0, Nat.zero_le _, rfl, O0.out, Below.refl _ _⟩
  case round =>
    obtain ⟨k, hk, rfl, ho, bw⟩ := hrel
    obtain ⟨Ao, co, rfl⟩ := rowS ho
    have HB := Lib.hid bw
    have HO := Lib.hid ho
    by_cases hc : (k : Int) < (L : Int)
    · have hk2 : k < l.length := by have := HL.out; omega
      obtain ⟨g, rfl, cA⟩ := HA.out (by omega)
      have hx := List.getElem?_eq_getElem hk2
      have a1 := (Keeps.of_below bw).old (cA k _ hx)
      have WT := Lib.hid (woK_take key hx)
      have HK := Lib.hid (show k + 1 ≤ L by omega)
      have KL := Lib.hid (show (woK key (l.take k)).length ≤ 1000000 from Nat.le_trans (woK_le _ _) (by rw [List.length_take]; have := HLB.out; omega))
      generalize l[k] = x at *
      clear cA hx hk2 hk ho bw
      by_cases hm : x = key
      · have WT := Lib.hid (WT.out.trans (if_pos hm))
        subst hm
        go_wp2
        go_roundw
        case rel => exact ⟨k + 1, HK.out, by simp, by rw [WT.out]; exact HO.out, HB.out⟩
        case measure => have := HK.out; simp only [intOf]; omega
      · have WT := Lib.hid (WT.out.trans (if_neg hm))
        have n1 : (x == key) = false := beq_eq_false_iff_ne.2 hm
        have n2 : (x != key) = true := by rw [bne_iff_ne]; exact hm
        have n3 : decide (x = key) = false := decide_eq_false hm
        have OW := Lib.hid (show (wr.alloc (.cells #[.int .u64 x] 22)).ownsRow _ _ _ _ _ _ from HO.out.alloc (.cells #[.int .u64 x] 22))
        have BAA := Lib.hid (HB.out.alloc HB.out.size (.cells #[.int .u64 x] 22))
        have KLO := Lib.hid (show ∀ g, (Value.slice Ao (woK key (l.take k)).length co).ownBlock = some g → w.heap.size ≤ g from fun g e => (HO.out.lt g e).1)
        generalize hkl : (woK key (l.take k)).length = kl at *
        have HKL := Lib.hid hkl
        clear hkl hm
        go_wp2_with (at_builtin; refine wpList_append_own_at _ rfl _ _ 50 rfl w.heap.size 22 i0 (.int .u64 0) 1 8 Tryz.underlying50 hif hz0 hz1 hz2 rfl (by decide) _ _ _ rfl OW.out ⟨wr.heap.size, 0, none⟩ 1 1 [.int .u64 x] rfl (by rfl) (World.news_of_block (heap_alloc_new _ _)) ?c2 ?c3 ?c4 ?c5 ?_)
        case c2 => intro u hu; simp at hu; subst hu; rfl
        case c3 => have := KL.out; unfold maxLen; omega
        case c4 => have := KL.out; omega
        case c5 => exact BAA.out.size
        rintro v' w3 hown' hgr - hat
        have O3 := Lib.hid (show RowK w3 w.heap.size v' (woK key (l.take (k + 1))) by
          unfold RowK
          rw [WT.out, List.map_append, List.length_append, HKL.out]
          exact hown')
        have B3 := Lib.hid (BAA.out.grown hgr BAA.out.size (fun g e => KLO.out g e))
        clear hown' hgr hat
        go_wp2
        go_roundw
        case rel => exact ⟨k + 1, HK.out, by simp, O3.out, B3.out⟩
        case measure => have := HK.out; simp only [intOf]; omega
    · have e1 : decide (k < L) = false := decide_eq_false (by omega)
      have HE := Lib.hid (show woK key (l.take k) = woK key l by
        have := HL.out
        rw [show k = l.length by omega, List.take_length])
      rw [HE.out] at HO ⊢
      clear ho bw hk hc
      go_wp2
      go_ret
      exact ⟨_, rfl, HO.out, HB.out⟩

set_option maxRecDepth 100000 in
set_option maxHeartbeats 2000000 in
theorem rk_same (hv : RdK w v l) (hu : RdK w u m) (hl : l.length ≤ 1000000) (hm : m.length ≤ 1000000) :
    Calls Tryz.prog 80 #[v, u] w fun e w' => e = .returned (.bool (decide (l = m))) ∧ ∃ k, w' = w.drewN k := by
  obtain ⟨A, c, rfl, hA⟩ := hv
  obtain ⟨B, d, rfl, hB⟩ := hu
  have HA := Lib.hid hA
  have HB := Lib.hid hB
  have YES := Lib.hid (fun (h : l = m) => decide_eq_true h)
  have NO := Lib.hid (fun (h : l ≠ m) => decide_eq_false h)
  generalize hd : decide (l = m) = dd at *
  clear hd hA hB
  by_cases hlen : l.length = m.length
  · obtain ⟨L, hL⟩ : ∃ L, l.length = L := ⟨_, rfl⟩
    have hM : m.length = L := by omega
    rw [hL, hM]
    have HL := Lib.hid (And.intro hL hM)
    have l1 : (L : Int) ≤ 1000000 := by omega
    clear hL hM hl hm hlen
    go_enter Tryz.func80, Tryz.ntmps80
    go_wp2
    go_loopw [5] (fun i wr => ∃ k j : Nat, k ≤ L ∧ i = .int .i64 (k : Int) ∧ l.take k = m.take k ∧ wr = w.drewN j) (fun i _ => L - (intOf i).toNat)
    case atStart => exact ⟨0, 0, Nat.zero_le _, rfl, rfl, rfl⟩
    case round =>
      obtain ⟨k, j, hk, rfl, he, hwr⟩ := hrel
      have HE := Lib.hid he
      have HW := Lib.hid hwr
      by_cases hc : (k : Int) < (L : Int)
      · have hk1 : k < l.length := by have := HL.out; omega
        have hk2 : k < m.length := by have := HL.out; omega
        obtain ⟨g, rfl, cA⟩ := HA.out (by omega)
        obtain ⟨g2, rfl, cB⟩ := HB.out (by omega)
        have hx := List.getElem?_eq_getElem hk1
        have hy := List.getElem?_eq_getElem hk2
        have a1 : wr.cell? ⟨g, k, none⟩ = some (.int .u64 l[k]) := by rw [hwr]; exact cA k _ hx
        have a2 : wr.cell? ⟨g2, k, none⟩ = some (.int .u64 m[k]) := by rw [hwr]; exact cB k _ hy
        have T1 := Lib.hid (List.take_succ_eq_append_getElem hk1)
        have T2 := Lib.hid (List.take_succ_eq_append_getElem hk2)
        have HK := Lib.hid (show k + 1 ≤ L by omega)
        have ND := Lib.hid (fun (h : l[k] ≠ m[k]) => NO.out (fun e => h (by
          have : l[k]? = m[k]? := by rw [e]
          rw [hx, hy] at this
          simpa using this)))
        generalize l[k] = x at *
        generalize m[k] = y at *
        clear he hwr cA cB hx hy hk1 hk2 hk
        by_cases hxy : x = y
        · subst hxy
          go_wp2_with fail
          go_quiet (fail)
          go_wp2
          go_roundw
          case rel => exact ⟨k + 1, j + nq, HK.out, by simp, by rw [T1.out, T2.out, HE.out], by rw [HW.out, World.drewN_drewN]⟩
          case measure => have := HK.out; simp only [intOf]; omega
        · have n3 : (x == y) = false := beq_eq_false_iff_ne.2 hxy
          have n4 : (x != y) = true := by rw [bne_iff_ne]; exact hxy
          have HD := Lib.hid (ND.out hxy)
          clear hxy
          go_wp2_with fail
          go_quiet (fail)
          go_wp2
          go_ret
          refine ⟨?_, j + nq, by rw [HW.out, World.drewN_drewN]⟩
          rw [HD.out]; rfl
      · have e1 : decide (k < L) = false := decide_eq_false (by omega)
        have HD := Lib.hid (YES.out (by
          have := HL.out
          have h1 : l.take k = l := by rw [show k = l.length by omega, List.take_length]
          have h2 : m.take k = m := by rw [show k = m.length by omega, List.take_length]
          rw [h1, h2] at he; exact he))
        clear he hwr hk hc
        go_wp2
        go_ret
        refine ⟨?_, j, HW.out⟩
        rw [HD.out]; rfl
  · have HD := Lib.hid (NO.out (fun e => hlen (by rw [e])))
    have h2 : ((l.length : Int) == (m.length : Int)) = false := beq_eq_false_iff_ne.2 (by omega)
    have h3 : ((l.length : Int) != (m.length : Int)) = true := by rw [bne_iff_ne]; omega
    have h4 : (l.length == m.length) = false := beq_eq_false_iff_ne.2 hlen
    clear hlen
    go_enter Tryz.func80, Tryz.ntmps80
    go_wp2
    go_ret
    refine ⟨?_, 0, rfl⟩
    rw [HD.out]; rfl
end

end Go.Proofs.YtdbgehplmllgdaaGreat
