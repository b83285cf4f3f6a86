/- The program's history: Put, Take, Clear, All. -/
import Derived.Test.YtdbgehplmllgdaaGreatGt
namespace Go.Proofs.YtdbgehplmllgdaaGreat
open Go.RowKit Go.Maps Go.WideMaps Go.WideElems
set_option linter.unusedVariables false

section
variable {w w' : World} {b m n now most N : Nat} {M : Int → Option Nat} {P : List (Int × Nat)} {v : Value} {G : List Int} {S : Nat → Prop}

theorem lastG_le (most : Nat) (G : List Int) : (lastG most G).length ≤ most := by
  unfold lastG; rw [List.length_drop]; omega
theorem lastG_same {most : Nat} {G : List Int} (h : G.length ≤ most) : lastG most G = G := by
  unfold lastG; rw [show G.length - most = 0 by omega]; rfl

theorem ghF_now (m : Nat) (v : Value) (now k most : Nat) : ∀ i, i < 4 → (if i = 2 then Value.int .i64 (k : Int) else ghF m v now most i) = ghF m v k most i := fun i hi => by
  have : i = 0 ∨ i = 1 ∨ i = 2 ∨ i = 3 := by omega
  rcases this with rfl | rfl | rfl | rfl <;> rfl

/-- The map behind a store. -/
theorem wM_put (M : Int → Option Nat) (k : Int) (n : Nat) : ∀ x, (if x = k then some (Value.int .i64 (n : Int)) else wM M x) = wM (putM M k n) x := fun x => by
  unfold wM putM
  by_cases e : x = k
  · rw [if_pos e, if_pos e]; rfl
  · rw [if_neg e, if_neg e]
theorem wM_del (M : Int → Option Nat) (k : Int) : ∀ x, (if x = k then none else wM M x) = wM (delM M k) x := fun x => by
  unfold wM delM
  by_cases e : x = k
  · rw [if_pos e, if_pos e]; rfl
  · rw [if_neg e, if_neg e]

/-- The history behind the three turns of a put. -/
theorem Gh.put {w1 w4 W7 : World} {key : Int} {A : Option Addr} {c : Nat} (h : Gh w b m v P M now most) (k0 : 0 ≤ key) (k1 : key ≤ 18446744073709551615) (hN : now < 1000000)
    (e1 : w1 = w.setCell ⟨b, 2, none⟩ (.int .i64 ((now + 1 : Nat) : Int))) (kt : Keeps (fun k => k = m) w1 w4) {n' : Nat} (hm : UMap w4 m n' (fun y => if y = key then some (.int .i64 ((now + 1 : Nat) : Int)) else wM M y)) (hn : n' = if (wM M key).isSome then (keysOf P M).length else (keysOf P M).length + 1)
    (hb : Below w4.heap.size w4 W7) {w6 : World} (hq : Que w6 (.slice A (P.length + 1) c) (P ++ [(key, now + 1)])) (k6 : Keeps (fun k => v.ownBlock = some k) W7 w6) (hu : (Value.slice A (P.length + 1) c).ownBlock = v.ownBlock ∨ ∃ g, (Value.slice A (P.length + 1) c).ownBlock = some g ∧ W7.heap.size ≤ g ∧ g < w6.heap.size) :
    Gh (w6.setCell ⟨b, 1, none⟩ (.slice A (P.length + 1) c)) b m (.slice A (P.length + 1) c) (P ++ [(key, now + 1)]) (putM M key (now + 1)) (now + 1) most ∧ keysOf (P ++ [(key, now + 1)]) (putM M key (now + 1)) = woK key (keysOf P M) ++ [key] := by
  obtain ⟨gi, gk⟩ := h.inv.put k0 k1
  have kb : ¬ v.ownBlock = some b := h.que.ne h.top (by decide)
  have km : ¬ v.ownBlock = some m := h.que.ne_map h.map
  have lb : b < w4.heap.size := by
    have := h.top.lt
    have := kt.size
    rw [e1, World.size_setCell] at this
    omega
  have lm := hm.lt
  have top1 : Arr w1 b 146 4 (ghF m v (now + 1) most) := by rw [e1]; exact (h.top.set 2 _).congr (ghF_now m v now (now + 1) most)
  have top7 := ((top1.keep kt h.bm).below hb lb).keep k6 kb
  have hm7 := (hm.keep (Keeps.of_below hb) (Nat.not_le.2 lm)).keep k6 km
  have kk := keep_cellG w6 b 1 (.slice A (P.length + 1) c)
  have ub : (Value.slice A (P.length + 1) c).ownBlock ≠ some b := hq.ne top7 (by decide)
  have hcnt : (keysOf (P ++ [(key, now + 1)]) (putM M key (now + 1))).length = n' := by
    rw [gk, hn, List.length_append, woK_len _ h.inv.nodup]
    have hh := h.inv.has (k := key)
    have e2 : (wM M key).isSome = (M key).isSome := by unfold wM; cases M key <;> rfl
    rw [e2]
    by_cases hk : key ∈ keysOf P M
    · rw [if_pos hk, if_pos (hh.1 hk)]
      have := List.length_pos_of_mem hk
      simp; omega
    · rw [if_neg hk, if_neg (fun x => hk (hh.2 x))]; rfl
  refine ⟨⟨(top7.set 1 _).congr (ghF_set m v _ (now + 1) most), ?_, hq.keep kk (fun g e e2 => ub (e2 ▸ e)), gi, by rw [List.length_append]; have := h.len; simp; omega, by omega, h.mst⟩, gk⟩
  rw [hcnt]
  exact (hm7.keep kk (fun e => h.bm e.symm)).congr (fun x _ => wM_put M key (now + 1) x)

set_option maxRecDepth 100000 in
set_option maxHeartbeats 4000000 in
theorem gh_put (h : GhO b most G N S w) (ho : Own S w) (hN : N < 1000000) (key : Int) (k0 : 0 ≤ key) (k1 : key ≤ 18446744073709551615) :
    Calls Tryz.prog 61 #[.pointer (some ⟨b, 0, none⟩), .int .u64 key] w fun e w' => e = .returned (.bool (decide (key ∈ putG most G key))) ∧ GhO b most (putG most G key) (N + 1) (Ext S w w') w' ∧ Keeps S w w' := by
  obtain ⟨m, v, P, M, now, h, rfl, hNN, hl, sb, sm, sv⟩ := h
  obtain ⟨A, c, rfl, -, -, -⟩ := h.que.open_
  have RR := Lib.hid (gh_real h)
  have c0 := h.c0
  have c1 := h.c1
  have c2 := h.c2
  have f2 := h.top.free 2
  have HH := Lib.hid h
  have HS := Lib.hid (And.intro sb (And.intro sm (And.intro sv ho)))
  have HNN := Lib.hid (And.intro hNN hN)
  have nb : (now : Int) < 1000000 := by omega
  have top1 := h.top.set 2 (.int .i64 ((now : Int) + 1))
  have hm1 := h.map.keep (keep_cellG w b 2 (.int .i64 ((now : Int) + 1))) (fun e => h.bm e.symm)
  have d0 : (w.setCell ⟨b, 2, none⟩ (.int .i64 ((now : Int) + 1))).cell? ⟨b, 0, none⟩ = some (.map (some m)) := top1.cell (i := 0) (by omega)
  have d2 : (w.setCell ⟨b, 2, none⟩ (.int .i64 ((now : Int) + 1))).cell? ⟨b, 2, none⟩ = some (.int .i64 ((now : Int) + 1)) := by
    have := top1.cell (i := 2) (by omega)
    rw [this]; rfl
  have HM1 := Lib.hid (show UMap (w.setCell ⟨b, 2, none⟩ (.int .i64 ((now : Int) + 1))).drew m (keysOf P M).length (wM M) from hm1.drewN 1)
  have HWF := Lib.hid (And.intro (show (Lit.int .u64 key).wf = true from WalkArith.wf_u64 ⟨k0, k1⟩) (show (keysOf P M).length < maxLen by
    have h1 : (keysOf P M).length ≤ P.length := by unfold keysOf; rw [List.length_map]; exact List.length_filter_le _ _
    have := h.len
    unfold maxLen; omega))
  have T1 := Lib.hid top1
  have KK := Lib.hid (And.intro k0 k1)
  clear h sb sm sv ho hNN hN top1 hm1 hl k0 k1
  go_enter Tryz.func61, Tryz.ntmps61
  go_wp2_with fail
  refine RR.out.mono ?_
  rintro e w' ⟨rfl, rfl⟩
  go_wp2_with fail
  generalize hw1 : w.setCell ⟨b, 2, none⟩ (.int .i64 ((now : Int) + 1)) = w1 at *
  have HW1 := Lib.hid hw1
  clear hw1 c0 c2 f2
  go_still_tail 9, (by kernel_rfl)
  change wpList _ _ _ _ _ w1.drew
  go_wp2_with (first
    | (at_mapUpdate; refine wpList_update_v (b := m) (n := (keysOf P M).length) (k := 22) (q := .u64) (R := plainElem Tryz.prog 3) (M := wM M) rfl _ _ _ rfl Tryz.underlying22 Tryz.underlying143 rfl HM1.out HWF.out.2 key (.int .i64 ((now : Int) + 1)) rfl rfl HWF.out.1 (plainElem_int Tryz.underlying3 (WalkArith.wf_i64 (by omega))) ?_; intro w4 hm4 ht4)
    | go_in)
  have kt := keeps_turned ht4
  have kt1 : Keeps (fun j => j = m) w1 w4 := ⟨kt.os, kt.tape, kt.output, kt.size, kt.block⟩
  have top4 := T1.out.keep kt1 HH.out.bm
  have c1 : w4.cell? ⟨b, 1, none⟩ = some (.slice A P.length c) := top4.cell (i := 1) (by omega)
  have c2 : w4.cell? ⟨b, 2, none⟩ = some (.int .i64 ((now : Int) + 1)) := by
    have := top4.cell (i := 2) (by omega)
    rw [this]; rfl
  have KW1 := Lib.hid (show Keeps S w w1 from by rw [← HW1.out]; exact (Keeps.refl S w).setCell (p := ⟨b, 2, none⟩) (.inl HS.out.1) _)
  have KW4 := Lib.hid (show Keeps S w w4 from KW1.out.trans (T := S) (kt1.mono (fun n _ e => by rw [e]; exact HS.out.2.1)) (fun n hn => .inl hn))
  have z14 : w.heap.size = w1.heap.size := by rw [← HW1.out, World.size_setCell]
  have z4 : w1.heap.size ≤ w4.heap.size := kt1.size
  have q1 : Que w1 (.slice A P.length c) P := by
    rw [← HW1.out]
    exact HH.out.que.keep (keep_cellG w b 2 _) (fun g e e2 => HH.out.que.ne HH.out.top (by decide) (e2 ▸ e))
  have q4 : Que w4 (.slice A P.length c) P := q1.keep kt1 (fun g e e2 => HH.out.que.ne_map HH.out.map (e2 ▸ e))
  have B7 := Lib.hid (((Below.refl w4.heap.size w4).alloc (Nat.le_refl _) (.cells #[.int .u64 key, .int .i64 ((now : Int) + 1)] 154)).drew)
  have Q7 := Lib.hid (q4.old B7.out)
  have top7 := Lib.hid (top4.below B7.out top4.lt)
  have NE := Lib.hid (show (Value.slice A P.length c).ownBlock ≠ some w4.heap.size from fun e => by have := q4.lt _ e; omega)
  have LEN := Lib.hid (show P.length ≤ 1000000 by have := HH.out.len; have := HH.out.big; omega)
  have HM4 := Lib.hid hm4
  have KT1 := Lib.hid kt1
  have kbv := Lib.hid (show ¬ (Value.slice A P.length c).ownBlock = some b from HH.out.que.ne HH.out.top (by decide))
  have BX := Lib.hid (show ((w4.alloc (.cells #[.int .u64 key, .int .i64 ((now : Int) + 1)] 154)).drew).heap[w4.heap.size]? = some (.cells #[.int .u64 (key, now + 1).1, .int .i64 (((key, now + 1).2 : Nat) : Int)] 154 (0, 0)) from heap_at w4 _ _ rfl)
  have c1a : (w4.alloc (.cells #[.int .u64 key, .int .i64 ((now : Int) + 1)] 154)).cell? ⟨b, 1, none⟩ = some (.slice A P.length c) := (Keeps.of_below ((Below.refl w4.heap.size w4).alloc (Nat.le_refl _) _)).old c1
  have c2a : (w4.alloc (.cells #[.int .u64 key, .int .i64 ((now : Int) + 1)] 154)).cell? ⟨b, 2, none⟩ = some (.int .i64 ((now : Int) + 1)) := (Keeps.of_below ((Below.refl w4.heap.size w4).alloc (Nat.le_refl _) _)).old c2
  clear hm4 ht4 kt kt1 top4 q1 q4 z14 z4 d0 d2
  (try go_frame)
  go_wp2_with fail
  go_region_law
    ((refine step_que (by rfl) _ _ (by rfl) (.slice A P.length c) P (by rfl) Q7.out (key, now + 1) w4.heap.size (by rfl) BX.out NE.out LEN.out ?_; intro A6 c6 w6 hq6 k6 hu6; have x6 : w6.cell? ⟨b, 1, none⟩ = some (.slice A P.length c) := (top7.out.keep k6 kbv.out).cell (i := 1) (by omega); have z6 : w6.frozen? ⟨b, 1, none⟩ = false := (top7.out.keep k6 kbv.out).free 1; have HQ6 := Lib.hid hq6; have HK6 := Lib.hid k6; have HU6 := Lib.hid hu6; clear hq6 k6 hu6))
  all_goals
    have GP := HH.out.put (A := A6) (c := c6) KK.out.1 KK.out.2 (by have := HNN.out; omega) (w1 := w1) (by rw [← HW1.out]; rfl) KT1.out HM4.out rfl B7.out HQ6.out HK6.out HU6.out
    have K6S := HK6.out.mono (T := S) (fun n _ e => HS.out.2.2.1 n e)
    have kS7 : Keeps S w (w6.setCell ⟨b, 1, none⟩ (.slice A6 (P.length + 1) c6)) :=
      ((KW4.out.trans (Keeps.of_below B7.out) (fun n hn => .inr (Nat.le_trans KW4.out.size hn))).trans (T := S) K6S (fun n hn => .inl hn)).setCell (p := ⟨b, 1, none⟩) (.inl HS.out.1) _
    have SV : ∀ g, (Value.slice A6 (P.length + 1) c6).ownBlock = some g → Ext S w (w6.setCell ⟨b, 1, none⟩ (.slice A6 (P.length + 1) c6)) g := fun g e => by
      rcases HU6.out with h1 | ⟨g', h1, h2, h3⟩
      · exact .inl (HS.out.2.2.1 g (by rw [← h1]; exact e))
      · rw [h1] at e
        simp at e
        subst e
        refine .inr ⟨Nat.le_trans (Nat.le_trans KW4.out.size B7.out.size) h2, by rw [World.size_setCell]; exact h3⟩
    have SE := Lib.hid (gh_settle (S := Ext S w (w6.setCell ⟨b, 1, none⟩ (.slice A6 (P.length + 1) c6))) GP.1 (HS.out.2.2.2.ext kS7.size) (.inl HS.out.1) (.inl HS.out.2.1) SV)
    have HGP := Lib.hid GP.2
    have HK7 := Lib.hid kS7
    clear GP K6S kS7 SV x6 z6
    generalize w6.setCell ⟨b, 1, none⟩ (.slice A6 (P.length + 1) c6) = w7 at *
    go_wp2_with fail
    refine SE.out.mono ?_
    rintro e w8 ⟨rfl, v8, P8, M8, h8, e8, s8, k8⟩
    have HA := gh_has1 h8 key KK.out.1 KK.out.2
    have EG : keysOf P8 M8 = putG most (keysOf P M) key := by rw [e8, HGP.out]; rfl
    rw [EG] at HA
    replace HA := Lib.hid HA
    have FIN := Lib.hid (show GhO b most (putG most (keysOf P M) key) (N + 1) (Ext S w w8) w8 ∧ Keeps S w w8 from
      ⟨⟨m, v8, P8, M8, now + 1, h8, EG, by have := HNN.out; omega, lastG_le _ _, .inl HS.out.1, .inl HS.out.2.1, fun g e => (s8 g e).elim .inl (fun x => .inr ⟨x.1, Nat.lt_of_lt_of_le x.2 k8.size⟩)⟩, HK7.out.extT k8⟩)
    clear h8 e8 s8 k8 SE EG
    go_wp2_with fail
    refine HA.out.mono ?_
    rintro e w' ⟨rfl, rfl⟩
    go_wp2
    go_ret
    exact ⟨rfl, FIN.out.1, FIN.out.2⟩

set_option maxRecDepth 100000 in
set_option maxHeartbeats 2000000 in
theorem gh_take (h : GhO b most G N S w) (ho : Own S w) (key : Int) (k0 : 0 ≤ key) (k1 : key ≤ 18446744073709551615) :
    Calls Tryz.prog 59 #[.pointer (some ⟨b, 0, none⟩), .int .u64 key] w fun e w' => e = .returned (.bool (decide (key ∈ G))) ∧ GhO b most (woK key G) N (Ext S w w') w' ∧ Keeps S w w' := by
  obtain ⟨m, v, P, M, now, h, rfl, hNN, hl, sb, sm, sv⟩ := h
  have HA := gh_has1 h key k0 k1
  by_cases hin : key ∈ keysOf P M
  · rw [decide_eq_true hin] at HA ⊢
    replace HA := Lib.hid HA
    have c0 := h.c0
    have HH := Lib.hid h
    have HM := Lib.hid h.map
    have HS := Lib.hid (And.intro sb (And.intro sm (And.intro sv ho)))
    have HNN := Lib.hid (And.intro hNN hl)
    have HWF := Lib.hid (show (Lit.int .u64 key).wf = true from WalkArith.wf_u64 ⟨k0, k1⟩)
    have HIN := Lib.hid hin
    clear h sb sm sv ho hNN hl hin k0 k1
    go_enter Tryz.func59, Tryz.ntmps59
    go_wp2_with fail
    refine HA.out.mono ?_
    rintro e w' ⟨rfl, rfl⟩
    go_wp2_with (first
      | (at_delete; refine wpList_delete_v (b := m) (n := (keysOf P M).length) (k := 22) (q := .u64) (R := plainElem Tryz.prog 3) (M := wM M) rfl _ _ rfl Tryz.underlying22 Tryz.underlying143 rfl HM.out key rfl HWF.out ?_; intro w4 hm4 ht4))
    (try go_frame)
    have kt := keeps_turned ht4
    obtain ⟨gi, gk⟩ := HH.out.inv.take key
    have h4 : Gh w4 b m v P (delM M key) now most := by
      have e1 : (wM M key).isSome = true := by
        have := HH.out.inv.has.1 HIN.out
        unfold wM
        obtain ⟨x, hx⟩ := Option.isSome_iff_exists.1 this
        rw [hx]; rfl
      refine { HH.out with top := HH.out.top.keep kt HH.out.bm, map := ?_, que := HH.out.que.keep kt (fun g e e2 => HH.out.que.ne_map HH.out.map (e2 ▸ e)), inv := gi }
      rw [e1, if_pos rfl] at hm4
      rw [gk, woK_len _ HH.out.inv.nodup, if_pos HIN.out]
      exact hm4.congr (fun x _ => wM_del M key x)
    have KS : Keeps S w w4 := kt.mono (fun n _ e => by rw [e]; exact HS.out.2.1)
    have SE := Lib.hid (gh_settle (S := Ext S w w4) h4 (HS.out.2.2.2.ext kt.size) (.inl HS.out.1) (.inl HS.out.2.1) (fun g e => .inl (HS.out.2.2.1 g e)))
    have HGK := Lib.hid gk
    have HKS := Lib.hid KS
    clear h4 kt hm4 ht4 gi gk KS HA c0
    go_wp2_with fail
    refine SE.out.mono ?_
    rintro e w8 ⟨rfl, v8, P8, M8, h8, e8, s8, k8⟩
    have EG : keysOf P8 M8 = woK key (keysOf P M) := by
      rw [e8, HGK.out, lastG_same (Nat.le_trans (woK_le _ _) HNN.out.2)]
    have FIN := Lib.hid (show GhO b most (woK key (keysOf P M)) N (Ext S w w8) w8 ∧ Keeps S w w8 from
      ⟨⟨m, v8, P8, M8, now, h8, EG, HNN.out.1, Nat.le_trans (woK_le _ _) HNN.out.2, .inl HS.out.1, .inl HS.out.2.1, fun g e => (s8 g e).elim .inl (fun x => .inr ⟨x.1, Nat.lt_of_lt_of_le x.2 k8.size⟩)⟩, HKS.out.extT k8⟩)
    clear h8 e8 s8 k8 SE EG
    go_wp2
    go_ret
    exact ⟨rfl, FIN.out.1, FIN.out.2⟩
  · rw [decide_eq_false hin] at HA ⊢
    replace HA := Lib.hid HA
    have EW : woK key (keysOf P M) = keysOf P M := by
      unfold woK
      rw [List.filter_eq_self]
      intro x hx
      have : ¬ x = key := fun e => hin (e ▸ hx)
      simp [this]
    have FIN := Lib.hid (show GhO b most (woK key (keysOf P M)) N (Ext S w w) w from by
      rw [EW]
      exact ⟨m, v, P, M, now, h, rfl, hNN, hl, .inl sb, .inl sm, fun g e => .inl (sv g e)⟩)
    clear h sb sm sv ho hNN hl hin k0 k1 EW
    go_enter Tryz.func59, Tryz.ntmps59
    go_wp2_with fail
    refine HA.out.mono ?_
    rintro e w' ⟨rfl, rfl⟩
    go_wp2
    go_ret
    exact ⟨rfl, FIN.out, Keeps.refl _ _⟩
end

end Go.Proofs.YtdbgehplmllgdaaGreat
