/- The program's history: settle. -/
import Derived.Test.YtdbgehplmllgdaaGreatGd
import Derived.Test.YtdbgehplmllgdaaGreatLt
import Derived.Deep.RegionHeldLaw
import Derived.Deep.LoopGhost
import Derived.StillTailTactics
namespace Go.Proofs.YtdbgehplmllgdaaGreat
open Go.RowKit Go.Maps Go.WideMaps Go.WideElems
set_option linter.unusedVariables false

/-- 'len' of a map, as a step of a quiet region. -/
theorem quiet_lenU {w : World} {o : Oper} {a : Act} {K : Act → Prop} {m n : Nat} {M : Int → Option Value} (s : Operand)
    (ho : o.op = .call { callee := .builtin .len, args := #[s], argTypes := #[143] }) (hs : a.eval s = .map (some m)) (hm : ∀ p : Later w, UMap p.W m n M)
    (h : K (a.put o.dst (.int .i64 (n : Int)))) : o.quiet Tryz.prog a (fun w' => ∃ p : Later w, w' = p.W) K := by
  refine ⟨.int .i64 (n : Int), ?_, h⟩
  rintro _ ⟨p, rfl⟩
  have hrun := (hm p).len Tryz.underlying143 o.type
  unfold Oper.quietAt
  simp [execOp, ho, resolve, invoke, builtin, hs, hrun, Result.andThen]
  exact ⟨rfl, rfl⟩

theorem keep_cellG (w : World) (p i : Nat) (v : Value) : Keeps (fun k => k = p) w (w.setCell ⟨p, i, none⟩ v) := (Keeps.refl (fun k => k = p) w).setCell (p := ⟨p, i, none⟩) (.inl rfl) v

section
variable {w w' : World} {B b m n now most : Nat} {M : Int → Option Nat} {P : List (Int × Nat)} {v : Value} {G : List Int} {S : Nat → Prop}

/-- What stands while a history settles. -/
def SeS (S : Nat → Prop) (w0 w : World) (B b m now most : Nat) (G : List Int) (v : Value) (P : List (Int × Nat)) (M : Int → Option Nat) : Prop :=
  Gh w b m v P M now most ∧ w.cell? ⟨B, 0, none⟩ = some (.pointer (some ⟨b, 0, none⟩)) ∧ (∃ k, keysOf P M = G.drop k ∧ k ≤ G.length - most) ∧ Keeps S w0 w ∧ ∀ g, v.ownBlock = some g → S g

theorem SeS.below (h : SeS S w' w B b m now most G v P M) {w2 : World} (k : Below w.heap.size w w2) : SeS S w' w2 B b m now most G v P M :=
  ⟨h.1.below k, (Keeps.of_below k).old h.2.1, h.2.2.1, h.2.2.2.1.trans (Keeps.of_below k) (fun n hn => .inr (Nat.le_trans h.2.2.2.1.size hn)), h.2.2.2.2⟩

theorem PutsOk.of (h : GhI P M now) (hb : now ≤ 1000000) : PutsOk P := fun p hp => by
  have h1 := h.pos p hp
  have h2 := h.u64 p hp
  exact ⟨h2.1, h2.2, h1.1, by omega⟩

theorem last_ofG {G K : List Int} {k : Nat} (h : K = G.drop k) (hk : k ≤ G.length - most) (hl : K.length ≤ most) : K = lastG most G := by
  unfold lastG
  have : K.length = G.length - k := by rw [h, List.length_drop]
  rw [h]
  congr 1
  omega

theorem ghF_set (m : Nat) (v u : Value) (now most : Nat) : ∀ i, i < 4 → (if i = 1 then u else ghF m v now most i) = ghF m u now most i := fun i hi => by
  have : i = 0 ∨ i = 1 ∨ i = 2 ∨ i = 3 := by omega
  rcases this with rfl | rfl | rfl | rfl <;> rfl

/-- The front goes. -/
theorem SeS.front {w0 : World} {p : Int × Nat} {g o N c : Nat} {M' : Int → Option Nat} (h : SeS S w0 w B b m now most G (.slice (some ⟨g, o, none⟩) N c) (p :: P) M) (sb : S b) (hB : B ≠ b)
    (hm : UMap w' m (keysOf P M').length (wM M')) (ht : Keeps (fun k => k = m) w w') (sm : S m) (hBm : B ≠ m) (hi : GhI P M' now) (hk : ∃ k, keysOf P M' = G.drop k ∧ k ≤ G.length - most) {u : Value} (hu : Que w' u P) (hg : ∀ k, u.ownBlock = some k → k = g) :
    SeS S w0 (w'.setCell ⟨b, 1, none⟩ u) B b m now most G u P M' := by
  obtain ⟨hh, cb, _, kp, sv⟩ := h
  have hbm := hh.bm
  have top := hh.top.keep ht hbm
  have kk := keep_cellG w' b 1 u
  have hug : ∀ k, u.ownBlock = some k → k ≠ b := fun k e e2 => hu.ne top (by decide) (e2 ▸ e)
  refine ⟨⟨(top.set 1 u).congr (ghF_set m _ u now most), hm.keep kk (fun e => hbm e.symm), hu.keep kk hug, hi, by have := hh.len; simp only [List.length_cons] at this; omega, hh.big, hh.mst⟩, ?_, hk, ?_, fun k e => sv k (by rw [hg k e]; rfl)⟩
  · exact kk.cell (ht.cell cb hBm) hB
  · exact (kp.trans (T := S) (ht.mono (fun n _ e => by rw [e]; exact sm)) (fun n hn => .inl hn)).setCell (p := ⟨b, 1, none⟩) (.inl sb) u

/-- The puts that count no more are gone. -/
theorem Gh.sifted (h : Gh w b m v P M now most) (k : Keeps (fun k => v.ownBlock = some k) w w') {u : Value} (hq : Que w' u (P.filter (live M))) (hu : ∀ g, u.ownBlock = some g → v.ownBlock = some g) :
    Gh (w'.setCell ⟨b, 1, none⟩ u) b m u (P.filter (live M)) M now most ∧ keysOf (P.filter (live M)) M = keysOf P M := by
  have kb : ¬ v.ownBlock = some b := h.que.ne h.top (by decide)
  have km : ¬ v.ownBlock = some m := h.que.ne_map h.map
  have kk := keep_cellG w' b 1 u
  have si := h.inv.sift
  refine ⟨⟨((h.top.keep k kb).set 1 u).congr (ghF_set m v u now most), by rw [si.2]; exact (h.map.keep k km).keep kk (fun e => h.bm e.symm), hq.keep kk (fun g e e2 => kb (by rw [← e2]; exact hu g e)), si.1, Nat.le_trans (List.length_filter_le _ _) h.len, h.big, h.mst⟩, si.2⟩

set_option maxRecDepth 100000 in
set_option maxHeartbeats 4000000 in
theorem gh_settle (h : Gh w b m v P M now most) (ho : Own S w) (sb : S b) (sm : S m) (sv : ∀ g, v.ownBlock = some g → S g) :
    Calls Tryz.prog 113 #[.pointer (some ⟨b, 0, none⟩)] w fun e w' => e = .returned (.tuple #[]) ∧ ∃ v' P' M', Gh w' b m v' P' M' now most ∧ keysOf P' M' = lastG most (keysOf P M) ∧ (∀ g, v'.ownBlock = some g → S g) ∧ Keeps S w w' := by
  have ba := (Below.refl w.heap.size w).alloc (Nat.le_refl _) (.cells #[.pointer (some ⟨b, 0, none⟩)] 39)
  have bx := blk_cell' (heap_at w (.cells #[.pointer (some ⟨b, 0, none⟩)] 39) w.heap.size rfl) 0
  have S0 := Lib.hid (show SeS S w (w.alloc (.cells #[.pointer (some ⟨b, 0, none⟩)] 39)) w.heap.size b m now most (keysOf P M) v P M from
    ⟨h.below ba, bx, ⟨0, rfl, Nat.zero_le _⟩, (Keeps.of_below ba).mono (fun n hn e => by omega), sv⟩)
  have HS := Lib.hid (And.intro sb (And.intro sm ho))
  have HBm := Lib.hid h.bm
  generalize keysOf P M = G at *
  clear h ba bx sb sm sv ho
  go_enter Tryz.func113, Tryz.ntmps113
  go_wp2_with fail
  generalize w.alloc (.cells #[.pointer (some ⟨b, 0, none⟩)] 39) = w1 at *
  have HBL := Lib.hid (show ∀ j, S j → j ≠ w.heap.size from fun j hj e => by have := HS.out.2.2 j hj; omega)
  generalize w.heap.size = B at *
  go_loopg [] P.length (fun k wr => ∃ v P M, P.length = k ∧ SeS S w wr B b m now most G v P M)
  case atStart => exact ⟨v, P, M, rfl, S0.out⟩
  case round =>
    obtain ⟨v, P, M, hk, hs⟩ := hrel
    obtain ⟨A, c, rfl, h1, h2, hc⟩ := hs.1.que.open_
    have c0 := hs.1.c0
    have c1 := hs.1.c1
    have c3 := hs.1.c3
    have cb := hs.2.1
    have hmo : Tryz.prog.follows .mixedOrders = true := by kernel_rfl
    cases P with
    | nil =>
      have HS1 := Lib.hid hs
      have FIN := Lib.hid (fun (W : World) (k : Below wr.heap.size wr W) => (by
        have SS := HS1.out.below k
        obtain ⟨kk, hk1, hk2⟩ := SS.2.2.1
        exact ⟨SS.1, last_ofG hk1 hk2 (Nat.zero_le _), SS.2.2.2.2, SS.2.2.2.1⟩ : Gh W b m (.slice A 0 c) [] M now most ∧ keysOf [] M = lastG most G ∧ (∀ g', (Value.slice A 0 c).ownBlock = some g' → S g') ∧ Keeps S w W))
      have SF := Lib.hid (fun W (k : Below wr.heap.size wr W) => (⟨(hs.below k).2.1, (hs.below k).1.c0, (hs.below k).1.c1⟩ :
        W.cell? ⟨B, 0, none⟩ = some (.pointer (some ⟨b, 0, none⟩)) ∧ W.cell? ⟨b, 0, none⟩ = some (.map (some m)) ∧ W.cell? ⟨b, 1, none⟩ = some (.slice A 0 c)))
      clear hs hk h1 h2 hc c0 c1 c3 cb
      have y1 := fun p : Later wr => (SF.out p.W p.le).1
      have y3 := fun p : Later wr => (SF.out p.W p.le).2.2
      go_wp2_with fail
      refine wp_region_later hmo (by kernel_rfl) ?_
      repeat (go_big_quiet_step ((fail)))
      refine wpQuiet_nil ?_
      rintro _ ⟨q1, rfl⟩
      have G2 := Lib.hid q1.le
      generalize q1.W = w2 at *
      have LEN2 := Lib.hid (show ∀ p : Later w2, UMap p.W m 0 (wM M) from fun p : Later w2 => (HS1.out.below (G2.out.trans (p.le.mono G2.out.size))).1.map)
      have SF2 := Lib.hid (fun p : Later w2 => SF.out p.W (G2.out.trans (p.le.mono G2.out.size)))
      clear y1 y3 q1
      have y1 := fun p : Later w2 => (SF2.out p).1
      have y2 := fun p : Later w2 => (SF2.out p).2.1
      have y3 := fun p : Later w2 => (SF2.out p).2.2
      go_wp2_with fail
      refine wp_region_later hmo (by kernel_rfl) ?_
      repeat (go_big_quiet_step ((fail)))
      go_big_quiet_want
      refine quiet_lenU (.tmp 66) rfl rfl LEN2.out ?_
      (try simp only [Act.put, List.setIfInBounds_toArray, List.set_cons_zero, List.set_cons_succ])
      go_big_quiet_on
      repeat (go_big_quiet_step ((fail)))
      refine wpQuiet_nil ?_
      rintro _ ⟨q2, rfl⟩
      have F3 := Lib.hid (FIN.out q2.W (G2.out.trans (q2.le.mono G2.out.size)))
      clear y1 y2 y3
      go_wp2_with fail
      go_end0
      exact ⟨rfl, _, _, _, F3.out.1, F3.out.2.1, F3.out.2.2.1, F3.out.2.2.2⟩
    | cons p P =>
      obtain ⟨g, o, rfl, hcc⟩ := hc (by simp)
      have okp := PutsOk.of hs.1.inv hs.1.big p (List.mem_cons_self ..)
      have HS1 := Lib.hid hs
      have SF := fun W (k : Below wr.heap.size wr W) => (⟨(hs.below k).2.1, (hs.below k).1.c0, (hs.below k).1.c1, (hs.below k).1.c3, by have := (hcc W k 0 p rfl).1; rwa [show o + 0 * 2 = o by omega] at this, by have := (hcc W k 0 p rfl).2; rwa [show o + 0 * 2 = o by omega] at this⟩ :
        W.cell? ⟨B, 0, none⟩ = some (.pointer (some ⟨b, 0, none⟩)) ∧ W.cell? ⟨b, 0, none⟩ = some (.map (some m)) ∧ W.cell? ⟨b, 1, none⟩ = some (.slice (some ⟨g, o, none⟩) (p :: P).length c) ∧ W.cell? ⟨b, 3, none⟩ = some (.int .i64 (most : Int)) ∧ W.cell? ⟨g, o, none⟩ = some (.int .u64 p.1) ∧ W.cell? ⟨g, o + 1, none⟩ = some (.int .i64 (p.2 : Int)))
      obtain ⟨N, hN⟩ : ∃ N, (p :: P).length = N + 1 := ⟨P.length, rfl⟩
      rw [hN] at c1 SF
      have CN := Lib.hid (fun (W : World) (k : Below wr.heap.size wr W) => cnt_any (hs.below k).1.c0 (hs.below k).1.map p okp.1 okp.2.1 okp.2.2.1 okp.2.2.2)
      have LEN := Lib.hid (fun (p : Later wr) => (hs.below p.le).1.map)
      replace SF := Lib.hid SF
      have z1 : decide ((0 : Int) < (N : Int) + 1) = true := decide_eq_true (by omega)
      have z2 : decide (0 < N + 1) = true := decide_eq_true (by omega)
      have HN := Lib.hid hN
      have NB := Lib.hid (show N + 1 ≤ c from by rw [← hN]; exact h1)
      have HK := Lib.hid hk
      have HWF := Lib.hid (show (Lit.int .u64 p.1).wf = true from WalkArith.wf_u64 ⟨okp.1, okp.2.1⟩)
      generalize hp1 : p.1 = key at *
      generalize hp2 : p.2 = wh at *
      generalize hkl : (keysOf (p :: P) M).length = kl at *
      have HPP := Lib.hid (And.intro hp1 (And.intro hp2 hkl))
      have HC2 := Lib.hid h2
      clear hs hcc okp hN h1 h2 hc hp1 hp2 hk hkl c0 c1 c3 cb
      have HLV : Hid (live M p = true ∨ live M p = false) := Lib.hid (by cases live M p <;> simp)
      have CG := Lib.hid (fun p : Later wr => CN.out p.W p.le)
      have y1 := fun p : Later wr => (SF.out p.W p.le).1
      have y2 := fun p : Later wr => (SF.out p.W p.le).2.1
      have y3 := fun p : Later wr => (SF.out p.W p.le).2.2.1
      have y4 := fun p : Later wr => (SF.out p.W p.le).2.2.2.1
      have y5 := fun p : Later wr => (SF.out p.W p.le).2.2.2.2.1
      have y6 := fun p : Later wr => (SF.out p.W p.le).2.2.2.2.2
      have HSB := Lib.hid (show B ≠ b ∧ B ≠ m from ⟨fun e => HBL.out b HS.out.1 e.symm, fun e => HBL.out m HS.out.2.1 e.symm⟩)
      rcases HLV.out with hlv | hlv
      · rw [hlv] at CG CN
        have HLV := Lib.hid hlv
        clear hlv
        by_cases hmk : most < kl
        · have d1 : decide (most < kl) = true := decide_eq_true hmk
          have d2 : decide ((most : Int) < (kl : Int)) = true := decide_eq_true (by omega)
          have HMK := Lib.hid hmk
          clear hmk
          go_wp2_with fail
          refine wp_region_later hmo (by kernel_rfl) ?_
          repeat (go_big_quiet_step ((go_at_call 121; refine calls_later ((CG.out _).mono fun _ _ x => ⟨x.1, grown_below x.2⟩))))
          go_big_quiet_want
          refine quiet_lenU (.tmp 22) rfl rfl LEN.out ?_
          (try simp only [Act.put, List.setIfInBounds_toArray, List.set_cons_zero, List.set_cons_succ])
          go_big_quiet_on
          repeat (go_big_quiet_step ((fail)))
          refine wpQuiet_nil ?_
          rintro _ ⟨q1, rfl⟩
          have G2 := Lib.hid q1.le
          generalize q1.W = w2 at *
          have CG2 := Lib.hid (fun p : Later w2 => CN.out p.W (G2.out.trans (p.le.mono G2.out.size)))
          have SF2 := Lib.hid (fun p : Later w2 => SF.out p.W (G2.out.trans (p.le.mono G2.out.size)))
          clear y1 y2 y3 y4 y5 y6 CG q1
          have y1 := fun p : Later w2 => (SF2.out p).1
          have y2 := fun p : Later w2 => (SF2.out p).2.1
          have y3 := fun p : Later w2 => (SF2.out p).2.2.1
          have y4 := fun p : Later w2 => (SF2.out p).2.2.2.1
          have y5 := fun p : Later w2 => (SF2.out p).2.2.2.2.1
          have y6 := fun p : Later w2 => (SF2.out p).2.2.2.2.2
          go_wp2_with fail
          refine wp_region_later hmo (by kernel_rfl) ?_
          repeat (go_big_quiet_step ((go_at_call 121; refine calls_later ((CG2.out _).mono fun _ _ x => ⟨x.1, grown_below x.2⟩))))
          refine wpQuiet_nil ?_
          rintro _ ⟨q2, rfl⟩
          have G3 := Lib.hid (G2.out.trans (q2.le.mono G2.out.size))
          generalize q2.W = w3 at *
          clear y1 y2 y3 y4 y5 y6 q2 SF2 CG2
          have S3 := HS1.out.below G3.out
          obtain ⟨cb, c0, c1, c3, c5, c6⟩ := SF.out w3 G3.out
          have HS3 := Lib.hid S3
          have HM3 := Lib.hid (S3.1.map.drewN 1)
          clear S3
          go_wp2_with fail
          go_still_tail 11, (by kernel_rfl)
          change wpList _ _ _ _ _ w3.drew
          go_wp2_with (first
            | (at_delete; refine wpList_delete_v (b := m) (n := (keysOf (p :: P) M).length) (k := 22) (q := .u64) (R := plainElem Tryz.prog 3) (M := wM M) rfl _ _ rfl Tryz.underlying22 Tryz.underlying143 rfl HM3.out key rfl HWF.out ?_; intro w4 hm4 ht4)
            | go_in)
          (try go_frame)
          have S4 := HS3.out.below (Below.refl _ _).drew
          have kt := keeps_turned ht4
          have HF := HS3.out.1.inv.first HLV.out
          have hlen : (keysOf (p :: P) M).length = (keysOf P (delM M p.1)).length + 1 := by rw [HF.2]; rfl
          have hM : M p.1 = some p.2 := live_iff.1 HLV.out
          rw [← HPP.out.1] at hm4
          have hm5 : UMap w4 m (keysOf P (delM M p.1)).length (wM (delM M p.1)) := by
            have e1 : (wM M p.1).isSome = true := by unfold wM; rw [hM]; rfl
            rw [e1, if_pos rfl, hlen, Nat.add_sub_cancel] at hm4
            refine hm4.congr (fun x _ => ?_)
            unfold wM delM
            by_cases e : x = p.1
            · rw [if_pos e, if_pos e]; rfl
            · rw [if_neg e, if_neg e]
          have hk5 : ∃ k, keysOf P (delM M p.1) = G.drop k ∧ k ≤ G.length - most := by
            obtain ⟨k, hk, hkm⟩ := S4.2.2.1
            refine ⟨k + 1, ?_, ?_⟩
            · rw [HF.2] at hk
              have := congrArg List.tail hk
              rw [List.tail_cons, List.tail_drop] at this
              exact this
            · have h1 := congrArg List.length hk
              rw [List.length_drop, HPP.out.2.2] at h1
              have := HMK.out
              omega
          have HQ := S4.1.que
          have top4 := S4.1.top.keep kt HBm.out
          have cb := kt.cell S4.2.1 HSB.out.2
          have c1 := kt.cell S4.1.c1 HBm.out
          rw [HN.out] at c1
          have fz := top4.free 1
          have HT := HQ.tail
          rw [HN.out] at HT
          obtain ⟨g', o', e1, e2, e3, e4, t1, t2⟩ := HT
          simp at e1 e2
          obtain ⟨rfl, rfl⟩ := e1
          subst e2
          have hgm : ∀ k, (Value.slice (some ⟨g, o, none⟩) (p :: P).length c).ownBlock = some k → k ≠ m := fun k e e2 => HQ.ne_map S4.1.map (e2 ▸ e)
          have hgm : g ≠ m := hgm g rfl
          have FRONT := Lib.hid (fun (u : Value) (hu : Que w4 u P) (hg : ∀ k, u.ownBlock = some k → k = g) => (S4.front HS.out.1 HSB.out.1 hm5 kt HS.out.2.1 HSB.out.2 HF.1 hk5 hu hg).below (Below.refl _ _).drew)
          have hcc : (c : Int) ≤ 9223372036854775807 := by unfold maxLen at e4; omega
          by_cases hc1 : c = 1
          · obtain ⟨hP0, hq⟩ := t2 hc1
            have FIN := Lib.hid (FRONT.out _ (hq.keep kt (fun k e e2 => by simp [Value.ownBlock] at e; omega)) (fun k e => by simpa [Value.ownBlock] using e.symm))
            subst hP0
            subst hc1
            simp only [List.length_nil, Nat.zero_add] at *
            clear S4 HF t1 t2 FRONT e4 e3 hq HQ kt hm4 ht4 hlen hM hm5 hk5 top4 hgm
            go_wp2_with fail
            go_region
            all_goals
              go_wp2_with fail
              go_roundg 0
              case rel => exact ⟨_, [], _, rfl, FIN.out⟩
              case measure => have := HK.out; simp at this; omega
          · have FIN := Lib.hid (FRONT.out _ ((t1 hc1).keep kt (fun k e e2 => by simp [Value.ownBlock] at e; omega)) (fun k e => by simpa [Value.ownBlock] using e.symm))
            have c2 : 1 < c := by omega
            have HE3 := Lib.hid e3
            clear S4 HF t1 t2 hc1 FRONT e4 e3 HQ kt hm4 ht4 hlen hM hm5 hk5 top4 hgm
            go_wp2_with fail
            go_region
            all_goals
              go_wp2_with fail
              go_roundg P.length
              case rel => exact ⟨_, P, _, rfl, FIN.out⟩
              case measure => have := HK.out; simp at this; omega
        · have d1 : decide (most < kl) = false := decide_eq_false hmk
          have d2 : decide ((most : Int) < (kl : Int)) = false := decide_eq_false (by omega)
          have FIN := Lib.hid (fun (W : World) (k : Below wr.heap.size wr W) => (by
            have SS := HS1.out.below k
            obtain ⟨kk, hk1, hk2⟩ := SS.2.2.1
            exact ⟨SS.1, last_ofG hk1 hk2 (by rw [HPP.out.2.2]; omega), SS.2.2.2.2, SS.2.2.2.1⟩ : Gh W b m (.slice (some ⟨g, o, none⟩) (p :: P).length c) (p :: P) M now most ∧ keysOf (p :: P) M = lastG most G ∧ (∀ g', (Value.slice (some ⟨g, o, none⟩) (p :: P).length c).ownBlock = some g' → S g') ∧ Keeps S w W))
          have kb : (kl : Int) ≤ 1000000 := by
            have h1 : kl ≤ (p :: P).length := by rw [← HPP.out.2.2]; unfold keysOf; rw [List.length_map]; exact List.length_filter_le _ _
            have h2 := HS1.out.1.len
            have h3 := HS1.out.1.big
            omega
          have nb : (N : Int) ≤ 1000000 := by
            have h2 := HS1.out.1.len
            have h3 := HS1.out.1.big
            have := HN.out
            omega
          clear hmk
          go_wp2_with fail
          refine wp_region_later hmo (by kernel_rfl) ?_
          repeat (go_big_quiet_step ((go_at_call 121; refine calls_later ((CG.out _).mono fun _ _ x => ⟨x.1, grown_below x.2⟩))))
          go_big_quiet_want
          refine quiet_lenU (.tmp 22) rfl rfl LEN.out ?_
          (try simp only [Act.put, List.setIfInBounds_toArray, List.set_cons_zero, List.set_cons_succ])
          go_big_quiet_on
          repeat (go_big_quiet_step ((fail)))
          refine wpQuiet_nil ?_
          rintro _ ⟨q1, rfl⟩
          have G2 := Lib.hid q1.le
          generalize q1.W = w2 at *
          have LEN2 := Lib.hid (fun p : Later w2 => (HS1.out.below (G2.out.trans (p.le.mono G2.out.size))).1.map)
          have SF2 := Lib.hid (fun p : Later w2 => SF.out p.W (G2.out.trans (p.le.mono G2.out.size)))
          clear y1 y2 y3 y4 y5 y6 CG q1
          have y1 := fun p : Later w2 => (SF2.out p).1
          have y2 := fun p : Later w2 => (SF2.out p).2.1
          have y3 := fun p : Later w2 => (SF2.out p).2.2.1
          rw [HPP.out.2.2] at LEN2
          have HBIG : Hid (2 * kl + 8 < N + 1 ∨ ¬ 2 * kl + 8 < N + 1) := Lib.hid (Classical.em _)
          rcases HBIG.out with hb | hb
          · have d3 : decide (2 * (kl : Int) + 8 < (N : Int) + 1) = true := decide_eq_true (by omega)
            clear hb
            go_wp2_with fail
            refine wp_region_later hmo (by kernel_rfl) ?_
            repeat (go_big_quiet_step ((fail)))
            go_big_quiet_want
            refine quiet_lenU (.tmp 66) rfl rfl LEN2.out ?_
            (try simp only [Act.put, List.setIfInBounds_toArray, List.set_cons_zero, List.set_cons_succ])
            go_big_quiet_on
            repeat (go_big_quiet_step ((fail)))
            refine wpQuiet_nil ?_
            rintro _ ⟨q2, rfl⟩
            have G3 := Lib.hid (G2.out.trans (q2.le.mono G2.out.size))
            generalize q2.W = w3 at *
            clear y1 y2 y3 q2 SF2 LEN2
            have F3 := FIN.out w3.drew (G3.out.trans ((Below.refl w3.heap.size w3).mono G3.out.size).drew)
            obtain ⟨cb, c0, c1, c3, c5, c6⟩ := SF.out w3 G3.out
            have DEL := del_puts (w := w3.drew) (B := B) (b := b) (m := m) ⟨cb, c0, F3.1.map⟩ F3.1.que (PutsOk.of F3.1.inv F3.1.big) (by have := F3.1.len; have := F3.1.big; omega) (fun e => HBL.out B (F3.2.2.1 B e) rfl) (F3.1.que.ne F3.1.top (by decide))
            rw [HN.out] at DEL
            replace DEL := Lib.hid DEL
            have HF3 := Lib.hid F3
            have cb3 : w3.drew.cell? ⟨B, 0, none⟩ = some (.pointer (some ⟨b, 0, none⟩)) := cb
            have c13 : w3.drew.cell? ⟨b, 1, none⟩ = some (.slice (some ⟨g, o, none⟩) (N + 1) c) := c1
            clear F3 cb c0 c1 c3 c5 c6
            go_wp2_with fail
            go_region_law (first
                | (go_simp; go_at_call 157; (with_reducible refine DEL.out.mono ?_); rintro e w4 ⟨A4, cc4, rfl, hq4, hg4, k4⟩; have cb4 := k4.cell cb3 (fun e => HBL.out B (HF3.out.2.2.1 B (by rw [HN.out]; exact e)) rfl); have c14 := k4.cell c13 (fun e => HF3.out.1.que.ne HF3.out.1.top (by decide) (by rw [HN.out]; exact e)); have fz4 : w4.frozen? ⟨b, 1, none⟩ = false := (HF3.out.1.top.keep k4 (fun e => HF3.out.1.que.ne HF3.out.1.top (by decide) (by rw [HN.out]; exact e))).free 1))
            all_goals
              have SI := HF3.out.1.sifted (w' := w4) (by rw [HN.out]; exact k4) hq4 (fun g e => by rw [HN.out]; exact hg4 g e)
              have FN := Lib.hid (show Gh (w4.setCell ⟨b, 1, none⟩ (.slice A4 ((p :: P).filter (live M)).length cc4)) b m (.slice A4 ((p :: P).filter (live M)).length cc4) ((p :: P).filter (live M)) M now most ∧ keysOf ((p :: P).filter (live M)) M = lastG most G ∧ (∀ g', (Value.slice A4 ((p :: P).filter (live M)).length cc4).ownBlock = some g' → S g') ∧ Keeps S w (w4.setCell ⟨b, 1, none⟩ (.slice A4 ((p :: P).filter (live M)).length cc4)) from
                ⟨SI.1, by rw [SI.2]; exact HF3.out.2.1, fun g' e => HF3.out.2.2.1 g' (by rw [HN.out]; exact hg4 g' e), (HF3.out.2.2.2.trans (T := S) (k4.mono (fun n _ e => HF3.out.2.2.1 n (by rw [HN.out]; exact e))) (fun n hn => .inl hn)).setCell (p := ⟨b, 1, none⟩) (.inl HS.out.1) _⟩)
              clear SI hq4 hg4 k4 cb4 c14 cb3 c13
              generalize ((p :: P).filter (live M)).length = fl at *
              go_wp2
              go_end0
              exact ⟨rfl, _, _, _, FN.out.1, FN.out.2.1, FN.out.2.2.1, FN.out.2.2.2⟩
          · have d3 : decide (2 * (kl : Int) + 8 < (N : Int) + 1) = false := decide_eq_false (by omega)
            clear hb
            go_wp2_with fail
            refine wp_region_later hmo (by kernel_rfl) ?_
            repeat (go_big_quiet_step ((fail)))
            go_big_quiet_want
            refine quiet_lenU (.tmp 66) rfl rfl LEN2.out ?_
            (try simp only [Act.put, List.setIfInBounds_toArray, List.set_cons_zero, List.set_cons_succ])
            go_big_quiet_on
            repeat (go_big_quiet_step ((fail)))
            refine wpQuiet_nil ?_
            rintro _ ⟨q2, rfl⟩
            have F3 := Lib.hid (FIN.out q2.W (G2.out.trans (q2.le.mono G2.out.size)))
            clear y1 y2 y3
            go_wp2_with fail
            go_end0
            exact ⟨rfl, _, _, _, F3.out.1, F3.out.2.1, F3.out.2.2.1, F3.out.2.2.2⟩
      · rw [hlv] at CG CN
        have HLV := Lib.hid hlv
        clear hlv
        go_wp2_with fail
        refine wp_region_later hmo (by kernel_rfl) ?_
        repeat (go_big_quiet_step ((go_at_call 121; refine calls_later ((CG.out _).mono fun _ _ x => ⟨x.1, grown_below x.2⟩))))
        refine wpQuiet_nil ?_
        rintro _ ⟨q1, rfl⟩
        have G2 := Lib.hid q1.le
        generalize q1.W = w2 at *
        have CG2 := Lib.hid (fun p : Later w2 => CN.out p.W (G2.out.trans (p.le.mono G2.out.size)))
        have SF2 := Lib.hid (fun p : Later w2 => SF.out p.W (G2.out.trans (p.le.mono G2.out.size)))
        clear y1 y2 y3 y4 y5 y6 CG q1
        have y1 := fun p : Later w2 => (SF2.out p).1
        have y2 := fun p : Later w2 => (SF2.out p).2.1
        have y3 := fun p : Later w2 => (SF2.out p).2.2.1
        have y4 := fun p : Later w2 => (SF2.out p).2.2.2.1
        have y5 := fun p : Later w2 => (SF2.out p).2.2.2.2.1
        have y6 := fun p : Later w2 => (SF2.out p).2.2.2.2.2
        go_wp2_with fail
        refine wp_region_later hmo (by kernel_rfl) ?_
        repeat (go_big_quiet_step ((go_at_call 121; refine calls_later ((CG2.out _).mono fun _ _ x => ⟨x.1, grown_below x.2⟩))))
        refine wpQuiet_nil ?_
        rintro _ ⟨q2, rfl⟩
        have G3 := Lib.hid (G2.out.trans (q2.le.mono G2.out.size))
        generalize q2.W = w3 at *
        clear y1 y2 y3 y4 y5 y6 q2 SF2 CG2
        have S3 := HS1.out.below G3.out
        have cb := S3.2.1
        have c1 := S3.1.c1
        rw [HN.out] at c1
        have fz := S3.1.top.free 1
        have HT := S3.1.que.tail
        rw [HN.out] at HT
        obtain ⟨g', o', e1, e2, e3, e4, t1, t2⟩ := HT
        simp at e1 e2
        obtain ⟨rfl, rfl⟩ := e1
        subst e2
        have HD := S3.1.inv.dead HLV.out
        have HP := Lib.hid HN.out
        have FRONT := Lib.hid (fun (u : Value) (hu : Que w3 u P) (hg : ∀ k, u.ownBlock = some k → k = g) => (S3.front HS.out.1 HSB.out.1 (by rw [HD.2]; exact S3.1.map) (Keeps.refl _ _) HS.out.2.1 HSB.out.2 HD.1 (by rw [HD.2]; exact S3.2.2.1) hu hg).below (Below.refl _ _).drew)
        have hcc : (c : Int) ≤ 9223372036854775807 := by unfold maxLen at e4; omega
        by_cases hc1 : c = 1
        · obtain ⟨hP0, hq⟩ := t2 hc1
          have FIN := Lib.hid (FRONT.out _ hq (fun k e => by simpa [Value.ownBlock] using e.symm))
          subst hP0
          subst hc1
          simp only [List.length_nil, Nat.zero_add] at *
          clear S3 HD t1 t2 FRONT e4 e3 hq
          go_wp2_with fail
          go_region
          all_goals
            go_wp2_with fail
            go_roundg 0
            case rel => exact ⟨_, [], M, rfl, FIN.out⟩
            case measure => have := HK.out; simp at this; omega
        · have FIN := Lib.hid (FRONT.out _ (t1 hc1) (fun k e => by simpa [Value.ownBlock] using e.symm))
          have c2 : 1 < c := by omega
          have HE3 := Lib.hid e3
          clear S3 HD t1 t2 hc1 FRONT e4 e3
          go_wp2_with fail
          go_region
          all_goals
            go_wp2_with fail
            go_roundg P.length
            case rel => exact ⟨_, P, M, rfl, FIN.out⟩
            case measure => have := HK.out; simp at this; omega
end

end Go.Proofs.YtdbgehplmllgdaaGreat
