/- Several texts of this claim, one behind the other. -/
import Derived.Test.YtbgknopjgohocaaGreatGd
import Derived.Test.YtbgknopjgohocaaGreatLt
import Derived.Deep.RegionHeldLaw
import Derived.Deep.LoopGhost
import Derived.StillTailTactics
import Derived.Deep.AppendLies

/- The program's history: settle. -/
namespace Go.Proofs.YtbgknopjgohocaaGreat
open Go.RowKit Go.Maps Go.WideMaps Go.WideElems
set_option linter.unusedVariables false

/-- 'len' of a map, as a step of a quiet region. -/
theorem quiet_lenU {w : World} {o : Oper} {a : Act} {K : Act → Prop} {m n : Nat} {M : Int → Option Value} (s : Operand)
    (ho : o.op = .call { callee := .builtin .len, args := #[s], argTypes := #[145] }) (hs : a.eval s = .map (some m)) (hm : ∀ p : Later w, UMap p.W m n M)
    (h : K (a.put o.dst (.int .i64 (n : Int)))) : o.quiet Tryz.prog a (fun w' => ∃ p : Later w, w' = p.W) K := by
  refine ⟨.int .i64 (n : Int), ?_, h⟩
  rintro _ ⟨p, rfl⟩
  have hrun := (hm p).len Tryz.underlying145 o.type
  unfold Oper.quietAt
  simp [execOp, ho, resolve, invoke, builtin, hs, hrun, Result.andThen]
  exact ⟨rfl, rfl⟩

theorem keep_cellG (w : World) (p i : Nat) (v : Value) : Keeps (fun k => k = p) w (w.setCell ⟨p, i, none⟩ v) := (Keeps.refl (fun k => k = p) w).setCell (p := ⟨p, i, none⟩) (.inl rfl) v

section
variable {w w' : World} {B b m n now most : Nat} {M : Int → Option Nat} {P : List (Int × Nat)} {v : Value} {G : List Int} {S : Nat → Prop}

/-- What stands while a history settles. -/
def SeS (S : Nat → Prop) (w0 w : World) (B b m now most : Nat) (G : List Int) (v : Value) (P : List (Int × Nat)) (M : Int → Option Nat) : Prop :=
  Gh w b m v P M now most ∧ w.cell? ⟨B, 0, none⟩ = some (.pointer (some ⟨b, 0, none⟩)) ∧ (∃ k, keysOf P M = G.drop k ∧ k ≤ G.length - most) ∧ Keeps S w0 w ∧ ∀ g, v.ownBlock = some g → S g

theorem SeS.below (h : SeS S w' w B b m now most G v P M) {w2 : World} (k : Below w.heap.size w w2) : SeS S w' w2 B b m now most G v P M :=
  ⟨h.1.below k, (Keeps.of_below k).old h.2.1, h.2.2.1, h.2.2.2.1.trans (Keeps.of_below k) (fun n hn => .inr (Nat.le_trans h.2.2.2.1.size hn)), h.2.2.2.2⟩

theorem PutsOk.of (h : GhI P M now) (hb : now ≤ 1000000) : PutsOk P := fun p hp => by
  have h1 := h.pos p hp
  have h2 := h.u64 p hp
  exact ⟨h2.1, h2.2, h1.1, by omega⟩

theorem last_ofG {G K : List Int} {k : Nat} (h : K = G.drop k) (hk : k ≤ G.length - most) (hl : K.length ≤ most) : K = lastG most G := by
  unfold lastG
  have : K.length = G.length - k := by rw [h, List.length_drop]
  rw [h]
  congr 1
  omega

theorem ghF_set (m : Nat) (v u : Value) (now most : Nat) : ∀ i, i < 4 → (if i = 1 then u else ghF m v now most i) = ghF m u now most i := fun i hi => by
  have : i = 0 ∨ i = 1 ∨ i = 2 ∨ i = 3 := by omega
  rcases this with rfl | rfl | rfl | rfl <;> rfl

/-- The front goes. -/
theorem SeS.front {w0 : World} {p : Int × Nat} {g o N c : Nat} {M' : Int → Option Nat} (h : SeS S w0 w B b m now most G (.slice (some ⟨g, o, none⟩) N c) (p :: P) M) (sb : S b) (hB : B ≠ b)
    (hm : UMap w' m (keysOf P M').length (wM M')) (ht : Keeps (fun k => k = m) w w') (sm : S m) (hBm : B ≠ m) (hi : GhI P M' now) (hk : ∃ k, keysOf P M' = G.drop k ∧ k ≤ G.length - most) {u : Value} (hu : Que w' u P) (hg : ∀ k, u.ownBlock = some k → k = g) :
    SeS S w0 (w'.setCell ⟨b, 1, none⟩ u) B b m now most G u P M' := by
  obtain ⟨hh, cb, _, kp, sv⟩ := h
  have hbm := hh.bm
  have top := hh.top.keep ht hbm
  have kk := keep_cellG w' b 1 u
  have hug : ∀ k, u.ownBlock = some k → k ≠ b := fun k e e2 => hu.ne top (by decide) (e2 ▸ e)
  refine ⟨⟨(top.set 1 u).congr (ghF_set m _ u now most), hm.keep kk (fun e => hbm e.symm), hu.keep kk hug, hi, by have := hh.len; simp only [List.length_cons] at this; omega, hh.big, hh.mst⟩, ?_, hk, ?_, fun k e => sv k (by rw [hg k e]; rfl)⟩
  · exact kk.cell (ht.cell cb hBm) hB
  · exact (kp.trans (T := S) (ht.mono (fun n _ e => by rw [e]; exact sm)) (fun n hn => .inl hn)).setCell (p := ⟨b, 1, none⟩) (.inl sb) u

/-- The puts that count no more are gone. -/
theorem Gh.sifted (h : Gh w b m v P M now most) (k : Keeps (fun k => v.ownBlock = some k) w w') {u : Value} (hq : Que w' u (P.filter (live M))) (hu : ∀ g, u.ownBlock = some g → v.ownBlock = some g) :
    Gh (w'.setCell ⟨b, 1, none⟩ u) b m u (P.filter (live M)) M now most ∧ keysOf (P.filter (live M)) M = keysOf P M := by
  have kb : ¬ v.ownBlock = some b := h.que.ne h.top (by decide)
  have km : ¬ v.ownBlock = some m := h.que.ne_map h.map
  have kk := keep_cellG w' b 1 u
  have si := h.inv.sift
  refine ⟨⟨((h.top.keep k kb).set 1 u).congr (ghF_set m v u now most), by rw [si.2]; exact (h.map.keep k km).keep kk (fun e => h.bm e.symm), hq.keep kk (fun g e e2 => kb (by rw [← e2]; exact hu g e)), si.1, Nat.le_trans (List.length_filter_le _ _) h.len, h.big, h.mst⟩, si.2⟩

set_option maxRecDepth 100000 in
set_option maxHeartbeats 4000000 in
theorem gh_settle (h : Gh w b m v P M now most) (ho : Own S w) (sb : S b) (sm : S m) (sv : ∀ g, v.ownBlock = some g → S g) :
    Calls Tryz.prog 121 #[.pointer (some ⟨b, 0, none⟩)] w fun e w' => e = .returned (.tuple #[]) ∧ ∃ v' P' M', Gh w' b m v' P' M' now most ∧ keysOf P' M' = lastG most (keysOf P M) ∧ (∀ g, v'.ownBlock = some g → S g) ∧ Keeps S w w' := by
  have ba := (Below.refl w.heap.size w).alloc (Nat.le_refl _) (.cells #[.pointer (some ⟨b, 0, none⟩)] 104)
  have bx := blk_cell' (heap_at w (.cells #[.pointer (some ⟨b, 0, none⟩)] 104) w.heap.size rfl) 0
  have S0 := Lib.hid (show SeS S w (w.alloc (.cells #[.pointer (some ⟨b, 0, none⟩)] 104)) w.heap.size b m now most (keysOf P M) v P M from
    ⟨h.below ba, bx, ⟨0, rfl, Nat.zero_le _⟩, (Keeps.of_below ba).mono (fun n hn e => by omega), sv⟩)
  have HS := Lib.hid (And.intro sb (And.intro sm ho))
  have HBm := Lib.hid h.bm
  generalize keysOf P M = G at *
  clear h ba bx sb sm sv ho
  go_enter Tryz.func121, Tryz.ntmps121
  go_wp2_with fail
  generalize w.alloc (.cells #[.pointer (some ⟨b, 0, none⟩)] 104) = w1 at *
  have HBL := Lib.hid (show ∀ j, S j → j ≠ w.heap.size from fun j hj e => by have := HS.out.2.2 j hj; omega)
  generalize w.heap.size = B at *
  go_loopg [] P.length (fun k wr => ∃ v P M, P.length = k ∧ SeS S w wr B b m now most G v P M)
  case atStart => exact ⟨v, P, M, rfl, S0.out⟩
  case round =>
    obtain ⟨v, P, M, hk, hs⟩ := hrel
    obtain ⟨A, c, rfl, h1, h2, hc⟩ := hs.1.que.open_
    have c0 := hs.1.c0
    have c1 := hs.1.c1
    have c3 := hs.1.c3
    have cb := hs.2.1
    have hmo : Tryz.prog.follows .mixedOrders = true := by kernel_rfl
    cases P with
    | nil =>
      have HS1 := Lib.hid hs
      have FIN := Lib.hid (fun (W : World) (k : Below wr.heap.size wr W) => (by
        have SS := HS1.out.below k
        obtain ⟨kk, hk1, hk2⟩ := SS.2.2.1
        exact ⟨SS.1, last_ofG hk1 hk2 (Nat.zero_le _), SS.2.2.2.2, SS.2.2.2.1⟩ : Gh W b m (.slice A 0 c) [] M now most ∧ keysOf [] M = lastG most G ∧ (∀ g', (Value.slice A 0 c).ownBlock = some g' → S g') ∧ Keeps S w W))
      have SF := Lib.hid (fun W (k : Below wr.heap.size wr W) => (⟨(hs.below k).2.1, (hs.below k).1.c0, (hs.below k).1.c1⟩ :
        W.cell? ⟨B, 0, none⟩ = some (.pointer (some ⟨b, 0, none⟩)) ∧ W.cell? ⟨b, 0, none⟩ = some (.map (some m)) ∧ W.cell? ⟨b, 1, none⟩ = some (.slice A 0 c)))
      clear hs hk h1 h2 hc c0 c1 c3 cb
      have y1 := fun p : Later wr => (SF.out p.W p.le).1
      have y3 := fun p : Later wr => (SF.out p.W p.le).2.2
      go_wp2_with fail
      refine wp_region_later hmo (by kernel_rfl) ?_
      repeat (go_big_quiet_step ((fail)))
      refine wpQuiet_nil ?_
      rintro _ ⟨q1, rfl⟩
      have G2 := Lib.hid q1.le
      generalize q1.W = w2 at *
      have LEN2 := Lib.hid (show ∀ p : Later w2, UMap p.W m 0 (wM M) from fun p : Later w2 => (HS1.out.below (G2.out.trans (p.le.mono G2.out.size))).1.map)
      have SF2 := Lib.hid (fun p : Later w2 => SF.out p.W (G2.out.trans (p.le.mono G2.out.size)))
      clear y1 y3 q1
      have y1 := fun p : Later w2 => (SF2.out p).1
      have y2 := fun p : Later w2 => (SF2.out p).2.1
      have y3 := fun p : Later w2 => (SF2.out p).2.2
      go_wp2_with fail
      refine wp_region_later hmo (by kernel_rfl) ?_
      repeat (go_big_quiet_step ((fail)))
      go_big_quiet_want
      refine quiet_lenU (.tmp 66) rfl rfl LEN2.out ?_
      (try simp only [Act.put, List.setIfInBounds_toArray, List.set_cons_zero, List.set_cons_succ])
      go_big_quiet_on
      repeat (go_big_quiet_step ((fail)))
      refine wpQuiet_nil ?_
      rintro _ ⟨q2, rfl⟩
      have F3 := Lib.hid (FIN.out q2.W (G2.out.trans (q2.le.mono G2.out.size)))
      clear y1 y2 y3
      go_wp2_with fail
      go_end0
      exact ⟨rfl, _, _, _, F3.out.1, F3.out.2.1, F3.out.2.2.1, F3.out.2.2.2⟩
    | cons p P =>
      obtain ⟨g, o, rfl, hcc⟩ := hc (by simp)
      have okp := PutsOk.of hs.1.inv hs.1.big p (List.mem_cons_self ..)
      have HS1 := Lib.hid hs
      have SF := fun W (k : Below wr.heap.size wr W) => (⟨(hs.below k).2.1, (hs.below k).1.c0, (hs.below k).1.c1, (hs.below k).1.c3, by have := (hcc W k 0 p rfl).1; rwa [show o + 0 * 2 = o by omega] at this, by have := (hcc W k 0 p rfl).2; rwa [show o + 0 * 2 = o by omega] at this⟩ :
        W.cell? ⟨B, 0, none⟩ = some (.pointer (some ⟨b, 0, none⟩)) ∧ W.cell? ⟨b, 0, none⟩ = some (.map (some m)) ∧ W.cell? ⟨b, 1, none⟩ = some (.slice (some ⟨g, o, none⟩) (p :: P).length c) ∧ W.cell? ⟨b, 3, none⟩ = some (.int .i64 (most : Int)) ∧ W.cell? ⟨g, o, none⟩ = some (.int .u64 p.1) ∧ W.cell? ⟨g, o + 1, none⟩ = some (.int .i64 (p.2 : Int)))
      obtain ⟨N, hN⟩ : ∃ N, (p :: P).length = N + 1 := ⟨P.length, rfl⟩
      rw [hN] at c1 SF
      have CN := Lib.hid (fun (W : World) (k : Below wr.heap.size wr W) => cnt_any (hs.below k).1.c0 (hs.below k).1.map p okp.1 okp.2.1 okp.2.2.1 okp.2.2.2)
      have LEN := Lib.hid (fun (p : Later wr) => (hs.below p.le).1.map)
      replace SF := Lib.hid SF
      have z1 : decide ((0 : Int) < (N : Int) + 1) = true := decide_eq_true (by omega)
      have z2 : decide (0 < N + 1) = true := decide_eq_true (by omega)
      have HN := Lib.hid hN
      have NB := Lib.hid (show N + 1 ≤ c from by rw [← hN]; exact h1)
      have HK := Lib.hid hk
      have HWF := Lib.hid (show (Lit.int .u64 p.1).wf = true from WalkArith.wf_u64 ⟨okp.1, okp.2.1⟩)
      generalize hp1 : p.1 = key at *
      generalize hp2 : p.2 = wh at *
      generalize hkl : (keysOf (p :: P) M).length = kl at *
      have HPP := Lib.hid (And.intro hp1 (And.intro hp2 hkl))
      have HC2 := Lib.hid h2
      clear hs hcc okp hN h1 h2 hc hp1 hp2 hk hkl c0 c1 c3 cb
      have HLV : Hid (live M p = true ∨ live M p = false) := Lib.hid (by cases live M p <;> simp)
      have CG := Lib.hid (fun p : Later wr => CN.out p.W p.le)
      have y1 := fun p : Later wr => (SF.out p.W p.le).1
      have y2 := fun p : Later wr => (SF.out p.W p.le).2.1
      have y3 := fun p : Later wr => (SF.out p.W p.le).2.2.1
      have y4 := fun p : Later wr => (SF.out p.W p.le).2.2.2.1
      have y5 := fun p : Later wr => (SF.out p.W p.le).2.2.2.2.1
      have y6 := fun p : Later wr => (SF.out p.W p.le).2.2.2.2.2
      have HSB := Lib.hid (show B ≠ b ∧ B ≠ m from ⟨fun e => HBL.out b HS.out.1 e.symm, fun e => HBL.out m HS.out.2.1 e.symm⟩)
      rcases HLV.out with hlv | hlv
      · rw [hlv] at CG CN
        have HLV := Lib.hid hlv
        clear hlv
        by_cases hmk : most < kl
        · have d1 : decide (most < kl) = true := decide_eq_true hmk
          have d2 : decide ((most : Int) < (kl : Int)) = true := decide_eq_true (by omega)
          have HMK := Lib.hid hmk
          clear hmk
          go_wp2_with fail
          refine wp_region_later hmo (by kernel_rfl) ?_
          repeat (go_big_quiet_step ((go_at_call 129; refine calls_later ((CG.out _).mono fun _ _ x => ⟨x.1, grown_below x.2⟩))))
          go_big_quiet_want
          refine quiet_lenU (.tmp 22) rfl rfl LEN.out ?_
          (try simp only [Act.put, List.setIfInBounds_toArray, List.set_cons_zero, List.set_cons_succ])
          go_big_quiet_on
          repeat (go_big_quiet_step ((fail)))
          refine wpQuiet_nil ?_
          rintro _ ⟨q1, rfl⟩
          have G2 := Lib.hid q1.le
          generalize q1.W = w2 at *
          have CG2 := Lib.hid (fun p : Later w2 => CN.out p.W (G2.out.trans (p.le.mono G2.out.size)))
          have SF2 := Lib.hid (fun p : Later w2 => SF.out p.W (G2.out.trans (p.le.mono G2.out.size)))
          clear y1 y2 y3 y4 y5 y6 CG q1
          have y1 := fun p : Later w2 => (SF2.out p).1
          have y2 := fun p : Later w2 => (SF2.out p).2.1
          have y3 := fun p : Later w2 => (SF2.out p).2.2.1
          have y4 := fun p : Later w2 => (SF2.out p).2.2.2.1
          have y5 := fun p : Later w2 => (SF2.out p).2.2.2.2.1
          have y6 := fun p : Later w2 => (SF2.out p).2.2.2.2.2
          go_wp2_with fail
          refine wp_region_later hmo (by kernel_rfl) ?_
          repeat (go_big_quiet_step ((go_at_call 129; refine calls_later ((CG2.out _).mono fun _ _ x => ⟨x.1, grown_below x.2⟩))))
          refine wpQuiet_nil ?_
          rintro _ ⟨q2, rfl⟩
          have G3 := Lib.hid (G2.out.trans (q2.le.mono G2.out.size))
          generalize q2.W = w3 at *
          clear y1 y2 y3 y4 y5 y6 q2 SF2 CG2
          have S3 := HS1.out.below G3.out
          obtain ⟨cb, c0, c1, c3, c5, c6⟩ := SF.out w3 G3.out
          have HS3 := Lib.hid S3
          have HM3 := Lib.hid (S3.1.map.drewN 1)
          clear S3
          go_wp2_with fail
          go_still_tail 11, (by kernel_rfl)
          change wpList _ _ _ _ _ w3.drew
          go_wp2_with (first
            | (at_delete; refine wpList_delete_v (b := m) (n := (keysOf (p :: P) M).length) (k := 22) (q := .u64) (R := plainElem Tryz.prog 3) (M := wM M) rfl _ _ rfl Tryz.underlying22 Tryz.underlying145 rfl HM3.out key rfl HWF.out ?_; intro w4 hm4 ht4)
            | go_in)
          (try go_frame)
          have S4 := HS3.out.below (Below.refl _ _).drew
          have kt := keeps_turned ht4
          have HF := HS3.out.1.inv.first HLV.out
          have hlen : (keysOf (p :: P) M).length = (keysOf P (delM M p.1)).length + 1 := by rw [HF.2]; rfl
          have hM : M p.1 = some p.2 := live_iff.1 HLV.out
          rw [← HPP.out.1] at hm4
          have hm5 : UMap w4 m (keysOf P (delM M p.1)).length (wM (delM M p.1)) := by
            have e1 : (wM M p.1).isSome = true := by unfold wM; rw [hM]; rfl
            rw [e1, if_pos rfl, hlen, Nat.add_sub_cancel] at hm4
            refine hm4.congr (fun x _ => ?_)
            unfold wM delM
            by_cases e : x = p.1
            · rw [if_pos e, if_pos e]; rfl
            · rw [if_neg e, if_neg e]
          have hk5 : ∃ k, keysOf P (delM M p.1) = G.drop k ∧ k ≤ G.length - most := by
            obtain ⟨k, hk, hkm⟩ := S4.2.2.1
            refine ⟨k + 1, ?_, ?_⟩
            · rw [HF.2] at hk
              have := congrArg List.tail hk
              rw [List.tail_cons, List.tail_drop] at this
              exact this
            · have h1 := congrArg List.length hk
              rw [List.length_drop, HPP.out.2.2] at h1
              have := HMK.out
              omega
          have HQ := S4.1.que
          have top4 := S4.1.top.keep kt HBm.out
          have cb := kt.cell S4.2.1 HSB.out.2
          have c1 := kt.cell S4.1.c1 HBm.out
          rw [HN.out] at c1
          have fz := top4.free 1
          have HT := HQ.tail
          rw [HN.out] at HT
          obtain ⟨g', o', e1, e2, e3, e4, t1, t2⟩ := HT
          simp at e1 e2
          obtain ⟨rfl, rfl⟩ := e1
          subst e2
          have hgm : ∀ k, (Value.slice (some ⟨g, o, none⟩) (p :: P).length c).ownBlock = some k → k ≠ m := fun k e e2 => HQ.ne_map S4.1.map (e2 ▸ e)
          have hgm : g ≠ m := hgm g rfl
          have FRONT := Lib.hid (fun (u : Value) (hu : Que w4 u P) (hg : ∀ k, u.ownBlock = some k → k = g) => (S4.front HS.out.1 HSB.out.1 hm5 kt HS.out.2.1 HSB.out.2 HF.1 hk5 hu hg).below (Below.refl _ _).drew)
          have hcc : (c : Int) ≤ 9223372036854775807 := by unfold maxLen at e4; omega
          by_cases hc1 : c = 1
          · obtain ⟨hP0, hq⟩ := t2 hc1
            have FIN := Lib.hid (FRONT.out _ (hq.keep kt (fun k e e2 => by simp [Value.ownBlock] at e; omega)) (fun k e => by simpa [Value.ownBlock] using e.symm))
            subst hP0
            subst hc1
            simp only [List.length_nil, Nat.zero_add] at *
            clear S4 HF t1 t2 FRONT e4 e3 hq HQ kt hm4 ht4 hlen hM hm5 hk5 top4 hgm
            go_wp2_with fail
            go_region
            all_goals
              go_wp2_with fail
              go_roundg 0
              case rel => exact ⟨_, [], _, rfl, FIN.out⟩
              case measure => have := HK.out; simp at this; omega
          · have FIN := Lib.hid (FRONT.out _ ((t1 hc1).keep kt (fun k e e2 => by simp [Value.ownBlock] at e; omega)) (fun k e => by simpa [Value.ownBlock] using e.symm))
            have c2 : 1 < c := by omega
            have HE3 := Lib.hid e3
            clear S4 HF t1 t2 hc1 FRONT e4 e3 HQ kt hm4 ht4 hlen hM hm5 hk5 top4 hgm
            go_wp2_with fail
            go_region
            all_goals
              go_wp2_with fail
              go_roundg P.length
              case rel => exact ⟨_, P, _, rfl, FIN.out⟩
              case measure => have := HK.out; simp at this; omega
        · have d1 : decide (most < kl) = false := decide_eq_false hmk
          have d2 : decide ((most : Int) < (kl : Int)) = false := decide_eq_false (by omega)
          have FIN := Lib.hid (fun (W : World) (k : Below wr.heap.size wr W) => (by
            have SS := HS1.out.below k
            obtain ⟨kk, hk1, hk2⟩ := SS.2.2.1
            exact ⟨SS.1, last_ofG hk1 hk2 (by rw [HPP.out.2.2]; omega), SS.2.2.2.2, SS.2.2.2.1⟩ : Gh W b m (.slice (some ⟨g, o, none⟩) (p :: P).length c) (p :: P) M now most ∧ keysOf (p :: P) M = lastG most G ∧ (∀ g', (Value.slice (some ⟨g, o, none⟩) (p :: P).length c).ownBlock = some g' → S g') ∧ Keeps S w W))
          have kb : (kl : Int) ≤ 1000000 := by
            have h1 : kl ≤ (p :: P).length := by rw [← HPP.out.2.2]; unfold keysOf; rw [List.length_map]; exact List.length_filter_le _ _
            have h2 := HS1.out.1.len
            have h3 := HS1.out.1.big
            omega
          have nb : (N : Int) ≤ 1000000 := by
            have h2 := HS1.out.1.len
            have h3 := HS1.out.1.big
            have := HN.out
            omega
          clear hmk
          go_wp2_with fail
          refine wp_region_later hmo (by kernel_rfl) ?_
          repeat (go_big_quiet_step ((go_at_call 129; refine calls_later ((CG.out _).mono fun _ _ x => ⟨x.1, grown_below x.2⟩))))
          go_big_quiet_want
          refine quiet_lenU (.tmp 22) rfl rfl LEN.out ?_
          (try simp only [Act.put, List.setIfInBounds_toArray, List.set_cons_zero, List.set_cons_succ])
          go_big_quiet_on
          repeat (go_big_quiet_step ((fail)))
          refine wpQuiet_nil ?_
          rintro _ ⟨q1, rfl⟩
          have G2 := Lib.hid q1.le
          generalize q1.W = w2 at *
          have LEN2 := Lib.hid (fun p : Later w2 => (HS1.out.below (G2.out.trans (p.le.mono G2.out.size))).1.map)
          have SF2 := Lib.hid (fun p : Later w2 => SF.out p.W (G2.out.trans (p.le.mono G2.out.size)))
          clear y1 y2 y3 y4 y5 y6 CG q1
          have y1 := fun p : Later w2 => (SF2.out p).1
          have y2 := fun p : Later w2 => (SF2.out p).2.1
          have y3 := fun p : Later w2 => (SF2.out p).2.2.1
          rw [HPP.out.2.2] at LEN2
          have HBIG : Hid (2 * kl + 8 < N + 1 ∨ ¬ 2 * kl + 8 < N + 1) := Lib.hid (Classical.em _)
          rcases HBIG.out with hb | hb
          · have d3 : decide (2 * (kl : Int) + 8 < (N : Int) + 1) = true := decide_eq_true (by omega)
            clear hb
            go_wp2_with fail
            refine wp_region_later hmo (by kernel_rfl) ?_
            repeat (go_big_quiet_step ((fail)))
            go_big_quiet_want
            refine quiet_lenU (.tmp 66) rfl rfl LEN2.out ?_
            (try simp only [Act.put, List.setIfInBounds_toArray, List.set_cons_zero, List.set_cons_succ])
            go_big_quiet_on
            repeat (go_big_quiet_step ((fail)))
            refine wpQuiet_nil ?_
            rintro _ ⟨q2, rfl⟩
            have G3 := Lib.hid (G2.out.trans (q2.le.mono G2.out.size))
            generalize q2.W = w3 at *
            clear y1 y2 y3 q2 SF2 LEN2
            have F3 := FIN.out w3.drew (G3.out.trans ((Below.refl w3.heap.size w3).mono G3.out.size).drew)
            obtain ⟨cb, c0, c1, c3, c5, c6⟩ := SF.out w3 G3.out
            have DEL := del_puts (w := w3.drew) (B := B) (b := b) (m := m) ⟨cb, c0, F3.1.map⟩ F3.1.que (PutsOk.of F3.1.inv F3.1.big) (by have := F3.1.len; have := F3.1.big; omega) (fun e => HBL.out B (F3.2.2.1 B e) rfl) (F3.1.que.ne F3.1.top (by decide))
            rw [HN.out] at DEL
            replace DEL := Lib.hid DEL
            have HF3 := Lib.hid F3
            have cb3 : w3.drew.cell? ⟨B, 0, none⟩ = some (.pointer (some ⟨b, 0, none⟩)) := cb
            have c13 : w3.drew.cell? ⟨b, 1, none⟩ = some (.slice (some ⟨g, o, none⟩) (N + 1) c) := c1
            clear F3 cb c0 c1 c3 c5 c6
            go_wp2_with fail
            go_region_law (first
                | (go_simp; go_at_call 130; (with_reducible refine DEL.out.mono ?_); rintro e w4 ⟨A4, cc4, rfl, hq4, hg4, k4⟩; have cb4 := k4.cell cb3 (fun e => HBL.out B (HF3.out.2.2.1 B (by rw [HN.out]; exact e)) rfl); have c14 := k4.cell c13 (fun e => HF3.out.1.que.ne HF3.out.1.top (by decide) (by rw [HN.out]; exact e)); have fz4 : w4.frozen? ⟨b, 1, none⟩ = false := (HF3.out.1.top.keep k4 (fun e => HF3.out.1.que.ne HF3.out.1.top (by decide) (by rw [HN.out]; exact e))).free 1))
            all_goals
              have SI := HF3.out.1.sifted (w' := w4) (by rw [HN.out]; exact k4) hq4 (fun g e => by rw [HN.out]; exact hg4 g e)
              have FN := Lib.hid (show Gh (w4.setCell ⟨b, 1, none⟩ (.slice A4 ((p :: P).filter (live M)).length cc4)) b m (.slice A4 ((p :: P).filter (live M)).length cc4) ((p :: P).filter (live M)) M now most ∧ keysOf ((p :: P).filter (live M)) M = lastG most G ∧ (∀ g', (Value.slice A4 ((p :: P).filter (live M)).length cc4).ownBlock = some g' → S g') ∧ Keeps S w (w4.setCell ⟨b, 1, none⟩ (.slice A4 ((p :: P).filter (live M)).length cc4)) from
                ⟨SI.1, by rw [SI.2]; exact HF3.out.2.1, fun g' e => HF3.out.2.2.1 g' (by rw [HN.out]; exact hg4 g' e), (HF3.out.2.2.2.trans (T := S) (k4.mono (fun n _ e => HF3.out.2.2.1 n (by rw [HN.out]; exact e))) (fun n hn => .inl hn)).setCell (p := ⟨b, 1, none⟩) (.inl HS.out.1) _⟩)
              clear SI hq4 hg4 k4 cb4 c14 cb3 c13
              generalize ((p :: P).filter (live M)).length = fl at *
              go_wp2
              go_end0
              exact ⟨rfl, _, _, _, FN.out.1, FN.out.2.1, FN.out.2.2.1, FN.out.2.2.2⟩
          · have d3 : decide (2 * (kl : Int) + 8 < (N : Int) + 1) = false := decide_eq_false (by omega)
            clear hb
            go_wp2_with fail
            refine wp_region_later hmo (by kernel_rfl) ?_
            repeat (go_big_quiet_step ((fail)))
            go_big_quiet_want
            refine quiet_lenU (.tmp 66) rfl rfl LEN2.out ?_
            (try simp only [Act.put, List.setIfInBounds_toArray, List.set_cons_zero, List.set_cons_succ])
            go_big_quiet_on
            repeat (go_big_quiet_step ((fail)))
            refine wpQuiet_nil ?_
            rintro _ ⟨q2, rfl⟩
            have F3 := Lib.hid (FIN.out q2.W (G2.out.trans (q2.le.mono G2.out.size)))
            clear y1 y2 y3
            go_wp2_with fail
            go_end0
            exact ⟨rfl, _, _, _, F3.out.1, F3.out.2.1, F3.out.2.2.1, F3.out.2.2.2⟩
      · rw [hlv] at CG CN
        have HLV := Lib.hid hlv
        clear hlv
        go_wp2_with fail
        refine wp_region_later hmo (by kernel_rfl) ?_
        repeat (go_big_quiet_step ((go_at_call 129; refine calls_later ((CG.out _).mono fun _ _ x => ⟨x.1, grown_below x.2⟩))))
        refine wpQuiet_nil ?_
        rintro _ ⟨q1, rfl⟩
        have G2 := Lib.hid q1.le
        generalize q1.W = w2 at *
        have CG2 := Lib.hid (fun p : Later w2 => CN.out p.W (G2.out.trans (p.le.mono G2.out.size)))
        have SF2 := Lib.hid (fun p : Later w2 => SF.out p.W (G2.out.trans (p.le.mono G2.out.size)))
        clear y1 y2 y3 y4 y5 y6 CG q1
        have y1 := fun p : Later w2 => (SF2.out p).1
        have y2 := fun p : Later w2 => (SF2.out p).2.1
        have y3 := fun p : Later w2 => (SF2.out p).2.2.1
        have y4 := fun p : Later w2 => (SF2.out p).2.2.2.1
        have y5 := fun p : Later w2 => (SF2.out p).2.2.2.2.1
        have y6 := fun p : Later w2 => (SF2.out p).2.2.2.2.2
        go_wp2_with fail
        refine wp_region_later hmo (by kernel_rfl) ?_
        repeat (go_big_quiet_step ((go_at_call 129; refine calls_later ((CG2.out _).mono fun _ _ x => ⟨x.1, grown_below x.2⟩))))
        refine wpQuiet_nil ?_
        rintro _ ⟨q2, rfl⟩
        have G3 := Lib.hid (G2.out.trans (q2.le.mono G2.out.size))
        generalize q2.W = w3 at *
        clear y1 y2 y3 y4 y5 y6 q2 SF2 CG2
        have S3 := HS1.out.below G3.out
        have cb := S3.2.1
        have c1 := S3.1.c1
        rw [HN.out] at c1
        have fz := S3.1.top.free 1
        have HT := S3.1.que.tail
        rw [HN.out] at HT
        obtain ⟨g', o', e1, e2, e3, e4, t1, t2⟩ := HT
        simp at e1 e2
        obtain ⟨rfl, rfl⟩ := e1
        subst e2
        have HD := S3.1.inv.dead HLV.out
        have HP := Lib.hid HN.out
        have FRONT := Lib.hid (fun (u : Value) (hu : Que w3 u P) (hg : ∀ k, u.ownBlock = some k → k = g) => (S3.front HS.out.1 HSB.out.1 (by rw [HD.2]; exact S3.1.map) (Keeps.refl _ _) HS.out.2.1 HSB.out.2 HD.1 (by rw [HD.2]; exact S3.2.2.1) hu hg).below (Below.refl _ _).drew)
        have hcc : (c : Int) ≤ 9223372036854775807 := by unfold maxLen at e4; omega
        by_cases hc1 : c = 1
        · obtain ⟨hP0, hq⟩ := t2 hc1
          have FIN := Lib.hid (FRONT.out _ hq (fun k e => by simpa [Value.ownBlock] using e.symm))
          subst hP0
          subst hc1
          simp only [List.length_nil, Nat.zero_add] at *
          clear S3 HD t1 t2 FRONT e4 e3 hq
          go_wp2_with fail
          go_region
          all_goals
            go_wp2_with fail
            go_roundg 0
            case rel => exact ⟨_, [], M, rfl, FIN.out⟩
            case measure => have := HK.out; simp at this; omega
        · have FIN := Lib.hid (FRONT.out _ (t1 hc1) (fun k e => by simpa [Value.ownBlock] using e.symm))
          have c2 : 1 < c := by omega
          have HE3 := Lib.hid e3
          clear S3 HD t1 t2 hc1 FRONT e4 e3
          go_wp2_with fail
          go_region
          all_goals
            go_wp2_with fail
            go_roundg P.length
            case rel => exact ⟨_, P, M, rfl, FIN.out⟩
            case measure => have := HK.out; simp at this; omega
end

end Go.Proofs.YtbgknopjgohocaaGreat


/- The program's history: Put, Take, Clear, All. -/
namespace Go.Proofs.YtbgknopjgohocaaGreat
open Go.RowKit Go.Maps Go.WideMaps Go.WideElems
set_option linter.unusedVariables false

section
variable {w w' : World} {b m n now most N : Nat} {M : Int → Option Nat} {P : List (Int × Nat)} {v : Value} {G : List Int} {S : Nat → Prop}

theorem lastG_le (most : Nat) (G : List Int) : (lastG most G).length ≤ most := by
  unfold lastG; rw [List.length_drop]; omega
theorem lastG_same {most : Nat} {G : List Int} (h : G.length ≤ most) : lastG most G = G := by
  unfold lastG; rw [show G.length - most = 0 by omega]; rfl

theorem ghF_now (m : Nat) (v : Value) (now k most : Nat) : ∀ i, i < 4 → (if i = 2 then Value.int .i64 (k : Int) else ghF m v now most i) = ghF m v k most i := fun i hi => by
  have : i = 0 ∨ i = 1 ∨ i = 2 ∨ i = 3 := by omega
  rcases this with rfl | rfl | rfl | rfl <;> rfl

/-- The map behind a store. -/
theorem wM_put (M : Int → Option Nat) (k : Int) (n : Nat) : ∀ x, (if x = k then some (Value.int .i64 (n : Int)) else wM M x) = wM (putM M k n) x := fun x => by
  unfold wM putM
  by_cases e : x = k
  · rw [if_pos e, if_pos e]; rfl
  · rw [if_neg e, if_neg e]
theorem wM_del (M : Int → Option Nat) (k : Int) : ∀ x, (if x = k then none else wM M x) = wM (delM M k) x := fun x => by
  unfold wM delM
  by_cases e : x = k
  · rw [if_pos e, if_pos e]; rfl
  · rw [if_neg e, if_neg e]

/-- The history behind the three turns of a put. -/
theorem Gh.put {w1 w4 W7 : World} {key : Int} {A : Option Addr} {c : Nat} (h : Gh w b m v P M now most) (k0 : 0 ≤ key) (k1 : key ≤ 18446744073709551615) (hN : now < 1000000)
    (e1 : w1 = w.setCell ⟨b, 2, none⟩ (.int .i64 ((now + 1 : Nat) : Int))) (kt : Keeps (fun k => k = m) w1 w4) {n' : Nat} (hm : UMap w4 m n' (fun y => if y = key then some (.int .i64 ((now + 1 : Nat) : Int)) else wM M y)) (hn : n' = if (wM M key).isSome then (keysOf P M).length else (keysOf P M).length + 1)
    (hb : Below w4.heap.size w4 W7) {w6 : World} (hq : Que w6 (.slice A (P.length + 1) c) (P ++ [(key, now + 1)])) (k6 : Keeps (fun k => v.ownBlock = some k) W7 w6) (hu : (Value.slice A (P.length + 1) c).ownBlock = v.ownBlock ∨ ∃ g, (Value.slice A (P.length + 1) c).ownBlock = some g ∧ W7.heap.size ≤ g ∧ g < w6.heap.size) :
    Gh (w6.setCell ⟨b, 1, none⟩ (.slice A (P.length + 1) c)) b m (.slice A (P.length + 1) c) (P ++ [(key, now + 1)]) (putM M key (now + 1)) (now + 1) most ∧ keysOf (P ++ [(key, now + 1)]) (putM M key (now + 1)) = woK key (keysOf P M) ++ [key] := by
  obtain ⟨gi, gk⟩ := h.inv.put k0 k1
  have kb : ¬ v.ownBlock = some b := h.que.ne h.top (by decide)
  have km : ¬ v.ownBlock = some m := h.que.ne_map h.map
  have lb : b < w4.heap.size := by
    have := h.top.lt
    have := kt.size
    rw [e1, World.size_setCell] at this
    omega
  have lm := hm.lt
  have top1 : Arr w1 b 148 4 (ghF m v (now + 1) most) := by rw [e1]; exact (h.top.set 2 _).congr (ghF_now m v now (now + 1) most)
  have top7 := ((top1.keep kt h.bm).below hb lb).keep k6 kb
  have hm7 := (hm.keep (Keeps.of_below hb) (Nat.not_le.2 lm)).keep k6 km
  have kk := keep_cellG w6 b 1 (.slice A (P.length + 1) c)
  have ub : (Value.slice A (P.length + 1) c).ownBlock ≠ some b := hq.ne top7 (by decide)
  have hcnt : (keysOf (P ++ [(key, now + 1)]) (putM M key (now + 1))).length = n' := by
    rw [gk, hn, List.length_append, woK_len _ h.inv.nodup]
    have hh := h.inv.has (k := key)
    have e2 : (wM M key).isSome = (M key).isSome := by unfold wM; cases M key <;> rfl
    rw [e2]
    by_cases hk : key ∈ keysOf P M
    · rw [if_pos hk, if_pos (hh.1 hk)]
      have := List.length_pos_of_mem hk
      simp; omega
    · rw [if_neg hk, if_neg (fun x => hk (hh.2 x))]; rfl
  refine ⟨⟨(top7.set 1 _).congr (ghF_set m v _ (now + 1) most), ?_, hq.keep kk (fun g e e2 => ub (e2 ▸ e)), gi, by rw [List.length_append]; have := h.len; simp; omega, by omega, h.mst⟩, gk⟩
  rw [hcnt]
  exact (hm7.keep kk (fun e => h.bm e.symm)).congr (fun x _ => wM_put M key (now + 1) x)

set_option maxRecDepth 100000 in
set_option maxHeartbeats 4000000 in
theorem gh_put (h : GhO b most G N S w) (ho : Own S w) (hN : N < 1000000) (key : Int) (k0 : 0 ≤ key) (k1 : key ≤ 18446744073709551615) :
    Calls Tryz.prog 120 #[.pointer (some ⟨b, 0, none⟩), .int .u64 key] w fun e w' => e = .returned (.bool (decide (key ∈ putG most G key))) ∧ GhO b most (putG most G key) (N + 1) (Ext S w w') w' ∧ Keeps S w w' := by
  obtain ⟨m, v, P, M, now, h, rfl, hNN, hl, sb, sm, sv⟩ := h
  obtain ⟨A, c, rfl, -, -, -⟩ := h.que.open_
  have RR := Lib.hid (gh_real h)
  have c0 := h.c0
  have c1 := h.c1
  have c2 := h.c2
  have f2 := h.top.free 2
  have HH := Lib.hid h
  have HS := Lib.hid (And.intro sb (And.intro sm (And.intro sv ho)))
  have HNN := Lib.hid (And.intro hNN hN)
  have nb : (now : Int) < 1000000 := by omega
  have top1 := h.top.set 2 (.int .i64 ((now : Int) + 1))
  have hm1 := h.map.keep (keep_cellG w b 2 (.int .i64 ((now : Int) + 1))) (fun e => h.bm e.symm)
  have d0 : (w.setCell ⟨b, 2, none⟩ (.int .i64 ((now : Int) + 1))).cell? ⟨b, 0, none⟩ = some (.map (some m)) := top1.cell (i := 0) (by omega)
  have d2 : (w.setCell ⟨b, 2, none⟩ (.int .i64 ((now : Int) + 1))).cell? ⟨b, 2, none⟩ = some (.int .i64 ((now : Int) + 1)) := by
    have := top1.cell (i := 2) (by omega)
    rw [this]; rfl
  have HM1 := Lib.hid (show UMap (w.setCell ⟨b, 2, none⟩ (.int .i64 ((now : Int) + 1))).drew m (keysOf P M).length (wM M) from hm1.drewN 1)
  have HWF := Lib.hid (And.intro (show (Lit.int .u64 key).wf = true from WalkArith.wf_u64 ⟨k0, k1⟩) (show (keysOf P M).length < maxLen by
    have h1 : (keysOf P M).length ≤ P.length := by unfold keysOf; rw [List.length_map]; exact List.length_filter_le _ _
    have := h.len
    unfold maxLen; omega))
  have T1 := Lib.hid top1
  have KK := Lib.hid (And.intro k0 k1)
  clear h sb sm sv ho hNN hN top1 hm1 hl k0 k1
  go_enter Tryz.func120, Tryz.ntmps120
  go_wp2_with fail
  refine RR.out.mono ?_
  rintro e w' ⟨rfl, rfl⟩
  go_wp2_with fail
  generalize hw1 : w.setCell ⟨b, 2, none⟩ (.int .i64 ((now : Int) + 1)) = w1 at *
  have HW1 := Lib.hid hw1
  clear hw1 c0 c2 f2
  go_still_tail 9, (by kernel_rfl)
  change wpList _ _ _ _ _ w1.drew
  go_wp2_with (first
    | (at_mapUpdate; refine wpList_update_v (b := m) (n := (keysOf P M).length) (k := 22) (q := .u64) (R := plainElem Tryz.prog 3) (M := wM M) rfl _ _ _ rfl Tryz.underlying22 Tryz.underlying145 rfl HM1.out HWF.out.2 key (.int .i64 ((now : Int) + 1)) rfl rfl HWF.out.1 (plainElem_int Tryz.underlying3 (WalkArith.wf_i64 (by omega))) ?_; intro w4 hm4 ht4)
    | go_in)
  have kt := keeps_turned ht4
  have kt1 : Keeps (fun j => j = m) w1 w4 := ⟨kt.os, kt.tape, kt.output, kt.size, kt.block⟩
  have top4 := T1.out.keep kt1 HH.out.bm
  have c1 : w4.cell? ⟨b, 1, none⟩ = some (.slice A P.length c) := top4.cell (i := 1) (by omega)
  have c2 : w4.cell? ⟨b, 2, none⟩ = some (.int .i64 ((now : Int) + 1)) := by
    have := top4.cell (i := 2) (by omega)
    rw [this]; rfl
  have KW1 := Lib.hid (show Keeps S w w1 from by rw [← HW1.out]; exact (Keeps.refl S w).setCell (p := ⟨b, 2, none⟩) (.inl HS.out.1) _)
  have KW4 := Lib.hid (show Keeps S w w4 from KW1.out.trans (T := S) (kt1.mono (fun n _ e => by rw [e]; exact HS.out.2.1)) (fun n hn => .inl hn))
  have z14 : w.heap.size = w1.heap.size := by rw [← HW1.out, World.size_setCell]
  have z4 : w1.heap.size ≤ w4.heap.size := kt1.size
  have q1 : Que w1 (.slice A P.length c) P := by
    rw [← HW1.out]
    exact HH.out.que.keep (keep_cellG w b 2 _) (fun g e e2 => HH.out.que.ne HH.out.top (by decide) (e2 ▸ e))
  have q4 : Que w4 (.slice A P.length c) P := q1.keep kt1 (fun g e e2 => HH.out.que.ne_map HH.out.map (e2 ▸ e))
  have B7 := Lib.hid (((Below.refl w4.heap.size w4).alloc (Nat.le_refl _) (.cells #[.int .u64 key, .int .i64 ((now : Int) + 1)] 187)).drew)
  have Q7 := Lib.hid (q4.old B7.out)
  have top7 := Lib.hid (top4.below B7.out top4.lt)
  have NE := Lib.hid (show (Value.slice A P.length c).ownBlock ≠ some w4.heap.size from fun e => by have := q4.lt _ e; omega)
  have LEN := Lib.hid (show P.length ≤ 1000000 by have := HH.out.len; have := HH.out.big; omega)
  have HM4 := Lib.hid hm4
  have KT1 := Lib.hid kt1
  have kbv := Lib.hid (show ¬ (Value.slice A P.length c).ownBlock = some b from HH.out.que.ne HH.out.top (by decide))
  have BX := Lib.hid (show ((w4.alloc (.cells #[.int .u64 key, .int .i64 ((now : Int) + 1)] 187)).drew).heap[w4.heap.size]? = some (.cells #[.int .u64 (key, now + 1).1, .int .i64 (((key, now + 1).2 : Nat) : Int)] 187 (0, 0)) from heap_at w4 _ _ rfl)
  have c1a : (w4.alloc (.cells #[.int .u64 key, .int .i64 ((now : Int) + 1)] 187)).cell? ⟨b, 1, none⟩ = some (.slice A P.length c) := (Keeps.of_below ((Below.refl w4.heap.size w4).alloc (Nat.le_refl _) _)).old c1
  have c2a : (w4.alloc (.cells #[.int .u64 key, .int .i64 ((now : Int) + 1)] 187)).cell? ⟨b, 2, none⟩ = some (.int .i64 ((now : Int) + 1)) := (Keeps.of_below ((Below.refl w4.heap.size w4).alloc (Nat.le_refl _) _)).old c2
  clear hm4 ht4 kt kt1 top4 q1 q4 z14 z4 d0 d2
  (try go_frame)
  go_wp2_with fail
  go_region_law
    ((refine step_que (by rfl) _ _ (by rfl) (.slice A P.length c) P (by rfl) Q7.out (key, now + 1) w4.heap.size (by rfl) BX.out NE.out LEN.out ?_; intro A6 c6 w6 hq6 k6 hu6; have x6 : w6.cell? ⟨b, 1, none⟩ = some (.slice A P.length c) := (top7.out.keep k6 kbv.out).cell (i := 1) (by omega); have z6 : w6.frozen? ⟨b, 1, none⟩ = false := (top7.out.keep k6 kbv.out).free 1; have HQ6 := Lib.hid hq6; have HK6 := Lib.hid k6; have HU6 := Lib.hid hu6; clear hq6 k6 hu6))
  all_goals
    have GP := HH.out.put (A := A6) (c := c6) KK.out.1 KK.out.2 (by have := HNN.out; omega) (w1 := w1) (by rw [← HW1.out]; rfl) KT1.out HM4.out rfl B7.out HQ6.out HK6.out HU6.out
    have K6S := HK6.out.mono (T := S) (fun n _ e => HS.out.2.2.1 n e)
    have kS7 : Keeps S w (w6.setCell ⟨b, 1, none⟩ (.slice A6 (P.length + 1) c6)) :=
      ((KW4.out.trans (Keeps.of_below B7.out) (fun n hn => .inr (Nat.le_trans KW4.out.size hn))).trans (T := S) K6S (fun n hn => .inl hn)).setCell (p := ⟨b, 1, none⟩) (.inl HS.out.1) _
    have SV : ∀ g, (Value.slice A6 (P.length + 1) c6).ownBlock = some g → Ext S w (w6.setCell ⟨b, 1, none⟩ (.slice A6 (P.length + 1) c6)) g := fun g e => by
      rcases HU6.out with h1 | ⟨g', h1, h2, h3⟩
      · exact .inl (HS.out.2.2.1 g (by rw [← h1]; exact e))
      · rw [h1] at e
        simp at e
        subst e
        refine .inr ⟨Nat.le_trans (Nat.le_trans KW4.out.size B7.out.size) h2, by rw [World.size_setCell]; exact h3⟩
    have SE := Lib.hid (gh_settle (S := Ext S w (w6.setCell ⟨b, 1, none⟩ (.slice A6 (P.length + 1) c6))) GP.1 (HS.out.2.2.2.ext kS7.size) (.inl HS.out.1) (.inl HS.out.2.1) SV)
    have HGP := Lib.hid GP.2
    have HK7 := Lib.hid kS7
    clear GP K6S kS7 SV x6 z6
    generalize w6.setCell ⟨b, 1, none⟩ (.slice A6 (P.length + 1) c6) = w7 at *
    go_wp2_with fail
    refine SE.out.mono ?_
    rintro e w8 ⟨rfl, v8, P8, M8, h8, e8, s8, k8⟩
    have HA := gh_has1 h8 key KK.out.1 KK.out.2
    have EG : keysOf P8 M8 = putG most (keysOf P M) key := by rw [e8, HGP.out]; rfl
    rw [EG] at HA
    replace HA := Lib.hid HA
    have FIN := Lib.hid (show GhO b most (putG most (keysOf P M) key) (N + 1) (Ext S w w8) w8 ∧ Keeps S w w8 from
      ⟨⟨m, v8, P8, M8, now + 1, h8, EG, by have := HNN.out; omega, lastG_le _ _, .inl HS.out.1, .inl HS.out.2.1, fun g e => (s8 g e).elim .inl (fun x => .inr ⟨x.1, Nat.lt_of_lt_of_le x.2 k8.size⟩)⟩, HK7.out.extT k8⟩)
    clear h8 e8 s8 k8 SE EG
    go_wp2_with fail
    refine HA.out.mono ?_
    rintro e w' ⟨rfl, rfl⟩
    go_wp2
    go_ret
    exact ⟨rfl, FIN.out.1, FIN.out.2⟩

set_option maxRecDepth 100000 in
set_option maxHeartbeats 2000000 in
theorem gh_take (h : GhO b most G N S w) (ho : Own S w) (key : Int) (k0 : 0 ≤ key) (k1 : key ≤ 18446744073709551615) :
    Calls Tryz.prog 98 #[.pointer (some ⟨b, 0, none⟩), .int .u64 key] w fun e w' => e = .returned (.bool (decide (key ∈ G))) ∧ GhO b most (woK key G) N (Ext S w w') w' ∧ Keeps S w w' := by
  obtain ⟨m, v, P, M, now, h, rfl, hNN, hl, sb, sm, sv⟩ := h
  have HA := gh_has1 h key k0 k1
  by_cases hin : key ∈ keysOf P M
  · rw [decide_eq_true hin] at HA ⊢
    replace HA := Lib.hid HA
    have c0 := h.c0
    have HH := Lib.hid h
    have HM := Lib.hid h.map
    have HS := Lib.hid (And.intro sb (And.intro sm (And.intro sv ho)))
    have HNN := Lib.hid (And.intro hNN hl)
    have HWF := Lib.hid (show (Lit.int .u64 key).wf = true from WalkArith.wf_u64 ⟨k0, k1⟩)
    have HIN := Lib.hid hin
    clear h sb sm sv ho hNN hl hin k0 k1
    go_enter Tryz.func98, Tryz.ntmps98
    go_wp2_with fail
    refine HA.out.mono ?_
    rintro e w' ⟨rfl, rfl⟩
    go_wp2_with (first
      | (at_delete; refine wpList_delete_v (b := m) (n := (keysOf P M).length) (k := 22) (q := .u64) (R := plainElem Tryz.prog 3) (M := wM M) rfl _ _ rfl Tryz.underlying22 Tryz.underlying145 rfl HM.out key rfl HWF.out ?_; intro w4 hm4 ht4))
    (try go_frame)
    have kt := keeps_turned ht4
    obtain ⟨gi, gk⟩ := HH.out.inv.take key
    have h4 : Gh w4 b m v P (delM M key) now most := by
      have e1 : (wM M key).isSome = true := by
        have := HH.out.inv.has.1 HIN.out
        unfold wM
        obtain ⟨x, hx⟩ := Option.isSome_iff_exists.1 this
        rw [hx]; rfl
      refine { HH.out with top := HH.out.top.keep kt HH.out.bm, map := ?_, que := HH.out.que.keep kt (fun g e e2 => HH.out.que.ne_map HH.out.map (e2 ▸ e)), inv := gi }
      rw [e1, if_pos rfl] at hm4
      rw [gk, woK_len _ HH.out.inv.nodup, if_pos HIN.out]
      exact hm4.congr (fun x _ => wM_del M key x)
    have KS : Keeps S w w4 := kt.mono (fun n _ e => by rw [e]; exact HS.out.2.1)
    have SE := Lib.hid (gh_settle (S := Ext S w w4) h4 (HS.out.2.2.2.ext kt.size) (.inl HS.out.1) (.inl HS.out.2.1) (fun g e => .inl (HS.out.2.2.1 g e)))
    have HGK := Lib.hid gk
    have HKS := Lib.hid KS
    clear h4 kt hm4 ht4 gi gk KS HA c0
    go_wp2_with fail
    refine SE.out.mono ?_
    rintro e w8 ⟨rfl, v8, P8, M8, h8, e8, s8, k8⟩
    have EG : keysOf P8 M8 = woK key (keysOf P M) := by
      rw [e8, HGK.out, lastG_same (Nat.le_trans (woK_le _ _) HNN.out.2)]
    have FIN := Lib.hid (show GhO b most (woK key (keysOf P M)) N (Ext S w w8) w8 ∧ Keeps S w w8 from
      ⟨⟨m, v8, P8, M8, now, h8, EG, HNN.out.1, Nat.le_trans (woK_le _ _) HNN.out.2, .inl HS.out.1, .inl HS.out.2.1, fun g e => (s8 g e).elim .inl (fun x => .inr ⟨x.1, Nat.lt_of_lt_of_le x.2 k8.size⟩)⟩, HKS.out.extT k8⟩)
    clear h8 e8 s8 k8 SE EG
    go_wp2
    go_ret
    exact ⟨rfl, FIN.out.1, FIN.out.2⟩
  · rw [decide_eq_false hin] at HA ⊢
    replace HA := Lib.hid HA
    have EW : woK key (keysOf P M) = keysOf P M := by
      unfold woK
      rw [List.filter_eq_self]
      intro x hx
      have : ¬ x = key := fun e => hin (e ▸ hx)
      simp [this]
    have FIN := Lib.hid (show GhO b most (woK key (keysOf P M)) N (Ext S w w) w from by
      rw [EW]
      exact ⟨m, v, P, M, now, h, rfl, hNN, hl, .inl sb, .inl sm, fun g e => .inl (sv g e)⟩)
    clear h sb sm sv ho hNN hl hin k0 k1 EW
    go_enter Tryz.func98, Tryz.ntmps98
    go_wp2_with fail
    refine HA.out.mono ?_
    rintro e w' ⟨rfl, rfl⟩
    go_wp2
    go_ret
    exact ⟨rfl, FIN.out, Keeps.refl _ _⟩
end

end Go.Proofs.YtbgknopjgohocaaGreat


/- The program's history: All, Clear; of none. -/
namespace Go.Proofs.YtbgknopjgohocaaGreat
open Go.RowKit Go.Maps Go.WideMaps Go.WideElems
set_option linter.unusedVariables false

theorem infoU64 : (Tryz.prog.info? 22).map (fun i => (i.zero, i.size, i.bytes)) = some (some (.int .u64 0), 1, 8) := by kernel_rfl

theorem row_keepG {w w' : World} {T : Nat → Prop} {base sz n : Nat} {t : TypeId} {v : Value} {xs : List Value} (h : w.ownsRow base t sz v n xs) (k : Keeps T w w') (hT : ∀ g, v.ownBlock = some g → ¬ T g) : w'.ownsRow base t sz v n xs := by
  refine ⟨h.1, ?_⟩
  rcases h.2 with x | ⟨g, cap, cur, hv, hb, hc, r⟩
  · exact .inl x
  · exact .inr ⟨g, cap, cur, hv, hb, k.blk hc (hT g (by rw [hv]; rfl)), r⟩

/-- The keys that count among the first k puts. -/
def keysT (P : List (Int × Nat)) (M : Int → Option Nat) (k : Nat) : List Int := keysOf (P.take k) M
theorem keysT_next {P : List (Int × Nat)} {M : Int → Option Nat} {k : Nat} {p : Int × Nat} (hp : P[k]? = some p) : keysT P M (k + 1) = keysT P M k ++ (if live M p then [p.1] else []) := by
  unfold keysT keysOf
  rw [take_next hp, List.filter_append, List.map_append]
  cases h : live M p
  · rw [List.filter_cons_of_neg (by rw [h]; decide)]; rfl
  · rw [List.filter_cons_of_pos h]; rfl

section
variable {w w' : World} {b m n now most N : Nat} {M : Int → Option Nat} {P : List (Int × Nat)} {v : Value} {G : List Int} {S : Nat → Prop}

def RowK (w : World) (base : Nat) (v : Value) (l : List Int) : Prop := w.ownsRow base 22 1 v l.length (l.map (Value.int .u64))

end

end Go.Proofs.YtbgknopjgohocaaGreat


/- The document's rows of keys (layer 23): Has, Without, Put, Same. -/
namespace Go.Proofs.YtbgknopjgohocaaGreat
open Go.RowKit Go.Maps
set_option linter.unusedVariables false

/-- The slice v reads as a row of keys. -/
def RdK (w : World) (v : Value) (l : List Int) : Prop :=
  ∃ A c, v = .slice A l.length c ∧ (0 < l.length → ∃ g, A = some ⟨g, 0, none⟩ ∧ ∀ (i : Nat) (x : Int), l[i]? = some x → w.cell? ⟨g, i, none⟩ = some (.int .u64 x))

theorem RowK.rd {w : World} {base : Nat} {v : Value} {l : List Int} (h : RowK w base v l) : RdK w v l := by
  rcases h.2 with ⟨h1, h2⟩ | ⟨g, cap, cur, e1, hB, hbk, h1, h2, h3, h4⟩
  · exact ⟨none, 0, by rw [h1, h2], fun x => by omega⟩
  · refine ⟨_, cap, e1, fun _ => ⟨g, rfl, fun j x hx => ?_⟩⟩
    have hj : j < l.length := (List.getElem?_eq_some_iff.1 hx).1
    rw [blk_cell' hbk]
    have := congrArg (fun l => l[j]?) h4
    simp only [List.getElem?_take_of_lt (show j < l.length * 1 by omega), Array.getElem?_toList, List.getElem?_map, hx, Option.map_some] at this
    exact this
theorem RdK.old {w w' : World} {v : Value} {l : List Int} (h : RdK w v l) (k : Below w.heap.size w w') : RdK w' v l := by
  obtain ⟨A, c, hv, hc⟩ := h
  refine ⟨A, c, hv, fun h0 => ?_⟩
  obtain ⟨g, hA, hcc⟩ := hc h0
  exact ⟨g, hA, fun i x hx => (Keeps.of_below k).old (hcc i x hx)⟩
theorem RdK.drewN {w : World} {v : Value} {l : List Int} (h : RdK w v l) (n : Nat) : RdK (w.drewN n) v l := h

section
variable {w : World} {v u : Value} {l m : List Int}

theorem woK_take {l : List Int} {k : Nat} {x : Int} (key : Int) (hx : l[k]? = some x) : woK key (l.take (k + 1)) = if x = key then woK key (l.take k) else woK key (l.take k) ++ [x] := by
  obtain ⟨hk, e⟩ := List.getElem?_eq_some_iff.1 hx
  unfold woK
  rw [List.take_succ_eq_append_getElem hk, e, List.filter_append]
  by_cases h : x = key
  · rw [if_pos h]; simp [h]
  · rw [if_neg h]; simp [h]

end

end Go.Proofs.YtbgknopjgohocaaGreat


/- The document's rows of keys: Put. -/
namespace Go.Proofs.YtbgknopjgohocaaGreat
open Go.RowKit Go.Maps
set_option linter.unusedVariables false

section
variable {w : World} {v u : Value} {l m : List Int} {most : Nat}

end

end Go.Proofs.YtbgknopjgohocaaGreat
