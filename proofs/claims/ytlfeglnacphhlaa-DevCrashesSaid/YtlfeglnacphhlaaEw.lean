/- The document's device: Write. -/
import Derived.Test.YtlfeglnacphhlaaEe
import Derived.Test.YtlfeglnacphhlaaDw
import Derived.Deep.RegionLaw
namespace Go.Proofs.Ytlfeglnacphhlaa
open Go.RowKit Go.Maps
set_option linter.unusedVariables false

theorem infoStr : (Try.prog.info? 9).map (fun i => (i.zero, i.size, i.bytes)) = some (some (.string ByteArray.empty), 1, 16) := by kernel_rfl

/-- A row of strings behind an empty one: a step of a region that draws. -/
theorem step_rowT {ops : Array Oper} {o : Oper} {a : Act} {K : Act → World → Prop} {Q : Exit → Act → World → Prop} {E : Prop} {w : World} (hgd : o.guard = none) (s x : Operand)
    (ho : o.op = .call { callee := .builtin .append, args := #[s, x], argTypes := #[60, 60] })
    (base : Nat) (v u : Value) (l : List ByteArray) (hs : a.eval s = v) (hx : a.eval x = u) (hown : w.ownsRow base 9 1 v 0 []) (hu : RdT w u l) (hb : base ≤ w.heap.size) (hn : l.length ≤ 1000000)
    (h : ∀ v' w', w'.ownsRow base 9 1 v' l.length (l.map Value.string) → w.grownBy w' v.ownBlock → (v'.ownBlock = v.ownBlock ∨ v'.ownBlock = some w.heap.size) → K (a.put o.dst v') w') :
    if Region.wanted o (yielded ops a.tmps) = true then Oper.wp Try.prog o a w K Q else E := by
  have hw : Region.wanted o (yielded ops a.tmps) = true := by simp [Region.wanted, hgd]
  rw [if_pos hw]
  obtain ⟨i0, hi, hz0, hz1, hz2⟩ := info_parts infoStr
  rcases hu with ⟨rfl, rfl⟩ | ⟨g, cap, cur, rfl, hh, hc⟩
  · have hrun := run_append_owned_none (P := Try.prog) (w := w) base 60 o.type 9 i0 1 Try.underlying60 hi v 0 [] hown
    have h1 := h v w (by simpa using hown) (World.grownBy.refl w _) (.inl rfl)
    unfold Oper.wp
    simp [execOp, ho, resolve, invoke, builtin, hs, hx, hrun, Result.andThen]
    exact h1
  · obtain ⟨v', w', hrun, r1, r2, _, r4⟩ := run_append_own_at (P := Try.prog) (w := w) base 60 o.type 9 i0 (.string ByteArray.empty) 1 16 Try.underlying60 hi hz0 hz1 hz2 rfl (by decide) v 0 [] hown ⟨g, 0, none⟩ l.length cap (l.map Value.string) (by simp) (fun j u hj => by
      rw [addr_add, Nat.zero_add, blk_cell' hh]
      have hjl : j < l.length := by have := (List.getElem?_eq_some_iff.1 hj).1; simpa using this
      rw [List.getElem?_map, List.getElem?_eq_getElem hjl] at hj
      simp at hj; subst hj
      exact hc j _ (List.getElem?_eq_getElem hjl)) (fun u hu => by obtain ⟨z, _, rfl⟩ := List.mem_map.1 hu; rfl) (by unfold maxLen; omega) (by omega) hb
    have h1 := h v' w' (by simpa using r1) r2 r4
    unfold Oper.wp
    simp [execOp, ho, resolve, invoke, builtin, hs, hx, hrun, Result.andThen]
    exact h1

theorem RdT.of_row {w : World} {base : Nat} {v : Value} {l : List ByteArray} (h : w.ownsRow base 9 1 v l.length (l.map Value.string)) : RdT w v l := by
  rcases h.2 with ⟨h0, h1⟩ | ⟨g, cap, cur, hv, hb, hc, hm1, hm2, hs, ht⟩
  · exact .inl ⟨h0, List.eq_nil_of_length_eq_zero h1⟩
  · refine .inr ⟨g, cap, cur, hv, hc, fun j x hx => ?_⟩
    have hj : j < l.length := (List.getElem?_eq_some_iff.1 hx).1
    have : (cur.toList.take (l.length * 1))[j]? = (l.map Value.string)[j]? := by rw [ht]
    rw [List.getElem?_take_of_lt (by omega), List.getElem?_map, hx] at this
    simpa using this

theorem row_done {w : World} {base g cap : Nat} {l : List ByteArray} {c : ByteArray} (h : w.ownsRow base 9 1 (.slice (some ⟨g, 0, none⟩) (l.length + 1) cap) (l.length + 1) (l.map Value.string ++ [Value.string c])) : RdT w (.slice (some ⟨g, 0, none⟩) (l.length + 1) cap) (l ++ [c]) := by
  have e1 : (l ++ [c]).length = l.length + 1 := by simp
  have e2 : (l ++ [c]).map Value.string = l.map Value.string ++ [Value.string c] := by simp
  have h2 : w.ownsRow base 9 1 (.slice (some ⟨g, 0, none⟩) (l.length + 1) cap) (l ++ [c]).length ((l ++ [c]).map Value.string) := by rw [e1, e2]; exact h
  exact RdT.of_row h2

theorem news_kept {W W' : World} {N g : Nat} {u : Value} {t : TypeId} (hb : W.heap[N]? = some (.cells #[u] t (0, 0))) (hg : W.grownBy W' (some g)) (hne : N ≠ g) : ∀ (j : Nat) (x : Value), [u][j]? = some x → W'.cell? ((⟨N, 0, none⟩ : Addr).add j) = some x :=
  World.news_of_block (cs := #[u]) ((hg.block N (blk_lt' hb) (fun e => hne (by simpa using e))).trans hb)

section
variable {w w' : World} {e q G : Nat} {LV : Nat → Value} {s : DS} {ps : PS} {S : Nat → Prop}

/-- A write is laid to the others of its sector. -/
theorem Rv.push (h : Rv w e q G LV s) {i : Nat} (hi : i < s.n) {c : ByteArray} {V : Value} (hV : RdT w V (s.loose i ++ [c])) : Rv (w.setCell ⟨G, i * 3 + 1, none⟩ V) e q G (fun j => if j = i then V else LV j) (pushD s i c) := by
  have k := keep_cell w G (i * 3 + 1) V
  have hne : ∀ v l, RdT w v l → ∀ g, v.ownBlock = some g → ¬ g = G := fun v l hv g x y => hv.ne h.fx (by decide) (y ▸ x)
  refine ⟨(h.top.keep k (fun x => h.top.ne h.fx (by decide) x)).congr (fun i hi => ?_), (h.fx.set (i * 3 + 1) V).congr (fun j hj => ?_), fun j hj => ?_, fun j hj => ?_, h.n1, h.r1, h.w1⟩
  · have : i = 0 ∨ i = 1 ∨ i = 2 ∨ i = 3 := by omega
    rcases this with rfl | rfl | rfl | rfl <;> rfl
  · unfold oneF
    by_cases e1 : j = i * 3 + 1
    · subst e1
      rw [if_pos rfl, if_neg (by omega), if_pos (by omega), show (i * 3 + 1) / 3 = i by omega]
      show V = if i = i then V else LV i
      rw [if_pos rfl]
    · rw [if_neg e1]
      by_cases e2 : j % 3 = 0
      · rw [if_pos e2, if_pos e2]; rfl
      · rw [if_neg e2, if_neg e2]
        by_cases e3 : j % 3 = 1
        · rw [if_pos e3, if_pos e3]
          show LV (j / 3) = if j / 3 = i then V else LV (j / 3)
          rw [if_neg (by omega)]
        · rw [if_neg e3, if_neg e3]; rfl
  · by_cases e1 : j = i
    · subst e1
      simp only [pushD, if_true]
      exact hV.keep k (hne _ _ hV)
    · simp only [pushD, if_neg e1]
      exact (h.lo j hj).keep k (hne _ _ (h.lo j hj))
  · by_cases e1 : j = i
    · subst e1
      simp only [pushD, if_true, List.length_append, List.length_cons, List.length_nil]
      have := h.ll j hj; omega
    · simp only [pushD, if_neg e1]
      have := h.ll j hj; omega

theorem rv_done {w2 w6 : World} {i g n cap : Nat} {c : ByteArray} (h : Rv w2 e q G LV s) (hi : i < s.n) (hR : RdT w6 (.slice (some ⟨g, 0, none⟩) n cap) (s.loose i ++ [c])) (hk : Below w2.heap.size w2 w6) (hg : w2.heap.size ≤ g ∧ g < w6.heap.size) (hz : w2.heap.size = w.heap.size) (se : S e) (sG : S G) (sl : ∀ j, j < s.n → ∀ g, (LV j).ownBlock = some g → S g)
    (kk : Keeps (fun k => S k ∨ k = q) w w2) (hp : RPow w2 q ps) (hS : ¬ S q) (ow : Own S w) :
    Ending.returned (.int .i64 0) = .returned (.int .i64 0) ∧ RvO e q (pushD s i c) (Ext S w (w6.setCell ⟨G, i * 3 + 1, none⟩ (.slice (some ⟨g, 0, none⟩) n cap))) (w6.setCell ⟨G, i * 3 + 1, none⟩ (.slice (some ⟨g, 0, none⟩) n cap)) ∧ RPow (w6.setCell ⟨G, i * 3 + 1, none⟩ (.slice (some ⟨g, 0, none⟩) n cap)) q ps ∧ Keeps (fun k => S k ∨ k = q) w (w6.setCell ⟨G, i * 3 + 1, none⟩ (.slice (some ⟨g, 0, none⟩) n cap)) := by
  have kb := Keeps.of_below hk
  have hlt : ∀ k, S k → ¬ w2.heap.size ≤ k := fun k hk => by have := ow k hk; omega
  have h6 : Rv w6 e q G LV s := h.keep kb (hlt _ se) (hlt _ sG) (fun i hi g e => hlt _ (sl i hi g e))
  have h7 := h6.push hi hR
  have kS : Keeps (fun k => S k ∨ k = q) w (w6.setCell ⟨G, i * 3 + 1, none⟩ (.slice (some ⟨g, 0, none⟩) n cap)) :=
    (kk.trans (kb.mono (T := fun k => w2.heap.size ≤ k) (fun _ _ x => x)) (fun n x => .inr (by omega))).setCell (p := ⟨G, i * 3 + 1, none⟩) (.inl (.inl sG)) _
  have z := hk.size
  refine ⟨rfl, ⟨G, _, h7, .inl se, .inl sG, fun j hj k e => ?_⟩, (hp.keep kb (by have := hp.lt; omega)).keep (keep_cell _ _ _ _) (fun x => hS (x ▸ sG)), kS⟩
  by_cases e1 : j = i
  · simp only [if_pos e1] at e
    have : g = k := by simpa [Value.ownBlock] using e
    exact .inr ⟨by omega, by rw [World.size_setCell]; omega⟩
  · simp only [if_neg e1] at e
    exact .inl (sl j hj k e)

set_option maxRecDepth 100000 in
set_option maxHeartbeats 40000000 in
theorem rv_write1 (h : RvO e q s S w) (ho : Own S w) (hp : RPow w q ps) (hS : ¬ S q) {i : Nat} (hi : i < s.n) {c : ByteArray} (hc : c.size = 64) (hl : s.lim < 1000000)
    (o0 : ps.off = false) (o1 : ps.fuse ≠ 0) (o2 : s.wr % 2 = 0) :
    Calls Try.prog 39 #[.pointer (some ⟨e, 0, none⟩), .int .i64 (i : Int), .string c] w fun r w' => r = .returned (.int .i64 0) ∧ RvO e q (pushD { s with wr := s.wr / 2 } i c) (Ext S w w') w' ∧ RPow w' q (spendP ps) ∧ Keeps (fun k => S k ∨ k = q) w w' := by
  obtain ⟨G, LV, h, se, sG, sl⟩ := h
  have HH := rv_has h (i : Int)
  rw [show decide (hasD s (i : Int)) = true from decide_eq_true ⟨by omega, by omega⟩] at HH
  replace HH := Lib.hid HH
  have p0 := hp.c0
  rw [o0] at p0
  have SP := rp_spend hp
  rw [show spendB ps = true by simp [spendB, o1]] at SP
  replace SP := Lib.hid SP
  have c0 := h.c0
  obtain ⟨s2, hs2⟩ : ∃ s2 : DS, s2 = { s with wr := s.wr / 2 } := ⟨_, rfl⟩
  rw [← hs2]
  have hwr : ((s.wr / 2 : Nat) : Int) = (s.wr : Int) / 2 := by omega
  have N2 := Lib.hid (fun (W : World) (k : Keeps (fun k => k = q) w W) => by
    have h1 : Rv W e q G LV s := h.keep k (fun x => hS (x ▸ se)) (fun x => hS (x ▸ sG)) (fun i hi g x y => hS (y ▸ sl i hi g x))
    have h2 := h1.setWr (s.wr / 2) (by have := h.w1; omega)
    rw [← hs2, hwr] at h2
    have kk : Keeps (fun k => S k ∨ k = q) w (W.setCell ⟨e, 3, none⟩ (.int .u64 ((s.wr : Int) / 2))) := (k.mono (fun _ _ x => .inr x)).setCell (p := ⟨e, 3, none⟩) (.inl (.inl se)) _
    exact (⟨h1.c3, h1.top.free 3, h2, kk⟩ : _ ∧ _ ∧ _ ∧ _))
  have m1 : (s.wr : Int) % 2 = 0 := by omega
  have b0 : (0 : Int) ≤ (s.wr : Int) := by omega
  have b1 : (s.wr : Int) ≤ 18446744073709551615 := by have := h.w1; omega
  have QE := Lib.hid (fun x : q = e => hS (x ▸ se))
  have HS := Lib.hid hS
  have SE := Lib.hid se
  have SG := Lib.hid sG
  have SL := Lib.hid (show ∀ j, j < s2.n → ∀ g, (LV j).ownBlock = some g → S g by rw [hs2]; exact sl)
  have OW := Lib.hid ho
  have HI := Lib.hid (show i < s2.n by rw [hs2]; exact hi)
  have HL := Lib.hid (show s2.lim < 1000000 by rw [hs2]; exact hl)
  have i1 : (i : Int) < (s2.n : Int) := by rw [hs2]; show (i : Int) < (s.n : Int); omega
  have e64 : (c.size : Int) = 64 := by omega
  clear h hp hS se sG sl ho hi hl o0 o1 o2 hs2 hwr hc
  generalize (s.wr : Int) = wrp at *
  go_enter Try.func39, Try.ntmps39
  go_wp2_with fail
  refine HH.out.mono ?_
  rintro r w' ⟨rfl, rfl⟩
  go_wp2_with fail
  refine SP.out.mono ?_
  rintro r w1 ⟨rfl, hp1, k1, z1⟩
  obtain ⟨d3, f3, h2, kk⟩ := N2.out w1 k1
  have HP1 := Lib.hid (hp1.keep (keep_cell w1 e 3 (.int .u64 (wrp / 2))) QE.out)
  have Z2 := World.size_setCell w1 ⟨e, 3, none⟩ (.int .u64 (wrp / 2))
  replace Z2 := Lib.hid (show (w1.setCell ⟨e, 3, none⟩ (.int .u64 (wrp / 2))).heap.size = w.heap.size by omega)
  have H2 := Lib.hid h2
  have KK := Lib.hid kk
  clear hp1 k1 h2 kk z1 N2
  go_wp2_with fail
  clear d3 f3
  generalize w1.setCell ⟨e, 3, none⟩ (.int .u64 (wrp / 2)) = w2 at *
  have c1 := H2.out.c1
  have cl := H2.out.f1 HI.out
  have fl := H2.out.fx.free (i * 3 + 1)
  have RL := Lib.hid (fun (W : World) (k : Below w2.heap.size w2 W) => (H2.out.lo i HI.out).keep (Keeps.of_below k) (fun g x y => by have := ((H2.out.lo i HI.out).lt g x); omega))
  have OLD := Lib.hid (fun (W : World) (k : Below w2.heap.size w2 W) => (⟨(Keeps.of_below k).old c1, (Keeps.of_below k).old cl, (H2.out.fx.below k H2.out.fx.lt).free (i * 3 + 1)⟩ : W.cell? ⟨e, 1, none⟩ = some (.slice (some ⟨G, 0, none⟩) s2.n s2.n) ∧ W.cell? ⟨G, i * 3 + 1, none⟩ = some (LV i) ∧ W.frozen? ⟨G, i * 3 + 1, none⟩ = false))
  have LLM := Lib.hid (show (s2.loose i).length < 1000000 by have := H2.out.ll i HI.out; have := HL.out; omega)
  obtain ⟨Al, cl', hLV, -⟩ := (H2.out.lo i HI.out).open_
  rw [hLV] at RL OLD cl
  clear hLV
  obtain ⟨i0, hif, hz0, hz1, hz2⟩ := info_parts infoStr
  have K0 := Lib.hid (Below.refl w2.heap.size w2)
  have KA := Lib.hid (K0.out.alloc (Nat.le_refl _) (.cells #[] 9)).drew
  have KB := Lib.hid (K0.out.alloc (Nat.le_refl _) (.cells #[.string c] 9)).drew
  have ZA := World.size_alloc w2 (.cells #[] 9)
  have ZB := World.size_alloc w2 (.cells #[.string c] 9)
  have KAB := Lib.hid (((K0.out.alloc (Nat.le_refl _) (.cells #[] 9)).alloc (by omega) (.cells #[.string c] 9)).drew)
  have KBA := Lib.hid (((K0.out.alloc (Nat.le_refl _) (.cells #[.string c] 9)).alloc (by omega) (.cells #[] 9)).drew)
  have OA0 := World.ownsRow_made (base := w2.heap.size) (size := 1) (e := 9) w2 #[] 0 (Nat.le_refl _) (Nat.zero_le _) rfl
  have OA := Lib.hid OA0.drew
  have OAB := Lib.hid (OA0.alloc (.cells #[.string c] 9)).drew
  have OBA0 := World.ownsRow_made (base := w2.heap.size) (size := 1) (e := 9) (w2.alloc (.cells #[.string c] 9)) #[] 0 (by omega) (Nat.zero_le _) rfl
  rw [ZB] at OBA0
  have OBA := Lib.hid OBA0.drew
  have HAB := Lib.hid (show ((w2.alloc (.cells #[] 9)).alloc (.cells #[.string c] 9)).drew.heap[w2.heap.size + 1]? = some (.cells #[.string c] 9 (0, 0)) by
    have := heap_alloc_new (w2.alloc (.cells #[] 9)) (.cells #[.string c] 9)
    rw [ZA] at this; exact this)
  have HBA := Lib.hid (show ((w2.alloc (.cells #[.string c] 9)).alloc (.cells #[] 9)).drew.heap[w2.heap.size]? = some (.cells #[.string c] 9 (0, 0)) from
    (heap_past _ _ _ (by omega)).trans (heap_alloc_new w2 (.cells #[.string c] 9)))
  clear OA0 OBA0 ZA ZB
  obtain ⟨xa1, xa2, xa3⟩ := OLD.out _ KA.out
  obtain ⟨xb1, xb2, xb3⟩ := OLD.out _ KB.out
  obtain ⟨xc1, xc2, xc3⟩ := OLD.out _ KAB.out
  obtain ⟨xd1, xd2, xd3⟩ := OLD.out _ KBA.out
  clear HH SP p0 c0 e64 b0 b1 QE
  go_region_law (first
    | (refine step_rowT (w := (w2.alloc (.cells #[] 9)).drew) (by rfl) _ _ (by rfl) w2.heap.size _ _ (s2.loose i) (by rfl) (by rfl) OA.out (RL.out _ KA.out) KA.out.size (by have := LLM.out; omega) ?_; intro v1 w5 ho1 hg1 hat1; have K5 := Lib.hid (KA.out.grown hg1 KA.out.size (fun k e => (OA.out.lt k e).1)); obtain ⟨y1, y2, y3⟩ := OLD.out _ K5.out; obtain ⟨u1, u2, u3⟩ := OLD.out _ (K5.out.alloc K5.out.size (.cells #[.string c] 9)); have O5 := Lib.hid (ho1.alloc (.cells #[.string c] 9)); have NB := Lib.hid (World.news_of_block (heap_alloc_new w5 (.cells #[.string c] 9))); have K7 := Lib.hid (K5.out.alloc K5.out.size (.cells #[.string c] 9)); clear ho1 hg1 hat1)
    | (refine step_rowT (w := ((w2.alloc (.cells #[] 9)).alloc (.cells #[.string c] 9)).drew) (by rfl) _ _ (by rfl) w2.heap.size _ _ (s2.loose i) (by rfl) (by rfl) OAB.out (RL.out _ KAB.out) KAB.out.size (by have := LLM.out; omega) ?_; intro v1 w5 ho1 hg1 hat1; have K5 := Lib.hid (KAB.out.grown hg1 KAB.out.size (fun k e => (OAB.out.lt k e).1)); obtain ⟨y1, y2, y3⟩ := OLD.out _ K5.out; have O5 := Lib.hid ho1; have NB := Lib.hid (news_kept HAB.out hg1 (Nat.succ_ne_self _)); have K7 := K5; clear ho1 hg1 hat1)
    | (refine step_rowT (w := ((w2.alloc (.cells #[.string c] 9)).alloc (.cells #[] 9)).drew) (by rfl) _ _ (by rfl) w2.heap.size _ _ (s2.loose i) (by rfl) (by rfl) OBA.out (RL.out _ KBA.out) KBA.out.size (by have := LLM.out; omega) ?_; intro v1 w5 ho1 hg1 hat1; have K5 := Lib.hid (KBA.out.grown hg1 KBA.out.size (fun k e => (OBA.out.lt k e).1)); obtain ⟨y1, y2, y3⟩ := OLD.out _ K5.out; have O5 := Lib.hid ho1; have NB := Lib.hid (news_kept HBA.out hg1 (Nat.ne_of_lt (Nat.lt_succ_self _))); have K7 := K5; clear ho1 hg1 hat1)
    | (refine step_append_lies _ (by rfl) _ _ 60 (by rfl) w2.heap.size 9 i0 (.string ByteArray.empty) 1 16 Try.underlying60 hif hz0 hz1 hz2 rfl (by decide) v1 _ _ (by rfl) O5.out _ 1 1 [.string c] (by rfl) (by rfl) NB.out (by simp [Value.oneCell']) (by decide) (by have := LLM.out; unfold maxLen; omega) (by have := LLM.out; omega) K7.out.size _ rfl ?_; intro g cap w6 hown hgrow hat hlt; have K6 := Lib.hid (K7.out.grown hgrow K7.out.size (fun k e => (O5.out.lt k e).1)); obtain ⟨t1, t2, t3⟩ := OLD.out _ K6.out; have R6 := Lib.hid (row_done hown); have G6 := Lib.hid (hown.lt g rfl); clear hown hgrow hat hlt)
    | fail)
  all_goals (
    go_wp2
    go_ret
    exact rv_done H2.out HI.out R6.out K6.out G6.out Z2.out SE.out SG.out SL.out KK.out HP1.out HS.out OW.out)
end

end Go.Proofs.Ytlfeglnacphhlaa
