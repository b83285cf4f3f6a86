/- The program's device: Write. -/
import Derived.Test.YtlfeglnacphhlaaDn
import Derived.Deep.RegionHeld3
import Derived.Deep.AppendLies
namespace Go.Proofs.Ytlfeglnacphhlaa
open Go.RowKit Go.Maps
set_option linter.unusedVariables false

theorem row_ne_map {w : World} {base sz n : Nat} {t : TypeId} {v : Value} {xs : List Value} (h : w.ownsRow base t sz v n xs) {P : Program} {k : TypeId} {q : IntKind} {R : Value → Option (DataW Unit × List MemPlace)} {b m : Nat} {M : Int → Option Value} (a : MapV P k q R w b m M) : v.ownBlock ≠ some b := by
  intro e
  obtain ⟨D, ⟨es, clock, hb, _⟩, _⟩ := a
  rcases h.2 with ⟨e1, _⟩ | ⟨g, cap, cur, e1, _, hc, _⟩
  · rw [e1] at e; simp [Value.ownBlock] at e
  · rw [e1] at e
    obtain rfl : g = b := by simpa [Value.ownBlock] using e
    rw [hc] at hb
    cases hb

theorem keeps_grown {w w' : World} {row : Option Nat} (h : w.grownBy w' row) : Keeps (fun k => row = some k) w w' :=
  ⟨h.os, h.tape, h.output, h.size, fun k hk hn => h.block k hk (fun e => hn e.symm)⟩

theorem hdr_form {V : Value} {g n c : Nat} (h : V = .slice (some ⟨g, 0, none⟩) n c) : ∃ d ps, hdr (H := Unit) V = some (d, ps) := by subst h; exact ⟨_, _, rfl⟩

section
variable {w w4 w5 w6 : World} {b p : Nat} {R : DR} {s : DS} {ps : PS} {S : Nat → Prop}

def pushR (R : DR) (i nl : Nat) (V u : Value) : DR := { R with nl := nl, LV := fun j => if j = i then V else R.LV j, LG := fun j => if j = i then R.LG j ++ [u] else R.LG j }
def pushD (s : DS) (i : Nat) (c : ByteArray) : DS := { s with loose := fun j => if j = i then s.loose j ++ [c] else s.loose j, lim := s.lim + 1 }

theorem looseM_in {x : Int} (h0 : 0 ≤ x) (h1 : x < (s.n : Int)) (h2 : s.loose x.toNat ≠ []) : looseM R s x = some (R.LV x.toNat) := if_pos ⟨h0, h1, h2⟩
theorem looseM_out {x : Int} (h : ¬ (0 ≤ x ∧ x < (s.n : Int) ∧ s.loose x.toNat ≠ [])) : looseM R s x = none := if_neg h

theorem looseM_push {L : Nat} {t : TypeId} {F : Nat → Value} (_ : Arr w b t L F) {i nl : Nat} (hi : i < s.n) {V u : Value} {c : ByteArray} (x : Int) : (if x = (i : Int) then some V else looseM R s x) = looseM (pushR R i nl V u) (pushD s i c) x := by
  by_cases e : x = (i : Int)
  · subst e
    rw [if_pos rfl, looseM_in (s := pushD s i c) (by omega) (show (i : Int) < (s.n : Int) by omega) (by simp [pushD])]
    simp [pushR]
  · rw [if_neg e]
    by_cases hc : 0 ≤ x ∧ x < (s.n : Int) ∧ s.loose x.toNat ≠ []
    · have e2 : x.toNat ≠ i := by omega
      rw [looseM_in hc.1 hc.2.1 hc.2.2, looseM_in (s := pushD s i c) hc.1 (show x < (s.n : Int) from hc.2.1) (by simp only [pushD, if_neg e2]; exact hc.2.2)]
      simp only [pushR, if_neg e2]
    · rw [looseM_out hc, looseM_out]
      rintro ⟨h0, h1, h2⟩
      have e2 : x.toNat ≠ i := by omega
      simp only [pushD, if_neg e2] at h2
      exact hc ⟨h0, h1, h2⟩

/-- A write is laid to the others of its sector. -/
theorem Dv.push (h : Dv w4 b p R s) {i : Nat} (hi : i < s.n) {u : Value} {c : ByteArray} (hu : Byt w4 u c) {g cap nl : Nat} (hB : w4.heap.size ≤ g ∨ (R.LV i).ownBlock = some g)
    (ho : w5.ownsRow 0 44 1 (.slice (some ⟨g, 0, none⟩) ((s.loose i).length + 1) cap) ((s.loose i).length + 1) (R.LG i ++ [u])) (hg : w4.grownBy w5 (R.LV i).ownBlock)
    (hm : LMap w6 R.m nl (fun y => if y = (i : Int) then some (.slice (some ⟨g, 0, none⟩) ((s.loose i).length + 1) cap) else looseM R s y)) (hn : nl ≤ s.lim + 1) (ht : w5.mapTurned w6 R.m) :
    Dv w6 b p (pushR R i nl (.slice (some ⟨g, 0, none⟩) ((s.loose i).length + 1) cap) u) (pushD s i c) := by
  have k1 := keeps_grown hg
  have k2 := keeps_turned ht
  have k : Keeps (fun k => (R.LV i).ownBlock = some k ∨ k = R.m) w4 w6 := (k1.mono (fun _ _ x => .inl x)).trans k2 (fun n x => .inl (.inr x))
  have hV : (Value.slice (some ⟨g, 0, none⟩) ((s.loose i).length + 1) cap).ownBlock = some g := rfl
  have hgm : g ≠ R.m := by
    rintro rfl
    obtain ⟨es, clock, es', clock', hb, rfl⟩ := ht
    rcases ho.2 with ⟨e1, _⟩ | ⟨g', cap', cur, e1, _, hc, _⟩
    · cases e1
    · simp at e1
      obtain ⟨rfl, -⟩ := e1
      rw [hb] at hc; cases hc
  have a1 : ¬ ((R.LV i).ownBlock = some b ∨ b = R.m) := fun x => x.elim (fun e => row_ne (h.lo i hi) h.top (by decide) e) (fun e => h.lm.ne_arr h.top e.symm)
  have a2 : ¬ ((R.LV i).ownBlock = some R.F ∨ R.F = R.m) := fun x => x.elim (h.ap i hi) (fun e => h.lm.ne_arr h.fx e.symm)
  have a3 : ∀ v c, Byt w4 v c → ∀ g', v.ownBlock = some g' → ¬ ((R.LV i).ownBlock = some g' ∨ g' = R.m) := fun v c hv g' e x => x.elim (fun e' => hv.ne_row (h.lo i hi) (by decide) g' e' e) (fun e' => hv.ne_map h.lm (e' ▸ e))
  have hold : ∀ j, j < s.n → ∀ k, (R.LV j).ownBlock = some k → k < w4.heap.size := fun j hj k e => ((h.lo j hj).lt k e).2
  refine ⟨(h.top.keep k a1).congr (fun x hx => ?_), h.fx.keep k a2, fun x hx => (h.fb x hx).keep k (a3 _ _ (h.fb x hx)), hm.congr (fun x hx => ?_), fun j hj => ?_, fun j hj q c' hc => ?_, fun j hj e => ?_, (h.rm.keep k (fun x => x.elim (fun e => row_ne_map (h.lo i hi) h.rm e) (fun e => h.mr e.symm))).congr (fun x hx => rfl), fun j hj => ?_, fun j l hj hl hjl q e => ?_, h.mr, fun j hj => ?_, hn, Nat.le_succ_of_le h.nr, h.n1, h.r1, h.w1⟩
  · have : x = 0 ∨ x = 1 ∨ x = 2 ∨ x = 3 ∨ x = 4 ∨ x = 5 := by omega
    rcases this with rfl | rfl | rfl | rfl | rfl | rfl <;> rfl
  · exact looseM_push h.top hi x
  · by_cases e : j = i
    · subst e
      simp only [pushR, pushD, if_true, List.length_append, List.length_cons, List.length_nil]
      exact row_keep ho k2 (fun q e => by rw [hV] at e; simp at e; rw [← e]; exact hgm)
    · simp only [pushR, pushD, if_neg e]
      exact row_keep (h.lo j hj) k (fun q e' x => x.elim (fun e2 => h.aa j i hj hi e q e' e2) (fun e2 => row_ne_map (h.lo j hj) h.lm (e2 ▸ e')))
  · by_cases e : j = i
    · subst e
      simp only [pushR, pushD, if_true] at hc ⊢
      have hl : (R.LG j).length = (s.loose j).length := by have := (h.lo j hj).1; simpa using this
      by_cases hq : q < (s.loose j).length
      · rw [List.getElem?_append_left hq] at hc
        obtain ⟨v, hv, hb⟩ := h.lb j hj q c' hc
        exact ⟨v, by rw [List.getElem?_append_left (by omega)]; exact hv, hb.keep k (a3 _ _ hb)⟩
      · rw [List.getElem?_append_right (by omega)] at hc
        have hq' : q - (s.loose j).length = 0 := by
          have := (List.getElem?_eq_some_iff.1 hc).1
          simp at this; omega
        rw [hq'] at hc
        simp at hc
        subst hc
        refine ⟨u, ?_, hu.keep k (a3 _ _ hu)⟩
        rw [List.getElem?_append_right (by omega), hl, hq']; rfl
    · simp only [pushR, pushD, if_neg e] at hc ⊢
      obtain ⟨v, hv, hb⟩ := h.lb j hj q c' hc
      exact ⟨v, hv, hb.keep k (a3 _ _ hb)⟩
  · by_cases e' : j = i
    · subst e'
      simp [pushD] at e
    · simp only [pushR, pushD, if_neg e'] at e ⊢
      exact h.le j hj e
  · by_cases e : j = i
    · subst e
      simp only [pushR, if_true, hV]
      intro x
      have : g = R.F := by simpa using x
      rcases hB with y | y
      · have := h.fx.lt; omega
      · exact h.ap j hj (by rw [y, this])
    · simp only [pushR, if_neg e]; exact h.ap j hj
  · by_cases e1 : j = i
    · subst e1
      simp only [pushR, if_true, if_neg (fun x : l = j => hjl x.symm), hV] at e ⊢
      intro x
      have e : g = q := by simpa using e
      rcases hB with y | y
      · have := hold l hl q x; omega
      · exact h.aa j l hj hl hjl q (by rw [y, e]) x
    · by_cases e2 : l = i
      · subst e2
        simp only [pushR, if_true, if_neg e1, hV] at e ⊢
        intro x
        have x : g = q := by simpa using x
        rcases hB with y | y
        · have := hold j hj q e; omega
        · exact h.aa l j hl hj (fun z => hjl z.symm) q (by rw [y, x]) e
      · simp only [pushR, if_neg e1, if_neg e2] at e ⊢
        exact h.aa j l hj hl hjl q e
  · by_cases e : j = i
    · subst e
      simp only [pushD, if_true, List.length_append, List.length_cons, List.length_nil]
      have := h.ll j hj; omega
    · simp only [pushD, if_neg e]
      have := h.ll j hj; omega

theorem DvIn.push (h : DvIn b R s S) {i nl g cap n : Nat} {u : Value} {c : ByteArray} (hg : S g) (hu : ∀ k, u.ownBlock = some k → S k) : DvIn b (pushR R i nl (.slice (some ⟨g, 0, none⟩) n cap) u) (pushD s i c) S :=
  ⟨h.b, h.F, h.m, h.r, h.fv, fun j hj k e => by
    by_cases e1 : j = i
    · simp only [pushR, if_pos e1] at e
      have : g = k := by simpa [Value.ownBlock] using e
      exact this ▸ hg
    · simp only [pushR, if_neg e1] at e
      exact h.lv j hj k e, fun j hj v hv k e => by
    by_cases e1 : j = i
    · simp only [pushR, if_pos e1] at hv
      rcases List.mem_append.1 hv with hv | hv
      · exact h.lg j hj v hv k e
      · simp at hv; subst hv; exact hu k e
    · simp only [pushR, if_neg e1] at hv
      exact h.lg j hj v hv k e⟩

/-- Behind the copy of what is written: a device as it was. -/
theorem dv_mid {w2 w3 : World} (h : Dv w2 b p R s) (inn : DvIn b R s S) (ow : Own S w2) (hb : Below w2.heap.size w2.drew w3) : Dv w3 b p R s :=
  Dv.keep (T := fun k => w2.heap.size ≤ k) (show Dv w2.drew b p R s from h.drewN 1) inn (Keeps.of_below hb) (fun k hk => by have := ow k hk; omega)

/-- Behind the append: the store into the map. -/
theorem dv_last {w2 w3 w5 : World} (h : Dv w2 b p R s) (inn : DvIn b R s S) (ow : Own S w2) {i : Nat} (hi : i < s.n) (hl : s.lim < 1000000) (hb : Below w2.heap.size w2.drew w3) {gu cu : Nat} {c : ByteArray}
    (hr : w3.ownsRow w2.heap.size 5 1 (.slice (some ⟨gu, 0, none⟩) 64 cu) c.size (octV c)) (hc : c.size = 64) {g cap : Nat}
    (hown : w5.ownsRow 0 44 1 (.slice (some ⟨g, 0, none⟩) ((s.loose i).length + 1) cap) ((s.loose i).length + 1) (R.LG i ++ [.slice (some ⟨gu, 0, none⟩) 64 cu]))
    (hg : (w3.alloc (.cells #[.slice (some ⟨gu, 0, none⟩) 64 cu] 44)).grownBy w5 (R.LV i).ownBlock) (hat : (R.LV i).ownBlock = some g ∨ g = w3.heap.size + 1) (hlt : g < w5.heap.size) :
    ∃ w6, (Instr.mapUpdate 69 (.map (some R.m)) (.int .i64 (i : Int)) (.slice (some ⟨g, 0, none⟩) ((s.loose i).length + 1) cap)).run Try.prog w5 = .ok () w6 ∧
      w5.cell? ⟨b, 2, none⟩ = some (.map (some R.m)) ∧ w6.cell? ⟨b, 2, none⟩ = some (.map (some R.m)) ∧ DevO b p (pushD s i c) (Ext S w2 w6) w6 ∧ Keeps S w2 w6 := by
  have h3 := dv_mid h inn ow hb
  have z3 := hb.size
  rw [show w2.drew.heap.size = w2.heap.size from rfl] at z3
  have h4 : Dv (w3.alloc (.cells #[.slice (some ⟨gu, 0, none⟩) 64 cu] 44)) b p R s := h3.keep inn ((Keeps.refl (fun _ => False) w3).alloc _) (fun _ _ x => x)
  have hu := (Byt.of_row hr hc).keep ((Keeps.refl (fun _ => False) w3).alloc (.cells #[.slice (some ⟨gu, 0, none⟩) 64 cu] 44)) (fun _ _ x => x)
  have z4 := World.size_alloc w3 (.cells #[.slice (some ⟨gu, 0, none⟩) 64 cu] 44)
  have kb4 : Keeps S w2 (w3.alloc (.cells #[.slice (some ⟨gu, 0, none⟩) 64 cu] 44)) :=
    ((Keeps.refl S w2).drew.trans ((Keeps.of_below hb).mono (T := fun k => w2.heap.size ≤ k) (fun _ _ x => x)) (fun n x => .inr x)).alloc _
  have hgu : w2.heap.size ≤ gu := (hr.lt gu rfl).1
  have hgu' : gu < w3.heap.size := (hr.lt gu rfl).2
  clear hb hr h3
  generalize w3.alloc (.cells #[.slice (some ⟨gu, 0, none⟩) 64 cu] 44) = w4 at *
  have k5 := keeps_grown hg
  have lm5 := h4.lm.keep k5 (fun e => row_ne_map (h4.lo i hi) h4.lm e)
  have hnl := h4.nl
  obtain ⟨w6, hrun, hM, ht⟩ := lm5.store Try.underlying3 Try.underlying69 (by unfold maxLen; omega) (i : Int) (WalkArith.wf_i64 (by have := h4.n1; omega)) (hdr_some g ((s.loose i).length + 1) cap)
  have hB : w4.heap.size ≤ g ∨ (R.LV i).ownBlock = some g := hat.elim .inr (fun e => .inl (by omega))
  have h6 := h4.push hi hu hB hown hg hM (by split <;> omega) ht
  have k6 := keeps_turned ht
  have kS : Keeps S w4 w6 := (k5.mono (fun k _ e => inn.lv i hi k e)).trans (k6.mono (T := S) (fun k _ e => e ▸ inn.m)) (fun n x => .inl x)
  have z6 := turned_size ht
  have z5 := hg.size
  have hext : ∀ k, S k → Ext S w2 w6 k := fun k x => .inl x
  refine ⟨w6, hrun, (Arr.keep h4.top k5 (fun e => row_ne (h4.lo i hi) h4.top (by decide) e)).cell (i := 2) (by omega), h6.c2, ⟨_, h6, (inn.mono hext).push ?_ ?_⟩, kb4.trans kS (fun n x => .inl x)⟩
  · rcases hat with e | e
    · exact .inl (inn.lv i hi g e)
    · exact .inr ⟨by omega, by omega⟩
  · intro k e
    have : gu = k := by simpa [Value.ownBlock] using e
    exact .inr ⟨by omega, by omega⟩

set_option maxRecDepth 100000 in
set_option maxHeartbeats 4000000 in
theorem dv_write1 (h : DevO b p s S w) (ho : Own S w) (hp : Pow w p ps) (hS : ¬ S p) {i : Nat} (hi : i < s.n) {v : Value} {c : ByteArray} (hv : RdB w v c) (hvS : ∀ g, v.ownBlock = some g → ¬ S g ∧ g ≠ p) (hc : c.size = 64) (hl : s.lim < 1000000)
    (o0 : ps.off = false) (o1 : ps.fuse ≠ 0) (o2 : s.wr % 2 = 0) :
    Calls Try.prog 11 #[.pointer (some ⟨b, 0, none⟩), .int .i64 (i : Int), v] w fun e w' => e = .returned (.int .i64 0) ∧ DevO b p (pushD { s with wr := s.wr / 2 } i c) (Ext S w w') w' ∧ Pow w' p (spendP ps) ∧ Keeps (fun k => S k ∨ k = p) w w' := by
  obtain ⟨R, h, inn⟩ := h
  have RD := dv_ready h hp
  rw [o0, if_neg (show ¬ (false = true) by decide)] at RD
  replace RD := Lib.hid RD
  have HH := dv_has2 h (i : Int)
  rw [show decide (hasD s (i : Int)) = true from decide_eq_true ⟨by omega, by omega⟩] at HH
  replace HH := Lib.hid HH
  have SP := pow_spend hp
  rw [show spendB ps = true by simp [spendB, o1]] at SP
  replace SP := Lib.hid SP
  have c0 := h.c0
  have f5 := h.top.free 5
  obtain ⟨vg, vo, vc, rfl, vb⟩ : ∃ g o cc, v = .slice (some ⟨g, o, none⟩) 64 cc ∧ Lib.Bytes w g o c := by
    rcases hv with ⟨_, h0⟩ | ⟨g, o, cc, e, hb⟩
    · omega
    · exact ⟨g, o, cc, by rw [← hc]; exact e, hb⟩
  obtain ⟨s2, hs2⟩ : ∃ s2 : DS, s2 = { s with wr := s.wr / 2 } := ⟨_, rfl⟩
  rw [← hs2]
  have N2 := Lib.hid (fun (W : World) (k : Keeps (fun k => k = p) w W) => by
    have h1 := h.keep inn k (fun j hj e => hS (e ▸ hj))
    have N := pat_next h1.c5 (h1.top.free 5) h.w1
    rw [show (s.wr % 2 == 1) = false by rw [o2]; rfl] at N
    have h2 := h1.setWr (s.wr / 2) (by have := h.w1; omega)
    rw [← hs2] at h2
    have kk : Keeps (fun k => S k ∨ k = p) w (W.setCell ⟨b, 5, none⟩ (.int .u64 ((s.wr / 2 : Nat) : Int))) := (k.mono (fun _ _ x => .inr x)).setCell (p := ⟨b, 5, none⟩) (.inl (.inl inn.b)) _
    have rv : RdB (W.setCell ⟨b, 5, none⟩ (.int .u64 ((s.wr / 2 : Nat) : Int))) (.slice (some ⟨vg, vo, none⟩) 64 vc) c := hv.keep kk (fun g e x => x.elim (hvS g e).1 (hvS g e).2)
    exact (⟨N, h2, kk, rv⟩ : _ ∧ _ ∧ _ ∧ _))
  have IN := Lib.hid (fun (W : World) (hh : Dv W b p R s2) => hh.look i (by rw [hs2]; exact hi))
  have FR := Lib.hid (show DvIn b R s2 S from inn.same (by rw [hs2]))
  have PB := Lib.hid (fun e : p = b => hS (e ▸ inn.b))
  have HS := Lib.hid hS
  have OW := Lib.hid ho
  have HI := Lib.hid (show i < s2.n by rw [hs2]; exact hi)
  have HL := Lib.hid (show s2.lim < 1000000 by rw [hs2]; exact hl)
  have LL := Lib.hid (fun (W : World) (hh : Dv W b p R s2) => (Nat.lt_of_le_of_lt (hh.ll i HI.out) HL.out : (s2.loose i).length < 1000000))
  have HC := Lib.hid hc
  obtain ⟨i0, hif, hz0, hz1, hz2⟩ := info_parts infoB
  clear h hp hv hvS vb hS inn ho hi hl hc o0 o1 o2 hs2
  go_enter Try.func11, Try.ntmps11
  go_wp2_with fail
  refine RD.out.mono ?_
  rintro e w' ⟨rfl, rfl⟩
  go_wp2_with fail
  refine HH.out.mono ?_
  rintro e w' ⟨rfl, rfl⟩
  go_wp2_with fail
  refine SP.out.mono ?_
  rintro e w1 ⟨rfl, hp1, k1, z1⟩
  obtain ⟨N, h2, kk, rv⟩ := N2.out w1 k1
  have NN := Lib.hid N
  have HP1 := Lib.hid (hp1.keep (keep_cell w1 b 5 (.int .u64 ((s.wr / 2 : Nat) : Int))) PB.out)
  clear N hp1 k1
  go_wp2_with fail
  refine NN.out.mono ?_
  rintro e w2' ⟨rfl, rfl⟩
  have Z2 := World.size_setCell w1 ⟨b, 5, none⟩ (.int .u64 ((s.wr / 2 : Nat) : Int))
  replace Z2 := Lib.hid (show (w1.setCell ⟨b, 5, none⟩ (.int .u64 ((s.wr / 2 : Nat) : Int))).heap.size = w.heap.size by omega)
  have H2 := Lib.hid h2
  have KK := Lib.hid kk
  have RV := Lib.hid rv
  clear h2 kk rv z1 NN N2
  generalize w1.setCell ⟨b, 5, none⟩ (.int .u64 ((s.wr / 2 : Nat) : Int)) = w2 at *
  have c2 := H2.out.c2
  have OW2 := Lib.hid (show Own S w2 from OW.out.grow (by have := Z2.out; omega))
  have L2 : (Instr.lookup 69 (.map (some R.m)) (.int .i64 (i : Int)) false).run Try.prog w2.drew = .ok (R.LV i) w2.drew := IN.out w2.drew (H2.out.drewN 1)
  have CL := Lib.hid (show Calls Try.prog 36 #[.slice (some ⟨vg, vo, none⟩) 64 vc] w2.drew fun e w' => ∃ u, e = .returned u ∧ w'.ownsRow w2.heap.size 5 1 u c.size (octV c) ∧ Below w2.heap.size w2.drew w' from clone_any (RV.out.drewN 1) (by have := HC.out; omega))
  go_wp2_with fail
  go_region_held3 (fun w' => w'.cell? ⟨b, 2, none⟩ = some (.map (some R.m))) (first | go_keep | exact z3 | exact z5 | exact z6)
    (first
      | (go_at_call 36; (with_reducible refine CL.out.mono ?_); rintro e w3 ⟨u, rfl, hr, hb⟩; obtain ⟨gu, cu, curu, fu, rfl, -⟩ := Byt.of_row hr HC.out; have h3 := dv_mid H2.out FR.out OW2.out hb; have z3 := h3.c2; have L3 := IN.out w3 h3; have L4 := IN.out _ (h3.keep FR.out ((Keeps.refl (fun _ => False) w3).alloc (.cells #[.slice (some ⟨gu, 0, none⟩) 64 cu] 44)) (fun _ _ x => x)); have HB := Lib.hid hb; have HR := Lib.hid hr; clear hr hb h3)
      | ((refine step_append_lies (w := w3.alloc (.cells #[.slice (some ⟨gu, 0, none⟩) 64 cu] 44)) (by rfl) _ _ 68 (by rfl) 0 44 i0 (.slice none 0 0) 1 24 Try.underlying68 hif hz0 hz1 hz2 rfl (by decide) (R.LV i) (s2.loose i).length (R.LG i) (by rfl) (Dv.lo ((dv_mid H2.out FR.out OW2.out HB.out).keep FR.out ((Keeps.refl (fun _ => False) w3).alloc _) (fun _ _ x => x)) i HI.out)
            ⟨w3.heap.size, 0, none⟩ 1 1 [.slice (some ⟨gu, 0, none⟩) 64 cu] (by rfl) (by rfl) (World.news_of_block (heap_alloc_new _ _)) (by simp [Value.oneCell']) (by decide) (by have := LL.out _ H2.out; unfold maxLen; omega) (by have := LL.out _ H2.out; omega) (Nat.zero_le _) (w3.heap.size + 1) (World.size_alloc _ _) ?_); intro g cap w5 hown hgrow hat hlt; obtain ⟨w6, hrun, z5, z6, hD, kD⟩ := dv_last H2.out FR.out OW2.out HI.out HL.out HB.out HR.out HC.out hown hgrow hat hlt; have HD := Lib.hid hD; have KD := Lib.hid kD; clear hown hgrow hat hlt hD kD))
  all_goals (
    go_wp2
    go_ret
    exact ⟨rfl, Rep.mono HD.out (fun k x => x.elim .inl (fun y => .inr ⟨by have := Z2.out; omega, y.2⟩)), HP1.out.keep KD.out HS.out, KK.out.trans KD.out (fun n x => .inl (.inl x))⟩)

/-- What Write answers, and what it leaves. -/
def writeE (s : DS) (ps : PS) (x : Int) (n : Nat) : Int := if ps.off = true then 80 else if hasD s x then (if n = 64 then (if ps.fuse = 0 then 80 else if s.wr % 2 = 1 then 81 else 0) else 1) else 3
def writeP (s : DS) (ps : PS) (x : Int) (n : Nat) : PS := if ps.off = true then ps else if hasD s x then (if n = 64 then spendP ps else ps) else ps
def writeD (s : DS) (ps : PS) (x : Int) (c : ByteArray) : DS := if ps.off = true then s else if hasD s x then (if c.size = 64 then (if ps.fuse = 0 then s else if s.wr % 2 = 1 then { s with wr := s.wr / 2 } else pushD { s with wr := s.wr / 2 } x.toNat c) else s) else s

theorem dv_write (h : DevO b p s S w) (ho : Own S w) (hp : Pow w p ps) (hS : ¬ S p) (x : Int) {v : Value} {c : ByteArray} (hv : RdB w v c) (hvS : ∀ g, v.ownBlock = some g → ¬ S g ∧ g ≠ p) (hcm : c.size ≤ 9223372036854775807) (hl : s.lim < 1000000) :
    Calls Try.prog 11 #[.pointer (some ⟨b, 0, none⟩), .int .i64 x, v] w fun e w' => e = .returned (.int .i64 (writeE s ps x c.size)) ∧ DevO b p (writeD s ps x c) (Ext S w w') w' ∧ Pow w' p (writeP s ps x c.size) ∧ Keeps (fun k => S k ∨ k = p) w w' := by
  have O := Lib.hid (Rep.mono h (fun k x => .inl x) : DevO b p s (Ext S w w) w)
  have HP := Lib.hid hp
  unfold writeE writeD writeP
  cases o0 : ps.off
  · simp only [Bool.false_eq_true, if_false]
    by_cases hx : hasD s x
    · obtain ⟨i, rfl⟩ : ∃ i : Nat, x = (i : Int) := ⟨x.toNat, by have := hx.1; omega⟩
      have hi : i < s.n := by have := hx.2; omega
      simp only [if_pos hx, Int.toNat_natCast]
      by_cases hc : c.size = 64
      · simp only [if_pos hc]
        by_cases o1 : ps.fuse = 0
        · simp only [if_pos o1]
          obtain ⟨R, h, inn⟩ := h
          have RD := dv_ready h hp
          rw [o0, if_neg (show ¬ (false = true) by decide)] at RD
          replace RD := Lib.hid RD
          have HH := dv_has2 h (i : Int)
          rw [show decide (hasD s (i : Int)) = true from decide_eq_true hx] at HH
          replace HH := Lib.hid HH
          have SP := pow_spend hp
          rw [show spendB ps = false by simp [spendB, o1]] at SP
          replace SP := Lib.hid SP
          have c0 := h.c0
          obtain ⟨vg, vo, vc, rfl⟩ : ∃ g o cc, v = .slice (some ⟨g, o, none⟩) 64 cc := by
            rcases hv with ⟨_, h0⟩ | ⟨g, o, cc, e, hb⟩
            · omega
            · exact ⟨g, o, cc, by rw [← hc]; exact e⟩
          have FIN := Lib.hid (fun (W : World) (k : Keeps (fun k => k = p) w W) => (⟨Rep.mono (Rep.keep (R := DevO b p s) ⟨R, h, inn⟩ ho k (fun j hj e => hS (e ▸ hj))) (fun k x => .inl x), k.mono (fun _ _ x => .inr x)⟩ : DevO b p s (Ext S w W) W ∧ Keeps (fun k => S k ∨ k = p) w W))
          clear h hp hv hvS hS inn ho hi hl hc o0 o1 hx hcm
          go_enter Try.func11, Try.ntmps11
          go_wp2_with fail
          refine RD.out.mono ?_
          rintro e w' ⟨rfl, rfl⟩
          go_wp2_with fail
          refine HH.out.mono ?_
          rintro e w' ⟨rfl, rfl⟩
          go_wp2_with fail
          refine SP.out.mono ?_
          rintro e w1 ⟨rfl, hp1, k1, z1⟩
          have HP1 := Lib.hid hp1
          have F1 := Lib.hid (FIN.out w1 k1)
          clear hp1 k1 z1
          go_wp2
          go_ret
          exact ⟨rfl, F1.out.1, HP1.out, F1.out.2⟩
        · simp only [if_neg o1]
          by_cases o2 : s.wr % 2 = 1
          · simp only [if_pos o2]
            obtain ⟨R, h, inn⟩ := h
            have RD := dv_ready h hp
            rw [o0, if_neg (show ¬ (false = true) by decide)] at RD
            replace RD := Lib.hid RD
            have HH := dv_has2 h (i : Int)
            rw [show decide (hasD s (i : Int)) = true from decide_eq_true hx] at HH
            replace HH := Lib.hid HH
            have SP := pow_spend hp
            rw [show spendB ps = true by simp [spendB, o1]] at SP
            replace SP := Lib.hid SP
            have c0 := h.c0
            obtain ⟨vg, vo, vc, rfl⟩ : ∃ g o cc, v = .slice (some ⟨g, o, none⟩) 64 cc := by
              rcases hv with ⟨_, h0⟩ | ⟨g, o, cc, e, hb⟩
              · omega
              · exact ⟨g, o, cc, by rw [← hc]; exact e⟩
            have N2 := Lib.hid (fun (W : World) (k : Keeps (fun k => k = p) w W) (hpw : Pow W p (spendP ps)) => by
              have h1 := h.keep inn k (fun j hj e => hS (e ▸ hj))
              have N := pat_next h1.c5 (h1.top.free 5) h.w1
              rw [show (s.wr % 2 == 1) = true by rw [o2]; rfl] at N
              have h2 := h1.setWr (s.wr / 2) (by have := h.w1; omega)
              have kk : Keeps (fun k => S k ∨ k = p) w (W.setCell ⟨b, 5, none⟩ (.int .u64 ((s.wr / 2 : Nat) : Int))) := (k.mono (fun _ _ x => .inr x)).setCell (p := ⟨b, 5, none⟩) (.inl (.inl inn.b)) _
              exact (⟨N, (⟨R, h2, (inn.same (s' := { s with wr := s.wr / 2 }) rfl).mono (fun k x => .inl x)⟩ : DevO b p { s with wr := s.wr / 2 } (Ext S w (W.setCell ⟨b, 5, none⟩ (.int .u64 ((s.wr / 2 : Nat) : Int)))) (W.setCell ⟨b, 5, none⟩ (.int .u64 ((s.wr / 2 : Nat) : Int)))), hpw.keep (keep_cell W b 5 (.int .u64 ((s.wr / 2 : Nat) : Int))) (fun e => hS (e ▸ inn.b)), kk⟩ : _ ∧ _ ∧ _ ∧ _))
            clear h hp hv hvS hS inn ho hi hl hc o0 o1 hx o2 hcm
            go_enter Try.func11, Try.ntmps11
            go_wp2_with fail
            refine RD.out.mono ?_
            rintro e w' ⟨rfl, rfl⟩
            go_wp2_with fail
            refine HH.out.mono ?_
            rintro e w' ⟨rfl, rfl⟩
            go_wp2_with fail
            refine SP.out.mono ?_
            rintro e w1 ⟨rfl, hp1, k1, z1⟩
            have F1 := Lib.hid (N2.out w1 k1 hp1)
            clear hp1 k1 z1
            go_wp2_with fail
            refine F1.out.1.mono ?_
            rintro e w2 ⟨rfl, rfl⟩
            go_wp2
            go_ret
            exact ⟨rfl, F1.out.2⟩
          · simp only [if_neg o2]
            exact dv_write1 h ho hp hS hi hv hvS hc hl o0 o1 (by omega)
      · simp only [if_neg hc]
        obtain ⟨R, h, inn⟩ := h
        have RD := dv_ready h hp
        rw [o0, if_neg (show ¬ (false = true) by decide)] at RD
        replace RD := Lib.hid RD
        have HH := dv_has2 h (i : Int)
        rw [show decide (hasD s (i : Int)) = true from decide_eq_true hx] at HH
        replace HH := Lib.hid HH
        obtain ⟨A, vc, rfl⟩ : ∃ A cc, v = .slice A c.size cc := by
          rcases hv with ⟨e, h0⟩ | ⟨g, o, cc, e, hb⟩
          · exact ⟨none, 0, by rw [h0]; exact e⟩
          · exact ⟨_, cc, e⟩
        have e1 : ((c.size : Int) == 64) = false := by simp; omega
        generalize c.size = cz at *
        clear h hp hv hvS hS inn ho hi hl hc o0 hx hcm
        go_enter Try.func11, Try.ntmps11
        go_wp2_with fail
        refine RD.out.mono ?_
        rintro e w' ⟨rfl, rfl⟩
        go_wp2_with fail
        refine HH.out.mono ?_
        rintro e w' ⟨rfl, rfl⟩
        go_wp2
        go_ret
        exact ⟨rfl, O.out, HP.out, Keeps.refl _ _⟩
    · simp only [if_neg hx]
      obtain ⟨R, h, inn⟩ := h
      have RD := dv_ready h hp
      rw [o0, if_neg (show ¬ (false = true) by decide)] at RD
      replace RD := Lib.hid RD
      have HH := dv_has2 h x
      rw [show decide (hasD s x) = false from decide_eq_false hx] at HH
      replace HH := Lib.hid HH
      clear h hp hv hvS hS inn ho hl o0 hx hcm
      go_enter Try.func11, Try.ntmps11
      go_wp2_with fail
      refine RD.out.mono ?_
      rintro e w' ⟨rfl, rfl⟩
      go_wp2_with fail
      refine HH.out.mono ?_
      rintro e w' ⟨rfl, rfl⟩
      go_wp2
      go_ret
      exact ⟨rfl, O.out, HP.out, Keeps.refl _ _⟩
  · simp only [if_true]
    obtain ⟨R, h, inn⟩ := h
    have RD := dv_ready h hp
    rw [o0, if_pos (show true = true from rfl)] at RD
    replace RD := Lib.hid RD
    clear h hp hv hvS hS inn ho hl o0 hcm
    go_enter Try.func11, Try.ntmps11
    go_wp2_with fail
    refine RD.out.mono ?_
    rintro e w' ⟨rfl, rfl⟩
    go_wp2
    go_ret
    exact ⟨rfl, O.out, HP.out, Keeps.refl _ _⟩
end

end Go.Proofs.Ytlfeglnacphhlaa
