/- The program's device: Loose. -/
import Derived.Test.YtlfeglnacphhlaaDf
import Derived.Test.YtlfeglnacphhlaaSo
namespace Go.Proofs.Ytlfeglnacphhlaa
open Go.RowKit Go.Maps Go.Sort
set_option linter.unusedVariables false

theorem infoLo : (Try.prog.info? 86).map (fun i => (i.zero, i.size, i.bytes)) = some (some (.agg #[.int .i64 0, .int .i64 0]), 2, 16) := by kernel_rfl

/-- The slice v reads as a row of sectors and how many loose writes each has. -/
def RdLo (w : World) (v : Value) (l : List (Nat × Nat)) : Prop :=
  (v = .slice none 0 0 ∧ l = []) ∨ ∃ g c, v = .slice (some ⟨g, 0, none⟩) l.length c ∧ ∀ (j : Nat) (x : Nat × Nat), l[j]? = some x → w.cell? ⟨g, 2 * j, none⟩ = some (.int .i64 (x.1 : Int)) ∧ w.cell? ⟨g, 2 * j + 1, none⟩ = some (.int .i64 (x.2 : Int))

/-- The loose sectors, in order. -/
def looseI (s : DS) : List Nat := (List.range s.n).filter fun i => !(s.loose i).isEmpty
def looseL (s : DS) : List (Nat × Nat) := (looseI s).map fun i => (i, (s.loose i).length)

theorem mem_looseI {s : DS} {i : Nat} : i ∈ looseI s ↔ i < s.n ∧ s.loose i ≠ [] := by
  unfold looseI
  rw [List.mem_filter, List.mem_range]
  constructor
  · rintro ⟨h1, h2⟩; exact ⟨h1, fun e => by simp [e] at h2⟩
  · rintro ⟨h1, h2⟩; exact ⟨h1, by cases h : s.loose i <;> simp_all⟩

/-- A sector's two cells. -/
def loV (s : DS) (i : Nat) : List Value := [.int .i64 (i : Int), .int .i64 ((s.loose i).length : Int)]
def loC (s : DS) (l : List Nat) : List Value := l.flatMap (loV s)

theorem loC_len (s : DS) (l : List Nat) : (loC s l).length = l.length * 2 := by
  induction l with
  | nil => rfl
  | cons a l ih => simp only [loC, List.flatMap_cons, List.length_append] at *; simp [loV] at *; omega

theorem loC_at (s : DS) : ∀ (l : List Nat) (j i : Nat), l[j]? = some i → (loC s l)[2 * j]? = some (.int .i64 (i : Int)) ∧ (loC s l)[2 * j + 1]? = some (.int .i64 ((s.loose i).length : Int))
  | [], j, i, h => by simp at h
  | a :: l, 0, i, h => by
    simp at h; subst h
    exact ⟨rfl, rfl⟩
  | a :: l, j + 1, i, h => by
    have ih := loC_at s l j i (by simpa using h)
    have e : loC s (a :: l) = loV s a ++ loC s l := rfl
    rw [e, List.getElem?_append_right (by simp [loV]; omega), List.getElem?_append_right (by simp [loV]; omega)]
    have e1 : 2 * (j + 1) - (loV s a).length = 2 * j := by simp [loV]; omega
    have e2 : 2 * (j + 1) + 1 - (loV s a).length = 2 * j + 1 := by simp [loV]; omega
    rw [e1, e2]; exact ih

/-- The closure of Loose. -/
theorem lo_cmp (a m b k : Nat) (ha : a < 4096) (hb : b < 4096) (W : World) :
    Calls Try.prog 48 #[.agg #[.int .i64 (a : Int), .int .i64 (m : Int)], .agg #[.int .i64 (b : Int), .int .i64 (k : Int)]] W fun e w' => e = .returned (.int .i64 ((a : Int) - (b : Int))) ∧ ∃ q os', w' = grow (W.drewN q) os' := by
  have a1 : (a : Int) < 4096 := by omega
  have b1 : (b : Int) < 4096 := by omega
  clear ha hb
  go_enter Try.func48, Try.ntmps48
  go_wp2
  go_ret
  exact ⟨rfl, 0, _, by rw [alloc_eq_grow, alloc_eq_grow, grow_grow]; rfl⟩

instance : Inhabited (Fin 4096) := ⟨0⟩
def loE (s : DS) (x : Fin 4096) : List Value := loV s x.val
def loF (x y : Fin 4096) : Int := (x.val : Int) - (y.val : Int)
theorem loF_lt (x y : Fin 4096) : ltOf loF x y = decide (x.val < y.val) := by
  unfold ltOf loF
  rw [Bool.eq_iff_iff, decide_eq_true_iff, decide_eq_true_iff]; omega
theorem loF_swo : SWO (ltOf loF) where
  irrefl x := by rw [loF_lt]; simp
  trans x y z h1 h2 := by rw [loF_lt] at *; simp at *; omega
  ntrans x y z h1 h2 := by rw [loF_lt] at *; simp at *; omega
theorem loF_tot (x y : Fin 4096) (h1 : ltOf loF x y = false) (h2 : ltOf loF y x = false) : x = y := by
  rw [loF_lt] at *
  simp at h1 h2
  exact Fin.ext (by omega)

theorem lo_lays (s : DS) (blk off size : Nat) (w : World) : CmpLays Try.prog 48 #[] (loE s) 2 loF blk off size w :=
  fun _ _ _ _ x y => lo_cmp x.val _ y.val _ x.isLt y.isLt _

/-- On the way: the sectors ds are told already. -/
structure LoS (w0 w : World) (it : Nat) (R : DR) (s : DS) (v : Value) (l : List Nat) (L : Int → Bool) (c : Nat) : Prop where
  lo : ∀ x, L x = true → (looseM R s x).isSome = true
  rg : RangeV Try.prog 3 .i64 hdr w R.m it R.nl (looseM R s) L c
  old : Below w0.heap.size w0 w
  own : w.ownsRow w0.heap.size 86 2 v l.length (loC s l)
  nod : l.Nodup
  mem : ∀ i, i ∈ l → i < s.n ∧ s.loose i ≠ []
  lft : ∀ i, i < s.n → s.loose i ≠ [] → (L (i : Int) = true ∨ i ∈ l)
  new : ∀ {i : Nat}, L (i : Int) = true → i ∉ l
  cnt : l.length + c ≤ R.nl
  itl : w0.heap.size ≤ it

section
variable {w w0 w1 w2 w' : World} {b p : Nat} {R : DR} {s : DS} {S : Nat → Prop}

theorem LoS.start (h : Dv w b p R s) (hr : RangeV Try.prog 3 .i64 hdr w' R.m w.heap.size R.nl (looseM R s) (fun x => (looseM R s x).isSome) R.nl) (k : Keeps (fun _ => False) w w') :
    LoS w w' w.heap.size R s (.slice none 0 0) [] (fun x => (looseM R s x).isSome) R.nl :=
  ⟨fun x hx => hx, hr, (k.mono (fun _ _ x => x.elim)).below (Nat.le_refl _), World.ownsRow_nil _ _ _ _, List.nodup_nil, fun i hi => by simp at hi, fun i hi hl => .inl (by rw [looseM_in (by omega) (by omega) (by simpa using hl)]; rfl), fun _ => by simp, by simp, Nat.le_refl _⟩

theorem LoS.ne {it c : Nat} {v : Value} {l : List Nat} {L : Int → Bool} (h : LoS w0 w it R s v l L c) : ∀ k, v.ownBlock = some k → w0.heap.size ≤ k ∧ k ≠ it := fun k e => ⟨(h.own.lt k e).1, fun e2 => by
    subst e2
    obtain ⟨D, left, ⟨es, clock, since, seen, c0, ha, F, hs, hD, hi, rest⟩, _⟩ := h.rg
    rcases h.own.2 with ⟨e1, _⟩ | ⟨g, cap, cur, e1, _, hc, _⟩
    · rw [e1] at e; simp [Value.ownBlock] at e
    · rw [e1] at e
      obtain rfl : g = k := by simpa [Value.ownBlock] using e
      rw [hc] at hi; cases hi⟩

theorem LoS.next {it c c1 i : Nat} {v v' : Value} {l : List Nat} {L : Int → Bool} (h : LoS w0 w it R s v l L c) (hb : R.m < w0.heap.size) (hL : L (i : Int) = true) (hi : i < s.n) (hni : i ∉ l) (hne : s.loose i ≠ [])
    (hr : RangeV Try.prog 3 .i64 hdr w1 R.m it R.nl (looseM R s) (fun y => L y && !(y == (i : Int))) c1) (hc : c1 < c) (k1 : Keeps (fun j => j = it) w w1) {o : Obj}
    (ho : w2.ownsRow w0.heap.size 86 2 v' (l.length + 1) (loC s l ++ loV s i)) (hg : (w1.alloc o).grownBy w2 v.ownBlock) :
    LoS w0 w2 it R s v' (l ++ [i]) (fun y => L y && !(y == (i : Int))) c1 := by
  have kg := keeps_grown hg
  have hv := h.ne
  have k2 : Keeps (fun k => v.ownBlock = some k) w1 w2 := (((Keeps.refl (fun k => v.ownBlock = some k) w1).alloc o).trans kg (fun _ x => .inl x))
  have z1 := h.old.size
  refine ⟨fun x hx => h.lo x (by simp at hx; exact hx.1), hr.keep k2 (fun e => by have := (hv _ e).1; omega) (fun e => (hv _ e).2 rfl), ?_, ?_, ?_, ?_, ?_, ?_, ?_, h.itl⟩
  · refine h.old.trans (Keeps.below (B := w0.heap.size) ((k1.mono (T := fun j => w0.heap.size ≤ j) (fun n _ e => e ▸ h.itl)).trans (k2.mono (T := fun j => w0.heap.size ≤ j) (fun n _ e => (hv n e).1)) (fun n x => .inl x)) z1)
  · have e : loC s (l ++ [i]) = loC s l ++ loV s i := by simp [loC]
    rw [e]; simpa using ho
  · exact List.nodup_append.2 ⟨h.nod, by simp, fun a ha b hb e => by simp at hb; exact hni (hb ▸ e ▸ ha)⟩
  · intro j hj
    rcases List.mem_append.1 hj with hj | hj
    · exact h.mem j hj
    · simp at hj; subst hj; exact ⟨hi, hne⟩
  · intro j hj hl
    by_cases e : j = i
    · subst e; exact .inr (by simp)
    · rcases h.lft j hj hl with x | x
      · exact .inl (by simp [x]; omega)
      · exact .inr (by simp [x])
  · intro j hj hm
    simp only [Bool.and_eq_true, Bool.not_eq_true', beq_eq_false_iff_ne, ne_eq] at hj
    rcases List.mem_append.1 hm with hm | hm
    · exact h.new hj.1 hm
    · simp at hm; omega
  · have := h.cnt; simp; omega

theorem LoS.perm {it c : Nat} {v : Value} {l : List Nat} {L : Int → Bool} (h : LoS w0 w it R s v l L c) (n1 : s.n ≤ 4096) (hL : ∀ x, (Lit.int .i64 x).wf = true → L x = false) : List.Perm l (looseI s) := by
  refine (List.perm_ext_iff_of_nodup h.nod ?_).2 fun i => ?_
  · exact List.Nodup.sublist List.filter_sublist List.nodup_range
  · rw [mem_looseI]
    refine ⟨fun hi => h.mem i hi, fun ⟨h1, h2⟩ => (h.lft i h1 h2).elim (fun x => ?_) id⟩
    rw [hL _ (WalkArith.wf_i64 (by omega))] at x; cases x
end

theorem keeps_sortK {α : Type} [Inhabited α] {enc : α → List Value} {k g n : Nat} {d : Array α} {os : Array Obj} (w : World) : Keeps (fun j => j = g) w (sortWorldK enc k w g 0 n d os) := by
  refine ⟨rfl, rfl, rfl, by simp [sortWorldK, putRowK, putRow, mapBlock, Sort.ahead, grow], fun j hj hn => ?_⟩
  unfold sortWorldK
  rw [heap_grow_old _ _ (by simpa [putRowK, putRow, mapBlock, Sort.ahead] using hj)]
  have : g ≠ j := fun e => hn e.symm
  simp [putRowK, putRow, mapBlock, Sort.ahead, Array.getElem?_modify, this]

theorem getB {α : Type} [Inhabited α] {d : List α} {j : Nat} {x : α} (h : d[j]? = some x) : d.toArray[j]! = x := by
  have hj : j < d.length := (List.getElem?_eq_some_iff.1 h).1
  rw [getElem!_pos d.toArray j (by simpa using hj)]
  rw [List.getElem?_eq_getElem hj] at h
  simpa using h

theorem perm_of_val {d q : List (Fin 4096)} (h : List.Perm (d.map Fin.val) (q.map Fin.val)) : List.Perm d q := by
  have := h.map (Fin.ofNat 4096)
  simp only [List.map_map] at this
  have e : (Fin.ofNat 4096 ∘ Fin.val) = (id : Fin 4096 → Fin 4096) := by
    funext x; apply Fin.ext; simp [Fin.ofNat, Nat.mod_eq_of_lt x.isLt]
  rw [e, List.map_id, List.map_id] at this
  exact this

/-- The sort. -/
theorem lo_sort {w : World} {B g cap : Nat} {s : DS} {l : List Nat} (n1 : s.n ≤ 4096) (hp : List.Perm l (looseI s)) (ho : w.ownsRow B 86 2 (.slice (some ⟨g, 0, none⟩) l.length cap) l.length (loC s l)) :
    Calls Try.prog 47 #[.slice (some ⟨g, 0, none⟩) l.length cap, .func (.func 48) #[] #[]] w fun e w' => e = .returned (.tuple #[]) ∧ RdLo w' (.slice (some ⟨g, 0, none⟩) l.length cap) (looseL s) ∧ Keeps (fun j => j = g) w w' := by
  have hlt : ∀ i ∈ l, i < 4096 := fun i hi => by have := (mem_looseI.1 (hp.mem_iff.1 hi)).1; omega
  have hltI : ∀ i ∈ looseI s, i < 4096 := fun i hi => by have := (mem_looseI.1 hi).1; omega
  obtain ⟨d, hd⟩ : ∃ d : List (Fin 4096), d.map Fin.val = l := ⟨l.attach.map (fun x => ⟨x.1, hlt x.1 x.2⟩), by simp⟩
  obtain ⟨q, hq⟩ : ∃ q : List (Fin 4096), q.map Fin.val = looseI s := ⟨(looseI s).attach.map (fun x => ⟨x.1, hltI x.1 x.2⟩), by simp⟩
  have hlen : d.length = l.length := by rw [← hd]; simp
  have hqlen : q.length = l.length := by rw [hp.length_eq, ← hq]; simp
  have hlc : l.length < 4611686018427387904 := by
    have := hp.length_eq
    have h2 : (looseI s).length ≤ s.n := by
      unfold looseI
      exact Nat.le_trans (List.length_filter_le _ _) (by simp)
    omega
  have hblk : g < w.heap.size := (ho.lt g rfl).2
  have hcell : ∀ j u, (loC s l)[j]? = some u → w.cell? ⟨g, j, none⟩ = some u := fun j u hu => by
    have := ho.cells (g := g) rfl j u hu
    rw [addr_add] at this; simpa using this
  have hfr : ∀ j, w.frozen? ⟨g, j, none⟩ = false := by
    rcases ho.2 with ⟨e, _⟩ | ⟨g', cap', cur, e, _, hb, _⟩
    · cases e
    · simp at e
      obtain ⟨rfl, -⟩ := e
      exact fun j => blk_free hb j
  have hH : HoldsK (loE s) 2 w g 0 d.toArray := by
    intro t ht
    rw [size_flatK] at ht
    simp only [List.size_toArray] at ht
    refine ⟨?_, by simpa using hfr t⟩
    rw [get_flatK _ _ _ t (by simpa using ht), Nat.zero_add]
    obtain ⟨x, h1⟩ : ∃ x, d[t / 2]? = some x := ⟨_, List.getElem?_eq_getElem (show t / 2 < d.length by omega)⟩
    have h2 : l[t / 2]? = some x.val := by rw [← hd, List.getElem?_map, h1]; rfl
    rw [getB h1]
    obtain ⟨ca, cb⟩ := loC_at s l (t / 2) _ h2
    rcases Nat.mod_two_eq_zero_or_one t with h | h
    · rw [h, show t = 2 * (t / 2) by omega, hcell _ _ ca]; rfl
    · rw [h, show t = 2 * (t / 2) + 1 by omega, hcell _ _ cb]; rfl
  have eg : ∀ args w, (callFunc 48 args).run Try.prog w = .ok (.enter 48 args) w := enters_of Try.func48 (by kernel_rfl) rfl
  have hpq : List.Perm q d := perm_of_val (by rw [hd, hq]; exact hp.symm)
  have hms : q = d.mergeSort (fun x y => !(ltOf loF) y x) := by
    refine sorted_unique_holds loF_swo loF_tot d.toArray q.toArray ⟨by simp [hlen, hqlen], fun i hi => ?_, by simpa [hlen, hqlen, List.take_of_length_le (Nat.le_of_eq hqlen), List.take_of_length_le (Nat.le_of_eq hlen)] using hpq⟩ (fun i j _ hij hj => ?_)
    · have : d.length ≤ i := by simp at hi; omega
      rw [getElem!_neg _ _ (by simp; omega), getElem!_neg _ _ (by simp; omega)]
    · simp only [List.size_toArray] at hj
      have h1 : q[i]? = some (q[i]'(by omega)) := List.getElem?_eq_getElem (by omega)
      have h2 : q[j]? = some (q[j]'(by omega)) := List.getElem?_eq_getElem (by omega)
      rw [getB h1, getB h2, loF_lt]
      have hs : List.Pairwise (· < ·) (q.map Fin.val) := by
        rw [hq]; exact List.Pairwise.sublist List.filter_sublist List.pairwise_lt_range
      rw [List.pairwise_map] at hs
      have := List.pairwise_iff_getElem.1 hs i j (by omega) (by omega) hij
      simp; omega
  have hcon := AnyQ.slices_SortFunc_total sortL 2 Try.isAgg86 Try.sizeOf86 (loE s) (fun _ => rfl) (fun x v hv => by simp [loE, loV] at hv; rcases hv with rfl | rfl <;> rfl) loF loF_swo 48 #[] g 0 cap d.toArray w eg (lo_lays s g 0 _ w) hH hblk (by simpa [hlen] using hlc) loF_tot
  rw [show (d.toArray.toList.mergeSort fun x y => !(ltOf loF) y x) = q from hms.symm] at hcon
  rw [show d.toArray.size = l.length by simp [hlen]] at hcon
  change Calls Try.prog 47 _ _ _ at hcon
  refine hcon.mono ?_
  rintro e w' ⟨rfl, n, os, rfl⟩
  refine ⟨rfl, .inr ⟨g, cap, by rw [show (looseL s).length = l.length by simp [looseL, hp.length_eq]], fun j x hx => ?_⟩, keeps_sortK w⟩
  have hHq := holdsK_sortWorldK_c (loE s) 2 w g 0 d.toArray q.toArray n os hH hblk (by simp [hlen, hqlen])
  have hj : j < (looseL s).length := (List.getElem?_eq_some_iff.1 hx).1
  have hj2 : j < q.length := by simp [looseL] at hj; rw [hqlen, hp.length_eq]; exact hj
  have h1 : q[j]? = some q[j] := List.getElem?_eq_getElem hj2
  have h2 : x = (q[j].val, (s.loose q[j].val).length) := by
    unfold looseL at hx
    rw [← hq, List.map_map, List.getElem?_map, h1] at hx
    simpa using hx.symm
  have g0 := (hHq (2 * j) (by rw [size_flatK]; simp; omega)).1
  have g1 := (hHq (2 * j + 1) (by rw [size_flatK]; simp; omega)).1
  rw [get_flatK _ _ _ _ (by simp; omega), show 2 * j / 2 = j by omega, getB h1, show 2 * j % 2 = 0 by omega, Nat.zero_add] at g0
  rw [get_flatK _ _ _ _ (by simp; omega), show (2 * j + 1) / 2 = j by omega, getB h1, show (2 * j + 1) % 2 = 1 by omega, Nat.zero_add] at g1
  subst h2
  exact ⟨g0, g1⟩

theorem row_slice {w : World} {base sz n : Nat} {t : TypeId} {v : Value} {xs : List Value} (h : w.ownsRow base t sz v n xs) : ∃ A c, v = .slice A n c := by
  rcases h.2 with ⟨e, h0⟩ | ⟨g, cap, cur, e, _⟩
  · exact ⟨none, 0, by rw [h0]; exact e⟩
  · exact ⟨_, cap, e⟩

theorem lo_sort0 (W : World) : Calls Try.prog 47 #[.slice none 0 0, .func (.func 48) #[] #[]] W fun e w' => e = .returned (.tuple #[]) ∧ w' = W := by
  have h := AnyF.slices_SortFunc_none sortL none 0 (.func (.func 48) #[] #[]) W
  change Calls Try.prog 47 _ _ _ at h
  exact h

section
variable {w : World} {b p : Nat} {R : DR} {s : DS}

theorem Dv.val (h : Dv w b p R s) {i : Nat} (hs : (looseM R s (i : Int)).isSome = true) : looseM R s (i : Int) = some (.slice (some ⟨lvB R i, 0, none⟩) (s.loose i).length (lvC R i)) := by
  have hl := looseM_some hs
  have hi : i < s.n := by have := hl.2.1; omega
  have hne : s.loose i ≠ [] := by have := hl.2.2; simpa using this
  obtain ⟨g, len, cap, gv, cv, e1, e2, _⟩ := h.last hi hne
  rw [looseM_in hl.1 hl.2.1 hl.2.2, Int.toNat_natCast]
  unfold lvB lvC
  rw [e1, e2]

set_option maxRecDepth 100000 in
set_option maxHeartbeats 4000000 in
theorem dv_loose (h : Dv w b p R s) (hl : s.lim ≤ 1000000) :
    Calls Try.prog 22 #[.pointer (some ⟨b, 0, none⟩)] w fun e w' => ∃ v, e = .returned v ∧ RdLo w' v (looseL s) ∧ Below w.heap.size w w' ∧ ∀ g, v.ownBlock = some g → w.heap.size ≤ g := by
  have RR := Lib.hid (dv_real h)
  have c2 := h.c2
  have H := Lib.hid h
  have HL := Lib.hid hl
  have MB := Lib.hid h.lm.lt
  obtain ⟨i0, hif, hz0, hz1, hz2⟩ := info_parts infoLo
  clear h hl
  go_enter Try.func22, Try.ntmps22
  go_wp2_with fail
  refine RR.out.mono ?_
  rintro e w' ⟨rfl, rfl⟩
  go_wp2_with (first
    | (at_range; refine wpList_range_v (b := R.m) (n := R.nl) (k := 3) (q := .i64) (R := hdr) (M := looseM R s) rfl _ rfl Try.underlying3 Try.underlying69 rfl H.out.lm ?_; intro w2 hr2 k2 z2)
    | go_in)
  go_frame
  have ST := Lib.hid (LoS.start H.out hr2 k2)
  clear hr2 k2 z2
  go_loopw [3] (fun v wr => ∃ l L c, LoS w wr w.heap.size R s v l L c) (fun _ wr => wr.rangeLeft R.m w.heap.size)
  case atStart => exact ⟨_, _, _, ST.out⟩
  case round =>
    obtain ⟨l, L, c, hf⟩ := hrel
    have HF := Lib.hid hf
    have DV := Lib.hid (fun (i : Nat) (hi : L (i : Int) = true) => looseM_some (hf.lo _ hi))
    clear hf
    go_wp2_with (first
      | (at_next; refine wpList_next_v (k := 3) (q := .i64) (R := hdr) rfl _ rfl Try.underlying3 hdr_told rfl HF.out.rg (fun i => .slice (some ⟨lvB R i, 0, none⟩) (s.loose i).length (lvC R i)) (fun x hx => (looseM_some (HF.out.lo x hx)).1) (fun i hi => H.out.val (HF.out.lo _ hi)) ?_ ?_)
      | go_in)
    · intro hc hl
      have PM := Lib.hid (HF.out.perm H.out.n1 hl)
      clear hl hc
      rcases HF.out.own.2 with ⟨e1, h0⟩ | ⟨g, cap, cur, e1, hB, hbk, -, -, -, -⟩
      · subst e1
        have el : looseI s = [] := by
          have := PM.out.length_eq
          rw [h0] at this
          exact List.eq_nil_of_length_eq_zero this.symm
        have FN := Lib.hid (show RdLo wr (.slice none 0 0) (looseL s) from .inl ⟨rfl, by rw [looseL, el]; rfl⟩)
        clear el h0
        go_wp2_with fail
        refine (lo_sort0 _).mono ?_
        rintro e w' ⟨rfl, rfl⟩
        go_wp2
        go_ret
        exact ⟨_, rfl, FN.out, HF.out.old, fun g e => by simp [Value.ownBlock] at e⟩
      · subst e1
        have SO := Lib.hid (lo_sort H.out.n1 PM.out HF.out.own)
        have GB := Lib.hid hB
        clear hbk hB
        go_wp2_with fail
        refine SO.out.mono ?_
        rintro e w' ⟨rfl, hr, hk⟩
        have FN := Lib.hid hr
        have FK := Lib.hid hk
        clear hr hk
        go_wp2
        go_ret
        refine ⟨_, rfl, FN.out, HF.out.old.trans (Keeps.below (B := w.heap.size) (FK.out.mono (fun n _ e => e ▸ GB.out)) HF.out.old.size), fun k e => ?_⟩
        have : g = k := by simpa [Value.ownBlock] using e
        exact this ▸ GB.out
    · intro i w4 c4 hwi hLi hr4 hlt k4 z4 hen
      obtain ⟨A, cv, rfl⟩ := row_slice HF.out.own
      have hl := DV.out i hLi
      have hi : i < s.n := by have := hl.2.1; omega
      have hne : s.loose i ≠ [] := by have := hl.2.2; simpa using this
      have OW := Lib.hid ((row_keep HF.out.own k4 (fun g e => (HF.out.ne g e).2)).alloc (.cells #[.int .i64 (i : Int), .int .i64 ((s.loose i).length : Int)] 86))
      have NX := Lib.hid (fun (w2 : World) (v' : Value) (hni : i ∉ l) (ho : w2.ownsRow w.heap.size 86 2 v' (l.length + 1) (loC s l ++ loV s i)) (hg : (w4.alloc (.cells #[.int .i64 (i : Int), .int .i64 ((s.loose i).length : Int)] 86)).grownBy w2 (Value.slice A l.length cv).ownBlock) => HF.out.next MB.out hLi hi hni hne hr4 hlt k4 ho hg)
      have NI := Lib.hid (HF.out.new hLi)
      have SZ := Lib.hid (show w.heap.size ≤ (w4.alloc (.cells #[.int .i64 (i : Int), .int .i64 ((s.loose i).length : Int)] 86)).heap.size by
        have := HF.out.old.size; rw [World.size_alloc]; omega)
      have CN := Lib.hid (show l.length + 1 ≤ 1000000 by have := HF.out.cnt; have := H.out.nl; have := HL.out; omega)
      have RE := Lib.hid HF.out.rg.left_eq
      have HLT := Lib.hid hlt
      have LB := Lib.hid (show (s.loose i).length ≤ 1000000 by have := H.out.ll i hi; have := HL.out; omega)
      clear hLi hr4 hlt k4 z4 hl hi hne DV
      have LVE := Lib.hid (show loV s i = [.int .i64 (i : Int), .int .i64 ((s.loose i).length : Int)] from rfl)
      generalize (s.loose i).length = N at *
      go_wp2_with (first
        | (at_builtin; refine wpList_append_own_at _ rfl _ _ 53 rfl w.heap.size 86 i0 (.agg #[.int .i64 0, .int .i64 0]) 2 16 Try.underlying53 hif hz0 hz1 hz2 rfl (by decide) _ _ _ rfl OW.out ⟨w4.heap.size, 0, none⟩ 1 1 [.int .i64 (i : Int), .int .i64 (N : Int)] rfl (by rfl) (World.news_of_block (heap_alloc_new _ _)) ?c2 ?c3 ?c4 ?c5 ?_)
        | go_in)
      case c2 => intro u hu; simp at hu; rcases hu with rfl | rfl <;> rfl
      case c3 => have := CN.out; unfold maxLen; omega
      case c4 => have := CN.out; omega
      case c5 => exact SZ.out
      rintro v' w2 hown' hgr - hat
      obtain ⟨A', cv', rfl⟩ := row_slice hown'
      have F5 := Lib.hid (NX.out w2 _ NI.out (by rw [LVE.out]; exact hown') hgr)
      clear hown' hgr hat
      go_wp2
      go_roundw
      case rel => exact ⟨_, _, _, F5.out⟩
      case measure => rw [F5.out.rg.left_eq, RE.out]; exact HLT.out
end

end Go.Proofs.Ytlfeglnacphhlaa
