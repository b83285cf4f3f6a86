/- Several texts of this claim, one behind the other. -/
import Derived.Test.YtbgknopjgohocaaGreatZA
import Derived.Test.YtbgknopjgohocaaGreatFr
import Derived.Maps.OwnOps
import Derived.Maps.OwnSet
import Derived.Maps.RangeWalk
import Derived.Maps.Views
import Derived.Deep.RegionLaw
import Derived.Deep.RegionLawGrows
import Derived.Laws.Cover3
import Derived.Shelf.SlSortCmp.QuietGrown
import Derived.Lib.SliceRun

/- Who left lately, as plain lists: puts in their order, of each key when it was put last; what counts of them. -/
namespace Go.Proofs.YtbgknopjgohocaaGreat
set_option linter.unusedVariables false

/-- Is a put its key's last? -/
def live (M : Int → Option Nat) (p : Int × Nat) : Bool := M p.1 == some p.2
def keysOf (P : List (Int × Nat)) (M : Int → Option Nat) : List Int := (P.filter (live M)).map Prod.fst
def woK (k : Int) (l : List Int) : List Int := l.filter fun x => !(x == k)
def putM (M : Int → Option Nat) (k : Int) (n : Nat) : Int → Option Nat := fun x => if x = k then some n else M x
def delM (M : Int → Option Nat) (k : Int) : Int → Option Nat := fun x => if x = k then none else M x

structure GhI (P : List (Int × Nat)) (M : Int → Option Nat) (now : Nat) : Prop where
  inc : P.Pairwise fun a b => a.2 < b.2
  pos : ∀ p ∈ P, 1 ≤ p.2 ∧ p.2 ≤ now
  mem : ∀ k w, M k = some w → (k, w) ∈ P
  u64 : ∀ p ∈ P, 0 ≤ p.1 ∧ p.1 ≤ 18446744073709551615

theorem live_iff {M : Int → Option Nat} {p : Int × Nat} : live M p = true ↔ M p.1 = some p.2 := by unfold live; exact beq_iff_eq

section
variable {P : List (Int × Nat)} {M : Int → Option Nat} {now : Nat} {k : Int} {p : Int × Nat}

theorem GhI.has (h : GhI P M now) : k ∈ keysOf P M ↔ (M k).isSome = true := by
  unfold keysOf
  rw [List.mem_map]
  constructor
  · rintro ⟨q, hq, rfl⟩
    rw [live_iff.1 (List.mem_filter.1 hq).2]; rfl
  · intro hs
    obtain ⟨w, hw⟩ := Option.isSome_iff_exists.1 hs
    exact ⟨(k, w), List.mem_filter.2 ⟨h.mem k w hw, live_iff.2 hw⟩, rfl⟩

theorem GhI.nodup (h : GhI P M now) : (keysOf P M).Nodup := by
  unfold keysOf
  rw [List.nodup_iff_pairwise_ne, List.pairwise_map]
  refine (h.inc.filter (live M)).imp_of_mem ?_
  intro a b ha hb hab e
  have h1 := live_iff.1 (List.mem_filter.1 ha).2
  have h2 := live_iff.1 (List.mem_filter.1 hb).2
  rw [e, h2] at h1
  simp at h1
  omega

theorem GhI.when (h : GhI P M now) {n : Nat} (hk : M k = some n) : 1 ≤ n ∧ n ≤ now := h.pos _ (h.mem k n hk)
theorem GhI.key (h : GhI P M now) {n : Nat} (hk : M k = some n) : 0 ≤ k ∧ k ≤ 18446744073709551615 := h.u64 _ (h.mem k n hk)

theorem GhI.put (h : GhI P M now) (k0 : 0 ≤ k) (k1 : k ≤ 18446744073709551615) : GhI (P ++ [(k, now + 1)]) (putM M k (now + 1)) (now + 1) ∧ keysOf (P ++ [(k, now + 1)]) (putM M k (now + 1)) = woK k (keysOf P M) ++ [k] := by
  refine ⟨⟨?_, ?_, ?_, ?_⟩, ?_⟩
  · rw [List.pairwise_append]
    refine ⟨h.inc, List.pairwise_singleton _ _, fun a ha b hb => ?_⟩
    rw [List.mem_singleton.1 hb]
    have := (h.pos a ha).2
    show a.2 < now + 1
    omega
  · intro q hq
    rcases List.mem_append.1 hq with hq | hq
    · have := h.pos q hq; omega
    · rw [List.mem_singleton.1 hq]; show 1 ≤ now + 1 ∧ now + 1 ≤ now + 1; omega
  · intro x w hx
    unfold putM at hx
    by_cases e : x = k
    · rw [if_pos e] at hx
      simp at hx
      rw [e, ← hx]
      exact List.mem_append_right _ (List.mem_singleton.2 rfl)
    · rw [if_neg e] at hx
      exact List.mem_append_left _ (h.mem x w hx)
  · intro q hq
    rcases List.mem_append.1 hq with hq | hq
    · exact h.u64 q hq
    · rw [List.mem_singleton.1 hq]; exact ⟨k0, k1⟩
  · unfold keysOf woK
    rw [List.filter_append, List.map_append, List.filter_map, List.filter_filter]
    have e1 : List.filter (live (putM M k (now + 1))) [(k, now + 1)] = [(k, now + 1)] := by
      rw [List.filter_cons_of_pos (by rw [live_iff]; unfold putM; rw [if_pos rfl]), List.filter_nil]
    rw [e1]
    have e2 : List.filter (live (putM M k (now + 1))) P = List.filter (fun a => ((fun x => !x == k) ∘ Prod.fst) a && live M a) P := by
      apply List.filter_congr
      intro q hq
      by_cases e : q.1 = k
      · have h1 : live (putM M k (now + 1)) q = false := by
          rw [Bool.eq_false_iff]; intro hl
          have := live_iff.1 hl
          unfold putM at this
          rw [if_pos e] at this
          simp at this
          have := (h.pos q hq).2
          omega
        rw [h1]; simp [e]
      · have h1 : live (putM M k (now + 1)) q = live M q := by unfold live putM; rw [if_neg e]
        rw [h1]; simp [e]
    rw [e2]; rfl

theorem GhI.take (h : GhI P M now) (k : Int) : GhI P (delM M k) now ∧ keysOf P (delM M k) = woK k (keysOf P M) := by
  refine ⟨⟨h.inc, h.pos, fun x w hx => ?_, h.u64⟩, ?_⟩
  · unfold delM at hx
    by_cases e : x = k
    · rw [if_pos e] at hx; cases hx
    · rw [if_neg e] at hx; exact h.mem x w hx
  · unfold keysOf woK
    rw [List.filter_map, List.filter_filter]
    congr 1
    apply List.filter_congr
    intro q hq
    by_cases e : q.1 = k
    · have h1 : live (delM M k) q = false := by
        rw [Bool.eq_false_iff]; intro hl
        have := live_iff.1 hl
        unfold delM at this
        rw [if_pos e] at this
        cases this
      rw [h1]; simp [e]
    · have h1 : live (delM M k) q = live M q := by unfold live delM; rw [if_neg e]
      rw [h1]; simp [e]

theorem GhI.dead (h : GhI (p :: P) M now) (hp : live M p = false) : GhI P M now ∧ keysOf P M = keysOf (p :: P) M := by
  have hi := List.pairwise_cons.1 h.inc
  refine ⟨⟨hi.2, fun q hq => h.pos q (List.mem_cons_of_mem _ hq), fun x w hx => ?_, fun q hq => h.u64 q (List.mem_cons_of_mem _ hq)⟩, ?_⟩
  · rcases List.mem_cons.1 (h.mem x w hx) with e | e
    · rw [← e] at hp
      rw [Bool.eq_false_iff] at hp
      exact absurd (live_iff.2 hx) hp
    · exact e
  · unfold keysOf
    rw [List.filter_cons_of_neg (by rw [hp]; decide)]

theorem GhI.first (h : GhI (p :: P) M now) (hp : live M p = true) : GhI P (delM M p.1) now ∧ keysOf (p :: P) M = p.1 :: keysOf P (delM M p.1) := by
  have hi := List.pairwise_cons.1 h.inc
  have hM := live_iff.1 hp
  have hne : ∀ q ∈ P, M q.1 = some q.2 → q.1 ≠ p.1 := fun q hq hm e => by
    rw [e, hM] at hm
    simp at hm
    have := hi.1 q hq
    omega
  refine ⟨⟨hi.2, fun q hq => h.pos q (List.mem_cons_of_mem _ hq), fun x w hx => ?_, fun q hq => h.u64 q (List.mem_cons_of_mem _ hq)⟩, ?_⟩
  · unfold delM at hx
    by_cases e : x = p.1
    · rw [if_pos e] at hx; cases hx
    · rw [if_neg e] at hx
      rcases List.mem_cons.1 (h.mem x w hx) with e2 | e2
      · exact absurd (by rw [← e2]) e
      · exact e2
  · unfold keysOf
    rw [List.filter_cons_of_pos hp, List.map_cons]
    congr 2
    apply List.filter_congr
    intro q hq
    by_cases e : q.1 = p.1
    · have h1 : live (delM M p.1) q = false := by
        rw [Bool.eq_false_iff]; intro hl
        have := live_iff.1 hl
        unfold delM at this
        rw [if_pos e] at this
        cases this
      have h2 : live M q = false := by
        rw [Bool.eq_false_iff]; intro hl
        exact hne q hq (live_iff.1 hl) e
      rw [h1, h2]
    · unfold live delM; rw [if_neg e]

theorem GhI.sift (h : GhI P M now) : GhI (P.filter (live M)) M now ∧ keysOf (P.filter (live M)) M = keysOf P M := by
  refine ⟨⟨h.inc.filter _, fun q hq => h.pos q (List.mem_filter.1 hq).1, fun x w hx => List.mem_filter.2 ⟨h.mem x w hx, live_iff.2 hx⟩, fun q hq => h.u64 q (List.mem_filter.1 hq).1⟩, ?_⟩
  unfold keysOf
  rw [List.filter_filter]
  simp

theorem woK_len (l : List Int) (hn : l.Nodup) (k : Int) : (woK k l).length = if k ∈ l then l.length - 1 else l.length := by
  unfold woK
  induction l with
  | nil => rfl
  | cons a r ih =>
    have hn' := List.nodup_cons.1 hn
    have ih := ih hn'.2
    by_cases e : a = k
    · subst e
      rw [List.filter_cons_of_neg (by simp), if_pos (List.mem_cons_self ..), ih, if_neg hn'.1]
      simp
    · rw [List.filter_cons_of_pos (by simp [e]), List.length_cons, ih]
      have e' : ¬ k = a := fun x => e x.symm
      by_cases hk : k ∈ r
      · rw [if_pos hk, if_pos (List.mem_cons_of_mem _ hk)]
        have := List.length_pos_of_mem hk
        simp only [List.length_cons]; omega
      · rw [if_neg hk, if_neg (by simp [e', hk])]; rfl

theorem woK_le (k : Int) (l : List Int) : (woK k l).length ≤ l.length := List.length_filter_le _ _

/-- What 'settle' leaves: the last ones. -/
def lastG (most : Nat) (G : List Int) : List Int := G.drop (G.length - most)

/-- Without a key and the key behind; the first one goes if there are too many. -/
def putG (most : Nat) (G : List Int) (k : Int) : List Int := lastG most (woK k G ++ [k])

end

end Go.Proofs.YtbgknopjgohocaaGreat


/- Maps as functions: a block that is a map holds at x what M x says; a reader of elements that tells values apart; elements that are slices read by their headers. -/
namespace Go.Proofs.YtbgknopjgohocaaGreat
open Go.RowKit Go.Maps Go.WideMaps Go.WideElems Go.MapKept
set_option linter.unusedVariables false

/-- A slice's header as numbers; nil reads as nought. -/
def hdr {H : Type} (v : Value) : Option (DataW H × List MemPlace) :=
  match v with
  | .slice none 0 0 => some (.lit (.int .i64 0), [])
  | .slice (some ⟨g, 0, none⟩) n c => some (.slice [.lit (.int .i64 g), .lit (.int .i64 n), .lit (.int .i64 c)] [], [])
  | _ => none

theorem hdr_nil {H : Type} : hdr (H := H) (.slice none 0 0) = some (.lit (.int .i64 0), []) := rfl
theorem hdr_some {H : Type} (g n c : Nat) : hdr (H := H) (.slice (some ⟨g, 0, none⟩) n c) = some (.slice [.lit (.int .i64 g), .lit (.int .i64 n), .lit (.int .i64 c)] [], []) := rfl

/-- A reader of elements that tells values apart. -/
def Told {H : Type} (R : Value → Option (DataW H × List MemPlace)) : Prop := ∀ u v d p q, R u = some (d, p) → R v = some (d, q) → u = v

/-- A header is known by how it reads. -/
theorem hdr_told {H : Type} : Told (hdr (H := H)) := by
  intro u v d p q hu hv
  unfold hdr at hu hv
  split at hu <;> split at hv <;> simp at hu hv
  · rfl
  · obtain ⟨hu, -⟩ := hu; obtain ⟨hv, -⟩ := hv; rw [← hu] at hv; cases hv
  · obtain ⟨hu, -⟩ := hu; obtain ⟨hv, -⟩ := hv; rw [← hu] at hv; cases hv
  · obtain ⟨hu, -⟩ := hu; obtain ⟨hv, -⟩ := hv; rw [← hu] at hv
    simp at hv
    obtain ⟨a, b, c⟩ := hv
    rw [Int.ofNat_inj.1 a, Int.ofNat_inj.1 b, Int.ofNat_inj.1 c]

theorem plain_told {H : Type} {P : Program} {e : TypeId} {q : IntKind} (he : P.underlying e = some (.int q)) : Told (plainElem (H := H) P e) := by
  intro u v d p p' hu hv
  obtain ⟨a, rfl, h1, _⟩ := plainElem_int_inv he hu
  obtain ⟨b, rfl, h2, _⟩ := plainElem_int_inv he hv
  simp at h1 h2
  rw [h1.1] at h2
  simpa using h2.1

/-- Block b is a map with keys of kind q and n entries; at x it holds M x. -/
def MapV (P : Program) (k : TypeId) (q : IntKind) (R : Value → Option (DataW Unit × List MemPlace)) (w : World) (b n : Nat) (M : Int → Option Value) : Prop :=
  ∃ D : DataW Unit, w.ownsMap P k R b n D ∧ Maps.size D = n ∧ ∀ x, (Lit.int q x).wf = true → match M x with
    | none => Maps.has D (.int q x) = false
    | some v => ∃ d ps, R v = some (d, ps) ∧ ∀ z, D.atKey (.int q x) z = d

theorem ownsMap_tight {P : Program} {k : TypeId} {R : Value → Option (DataW Unit × List MemPlace)} {w : World} {b n : Nat} {D : DataW Unit} (h : w.ownsMap P k R b n D) : w.ownsMap P k R b (Maps.size D) D := by
  obtain ⟨es, clock, hb, F, hs, rfl⟩ := h
  exact ⟨es, clock, hb, F, by simp [Maps.size, length_sorted], rfl⟩

theorem isKey_int (q : IntKind) (x : Int) : WideAt.IsKeyLit (.int q x) := by simp [WideAt.IsKeyLit]

section
variable {P : Program} {k : TypeId} {q : IntKind} {R : Value → Option (DataW Unit × List MemPlace)} {w w' : World} {b n : Nat} {M N : Int → Option Value}

theorem MapV.congr (h : MapV P k q R w b n M) (e : ∀ x, (Lit.int q x).wf = true → M x = N x) : MapV P k q R w b n N := by
  obtain ⟨D, h1, h2, h3⟩ := h
  exact ⟨D, h1, h2, fun x hx => by rw [← e x hx]; exact h3 x hx⟩

theorem MapV.lt (h : MapV P k q R w b n M) : b < w.heap.size := by
  obtain ⟨D, h1, _⟩ := h
  exact h1.lt

theorem MapV.keep {S : Nat → Prop} (h : MapV P k q R w b n M) (kp : Keeps S w w') (hS : ¬ S b) : MapV P k q R w' b n M := by
  obtain ⟨D, ⟨es, clock, hb, r⟩, h2⟩ := h
  exact ⟨D, ⟨es, clock, kp.blk hb hS, r⟩, h2⟩

theorem MapV.drewN (h : MapV P k q R w b n M) (m : Nat) : MapV P k q R (w.drewN m) b n M := h

theorem MapV.ne_arr (h : MapV P k q R w b n M) {g L : Nat} {t : TypeId} {F : Nat → Value} (a : Arr w g t L F) : b ≠ g := by
  rintro rfl
  obtain ⟨D, ⟨es, clock, hb, _⟩, _⟩ := h
  obtain ⟨cs, hc, _⟩ := a
  rw [hb] at hc
  cases hc

theorem MapV.made (P : Program) (k : TypeId) (q : IntKind) (R : Value → Option (DataW Unit × List MemPlace)) (w : World) : MapV P k q R (w.alloc (.map #[] 0)) w.heap.size 0 (fun _ => none) :=
  ⟨.map [], World.ownsMap_made w P k R, rfl, fun x hx => rfl⟩

theorem keeps_turned {b : Nat} (h : w.mapTurned w' b) : Keeps (fun j => j = b) w w' := by
  have g := h.grown
  exact ⟨g.os, g.tape, g.output, g.size, fun j hj hn => g.block j hj (fun e => hn (by simpa using e))⟩

theorem turned_size {b : Nat} (h : w.mapTurned w' b) : w'.heap.size = w.heap.size := by
  obtain ⟨es, clock, es', clock', hb, rfl⟩ := h
  simp [ChangeMaps.setBlock]

variable {t e : TypeId}

/-- 'm[x]'. -/
theorem MapV.look (h : MapV P k q R w b n M) (hk : P.underlying k = some (.int q)) (ht : P.underlying t = some (.map k e)) (T : Told R) {z : Value} (hz : (zeroValue e).run P w = .ok z w) {zd : DataW Unit} {zp : List MemPlace} (hzd : R z = some (zd, zp)) (x : Int) (hx : (Lit.int q x).wf = true) :
    (Instr.lookup t (.map (some b)) (.int q x) false).run P w = .ok ((M x).getD z) w := by
  obtain ⟨D, h1, h2, h3⟩ := h
  obtain ⟨v, ps, hrun, hv⟩ := h1.lookup (int_keyed hk) ht hz hzd (keyOf_int_mk hk hx)
  have := h3 x hx
  rw [hrun]
  cases hM : M x with
  | none =>
    rw [hM] at this
    rw [atKey_of_not_has this] at hv
    rw [T _ _ _ _ _ hv hzd]; rfl
  | some u =>
    rw [hM] at this
    obtain ⟨d, ps', hu, hd⟩ := this
    rw [hd] at hv
    rw [T _ _ _ _ _ hv hu]; rfl

/-- 'v, ok := m[x]'. -/
theorem MapV.look_ok (h : MapV P k q R w b n M) (hk : P.underlying k = some (.int q)) (ht : P.underlying t = some (.map k e)) (T : Told R) {z : Value} (hz : (zeroValue e).run P w = .ok z w) {zd : DataW Unit} {zp : List MemPlace} (hzd : R z = some (zd, zp)) (x : Int) (hx : (Lit.int q x).wf = true) :
    (Instr.lookup t (.map (some b)) (.int q x) true).run P w = .ok (.tuple #[(M x).getD z, .bool (M x).isSome]) w := by
  obtain ⟨D, h1, h2, h3⟩ := h
  obtain ⟨v, ps, hrun, hv⟩ := h1.look_ok (int_keyed hk) ht hz hzd (keyOf_int_mk hk hx)
  have := h3 x hx
  rw [hrun]
  cases hM : M x with
  | none =>
    rw [hM] at this
    rw [atKey_of_not_has this] at hv
    rw [T _ _ _ _ _ hv hzd, this]; rfl
  | some u =>
    rw [hM] at this
    obtain ⟨d, ps', hu, hd⟩ := this
    have hh := has_true_of_atKey hd
    rw [hd] at hv
    rw [T _ _ _ _ _ hv hu, hh]; rfl

/-- 'm[x] = v'. -/
theorem MapV.store (h : MapV P k q R w b n M) (hk : P.underlying k = some (.int q)) (ht : P.underlying t = some (.map k e)) (hn : n < maxLen) (x : Int) (hx : (Lit.int q x).wf = true) {v : Value} {d : DataW Unit} {ps : List MemPlace} (hv : R v = some (d, ps)) :
    ∃ w', (Instr.mapUpdate t (.map (some b)) (.int q x) v).run P w = .ok () w' ∧ MapV P k q R w' b (if (M x).isSome then n else n + 1) (fun y => if y = x then some v else M y) ∧ w.mapTurned w' b := by
  obtain ⟨D, h1, h2, h3⟩ := h
  have K := int_keyed hk
  obtain ⟨w', hrun, h4, h5⟩ := h1.store K ht hn (keyOf_int_mk hk hx) hv
  have hsz : Maps.size (D.put (.int q x) d) = if (M x).isSome then n else n + 1 := by
    have := h3 x hx
    rw [size_put (h1.tidy K), h2]
    cases hM : M x with
    | none => rw [hM] at this; simp only at this; rw [this]; rfl
    | some u => rw [hM] at this; obtain ⟨d', ps', hu, hd⟩ := this; rw [has_true_of_atKey hd]; rfl
  refine ⟨w', hrun, ⟨_, hsz ▸ ownsMap_tight h4, hsz, fun y hy => ?_⟩, h5⟩
  by_cases e1 : y = x
  · subst e1
    simp only [if_true]
    exact ⟨d, ps, hv, fun z => atKey_put_same h1.isMap (isKey_int q y) d z⟩
  · simp only [if_neg e1]
    have hne : (Lit.int q y) ≠ .int q x := fun e2 => e1 (by simpa using e2)
    have := h3 y hy
    cases hM : M y with
    | none => rw [hM] at this; simp only at this ⊢; rw [has_put_other hne]; exact this
    | some u =>
      rw [hM] at this
      obtain ⟨d', ps', hu, hd⟩ := this
      exact ⟨d', ps', hu, fun z => by rw [atKey_put_other hne]; exact hd z⟩

theorem MapV.count (h : MapV P k q R w b n M) (hk : P.underlying k = some (.int q)) {x : Int} (hx : (Lit.int q x).wf = true) (hs : (M x).isSome = true) : 0 < n := by
  obtain ⟨D, h1, h2, h3⟩ := h
  have := h3 x hx
  obtain ⟨u, hu⟩ := Option.isSome_iff_exists.1 hs
  rw [hu] at this
  obtain ⟨d, ps, _, hd⟩ := this
  have e := size_del (k := .int q x) (h1.tidy (int_keyed hk))
  rw [has_true_of_atKey hd] at e
  simp at e
  omega

/-- What 'delete' leaves of a map as a function. -/
theorem mapV_del {D : DataW Unit} (hT : Tidy D) (hs : Maps.size D = n) (h3 : ∀ y, (Lit.int q y).wf = true → match M y with
    | none => Maps.has D (.int q y) = false
    | some v => ∃ d ps, R v = some (d, ps) ∧ ∀ z, D.atKey (.int q y) z = d) (x : Int) (hx : (Lit.int q x).wf = true) :
    Maps.size (D.del (.int q x)) = (if (M x).isSome then n - 1 else n) ∧ ∀ y, (Lit.int q y).wf = true → match (if y = x then none else M y) with
    | none => Maps.has (D.del (.int q x)) (.int q y) = false
    | some v => ∃ d ps, R v = some (d, ps) ∧ ∀ z, (D.del (.int q x)).atKey (.int q y) z = d := by
  constructor
  · have := h3 x hx
    have e1 := size_del (k := .int q x) hT
    rw [hs] at e1
    cases hM : M x with
    | none => rw [hM] at this; simp only at this; rw [this] at e1; simpa using e1
    | some u =>
      rw [hM] at this; obtain ⟨d', ps', hu, hd⟩ := this
      rw [has_true_of_atKey hd] at e1
      simp at e1 ⊢
      omega
  · intro y hy
    by_cases e1 : y = x
    · subst e1
      simp only [if_true]
      exact has_del_same
    · simp only [if_neg e1]
      have hne : (Lit.int q y) ≠ .int q x := fun e2 => e1 (by simpa using e2)
      have := h3 y hy
      cases hM : M y with
      | none => rw [hM] at this; simp only at this ⊢; rw [has_del_other hne]; exact this
      | some u =>
        rw [hM] at this
        obtain ⟨d', ps', hu, hd⟩ := this
        exact ⟨d', ps', hu, fun z => by rw [atKey_del_other hne]; exact hd z⟩

/-- 'delete(m, x)'. -/
theorem MapV.drop (h : MapV P k q R w b n M) (hk : P.underlying k = some (.int q)) (ht : P.underlying t = some (.map k e)) (x : Int) (hx : (Lit.int q x).wf = true) (ty : TypeId) :
    ∃ w', (Builtin.delete_ #[t, k] ty #[.map (some b), .int q x]).run P w = .ok (.tuple #[]) w' ∧ MapV P k q R w' b (if (M x).isSome then n - 1 else n) (fun y => if y = x then none else M y) ∧ w.mapTurned w' b := by
  obtain ⟨D, h1, h2, h3⟩ := h
  have K := int_keyed hk
  obtain ⟨w', hrun, h4, h5⟩ := h1.drop K ht (keyOf_int_mk hk hx) ty
  obtain ⟨hsz, hM⟩ := mapV_del (h1.tidy K) h2 h3 x hx
  exact ⟨w', hrun, ⟨_, hsz ▸ ownsMap_tight h4, hsz, hM⟩, h5⟩

/-- 'len(m)'. -/
theorem MapV.len (h : MapV P k q R w b n M) (ht : P.underlying t = some (.map k e)) (ty : TypeId) : (Builtin.len_ #[t] ty #[.map (some b)]).run P w = .ok (.int .i64 (n : Int)) w := by
  obtain ⟨D, h1, h2, h3⟩ := h
  rw [h1.len ht ty, h2]

/-- 'clear(m)'. -/
theorem MapV.clear (h : MapV P k q R w b n M) (ht : P.underlying t = some (.map k e)) (ty : TypeId) :
    ∃ w', (Builtin.clear_ #[t] ty #[.map (some b)]).run P w = .ok (.tuple #[]) w' ∧ MapV P k q R w' b 0 (fun _ => none) ∧ w.mapTurned w' b := by
  obtain ⟨D, ⟨es, clock, hb, F, hs, rfl⟩, h2⟩ := h
  refine ⟨ChangeMaps.setBlock w b (.map #[] clock), ?_, ⟨.map [], ⟨#[], clock, ChangeMaps.heap_setBlock_same hb _, ⟨by simp, ?_, by simp⟩, Nat.le_refl _, rfl⟩, rfl, fun x hx => rfl⟩, ⟨es, clock, #[], clock, hb, rfl⟩⟩
  · simp [Builtin.clear_, run_underlying ht, MapKept.run_getObj_map hb, ChangeMaps.setBlock, Go.setObj, Sem.run, hb, Result.andThen]
  · exact stamped_empty clock
end

end Go.Proofs.YtbgknopjgohocaaGreat


/- Ranges over maps as functions. -/
namespace Go.Proofs.YtbgknopjgohocaaGreat
open Go.RowKit Go.Maps Go.WideMaps Go.WideElems Go.MapKept
set_option linter.unusedVariables false

/-- A range over the map in block b by the iterator in block r: n entries; it holds M; L says which keys are still to come, c how many. -/
def RangeV (P : Program) (k : TypeId) (q : IntKind) (R : Value → Option (DataW Unit × List MemPlace)) (w : World) (b r n : Nat) (M : Int → Option Value) (L : Int → Bool) (c : Nat) : Prop :=
  ∃ (D : DataW Unit) (left : Lit → Bool), w.ranges P k R b r n D left c ∧ Maps.size D = n ∧ (∀ x, (Lit.int q x).wf = true → left (.int q x) = L x) ∧ ∀ x, (Lit.int q x).wf = true → match M x with
    | none => Maps.has D (.int q x) = false
    | some v => ∃ d ps, R v = some (d, ps) ∧ ∀ z, D.atKey (.int q x) z = d

section
variable {P : Program} {k : TypeId} {q : IntKind} {R : Value → Option (DataW Unit × List MemPlace)} {w w' : World} {b r n c : Nat} {M : Int → Option Value} {L L' : Int → Bool}

theorem RangeV.map (h : RangeV P k q R w b r n M L c) : MapV P k q R w b n M := by
  obtain ⟨D, left, h1, h2, h3, h4⟩ := h
  exact ⟨D, h1.owns, h2, h4⟩

theorem RangeV.keep {S : Nat → Prop} (h : RangeV P k q R w b r n M L c) (kp : Keeps S w w') (hb : ¬ S b) (hr : ¬ S r) : RangeV P k q R w' b r n M L c := by
  obtain ⟨D, left, h1, h2⟩ := h
  have hlb := h1.owns.lt
  have hlr := h1.lt
  obtain ⟨es, clock, since, seen, c0, ha, F, hs, hD, hi, rest⟩ := h1
  exact ⟨D, left, ⟨es, clock, since, seen, c0, (kp.block b hlb hb).trans ha, F, hs, hD, (kp.block r hlr hr).trans hi, rest⟩, h2⟩

theorem RangeV.ne (h : RangeV P k q R w b r n M L c) : r ≠ b := by
  obtain ⟨D, left, h1, _⟩ := h
  exact h1.ne

theorem RangeV.lt (h : RangeV P k q R w b r n M L c) : r < w.heap.size := by
  obtain ⟨D, left, h1, _⟩ := h
  exact h1.lt

theorem RangeV.left_eq (h : RangeV P k q R w b r n M L c) : w.rangeLeft b r = c := by
  obtain ⟨D, left, h1, _⟩ := h
  exact h1.left_eq

theorem RangeV.congr (h : RangeV P k q R w b r n M L c) (e : ∀ x, (Lit.int q x).wf = true → L x = L' x) : RangeV P k q R w b r n M L' c := by
  obtain ⟨D, left, h1, h2, h3, h4⟩ := h
  exact ⟨D, left, h1, h2, fun x hx => (h3 x hx).trans (e x hx), h4⟩

/-- What is still to come is there. -/
theorem RangeV.there (h : RangeV P k q R w b r n M L c) (hk : P.underlying k = some (.int q)) {x : Int} (hx : (Lit.int q x).wf = true) (hl : L x = true) : (M x).isSome = true := by
  obtain ⟨D, left, ⟨es, clock, since, seen, c0, ha, F, hs, hD, hi, h5, h6, h7, h8, h9⟩, h2, h3, h4⟩ := h
  rw [← h3 x hx] at hl
  obtain ⟨e, he, hek⟩ := h8 _ hl
  have hM := h4 x hx
  cases hm : M x with
  | some v => rfl
  | none =>
    rw [hm] at hM
    simp only at hM
    rw [hD] at hM
    have := (List.any_eq_false.1 hM) (rg P k R e) (mem_sorted.2 (List.mem_map.2 ⟨e, he, rfl⟩))
    rw [hek, WideAt.sameKey_self (isKey_int q x)] at this
    exact absurd rfl this

variable {ops : Array Oper} {rest : List Oper} {o : Oper} {a : Act} {Q : Exit → Act → World → Prop} {t e : TypeId}

/-- 'range m'. -/
theorem wpList_range_v (hg : o.guard = none) (m : Operand) (hop : o.op = Op.range t m) (hk : P.underlying k = some (.int q)) (ht : P.underlying t = some (.map k e))
    (hm : a.eval m = .map (some b)) (h : MapV P k q R w b n M)
    (hK : ∀ w', RangeV P k q R w' b w.heap.size n M (fun x => (M x).isSome) n → Keeps (fun _ => False) w w' → w'.heap.size = w.heap.size + 1 → wpList P ops Q rest (a.put o.dst (.pointer (some ⟨w.heap.size, 0, none⟩))) w') :
    wpList P ops Q (o :: rest) a w := by
  obtain ⟨D, h1, h2, h3⟩ := h
  refine wpList_range_own (H := Unit) w hg m t hop k e (int_keyed hk) ht R b n D hm h1 fun w' hr hgr hs => hK w' ⟨D, _, by rw [← h2]; rw [h2]; rw [h2] at hr; exact hr, h2, fun x hx => ?_, h3⟩ ⟨hgr.os, hgr.tape, hgr.output, hgr.size, fun j hj _ => hgr.block j hj (by simp)⟩ hs
  have := h3 x hx
  cases hM : M x with
  | none => rw [hM] at this; show Maps.has D _ = (M x).isSome; rw [hM]; exact this
  | some v => rw [hM] at this; obtain ⟨d, ps, _, hd⟩ := this; show Maps.has D _ = (M x).isSome; rw [hM, has_true_of_atKey hd]; rfl

/-- The step, where what is to come lies at keys that are not below nought; V says what lies there. -/
theorem wpList_next_v (hg : o.guard = none) (it : Operand) (hop : o.op = Op.next it false) (hk : P.underlying k = some (.int q)) (T : Told R)
    (hit : a.eval it = .pointer (some ⟨r, 0, none⟩)) (h : RangeV P k q R w b r n M L c) (V : Nat → Value) (h0 : ∀ x, L x = true → 0 ≤ x) (hV : ∀ i : Nat, L i = true → M i = some (V i))
    (hDone : c = 0 → (∀ x, (Lit.int q x).wf = true → L x = false) → wpList P ops Q rest (a.put o.dst (.tuple #[.bool false])) w)
    (hMore : ∀ (i : Nat) (w' : World) (c' : Nat), (Lit.int q (i : Int)).wf = true → L i = true → RangeV P k q R w' b r n M (fun y => L y && !(y == (i : Int))) c' → c' < c → Keeps (fun j => j = r) w w' → w'.heap.size = w.heap.size →
      (Instr.entry (.pointer (some ⟨r, 0, none⟩))).run P w' = .ok (.tuple #[.int q (i : Int), V i]) w' → wpList P ops Q rest (a.put o.dst (.tuple #[.bool true, .int q (i : Int), V i])) w') :
    wpList P ops Q (o :: rest) a w := by
  obtain ⟨D, left, h1, h2, h3, h4⟩ := h
  refine wpList_plain hg fun K' hK' => ?_
  unfold Oper.wp
  rcases h1.next (int_keyed hk) o.type with ⟨hc, hl, hrun⟩ | ⟨key, v, kl, y, w', c', hkey, hlk, hv, hat, hrun, hrg, hlt, hgr, hsz, hen⟩
  · simp [execOp, hop, hit, hrun, Result.andThen]
    exact hK' _ _ (hDone hc (fun x hx => by rw [← h3 x hx]; exact hl _))
  · obtain ⟨x, rfl, rfl, hwx⟩ := Maps.keyOf_int_inv hk hkey
    have hlx : L x = true := by rw [← h3 x hwx]; exact hlk
    obtain ⟨i, rfl⟩ : ∃ i : Nat, x = (i : Int) := ⟨x.toNat, by have := h0 x hlx; omega⟩
    have hMi := hV i hlx
    have h5 := h4 _ hwx
    rw [hMi] at h5
    obtain ⟨d, ps, hRV, hd⟩ := h5
    obtain rfl : v = V i := T _ _ _ _ _ (show R v = some (y.1, y.2) from hv) (by rw [hRV, ← hat .nil, hd])
    simp [execOp, hop, hit, hrun, Result.andThen]
    refine hK' _ _ (hMore i w' c' hwx hlx ⟨D, _, hrg, h2, fun y hy => ?_, h4⟩ hlt ⟨hgr.os, hgr.tape, hgr.output, hgr.size, fun j hj hn => hgr.block j hj (fun e => hn (by simpa using e))⟩ hsz hen)
    rw [h3 y hy]
    by_cases e : y = (i : Int)
    · subst e; simp [WideAt.sameKey_self (isKey_int q _)]
    · rw [sameKey_ne (fun e2 => e (by simpa using e2))]; simp [e]

/-- 'delete(m, x)'. -/
theorem wpList_delete_v (hg : o.guard = none) (m x : Operand) (hop : o.op = Op.call { callee := Callee.builtin Builtin.delete, args := #[m, x], argTypes := #[t, k] })
    (hk : P.underlying k = some (.int q)) (ht : P.underlying t = some (.map k e)) (hm : a.eval m = .map (some b)) (h : MapV P k q R w b n M) (y : Int) (hx : a.eval x = .int q y) (hy : (Lit.int q y).wf = true)
    (hK : ∀ w', MapV P k q R w' b (if (M y).isSome then n - 1 else n) (fun z => if z = y then none else M z) → w.mapTurned w' b → wpList P ops Q rest (a.put o.dst (.tuple #[])) w') :
    wpList P ops Q (o :: rest) a w := by
  refine wpList_plain hg fun K' hK' => ?_
  obtain ⟨w', hrun, r1, r2⟩ := h.drop hk ht y hy o.type
  unfold Oper.wp
  simp [execOp, hop, resolve, invoke, builtin, hm, hx, hrun, Result.andThen]
  exact hK' _ _ (hK w' r1 r2)

/-- 'clear(m)'. -/
theorem wpList_clear_v (hg : o.guard = none) (m : Operand) (hop : o.op = Op.call { callee := Callee.builtin Builtin.clear, args := #[m], argTypes := #[t] })
    (ht : P.underlying t = some (.map k e)) (hm : a.eval m = .map (some b)) (h : MapV P k q R w b n M)
    (hK : ∀ w', MapV P k q R w' b 0 (fun _ => none) → w.mapTurned w' b → wpList P ops Q rest (a.put o.dst (.tuple #[])) w') :
    wpList P ops Q (o :: rest) a w := by
  refine wpList_plain hg fun K' hK' => ?_
  obtain ⟨w', hrun, r1, r2⟩ := h.clear ht o.type
  unfold Oper.wp
  simp [execOp, hop, resolve, invoke, builtin, hm, hrun, Result.andThen]
  exact hK' _ _ (hK w' r1 r2)

/-- 'm[x] = v'. -/
theorem wpList_update_v (hg : o.guard = none) (m x v : Operand) (hop : o.op = Op.mapUpdate t m x v)
    (hk : P.underlying k = some (.int q)) (ht : P.underlying t = some (.map k e)) (hm : a.eval m = .map (some b)) (h : MapV P k q R w b n M) (hn : n < maxLen) (y : Int) (u : Value) (hx : a.eval x = .int q y) (hv : a.eval v = u) (hy : (Lit.int q y).wf = true) {d : DataW Unit} {ps : List MemPlace} (hu : R u = some (d, ps))
    (hK : ∀ w', MapV P k q R w' b (if (M y).isSome then n else n + 1) (fun z => if z = y then some u else M z) → w.mapTurned w' b → wpList P ops Q rest (a.put o.dst undef) w') :
    wpList P ops Q (o :: rest) a w := by
  refine wpList_plain hg fun K' hK' => ?_
  obtain ⟨w', hrun, r1, r2⟩ := h.store hk ht hn y hy hu
  unfold Oper.wp
  simp [execOp, hop, hm, hx, hv, hrun, Result.andThen]
  exact hK' _ _ (hK w' r1 r2)
end

end Go.Proofs.YtbgknopjgohocaaGreat


/- A row of puts that is cut in front and grows behind: what it holds, and what 'append' makes of it. -/
namespace Go.Proofs.YtbgknopjgohocaaGreat
open Go.RowKit Go.Maps
set_option linter.unusedVariables false

theorem infoPut : (Tryz.prog.info? 187).map (fun i => (i.zero, i.size, i.bytes)) = some (some (.agg #[.int .u64 0, .int .i64 0]), 2, 16) := by kernel_rfl

theorem addr_addG (g o j : Nat) : (⟨g, o, none⟩ : Addr).add j = ⟨g, o + j, none⟩ := by unfold Addr.add; split <;> simp_all
theorem rowS {w : World} {base sz n : Nat} {t : TypeId} {v : Value} {xs : List Value} (h : w.ownsRow base t sz v n xs) : ∃ A c, v = .slice A n c := by
  rcases h.2 with ⟨h1, h2⟩ | ⟨g, cap, cur, hv, _⟩
  · exact ⟨none, 0, by rw [h1, h2]⟩
  · exact ⟨_, _, hv⟩
theorem enc_at : ∀ (Q : List (Int × Nat)) (i : Nat) (p : Int × Nat), Q[i]? = some p → (Q.flatMap fun p => [Value.int .u64 p.1, Value.int .i64 (p.2 : Int)])[i * 2]? = some (.int .u64 p.1) ∧ (Q.flatMap fun p => [Value.int .u64 p.1, Value.int .i64 (p.2 : Int)])[i * 2 + 1]? = some (.int .i64 (p.2 : Int)) := by
  intro Q
  induction Q with
  | nil => intro i p h; simp at h
  | cons a Q ih =>
    intro i p h
    cases i with
    | zero => simp at h; subst h; exact ⟨rfl, rfl⟩
    | succ i =>
      have := ih i p (by simpa using h)
      rw [List.flatMap_cons, show (i + 1) * 2 = i * 2 + 2 by omega, show i * 2 + 2 + 1 = i * 2 + 1 + 2 by omega]
      exact this

/-- The slice v holds the puts P; the cells behind may be anything. -/
def Que (w : World) (v : Value) (P : List (Int × Nat)) : Prop :=
  (v = .slice none 0 0 ∧ P = []) ∨ ∃ g o c L F, v = .slice (some ⟨g, o, none⟩) P.length c ∧ Arr w g 187 L F ∧ P.length ≤ c ∧ c ≤ maxLen ∧ o + c * 2 ≤ L ∧
    ∀ (i : Nat) (p : Int × Nat), P[i]? = some p → F (o + i * 2) = .int .u64 p.1 ∧ F (o + i * 2 + 1) = .int .i64 (p.2 : Int)

section
variable {w w' : World} {v : Value} {P : List (Int × Nat)} {p : Int × Nat}

theorem Que.keep {T : Nat → Prop} (h : Que w v P) (k : Keeps T w w') (hT : ∀ g, v.ownBlock = some g → ¬ T g) : Que w' v P := by
  rcases h with h | ⟨g, o, c, L, F, hv, ha, r⟩
  · exact .inl h
  · exact .inr ⟨g, o, c, L, F, hv, ha.keep k (hT g (by rw [hv]; rfl)), r⟩
theorem Que.lt (h : Que w v P) : ∀ g, v.ownBlock = some g → g < w.heap.size := by
  rcases h with ⟨h, _⟩ | ⟨g, o, c, L, F, hv, ha, r⟩
  · intro g e; rw [h] at e; simp [Value.ownBlock] at e
  · intro k e
    rw [hv] at e
    obtain rfl : g = k := by simpa [Value.ownBlock] using e
    exact ha.lt
theorem Que.ne (h : Que w v P) {b L : Nat} {t : TypeId} {F : Nat → Value} (a : Arr w b t L F) (ht : t ≠ 187) : v.ownBlock ≠ some b := by
  rcases h with ⟨h, _⟩ | ⟨g, o, c, L', F', hv, ha, r⟩
  · rw [h]; simp [Value.ownBlock]
  · intro e
    rw [hv] at e
    obtain rfl : g = b := by simpa [Value.ownBlock] using e
    exact ha.ne a (fun e => ht e.symm) rfl
theorem Que.ne_map (h : Que w v P) {pr : Program} {k : TypeId} {q : IntKind} {R : Value → Option (DataW Unit × List MemPlace)} {b n : Nat} {M : Int → Option Value} (a : MapV pr k q R w b n M) : v.ownBlock ≠ some b := by
  rcases h with ⟨h, _⟩ | ⟨g, o, c, L', F', hv, ha, r⟩
  · rw [h]; simp [Value.ownBlock]
  · intro e
    rw [hv] at e
    obtain rfl : g = b := by simpa [Value.ownBlock] using e
    exact a.ne_arr ha rfl
theorem Que.old (h : Que w v P) (k : Below w.heap.size w w') : Que w' v P := h.keep (Keeps.of_below k) (fun g e => Nat.not_le.2 (h.lt g e))

/-- Opened: where it lies. -/
theorem Que.open_ (h : Que w v P) : ∃ A c, v = .slice A P.length c ∧ P.length ≤ c ∧ c ≤ maxLen ∧ (0 < P.length → ∃ g o, A = some ⟨g, o, none⟩ ∧ ∀ W, Below w.heap.size w W → ∀ (i : Nat) (p : Int × Nat), P[i]? = some p → W.cell? ⟨g, o + i * 2, none⟩ = some (.int .u64 p.1) ∧ W.cell? ⟨g, o + i * 2 + 1, none⟩ = some (.int .i64 (p.2 : Int))) := by
  rcases h with ⟨h, rfl⟩ | ⟨g, o, c, L, F, hv, ha, h1, h2, h3, h4⟩
  · exact ⟨none, 0, h, Nat.le_refl _, Nat.zero_le _, fun x => absurd x (by simp)⟩
  · refine ⟨_, c, hv, h1, h2, fun h0 => ⟨g, o, rfl, fun W hb i p hp => ?_⟩⟩
    have hi : i < P.length := (List.getElem?_eq_some_iff.1 hp).1
    obtain ⟨e1, e2⟩ := h4 i p hp
    have aw := ha.below hb ha.lt
    exact ⟨by rw [aw.cell (by omega), e1], by rw [aw.cell (by omega), e2]⟩

/-- The front cut off. -/
theorem Que.tail {A : Option Addr} {n c : Nat} (h : Que w (.slice A n c) (p :: P)) : ∃ g o, A = some ⟨g, o, none⟩ ∧ n = P.length + 1 ∧ n ≤ c ∧ c ≤ maxLen ∧
    (c ≠ 1 → Que w (.slice (some ⟨g, o + 2, none⟩) P.length (c - 1)) P) ∧ (c = 1 → P = [] ∧ Que w (.slice (some ⟨g, o, none⟩) P.length 0) P) := by
  rcases h with ⟨h, h2⟩ | ⟨g, o, c', L, F, hv, ha, h1, h2, h3, h4⟩
  · cases h2
  · simp at hv
    obtain ⟨rfl, rfl, rfl⟩ := hv
    simp only [List.length_cons] at h1
    refine ⟨g, o, rfl, rfl, h1, h2, fun hc => .inr ⟨g, o + 2, c - 1, L, F, rfl, ha, by omega, by omega, by omega, fun i q hq => ?_⟩, fun hc => ?_⟩
    · have := h4 (i + 1) q (by simpa using hq)
      rw [show o + 2 + i * 2 = o + (i + 1) * 2 by omega]
      exact this
    · have : P = [] := List.eq_nil_of_length_eq_zero (by omega)
      subst this
      exact ⟨rfl, .inr ⟨g, o, 0, L, F, rfl, ha, Nat.le_refl _, Nat.zero_le _, by omega, fun i q hq => by simp at hq⟩⟩

theorem Que.row (h : w.ownsRow w'.heap.size 187 2 v P.length (P.flatMap fun p => [.int .u64 p.1, .int .i64 (p.2 : Int)])) : Que w v P := by
  rcases h.2 with ⟨h1, h2⟩ | ⟨g, cap, cur, hv, hb, hc, h1, h2, h3, h4⟩
  · exact .inl ⟨h1, List.eq_nil_of_length_eq_zero h2⟩
  · refine .inr ⟨g, 0, cap, cap * 2, fun i => (cur[i]?).getD undef, hv, ⟨cur, hc, h3, fun i hi => ?_⟩, h1, h2, by omega, fun i p hp => ?_⟩
    · show cur[i]? = some ((cur[i]?).getD undef)
      rw [Array.getElem?_eq_getElem (by omega)]; rfl
    · have hi : i < P.length := (List.getElem?_eq_some_iff.1 hp).1
      obtain ⟨e1, e2⟩ := enc_at P i p hp
      rw [← h4] at e1 e2
      rw [List.getElem?_take_of_lt (by omega), Array.getElem?_toList] at e1 e2
      constructor
      · show (cur[0 + i * 2]?).getD undef = _
        rw [Nat.zero_add, e1]; rfl
      · show (cur[0 + i * 2 + 1]?).getD undef = _
        rw [Nat.zero_add, e2]; rfl

theorem enc_len (P : List (Int × Nat)) : (P.flatMap fun p => [Value.int .u64 p.1, Value.int .i64 (p.2 : Int)]).length = P.length * 2 := by
  induction P with
  | nil => rfl
  | cons a P ih => rw [List.flatMap_cons, List.length_append, ih, List.length_cons]; simp; omega

/-- 'append' of one put out of a block of its own. -/
theorem step_que {ops : Array Oper} {o : Oper} {a : Act} {K : Act → World → Prop} {Q : Exit → Act → World → Prop} {E : Prop} (hgd : o.guard = none) (s x : Operand)
    (ho : o.op = .call { callee := .builtin .append, args := #[s, x], argTypes := #[146, 146] })
    (v : Value) (P : List (Int × Nat)) (hs : a.eval s = v) (hown : Que w v P) (p : Int × Nat) (N : Nat) (hx : a.eval x = .slice (some ⟨N, 0, none⟩) 1 1) (hN : w.heap[N]? = some (.cells #[.int .u64 p.1, .int .i64 (p.2 : Int)] 187 (0, 0)))
    (hne : v.ownBlock ≠ some N) (hn : P.length ≤ 1000000)
    (h : ∀ A c w', Que w' (.slice A (P.length + 1) c) (P ++ [p]) → Keeps (fun k => v.ownBlock = some k) w w' → ((Value.slice A (P.length + 1) c).ownBlock = v.ownBlock ∨ ∃ g, (Value.slice A (P.length + 1) c).ownBlock = some g ∧ w.heap.size ≤ g ∧ g < w'.heap.size) → K (a.put o.dst (.slice A (P.length + 1) c)) w') :
    if Region.wanted o (yielded ops a.tmps) = true then Oper.wp Tryz.prog o a w K Q else E := by
  obtain ⟨i0, hi, hz0, hz1, hz2⟩ := info_parts infoPut
  have hnews : ∀ j u, [Value.int .u64 p.1, Value.int .i64 (p.2 : Int)][j]? = some u → w.cell? ((⟨N, 0, none⟩ : Addr).add j) = some u := fun j u hu => by
    rw [addr_addG, Nat.zero_add, blk_cell' hN]
    have : j = 0 ∨ j = 1 := by
      have := (List.getElem?_eq_some_iff.1 hu).1
      simp at this; omega
    rcases this with rfl | rfl <;> simpa using hu
  have h1c : ∀ u ∈ [Value.int .u64 p.1, Value.int .i64 (p.2 : Int)], u.oneCell' = true := by intro u hu; simp at hu; rcases hu with rfl | rfl <;> rfl
  rcases hown with ⟨hv, rfl⟩ | ⟨g, of, c, L, F, hv, ha, h1, h2, h3, h4⟩
  · refine step_append_grows hgd s x 146 ho 187 i0 (.agg #[.int .u64 0, .int .i64 0]) 2 16 Tryz.underlying146 hi hz0 hz1 hz2 rfl (by decide) none 0 0 [] (by rw [hs, hv]) (fun _ => ⟨rfl, rfl⟩) rfl (fun b hb => by cases hb) ⟨N, 0, none⟩ 1 1 _ hx rfl hnews h1c (by omega) (by unfold maxLen; omega) (by omega) (fun v' w' hown' hg => ?_)
    obtain ⟨A, c, rfl⟩ := rowS hown'
    refine h A c w' (Que.row (w' := w) hown') ⟨hg.os, hg.tape, hg.output, hg.size, fun k hk _ => hg.block k hk (by simp)⟩ (.inr ?_)
    rcases hown'.2 with ⟨_, h0⟩ | ⟨g, cap, cur, e1, hb, hc, _⟩
    · omega
    · exact ⟨g, by have e2 := congrArg Value.ownBlock e1; simpa [Value.ownBlock] using e2, hb, (Array.getElem?_eq_some_iff.1 hc).1⟩
  · subst hv
    by_cases hroom : P.length + 1 ≤ c
    · have hNg : N ≠ g := fun e => hne (by rw [e]; rfl)
      refine step_append_room hgd s x 146 ho 187 i0 2 Tryz.underlying146 hi hz1 g of P.length c hs ⟨N, 0, none⟩ 1 1 _ hx rfl hnews h1c hroom (fun j hj => ?_) ?_
      · simp at hj
        exact ⟨by rw [ha.cell (by omega)]; rfl, ha.free _⟩
      · have ha2 := (ha.set (of + P.length * 2) (.int .u64 p.1)).set (of + P.length * 2 + 1) (.int .i64 (p.2 : Int))
        refine h (some ⟨g, of, none⟩) c _ (.inr ⟨g, of, c, L, _, by rw [List.length_append]; rfl, ha2, by rw [List.length_append]; exact hroom, h2, h3, fun i q hq => ?_⟩) (Keeps.mono (Keeps.setCells g _ _ w) (fun n _ e => by rw [e]; rfl)) (.inl rfl)
        by_cases hi : i < P.length
        · rw [List.getElem?_append_left hi] at hq
          obtain ⟨e1, e2⟩ := h4 i q hq
          constructor
          · rw [if_neg (by omega), if_neg (by omega), e1]
          · rw [if_neg (by omega), if_neg (by omega), e2]
        · have hi2 : i = P.length := by
            have := (List.getElem?_eq_some_iff.1 hq).1
            simp at this; omega
          subst hi2
          rw [List.getElem?_append_right (Nat.le_refl _), Nat.sub_self] at hq
          simp at hq
          subst hq
          constructor
          · rw [if_neg (by omega), if_pos rfl]
          · rw [if_pos rfl]
    · refine step_append_grows hgd s x 146 ho 187 i0 (.agg #[.int .u64 0, .int .i64 0]) 2 16 Tryz.underlying146 hi hz0 hz1 hz2 rfl (by decide) (some ⟨g, of, none⟩) P.length c (P.flatMap fun p => [.int .u64 p.1, .int .i64 (p.2 : Int)]) hs (fun e => by cases e) (enc_len P) (fun b hb j u hu => ?_) ⟨N, 0, none⟩ 1 1 _ hx rfl hnews h1c (by omega) (by unfold maxLen; omega) (by omega) (fun v' w' hown' hg => ?_)
      · simp at hb
        subst hb
        have hj : j < P.length * 2 := by rw [← enc_len P]; exact (List.getElem?_eq_some_iff.1 hu).1
        rw [addr_addG]
        rw [ha.cell (by omega), ← hu]
        obtain ⟨q, hq⟩ : ∃ q, P[j / 2]? = some q := ⟨_, List.getElem?_eq_getElem (by omega)⟩
        obtain ⟨e1, e2⟩ := h4 (j / 2) q hq
        obtain ⟨f1, f2⟩ := enc_at P (j / 2) q hq
        by_cases hev : j % 2 = 0
        · have ej : j = j / 2 * 2 := by omega
          rw [ej, e1, f1]
        · have ej : j = j / 2 * 2 + 1 := by omega
          rw [ej, ← Nat.add_assoc, e2, f2]
      · obtain ⟨A, c, rfl⟩ := rowS hown'
        have hrow : w'.ownsRow w.heap.size 187 2 (.slice A (P.length + 1) c) (P ++ [p]).length ((P ++ [p]).flatMap fun p => [.int .u64 p.1, .int .i64 (p.2 : Int)]) := by
          rw [List.flatMap_append, List.length_append]; exact hown'
        refine h A c w' (Que.row (w' := w) hrow) ⟨hg.os, hg.tape, hg.output, hg.size, fun k hk _ => hg.block k hk (by simp)⟩ (.inr ?_)
        rcases hown'.2 with ⟨_, h0⟩ | ⟨g, cap, cur, e1, hb, hc, _⟩
        · omega
        · exact ⟨g, by have e2 := congrArg Value.ownBlock e1; simpa [Value.ownBlock] using e2, hb, (Array.getElem?_eq_some_iff.1 hc).1⟩
end

end Go.Proofs.YtbgknopjgohocaaGreat


/- The program's history of who left lately: what stands in memory; real, counts, Has, New. -/
namespace Go.Proofs.YtbgknopjgohocaaGreat
open Go.RowKit Go.Maps Go.WideMaps Go.WideElems
set_option linter.unusedVariables false

def ghF (m : Nat) (v : Value) (now most : Nat) : Nat → Value
  | 0 => .map (some m)
  | 1 => v
  | 2 => .int .i64 (now : Int)
  | _ => .int .i64 (most : Int)

abbrev UMap (w : World) (b n : Nat) (M : Int → Option Value) : Prop := MapV Tryz.prog 22 .u64 (plainElem Tryz.prog 3) w b n M
def wM (M : Int → Option Nat) : Int → Option Value := fun x => (M x).map fun k => .int .i64 (k : Int)

structure Gh (w : World) (b m : Nat) (v : Value) (P : List (Int × Nat)) (M : Int → Option Nat) (now most : Nat) : Prop where
  top : Arr w b 148 4 (ghF m v now most)
  map : UMap w m (keysOf P M).length (wM M)
  que : Que w v P
  inv : GhI P M now
  len : P.length ≤ now
  big : now ≤ 1000000
  mst : most ≤ 1024

/-- The history at b: G left lately; at most so many are kept; at most N puts were done. -/
def GhO (b most : Nat) (G : List Int) (N : Nat) (S : Nat → Prop) (w : World) : Prop :=
  ∃ m v P M now, Gh w b m v P M now most ∧ keysOf P M = G ∧ now ≤ N ∧ G.length ≤ most ∧ S b ∧ S m ∧ ∀ g, v.ownBlock = some g → S g

section
variable {w w' : World} {b m now most : Nat} {v : Value} {P : List (Int × Nat)} {M : Int → Option Nat} {G : List Int} {N : Nat} {S : Nat → Prop}

theorem Gh.keep {T : Nat → Prop} (h : Gh w b m v P M now most) (k : Keeps T w w') (hb : ¬ T b) (hm : ¬ T m) (hv : ∀ g, v.ownBlock = some g → ¬ T g) : Gh w' b m v P M now most :=
  { h with top := h.top.keep k hb, map := h.map.keep k hm, que := h.que.keep k hv }
theorem Gh.below (h : Gh w b m v P M now most) (k : Below w.heap.size w w') : Gh w' b m v P M now most :=
  h.keep (Keeps.of_below k) (Nat.not_le.2 h.top.lt) (Nat.not_le.2 h.map.lt) (fun g e => Nat.not_le.2 (h.que.lt g e))
theorem Gh.drewN (h : Gh w b m v P M now most) (n : Nat) : Gh (w.drewN n) b m v P M now most :=
  h.keep ((Keeps.refl (fun _ => False) w).drewN n) (fun x => x) (fun x => x) (fun _ _ x => x)
instance (b most : Nat) (G : List Int) (N : Nat) : Rep (GhO b most G N) where
  keep := fun ⟨m, v, P, M, now, h, hG, hN, hl, sb, sm, sv⟩ _ k ht => ⟨m, v, P, M, now, h.keep k (ht _ sb) (ht _ sm) (fun g e => ht _ (sv g e)), hG, hN, hl, sb, sm, sv⟩
  mono := fun ⟨m, v, P, M, now, h, hG, hN, hl, sb, sm, sv⟩ hs => ⟨m, v, P, M, now, h, hG, hN, hl, hs _ sb, hs _ sm, fun g e => hs _ (sv g e)⟩

theorem Gh.c0 (h : Gh w b m v P M now most) : w.cell? ⟨b, 0, none⟩ = some (.map (some m)) := h.top.cell (i := 0) (by omega)
theorem Gh.c1 (h : Gh w b m v P M now most) : w.cell? ⟨b, 1, none⟩ = some v := h.top.cell (i := 1) (by omega)
theorem Gh.c2 (h : Gh w b m v P M now most) : w.cell? ⟨b, 2, none⟩ = some (.int .i64 (now : Int)) := h.top.cell (i := 2) (by omega)
theorem Gh.c3 (h : Gh w b m v P M now most) : w.cell? ⟨b, 3, none⟩ = some (.int .i64 (most : Int)) := h.top.cell (i := 3) (by omega)
theorem Gh.bm (h : Gh w b m v P M now most) : b ≠ m := fun e => h.map.ne_arr h.top e.symm

theorem zeroIG (w : World) : (zeroValue 3).run Tryz.prog w = .ok (.int .i64 0) w := by kernel_rfl
theorem neqU (W : World) (m : Option Nat) : (binOp .neq 145 (.map m) (.map none)).run Tryz.prog W = .ok (.bool (!m.isNone)) W := run_neq_map_nil W 145 22 3 m Tryz.underlying145
theorem retBG {a b : Bool} (h : a = b) : Ending.returned (.bool a) = .returned (.bool b) := by rw [h]

/-- 'last[key]'. -/
theorem look_u {n : Nat} (h : UMap w m n (wM M)) {k : Int} (k0 : 0 ≤ k) (k1 : k ≤ 18446744073709551615) :
    (Instr.lookup 145 (.map (some m)) (.int .u64 k) false).run Tryz.prog w = .ok (.int .i64 (((M k).getD 0 : Nat) : Int)) w := by
  rw [h.look Tryz.underlying22 Tryz.underlying145 (plain_told Tryz.underlying3) (zeroIG w) (plainElem_int Tryz.underlying3 (by decide)) k (WalkArith.wf_u64 ⟨k0, k1⟩)]
  unfold wM
  cases M k <;> rfl
theorem Gh.look (h : Gh w b m v P M now most) {k : Int} (k0 : 0 ≤ k) (k1 : k ≤ 18446744073709551615) :
    (Instr.lookup 145 (.map (some m)) (.int .u64 k) false).run Tryz.prog w = .ok (.int .i64 (((M k).getD 0 : Nat) : Int)) w := look_u h.map k0 k1

theorem gh_real (h : Gh w b m v P M now most) : Calls Tryz.prog 126 #[.pointer (some ⟨b, 0, none⟩)] w fun e w' => e = .returned (.bool true) ∧ w = w' := by
  have c0 := h.c0
  have nq := neqU
  clear h
  go_enter Tryz.func126, Tryz.ntmps126
  go_wp2
  go_ret
  exact ⟨rfl, rfl⟩
theorem gh_none (w : World) : Calls Tryz.prog 126 #[.pointer none] w fun e w' => e = .returned (.bool false) ∧ w = w' := by
  go_enter Tryz.func126, Tryz.ntmps126
  go_wp2
  go_ret
  exact ⟨rfl, rfl⟩

theorem gh_has1 (h : Gh w b m v P M now most) (k : Int) (k0 : 0 ≤ k) (k1 : k ≤ 18446744073709551615) :
    Calls Tryz.prog 117 #[.pointer (some ⟨b, 0, none⟩), .int .u64 k] w fun e w' => e = .returned (.bool (decide (k ∈ keysOf P M))) ∧ w = w' := by
  have RR := Lib.hid (gh_real h)
  have c0 := h.c0
  have L := h.look k0 k1
  have E : decide (k ∈ keysOf P M) = decide (0 < (((M k).getD 0 : Nat) : Int)) := by
    have hh := h.inv.has (k := k)
    cases hm : M k with
    | none =>
      rw [hm] at hh
      rw [decide_eq_false (fun x => by have := hh.1 x; simp at this)]
      rfl
    | some n =>
      rw [hm] at hh
      have := (h.inv.when hm).1
      rw [decide_eq_true (hh.2 rfl), decide_eq_true (by show (0 : Int) < (n : Int); omega)]
  rw [E]
  generalize ((M k).getD 0 : Nat) = n at *
  clear h E
  go_enter Tryz.func117, Tryz.ntmps117
  go_wp2_with fail
  refine RR.out.mono ?_
  rintro e w' ⟨rfl, rfl⟩
  go_wp2
  go_ret
  exact ⟨retBG (by rw [Bool.eq_iff_iff]; simp), rfl⟩

/-- Worlds that are older, but for draws and new blocks. -/
theorem grown_below {w w' : World} (h : ∃ q os, w' = Sort.grow (w.drewN q) os) : Below w.heap.size w w' := by
  obtain ⟨q, os, rfl⟩ := h
  exact ⟨rfl, rfl, rfl, by show w.heap.size ≤ ((w.drewN q).heap ++ os).size; rw [Array.size_append]; exact Nat.le_add_right _ _, fun k hk => Sort.heap_grow_old (w.drewN q) os hk⟩
theorem grown_alloc (w : World) (o : Obj) (n : Nat) : ∃ q os, (w.alloc o).drewN n = Sort.grow (w.drewN q) os := ⟨n, #[o], by rw [← Sort.alloc_eq_grow]; rfl⟩

theorem cnt_any {n : Nat} (c0 : w.cell? ⟨b, 0, none⟩ = some (.map (some m))) (hm : UMap w m n (wM M)) (p : Int × Nat) (k0 : 0 ≤ p.1) (k1 : p.1 ≤ 18446744073709551615) (w1 : 1 ≤ p.2) (w2 : p.2 ≤ 1000000) :
    Calls Tryz.prog 129 #[.pointer (some ⟨b, 0, none⟩), .agg #[.int .u64 p.1, .int .i64 (p.2 : Int)]] w fun e w' => e = .returned (.bool (live M p)) ∧ ∃ q os, w' = Sort.grow (w.drewN q) os := by
  have BA := Lib.hid ((Below.refl w.heap.size w).alloc (Nat.le_refl _) (.cells #[.int .u64 p.1, .int .i64 (p.2 : Int)] 187))
  have c0' := (Keeps.of_below BA.out).old c0
  have hm' := hm.keep (Keeps.of_below BA.out) (Nat.not_le.2 hm.lt)
  have L := fun n => look_u (hm'.drewN n) k0 k1
  have E : live M p = (((M p.1).getD 0 : Nat) == p.2) := by
    unfold live
    cases hm : M p.1 with
    | none =>
      have : ((none : Option Nat).getD 0 == p.2) = false := by show (0 == p.2) = false; simp; omega
      rw [this]; rfl
    | some n =>
      show (some n == some p.2) = (n == p.2)
      rw [Option.some_beq_some]
  rw [E]
  generalize ((M p.1).getD 0 : Nat) = n at *
  generalize p.1 = key at *
  generalize p.2 = wh at *
  clear hm hm' E c0
  go_enter Tryz.func129, Tryz.ntmps129
  go_wp2_with fail
  go_quiet (fail)
  go_wp2
  go_ret
  refine ⟨retBG ?_, grown_alloc _ _ _⟩
  rw [Bool.eq_iff_iff]; simp; omega

theorem gh_counts (h : Gh w b m v P M now most) (p : Int × Nat) (k0 : 0 ≤ p.1) (k1 : p.1 ≤ 18446744073709551615) (w1 : 1 ≤ p.2) (w2 : p.2 ≤ 1000000) :
    Calls Tryz.prog 129 #[.pointer (some ⟨b, 0, none⟩), .agg #[.int .u64 p.1, .int .i64 (p.2 : Int)]] w fun e w' => e = .returned (.bool (live M p)) ∧ Below w.heap.size w w' :=
  (cnt_any h.c0 h.map p k0 k1 w1 w2).mono fun e w' ⟨he, hw⟩ => ⟨he, grown_below hw⟩

theorem GhO.has (h : GhO b most G N S w) (k : Int) (k0 : 0 ≤ k) (k1 : k ≤ 18446744073709551615) :
    Calls Tryz.prog 117 #[.pointer (some ⟨b, 0, none⟩), .int .u64 k] w fun e w' => e = .returned (.bool (decide (k ∈ G))) ∧ w = w' := by
  obtain ⟨m, v, P, M, now, h, rfl, _⟩ := h
  exact gh_has1 h k k0 k1

theorem gh_new_no (w : World) (n : Int) (hn : ¬ (0 ≤ n ∧ n ≤ 1024)) :
    Calls Tryz.prog 57 #[.int .i64 n] w fun e w' => e = .returned (.tuple #[.pointer none, .int .i64 1]) ∧ w = w' := by
  by_cases h1 : n < 0
  · have e1 : decide (n < 0) = true := decide_eq_true h1
    clear hn h1
    go_enter Tryz.func57, Tryz.ntmps57
    go_wp2
    go_ret2
    exact ⟨rfl, rfl⟩
  · have e1 : decide (n < 0) = false := decide_eq_false h1
    have e2 : decide (1024 < n) = true := decide_eq_true (by omega)
    clear hn h1
    go_enter Tryz.func57, Tryz.ntmps57
    go_wp2
    go_ret2
    exact ⟨rfl, rfl⟩

theorem gh_new (w : World) (most : Nat) (hn : most ≤ 1024) :
    Calls Tryz.prog 57 #[.int .i64 (most : Int)] w fun e w' => ∃ b, e = .returned (.tuple #[.pointer (some ⟨b, 0, none⟩), .int .i64 0]) ∧ GhO b most [] 0 (New w w') w' ∧ Below w.heap.size w w' := by
  have z1 := World.size_alloc w (.map #[] 0)
  have z2 := World.size_alloc (w.alloc (.map #[] 0)) (.cells #[.map (some w.heap.size), .slice none 0 0, .int .i64 0, .int .i64 (most : Int)] 148)
  have b1 := ((Below.refl w.heap.size w).alloc (Nat.le_refl _) (.map #[] 0)).alloc (by omega) (.cells #[.map (some w.heap.size), .slice none 0 0, .int .i64 0, .int .i64 (most : Int)] 148)
  have mv := (MapV.made Tryz.prog 22 .u64 (plainElem Tryz.prog 3) w).keep (Keeps.of_below ((Below.refl (w.alloc (.map #[] 0)).heap.size (w.alloc (.map #[] 0))).alloc (Nat.le_refl _) (.cells #[.map (some w.heap.size), .slice none 0 0, .int .i64 0, .int .i64 (most : Int)] 148))) (by omega)
  have FIN := Lib.hid (show ∃ b, (b = w.heap.size + 1) ∧ GhO b most [] 0 (New w ((w.alloc (.map #[] 0)).alloc (.cells #[.map (some w.heap.size), .slice none 0 0, .int .i64 0, .int .i64 (most : Int)] 148))) ((w.alloc (.map #[] 0)).alloc (.cells #[.map (some w.heap.size), .slice none 0 0, .int .i64 0, .int .i64 (most : Int)] 148)) ∧ Below w.heap.size w ((w.alloc (.map #[] 0)).alloc (.cells #[.map (some w.heap.size), .slice none 0 0, .int .i64 0, .int .i64 (most : Int)] 148)) from by
    refine ⟨_, rfl, ⟨w.heap.size, .slice none 0 0, [], fun _ => none, 0, ⟨⟨_, heap_at _ _ _ (by omega), rfl, fun i hi => ?_⟩, mv, .inl ⟨rfl, rfl⟩, ⟨List.Pairwise.nil, fun p hp => by simp at hp, fun k w hk => (by cases hk), fun p hp => by simp at hp⟩, Nat.le_refl _, Nat.zero_le _, hn⟩, rfl, Nat.le_refl _, Nat.zero_le _, ⟨by omega, by omega⟩, ⟨by omega, by omega⟩, fun g e => by simp [Value.ownBlock] at e⟩, b1⟩
    have : i = 0 ∨ i = 1 ∨ i = 2 ∨ i = 3 := by omega
    rcases this with rfl | rfl | rfl | rfl <;> rfl)
  have hmm := @run_makeMap Tryz.prog
  have e1 : decide ((most : Int) < 0) = false := decide_eq_false (by omega)
  have e2 : decide (1024 < (most : Int)) = false := decide_eq_false (by omega)
  have e3 : decide (1024 < most) = false := decide_eq_false (by omega)
  clear z1 z2 b1 mv hn
  go_enter Tryz.func57, Tryz.ntmps57
  go_wp2
  go_ret2
  obtain ⟨b, hb, h1, h2⟩ := FIN.out
  exact ⟨b, by rw [hb]; simp, h1, h2⟩
end

end Go.Proofs.YtbgknopjgohocaaGreat


/- The program's history: the closure of settle, slices.IndexFunc, slices.DeleteFunc at rows of puts. -/
namespace Go.Proofs.YtbgknopjgohocaaGreat
open Go.RowKit Go.Maps Go.WideMaps Go.WideElems
set_option linter.unusedVariables false

/-- Puts as a row that may be read. -/
def PutsOk (P : List (Int × Nat)) : Prop := ∀ p ∈ P, 0 ≤ p.1 ∧ p.1 ≤ 18446744073709551615 ∧ 1 ≤ p.2 ∧ p.2 ≤ 1000000

/-- What the closure reads. -/
structure Cl (w : World) (B b m n : Nat) (M : Int → Option Nat) : Prop where
  cb : w.cell? ⟨B, 0, none⟩ = some (.pointer (some ⟨b, 0, none⟩))
  c0 : w.cell? ⟨b, 0, none⟩ = some (.map (some m))
  map : UMap w m n (wM M)

section
variable {w w' : World} {B b m n : Nat} {M : Int → Option Nat} {P : List (Int × Nat)} {v : Value}

theorem Cl.keep {T : Nat → Prop} (h : Cl w B b m n M) (k : Keeps T w w') (hB : ¬ T B) (hb : ¬ T b) (hm : ¬ T m) : Cl w' B b m n M :=
  ⟨k.cell h.cb hB, k.cell h.c0 hb, h.map.keep k hm⟩
theorem Cl.below (h : Cl w B b m n M) (k : Below w.heap.size w w') : Cl w' B b m n M :=
  ⟨(Keeps.of_below k).old h.cb, (Keeps.of_below k).old h.c0, h.map.keep (Keeps.of_below k) (Nat.not_le.2 h.map.lt)⟩

theorem gh_del (h : Cl w B b m n M) (p : Int × Nat) (ok : 0 ≤ p.1 ∧ p.1 ≤ 18446744073709551615 ∧ 1 ≤ p.2 ∧ p.2 ≤ 1000000) :
    Calls Tryz.prog 131 #[.agg #[.int .u64 p.1, .int .i64 (p.2 : Int)], .pointer (some ⟨B, 0, none⟩)] w fun e w' => e = .returned (.bool (!live M p)) ∧ Below w.heap.size w w' := by
  have BA := Lib.hid ((Below.refl w.heap.size w).alloc (Nat.le_refl _) (.cells #[.int .u64 p.1, .int .i64 (p.2 : Int)] 187))
  have h1 := h.below BA.out
  have cb := h1.cb
  have CN := Lib.hid ((cnt_any h1.c0 h1.map p ok.1 ok.2.1 ok.2.2.1 ok.2.2.2).mono fun e w' (x : e = .returned (.bool (live M p)) ∧ _) => And.intro x.1 (grown_below x.2))
  generalize live M p = l at *
  generalize p.1 = key at *
  generalize p.2 = wh at *
  clear h h1 ok
  go_enter Tryz.func131, Tryz.ntmps131
  go_wp2_with fail
  refine CN.out.mono ?_
  rintro e w2 ⟨rfl, b2⟩
  have B2 := Lib.hid (BA.out.trans (b2.mono BA.out.size))
  clear b2
  go_wp2
  go_ret
  exact ⟨rfl, B2.out⟩

/-- What 'IndexFunc' tells. -/
def IdxP (P : List (Int × Nat)) (M : Int → Option Nat) (w : World) (e : Ending) (w' : World) : Prop :=
  ((e = .returned (.int .i64 (-1)) ∧ P.filter (live M) = P) ∨ ∃ i : Nat, i < P.length ∧ e = .returned (.int .i64 (i : Int)) ∧ (P.take i).filter (live M) = P.take i ∧ ∃ p, P[i]? = some p ∧ live M p = false) ∧ Below w.heap.size w w'
def AllOk (P : List (Int × Nat)) (M : Int → Option Nat) (k : Nat) : Prop := (P.take k).filter (live M) = P.take k

/-- The first put that does not count. -/
theorem gh_index (h : Cl w B b m n M) (hq : Que w v P) (ok : PutsOk P) (hl : P.length ≤ 1000000) :
    Calls Tryz.prog 133 #[v, .func (.func 131) #[] #[.pointer (some ⟨B, 0, none⟩)]] w (IdxP P M w) := by
  obtain ⟨A, c, rfl, h1, h2, hc⟩ := hq.open_
  have HC := Lib.hid hc
  have OK := Lib.hid ok
  have HH := Lib.hid (fun W (k : Below w.heap.size w W) => h.below k)
  have HP := Lib.hid hl
  obtain ⟨N, hN⟩ : ∃ N, P.length = N := ⟨_, rfl⟩
  rw [hN]
  have HN := Lib.hid hN
  have n1 : (N : Int) ≤ 1000000 := by omega
  clear h hq hc ok h1 h2 hl hN
  go_enter Tryz.func133, Tryz.ntmps133
  go_wp2_with fail
  go_loopw [8] (fun i wr => ∃ k : Nat, k ≤ N ∧ i = .int .i64 (k : Int) ∧ Below w.heap.size w wr ∧ AllOk P M k) (fun i _ => N - (intOf i).toNat)
  case atStart => exact ⟨0, Nat.zero_le _, rfl, Below.refl _ _, rfl⟩
  case round =>
    obtain ⟨k, hk, rfl, bw, hf⟩ := hrel
    have HB := Lib.hid bw
    have HF := Lib.hid hf
    by_cases h1 : (k : Int) < (N : Int)
    · have hk2 : k < P.length := by have := HN.out; omega
      obtain ⟨g, o, rfl, hcc⟩ := HC.out (by omega)
      have hp := List.getElem?_eq_getElem hk2
      obtain ⟨q1, q2⟩ := hcc wr bw k _ hp
      have okp := OK.out _ (List.getElem_mem hk2)
      have DL := Lib.hid (gh_del (HH.out wr bw) P[k] okp)
      have HT := Lib.hid (List.take_succ_eq_append_getElem hk2)
      have HK := Lib.hid (show k + 1 ≤ N by omega)
      have HPK := Lib.hid hp
      generalize P[k] = p at *
      clear hk2 hp hcc okp hf bw hk
      cases hlv : live M p
      · rw [hlv] at DL
        have HLV := Lib.hid hlv
        clear hlv
        go_wp2_with fail
        refine DL.out.mono ?_
        rintro e w2 ⟨rfl, b2⟩
        have B2 := Lib.hid (HB.out.trans (b2.mono HB.out.size))
        clear b2
        go_wp2
        go_ret
        exact ⟨.inr ⟨k, by have := HK.out; have := HN.out; omega, rfl, HF.out, p, HPK.out, HLV.out⟩, B2.out⟩
      · rw [hlv] at DL
        have HF2 := Lib.hid (show AllOk P M (k + 1) by
          unfold AllOk
          rw [HT.out, List.filter_append, show (P.take k).filter (live M) = P.take k from HF.out, List.filter_cons_of_pos hlv, List.filter_nil])
        clear hlv
        go_wp2_with fail
        refine DL.out.mono ?_
        rintro e w2 ⟨rfl, b2⟩
        have B2 := Lib.hid (HB.out.trans (b2.mono HB.out.size))
        clear b2
        go_wp2
        go_roundw
        case rel => exact ⟨k + 1, HK.out, by simp, B2.out, HF2.out⟩
        case measure => have := HK.out; simp only [intOf]; omega
    · have HE := Lib.hid (show k = P.length by have := HN.out; omega)
      have e1 : decide (k < N) = false := decide_eq_false (by omega)
      clear hk hf bw h1
      go_wp2
      go_ret
      refine ⟨.inl ⟨rfl, ?_⟩, HB.out⟩
      have := HF.out
      unfold AllOk at this
      rwa [HE.out, List.take_length] at this
/-- While puts are moved to the front: i of the first j count, and lie in front; from j on all is as it was. -/
structure DelS (w wr : World) (g o L : Nat) (P : List (Int × Nat)) (M : Int → Option Nat) (i j : Nat) : Prop where
  arr : ∃ F, Arr wr g 187 L F ∧ (∀ (x : Nat) (p : Int × Nat), ((P.take j).filter (live M))[x]? = some p → F (o + x * 2) = .int .u64 p.1 ∧ F (o + x * 2 + 1) = .int .i64 (p.2 : Int)) ∧
    (∀ (x : Nat) (p : Int × Nat), j ≤ x → P[x]? = some p → F (o + x * 2) = .int .u64 p.1 ∧ F (o + x * 2 + 1) = .int .i64 (p.2 : Int))
  kp : Keeps (fun k => k = g) w wr
  ij : i < j
  jn : j ≤ P.length
  il : ((P.take j).filter (live M)).length = i

section
variable {wr w2 : World} {g o L i j : Nat} {p : Int × Nat}
theorem DelS.later (h : DelS w wr g o L P M i j) (hb : Below wr.heap.size wr w2) : DelS w w2 g o L P M i j := by
  obtain ⟨F, ha, r⟩ := h.arr
  exact { h with arr := ⟨F, ha.below hb ha.lt, r⟩, kp := h.kp.trans (Keeps.of_below hb) (fun n hn => .inr (Nat.le_trans h.kp.size hn)) }
theorem DelS.cell (h : DelS w wr g o L P M i j) (hp : P[j]? = some p) (hL : o + P.length * 2 ≤ L) : wr.cell? ⟨g, o + j * 2, none⟩ = some (.int .u64 p.1) ∧ wr.cell? ⟨g, o + j * 2 + 1, none⟩ = some (.int .i64 (p.2 : Int)) := by
  obtain ⟨F, ha, r1, r2⟩ := h.arr
  obtain ⟨e1, e2⟩ := r2 j p (Nat.le_refl _) hp
  have hj := (List.getElem?_eq_some_iff.1 hp).1
  exact ⟨by rw [ha.cell (by omega), e1], by rw [ha.cell (by omega), e2]⟩
theorem DelS.slot (h : DelS w wr g o L P M i j) (hL : o + P.length * 2 ≤ L) : (∃ a b, wr.cell? ⟨g, o + i * 2, none⟩ = some a ∧ wr.cell? ⟨g, o + i * 2 + 1, none⟩ = some b) ∧ ∀ x, wr.frozen? ⟨g, x, none⟩ = false := by
  obtain ⟨F, ha, r1, r2⟩ := h.arr
  have := h.ij
  have := h.jn
  exact ⟨⟨_, _, ha.cell (by omega), ha.cell (by omega)⟩, fun x => ha.free x⟩
theorem take_next {P : List (Int × Nat)} {j : Nat} {p : Int × Nat} (hp : P[j]? = some p) : P.take (j + 1) = P.take j ++ [p] := by
  obtain ⟨hj, e⟩ := List.getElem?_eq_some_iff.1 hp
  rw [List.take_succ_eq_append_getElem hj, e]
theorem DelS.dead (h : DelS w wr g o L P M i j) (hp : P[j]? = some p) (hl : live M p = false) : DelS w wr g o L P M i (j + 1) := by
  obtain ⟨F, ha, r1, r2⟩ := h.arr
  have hj := (List.getElem?_eq_some_iff.1 hp).1
  have e : (P.take (j + 1)).filter (live M) = (P.take j).filter (live M) := by
    rw [take_next hp, List.filter_append, List.filter_cons_of_neg (by rw [hl]; decide), List.filter_nil, List.append_nil]
  have := h.ij
  exact ⟨⟨F, ha, by rw [e]; exact r1, fun x q hx => r2 x q (by omega)⟩, h.kp, by omega, hj, by rw [e]; exact h.il⟩
theorem DelS.live (h : DelS w wr g o L P M i j) (hp : P[j]? = some p) (hl : live M p = true) (hL : o + P.length * 2 ≤ L) :
    DelS w ((wr.setCell ⟨g, o + i * 2, none⟩ (.int .u64 p.1)).setCell ⟨g, o + i * 2 + 1, none⟩ (.int .i64 (p.2 : Int))) g o L P M (i + 1) (j + 1) := by
  obtain ⟨F, ha, r1, r2⟩ := h.arr
  have hj := (List.getElem?_eq_some_iff.1 hp).1
  have e : (P.take (j + 1)).filter (Go.Proofs.YtbgknopjgohocaaGreat.live M) = (P.take j).filter (Go.Proofs.YtbgknopjgohocaaGreat.live M) ++ [p] := by
    rw [take_next hp, List.filter_append, List.filter_cons_of_pos hl, List.filter_nil]
  have ij := h.ij
  have il := h.il
  refine ⟨⟨_, (ha.set _ _).set _ _, fun x q hx => ?_, fun x q hx hq => ?_⟩, (h.kp.setCell (p := ⟨g, o + i * 2, none⟩) (.inl rfl) _).setCell (p := ⟨g, o + i * 2 + 1, none⟩) (.inl rfl) _, by omega, hj, by rw [e, List.length_append, il]; rfl⟩
  · rw [e] at hx
    have hxl := (List.getElem?_eq_some_iff.1 hx).1
    simp only [List.length_append, List.length_cons, List.length_nil, il] at hxl
    by_cases ex : x = i
    · subst ex
      rw [List.getElem?_append_right (by omega), il, Nat.sub_self] at hx
      simp at hx
      subst hx
      exact ⟨by rw [if_neg (by omega), if_pos rfl], by rw [if_pos rfl]⟩
    · rw [List.getElem?_append_left (by omega)] at hx
      obtain ⟨e1, e2⟩ := r1 x q hx
      exact ⟨by rw [if_neg (by omega), if_neg (by omega), e1], by rw [if_neg (by omega), if_neg (by omega), e2]⟩
  · obtain ⟨e1, e2⟩ := r2 x q (by omega) hq
    exact ⟨by rw [if_neg (by omega), if_neg (by omega), e1], by rw [if_neg (by omega), if_neg (by omega), e2]⟩
end

theorem arr_out {g L : Nat} {t : TypeId} : ∀ (vs : List Value) (o : Nat) (w : World) (F : Nat → Value), Arr w g t L F → ∃ F', Arr (w.setCells g o vs) g t L F' ∧ ∀ j, j < o → F' j = F j
  | [], o, w, F, h => ⟨F, h, fun _ _ => rfl⟩
  | v :: vs, o, w, F, h => by
    obtain ⟨F', ha, hF⟩ := arr_out vs (o + 1) _ _ (h.set o v)
    exact ⟨F', ha, fun j hj => by rw [hF j (by omega), if_neg (by omega)]⟩

theorem run_clear_puts {w : World} {g L o n : Nat} {F : Nat → Value} (ha : Arr w g 187 L F) (h : o + n * 2 ≤ L) (hn : 0 < n) (c : Nat) (ty : TypeId) :
    (Builtin.clear_ #[146] ty #[.slice (some ⟨g, o, none⟩) n c]).run Tryz.prog w = .ok (.tuple #[]) (w.setCells g o (Builtin.zeroCells #[.int .u64 0, .int .i64 0] n).toList) := by
  have hv : (zeroValue 187).run Tryz.prog w = .ok (.agg #[.int .u64 0, .int .i64 0]) w := by kernel_rfl
  have hlen : (Builtin.zeroCells #[.int .u64 0, .int .i64 0] n).toList.length = n * 2 := by simp [Builtin.zeroCells]
  have hone : ∀ v ∈ (Builtin.zeroCells #[.int .u64 0, .int .i64 0] n).toList, v.oneCell' = true := by
    intro v hv
    simp only [Builtin.zeroCells, Array.toList_map, List.mem_map] at hv
    obtain ⟨k, _, hk⟩ := hv
    have : k % 2 = 0 ∨ k % 2 = 1 := by omega
    have e2 : (#[Value.int .u64 0, .int .i64 0] : Array Value).size = 2 := rfl
    rw [e2] at hk
    rw [← hk]
    rcases this with e | e <;> rw [e] <;> rfl
  have hst := run_storeCells_cells (P := Tryz.prog) g o (Builtin.zeroCells #[.int .u64 0, .int .i64 0] n).toList 0 w (fun j hj => by rw [ha.cell (by omega)]; rfl) (fun j hj => ha.free _) hone
  simp only [Nat.add_zero] at hst
  obtain ⟨k, rfl⟩ : ∃ k, n = k + 1 := ⟨n - 1, by omega⟩
  have hc : (Value.agg #[Value.int .u64 0, .int .i64 0]).cells = #[.int .u64 0, .int .i64 0] := by rfl
  simp [Builtin.clear_, run_underlying Tryz.underlying146, hv, hc, hst]

end

end Go.Proofs.YtbgknopjgohocaaGreat
