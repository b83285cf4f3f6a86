/- Several texts of this claim, one behind the other. -/
import Derived.Test.YtbgknopjgohocaaGreatZA

/- The watch of chapter 24 as plain Lean: what a watch holds, what noting does, what the document says of all reads; that both agree. No condition. -/
namespace Go.Proofs.YtbgknopjgohocaaGreat.Scan

structure Wt where
  long : Int
  last : Option Int
  row : Int
  scans : Int

def goes (last : Option Int) (lba : Int) : Bool :=
  match last with
  | none => false
  | some v => v != 9223372036854775807 && v + 1 == lba

def rowOf (x : Wt) (lba : Int) : Int := (if goes x.last lba then x.row else 0) + 1
def scansOf (x : Wt) (lba : Int) : Int := if 0 < x.long ∧ rowOf x lba = x.long then x.scans + 1 else x.scans
def note (x : Wt) (lba : Int) : Wt := { x with last := some lba, row := rowOf x lba, scans := scansOf x lba }
def isB (x : Wt) (lba : Int) : Bool := decide (0 < x.long ∧ x.long ≤ rowOf x lba)

/-- How many reads the row has behind k reads of z. -/
def rowN (z : Nat → Int) : Nat → Nat
  | 0 => 0
  | 1 => 1
  | k + 2 => if z k + 1 = z (k + 1) then rowN z (k + 1) + 1 else 1

def isN (z : Nat → Int) (long : Int) (k : Nat) : Bool := decide (0 < long ∧ long ≤ rowN z k)

def scansN (z : Nat → Int) (long : Int) : Nat → Nat
  | 0 => 0
  | k + 1 => scansN z long k + if 0 < long ∧ (rowN z (k + 1) : Int) = long then 1 else 0

theorem rowN_le (z : Nat → Int) : ∀ k, rowN z k ≤ k
  | 0 => by simp [rowN]
  | 1 => by simp [rowN]
  | k + 2 => by have := rowN_le z (k + 1); simp only [rowN]; split <;> omega

theorem scansN_le (z : Nat → Int) (long : Int) : ∀ k, scansN z long k ≤ k
  | 0 => by simp [scansN]
  | k + 1 => by have := scansN_le z long k; simp only [scansN]; split <;> omega

theorem rowN_stop {z : Nat → Int} {k : Nat} (h : k = 0 ∨ ¬ (z (k - 1) + 1 = z k)) : rowN z (k + 1) = 1 := by
  cases k with
  | zero => rfl
  | succ j => simp only [rowN]; exact if_neg (by rcases h with h | h; omega; simpa using h)

theorem rowN_go {z : Nat → Int} {k : Nat} (h0 : k ≠ 0) (h : z (k - 1) + 1 = z k) : rowN z (k + 1) = rowN z k + 1 := by
  cases k with
  | zero => omega
  | succ j => simp only [rowN]; exact if_pos (by simpa using h)

/-- The watch behind k reads of z, begun with some count of scans. -/
def after (long s0 : Int) (z : Nat → Int) (k : Nat) : Wt :=
  { long := long, last := if k = 0 then none else some (z (k - 1)), row := rowN z k, scans := s0 + scansN z long k }

theorem goes_z (z : Nat → Int) (k : Nat) (hz : z k ≤ 9223372036854775807) : goes (if k = 0 then none else some (z (k - 1))) (z k) = decide (k ≠ 0 ∧ z (k - 1) + 1 = z k) := by
  by_cases h : k = 0
  · simp [h, goes]
  · rw [if_neg h]
    simp only [goes]
    rw [Bool.eq_iff_iff]
    simp [h]
    omega

theorem rowOf_after (long s0 : Int) (z : Nat → Int) (k : Nat) (hz : z k ≤ 9223372036854775807) : rowOf (after long s0 z k) (z k) = rowN z (k + 1) := by
  unfold rowOf
  show (if goes (if k = 0 then none else some (z (k - 1))) (z k) = true then (rowN z k : Int) else 0) + 1 = _
  rw [goes_z z k hz]
  by_cases h : k ≠ 0 ∧ z (k - 1) + 1 = z k
  · rw [if_pos (by simpa using h), rowN_go h.1 h.2]; omega
  · rw [if_neg (by simpa using h), rowN_stop (by omega)]; omega

theorem note_after (long s0 : Int) (z : Nat → Int) (k : Nat) (hz : z k ≤ 9223372036854775807) : note (after long s0 z k) (z k) = after long s0 z (k + 1) := by
  unfold note scansOf
  rw [rowOf_after long s0 z k hz]
  simp only [after, scansN]
  congr 1
  show (if 0 < long ∧ (rowN z (k + 1) : Int) = long then s0 + scansN z long k + 1 else s0 + scansN z long k) = _
  split <;> omega

theorem isB_after (long s0 : Int) (z : Nat → Int) (k : Nat) (hz : z k ≤ 9223372036854775807) : isB (after long s0 z k) (z k) = isN z long (k + 1) := by
  unfold isB isN
  rw [rowOf_after long s0 z k hz]
  rfl

end Go.Proofs.YtbgknopjgohocaaGreat.Scan


/- What the document's functions of chapter 24 answer. -/
namespace Go.Proofs.YtbgknopjgohocaaGreat
open Go.RowKit Scan

theorem ret_int {k : IntKind} {a b : Int} (h : a = b) : Ending.returned (.int k a) = .returned (.int k b) := by rw [h]
theorem ret_bool {a b : Bool} (h : a = b) : Ending.returned (.bool a) = .returned (.bool b) := by rw [h]

end Go.Proofs.YtbgknopjgohocaaGreat


/- What the calls of a watch do to memory. -/
namespace Go.Proofs.YtbgknopjgohocaaGreat
open Go.RowKit Scan
set_option linter.unusedSimpArgs false

def LastAt (S : Nat → Prop) (w : World) : Option Int → Value → Prop
  | none, lp => lp = .pointer none
  | some v, lp => ∃ c, S c ∧ lp = .pointer (some ⟨c, 0, none⟩) ∧ w.heap[c]? = some (.cells #[.int .i64 v] 3 (0, 0))

/-- The block b is a watch that holds x. -/
def WatchAt (S : Nat → Prop) (w : World) (b : Nat) (x : Wt) : Prop :=
  S b ∧ ∃ lp, w.heap[b]? = some (.cells #[.bool true, .int .i64 x.long, lp, .int .i64 x.row, .int .i64 x.scans] 152 (0, 0)) ∧ LastAt S w x.last lp

theorem goes_any {S : Nat → Prop} {w : World} {b : Nat} {x : Wt} (h : WatchAt S w b x) (hv : ∀ v, x.last = some v → -9223372036854775808 ≤ v ∧ v ≤ 9223372036854775807) (lba : Int) :
    Calls Tryz.prog 85 #[.pointer (some ⟨b, 0, none⟩), .int .i64 lba] w fun e w' => e = .returned (.bool (goes x.last lba)) ∧ w = w' := by
  obtain ⟨hS, lp, hb, hl⟩ := h
  have hc := blk_cell' hb
  cases hx : x.last with
  | none =>
    rw [hx] at hl
    simp only [LastAt] at hl
    subst hl
    have h2 : w.cell? ⟨b, 2, none⟩ = some (.pointer none) := by rw [hc]; rfl
    clear hc hb hx hv
    go_enter Tryz.func85, Tryz.ntmps85
    go_wp2
    go_ret
    exact ⟨rfl, rfl⟩
  | some v =>
    rw [hx] at hl
    obtain ⟨c, hSc, rfl, hcb⟩ := hl
    obtain ⟨v1, v2⟩ := hv v hx
    have h2 : w.cell? ⟨b, 2, none⟩ = some (.pointer (some ⟨c, 0, none⟩)) := by rw [hc]; rfl
    have h3 : w.cell? ⟨c, 0, none⟩ = some (.int .i64 v) := by rw [blk_cell' hcb]; rfl
    clear hc hb hx hv hcb
    have hg : goes (some v) lba = (v != 9223372036854775807 && v + 1 == lba) := rfl
    by_cases hm : v = 9223372036854775807
    · subst hm
      have hG := Lib.hid hg; clear hg
      go_enter Tryz.func85, Tryz.ntmps85
      go_wp2
      go_ret
      exact ⟨by rw [hG.out]; simp, rfl⟩
    · have hG := Lib.hid hg; clear hg
      have hm2 : v + 1 ≤ 9223372036854775807 := by omega
      have hM := Lib.hid hm; clear hm
      go_enter Tryz.func85, Tryz.ntmps85
      go_wp2
      go_ret
      exact ⟨by rw [hG.out]; simp, rfl⟩


theorem WatchAt.boxed {S : Nat → Prop} {w : World} {b : Nat} {x : Wt} (h : WatchAt S w b x) (w' : World) (hk : ∀ k, k < w.heap.size → w'.heap[k]? = w.heap[k]?) : WatchAt S w' b x := by
  obtain ⟨hS, lp, hb, hl⟩ := h
  refine ⟨hS, lp, by rw [hk _ (blk_lt' hb)]; exact hb, ?_⟩
  cases hx : x.last with
  | none => rw [hx] at hl; exact hl
  | some v =>
    rw [hx] at hl
    obtain ⟨c, hc, rfl, hcb⟩ := hl
    exact ⟨c, hc, rfl, by rw [hk _ (blk_lt' hcb)]; exact hcb⟩

theorem note_done {S : Nat → Prop} {w w' : World} {b : Nat} {x : Wt} {lba : Int} (hSb : S b) (hb : w'.heap[b]? = some (.cells #[.bool true, .int .i64 x.long, .pointer (some ⟨w.heap.size + 1, 0, none⟩), .int .i64 (rowOf x lba), .int .i64 (scansOf x lba)] 152 (0, 0)))
    (hc : w'.heap[w.heap.size + 1]? = some (.cells #[.int .i64 lba] 3 (0, 0))) : WatchAt (Ext S w w') w' b (note x lba) :=
  ⟨.inl hSb, _, hb, ⟨_, .inr ⟨by omega, blk_lt' hc⟩, rfl, hc⟩⟩

set_option maxHeartbeats 800000 in
/-- The world behind Note: the two boxes, the row, the last one, the scans. -/
theorem note_any {S : Nat → Prop} {w : World} {b : Nat} {x : Wt} (h : WatchAt S w b x) (hv : ∀ v, x.last = some v → -9223372036854775808 ≤ v ∧ v ≤ 9223372036854775807)
    (hr : 0 ≤ x.row ∧ x.row < 4611686018427387904) (hs : 0 ≤ x.scans ∧ x.scans < 4611686018427387904) (lba : Int) :
    Calls Tryz.prog 63 #[.pointer (some ⟨b, 0, none⟩), .int .i64 lba] w fun e w' => e = .returned (.bool (isB x lba)) ∧ WatchAt (Ext S w w') w' b (note x lba) ∧ Keeps S w w' := by
  have h' := h
  obtain ⟨hSb, lp, hb, hl⟩ := h'
  have hc := blk_cell' hb
  have hfz := blk_free hb
  have hlt := blk_lt' hb
  have h0 : w.cell? ⟨b, 0, none⟩ = some (.bool true) := by rw [hc]; rfl
  have h1 : w.cell? ⟨b, 1, none⟩ = some (.int .i64 x.long) := by rw [hc]; rfl
  have h2 : w.cell? ⟨b, 2, none⟩ = some lp := by rw [hc]; rfl
  have h3 : w.cell? ⟨b, 3, none⟩ = some (.int .i64 x.row) := by rw [hc]; rfl
  have h4 : w.cell? ⟨b, 4, none⟩ = some (.int .i64 x.scans) := by rw [hc]; rfl
  have g := goes_any (w := (w.alloc (.cells #[.pointer (some ⟨b, 0, none⟩)] 108)).alloc (.cells #[.int .i64 lba] 3)) (h.boxed _ (fun k hk => by rw [heap_past _ _ _ (by simp; omega), heap_past _ _ _ hk])) hv lba
  have HB := Lib.hid hb
  clear hc hb hl h hv
  have hfin : ∀ (W : World), W.heap[b]? = some (.cells #[.bool true, .int .i64 x.long, .pointer (some ⟨w.heap.size + 1, 0, none⟩), .int .i64 (rowOf x lba), .int .i64 (scansOf x lba)] 152 (0, 0)) →
      W.heap[w.heap.size + 1]? = some (.cells #[.int .i64 lba] 3 (0, 0)) → Keeps S w W → WatchAt (Ext S w W) W b (note x lba) ∧ Keeps S w W := fun W hW1 hW2 hk => ⟨note_done hSb hW1 hW2, hk⟩
  have HF := Lib.hid hfin
  clear hfin
  cases hg : goes x.last lba <;> rw [hg] at g
  · have HR : Hid (rowOf x lba = 1) := Lib.hid (by simp [rowOf, hg])
    clear hg
    go_enter Tryz.func63, Tryz.ntmps63
    go_wp2_with fail
    refine g.mono ?_
    rintro e w' ⟨rfl, rfl⟩
    clear g
    go_wp2
    go_end0
    go_wp2
    by_cases hl : 0 < x.long
    · by_cases he : ((1 : Int) == x.long) = true
      · have HS : Hid (scansOf x lba = x.scans + 1) := Lib.hid (by rw [scansOf, HR.out, if_pos ⟨hl, eq_of_beq he⟩])
        go_quiet (fail)
        go_wp2
        go_quiet (fail)
        go_wp2
        all_goals go_ret
        all_goals simp at he
        refine ⟨by simp [isB, HR.out]; omega, HF.out _ ?_ ?_ ?_⟩
        · rw [HR.out, HS.out]; simp (disch := first | omega | (simp only [World.size_alloc, World.size_setCell]; done) | (simp only [World.size_alloc, World.size_setCell]; omega)) only [heap_past, heap_at, heap_far, heap_set, heap_drew, World.heap_drewN, HB.out, Option.map_some, setObj]; rfl
        · simp (disch := first | omega | (simp only [World.size_alloc, World.size_setCell]; done) | (simp only [World.size_alloc, World.size_setCell]; omega)) only [heap_at, heap_far, World.heap_drewN]
        · repeat (with_reducible first | exact Keeps.refl _ _ | apply Keeps.drewN | apply Keeps.alloc | refine Keeps.setCell ?_ (.inl hSb) _)
      · have HS : Hid (scansOf x lba = x.scans) := Lib.hid (by rw [scansOf, HR.out, if_neg (fun h => he (by rw [h.2]; simp))])
        have he : ((1 : Int) == x.long) = false := by simpa using he
        go_quiet (fail)
        go_wp2
        go_quiet (fail)
        go_wp2
        all_goals go_ret
        all_goals simp at he
        refine ⟨by simp [isB, HR.out]; omega, HF.out _ ?_ ?_ ?_⟩
        · rw [HR.out, HS.out]; simp (disch := first | omega | (simp only [World.size_alloc, World.size_setCell]; done) | (simp only [World.size_alloc, World.size_setCell]; omega)) only [heap_past, heap_at, heap_far, heap_set, heap_drew, World.heap_drewN, HB.out, Option.map_some, setObj]; rfl
        · simp (disch := first | omega | (simp only [World.size_alloc, World.size_setCell]; done) | (simp only [World.size_alloc, World.size_setCell]; omega)) only [heap_at, heap_far, World.heap_drewN]
        · repeat (with_reducible first | exact Keeps.refl _ _ | apply Keeps.drewN | apply Keeps.alloc | refine Keeps.setCell ?_ (.inl hSb) _)
    · have HS : Hid (scansOf x lba = x.scans) := Lib.hid (by rw [scansOf, if_neg (fun h => hl h.1)])
      have hd : decide (0 < x.long) = false := by simpa using hl
      · go_quiet (fail)
        go_wp2
        go_quiet (fail)
        go_wp2
        all_goals go_ret
        refine ⟨by simp [isB, HR.out]; omega, HF.out _ ?_ ?_ ?_⟩
        · rw [HR.out, HS.out]; simp (disch := first | omega | (simp only [World.size_alloc, World.size_setCell]; done) | (simp only [World.size_alloc, World.size_setCell]; omega)) only [heap_past, heap_at, heap_far, heap_set, heap_drew, World.heap_drewN, HB.out, Option.map_some, setObj]; rfl
        · simp (disch := first | omega | (simp only [World.size_alloc, World.size_setCell]; done) | (simp only [World.size_alloc, World.size_setCell]; omega)) only [heap_at, heap_far, World.heap_drewN]
        · repeat (with_reducible first | exact Keeps.refl _ _ | apply Keeps.drewN | apply Keeps.alloc | refine Keeps.setCell ?_ (.inl hSb) _)
  · have HR : Hid (rowOf x lba = x.row + 1) := Lib.hid (by simp [rowOf, hg])
    clear hg
    go_enter Tryz.func63, Tryz.ntmps63
    go_wp2_with fail
    refine g.mono ?_
    rintro e w' ⟨rfl, rfl⟩
    clear g
    go_wp2
    by_cases hl : 0 < x.long
    · by_cases he : (x.row + 1 == x.long) = true
      · have HS : Hid (scansOf x lba = x.scans + 1) := Lib.hid (by rw [scansOf, HR.out, if_pos ⟨hl, eq_of_beq he⟩])
        go_quiet (fail)
        go_wp2
        go_quiet (fail)
        go_wp2
        all_goals go_ret
        all_goals simp at he
        refine ⟨by simp [isB, HR.out]; omega, HF.out _ ?_ ?_ ?_⟩
        · rw [HR.out, HS.out]; simp (disch := first | omega | (simp only [World.size_alloc, World.size_setCell]; done) | (simp only [World.size_alloc, World.size_setCell]; omega)) only [heap_past, heap_at, heap_far, heap_set, heap_drew, World.heap_drewN, HB.out, Option.map_some, setObj]; rfl
        · simp (disch := first | omega | (simp only [World.size_alloc, World.size_setCell]; done) | (simp only [World.size_alloc, World.size_setCell]; omega)) only [heap_at, heap_far, World.heap_drewN]
        · repeat (with_reducible first | exact Keeps.refl _ _ | apply Keeps.drewN | apply Keeps.alloc | refine Keeps.setCell ?_ (.inl hSb) _)
      · have HS : Hid (scansOf x lba = x.scans) := Lib.hid (by rw [scansOf, HR.out, if_neg (fun h => he (by rw [h.2]; simp))])
        have he : (x.row + 1 == x.long) = false := by simpa using he
        go_quiet (fail)
        go_wp2
        go_quiet (fail)
        go_wp2
        all_goals go_ret
        all_goals simp at he
        refine ⟨by simp [isB, HR.out]; omega, HF.out _ ?_ ?_ ?_⟩
        · rw [HR.out, HS.out]; simp (disch := first | omega | (simp only [World.size_alloc, World.size_setCell]; done) | (simp only [World.size_alloc, World.size_setCell]; omega)) only [heap_past, heap_at, heap_far, heap_set, heap_drew, World.heap_drewN, HB.out, Option.map_some, setObj]; rfl
        · simp (disch := first | omega | (simp only [World.size_alloc, World.size_setCell]; done) | (simp only [World.size_alloc, World.size_setCell]; omega)) only [heap_at, heap_far, World.heap_drewN]
        · repeat (with_reducible first | exact Keeps.refl _ _ | apply Keeps.drewN | apply Keeps.alloc | refine Keeps.setCell ?_ (.inl hSb) _)
    · have HS : Hid (scansOf x lba = x.scans) := Lib.hid (by rw [scansOf, if_neg (fun h => hl h.1)])
      have hd : decide (0 < x.long) = false := by simpa using hl
      · go_quiet (fail)
        go_wp2
        go_quiet (fail)
        go_wp2
        all_goals go_ret
        refine ⟨by simp [isB, HR.out]; omega, HF.out _ ?_ ?_ ?_⟩
        · rw [HR.out, HS.out]; simp (disch := first | omega | (simp only [World.size_alloc, World.size_setCell]; done) | (simp only [World.size_alloc, World.size_setCell]; omega)) only [heap_past, heap_at, heap_far, heap_set, heap_drew, World.heap_drewN, HB.out, Option.map_some, setObj]; rfl
        · simp (disch := first | omega | (simp only [World.size_alloc, World.size_setCell]; done) | (simp only [World.size_alloc, World.size_setCell]; omega)) only [heap_at, heap_far, World.heap_drewN]
        · repeat (with_reducible first | exact Keeps.refl _ _ | apply Keeps.drewN | apply Keeps.alloc | refine Keeps.setCell ?_ (.inl hSb) _)


theorem WatchAt.mono {S T : Nat → Prop} {w : World} {b : Nat} {x : Wt} (h : WatchAt S w b x) (hs : ∀ k, S k → k < w.heap.size → T k) : WatchAt T w b x := by
  obtain ⟨hS, lp, hb, hl⟩ := h
  refine ⟨hs _ hS (blk_lt' hb), lp, hb, ?_⟩
  cases hx : x.last with
  | none => rw [hx] at hl; exact hl
  | some v =>
    rw [hx] at hl
    obtain ⟨c, hc, rfl, hcb⟩ := hl
    exact ⟨c, hs _ hc (blk_lt' hcb), rfl, hcb⟩

theorem WatchAt.kept {S T : Nat → Prop} {w w' : World} {b : Nat} {x : Wt} (h : WatchAt S w b x) (hk : Keeps T w w') (hd : ∀ k, S k → ¬ T k) : WatchAt S w' b x := by
  obtain ⟨hS, lp, hb, hl⟩ := h
  refine ⟨hS, lp, hk.blk hb (hd _ hS), ?_⟩
  cases hx : x.last with
  | none => rw [hx] at hl; exact hl
  | some v =>
    rw [hx] at hl
    obtain ⟨c, hc, rfl, hcb⟩ := hl
    exact ⟨c, hc, rfl, hk.blk hcb (hd _ hc)⟩

theorem WatchAt.drewN {S : Nat → Prop} {w : World} {b : Nat} {x : Wt} (h : WatchAt S w b x) (n : Nat) : WatchAt S (w.drewN n) b x := h

/-- Where all that the call itself made is the watch's. -/
theorem note_own {N : Nat} {w : World} {b : Nat} {x y : Wt} {r : Bool} (h : WatchAt (fun k => N ≤ k) w b x) (hN : N ≤ w.heap.size) (lba : Int) (hv : ∀ v, x.last = some v → -9223372036854775808 ≤ v ∧ v ≤ 9223372036854775807)
    (hr : 0 ≤ x.row ∧ x.row < 4611686018427387904) (hs : 0 ≤ x.scans ∧ x.scans < 4611686018427387904) (hB : isB x lba = r) (hy : note x lba = y) :
    Calls Tryz.prog 63 #[.pointer (some ⟨b, 0, none⟩), .int .i64 lba] w fun e w' => e = .returned (.bool r) ∧ WatchAt (fun k => N ≤ k) w' b y ∧ Keeps (fun k => N ≤ k) w w' :=
  (note_any h hv hr hs lba).mono fun e w' ⟨he, hw, hk⟩ => ⟨by rw [he, hB], by rw [← hy]; exact hw.mono (fun k hk1 _ => hk1.elim id (fun h => by omega)), hk⟩

end Go.Proofs.YtbgknopjgohocaaGreat


/- The rest of a watch's calls, and the page's example. -/
namespace Go.Proofs.YtbgknopjgohocaaGreat
open Go.RowKit Scan

theorem sNew_yes (long : Int) (w : World) (h0 : 0 ≤ long) (h1 : long ≤ 1048576) :
    Calls Tryz.prog 59 #[.int .i64 long] w fun e w' => e = .returned (.tuple #[.pointer (some ⟨w.heap.size, 0, none⟩), .int .i64 0]) ∧
      w.alloc (.cells #[.bool true, .int .i64 long, .pointer none, .int .i64 0, .int .i64 0] 152) = w' := by
  go_enter Tryz.func59, Tryz.ntmps59
  go_wp2
  go_ret2
  exact ⟨rfl, rfl⟩

theorem sNew_no (long : Int) (w : World) (h : ¬ (0 ≤ long ∧ long ≤ 1048576)) :
    Calls Tryz.prog 59 #[.int .i64 long] w fun e w' => e = .returned (.tuple #[.pointer none, .int .i64 1]) ∧ w = w' := by
  by_cases h0 : 0 ≤ long
  · have h1 : 1048576 < long := by omega
    clear h
    go_enter Tryz.func59, Tryz.ntmps59
    go_wp2
    go_ret2
    exact ⟨rfl, rfl⟩
  · clear h
    go_enter Tryz.func59, Tryz.ntmps59
    go_wp2
    go_ret2
    exact ⟨rfl, rfl⟩

theorem watch_new (S : Nat → Prop) (w : World) (long : Int) (hS : S w.heap.size) :
    WatchAt S (w.alloc (.cells #[.bool true, .int .i64 long, .pointer none, .int .i64 0, .int .i64 0] 152)) w.heap.size ⟨long, none, 0, 0⟩ :=
  ⟨hS, _, heap_at _ _ _ rfl, rfl⟩

theorem sNilNote (lba : Int) (w : World) :
    Calls Tryz.prog 63 #[.pointer none, .int .i64 lba] w fun e w' => e = .returned (.bool false) ∧ Keeps (fun _ => False) w w' := by
  go_enter Tryz.func63, Tryz.ntmps63
  go_wp2
  go_ret
  exact ⟨rfl, ((Keeps.refl _ _).alloc _).alloc _⟩

theorem sOddNote (b : Nat) (lba : Int) (w : World) (h : w.heap[b]? = some (.cells #[.bool false, .int .i64 0, .pointer none, .int .i64 0, .int .i64 0] 152 (0, 0))) :
    Calls Tryz.prog 63 #[.pointer (some ⟨b, 0, none⟩), .int .i64 lba] w fun e w' => e = .returned (.bool false) ∧ Keeps (fun _ => False) w w' := by
  have h0 : w.cell? ⟨b, 0, none⟩ = some (.bool false) := by rw [blk_cell' h]; rfl
  have hlt := blk_lt' h
  clear h
  go_enter Tryz.func63, Tryz.ntmps63
  go_wp2
  go_ret
  exact ⟨rfl, ((Keeps.refl _ _).alloc _).alloc _⟩

end Go.Proofs.YtbgknopjgohocaaGreat
