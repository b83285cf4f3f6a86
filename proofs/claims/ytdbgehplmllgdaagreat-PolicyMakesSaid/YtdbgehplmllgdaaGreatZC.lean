/- Several texts of this claim, one behind the other. -/
import Derived.Test.YtdbgehplmllgdaaGreatZA

/- The watch of chapter 24 as plain Lean: what a watch holds, what noting does, what the document says of all reads; that both agree. No condition. -/
namespace Go.Proofs.YtdbgehplmllgdaaGreat.Scan

structure Wt where
  long : Int
  last : Option Int
  row : Int
  scans : Int

def goes (last : Option Int) (lba : Int) : Bool :=
  match last with
  | none => false
  | some v => v != 9223372036854775807 && v + 1 == lba

def rowOf (x : Wt) (lba : Int) : Int := (if goes x.last lba then x.row else 0) + 1
def scansOf (x : Wt) (lba : Int) : Int := if 0 < x.long ∧ rowOf x lba = x.long then x.scans + 1 else x.scans
def note (x : Wt) (lba : Int) : Wt := { x with last := some lba, row := rowOf x lba, scans := scansOf x lba }
def isB (x : Wt) (lba : Int) : Bool := decide (0 < x.long ∧ x.long ≤ rowOf x lba)

/-- How many reads the row has behind k reads of z. -/
def rowN (z : Nat → Int) : Nat → Nat
  | 0 => 0
  | 1 => 1
  | k + 2 => if z k + 1 = z (k + 1) then rowN z (k + 1) + 1 else 1

def isN (z : Nat → Int) (long : Int) (k : Nat) : Bool := decide (0 < long ∧ long ≤ rowN z k)

def scansN (z : Nat → Int) (long : Int) : Nat → Nat
  | 0 => 0
  | k + 1 => scansN z long k + if 0 < long ∧ (rowN z (k + 1) : Int) = long then 1 else 0

theorem rowN_le (z : Nat → Int) : ∀ k, rowN z k ≤ k
  | 0 => by simp [rowN]
  | 1 => by simp [rowN]
  | k + 2 => by have := rowN_le z (k + 1); simp only [rowN]; split <;> omega

theorem scansN_le (z : Nat → Int) (long : Int) : ∀ k, scansN z long k ≤ k
  | 0 => by simp [scansN]
  | k + 1 => by have := scansN_le z long k; simp only [scansN]; split <;> omega

theorem rowN_stop {z : Nat → Int} {k : Nat} (h : k = 0 ∨ ¬ (z (k - 1) + 1 = z k)) : rowN z (k + 1) = 1 := by
  cases k with
  | zero => rfl
  | succ j => simp only [rowN]; exact if_neg (by rcases h with h | h; omega; simpa using h)

theorem rowN_go {z : Nat → Int} {k : Nat} (h0 : k ≠ 0) (h : z (k - 1) + 1 = z k) : rowN z (k + 1) = rowN z k + 1 := by
  cases k with
  | zero => omega
  | succ j => simp only [rowN]; exact if_pos (by simpa using h)

/-- The watch behind k reads of z, begun with some count of scans. -/
def after (long s0 : Int) (z : Nat → Int) (k : Nat) : Wt :=
  { long := long, last := if k = 0 then none else some (z (k - 1)), row := rowN z k, scans := s0 + scansN z long k }

theorem goes_z (z : Nat → Int) (k : Nat) (hz : z k ≤ 9223372036854775807) : goes (if k = 0 then none else some (z (k - 1))) (z k) = decide (k ≠ 0 ∧ z (k - 1) + 1 = z k) := by
  by_cases h : k = 0
  · simp [h, goes]
  · rw [if_neg h]
    simp only [goes]
    rw [Bool.eq_iff_iff]
    simp [h]
    omega

theorem rowOf_after (long s0 : Int) (z : Nat → Int) (k : Nat) (hz : z k ≤ 9223372036854775807) : rowOf (after long s0 z k) (z k) = rowN z (k + 1) := by
  unfold rowOf
  show (if goes (if k = 0 then none else some (z (k - 1))) (z k) = true then (rowN z k : Int) else 0) + 1 = _
  rw [goes_z z k hz]
  by_cases h : k ≠ 0 ∧ z (k - 1) + 1 = z k
  · rw [if_pos (by simpa using h), rowN_go h.1 h.2]; omega
  · rw [if_neg (by simpa using h), rowN_stop (by omega)]; omega

theorem note_after (long s0 : Int) (z : Nat → Int) (k : Nat) (hz : z k ≤ 9223372036854775807) : note (after long s0 z k) (z k) = after long s0 z (k + 1) := by
  unfold note scansOf
  rw [rowOf_after long s0 z k hz]
  simp only [after, scansN]
  congr 1
  show (if 0 < long ∧ (rowN z (k + 1) : Int) = long then s0 + scansN z long k + 1 else s0 + scansN z long k) = _
  split <;> omega

theorem isB_after (long s0 : Int) (z : Nat → Int) (k : Nat) (hz : z k ≤ 9223372036854775807) : isB (after long s0 z k) (z k) = isN z long (k + 1) := by
  unfold isB isN
  rw [rowOf_after long s0 z k hz]
  rfl

end Go.Proofs.YtdbgehplmllgdaaGreat.Scan


/- What the document's functions of chapter 24 answer. -/
namespace Go.Proofs.YtdbgehplmllgdaaGreat
open Go.RowKit Scan

theorem ret_int {k : IntKind} {a b : Int} (h : a = b) : Ending.returned (.int k a) = .returned (.int k b) := by rw [h]
theorem ret_bool {a b : Bool} (h : a = b) : Ending.returned (.bool a) = .returned (.bool b) := by rw [h]

theorem rRow_any (b off n c : Nat) (z : Nat → Int) (w : World) (hn : 1 ≤ n) (hn2 : n ≤ 4611686018427387904) (hz : ∀ i, i < n → -9223372036854775808 ≤ z i ∧ z i ≤ 9223372036854775807)
    (hc : ∀ i, i < n → w.cell? ⟨b, off + i, none⟩ = some (.int .i64 (z i))) :
    Calls Tryz.prog 167 #[.slice (some ⟨b, off, none⟩) n c] w fun e w' => e = .returned (.int .i64 (rowN z n)) ∧ ∃ m, w' = w.drewN m := by
  go_enter Tryz.func167, Tryz.ntmps167
  go_wp2
  go_loopw [3, 4] (fun r i wr => ∃ j m : Nat, j < n ∧ i = .int .i64 (j : Int) ∧ r = .int .i64 ((n : Int) - j - 1) ∧ (rowN z n : Int) = (n : Int) - j - 1 + rowN z (j + 1) ∧ wr = w.drewN m) (fun _ i _ => (intOf i + 1).toNat)
  case atStart => exact ⟨n - 1, 0, by omega, by congr 1; omega, by congr 1; omega, by rw [show n - 1 + 1 = n from by omega]; omega, rfl⟩
  case round =>
    obtain ⟨j, m, hj, rfl, rfl, hrow, rfl⟩ := hrel
    have hrl := rowN_le z (j + 1)
    have hcj := hc j (by omega)
    have hzj := hz j (by omega)
    have hR := Lib.hid hrow
    clear hrow
    by_cases h0 : j = 0
    · have hr1 : Hid (rowN z (j + 1) = 1) := Lib.hid (rowN_stop (.inl h0))
      have e0 : ((j : Int) == 0) = true := by simp [h0]
      clear h0 hc
      go_wp2
      go_quiet (fail)
      go_wp2
      go_ret
      exact ⟨ret_int (by rw [hR.out, hr1.out]; omega), _, World.drewN_drewN _ _ _⟩
    · have e0 : ((j : Int) == 0) = false := by simpa using h0
      obtain ⟨i, hi⟩ : ∃ i, i + 1 = j := ⟨j - 1, by omega⟩
      have hcp := hc i (by omega)
      have hzp := hz i (by omega)
      have hin : i < n := by omega
      have hI := Lib.hid hi
      have w1 : IntKind.i64.wrap ((j : Int) - 1) = (i : Int) := by rw [IntWalk.i64_in _ (by omega)]; omega
      have hst : ∀ h : ¬ (z i + 1 = z j), rowN z (j + 1) = 1 := fun h => rowN_stop (.inr (by rw [show j - 1 = i from by omega]; exact h))
      have hgo : ∀ h : z i + 1 = z j, rowN z (j + 1) = rowN z (i + 1) + 1 := fun h => by rw [rowN_go h0 (by rw [show j - 1 = i from by omega]; exact h), hi]
      clear hi
      clear hc
      by_cases hg : z i + 1 = z j
      · have HR : Hid (rowN z (j + 1) = rowN z (i + 1) + 1) := Lib.hid (hgo hg)
        have e1 : (z j == -9223372036854775808) = false := by simp; omega
        have e2 : (z j - 1 != z i) = false := by simp; omega
        have w2 : IntKind.i64.wrap (z j - 1) = z j - 1 := IntWalk.i64_in _ (by omega)
        have HG := Lib.hid hg
        have H0 := Lib.hid h0
        clear hg h0 hst hgo
        go_wp2
        go_quiet (fail)
        go_wp2
        go_roundw
        case rel => exact ⟨i, _, hin, rfl, by have := hI.out; congr 1; omega, by have := hI.out; rw [hR.out, HR.out]; omega, rfl⟩
        case measure => have := hI.out; simp [intOf]; omega
      · have HR : Hid (rowN z (j + 1) = 1) := Lib.hid (hst hg)
        have HG := Lib.hid hg
        have H0 := Lib.hid h0
        by_cases e1 : (z j == -9223372036854775808) = true
        · clear hg h0 hst hgo
          go_wp2
          go_quiet (fail)
          go_wp2
          go_ret
          exact ⟨ret_int (by rw [hR.out, HR.out]; omega), _, World.drewN_drewN _ _ _⟩
        · have e1 : (z j == -9223372036854775808) = false := by simpa using e1
          have e3 : z j ≠ -9223372036854775808 := by simpa using e1
          have e2 : (z j - 1 != z i) = true := by simp; omega
          have w2 : IntKind.i64.wrap (z j - 1) = z j - 1 := IntWalk.i64_in _ (by omega)
          clear hg h0 e3 hst hgo
          go_wp2
          go_quiet (fail)
          go_wp2
          go_ret
          exact ⟨ret_int (by rw [hR.out, HR.out]; omega), _, World.drewN_drewN _ _ _⟩

theorem rIs_any (b off n c : Nat) (long : Int) (z : Nat → Int) (w : World) (hn : 1 ≤ n) (hn2 : n ≤ 4611686018427387904) (hz : ∀ i, i < n → -9223372036854775808 ≤ z i ∧ z i ≤ 9223372036854775807)
    (hc : ∀ i, i < n → w.cell? ⟨b, off + i, none⟩ = some (.int .i64 (z i))) :
    Calls Tryz.prog 126 #[.slice (some ⟨b, off, none⟩) n c, .int .i64 long] w fun e w' => e = .returned (.bool (isN z long n)) ∧ ∃ m, w' = w.drewN m := by
  have g := rRow_any b off n c z w hn hn2 hz hc
  have hI : Hid (isN z long n = decide (0 < long ∧ long ≤ rowN z n)) := Lib.hid rfl
  clear hz hc
  by_cases h : 0 < long
  · go_enter Tryz.func126, Tryz.ntmps126
    go_wp2_with (go_at_call 167; refine g.mono ?_; rintro e w' ⟨rfl, m, rfl⟩)
    go_ret
    exact ⟨ret_bool (by rw [hI.out]; simp [h]), _, rfl⟩
  · go_enter Tryz.func126, Tryz.ntmps126
    go_wp2
    go_ret
    exact ⟨ret_bool (by rw [hI.out]; simp; omega), 0, rfl⟩

theorem rScans_any (a : Option Addr) (n c : Nat) (long : Int) (z : Nat → Int) (w : World) (hnc : n ≤ c) (hn2 : n ≤ 4611686018427387904) (hz : ∀ i, i < n → -9223372036854775808 ≤ z i ∧ z i ≤ 9223372036854775807)
    (hc : 0 < n → ∃ b off, a = some ⟨b, off, none⟩ ∧ ∀ i, i < n → w.cell? ⟨b, off + i, none⟩ = some (.int .i64 (z i))) :
    Calls Tryz.prog 134 #[.slice a n c, .int .i64 long] w fun e w' => e = .returned (.int .i64 (scansN z long n)) ∧ ∃ m, w' = w.drewN m := by
  have hsl := scansN_le z long
  have HSL := Lib.hid hsl
  clear hsl
  go_enter Tryz.func134, Tryz.ntmps134
  go_wp2
  go_loopw [5, 6] (fun r i wr => ∃ k m : Nat, k ≤ n ∧ i = .int .i64 ((k : Int) + 1) ∧ r = .int .i64 (scansN z long k) ∧ wr = w.drewN m) (fun _ i _ => (n + 1 - (intOf i).toNat))
  case atStart => exact ⟨0, 0, by omega, rfl, rfl, rfl⟩
  case round =>
    obtain ⟨k, m, hk, rfl, rfl, rfl⟩ := hrel
    have hs1 := HSL.out k
    by_cases hkn : k < n
    · obtain ⟨b, off, rfl, hcs⟩ := hc (by omega)
      have g := rRow_any b off (k + 1) c z (w.drewN m) (by omega) (by omega) (fun i hi => hz i (by omega)) (fun i hi => hcs i (by omega))
      have G := Lib.hid g
      have HC := Lib.hid hc
      have HZ := Lib.hid hz
      have HCS := Lib.hid hcs
      have hkc : (k : Int) + 1 ≤ c := by omega
      clear g hc hz hcs
      by_cases h : 0 < long
      · by_cases he : ((rowN z (k + 1) : Int) == long) = true
        · have HS : Hid (scansN z long (k + 1) = scansN z long k + 1) := Lib.hid (by simp only [scansN]; rw [if_pos ⟨h, eq_of_beq he⟩])
          go_wp2_with (go_at_call 167; refine (G.out).mono ?_; rintro e w' ⟨rfl, m2, rfl⟩)
          go_roundw
          case rel => exact ⟨k + 1, _, by omega, by go_num, by rw [HS.out]; go_num, by first | rfl | exact World.drewN_drewN _ _ _⟩
          case measure => simp [intOf]; omega
        · have HS : Hid (scansN z long (k + 1) = scansN z long k) := Lib.hid (by simp only [scansN]; rw [if_neg (fun hh => he (by rw [hh.2]; simp))]; rfl)
          have he : ((rowN z (k + 1) : Int) == long) = false := by simpa using he
          go_wp2_with (go_at_call 167; refine (G.out).mono ?_; rintro e w' ⟨rfl, m2, rfl⟩)
          go_roundw
          case rel => exact ⟨k + 1, _, by omega, by go_num, by rw [HS.out], by first | rfl | exact World.drewN_drewN _ _ _⟩
          case measure => simp [intOf]; omega
      · have HS : Hid (scansN z long (k + 1) = scansN z long k) := Lib.hid (by simp only [scansN]; rw [if_neg (fun hh => h hh.1)]; rfl)
        go_wp2
        go_roundw
        case rel => exact ⟨k + 1, _, by omega, by go_num, by rw [HS.out], rfl⟩
        case measure => simp [intOf]; omega
    · have hkk : k = n := by omega
      subst hkk
      clear hc hz
      go_wp2
      go_ret
      exact ⟨rfl, _, rfl⟩

end Go.Proofs.YtdbgehplmllgdaaGreat


/- What the calls of a watch do to memory. -/
namespace Go.Proofs.YtdbgehplmllgdaaGreat
open Go.RowKit Scan
set_option linter.unusedSimpArgs false

def LastAt (S : Nat → Prop) (w : World) : Option Int → Value → Prop
  | none, lp => lp = .pointer none
  | some v, lp => ∃ c, S c ∧ lp = .pointer (some ⟨c, 0, none⟩) ∧ w.heap[c]? = some (.cells #[.int .i64 v] 3 (0, 0))

/-- The block b is a watch that holds x. -/
def WatchAt (S : Nat → Prop) (w : World) (b : Nat) (x : Wt) : Prop :=
  S b ∧ ∃ lp, w.heap[b]? = some (.cells #[.bool true, .int .i64 x.long, lp, .int .i64 x.row, .int .i64 x.scans] 150 (0, 0)) ∧ LastAt S w x.last lp

theorem goes_any {S : Nat → Prop} {w : World} {b : Nat} {x : Wt} (h : WatchAt S w b x) (hv : ∀ v, x.last = some v → -9223372036854775808 ≤ v ∧ v ≤ 9223372036854775807) (lba : Int) :
    Calls Tryz.prog 108 #[.pointer (some ⟨b, 0, none⟩), .int .i64 lba] w fun e w' => e = .returned (.bool (goes x.last lba)) ∧ w = w' := by
  obtain ⟨hS, lp, hb, hl⟩ := h
  have hc := blk_cell' hb
  cases hx : x.last with
  | none =>
    rw [hx] at hl
    simp only [LastAt] at hl
    subst hl
    have h2 : w.cell? ⟨b, 2, none⟩ = some (.pointer none) := by rw [hc]; rfl
    clear hc hb hx hv
    go_enter Tryz.func108, Tryz.ntmps108
    go_wp2
    go_ret
    exact ⟨rfl, rfl⟩
  | some v =>
    rw [hx] at hl
    obtain ⟨c, hSc, rfl, hcb⟩ := hl
    obtain ⟨v1, v2⟩ := hv v hx
    have h2 : w.cell? ⟨b, 2, none⟩ = some (.pointer (some ⟨c, 0, none⟩)) := by rw [hc]; rfl
    have h3 : w.cell? ⟨c, 0, none⟩ = some (.int .i64 v) := by rw [blk_cell' hcb]; rfl
    clear hc hb hx hv hcb
    have hg : goes (some v) lba = (v != 9223372036854775807 && v + 1 == lba) := rfl
    by_cases hm : v = 9223372036854775807
    · subst hm
      have hG := Lib.hid hg; clear hg
      go_enter Tryz.func108, Tryz.ntmps108
      go_wp2
      go_ret
      exact ⟨by rw [hG.out]; simp, rfl⟩
    · have hG := Lib.hid hg; clear hg
      have hm2 : v + 1 ≤ 9223372036854775807 := by omega
      have hM := Lib.hid hm; clear hm
      go_enter Tryz.func108, Tryz.ntmps108
      go_wp2
      go_ret
      exact ⟨by rw [hG.out]; simp, rfl⟩


theorem WatchAt.boxed {S : Nat → Prop} {w : World} {b : Nat} {x : Wt} (h : WatchAt S w b x) (w' : World) (hk : ∀ k, k < w.heap.size → w'.heap[k]? = w.heap[k]?) : WatchAt S w' b x := by
  obtain ⟨hS, lp, hb, hl⟩ := h
  refine ⟨hS, lp, by rw [hk _ (blk_lt' hb)]; exact hb, ?_⟩
  cases hx : x.last with
  | none => rw [hx] at hl; exact hl
  | some v =>
    rw [hx] at hl
    obtain ⟨c, hc, rfl, hcb⟩ := hl
    exact ⟨c, hc, rfl, by rw [hk _ (blk_lt' hcb)]; exact hcb⟩

theorem note_done {S : Nat → Prop} {w w' : World} {b : Nat} {x : Wt} {lba : Int} (hSb : S b) (hb : w'.heap[b]? = some (.cells #[.bool true, .int .i64 x.long, .pointer (some ⟨w.heap.size + 1, 0, none⟩), .int .i64 (rowOf x lba), .int .i64 (scansOf x lba)] 150 (0, 0)))
    (hc : w'.heap[w.heap.size + 1]? = some (.cells #[.int .i64 lba] 3 (0, 0))) : WatchAt (Ext S w w') w' b (note x lba) :=
  ⟨.inl hSb, _, hb, ⟨_, .inr ⟨by omega, blk_lt' hc⟩, rfl, hc⟩⟩

set_option maxHeartbeats 800000 in
/-- The world behind Note: the two boxes, the row, the last one, the scans. -/
theorem note_any {S : Nat → Prop} {w : World} {b : Nat} {x : Wt} (h : WatchAt S w b x) (hv : ∀ v, x.last = some v → -9223372036854775808 ≤ v ∧ v ≤ 9223372036854775807)
    (hr : 0 ≤ x.row ∧ x.row < 4611686018427387904) (hs : 0 ≤ x.scans ∧ x.scans < 4611686018427387904) (lba : Int) :
    Calls Tryz.prog 56 #[.pointer (some ⟨b, 0, none⟩), .int .i64 lba] w fun e w' => e = .returned (.bool (isB x lba)) ∧ WatchAt (Ext S w w') w' b (note x lba) ∧ Keeps S w w' := by
  have h' := h
  obtain ⟨hSb, lp, hb, hl⟩ := h'
  have hc := blk_cell' hb
  have hfz := blk_free hb
  have hlt := blk_lt' hb
  have h0 : w.cell? ⟨b, 0, none⟩ = some (.bool true) := by rw [hc]; rfl
  have h1 : w.cell? ⟨b, 1, none⟩ = some (.int .i64 x.long) := by rw [hc]; rfl
  have h2 : w.cell? ⟨b, 2, none⟩ = some lp := by rw [hc]; rfl
  have h3 : w.cell? ⟨b, 3, none⟩ = some (.int .i64 x.row) := by rw [hc]; rfl
  have h4 : w.cell? ⟨b, 4, none⟩ = some (.int .i64 x.scans) := by rw [hc]; rfl
  have g := goes_any (w := (w.alloc (.cells #[.pointer (some ⟨b, 0, none⟩)] 40)).alloc (.cells #[.int .i64 lba] 3)) (h.boxed _ (fun k hk => by rw [heap_past _ _ _ (by simp; omega), heap_past _ _ _ hk])) hv lba
  have HB := Lib.hid hb
  clear hc hb hl h hv
  have hfin : ∀ (W : World), W.heap[b]? = some (.cells #[.bool true, .int .i64 x.long, .pointer (some ⟨w.heap.size + 1, 0, none⟩), .int .i64 (rowOf x lba), .int .i64 (scansOf x lba)] 150 (0, 0)) →
      W.heap[w.heap.size + 1]? = some (.cells #[.int .i64 lba] 3 (0, 0)) → Keeps S w W → WatchAt (Ext S w W) W b (note x lba) ∧ Keeps S w W := fun W hW1 hW2 hk => ⟨note_done hSb hW1 hW2, hk⟩
  have HF := Lib.hid hfin
  clear hfin
  cases hg : goes x.last lba <;> rw [hg] at g
  · have HR : Hid (rowOf x lba = 1) := Lib.hid (by simp [rowOf, hg])
    clear hg
    go_enter Tryz.func56, Tryz.ntmps56
    go_wp2_with fail
    refine g.mono ?_
    rintro e w' ⟨rfl, rfl⟩
    clear g
    go_wp2
    go_end0
    go_wp2
    by_cases hl : 0 < x.long
    · by_cases he : ((1 : Int) == x.long) = true
      · have HS : Hid (scansOf x lba = x.scans + 1) := Lib.hid (by rw [scansOf, HR.out, if_pos ⟨hl, eq_of_beq he⟩])
        go_quiet (fail)
        go_wp2
        go_quiet (fail)
        go_wp2
        all_goals go_ret
        all_goals simp at he
        refine ⟨by simp [isB, HR.out]; omega, HF.out _ ?_ ?_ ?_⟩
        · rw [HR.out, HS.out]; simp (disch := first | omega | (simp only [World.size_alloc, World.size_setCell]; done) | (simp only [World.size_alloc, World.size_setCell]; omega)) only [heap_past, heap_at, heap_far, heap_set, heap_drew, World.heap_drewN, HB.out, Option.map_some, setObj]; rfl
        · simp (disch := first | omega | (simp only [World.size_alloc, World.size_setCell]; done) | (simp only [World.size_alloc, World.size_setCell]; omega)) only [heap_at, heap_far, World.heap_drewN]
        · repeat (with_reducible first | exact Keeps.refl _ _ | apply Keeps.drewN | apply Keeps.alloc | refine Keeps.setCell ?_ (.inl hSb) _)
      · have HS : Hid (scansOf x lba = x.scans) := Lib.hid (by rw [scansOf, HR.out, if_neg (fun h => he (by rw [h.2]; simp))])
        have he : ((1 : Int) == x.long) = false := by simpa using he
        go_quiet (fail)
        go_wp2
        go_quiet (fail)
        go_wp2
        all_goals go_ret
        all_goals simp at he
        refine ⟨by simp [isB, HR.out]; omega, HF.out _ ?_ ?_ ?_⟩
        · rw [HR.out, HS.out]; simp (disch := first | omega | (simp only [World.size_alloc, World.size_setCell]; done) | (simp only [World.size_alloc, World.size_setCell]; omega)) only [heap_past, heap_at, heap_far, heap_set, heap_drew, World.heap_drewN, HB.out, Option.map_some, setObj]; rfl
        · simp (disch := first | omega | (simp only [World.size_alloc, World.size_setCell]; done) | (simp only [World.size_alloc, World.size_setCell]; omega)) only [heap_at, heap_far, World.heap_drewN]
        · repeat (with_reducible first | exact Keeps.refl _ _ | apply Keeps.drewN | apply Keeps.alloc | refine Keeps.setCell ?_ (.inl hSb) _)
    · have HS : Hid (scansOf x lba = x.scans) := Lib.hid (by rw [scansOf, if_neg (fun h => hl h.1)])
      have hd : decide (0 < x.long) = false := by simpa using hl
      · go_quiet (fail)
        go_wp2
        go_quiet (fail)
        go_wp2
        all_goals go_ret
        refine ⟨by simp [isB, HR.out]; omega, HF.out _ ?_ ?_ ?_⟩
        · rw [HR.out, HS.out]; simp (disch := first | omega | (simp only [World.size_alloc, World.size_setCell]; done) | (simp only [World.size_alloc, World.size_setCell]; omega)) only [heap_past, heap_at, heap_far, heap_set, heap_drew, World.heap_drewN, HB.out, Option.map_some, setObj]; rfl
        · simp (disch := first | omega | (simp only [World.size_alloc, World.size_setCell]; done) | (simp only [World.size_alloc, World.size_setCell]; omega)) only [heap_at, heap_far, World.heap_drewN]
        · repeat (with_reducible first | exact Keeps.refl _ _ | apply Keeps.drewN | apply Keeps.alloc | refine Keeps.setCell ?_ (.inl hSb) _)
  · have HR : Hid (rowOf x lba = x.row + 1) := Lib.hid (by simp [rowOf, hg])
    clear hg
    go_enter Tryz.func56, Tryz.ntmps56
    go_wp2_with fail
    refine g.mono ?_
    rintro e w' ⟨rfl, rfl⟩
    clear g
    go_wp2
    by_cases hl : 0 < x.long
    · by_cases he : (x.row + 1 == x.long) = true
      · have HS : Hid (scansOf x lba = x.scans + 1) := Lib.hid (by rw [scansOf, HR.out, if_pos ⟨hl, eq_of_beq he⟩])
        go_quiet (fail)
        go_wp2
        go_quiet (fail)
        go_wp2
        all_goals go_ret
        all_goals simp at he
        refine ⟨by simp [isB, HR.out]; omega, HF.out _ ?_ ?_ ?_⟩
        · rw [HR.out, HS.out]; simp (disch := first | omega | (simp only [World.size_alloc, World.size_setCell]; done) | (simp only [World.size_alloc, World.size_setCell]; omega)) only [heap_past, heap_at, heap_far, heap_set, heap_drew, World.heap_drewN, HB.out, Option.map_some, setObj]; rfl
        · simp (disch := first | omega | (simp only [World.size_alloc, World.size_setCell]; done) | (simp only [World.size_alloc, World.size_setCell]; omega)) only [heap_at, heap_far, World.heap_drewN]
        · repeat (with_reducible first | exact Keeps.refl _ _ | apply Keeps.drewN | apply Keeps.alloc | refine Keeps.setCell ?_ (.inl hSb) _)
      · have HS : Hid (scansOf x lba = x.scans) := Lib.hid (by rw [scansOf, HR.out, if_neg (fun h => he (by rw [h.2]; simp))])
        have he : (x.row + 1 == x.long) = false := by simpa using he
        go_quiet (fail)
        go_wp2
        go_quiet (fail)
        go_wp2
        all_goals go_ret
        all_goals simp at he
        refine ⟨by simp [isB, HR.out]; omega, HF.out _ ?_ ?_ ?_⟩
        · rw [HR.out, HS.out]; simp (disch := first | omega | (simp only [World.size_alloc, World.size_setCell]; done) | (simp only [World.size_alloc, World.size_setCell]; omega)) only [heap_past, heap_at, heap_far, heap_set, heap_drew, World.heap_drewN, HB.out, Option.map_some, setObj]; rfl
        · simp (disch := first | omega | (simp only [World.size_alloc, World.size_setCell]; done) | (simp only [World.size_alloc, World.size_setCell]; omega)) only [heap_at, heap_far, World.heap_drewN]
        · repeat (with_reducible first | exact Keeps.refl _ _ | apply Keeps.drewN | apply Keeps.alloc | refine Keeps.setCell ?_ (.inl hSb) _)
    · have HS : Hid (scansOf x lba = x.scans) := Lib.hid (by rw [scansOf, if_neg (fun h => hl h.1)])
      have hd : decide (0 < x.long) = false := by simpa using hl
      · go_quiet (fail)
        go_wp2
        go_quiet (fail)
        go_wp2
        all_goals go_ret
        refine ⟨by simp [isB, HR.out]; omega, HF.out _ ?_ ?_ ?_⟩
        · rw [HR.out, HS.out]; simp (disch := first | omega | (simp only [World.size_alloc, World.size_setCell]; done) | (simp only [World.size_alloc, World.size_setCell]; omega)) only [heap_past, heap_at, heap_far, heap_set, heap_drew, World.heap_drewN, HB.out, Option.map_some, setObj]; rfl
        · simp (disch := first | omega | (simp only [World.size_alloc, World.size_setCell]; done) | (simp only [World.size_alloc, World.size_setCell]; omega)) only [heap_at, heap_far, World.heap_drewN]
        · repeat (with_reducible first | exact Keeps.refl _ _ | apply Keeps.drewN | apply Keeps.alloc | refine Keeps.setCell ?_ (.inl hSb) _)


theorem WatchAt.mono {S T : Nat → Prop} {w : World} {b : Nat} {x : Wt} (h : WatchAt S w b x) (hs : ∀ k, S k → k < w.heap.size → T k) : WatchAt T w b x := by
  obtain ⟨hS, lp, hb, hl⟩ := h
  refine ⟨hs _ hS (blk_lt' hb), lp, hb, ?_⟩
  cases hx : x.last with
  | none => rw [hx] at hl; exact hl
  | some v =>
    rw [hx] at hl
    obtain ⟨c, hc, rfl, hcb⟩ := hl
    exact ⟨c, hs _ hc (blk_lt' hcb), rfl, hcb⟩

theorem WatchAt.kept {S T : Nat → Prop} {w w' : World} {b : Nat} {x : Wt} (h : WatchAt S w b x) (hk : Keeps T w w') (hd : ∀ k, S k → ¬ T k) : WatchAt S w' b x := by
  obtain ⟨hS, lp, hb, hl⟩ := h
  refine ⟨hS, lp, hk.blk hb (hd _ hS), ?_⟩
  cases hx : x.last with
  | none => rw [hx] at hl; exact hl
  | some v =>
    rw [hx] at hl
    obtain ⟨c, hc, rfl, hcb⟩ := hl
    exact ⟨c, hc, rfl, hk.blk hcb (hd _ hc)⟩

theorem WatchAt.drewN {S : Nat → Prop} {w : World} {b : Nat} {x : Wt} (h : WatchAt S w b x) (n : Nat) : WatchAt S (w.drewN n) b x := h

/-- Where all that the call itself made is the watch's. -/
theorem note_own {N : Nat} {w : World} {b : Nat} {x y : Wt} {r : Bool} (h : WatchAt (fun k => N ≤ k) w b x) (hN : N ≤ w.heap.size) (lba : Int) (hv : ∀ v, x.last = some v → -9223372036854775808 ≤ v ∧ v ≤ 9223372036854775807)
    (hr : 0 ≤ x.row ∧ x.row < 4611686018427387904) (hs : 0 ≤ x.scans ∧ x.scans < 4611686018427387904) (hB : isB x lba = r) (hy : note x lba = y) :
    Calls Tryz.prog 56 #[.pointer (some ⟨b, 0, none⟩), .int .i64 lba] w fun e w' => e = .returned (.bool r) ∧ WatchAt (fun k => N ≤ k) w' b y ∧ Keeps (fun k => N ≤ k) w w' :=
  (note_any h hv hr hs lba).mono fun e w' ⟨he, hw, hk⟩ => ⟨by rw [he, hB], by rw [← hy]; exact hw.mono (fun k hk1 _ => hk1.elim id (fun h => by omega)), hk⟩

end Go.Proofs.YtdbgehplmllgdaaGreat


/- The rest of a watch's calls, and the page's example. -/
namespace Go.Proofs.YtdbgehplmllgdaaGreat
open Go.RowKit Scan

theorem sNew_yes (long : Int) (w : World) (h0 : 0 ≤ long) (h1 : long ≤ 1048576) :
    Calls Tryz.prog 48 #[.int .i64 long] w fun e w' => e = .returned (.tuple #[.pointer (some ⟨w.heap.size, 0, none⟩), .int .i64 0]) ∧
      w.alloc (.cells #[.bool true, .int .i64 long, .pointer none, .int .i64 0, .int .i64 0] 150) = w' := by
  go_enter Tryz.func48, Tryz.ntmps48
  go_wp2
  go_ret2
  exact ⟨rfl, rfl⟩

theorem sNew_no (long : Int) (w : World) (h : ¬ (0 ≤ long ∧ long ≤ 1048576)) :
    Calls Tryz.prog 48 #[.int .i64 long] w fun e w' => e = .returned (.tuple #[.pointer none, .int .i64 1]) ∧ w = w' := by
  by_cases h0 : 0 ≤ long
  · have h1 : 1048576 < long := by omega
    clear h
    go_enter Tryz.func48, Tryz.ntmps48
    go_wp2
    go_ret2
    exact ⟨rfl, rfl⟩
  · clear h
    go_enter Tryz.func48, Tryz.ntmps48
    go_wp2
    go_ret2
    exact ⟨rfl, rfl⟩

theorem watch_new (S : Nat → Prop) (w : World) (long : Int) (hS : S w.heap.size) :
    WatchAt S (w.alloc (.cells #[.bool true, .int .i64 long, .pointer none, .int .i64 0, .int .i64 0] 150)) w.heap.size ⟨long, none, 0, 0⟩ :=
  ⟨hS, _, heap_at _ _ _ rfl, rfl⟩

theorem sScans_any {S : Nat → Prop} {w : World} {b : Nat} {x : Wt} (h : WatchAt S w b x) :
    Calls Tryz.prog 67 #[.pointer (some ⟨b, 0, none⟩)] w fun e w' => e = .returned (.int .i64 x.scans) ∧ w = w' := by
  obtain ⟨_, lp, hb, _⟩ := h
  have h3 : w.cell? ⟨b, 4, none⟩ = some (.int .i64 x.scans) := by rw [blk_cell' hb]; rfl
  clear hb
  go_enter Tryz.func67, Tryz.ntmps67
  go_wp2
  go_ret
  exact ⟨rfl, rfl⟩

theorem sReset_any {S : Nat → Prop} {w : World} {b : Nat} {x : Wt} (h : WatchAt S w b x) :
    Calls Tryz.prog 51 #[.pointer (some ⟨b, 0, none⟩)] w fun e w' => e = .returned (.tuple #[]) ∧ WatchAt S w' b { x with row := 0, last := none } ∧ Keeps S w w' := by
  obtain ⟨hS, lp, hb, _⟩ := h
  have hfz := blk_free hb
  have h2 : w.cell? ⟨b, 2, none⟩ = some lp := by rw [blk_cell' hb]; rfl
  have h3 : w.cell? ⟨b, 3, none⟩ = some (.int .i64 x.row) := by rw [blk_cell' hb]; rfl
  have HB := Lib.hid hb
  clear hb
  go_enter Tryz.func51, Tryz.ntmps51
  go_wp2
  go_end0
  refine ⟨rfl, ⟨hS, .pointer none, ?_, rfl⟩, ?_⟩
  · simp only [heap_set, HB.out, Option.map_some, setObj]; rfl
  · repeat (with_reducible first | exact Keeps.refl _ _ | apply Keeps.drewN | apply Keeps.alloc | refine Keeps.setCell ?_ (.inl hS) _)

theorem sNilNote (lba : Int) (w : World) :
    Calls Tryz.prog 56 #[.pointer none, .int .i64 lba] w fun e w' => e = .returned (.bool false) ∧ Keeps (fun _ => False) w w' := by
  go_enter Tryz.func56, Tryz.ntmps56
  go_wp2
  go_ret
  exact ⟨rfl, ((Keeps.refl _ _).alloc _).alloc _⟩

theorem sOddNote (b : Nat) (lba : Int) (w : World) (h : w.heap[b]? = some (.cells #[.bool false, .int .i64 0, .pointer none, .int .i64 0, .int .i64 0] 150 (0, 0))) :
    Calls Tryz.prog 56 #[.pointer (some ⟨b, 0, none⟩), .int .i64 lba] w fun e w' => e = .returned (.bool false) ∧ Keeps (fun _ => False) w w' := by
  have h0 : w.cell? ⟨b, 0, none⟩ = some (.bool false) := by rw [blk_cell' h]; rfl
  have hlt := blk_lt' h
  clear h
  go_enter Tryz.func56, Tryz.ntmps56
  go_wp2
  go_ret
  exact ⟨rfl, ((Keeps.refl _ _).alloc _).alloc _⟩

theorem sNilReset (w : World) :
    Calls Tryz.prog 51 #[.pointer none] w fun e w' => e = .returned (.tuple #[]) ∧ w = w' := by
  go_enter Tryz.func51, Tryz.ntmps51
  go_wp2
  go_end0
  exact ⟨rfl, rfl⟩

theorem sNilScans (w : World) :
    Calls Tryz.prog 67 #[.pointer none] w fun e w' => e = .returned (.int .i64 0) ∧ w = w' := by
  go_enter Tryz.func67, Tryz.ntmps67
  go_wp2
  go_ret
  exact ⟨rfl, rfl⟩

end Go.Proofs.YtdbgehplmllgdaaGreat
