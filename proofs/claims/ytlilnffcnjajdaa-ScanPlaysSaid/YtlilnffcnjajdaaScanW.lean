/- What the calls of a watch do to memory. -/
import Derived.Test.YtlilnffcnjajdaaHp
import Derived.Test.YtlilnffcnjajdaaScanPlain
namespace Go.Proofs.Ytlilnffcnjajdaa
open Go.RowKit Scan

def LastAt (S : Nat → Prop) (w : World) : Option Int → Value → Prop
  | none, lp => lp = .pointer none
  | some v, lp => ∃ c, S c ∧ lp = .pointer (some ⟨c, 0, none⟩) ∧ w.heap[c]? = some (.cells #[.int .i64 v] 3 (0, 0))

/-- The block b is a watch that holds x. -/
def WatchAt (S : Nat → Prop) (w : World) (b : Nat) (x : Wt) : Prop :=
  S b ∧ ∃ lp, w.heap[b]? = some (.cells #[.bool true, .int .i64 x.long, lp, .int .i64 x.row, .int .i64 x.scans] 36 (0, 0)) ∧ LastAt S w x.last lp

theorem goes_any {S : Nat → Prop} {w : World} {b : Nat} {x : Wt} (h : WatchAt S w b x) (hv : ∀ v, x.last = some v → -9223372036854775808 ≤ v ∧ v ≤ 9223372036854775807) (lba : Int) :
    Calls Try.prog 40 #[.pointer (some ⟨b, 0, none⟩), .int .i64 lba] w fun e w' => e = .returned (.bool (goes x.last lba)) ∧ w = w' := by
  obtain ⟨hS, lp, hb, hl⟩ := h
  have hc := blk_cell' hb
  cases hx : x.last with
  | none =>
    rw [hx] at hl
    simp only [LastAt] at hl
    subst hl
    have h2 : w.cell? ⟨b, 2, none⟩ = some (.pointer none) := by rw [hc]; rfl
    clear hc hb hx hv
    go_enter Try.func40, Try.ntmps40
    go_wp2
    go_ret
    exact ⟨rfl, rfl⟩
  | some v =>
    rw [hx] at hl
    obtain ⟨c, hSc, rfl, hcb⟩ := hl
    obtain ⟨v1, v2⟩ := hv v hx
    have h2 : w.cell? ⟨b, 2, none⟩ = some (.pointer (some ⟨c, 0, none⟩)) := by rw [hc]; rfl
    have h3 : w.cell? ⟨c, 0, none⟩ = some (.int .i64 v) := by rw [blk_cell' hcb]; rfl
    clear hc hb hx hv hcb
    have hg : goes (some v) lba = (v != 9223372036854775807 && v + 1 == lba) := rfl
    by_cases hm : v = 9223372036854775807
    · subst hm
      have hG := Lib.hid hg; clear hg
      go_enter Try.func40, Try.ntmps40
      go_wp2
      go_ret
      exact ⟨by rw [hG.out]; simp, rfl⟩
    · have hG := Lib.hid hg; clear hg
      have hm2 : v + 1 ≤ 9223372036854775807 := by omega
      have hM := Lib.hid hm; clear hm
      go_enter Try.func40, Try.ntmps40
      go_wp2
      go_ret
      exact ⟨by rw [hG.out]; simp, rfl⟩


theorem WatchAt.boxed {S : Nat → Prop} {w : World} {b : Nat} {x : Wt} (h : WatchAt S w b x) (w' : World) (hk : ∀ k, k < w.heap.size → w'.heap[k]? = w.heap[k]?) : WatchAt S w' b x := by
  obtain ⟨hS, lp, hb, hl⟩ := h
  refine ⟨hS, lp, by rw [hk _ (blk_lt' hb)]; exact hb, ?_⟩
  cases hx : x.last with
  | none => rw [hx] at hl; exact hl
  | some v =>
    rw [hx] at hl
    obtain ⟨c, hc, rfl, hcb⟩ := hl
    exact ⟨c, hc, rfl, by rw [hk _ (blk_lt' hcb)]; exact hcb⟩

theorem note_done {S : Nat → Prop} {w w' : World} {b : Nat} {x : Wt} {lba : Int} (hSb : S b) (hb : w'.heap[b]? = some (.cells #[.bool true, .int .i64 x.long, .pointer (some ⟨w.heap.size + 1, 0, none⟩), .int .i64 (rowOf x lba), .int .i64 (scansOf x lba)] 36 (0, 0)))
    (hc : w'.heap[w.heap.size + 1]? = some (.cells #[.int .i64 lba] 3 (0, 0))) : WatchAt (Ext S w w') w' b (note x lba) :=
  ⟨.inl hSb, _, hb, ⟨_, .inr ⟨by omega, blk_lt' hc⟩, rfl, hc⟩⟩

set_option maxHeartbeats 800000 in
/-- The world behind Note: the two boxes, the row, the last one, the scans. -/
theorem note_any {S : Nat → Prop} {w : World} {b : Nat} {x : Wt} (h : WatchAt S w b x) (hv : ∀ v, x.last = some v → -9223372036854775808 ≤ v ∧ v ≤ 9223372036854775807)
    (hr : 0 ≤ x.row ∧ x.row < 4611686018427387904) (hs : 0 ≤ x.scans ∧ x.scans < 4611686018427387904) (lba : Int) :
    Calls Try.prog 12 #[.pointer (some ⟨b, 0, none⟩), .int .i64 lba] w fun e w' => e = .returned (.bool (isB x lba)) ∧ WatchAt (Ext S w w') w' b (note x lba) ∧ Keeps S w w' := by
  have h' := h
  obtain ⟨hSb, lp, hb, hl⟩ := h'
  have hc := blk_cell' hb
  have hfz := blk_free hb
  have hlt := blk_lt' hb
  have h0 : w.cell? ⟨b, 0, none⟩ = some (.bool true) := by rw [hc]; rfl
  have h1 : w.cell? ⟨b, 1, none⟩ = some (.int .i64 x.long) := by rw [hc]; rfl
  have h2 : w.cell? ⟨b, 2, none⟩ = some lp := by rw [hc]; rfl
  have h3 : w.cell? ⟨b, 3, none⟩ = some (.int .i64 x.row) := by rw [hc]; rfl
  have h4 : w.cell? ⟨b, 4, none⟩ = some (.int .i64 x.scans) := by rw [hc]; rfl
  have g := goes_any (w := (w.alloc (.cells #[.pointer (some ⟨b, 0, none⟩)] 23)).alloc (.cells #[.int .i64 lba] 3)) (h.boxed _ (fun k hk => by rw [heap_past _ _ _ (by simp; omega), heap_past _ _ _ hk])) hv lba
  have HB := Lib.hid hb
  clear hc hb hl h hv
  have hfin : ∀ (W : World), W.heap[b]? = some (.cells #[.bool true, .int .i64 x.long, .pointer (some ⟨w.heap.size + 1, 0, none⟩), .int .i64 (rowOf x lba), .int .i64 (scansOf x lba)] 36 (0, 0)) →
      W.heap[w.heap.size + 1]? = some (.cells #[.int .i64 lba] 3 (0, 0)) → Keeps S w W → WatchAt (Ext S w W) W b (note x lba) ∧ Keeps S w W := fun W hW1 hW2 hk => ⟨note_done hSb hW1 hW2, hk⟩
  have HF := Lib.hid hfin
  clear hfin
  cases hg : goes x.last lba <;> rw [hg] at g
  · have HR : Hid (rowOf x lba = 1) := Lib.hid (by simp [rowOf, hg])
    clear hg
    go_enter Try.func12, Try.ntmps12
    go_wp2_with fail
    refine g.mono ?_
    rintro e w' ⟨rfl, rfl⟩
    clear g
    go_wp2
    go_end0
    go_wp2
    by_cases hl : 0 < x.long
    · by_cases he : ((1 : Int) == x.long) = true
      · have HS : Hid (scansOf x lba = x.scans + 1) := Lib.hid (by rw [scansOf, HR.out, if_pos ⟨hl, eq_of_beq he⟩])
        go_quiet (fail)
        go_wp2
        go_quiet (fail)
        go_wp2
        all_goals go_ret
        all_goals simp at he
        refine ⟨by simp [isB, HR.out]; omega, HF.out _ ?_ ?_ ?_⟩
        · rw [HR.out, HS.out]; simp (disch := first | omega | (simp only [World.size_alloc, World.size_setCell]; done) | (simp only [World.size_alloc, World.size_setCell]; omega)) only [heap_past, heap_at, heap_far, heap_set, heap_drew, World.heap_drewN, HB.out, Option.map_some, setObj]; rfl
        · simp (disch := first | omega | (simp only [World.size_alloc, World.size_setCell]; done) | (simp only [World.size_alloc, World.size_setCell]; omega)) only [heap_at, heap_far, World.heap_drewN]
        · repeat (with_reducible first | exact Keeps.refl _ _ | apply Keeps.drewN | apply Keeps.alloc | refine Keeps.setCell ?_ (.inl hSb) _)
      · have HS : Hid (scansOf x lba = x.scans) := Lib.hid (by rw [scansOf, HR.out, if_neg (fun h => he (by rw [h.2]; simp))])
        have he : ((1 : Int) == x.long) = false := by simpa using he
        go_quiet (fail)
        go_wp2
        go_quiet (fail)
        go_wp2
        all_goals go_ret
        all_goals simp at he
        refine ⟨by simp [isB, HR.out]; omega, HF.out _ ?_ ?_ ?_⟩
        · rw [HR.out, HS.out]; simp (disch := first | omega | (simp only [World.size_alloc, World.size_setCell]; done) | (simp only [World.size_alloc, World.size_setCell]; omega)) only [heap_past, heap_at, heap_far, heap_set, heap_drew, World.heap_drewN, HB.out, Option.map_some, setObj]; rfl
        · simp (disch := first | omega | (simp only [World.size_alloc, World.size_setCell]; done) | (simp only [World.size_alloc, World.size_setCell]; omega)) only [heap_at, heap_far, World.heap_drewN]
        · repeat (with_reducible first | exact Keeps.refl _ _ | apply Keeps.drewN | apply Keeps.alloc | refine Keeps.setCell ?_ (.inl hSb) _)
    · have HS : Hid (scansOf x lba = x.scans) := Lib.hid (by rw [scansOf, if_neg (fun h => hl h.1)])
      have hd : decide (0 < x.long) = false := by simpa using hl
      · go_quiet (fail)
        go_wp2
        go_quiet (fail)
        go_wp2
        all_goals go_ret
        refine ⟨by simp [isB, HR.out]; omega, HF.out _ ?_ ?_ ?_⟩
        · rw [HR.out, HS.out]; simp (disch := first | omega | (simp only [World.size_alloc, World.size_setCell]; done) | (simp only [World.size_alloc, World.size_setCell]; omega)) only [heap_past, heap_at, heap_far, heap_set, heap_drew, World.heap_drewN, HB.out, Option.map_some, setObj]; rfl
        · simp (disch := first | omega | (simp only [World.size_alloc, World.size_setCell]; done) | (simp only [World.size_alloc, World.size_setCell]; omega)) only [heap_at, heap_far, World.heap_drewN]
        · repeat (with_reducible first | exact Keeps.refl _ _ | apply Keeps.drewN | apply Keeps.alloc | refine Keeps.setCell ?_ (.inl hSb) _)
  · have HR : Hid (rowOf x lba = x.row + 1) := Lib.hid (by simp [rowOf, hg])
    clear hg
    go_enter Try.func12, Try.ntmps12
    go_wp2_with fail
    refine g.mono ?_
    rintro e w' ⟨rfl, rfl⟩
    clear g
    go_wp2
    by_cases hl : 0 < x.long
    · by_cases he : (x.row + 1 == x.long) = true
      · have HS : Hid (scansOf x lba = x.scans + 1) := Lib.hid (by rw [scansOf, HR.out, if_pos ⟨hl, eq_of_beq he⟩])
        go_quiet (fail)
        go_wp2
        go_quiet (fail)
        go_wp2
        all_goals go_ret
        all_goals simp at he
        refine ⟨by simp [isB, HR.out]; omega, HF.out _ ?_ ?_ ?_⟩
        · rw [HR.out, HS.out]; simp (disch := first | omega | (simp only [World.size_alloc, World.size_setCell]; done) | (simp only [World.size_alloc, World.size_setCell]; omega)) only [heap_past, heap_at, heap_far, heap_set, heap_drew, World.heap_drewN, HB.out, Option.map_some, setObj]; rfl
        · simp (disch := first | omega | (simp only [World.size_alloc, World.size_setCell]; done) | (simp only [World.size_alloc, World.size_setCell]; omega)) only [heap_at, heap_far, World.heap_drewN]
        · repeat (with_reducible first | exact Keeps.refl _ _ | apply Keeps.drewN | apply Keeps.alloc | refine Keeps.setCell ?_ (.inl hSb) _)
      · have HS : Hid (scansOf x lba = x.scans) := Lib.hid (by rw [scansOf, HR.out, if_neg (fun h => he (by rw [h.2]; simp))])
        have he : (x.row + 1 == x.long) = false := by simpa using he
        go_quiet (fail)
        go_wp2
        go_quiet (fail)
        go_wp2
        all_goals go_ret
        all_goals simp at he
        refine ⟨by simp [isB, HR.out]; omega, HF.out _ ?_ ?_ ?_⟩
        · rw [HR.out, HS.out]; simp (disch := first | omega | (simp only [World.size_alloc, World.size_setCell]; done) | (simp only [World.size_alloc, World.size_setCell]; omega)) only [heap_past, heap_at, heap_far, heap_set, heap_drew, World.heap_drewN, HB.out, Option.map_some, setObj]; rfl
        · simp (disch := first | omega | (simp only [World.size_alloc, World.size_setCell]; done) | (simp only [World.size_alloc, World.size_setCell]; omega)) only [heap_at, heap_far, World.heap_drewN]
        · repeat (with_reducible first | exact Keeps.refl _ _ | apply Keeps.drewN | apply Keeps.alloc | refine Keeps.setCell ?_ (.inl hSb) _)
    · have HS : Hid (scansOf x lba = x.scans) := Lib.hid (by rw [scansOf, if_neg (fun h => hl h.1)])
      have hd : decide (0 < x.long) = false := by simpa using hl
      · go_quiet (fail)
        go_wp2
        go_quiet (fail)
        go_wp2
        all_goals go_ret
        refine ⟨by simp [isB, HR.out]; omega, HF.out _ ?_ ?_ ?_⟩
        · rw [HR.out, HS.out]; simp (disch := first | omega | (simp only [World.size_alloc, World.size_setCell]; done) | (simp only [World.size_alloc, World.size_setCell]; omega)) only [heap_past, heap_at, heap_far, heap_set, heap_drew, World.heap_drewN, HB.out, Option.map_some, setObj]; rfl
        · simp (disch := first | omega | (simp only [World.size_alloc, World.size_setCell]; done) | (simp only [World.size_alloc, World.size_setCell]; omega)) only [heap_at, heap_far, World.heap_drewN]
        · repeat (with_reducible first | exact Keeps.refl _ _ | apply Keeps.drewN | apply Keeps.alloc | refine Keeps.setCell ?_ (.inl hSb) _)


theorem WatchAt.mono {S T : Nat → Prop} {w : World} {b : Nat} {x : Wt} (h : WatchAt S w b x) (hs : ∀ k, S k → k < w.heap.size → T k) : WatchAt T w b x := by
  obtain ⟨hS, lp, hb, hl⟩ := h
  refine ⟨hs _ hS (blk_lt' hb), lp, hb, ?_⟩
  cases hx : x.last with
  | none => rw [hx] at hl; exact hl
  | some v =>
    rw [hx] at hl
    obtain ⟨c, hc, rfl, hcb⟩ := hl
    exact ⟨c, hs _ hc (blk_lt' hcb), rfl, hcb⟩

theorem WatchAt.kept {S T : Nat → Prop} {w w' : World} {b : Nat} {x : Wt} (h : WatchAt S w b x) (hk : Keeps T w w') (hd : ∀ k, S k → ¬ T k) : WatchAt S w' b x := by
  obtain ⟨hS, lp, hb, hl⟩ := h
  refine ⟨hS, lp, hk.blk hb (hd _ hS), ?_⟩
  cases hx : x.last with
  | none => rw [hx] at hl; exact hl
  | some v =>
    rw [hx] at hl
    obtain ⟨c, hc, rfl, hcb⟩ := hl
    exact ⟨c, hc, rfl, hk.blk hcb (hd _ hc)⟩

theorem WatchAt.drewN {S : Nat → Prop} {w : World} {b : Nat} {x : Wt} (h : WatchAt S w b x) (n : Nat) : WatchAt S (w.drewN n) b x := h

/-- Where all that the call itself made is the watch's. -/
theorem note_own {N : Nat} {w : World} {b : Nat} {x y : Wt} {r : Bool} (h : WatchAt (fun k => N ≤ k) w b x) (hN : N ≤ w.heap.size) (lba : Int) (hv : ∀ v, x.last = some v → -9223372036854775808 ≤ v ∧ v ≤ 9223372036854775807)
    (hr : 0 ≤ x.row ∧ x.row < 4611686018427387904) (hs : 0 ≤ x.scans ∧ x.scans < 4611686018427387904) (hB : isB x lba = r) (hy : note x lba = y) :
    Calls Try.prog 12 #[.pointer (some ⟨b, 0, none⟩), .int .i64 lba] w fun e w' => e = .returned (.bool r) ∧ WatchAt (fun k => N ≤ k) w' b y ∧ Keeps (fun k => N ≤ k) w w' :=
  (note_any h hv hr hs lba).mono fun e w' ⟨he, hw, hk⟩ => ⟨by rw [he, hB], by rw [← hy]; exact hw.mono (fun k hk1 _ => hk1.elim id (fun h => by omega)), hk⟩

end Go.Proofs.Ytlilnffcnjajdaa
