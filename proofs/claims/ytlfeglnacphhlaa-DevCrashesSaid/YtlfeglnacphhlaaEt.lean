/- The document's Fit: fates made to fit. -/
import Derived.Test.YtlfeglnacphhlaaEl
import Derived.Test.YtlfeglnacphhlaaCr
namespace Go.Proofs.Ytlfeglnacphhlaa
open Go.RowKit Go.Maps
set_option linter.unusedVariables false

def fit1 (m : Nat) (f : Int) : Int := (((f.tmod ((m : Int) + 1)).natAbs : Nat) : Int)
def fitL (l : List (Nat × Nat)) (fs : List Int) : List Int := (l.zip fs).map fun x => fit1 x.1.2 x.2
theorem fit1_le (m : Nat) (f : Int) : 0 ≤ fit1 m f ∧ fit1 m f ≤ (m : Int) := by
  unfold fit1
  refine ⟨Int.natCast_nonneg _, ?_⟩
  have h := Int.natAbs_tmod f ((m : Int) + 1)
  have e : ((m : Int) + 1).natAbs = m + 1 := by omega
  rw [h, e]
  have := Nat.mod_lt f.natAbs (show 0 < m + 1 by omega)
  omega

/-- The fate at a place. -/
def fitA (l : List (Nat × Nat)) (fs : List Int) (j : Nat) : Int := match l[j]?, fs[j]? with
  | some x, some f => fit1 x.2 f
  | _, _ => 0
theorem fitL_eq (l : List (Nat × Nat)) (fs : List Int) (n : Nat) (hn : n = min l.length fs.length) : fitL l fs = (List.range n).map (fitA l fs) := by
  apply List.ext_getElem?
  intro j
  unfold fitL
  rw [List.getElem?_map, List.getElem?_map]
  by_cases hj : j < n
  · have e1 : l[j]? = some (l[j]'(by omega)) := List.getElem?_eq_getElem _
    have e2 : fs[j]? = some (fs[j]'(by omega)) := List.getElem?_eq_getElem _
    have e3 : (l.zip fs)[j]? = some (l[j]'(by omega), fs[j]'(by omega)) := List.getElem?_zip_eq_some.2 ⟨e1, e2⟩
    rw [e3, List.getElem?_range hj]
    simp only [Option.map_some, fitA, e1, e2]
  · rw [List.getElem?_eq_none (by rw [List.length_zip]; omega), List.getElem?_eq_none (by rw [List.length_range]; omega)]
    rfl

theorem infoI : (Try.prog.info? 3).map (fun i => (i.zero, i.size, i.bytes)) = some (some (.int .i64 0), 1, 8) := by kernel_rfl

theorem rdz_of {w : World} {base : Nat} {v : Value} {l : List Int} (h : w.ownsRow base 3 1 v l.length (l.map (Value.int .i64))) : RdZ w v l := by
  rcases h.2 with ⟨e1, h0⟩ | ⟨g, cap, cur, e1, hB, hbk, h1, h2, h3, h4⟩
  · exact ⟨none, 0, by rw [e1, h0], fun x => by omega⟩
  · refine ⟨_, cap, e1, fun _ => ⟨g, 0, rfl, fun j x hx => ?_⟩⟩
    have hj : j < l.length := (List.getElem?_eq_some_iff.1 hx).1
    rw [Nat.zero_add, blk_cell' hbk]
    have := congrArg (fun l => l[j]?) h4
    simp only [List.getElem?_take_of_lt (show j < l.length * 1 by omega), Array.getElem?_toList, List.getElem?_map, hx, Option.map_some] at this
    exact this

set_option maxRecDepth 100000 in
set_option maxHeartbeats 4000000 in
theorem fit_any {w : World} {v fv : Value} {l : List (Nat × Nat)} {fs : List Int} (h : RdLo w v l) (hf : RdZ w fv fs) (hl : l.length ≤ 4096) (hm : ∀ x, x ∈ l → x.2 ≤ 1000000) (hfm : fs.length ≤ 9223372036854775807) :
    Calls Try.prog 18 #[v, fv] w fun r w' => ∃ u, r = .returned u ∧ RdZ w' u (fitL l fs) ∧ Below w.heap.size w w' := by
  obtain ⟨A, ca, rfl, hA⟩ := h.open_
  obtain ⟨B, cb, rfl, hB⟩ := hf.open_
  obtain ⟨i0, hif, hz0, hz1, hz2⟩ := info_parts infoI
  have HA := Lib.hid hA
  have HB := Lib.hid hB
  have HL := Lib.hid hl
  have HM := Lib.hid hm
  have HF := Lib.hid hfm
  have O0 := Lib.hid (World.ownsRow_nil w w.heap.size 3 1)
  obtain ⟨n, hn⟩ : ∃ n, n = min l.length fs.length := ⟨_, rfl⟩
  have HN := Lib.hid hn
  have FE := Lib.hid (fitL_eq l fs n hn)
  generalize hll : l.length = ll at *
  generalize hfl : fs.length = fl at *
  have LLH := Lib.hid (And.intro hll hfl)
  have ll1 : (ll : Int) ≤ 4096 := by omega
  have fl1 : (fl : Int) ≤ 9223372036854775807 := by omega
  clear h hf hA hB hl hm hfm hn hll hfl
  go_enter Try.func18, Try.ntmps18
  go_wp2_with fail
  go_loopw [5, 6, 7] (fun v i _ wr => ∃ k : Nat, k ≤ n ∧ i = .int .i64 (k : Int) ∧ wr.ownsRow w.heap.size 3 1 v k ((List.range k).map fun j => .int .i64 (fitA l fs j)) ∧ Below w.heap.size w wr) (fun _ i _ _ => n - (intOf i).toNat)
  case atStart => exact ⟨0, Nat.zero_le _, rfl, O0.out, Below.refl _ _⟩
  case round =>
    obtain ⟨k, hk, rfl, ho, B⟩ := hrel
    obtain ⟨Ao, co, rfl⟩ := row_slice ho
    by_cases h1 : k < n
    · have n1 : (k : Int) < (fl : Int) := by have := HN.out; omega
      have n2 : (k : Int) < (ll : Int) := by have := HN.out; omega
      have HK := Lib.hid (show k + 1 ≤ n by omega)
      have k63 : (k : Int) ≤ 4096 := by omega
      obtain ⟨g, rfl, hca⟩ := HA.out (by omega)
      obtain ⟨gf, of, rfl, hcf⟩ := HB.out (by omega)
      have lx : l[k]? = some (l[k]'(by have := LLH.out.1; omega)) := List.getElem?_eq_getElem _
      have fx : fs[k]? = some (fs[k]'(by have := LLH.out.2; omega)) := List.getElem?_eq_getElem _
      have FA : fitA l fs k = fit1 (l[k]'(by have := LLH.out.1; omega)).2 (fs[k]'(by have := LLH.out.2; omega)) := by unfold fitA; rw [lx, fx]
      have mb := HM.out _ (List.getElem_mem (l := l) (n := k) (by have := LLH.out.1; omega))
      have cl := (Keeps.of_below B).old (hca k _ lx).2
      have cf := (Keeps.of_below B).old (hcf k _ fx)
      rw [show 2 * k + 1 = k * 2 + 1 by omega] at cl
      generalize (l[k]'(by have := LLH.out.1; omega)).2 = m at *
      generalize (fs[k]'(by have := LLH.out.2; omega)) = f at *
      have fb := fit1_le m f
      have mb1 : (m : Int) ≤ 1000000 := by omega
      have mb2 : ¬ (m : Int) + 1 = 0 := by omega
      obtain ⟨r, hr⟩ : ∃ r, r = f.tmod ((m : Int) + 1) := ⟨_, rfl⟩
      have hr2 : f.tmod ((m : Int) + 1) = r := hr.symm
      have rb : -1000000 ≤ r ∧ r ≤ 1000000 := by unfold fit1 at fb; rw [hr2] at fb; omega
      have FR := Lib.hid (show fitA l fs k = if r < 0 then 0 - r else r by rw [FA]; unfold fit1; rw [hr2]; split <;> omega)
      obtain ⟨rb1, rb2⟩ := rb
      have HO := Lib.hid ho
      have HBW := Lib.hid B
      clear hr FA fb lx fx ho B hk h1 hca hcf mb
      have k64 : k ≤ 4096 := by omega
      by_cases r0 : r < 0
      · have FV := Lib.hid (show fitA l fs k = -r by rw [FR.out, if_pos r0]; omega)
        have OW := Lib.hid ((HO.out.drew).alloc (.cells #[.int .i64 (-r)] 3))
        have BA := Lib.hid (HBW.out.drew.alloc HBW.out.drew.size (.cells #[.int .i64 (-r)] 3))
        go_wp2_with fail
        go_region
        all_goals
          go_wp2_with (first
            | (at_builtin; refine wpList_append_own_at _ rfl _ _ 38 rfl w.heap.size 3 i0 (.int .i64 0) 1 8 Try.underlying38 hif hz0 hz1 hz2 rfl (by decide) _ _ _ rfl OW.out ⟨wr.heap.size, 0, none⟩ 1 1 [.int .i64 (-r)] rfl (by rfl) (World.news_of_block (heap_alloc_new _ _)) ?c2 ?c3 ?c4 ?c5 ?_)
            | go_in)
          case c2 => intro u hu; simp at hu; subst hu; rfl
          case c3 => unfold maxLen; omega
          case c4 => omega
          case c5 => exact BA.out.size
          rintro v' w2 hown' hgr - hat
          have O2 := Lib.hid (show w2.ownsRow w.heap.size 3 1 v' (k + 1) ((List.range (k + 1)).map fun j => .int .i64 (fitA l fs j)) by
            rw [List.range_succ, List.map_append]; simp only [List.map_cons, List.map_nil]; rw [FV.out]; simpa using hown')
          have B2 := Lib.hid (BA.out.grown hgr BA.out.size (fun g e => (HO.out.lt g e).1))
          clear hown' hgr hat
          go_wp2
          go_roundw
          case rel => exact ⟨k + 1, HK.out, by simp, O2.out, B2.out⟩
          case measure => have := HK.out; simp only [intOf]; omega
      · have r1 : decide (r < 0) = false := decide_eq_false r0
        have FV := Lib.hid (show fitA l fs k = r by rw [FR.out, if_neg r0])
        have OW := Lib.hid ((HO.out.drew).alloc (.cells #[.int .i64 r] 3))
        have BA := Lib.hid (HBW.out.drew.alloc HBW.out.drew.size (.cells #[.int .i64 r] 3))
        go_wp2_with fail
        go_region
        all_goals
          go_wp2_with (first
            | (at_builtin; refine wpList_append_own_at _ rfl _ _ 38 rfl w.heap.size 3 i0 (.int .i64 0) 1 8 Try.underlying38 hif hz0 hz1 hz2 rfl (by decide) _ _ _ rfl OW.out ⟨wr.heap.size, 0, none⟩ 1 1 [.int .i64 (r)] rfl (by rfl) (World.news_of_block (heap_alloc_new _ _)) ?c2 ?c3 ?c4 ?c5 ?_)
            | go_in)
          case c2 => intro u hu; simp at hu; subst hu; rfl
          case c3 => unfold maxLen; omega
          case c4 => omega
          case c5 => exact BA.out.size
          rintro v' w2 hown' hgr - hat
          have O2 := Lib.hid (show w2.ownsRow w.heap.size 3 1 v' (k + 1) ((List.range (k + 1)).map fun j => .int .i64 (fitA l fs j)) by
            rw [List.range_succ, List.map_append]; simp only [List.map_cons, List.map_nil]; rw [FV.out]; simpa using hown')
          have B2 := Lib.hid (BA.out.grown hgr BA.out.size (fun g e => (HO.out.lt g e).1))
          clear hown' hgr hat
          go_wp2
          go_roundw
          case rel => exact ⟨k + 1, HK.out, by simp, O2.out, B2.out⟩
          case measure => have := HK.out; simp only [intOf]; omega
    · have FIN := Lib.hid (show RdZ wr (.slice Ao k co) (fitL l fs) by
        rw [FE.out]
        have hkn : n = k := by have := HN.out; omega
        rw [hkn]
        exact rdz_of (by rw [List.length_map, List.length_range, List.map_map]; exact ho))
      have HBW := Lib.hid B
      by_cases n1 : (k : Int) < (fl : Int)
      · have n2 : ¬ (k : Int) < (ll : Int) := by have := HN.out; omega
        have n3 : decide (k < ll) = false := decide_eq_false (by omega)
        clear ho B hk h1 n2
        go_wp2
        go_ret
        exact ⟨_, rfl, FIN.out, HBW.out⟩
      · have n3 : decide (k < fl) = false := decide_eq_false (by omega)
        clear ho B hk h1 n1
        go_wp2
        go_ret
        exact ⟨_, rfl, FIN.out, HBW.out⟩

end Go.Proofs.Ytlfeglnacphhlaa
