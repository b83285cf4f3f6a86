/- slices.DeleteFunc at rows of puts, the closure of settle at work. -/
import Derived.Test.YtbgknopjgohocaaGreatZE
namespace Go.Proofs.YtbgknopjgohocaaGreat
open Go.RowKit Go.Maps Go.WideMaps Go.WideElems
set_option linter.unusedVariables false

section
variable {w w' : World} {B b m n : Nat} {M : Int → Option Nat} {P : List (Int × Nat)} {v : Value}

/-- What 'DeleteFunc' leaves. -/
def DelP (v : Value) (P : List (Int × Nat)) (M : Int → Option Nat) (w : World) (e : Ending) (w' : World) : Prop :=
  ∃ A c, e = .returned (.slice A (P.filter (live M)).length c) ∧ Que w' (.slice A (P.filter (live M)).length c) (P.filter (live M)) ∧ (∀ g, (Value.slice A (P.filter (live M)).length c).ownBlock = some g → v.ownBlock = some g) ∧ Keeps (fun k => v.ownBlock = some k) w w'

set_option maxRecDepth 100000 in
set_option maxHeartbeats 4000000 in
theorem del_puts (h : Cl w B b m n M) (hq : Que w v P) (ok : PutsOk P) (hl : P.length ≤ 1000000) (hB : v.ownBlock ≠ some B) (hb : v.ownBlock ≠ some b) :
    Calls Tryz.prog 130 #[v, .func (.func 131) #[] #[.pointer (some ⟨B, 0, none⟩)]] w (DelP v P M w) := by
  have IX := Lib.hid (gh_index h hq ok hl)
  have HQ := Lib.hid hq
  have HCL := Lib.hid h
  have OK := Lib.hid ok
  have HN0 := Lib.hid hl
  have HNE := Lib.hid (And.intro hB (And.intro hb (hq.ne_map h.map)))
  obtain ⟨A, c, rfl, h1, h2, -⟩ := hq.open_
  have HMX := Lib.hid h2
  obtain ⟨N, hN⟩ : ∃ N, P.length = N := ⟨_, rfl⟩
  have HN := Lib.hid hN
  have n1 : (N : Int) ≤ 1000000 := by omega
  have n2 : N ≤ c := by omega
  have n3 : (c : Int) ≤ 9223372036854775807 := by unfold maxLen at h2; omega
  rw [hN] at IX ⊢
  clear h hq ok hl hB hb h1 h2 hN
  go_enter Tryz.func130, Tryz.ntmps130
  go_wp2_with fail
  refine IX.out.mono ?_
  rintro e w1 ⟨hx, b1⟩
  have B1 := Lib.hid b1
  rcases hx with ⟨rfl, hf⟩ | ⟨i, hi, rfl, hf, p, hp, hdead⟩
  · have HF := Lib.hid hf
    clear hf b1 IX
    go_wp2
    go_ret
    refine ⟨A, c, (show Ending.returned (Value.slice A N c) = _ from by rw [HF.out, HN.out]), ?_, fun g e => ?_, (Keeps.of_below B1.out).mono (fun k hk e => absurd e (by omega))⟩
    · rw [HF.out, HN.out]; have := HQ.out.old B1.out; rw [HN.out] at this; exact this
    · rw [HF.out, HN.out] at e; exact e
  · have HI := Lib.hid (show i + 1 ≤ N by have := HN.out; omega)
    rcases HQ.out with ⟨hv, h0⟩ | ⟨g, o, c', L, F, hv, ha, h1, h2, h3, h4⟩
    · rw [h0] at hi; exact absurd hi (by simp)
    rw [HN.out] at hv
    simp at hv
    obtain ⟨rfl, rfl⟩ := hv
    have HG := Lib.hid (show B ≠ g ∧ b ≠ g ∧ m ≠ g from ⟨fun e => HNE.out.1 (by rw [e]; rfl), fun e => HNE.out.2.1 (by rw [e]; rfl), fun e => HNE.out.2.2 (by rw [e]; rfl)⟩)
    have HL := Lib.hid (show o + P.length * 2 ≤ L by omega)
    have HLT := Lib.hid (And.intro ha.lt (show o + c * 2 ≤ L from h3))
    have D0 := Lib.hid (show DelS w w1 g o L P M i (i + 1) from by
      have e : (P.take (i + 1)).filter (live M) = P.take i := by
        rw [take_next hp, List.filter_append, hf, List.filter_cons_of_neg (by rw [hdead]; decide), List.filter_nil, List.append_nil]
      refine ⟨⟨F, ha.below b1 ha.lt, fun x q hx => ?_, fun x q hx hq => h4 x q hq⟩, (Keeps.of_below b1).mono (fun k hk e => absurd e (by omega)), by omega, by have := HN.out; omega, ?_⟩
      · rw [e] at hx
        have hxl := (List.getElem?_eq_some_iff.1 hx).1
        rw [List.length_take] at hxl
        rw [List.getElem?_take_of_lt (by omega)] at hx
        exact h4 x q hx
      · rw [e, List.length_take]; omega)
    have i1 : (i : Int) ≤ 1000000 := by have := HN.out; omega
    have i2 : ((i : Int) == -1) = false := by simp
    clear hf hp hdead h1 h2 h3 h4 ha b1 hi IX
    go_wp2_with fail
    go_loopw [5, 6] (fun i j wr => ∃ i' j' : Nat, j' ≤ N ∧ i = .int .i64 (i' : Int) ∧ j = .int .i64 (j' : Int) ∧ DelS w wr g o L P M i' j') (fun _ j _ => N - (intOf j).toNat)
    case atStart => exact ⟨i, i + 1, HI.out, rfl, by simp, D0.out⟩
    case round =>
      obtain ⟨x, j, hj, rfl, rfl, D⟩ := hrel
      by_cases hj1 : (j : Int) < (N : Int)
      · have hjl : j < P.length := by have := HN.out; omega
        have hp := List.getElem?_eq_getElem hjl
        obtain ⟨q1, q2⟩ := D.cell hp HL.out
        have HP := Lib.hid hp
        have okp := OK.out _ (List.getElem_mem hjl)
        have HOK := Lib.hid okp
        generalize P[j] = p at *
        have x1 : (x : Int) < (N : Int) := by have := D.ij; omega
        have BA := (Below.refl wr.heap.size wr).alloc (Nat.le_refl _) (.cells #[.int .u64 p.1, .int .i64 (p.2 : Int)] 187)
        have D1 := D.later BA
        have cl1 := (HCL.out.keep D.kp HG.out.1 HG.out.2.1 HG.out.2.2).below BA
        have DL := gh_del cl1 p okp
        have bx1 := heap_at wr (.cells #[.int .u64 p.1, .int .i64 (p.2 : Int)] 187) wr.heap.size rfl
        have HJ := Lib.hid (show j + 1 ≤ N by omega)
        have HD1 := Lib.hid D1
        have HBX := Lib.hid (And.intro (blk_cell' bx1 0) (blk_cell' bx1 1))
        generalize hk1 : p.1 = key at *
        generalize hk2 : p.2 = wh at *
        have HKW := Lib.hid (And.intro hk1 hk2)
        clear hk1 hk2 hp hjl D BA D1 cl1 bx1 okp hj
        cases hlv : live M p
        · rw [hlv] at DL
          have HLV := Lib.hid hlv
          replace DL := Lib.hid DL
          clear hlv
          go_wp2_with fail
          refine DL.out.mono ?_
          rintro e w2 ⟨rfl, b2⟩
          have D2 := Lib.hid ((HD1.out.later b2).dead HP.out HLV.out)
          clear b2 DL
          go_wp2
          go_roundw
          case rel => exact ⟨x, j + 1, HJ.out, rfl, by simp, D2.out⟩
          case measure => have := HJ.out; simp only [intOf]; omega
        · rw [hlv] at DL
          have HLV := Lib.hid hlv
          replace DL := Lib.hid DL
          clear hlv
          go_wp2_with fail
          refine DL.out.mono ?_
          rintro e w2 ⟨rfl, b2⟩
          have D2 := HD1.out.later b2
          obtain ⟨⟨a0, a1, s0, s1⟩, fz⟩ := D2.slot HL.out
          have f0 := fz (o + x * 2)
          have f1 := fz (o + x * 2 + 1)
          have t0 := (Keeps.of_below b2).old HBX.out.1
          have t1 := (Keeps.of_below b2).old HBX.out.2
          have D3 := D2.live HP.out HLV.out HL.out
          rw [HKW.out.1, HKW.out.2] at D3
          replace D3 := Lib.hid D3
          clear b2 DL D2 fz
          go_wp2
          go_roundw
          case rel => exact ⟨x + 1, j + 1, HJ.out, by simp, by simp, D3.out⟩
          case measure => have := HJ.out; simp only [intOf]; omega
      · obtain rfl : j = N := by omega
        have hij := D.ij
        have x1 : x < c := by omega
        have x2 : (x : Int) ≤ (c : Int) := by omega
        have x3 : (x : Int) ≤ (j : Int) := by omega
        obtain ⟨F', ha, r1, r2⟩ := D.arr
        have hcl := fun ty cc => run_clear_puts (o := o + x * 2) (n := j - x) ha (by have := HL.out; have := HN.out; omega) (by omega) cc ty
        obtain ⟨F2, ha2, hF2⟩ := arr_out ((Builtin.zeroCells #[.int .u64 0, .int .i64 0] (j - x)).toList) (o + x * 2) _ _ ha
        have EF : P.take j = P := by have := HN.out; rw [← this, List.take_length]
        have IL : (P.filter (live M)).length = x := by have := D.il; rwa [EF] at this
        have FIN := Lib.hid (show DelP (.slice (some ⟨g, o, none⟩) j c) P M w (.returned (.slice (some ⟨g, o, none⟩) x c)) (wr.setCells g (o + x * 2) (Builtin.zeroCells #[.int .u64 0, .int .i64 0] (j - x)).toList) from by
          refine ⟨some ⟨g, o, none⟩, c, by rw [IL], .inr ⟨g, o, c, L, F2, rfl, ha2, by omega, HMX.out, HLT.out.2, fun y q hy => ?_⟩, fun k e => e, ?_⟩
          · have hyl := (List.getElem?_eq_some_iff.1 hy).1
            rw [← EF] at hy
            obtain ⟨e1, e2⟩ := r1 y q hy
            exact ⟨by rw [hF2 _ (by omega), e1], by rw [hF2 _ (by omega), e2]⟩
          · exact ((D.kp.trans (Keeps.setCells g _ _ wr) (fun n hn => .inl hn))).mono (fun n hn e => by rw [e]; rfl))
        generalize (Builtin.zeroCells #[.int .u64 0, .int .i64 0] (j - x)).toList = zs at *
        clear D hj1 hij hj ha r1 r2 ha2 hF2 IL EF
        go_wp2
        go_ret
        exact FIN.out
end

end Go.Proofs.YtbgknopjgohocaaGreat
