/- DevCrashes. -/
import Derived.Test.YtlfeglnacphhlaaPl
import Derived.Deep.CutBlock
import Derived.Test.YtlfeglnacphhlaaRd
namespace Go.Proofs.Ytlfeglnacphhlaa
open Go.RowKit Go.Maps
set_option linter.unusedVariables false

theorem cf_any (s : DS) (fs : List Int) : (crashL s (fitL (looseL s) fs)).any (badF s) = false := by
  have h := cf_ok s fs
  unfold crashE at h
  split at h
  · omega
  · split at h
    · omega
    · rename_i h2; simpa using h2

/-- Behind a crash a sector is as it was fixed, or as one of its loose writes says. -/
theorem crash_one (s : DS) (i : Nat) : ∀ (l : List (Nat × Int)) (x : (Nat → ByteArray) × (Nat → Bool)), (∀ y, y ∈ l → badF s y = false) → (x.1 i = s.fixed i ∨ x.1 i ∈ s.loose i) → ((l.foldl (crashG s) x).1 i = s.fixed i ∨ (l.foldl (crashG s) x).1 i ∈ s.loose i)
  | [], x, _, h => h
  | y :: l, x, hb, h => by
    refine crash_one s i l (crashG s x y) (fun z hz => hb z (List.mem_cons_of_mem _ hz)) ?_
    unfold crashG
    by_cases f : 0 < y.2
    · rw [if_pos f]
      by_cases e : i = y.1
      · right
        simp only [if_pos e]
        have hy := hb y (List.mem_cons_self ..)
        unfold badF at hy
        rw [Bool.or_eq_false_iff] at hy
        have h2 : y.2 ≤ ((s.loose y.1).length : Int) := Int.not_lt.1 (of_decide_eq_false hy.2)
        have h3 : y.2.toNat - 1 < (s.loose y.1).length := by omega
        rw [List.getD_eq_getElem?_getD, List.getElem?_eq_getElem h3, e]
        exact List.getElem_mem h3
      · simp only [if_neg e]; exact h
    · rw [if_neg f]; exact h

theorem cf_one (s : DS) (fs : List Int) (i : Nat) : standsD (cfD s fs) i = s.fixed i ∨ standsD (cfD s fs) i ∈ s.loose i := by
  have e : standsD (cfD s fs) i = (crashS s (fitL (looseL s) fs) (fitL (looseL s) fs).length).1 i := rfl
  rw [e]
  unfold crashS
  exact crash_one s i _ _ (fun y hy => by
    have := (List.any_eq_false.1 (cf_any s fs)) y (List.mem_of_mem_take hy)
    simpa using this) (.inl rfl)

/-- Is an octet string found among those below k? -/
def fnd (l : List ByteArray) (fx st : ByteArray) : Nat → Bool
  | 0 => st.toList == fx.toList
  | k + 1 => fnd l fx st k || (st.toList == (l.getD k ByteArray.empty).toList)

theorem fnd_mono (l : List ByteArray) (fx st : ByteArray) (k : Nat) (h : fnd l fx st k = true) : ∀ n, fnd l fx st (k + n) = true
  | 0 => h
  | n + 1 => by
    show (fnd l fx st (k + n) || _) = true
    rw [fnd_mono l fx st k h n]; rfl

theorem fnd_all {l : List ByteArray} {fx st : ByteArray} (h : st = fx ∨ st ∈ l) : fnd l fx st l.length = true := by
  rcases h with h | h
  · have h0 : fnd l fx st 0 = true := toList_same h
    have := fnd_mono l fx st 0 h0 l.length
    rwa [Nat.zero_add] at this
  · obtain ⟨k, hk, e⟩ := List.getElem_of_mem h
    have h1 : fnd l fx st (k + 1) = true := by
      show (fnd l fx st k || _) = true
      rw [List.getD_eq_getElem?_getD, List.getElem?_eq_getElem hk]
      show (fnd l fx st k || (st.toList == (l[k]).toList)) = true
      rw [toList_same e.symm, Bool.or_true]
    have := fnd_mono l fx st (k + 1) h1 (l.length - (k + 1))
    rwa [show k + 1 + (l.length - (k + 1)) = l.length by omega] at this

theorem looseL_none {s : DS} (h : ∀ i, s.loose i = []) : looseL s = [] := by
  have : looseI s = [] := by
    apply List.eq_nil_iff_forall_not_mem.2
    intro i hi
    exact (mem_looseI.1 hi).2 (h i)
  unfold looseL
  rw [this]; rfl

/-- A device as it stands later. -/
theorem DevO.later {b p : Nat} {s : DS} {S : Nat → Prop} {w : World} (h : DevO b p s S w) (ho : Own S w) : ∃ R, ∀ W, Below w.heap.size w W → Dv W b p R s := by
  obtain ⟨R, hd, hi⟩ := h
  exact ⟨R, fun W b => hd.keep (T := fun j => w.heap.size ≤ j) hi (Keeps.of_below b) (fun j hj e => by have := ho j hj; omega)⟩

section
variable {w0 w w' : World} {t p q : Nat} {dd ee : Nat → Nat} {ps rs : PS} {s r : Nat → DS}

theorem RigO.crash (h : RigO w0 w t p q dd ee ps rs s r) {k : Nat} (hk : k < 2) {pn : Nat} {pp : PS} (hp : Pow w pn pp) (hl : (s k).lim ≤ 1000000) {v : Value} {fs : List Int} (hv : RdZ w v fs) (hfm : fs.length ≤ 9223372036854775807) (hok : crashE (s k) fs = 0) :
    Calls Try.prog 16 #[.pointer (some ⟨dd k, 0, none⟩), .pointer (some ⟨pn, 0, none⟩), v] w fun e w' => ∃ x, e = .returned (.tuple #[.pointer (some ⟨x, 0, none⟩), .int .i64 0]) ∧ (∃ R, ∀ W, Below w'.heap.size w' W → Dv W x pn R (crashD (s k) fs)) ∧ Below w.heap.size w w' := by
  obtain ⟨A, B, hr, hb⟩ := h
  refine (dv_crash (hr.dv k hk) (hr.oa k hk) hp hl hv hfm).mono fun e w' ⟨b, hc⟩ => ?_
  rcases hc with ⟨_, x, he, hx⟩ | ⟨h0, _⟩
  · exact ⟨x, he, hx.later (new_own _ _), b⟩
  · exact absurd hok h0

theorem flush_ok {s : DS} {ps : PS} (h : flushE ps = 0) : flushS s ps = flushD s := by
  unfold flushE at h
  unfold flushS
  split at h
  · omega
  · rename_i h1
    split at h
    · omega
    · rename_i h2
      rw [if_neg h1, if_neg h2]
end

theorem rdz_nil (w : World) : RdZ w (.slice none 0 0) [] := ⟨none, 0, rfl, fun h => absurd h (by simp)⟩
theorem crashE_nil (s : DS) : crashE s [] = 0 := by
  unfold crashE crashL
  rw [if_neg (by simp)]
  simp
theorem crashD_nil (s : DS) (i : Nat) : standsD (crashD s []) i = s.fixed i := rfl

theorem rdz_ints {w : World} {a : Option Addr} {len cap : Nat} {Z : Nat → Int} (h : IntsAt .i64 w a len Z) : RdZ w (.slice a len cap) ((List.range len).map Z) :=
  ⟨a, cap, by simp, fun h0 => by
    obtain ⟨b, off, ha, hc⟩ := h.2 (by simpa using h0)
    refine ⟨b, off, ha, fun j x hx => ?_⟩
    rw [List.getElem?_map] at hx
    have hj : j < len := by
      rcases Nat.lt_or_ge j len with h | h
      · exact h
      · rw [List.getElem?_eq_none (by simpa using h)] at hx; cases hx
    rw [List.getElem?_range hj] at hx
    simp at hx
    rw [← hx]; exact hc j hj⟩

set_option maxRecDepth 100000 in
set_option maxHeartbeats 8000000 in
theorem devCrashes_walk (n : Int) (a : Option Addr) (len cap : Nat) (X : Nat → ActV) (fv : Value) (fs : List Int) (w : World) (n0 : 0 ≤ n) (n1 : n ≤ 255) (ha : Act8 w a len X) (hl : len ≤ cap) (hcm : cap ≤ 9223372036854775807) (hz : RdZ w fv fs) (hzm : fs.length ≤ 9223372036854775807) :
    Calls Try.prog 4 #[.int .u8 n, .slice a len cap, fv] w fun e w' => e = .returned (.bool true) ∧ Below w.heap.size w w' := by
  have HA := Lib.hid ha
  have HZ := Lib.hid (And.intro hz hzm)
  have HL := Lib.hid (show len ≤ 9223372036854775807 by omega)
  obtain ⟨N, hN⟩ : ∃ N : Nat, n % 10 = (N : Int) := ⟨(n % 10).toNat, by omega⟩
  have hr : n.tmod 10 = (N : Int) := by rw [Int.tmod_eq_emod_of_nonneg n0]; exact hN
  have hN1 : (N : Int) < 10 := by omega
  have BG := Lib.hid (PlS.begin w N 1 (by omega) (by omega))
  clear ha hl hcm hN hz hzm
  go_enter Try.func4, Try.ntmps4
  go_wp2_with fail
  refine BG.out.mono ?_
  rintro e w1 ⟨t, rfl, P1⟩
  have P1 := Lib.hid P1
  clear BG hr
  go_upto_block 0 with fail
  go_cut [9] (fun u wx => ∃ j : Nat, j ≤ 30 ∧ PlS w wx t j)
  case first =>
    go_wp2_with fail
    go_loopw [9] (fun i wr => ∃ j : Nat, j ≤ len ∧ j ≤ 30 ∧ i = .int .i64 (j : Int) ∧ PlS w wr t j) (fun i _ => len - (intOf i).toNat)
    case atStart => exact ⟨0, Nat.zero_le _, Nat.zero_le _, rfl, P1.out⟩
    case round =>
      obtain ⟨j, hj, hj30, rfl, P⟩ := hrel
      have HP := Lib.hid P
      by_cases h1 : (j : Int) < (len : Int)
      · by_cases h2 : (j : Int) < 30
        · obtain ⟨b, off, rfl, hc⟩ := HA.out.cells (j := j) (by omega)
          obtain ⟨q0, q1, q2, q3, q4, q5, q6, q7, q8, q9, q10⟩ := hc wr P.old
          have HJ := Lib.hid (show j < 30 ∧ j + 1 ≤ len by omega)
          have DO := Lib.hid (P.do (HA.out.1 j (by omega)) (by omega))
          unfold argA at DO
          generalize (X j).kind = k0 at *
          generalize (X j).ofw = k1 at *
          generalize (X j).at_ = k2 at *
          generalize (X j).n = k3 at *
          generalize (X j).bit = k4 at *
          generalize (X j).turn = k5 at *
          generalize (X j).a = k6 at *
          generalize (X j).b = k7 at *
          generalize (X j).fill = k8 at *
          generalize (X j).size = k9 at *
          generalize (X j).fv = k10 at *
          clear P hc
          go_wp2_with fail
          refine DO.out.mono ?_
          rintro e w2 ⟨rfl, P2⟩
          have P3 := Lib.hid P2
          clear DO P2 q0 q1 q2 q3 q4 q5 q6 q7 q8 q9 q10
          go_wp2
          go_roundw
          case rel => exact ⟨j + 1, HJ.out.2, HJ.out.1, by simp, P3.out⟩
          case measure => have := HJ.out.2; simp only [intOf]; omega
        · have h3 : decide ((j : Int) < 30) = false := decide_eq_false h2
          have J30 := Lib.hid hj30
          clear HA P h2 hj30
          go_wp2_with fail
          go_meet
          exact ⟨j, J30.out, HP.out⟩
      · have h3 : decide (j < len) = false := decide_eq_false (by omega)
        have J30 := Lib.hid hj30
        clear HA P h1 hj30
        go_wp2_with fail
        go_meet
        exact ⟨j, J30.out, HP.out⟩
  case rest =>
    obtain ⟨j, hj, p, q, dd, ee, ps, s, R, hlim⟩ := hcut
    have LIM := Lib.hid (show (s 0).lim ≤ 1000000 by have := hlim 0 (by omega); omega)
    have HR := Lib.hid R
    have cd := R.topc 1 (by omega)
    have ce := R.topc 4 (by omega)
    simp only [twF] at cd ce
    have NP := Lib.hid (show ∀ m, Calls Try.prog 17 #[] (wc.drewN m) fun e w' => e = .returned (.pointer (some ⟨wc.heap.size, 0, none⟩)) ∧ Pow w' wc.heap.size newP ∧ Below (wc.drewN m).heap.size (wc.drewN m) w' from fun m => (pow_new (wc.drewN m)).mono (fun _ _ ⟨a, b, c, _⟩ => ⟨a, b, c⟩))
    have R1 := Lib.hid (fun m => R.below (below_drewN (Below.refl wc.heap.size wc) m))
    have HJ := Lib.hid hlim
    clear R hlim hj
    go_wp2_with fail
    go_quiet (fail)
    clear cd ce
    go_wp2_with fail
    refine (NP.out _).mono ?_
    rintro e w2 ⟨rfl, hp2, b2⟩
    have R2 := (R1.out nq).below b2
    obtain ⟨RD, G, LV, BO⟩ := R2.both (k := 0) (by omega)
    have LO := Lib.hid (rv_loose (BO w2 (Below.refl _ _)).2 LIM.out)
    have N1 := Lib.hid (BO w2 (Below.refl _ _)).1.n1
    have LN := Lib.hid (show (looseL (s 0)).length ≤ 4096 ∧ (∀ x, x ∈ looseL (s 0) → x.2 ≤ 1000000) ∧ (fitL (looseL (s 0)) fs).length ≤ 9223372036854775807 by
      have hrv := (BO w2 (Below.refl _ _)).2
      refine ⟨?_, fun x hx => ?_, by have := fit_len (s := s 0) fs hrv.n1; omega⟩
      · have := looseI_n (s 0); have := hrv.n1; simp only [looseL, List.length_map]; omega
      · unfold looseL at hx
        obtain ⟨i, hi, rfl⟩ := List.mem_map.1 hx
        have := hrv.ll i (mem_looseI.1 hi).1
        have := LIM.out
        simp only; omega)
    have HR2 := Lib.hid R2
    have HP2 := Lib.hid hp2
    have HBO := Lib.hid BO
    clear R2 hp2 b2 BO NP R1 HR
    generalize wc.heap.size = pn at *
    generalize hd0 : dd 0 = d0 at *
    generalize he0 : ee 0 = e0 at *
    have HDE := Lib.hid (And.intro hd0 he0)
    clear hd0 he0
    go_wp2_with fail
    refine LO.out.mono ?_
    rintro e w3 ⟨u, rfl, hr3, b3, -⟩
    have FI := Lib.hid (fit_any hr3 (HZ.out.1.old (HR2.out.old.trans (b3.mono HR2.out.old.size))) LN.out.1 LN.out.2.1 HZ.out.2)
    have B3 := Lib.hid b3
    clear hr3 b3 LO
    go_wp2_with fail
    refine FI.out.mono ?_
    rintro e w4 ⟨v4, rfl, hz4, b4⟩
    have b34 := B3.out.trans (b4.mono B3.out.size)
    have CR := (HR2.out.below b34).crash (k := 0) (by omega) (HP2.out.below b34 HP2.out.top.lt) LIM.out hz4 LN.out.2.2 (cf_ok _ _)
    rw [HDE.out.1] at CR
    replace CR := Lib.hid CR
    have B34 := Lib.hid b34
    clear hz4 b4 b34 FI B3 LN
    go_wp2_with fail
    refine CR.out.mono ?_
    rintro e w5 ⟨x, rfl, ⟨RX, hx⟩, b5⟩
    have B5 := Lib.hid (B34.out.trans (b5.mono B34.out.size))
    have HX := Lib.hid hx
    clear hx b5 CR B34
    have ADV := Lib.hid (fun W (b : Below w5.heap.size w5 W) => And.intro (HBO.out W (B5.out.trans (b.mono B5.out.size))).2 (HX.out W b))
    have ONE := Lib.hid (fun i => cf_one (s 0) fs i)
    have NX : (cfD (s 0) fs).n = (s 0).n := rfl
    have n0 : (0 : Int) ≤ ((s 0).n : Int) := by omega
    have n1 : ((s 0).n : Int) ≤ 4096 := by have := N1.out; omega
    have HNX := Lib.hid NX
    clear HX NX
    unfold cfD at ONE HNX
    generalize crashD (s 0) (fitL (looseL (s 0)) fs) = sx at *
    generalize hs0 : s 0 = s0 at *
    have HS0 := Lib.hid hs0
    clear hs0
    go_upto_block 2 with fail
    go_cut [14] (fun u wx => Below w5.heap.size w5 wx)
    case first =>
      go_wp2_with fail
      go_loopw [14] (fun i wr => ∃ j : Nat, j ≤ s0.n ∧ i = .int .i64 (j : Int) ∧ Below w5.heap.size w5 wr) (fun i _ => s0.n - (intOf i).toNat)
      case atStart => exact ⟨0, Nat.zero_le _, rfl, Below.refl _ _⟩
      case round =>
        obtain ⟨j, hj, rfl, b⟩ := hrel
        have c1 := (ADV.out wr b).1.c1
        have HB := Lib.hid b
        by_cases h1 : (j : Int) < (s0.n : Int)
        · have hj2 : j < s0.n := by omega
          have HK := Lib.hid hj2
          have j1 : (j : Int) ≤ 4096 := by omega
          have PK := dv_peek (ADV.out wr b).2 (j : Int)
          have hh : hasD sx (j : Int) := ⟨by omega, by rw [HNX.out]; omega⟩
          rw [show peekD sx (j : Int) = standsD sx j by unfold peekD; rw [if_pos hh]; rfl, decide_eq_true hh] at PK
          replace PK := Lib.hid PK
          clear b hj hj2 hh
          go_wp2_with fail
          refine PK.out.mono ?_
          rintro e w6 ⟨v, rfl, hv, b6⟩
          have b7 := HB.out.trans (b6.mono HB.out.size)
          have hcv : ∀ W, Below w6.heap.size w6 W → (convert 44 9 v).run Try.prog W = .ok (.string (standsD sx j)) W := fun W k => ((RdB.of_row hv).old k).str
          have HCV := Lib.hid hcv
          have cv : ∀ n, (convert 44 9 v).run Try.prog (w6.drewN n) = .ok (.string (standsD sx j)) (w6.drewN n) := fun n => hcv _ (below_drewN (Below.refl _ _) n)
          have c6 := (ADV.out w6 b7).1.c1
          have f0 := (ADV.out w6 b7).1.f0 HK.out
          have FA := Lib.hid (show fnd (s0.loose j) (s0.fixed j) (standsD sx j) (s0.loose j).length = true from fnd_all (ONE.out j))
          have LL := Lib.hid ((ADV.out w6 b7).1.ll j HK.out)
          obtain ⟨fb, hfb⟩ : ∃ fb, ((standsD sx j).toList == (s0.fixed j).toList) = fb := ⟨_, rfl⟩
          have HF0 := Lib.hid (show fnd (s0.loose j) (s0.fixed j) (standsD sx j) 0 = fb from hfb)
          have B7 := Lib.hid b7
          clear hv b7 b6 hcv PK c1
          have ADJ := Lib.hid (fun W (b : Below w6.heap.size w6 W) => ADV.out W (B7.out.trans (b.mono B7.out.size)))
          generalize hst : standsD sx j = st at *
          generalize hfx : s0.fixed j = fx at *
          have HFX := Lib.hid (And.intro hst hfx)
          clear hst hfx
          go_wp2_with fail
          go_quiet (fail)
          clear c6 f0 cv hfb
          go_wp2_with fail
          go_loopw [17, 18] (fun f i wr => ∃ k : Nat, k ≤ (s0.loose j).length ∧ f = .bool (fnd (s0.loose j) fx st k) ∧ i = .int .i64 (k : Int) ∧ Below w6.heap.size w6 wr) (fun _ i _ => (s0.loose j).length - (intOf i).toNat)
          case atStart => exact ⟨0, Nat.zero_le _, by rw [HF0.out], rfl, below_drewN (Below.refl _ _) _⟩
          case round =>
            obtain ⟨k, hk, rfl, rfl, bk⟩ := hrel
            have rv := (ADJ.out wr bk).1
            have c1 := rv.c1
            have f1 := rv.f1 HK.out
            obtain ⟨AL, cpl, hLV, hrd⟩ := (rv.lo j HK.out).open_
            rw [hLV] at f1
            have kl : ((s0.loose j).length : Int) ≤ 9223372036854775807 := by have := LL.out; have := LIM.out; omega
            have HBK := Lib.hid bk
            by_cases h2 : (k : Int) < ((s0.loose j).length : Int)
            · have hk2 : k < (s0.loose j).length := by omega
              obtain ⟨ga, rfl, hca⟩ := hrd (by omega)
              have q7 := hca k _ (List.getElem?_eq_getElem hk2)
              have ED : (s0.loose j).getD k ByteArray.empty = (s0.loose j)[k] := by rw [List.getD_eq_getElem?_getD, List.getElem?_eq_getElem hk2]; rfl
              rw [← ED] at q7
              have HK2 := Lib.hid hk2
              have HFS := Lib.hid (show fnd (s0.loose j) fx st (k + 1) = (fnd (s0.loose j) fx st k || (st.toList == ((s0.loose j).getD k ByteArray.empty).toList)) from rfl)
              have cv : ∀ n, (convert 44 9 v).run Try.prog (wr.drewN n) = .ok (.string st) (wr.drewN n) := fun n => HCV.out _ (below_drewN bk n)
              clear rv hrd hca ED hk hk2 bk hLV
              generalize (s0.loose j).getD k ByteArray.empty = lk at *
              generalize hM : (s0.loose j).length = M at *
              have HM := Lib.hid hM
              clear hM
              cases hff : fnd (s0.loose j) fx st k
              all_goals
                rw [hff] at HFS
                clear hff
                go_wp2_with fail
                go_quiet (fail)
                go_wp2
                go_roundw
                case rel => exact ⟨k + 1, HK2.out, by rw [HFS.out]; rfl, by simp, below_drewN HBK.out _⟩
                case measure => have := HK2.out; simp only [intOf]; omega
            · obtain rfl : k = (s0.loose j).length := by omega
              rw [FA.out]
              clear rv hrd hk bk hLV
              generalize (s0.loose j).length = M at *
              go_wp2
              go_roundw
              case rel => exact ⟨j + 1, HK.out, by simp, B7.out.trans (HBK.out.mono B7.out.size)⟩
              case measure => have := HK.out; simp only [intOf]; omega
        · clear b hj
          go_wp2_with fail
          go_meet
          exact HB.out
    case rest =>
      have b := hcut
      have R6 := HR2.out.below (B5.out.trans (b.mono B5.out.size))
      have OL6 := Lib.hid R6.old
      have FL := R6.flush (k := 0) (by omega)
      rw [HDE.out.1, HS0.out] at FL
      replace FL := Lib.hid FL
      clear R6 b hcut n0 n1
      go_wp2_with fail
      refine FL.out.mono ?_
      rintro e w7 ⟨rfl, R7⟩
      have HR7 := Lib.hid R7
      clear R7 FL
      by_cases hf : flushE ps = 0
      · rw [hf]
        have HF := Lib.hid hf
        have NP := Lib.hid (pow_new w7)
        clear hf
        go_wp2_with fail
        refine NP.out.mono ?_
        rintro e w8 ⟨rfl, hp8, b8, z8⟩
        have R8 := HR7.out.below b8
        have E8 : (if (0 : Nat) = 0 then flushS s0 ps else s 0) = flushD s0 := by rw [if_pos rfl]; exact flush_ok HF.out
        have CR := R8.crash (k := 0) (by omega) hp8 (by rw [E8]; exact LIM.out) (rdz_nil w8) (by decide) (crashE_nil _)
        obtain ⟨RD2, G2, LV2, BO2⟩ := R8.both (k := 0) (by omega)
        rw [E8, HDE.out.1] at CR
        replace CR := Lib.hid CR
        have HBO2 := Lib.hid (show ∀ W, Below w8.heap.size w8 W → Dv W d0 p RD2 (flushD s0) from fun W b => by have := (BO2 W b).1; rw [E8, HDE.out.1] at this; exact this)
        have OL8 := Lib.hid R8.old
        clear R8 hp8 b8 z8 NP BO2 E8
        generalize w7.heap.size = pn2 at *
        go_wp2_with fail
        refine CR.out.mono ?_
        rintro e w9 ⟨y, rfl, ⟨RY, hy⟩, b9⟩
        have OL9 := Lib.hid (OL8.out.trans (b9.mono OL8.out.size))
        have AD2 := Lib.hid (fun W (b : Below w9.heap.size w9 W) => And.intro (HBO2.out W (b9.trans (b.mono b9.size))) (hy W b))
        have NY := Lib.hid (show (crashD (flushD s0) []).n = s0.n ∧ (flushD s0).n = s0.n ∧ (∀ i, standsD (crashD (flushD s0) []) i = standsD s0 i) ∧ (∀ i, standsD (flushD s0) i = standsD s0 i) ∧ looseL (flushD s0) = [] ∧ looseL (crashD (flushD s0) []) = [] ∧ (flushD s0).lim ≤ 1000000 ∧ (crashD (flushD s0) []).lim ≤ 1000000 from
          ⟨rfl, rfl, fun i => rfl, fun i => rfl, looseL_none (fun i => rfl), looseL_none (fun i => rfl), LIM.out, LIM.out⟩)
        have NS := Lib.hid N1.out
        clear hy b9 CR HBO2
        generalize crashD (flushD s0) [] = sy at *
        generalize flushD s0 = sf at *
        go_wp2_with fail
        go_loopw [21] (fun i wr => ∃ j : Nat, j ≤ s0.n ∧ i = .int .i64 (j : Int) ∧ Below w9.heap.size w9 wr) (fun i _ => s0.n - (intOf i).toNat)
        case atStart => exact ⟨0, Nat.zero_le _, rfl, Below.refl _ _⟩
        case round =>
          obtain ⟨j, hj, rfl, b⟩ := hrel
          have SZ := dv_size (AD2.out wr b).1
          rw [NY.out.2.1] at SZ
          replace SZ := Lib.hid SZ
          have HB := Lib.hid b
          have PD := dv_peek (AD2.out wr b).1 (j : Int)
          have LOd := Lib.hid (dv_loose (AD2.out wr b).1 NY.out.2.2.2.2.2.2.1)
          rw [NY.out.2.2.2.2.1] at LOd
          clear b
          by_cases h1 : (j : Int) < (s0.n : Int)
          · have hj2 : j < s0.n := by omega
            have HK := Lib.hid hj2
            have j1 : (j : Int) ≤ 4096 := by have := NS.out; have := N1.out; omega
            have hh : hasD sf (j : Int) := ⟨by omega, by rw [NY.out.2.1]; omega⟩
            have hh2 : hasD sy (j : Int) := ⟨by omega, by rw [NY.out.1]; omega⟩
            rw [show peekD sf (j : Int) = standsD s0 j by unfold peekD; rw [if_pos hh]; exact NY.out.2.2.2.1 j, decide_eq_true hh] at PD
            replace PD := Lib.hid PD
            have HH2 := Lib.hid hh2
            clear hj hj2 hh hh2 LOd
            go_wp2_with fail
            refine SZ.out.mono ?_
            rintro e w' ⟨rfl, rfl⟩
            go_wp2_with fail
            refine PD.out.mono ?_
            rintro e w10 ⟨v1, rfl, hv1, b10⟩
            have b11 := HB.out.trans (b10.mono HB.out.size)
            have PY := dv_peek (AD2.out w10 b11).2 (j : Int)
            rw [show peekD sy (j : Int) = standsD s0 j by unfold peekD; rw [if_pos HH2.out]; exact NY.out.2.2.1 j, decide_eq_true HH2.out] at PY
            replace PY := Lib.hid PY
            have V1 := Lib.hid (RdB.of_row hv1)
            have B11 := Lib.hid b11
            clear hv1 b10 b11 PD SZ
            go_wp2_with fail
            refine PY.out.mono ?_
            rintro e w12 ⟨v2, rfl, hv2, b12⟩
            have cv1 : (convert 44 9 v1).run Try.prog w12 = .ok (.string (standsD s0 j)) w12 := (V1.out.old b12).str
            have cv2 : (convert 44 9 v2).run Try.prog w12 = .ok (.string (standsD s0 j)) w12 := (RdB.of_row hv2).str
            have B12 := Lib.hid (B11.out.trans (b12.mono B11.out.size))
            clear hv2 b12 PY
            generalize standsD s0 j = st at *
            go_wp2
            go_roundw
            case rel => exact ⟨j + 1, HK.out, by simp, B12.out⟩
            case measure => have := HK.out; simp only [intOf]; omega
          · clear hj PD
            go_wp2_with fail
            refine SZ.out.mono ?_
            rintro e w' ⟨rfl, rfl⟩
            go_wp2_with fail
            refine LOd.out.mono ?_
            rintro e w10 ⟨v1, rfl, hl1, b10, -⟩
            obtain ⟨A1, c1, rfl, -⟩ := hl1.open_
            have b11 := HB.out.trans (b10.mono HB.out.size)
            have LOy := dv_loose (AD2.out w10 b11).2 NY.out.2.2.2.2.2.2.2
            rw [NY.out.2.2.2.2.2.1] at LOy
            replace LOy := Lib.hid LOy
            have B11 := Lib.hid b11
            clear hl1 b10 b11 LOd SZ
            go_wp2_with fail
            refine LOy.out.mono ?_
            rintro e w12 ⟨v2, rfl, hl2, b12, -⟩
            obtain ⟨A2, c2, rfl, -⟩ := hl2.open_
            have B12 := B11.out.trans (b12.mono B11.out.size)
            have AW := Lib.hid (law_awake w12)
            have OL := Lib.hid (OL9.out.trans (B12.mono OL9.out.size))
            clear hl2 b12 LOy B12
            go_wp2_with fail
            refine AW.out.mono ?_
            rintro e w13 ⟨rfl, b13⟩
            have OL := Lib.hid (OL.out.trans (b13.mono OL.out.size))
            clear b13
            go_wp2_with fail
            go_ret
            exact ⟨rfl, OL.out⟩
      · have e1 : (flushE ps == 0) = false := by simpa using hf
        have AW := Lib.hid (law_awake w7)
        have OL := Lib.hid HR7.out.old
        clear hf
        generalize flushE ps = v1 at *
        go_wp2_with fail
        refine AW.out.mono ?_
        rintro e w13 ⟨rfl, b13⟩
        have OL := Lib.hid (OL.out.trans (b13.mono OL.out.size))
        clear b13
        go_wp2_with fail
        go_ret
        exact ⟨rfl, OL.out⟩

end Go.Proofs.Ytlfeglnacphhlaa
