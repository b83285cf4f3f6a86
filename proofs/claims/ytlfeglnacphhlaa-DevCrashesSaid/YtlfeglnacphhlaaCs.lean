/- The program's device: Crash, where all fates may be. -/
import Derived.Test.YtlfeglnacphhlaaCr
namespace Go.Proofs.Ytlfeglnacphhlaa
open Go.RowKit Go.Maps
set_option linter.unusedVariables false

theorem rotM_some {s : DS} {x : Int} (h : (rotM s x).isSome = true) : 0 ≤ x ∧ x < (s.n : Int) ∧ s.rot x.toNat = true := by
  unfold rotM at h
  split at h
  · assumption
  · cases h
theorem rotM_in {s : DS} {i : Nat} (hi : i < s.n) : (rotM s (i : Int)).isSome = s.rot i := by
  unfold rotM
  cases hr : s.rot i
  · rw [if_neg (by simp [hr])]; rfl
  · rw [if_pos ⟨by omega, by omega, by simpa using hr⟩]; rfl
theorem rotM_val {s : DS} {x : Int} (h : (rotM s x).isSome = true) : rotM s x = some (.int .i64 1) := by
  unfold rotM at h ⊢
  split at h
  · rw [if_pos (by assumption)]
  · cases h

section
variable {w : World} {b p q : Nat} {R : DR} {s : DS} {ps : PS} {S : Nat → Prop} {v : Value} {fs : List Int}

/-- A loose write. -/
theorem Dv.at (h : Dv w b p R s) {i j : Nat} (hi : i < s.n) (hj : j < (s.loose i).length) : ∃ g cap gv cv, R.LV i = .slice (some ⟨g, 0, none⟩) (s.loose i).length cap ∧
    w.cell? ⟨g, j, none⟩ = some (.slice (some ⟨gv, 0, none⟩) 64 cv) ∧ Byt w (.slice (some ⟨gv, 0, none⟩) 64 cv) ((s.loose i).getD j ByteArray.empty) := by
  have hlo := h.lo i hi
  rcases hlo.2 with ⟨hv, h0⟩ | ⟨g, cap, cur, hv, -, hb, hc, hm, -, -⟩
  · omega
  · obtain ⟨c, hcc⟩ : ∃ c, (s.loose i)[j]? = some c := ⟨_, List.getElem?_eq_getElem hj⟩
    obtain ⟨u, hv1, hB⟩ := h.lb i hi j c hcc
    rw [hv] at hlo
    have cL : w.cell? ⟨g, j, none⟩ = some u := by
      have := hlo.cells (g := g) rfl j u hv1
      rw [addr_add] at this; simpa using this
    have e : (s.loose i).getD j ByteArray.empty = c := by rw [List.getD_eq_getElem?_getD, hcc]; rfl
    rw [e]
    obtain ⟨gv, cv, curv, fv, e3, _⟩ := id hB
    subst e3
    exact ⟨g, cap, gv, cv, hv, cL, hB⟩

/-- On the way: a new device beside the elder one. -/
structure CrW (w2 wr : World) (b p q : Nat) (R : DR) (s : DS) (nr : Nat) (C : Nat → ByteArray) (rot : Nat → Bool) : Prop where
  old : Below w2.heap.size w2 wr
  d : Dv wr b p R s
  x : DvX wr w2.heap.size q s.n nr C rot
  sz : w2.heap.size + 4 + s.n ≤ wr.heap.size

theorem CrW.keep {w2 wr w3 : World} {nr : Nat} {C : Nat → ByteArray} {rot : Nat → Bool} (h : CrW w2 wr b p q R s nr C rot) (hd : Dv w2 b p R s) (inn : DvIn b R s S) (ow : Own S w2) (k : Keeps (fun j => w2.heap.size + 4 + s.n ≤ j) wr w3) : CrW w2 w3 b p q R s nr C rot :=
  ⟨h.old.trans ((k.mono (T := fun j => w2.heap.size ≤ j) (fun n _ e => by omega)).below h.old.size), h.d.keep inn k (fun j hj e => by have := ow j hj; omega), h.x.keep k (fun j h1 h2 e => by omega), Nat.le_trans h.sz k.size⟩

theorem CrW.drew {w2 wr : World} {nr : Nat} {C : Nat → ByteArray} {rot : Nat → Bool} (h : CrW w2 wr b p q R s nr C rot) : CrW w2 wr.drew b p q R s nr C rot :=
  ⟨h.old.drew, h.d.drewN 1, h.x.keep ((Keeps.refl (fun _ => False) wr).drew) (fun _ _ _ x => x), h.sz⟩

/-- A row is copied. -/
theorem CrW.copy {w2 wr w3 : World} {nr i : Nat} {C : Nat → ByteArray} {rot : Nat → Bool} {c : ByteArray} (h : CrW w2 wr b p q R s nr C rot) (inn : DvIn b R s S) (ow : Own S w2) (hi : i < s.n) (hc : c.size = 64)
    (ha : Arr w3 (w2.heap.size + 4 + i) 5 64 (octF c)) (k : Keeps (fun j => j = w2.heap.size + 4 + i) wr w3) : CrW w2 w3 b p q R s nr (fun j => if j = i then c else C j) rot :=
  ⟨h.old.trans ((k.mono (T := fun j => w2.heap.size ≤ j) (fun n _ e => by omega)).below h.old.size), h.d.keep inn k (fun j hj e => by have := ow j hj; omega), h.x.copy hi hc ha k, Nat.le_trans h.sz k.size⟩

/-- The rotten ones turn. -/
theorem CrW.turn {w2 wr w3 : World} {nr nr' : Nat} {C : Nat → ByteArray} {rot rot' : Nat → Bool} {M : Int → Option Value} (h : CrW w2 wr b p q R s nr C rot) (inn : DvIn b R s S) (ow : Own S w2)
    (hm : IMap w3 (w2.heap.size + 2) nr' M) (hM : ∀ x, M x = rotM ⟨s.n, C, fun _ => [], rot', 0, 0, nr'⟩ x) (ht : wr.mapTurned w3 (w2.heap.size + 2)) : CrW w2 w3 b p q R s nr' C rot' := by
  have k := keeps_turned ht
  exact ⟨h.old.trans ((k.mono (T := fun j => w2.heap.size ≤ j) (fun n _ e => by omega)).below h.old.size), h.d.keep inn k (fun j hj e => by have := ow j hj; omega), h.x.turnR hm hM ht, Nat.le_trans h.sz k.size⟩

theorem CrW.cells {w2 wr : World} {nr : Nat} {C : Nat → ByteArray} {rot : Nat → Bool} (h : CrW w2 wr b p q R s nr C rot) :
    wr.cell? ⟨w2.heap.size + 3, 1, none⟩ = some (.slice (some ⟨w2.heap.size, 0, none⟩) s.n s.n) ∧ wr.cell? ⟨w2.heap.size + 3, 3, none⟩ = some (.map (some (w2.heap.size + 2))) ∧
    wr.cell? ⟨b, 1, none⟩ = some (.slice (some ⟨R.F, 0, none⟩) s.n s.n) ∧ wr.cell? ⟨b, 2, none⟩ = some (.map (some R.m)) ∧ wr.cell? ⟨b, 3, none⟩ = some (.map (some R.r)) :=
  ⟨h.x.top.cell (i := 1) (by omega), h.x.top.cell (i := 3) (by omega), h.d.c1, h.d.c2, h.d.c3⟩
theorem CrW.row {w2 wr : World} {nr i : Nat} {C : Nat → ByteArray} {rot : Nat → Bool} (h : CrW w2 wr b p q R s nr C rot) (hi : i < s.n) :
    wr.cell? ⟨w2.heap.size, i, none⟩ = some (.slice (some ⟨w2.heap.size + 4 + i, 0, none⟩) 64 64) := h.x.fx.cell hi
theorem CrW.fixed {w2 wr : World} {nr i : Nat} {C : Nat → ByteArray} {rot : Nat → Bool} (h : CrW w2 wr b p q R s nr C rot) (hi : i < s.n) :
    ∃ gv cv, wr.cell? ⟨R.F, i, none⟩ = some (.slice (some ⟨gv, 0, none⟩) 64 cv) ∧ Byt wr (.slice (some ⟨gv, 0, none⟩) 64 cv) (s.fixed i) := by
  have hB := h.d.fb i hi
  have hc := h.d.fx.cell hi
  obtain ⟨gv, cv, curv, fv, e3, _⟩ := id hB
  rw [e3] at hB hc
  exact ⟨gv, cv, hc, hB⟩

set_option maxRecDepth 100000 in
set_option maxHeartbeats 8000000 in
theorem dv_crash3 (h : DevO b p s S w) (ow : Own S w) (hq : Pow w q ps) (hl : s.lim ≤ 1000000) (hv : RdZ w v fs) (hlong : fs.length ≤ (looseI s).length) (hok : (crashL s fs).any (badF s) = false) :
    Calls Try.prog 16 #[.pointer (some ⟨b, 0, none⟩), .pointer (some ⟨q, 0, none⟩), v] w fun e w' => ∃ x, e = .returned (.tuple #[.pointer (some ⟨x, 0, none⟩), .int .i64 0]) ∧ DevO x q (crashD s fs) (New w w') w' ∧ Below w.heap.size w w' := by
  obtain ⟨R, h, inn⟩ := h
  have RR := Lib.hid (dv_real h)
  have RP := Lib.hid (pow_real hq)
  have LO := Lib.hid (dv_loose h hl)
  have HV := Lib.hid hv
  obtain ⟨A, ca, rfl, hA⟩ := hv.open_
  have hll : ¬ (looseL s).length < fs.length := by simp only [looseL, List.length_map]; omega
  have e1 : decide (((looseL s).length : Int) < (fs.length : Int)) = false := decide_eq_false (by omega)
  have e2 : decide ((looseL s).length < fs.length) = false := decide_eq_false hll
  have HOK := Lib.hid (fun (j : Nat) x (hj : (crashL s fs)[j]? = some x) => (List.any_eq_false.1 hok) x (List.mem_of_getElem? hj))
  have HLONG := Lib.hid hlong
  have HFS := Lib.hid (show fs.length ≤ 4096 by
    have h2 : (looseI s).length ≤ s.n := by
      unfold looseI
      exact Nat.le_trans (List.length_filter_le _ _) (by simp)
    have := h.n1; omega)
  have HA := Lib.hid hA
  have N1 := Lib.hid h.n1
  have SL := Lib.hid hl
  have FR := Lib.hid inn
  have QB := Lib.hid hq.top.lt
  have KD := Lib.hid (fun (W : World) (k : Below w.heap.size w W) => (⟨h.keep (T := fun j => w.heap.size ≤ j) inn (Keeps.of_below k) (fun j hj e => by have := ow j hj; omega), hq.below k hq.top.lt, ow.grow k.size⟩ : Dv W b p R s ∧ Pow W q ps ∧ Own S W))
  clear h hq hl hlong hok hv hA hll inn ow
  go_enter Try.func16, Try.ntmps16
  go_wp2_with fail
  refine RR.out.mono ?_
  rintro e w' ⟨rfl, rfl⟩
  go_wp2_with fail
  refine RP.out.mono ?_
  rintro e w' ⟨rfl, rfl⟩
  go_wp2_with fail
  refine LO.out.mono ?_
  rintro e w2 ⟨u, rfl, hr, hb, hg⟩
  have HR := Lib.hid hr
  have HG := Lib.hid hg
  obtain ⟨Al, cl, rfl, hL⟩ := hr.open_
  have B := Lib.hid hb
  have HL := Lib.hid hL
  obtain ⟨hd2, hq2, ho2⟩ := KD.out w2 hb
  have D2 := Lib.hid hd2
  have OW2 := Lib.hid ho2
  have c1 := hd2.c1
  have NW := Lib.hid (dv_new hq2 s.n N1.out)
  clear hr hb hg hL hd2 hq2 ho2 RR RP LO KD
  go_wp2
  go_loopw [35] (fun i wr => ∃ k : Nat, k ≤ fs.length ∧ i = .int .i64 (k : Int) ∧ wr = w2) (fun i _ => fs.length - (intOf i).toNat)
  case atStart => exact ⟨0, Nat.zero_le _, rfl, rfl⟩
  case round =>
    obtain ⟨k, hk, rfl, rfl⟩ := hrel
    by_cases hk4 : k < fs.length
    · obtain ⟨i, f, hi1, hf1, hx1, hl1, hin, hine⟩ := crashL_at hk4 HLONG.out
      obtain ⟨g, o, rfl, hcf⟩ := HA.out (by omega)
      obtain ⟨gl, rfl, hcl⟩ := HL.out (by have := HLONG.out; simp [looseL]; omega)
      have cf := (Keeps.of_below B.out).old (hcf k f hf1)
      have cl1 : wr.cell? ⟨gl, k * 2 + 1, none⟩ = some (.int .i64 ((s.loose i).length : Int)) := by rw [Nat.mul_comm]; exact (hcl k _ hl1).2
      have h1 : (k : Int) < (fs.length : Int) := by omega
      have h3 : (k : Int) ≤ 4096 := by have := HFS.out; omega
      have h2 : (k : Int) < ((looseL s).length : Int) := by have := HLONG.out; simp only [looseL, List.length_map]; omega
      have hg := HOK.out k _ hx1
      have hg2 : badF s (i, f) = false := by simpa using hg
      unfold badF at hg2
      rw [Bool.or_eq_false_iff] at hg2
      have HK := Lib.hid hk4
      clear hx1 hl1 hi1 hf1 hcf hcl hk hin hine hk4 hg
      generalize (s.loose i).length = M at *
      obtain ⟨d1, d2⟩ := hg2
      go_wp2
      go_roundw
      case rel => exact ⟨k + 1, HK.out, by simp, trivial⟩
      case measure => have := HK.out; simp only [intOf]; omega
    · have h1 : ¬ (k : Int) < (fs.length : Int) := by omega
      obtain rfl : k = fs.length := by omega
      clear hk hk4 h1
      go_wp2_with fail
      refine NW.out.mono ?_
      rintro e w3 ⟨rfl, hx3, hb3, z3⟩
      have X3 := Lib.hid (show CrW wr w3 b p q R s 0 (fun _ => zer 64) (fun _ => false) from ⟨hb3, D2.out.keep (T := fun j => wr.heap.size ≤ j) FR.out (Keeps.of_below hb3) (fun j hj e => by have := OW2.out j hj; omega), hx3, by omega⟩)
      have cb1 := X3.out.cells.2.2.1
      clear hx3 hb3 z3 NW
      generalize wr = w2 at *
      go_wp2
      go_loopw [70] (fun i wr => ∃ k : Nat, k ≤ s.n ∧ i = .int .i64 (k : Int) ∧ ∃ C, CrW w2 wr b p q R s 0 C (fun _ => false) ∧ ∀ j, j < k → C j = s.fixed j) (fun i _ => s.n - (intOf i).toNat)
      case atStart => exact ⟨0, Nat.zero_le _, rfl, _, X3.out, fun j hj => absurd hj (Nat.not_lt_zero j)⟩
      case round =>
        obtain ⟨k, hk, rfl, C, hx, hC⟩ := hrel
        by_cases hk4 : k < s.n
        · have h1 : (k : Int) < (s.n : Int) := by omega
          have h3 : (k : Int) ≤ 4096 := by have := N1.out; omega
          obtain ⟨q1, q2, q3, q4, q5⟩ := hx.cells
          have q6 := hx.row hk4
          obtain ⟨gv, cv, q7, hB⟩ := hx.fixed hk4
          have BY := Lib.hid (hB.keep ((Keeps.refl (fun _ => False) wr).drew) (fun _ _ x => x))
          have AR := Lib.hid ((hx.x.fb k hk4).1.drewN 1)
          have HX := Lib.hid hx
          have HC := Lib.hid hC
          have HK := Lib.hid hk4
          clear hx hC hB hk hk4
          go_wp2_with fail
          go_region_law (refine step_copy64 (by rfl) _ _ (by rfl) (by rfl) (by rfl) AR.out BY.out ?_; intro w5 ha5 k5 z5)
          all_goals
            have X5 := Lib.hid (HX.out.drew.copy FR.out OW2.out HK.out BY.out.size ha5 k5)
            clear ha5 k5 z5
            go_wp2
            go_roundw
            case rel =>
              refine ⟨k + 1, HK.out, by simp, _, X5.out, fun j hj => ?_⟩
              by_cases e : j = k
              · subst e; simp
              · simp only [if_neg e]; exact HC.out j (by omega)
            case measure => have := HK.out; simp only [intOf]; omega
        · have h1 : ¬ (k : Int) < (s.n : Int) := by omega
          obtain rfl : k = s.n := by omega
          have HX := Lib.hid hx
          have HC := Lib.hid hC
          have cb3 := hx.cells.2.2.2.2
          clear hx hC hk hk4 cb1
          generalize wr = w3 at *
          go_wp2_with (first
            | (at_range; refine wpList_range_v (b := R.r) (n := R.nr) (k := 3) (q := .i64) (R := plainElem Try.prog 3) (M := rotM s) rfl _ rfl Try.underlying3 Try.underlying70 rfl HX.out.d.rm ?_; intro w4 hr4 k4 z4)
            | go_in)
          (try go_frame)
          have X4 := Lib.hid (HX.out.keep D2.out FR.out OW2.out (k4.mono (fun _ _ x => x.elim)))
          have R4 := Lib.hid hr4
          have IT := Lib.hid HX.out.sz
          have RB := Lib.hid D2.out.rm.lt
          clear hr4 k4 z4 h1 cb3
          go_loopw [14] (fun _ wr => ∃ L c nr C rot, RangeV Try.prog 3 .i64 (plainElem Try.prog 3) wr R.r w3.heap.size R.nr (rotM s) L c ∧ (∀ x, L x = true → (rotM s x).isSome = true) ∧ CrW w2 wr b p q R s nr C rot ∧ (∀ i, i < s.n → C i = s.fixed i ∧ rot i = (s.rot i && !L (i : Int))) ∧ nr + c ≤ R.nr) (fun _ wr => wr.rangeLeft R.r w3.heap.size)
          case atStart => exact ⟨_, _, _, _, _, R4.out, fun x hx => hx, X4.out, fun i hi => ⟨HC.out i hi, by rw [rotM_in hi]; cases s.rot i <;> rfl⟩, by omega⟩
          case round =>
            obtain ⟨L, c, nr, C, rot, hr, hlo, hx, hC, hn⟩ := hrel
            have RG := Lib.hid hr
            have HX := Lib.hid hx
            have HC := Lib.hid hC
            have HN := Lib.hid hn
            have LO := Lib.hid hlo
            clear hr hlo hx hC hn
            go_wp2_with (first
              | (at_next; refine wpList_next_v (k := 3) (q := .i64) (R := plainElem Try.prog 3) rfl _ rfl Try.underlying3 (plain_told Try.underlying3) rfl RG.out (fun _ => .int .i64 1) (fun x hx => (rotM_some (LO.out x hx)).1) (fun i hi => rotM_val (LO.out _ hi)) ?_ ?_)
              | go_in)
            · intro hc hl
              have HC2 := Lib.hid (show ∀ i, i < s.n → C i = (crashS s fs 0).1 i ∧ rot i = (crashS s fs 0).2 i from fun i hi => by
                obtain ⟨h1, h2⟩ := HC.out i hi
                rw [hl _ (WalkArith.wf_i64 (by have := N1.out; omega))] at h2
                exact ⟨h1, by rw [h2]; simp [crashS]⟩)
              have HN2 := Lib.hid (show nr ≤ R.nr by have := HN.out; omega)
              clear hc hl HC HN LO RG
              generalize wr = w5 at *
              go_wp2
              go_loopw [105] (fun i wr => ∃ k : Nat, k ≤ fs.length ∧ i = .int .i64 (k : Int) ∧ ∃ nr C rot, CrW w2 wr b p q R s nr C rot ∧ (∀ i, i < s.n → C i = (crashS s fs k).1 i ∧ rot i = (crashS s fs k).2 i) ∧ nr ≤ R.nr) (fun i _ => fs.length - (intOf i).toNat)
              case atStart => exact ⟨0, Nat.zero_le _, rfl, _, _, _, HX.out, HC2.out, HN2.out⟩
              case round =>
                obtain ⟨k, hk, rfl, nr, C, rot, hx, hC, hn⟩ := hrel
                by_cases hk4 : k < fs.length
                · obtain ⟨i, f, hi1, hf1, hx1, hl1, hin, hine⟩ := crashL_at hk4 HLONG.out
                  obtain ⟨g, o, rfl, hcf⟩ := HA.out (by omega)
                  obtain ⟨gl, rfl, hcl⟩ := HL.out (by have := HLONG.out; simp [looseL]; omega)
                  have cf := (Keeps.of_below (B.out.trans (hx.old.mono B.out.size))).old (hcf k f hf1)
                  have cl1 : wr.cell? ⟨gl, k * 2, none⟩ = some (.int .i64 (i : Int)) := by rw [Nat.mul_comm]; exact (Keeps.of_below hx.old).old (hcl k _ hl1).1
                  have h1 : (k : Int) < (fs.length : Int) := by omega
                  have h3 : (k : Int) ≤ 4096 := by have := HFS.out; omega
                  have h2 : (k : Int) < ((looseL s).length : Int) := by have := HLONG.out; simp only [looseL, List.length_map]; omega
                  have hg := HOK.out k _ hx1
                  have hg2 : badF s (i, f) = false := by simpa using hg
                  unfold badF at hg2
                  rw [Bool.or_eq_false_iff] at hg2
                  have hs := crashS_succ hx1
                  have f0 : ¬ f < 0 := of_decide_eq_false hg2.1
                  have f1 : f ≤ ((s.loose i).length : Int) := Int.not_lt.1 (of_decide_eq_false hg2.2)
                  have HK := Lib.hid hk4
                  have HX := Lib.hid hx
                  have HC := Lib.hid hC
                  have HN := Lib.hid hn
                  by_cases fp : 0 < f
                  · obtain ⟨j, rfl⟩ : ∃ j : Nat, f = (j : Int) + 1 := ⟨f.toNat - 1, by omega⟩
                    have hj : j < (s.loose i).length := by omega
                    obtain ⟨ga, cap, gv, cv, hLV, q7, hB⟩ := hx.d.at hin hj
                    have LK := hx.drew.d.look i hin
                    rw [hLV] at LK
                    have d1 : decide (0 < (j : Int) + 1) = true := decide_eq_true (by omega)
                    obtain ⟨q1, q2, q3, q4, q5⟩ := hx.cells
                    have q6 := hx.row hin
                    have i1 : (i : Int) < (s.n : Int) := by omega
                    have i2 : (j : Int) < ((s.loose i).length : Int) := by omega
                    have i4 : (j : Int) ≤ 1000000 := by have := D2.out.ll i hin; have := SL.out; omega
                    have BY := Lib.hid (hB.keep ((Keeps.refl (fun _ => False) wr).drew) (fun _ _ x => x))
                    have AR := Lib.hid ((hx.x.fb i hin).1.drewN 1)
                    have HS := Lib.hid (show crashS s fs (k + 1) = (fun a => if a = i then (s.loose i).getD j ByteArray.empty else (crashS s fs k).1 a, fun a => if a = i then false else (crashS s fs k).2 a) by
                      rw [hs]; unfold crashG; rw [if_pos (show (0 : Int) < (j : Int) + 1 by omega)]; rfl)
                    have wj : IntKind.i64.wrap (j : Int) = (j : Int) := by simp [IntKind.wrap, IntKind.bits, IntKind.signed]; omega
                    have HIN := Lib.hid hin
                    have wi := WalkArith.wf_i64 (n := (i : Int)) (by have := N1.out; omega)
                    clear hx1 hl1 hi1 hf1 hcf hcl hk hine hk4 hg hg2 hs f0 f1 hx hC hn hB hLV fp hj hin
                    generalize (s.loose i).length = M at *
                    go_wp2_with fail
                    go_region_law (refine step_copy64 (by rfl) _ _ (by rfl) (by rfl) (by rfl) AR.out BY.out ?_; intro w6 ha6 k6 z6)
                    all_goals
                      have X6 := Lib.hid (HX.out.drew.copy FR.out OW2.out HIN.out BY.out.size ha6 k6)
                      have cx3 := X6.out.cells.2.1
                      clear ha6 k6 z6
                      go_wp2_with (first
                        | (at_delete; refine wpList_delete_v (b := w2.heap.size + 2) (n := nr) (k := 3) (q := .i64) (R := plainElem Try.prog 3) rfl _ _ rfl Try.underlying3 Try.underlying70 rfl X6.out.x.rm (i : Int) rfl wi ?_; intro w7 hm7 ht7)
                        | go_in)
                      have X7 := Lib.hid (X6.out.turn FR.out OW2.out hm7 (fun x => rotM_del i _ x) ht7)
                      clear hm7 ht7
                      (try go_frame)
                      go_wp2
                      go_roundw
                      case rel =>
                        refine ⟨k + 1, HK.out, by simp, _, _, _, X7.out, fun a ha => ?_, by have := HN.out; split <;> omega⟩
                        obtain ⟨h1, h2⟩ := HC.out a ha
                        rw [HS.out]
                        by_cases e : a = i
                        · subst e; simp
                        · simp only [if_neg e, h1, h2]; exact ⟨trivial, trivial⟩
                      case measure => have := HK.out; simp only [intOf]; omega
                  · have d1 : decide (0 < f) = false := decide_eq_false fp
                    have HS := Lib.hid (show crashS s fs (k + 1) = crashS s fs k by rw [hs]; unfold crashG; rw [if_neg fp])
                    clear hx1 hl1 hi1 hf1 hcf hcl hk hine hk4 hg hg2 hs f0 f1 hx hC hn fp hin
                    go_wp2
                    go_roundw
                    case rel => exact ⟨k + 1, HK.out, by simp, _, _, _, HX.out, fun a ha => by rw [HS.out]; exact HC.out a ha, HN.out⟩
                    case measure => have := HK.out; simp only [intOf]; omega
                · have h1 : ¬ (k : Int) < (fs.length : Int) := by omega
                  obtain rfl : k = fs.length := by omega
                  have HX := Lib.hid hx
                  have HC := Lib.hid hC
                  have HN := Lib.hid hn
                  clear hx hC hn hk hk4
                  go_wp2
                  go_ret2
                  have hx := HX.out
                  have hb := hx.old.mono B.out.size
                  refine ⟨_, rfl, (hx.x.agree (fun i hi => ((HC.out i hi).1).symm) (fun i hi => ((HC.out i hi).2).symm)).fin (Nat.le_trans HN.out D2.out.nr) _ (fun k h1 h2 => ⟨by have := B.out.size; omega, by have := hx.sz; omega⟩), B.out.trans hb⟩
            · intro i w5 c5 hwi hLi hr5 hlt k5 z5 hen
              have hin : i < s.n := by have := (rotM_some (LO.out _ hLi)).2.1; omega
              have hri : s.rot i = true := by have := (rotM_some (LO.out _ hLi)).2.2; simpa using this
              have X5 := Lib.hid (HX.out.keep D2.out FR.out OW2.out (k5.mono (T := fun j => w2.heap.size + 4 + s.n ≤ j) (fun n _ e => by have := IT.out; omega)))
              have cx3 := X5.out.cells.2.1
              have R5 := Lib.hid hr5
              have HIN := Lib.hid hin
              have HRI := Lib.hid hri
              have HLT := Lib.hid hlt
              have RE := Lib.hid RG.out.left_eq
              have NB := Lib.hid (show nr < maxLen by have := HN.out; have := D2.out.nr; have := SL.out; unfold maxLen; omega)
              clear hin hri hr5 hlt k5 z5 hLi
              go_wp2_with (first
                | (at_mapUpdate; refine wpList_update_v (b := w2.heap.size + 2) (n := nr) (k := 3) (q := .i64) (R := plainElem Try.prog 3) (M := rotM ⟨s.n, C, fun _ => [], rot, 0, 0, nr⟩) rfl _ _ _ rfl Try.underlying3 Try.underlying70 rfl X5.out.x.rm NB.out (i : Int) (.int .i64 1) rfl rfl hwi (plainElem_int Try.underlying3 (by decide)) ?_; intro w6 hm6 ht6)
                | go_in)
              have X6 := Lib.hid (X5.out.turn FR.out OW2.out hm6 (fun x => rotM_set HIN.out _ x) ht6)
              have R6 := Lib.hid (R5.out.keep (keeps_turned ht6) (fun e => by have := RB.out; omega) (fun e => by have := IT.out; omega))
              have NR6 := Lib.hid (show (if (rotM ⟨s.n, C, fun _ => [], rot, 0, 0, nr⟩ (i : Int)).isSome then nr else nr + 1) + c5 ≤ R.nr by have := HN.out; have := HLT.out; split <;> omega)
              clear hm6 ht6
              (try go_frame)
              go_roundw
              case rel =>
                refine ⟨_, _, _, _, _, R6.out, fun x hx => LO.out x (by simp at hx; exact hx.1), X6.out, fun j hj => ?_, NR6.out⟩
                obtain ⟨h1, h2⟩ := HC.out j hj
                refine ⟨h1, ?_⟩
                by_cases e : j = i
                · subst e; simp [HRI.out]
                · have e2 : ((j : Int) == (i : Int)) = false := by simp; omega
                  simp only [if_neg e, h2, e2, Bool.not_false, Bool.and_true]
              case measure => rw [R6.out.left_eq, RE.out]; exact HLT.out

theorem dv_crash (h : DevO b p s S w) (ow : Own S w) (hq : Pow w q ps) (hl : s.lim ≤ 1000000) (hv : RdZ w v fs) (hfm : fs.length ≤ 9223372036854775807) :
    Calls Try.prog 16 #[.pointer (some ⟨b, 0, none⟩), .pointer (some ⟨q, 0, none⟩), v] w fun e w' => Below w.heap.size w w' ∧
      ((crashE s fs = 0 ∧ ∃ x, e = .returned (.tuple #[.pointer (some ⟨x, 0, none⟩), .int .i64 0]) ∧ DevO x q (crashD s fs) (New w w') w') ∨ (crashE s fs ≠ 0 ∧ e = .returned (.tuple #[.pointer none, .int .i64 (crashE s fs)]))) := by
  unfold crashE
  by_cases h1 : (looseI s).length < fs.length
  · simp only [if_pos h1]
    obtain ⟨R, hd, inn⟩ := h
    exact (dv_crash1 hd hq hl hv h1 hfm).mono fun e w' ⟨he, hb⟩ => ⟨hb, .inr ⟨by decide, he⟩⟩
  · simp only [if_neg h1]
    cases h2 : (crashL s fs).any (badF s)
    · simp only [Bool.false_eq_true, if_false]
      exact (dv_crash3 h ow hq hl hv (by omega) h2).mono fun e w' ⟨x, he, hx, hb⟩ => ⟨hb, .inl ⟨trivial, x, he, hx⟩⟩
    · simp only [if_true]
      obtain ⟨R, hd, inn⟩ := h
      exact (dv_crash2 hd hq hl hv (by omega) h2).mono fun e w' ⟨he, hb⟩ => ⟨hb, .inr ⟨by decide, he⟩⟩
end

end Go.Proofs.Ytlfeglnacphhlaa
