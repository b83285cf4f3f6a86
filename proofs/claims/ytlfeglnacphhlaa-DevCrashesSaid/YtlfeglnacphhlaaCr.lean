/- The program's device: Crash. -/
import Derived.Test.YtlfeglnacphhlaaLo
import Derived.Deep.RegionLaw
namespace Go.Proofs.Ytlfeglnacphhlaa
open Go.RowKit Go.Maps
set_option linter.unusedVariables false

theorem size1_u8 : (Try.prog.info? 5).map (·.size) = some 1 := by kernel_rfl

theorem octV_oct (c : ByteArray) (j : Nat) (h : j < c.size) : (octV c)[j]? = some (octF c j) := by
  rw [octV_at c j h, octF_at c j h]

/-- 'copy(dst, src)' of 64 octets over a row of 64. -/
theorem run_copy64 {w : World} {ty : TypeId} {g cd : Nat} {F : Nat → Value} {v : Value} {c : ByteArray} (ha : Arr w g 5 64 F) (hv : Byt w v c) :
    ∃ w', (Builtin.copy_ #[44, 44] ty #[.slice (some ⟨g, 0, none⟩) 64 cd, v]).run Try.prog w = .ok (.int .i64 64) w' ∧ Arr w' g 5 64 (octF c) ∧ Keeps (fun j => j = g) w w' ∧ w'.heap.size = w.heap.size := by
  obtain ⟨cs, hb, hs, hc⟩ := ha
  obtain ⟨g', cap, cur, f, rfl, hb', hz, hB⟩ := hv
  have hsrc : ∀ j u, (octV c)[j]? = some u → w.cell? ((⟨g', 0, none⟩ : Addr).add j) = some u := fun j u hu => by
    have hj : j < c.size := by
      have := (List.getElem?_eq_some_iff.1 hu).1
      rw [octV_len] at this; exact this
    rw [octV_at c j hj] at hu
    simp at hu; subst hu
    rw [addr_add]; exact hB j hj
  have hrun := run_copy_row (P := Try.prog) w 44 44 ty 5 g 0 64 cd ⟨g', 0, none⟩ 64 cap cs 5 (octV c) Try.underlying44 size1_u8 hb (by rw [octV_len, hz]; rfl) hsrc (by rw [octV_len, hz, hs]; omega) (fun u hu => by
    obtain ⟨x, _, rfl⟩ := List.mem_map.1 hu; rfl)
  have e : (cs.toList.take 0 ++ octV c ++ cs.toList.drop (0 + (octV c).length)) = octV c := by
    have e0 : cs.toList.drop (0 + (octV c).length) = [] := List.drop_of_length_le (by rw [octV_len, hz, Array.length_toList, hs]; omega)
    rw [e0, List.take_zero, List.nil_append, List.append_nil]
  rw [e] at hrun
  refine ⟨w.setRow g (octV c).toArray, ?_, ⟨(octV c).toArray, setRow_heap w g _ _ _ _ hb, by simp [octV_len, hz], fun i hi => ?_⟩, ⟨rfl, rfl, rfl, by simp [World.setRow], fun k hk hn => setRow_other w g k _ hn⟩, by simp [World.setRow]⟩
  · rw [hrun, octV_len, hz]; rfl
  · rw [List.getElem?_toArray]; exact octV_oct c i (by omega)

/-- .. as a step of a region that draws. -/
theorem step_copy64 {ops : Array Oper} {o : Oper} {a : Act} {w : World} {K : Act → World → Prop} {Q : Exit → Act → World → Prop} {E : Prop} (hgd : o.guard = none) (d s : Operand)
    (ho : o.op = .call { callee := .builtin .copy, args := #[d, s], argTypes := #[44, 44] }) {g cd : Nat} {F : Nat → Value} {v : Value} {c : ByteArray}
    (hd : a.eval d = .slice (some ⟨g, 0, none⟩) 64 cd) (hs : a.eval s = v) (ha : Arr w g 5 64 F) (hv : Byt w v c)
    (h : ∀ w', Arr w' g 5 64 (octF c) → Keeps (fun j => j = g) w w' → w'.heap.size = w.heap.size → K (a.put o.dst (.int .i64 64)) w') :
    if Region.wanted o (yielded ops a.tmps) = true then Oper.wp Try.prog o a w K Q else E := by
  have hw : Region.wanted o (yielded ops a.tmps) = true := by simp [Region.wanted, hgd]
  rw [if_pos hw]
  obtain ⟨w', hrun, h1, h2, h3⟩ := run_copy64 (ty := o.type) (cd := cd) ha hv
  unfold Oper.wp
  simp [execOp, ho, resolve, invoke, builtin, hd, hs, hrun, Result.andThen]
  exact h w' h1 h2 h3

/-- The slice v reads as whole numbers. -/
def RdZ (w : World) (v : Value) (l : List Int) : Prop :=
  ∃ A c, v = .slice A l.length c ∧ (0 < l.length → ∃ g o, A = some ⟨g, o, none⟩ ∧ ∀ (j : Nat) (x : Int), l[j]? = some x → w.cell? ⟨g, o + j, none⟩ = some (.int .i64 x))

theorem RdZ.old {w w' : World} {v : Value} {l : List Int} (h : RdZ w v l) (k : Below w.heap.size w w') : RdZ w' v l := by
  obtain ⟨A, c, hv, h⟩ := h
  refine ⟨A, c, hv, fun h0 => ?_⟩
  obtain ⟨g, o, h1, h2⟩ := h h0
  exact ⟨g, o, h1, fun j x hx => (Keeps.of_below k).old (h2 j x hx)⟩
theorem RdLo.keep {w w' : World} {T : Nat → Prop} {v : Value} {l : List (Nat × Nat)} (h : RdLo w v l) (k : Keeps T w w') (hT : ∀ g, v.ownBlock = some g → ¬ T g) : RdLo w' v l := by
  rcases h with h | ⟨g, c, h1, h2⟩
  · exact .inl h
  · exact .inr ⟨g, c, h1, fun j x hx => ⟨k.cell (h2 j x hx).1 (hT g (by rw [h1]; rfl)), k.cell (h2 j x hx).2 (hT g (by rw [h1]; rfl))⟩⟩
theorem RdLo.lt {w : World} {v : Value} {l : List (Nat × Nat)} (h : RdLo w v l) (hl : l ≠ []) : ∀ g, v.ownBlock = some g → g < w.heap.size := by
  rcases h with ⟨_, h⟩ | ⟨g, c, h1, h2⟩
  · exact absurd h hl
  · intro k e
    rw [h1] at e
    obtain rfl : g = k := by simpa [Value.ownBlock] using e
    obtain ⟨x, hx⟩ : ∃ x, l[0]? = some x := ⟨_, List.getElem?_eq_getElem (List.length_pos_iff.2 hl)⟩
    exact World.block_lt_of_cell? w _ (h2 0 x hx).1

/-- What is left of each sector behind a crash, fate by fate. -/
def crashG (s : DS) (x : (Nat → ByteArray) × (Nat → Bool)) (f : Nat × Int) : (Nat → ByteArray) × (Nat → Bool) :=
  if 0 < f.2 then (fun j => if j = f.1 then (s.loose f.1).getD (f.2.toNat - 1) ByteArray.empty else x.1 j, fun j => if j = f.1 then false else x.2 j) else x
def crashL (s : DS) (fs : List Int) : List (Nat × Int) := (looseI s).zip fs
def crashS (s : DS) (fs : List Int) (j : Nat) : (Nat → ByteArray) × (Nat → Bool) := ((crashL s fs).take j).foldl (crashG s) (s.fixed, s.rot)
def crashD (s : DS) (fs : List Int) : DS := ⟨s.n, (crashS s fs fs.length).1, fun _ => [], (crashS s fs fs.length).2, 0, 0, s.lim⟩
def badF (s : DS) (f : Nat × Int) : Bool := decide (f.2 < 0) || decide (((s.loose f.1).length : Int) < f.2)
def crashE (s : DS) (fs : List Int) : Int := if (looseI s).length < fs.length then 7 else if (crashL s fs).any (badF s) then 3 else 0

section
variable {w w' : World} {H p n nr : Nat} {C : Nat → ByteArray} {rot : Nat → Bool}

theorem DvX.keep {T : Nat → Prop} (h : DvX w H p n nr C rot) (k : Keeps T w w') (hT : ∀ j, H ≤ j → j < H + 4 + n → ¬ T j) : DvX w' H p n nr C rot :=
  { h with
    top := h.top.keep k (hT _ (by omega) (by omega))
    fx := h.fx.keep k (hT _ (by omega) (by omega))
    fb := fun i hi => ⟨(h.fb i hi).1.keep k (hT _ (by omega) (by omega)), (h.fb i hi).2⟩
    lm := h.lm.keep k (hT _ (by omega) (by omega))
    rm := h.rm.keep k (hT _ (by omega) (by omega)) }

theorem DvX.copy (h : DvX w H p n nr C rot) {i : Nat} (hi : i < n) {c : ByteArray} (hc : c.size = 64) (ha : Arr w' (H + 4 + i) 5 64 (octF c)) (k : Keeps (fun j => j = H + 4 + i) w w') :
    DvX w' H p n nr (fun j => if j = i then c else C j) rot :=
  { h with
    top := (h.top.keep k (by omega)).congr (fun x hx => by
      have : x = 0 ∨ x = 1 ∨ x = 2 ∨ x = 3 ∨ x = 4 ∨ x = 5 := by omega
      rcases this with rfl | rfl | rfl | rfl | rfl | rfl <;> rfl)
    fx := h.fx.keep k (by omega)
    fb := fun j hj => by
      by_cases e : j = i
      · subst e; simp only [if_true]; exact ⟨ha, hc⟩
      · simp only [if_neg e]; exact ⟨(h.fb j hj).1.keep k (by omega), (h.fb j hj).2⟩
    lm := h.lm.keep k (by omega)
    rm := (h.rm.keep k (by omega)).congr (fun x hx => rfl) }

theorem DvX.turnR {nr' : Nat} {rot' : Nat → Bool} {M : Int → Option Value} (h : DvX w H p n nr C rot) (hm : IMap w' (H + 2) nr' M) (hM : ∀ x, M x = rotM ⟨n, C, fun _ => [], rot', 0, 0, nr'⟩ x) (ht : w.mapTurned w' (H + 2)) : DvX w' H p n nr' C rot' := by
  have k := keeps_turned ht
  exact { h with
    top := (h.top.keep k (by omega)).congr (fun x hx => by
      have : x = 0 ∨ x = 1 ∨ x = 2 ∨ x = 3 ∨ x = 4 ∨ x = 5 := by omega
      rcases this with rfl | rfl | rfl | rfl | rfl | rfl <;> rfl)
    fx := h.fx.keep k (by omega)
    fb := fun i hi => ⟨(h.fb i hi).1.keep k (by omega), (h.fb i hi).2⟩
    lm := h.lm.keep k (by omega)
    rm := hm.congr (fun x hx => hM x) }

theorem rotM_set {i : Nat} (hi : i < n) (nr' : Nat) (x : Int) : (if x = (i : Int) then some (.int .i64 1) else rotM ⟨n, C, fun _ => [], rot, 0, 0, nr⟩ x) = rotM ⟨n, C, fun _ => [], fun j => if j = i then true else rot j, 0, 0, nr'⟩ x := by
  unfold rotM
  by_cases e : x = (i : Int)
  · subst e; rw [if_pos rfl, if_pos ⟨by omega, by simp; omega, by simp⟩]
  · rw [if_neg e]
    by_cases e2 : 0 ≤ x
    · have : x.toNat ≠ i := by omega
      simp only [if_neg this]
    · rw [if_neg (fun y => e2 y.1), if_neg (fun y => e2 y.1)]

theorem rotM_del (i nr' : Nat) (x : Int) : (if x = (i : Int) then none else rotM ⟨n, C, fun _ => [], rot, 0, 0, nr⟩ x) = rotM ⟨n, C, fun _ => [], fun j => if j = i then false else rot j, 0, 0, nr'⟩ x := by
  unfold rotM
  by_cases e : x = (i : Int)
  · subst e; rw [if_pos rfl, if_neg (by simp)]
  · rw [if_neg e]
    by_cases e2 : 0 ≤ x
    · have : x.toNat ≠ i := by omega
      simp only [if_neg this]
    · rw [if_neg (fun y => e2 y.1), if_neg (fun y => e2 y.1)]
end

theorem DvX.agree {w : World} {H p n nr : Nat} {C C' : Nat → ByteArray} {rot rot' : Nat → Bool} (h : DvX w H p n nr C rot) (e1 : ∀ i, i < n → C' i = C i) (e2 : ∀ i, i < n → rot' i = rot i) : DvX w H p n nr C' rot' :=
  { h with
    top := h.top.congr (fun x hx => by
      have : x = 0 ∨ x = 1 ∨ x = 2 ∨ x = 3 ∨ x = 4 ∨ x = 5 := by omega
      rcases this with rfl | rfl | rfl | rfl | rfl | rfl <;> rfl)
    fb := fun i hi => by rw [e1 i hi]; exact h.fb i hi
    rm := h.rm.congr (fun x hx => by
      unfold rotM
      by_cases e : 0 ≤ x ∧ x < (n : Int)
      · have := e2 x.toNat (by omega)
        simp only [this]
      · rw [if_neg (fun y => e ⟨y.1, y.2.1⟩), if_neg (fun y => e ⟨y.1, y.2.1⟩)]) }

theorem DvX.fin {w : World} {H p n nr lim : Nat} {C : Nat → ByteArray} {rot : Nat → Bool} (h : DvX w H p n nr C rot) (hn : nr ≤ lim) (S : Nat → Prop) (hS : ∀ k, H ≤ k → k < H + 4 + n → S k) : DevO (H + 3) p ⟨n, C, fun _ => [], rot, 0, 0, lim⟩ S w := by
  obtain ⟨R, d, i⟩ := h.dv S hS
  exact ⟨R, { d with
    top := d.top.congr (fun x hx => by
      have : x = 0 ∨ x = 1 ∨ x = 2 ∨ x = 3 ∨ x = 4 ∨ x = 5 := by omega
      rcases this with rfl | rfl | rfl | rfl | rfl | rfl <;> rfl)
    ll := fun i hi => by simp
    nl := Nat.le_trans d.nl hn
    nr := Nat.le_trans d.nr hn }, i.same rfl⟩

theorem crashS_succ {s : DS} {fs : List Int} {k : Nat} {x : Nat × Int} (h : (crashL s fs)[k]? = some x) : crashS s fs (k + 1) = crashG s (crashS s fs k) x := by
  unfold crashS
  rw [List.take_add_one, h, List.foldl_append]; rfl

theorem crashL_at {s : DS} {fs : List Int} {k : Nat} (hk : k < fs.length) (hm : fs.length ≤ (looseI s).length) : ∃ i f, (looseI s)[k]? = some i ∧ fs[k]? = some f ∧ (crashL s fs)[k]? = some (i, f) ∧ (looseL s)[k]? = some (i, (s.loose i).length) ∧ i < s.n ∧ s.loose i ≠ [] := by
  have h1 : (looseI s)[k]? = some ((looseI s)[k]'(by omega)) := List.getElem?_eq_getElem (by omega)
  have h2 : fs[k]? = some (fs[k]'hk) := List.getElem?_eq_getElem hk
  have hm := mem_looseI.1 (List.mem_of_getElem? h1)
  exact ⟨_, _, h1, h2, by unfold crashL; rw [List.getElem?_zip_eq_some]; exact ⟨h1, h2⟩, by unfold looseL; rw [List.getElem?_map, h1]; rfl, hm.1, hm.2⟩

theorem RdLo.open_ {w : World} {v : Value} {l : List (Nat × Nat)} (h : RdLo w v l) : ∃ A c, v = .slice A l.length c ∧ (0 < l.length → ∃ g, A = some ⟨g, 0, none⟩ ∧ ∀ (j : Nat) (x : Nat × Nat), l[j]? = some x → w.cell? ⟨g, 2 * j, none⟩ = some (.int .i64 (x.1 : Int)) ∧ w.cell? ⟨g, 2 * j + 1, none⟩ = some (.int .i64 (x.2 : Int))) := by
  rcases h with ⟨h, rfl⟩ | ⟨g, c, h1, h2⟩
  · exact ⟨none, 0, h, fun x => absurd x (by simp)⟩
  · exact ⟨_, c, h1, fun _ => ⟨g, rfl, h2⟩⟩
theorem RdZ.open_ {w : World} {v : Value} {l : List Int} (h : RdZ w v l) : ∃ A c, v = .slice A l.length c ∧ (0 < l.length → ∃ g o, A = some ⟨g, o, none⟩ ∧ ∀ (j : Nat) (x : Int), l[j]? = some x → w.cell? ⟨g, o + j, none⟩ = some (.int .i64 x)) := h

section
variable {w : World} {b p q : Nat} {R : DR} {s : DS} {ps : PS} {S : Nat → Prop} {v : Value} {fs : List Int}

set_option maxRecDepth 100000 in
set_option maxHeartbeats 4000000 in
theorem dv_crash1 (h : Dv w b p R s) (hq : Pow w q ps) (hl : s.lim ≤ 1000000) (hv : RdZ w v fs) (hlong : (looseI s).length < fs.length) (hfm : fs.length ≤ 9223372036854775807) :
    Calls Try.prog 16 #[.pointer (some ⟨b, 0, none⟩), .pointer (some ⟨q, 0, none⟩), v] w fun e w' => e = .returned (.tuple #[.pointer none, .int .i64 7]) ∧ Below w.heap.size w w' := by
  have RR := Lib.hid (dv_real h)
  have RP := Lib.hid (pow_real hq)
  have LO := Lib.hid (dv_loose h hl)
  obtain ⟨A, ca, rfl, _⟩ := hv.open_
  have hll : (looseL s).length < fs.length := by simp only [looseL, List.length_map]; omega
  have e1 : decide (((looseL s).length : Int) < (fs.length : Int)) = true := decide_eq_true (by omega)
  have e2 : decide ((looseL s).length < fs.length) = true := decide_eq_true hll
  clear h hq hl hlong hfm hll
  go_enter Try.func16, Try.ntmps16
  go_wp2_with fail
  refine RR.out.mono ?_
  rintro e w' ⟨rfl, rfl⟩
  go_wp2_with fail
  refine RP.out.mono ?_
  rintro e w' ⟨rfl, rfl⟩
  go_wp2_with fail
  refine LO.out.mono ?_
  rintro e w2 ⟨u, rfl, hr, hb, hg⟩
  obtain ⟨Al, cl, rfl, _⟩ := hr.open_
  have B := Lib.hid hb
  clear hr hb hg
  go_wp2
  go_ret2
  exact ⟨rfl, B.out⟩

set_option maxRecDepth 100000 in
set_option maxHeartbeats 4000000 in
theorem dv_crash2 (h : Dv w b p R s) (hq : Pow w q ps) (hl : s.lim ≤ 1000000) (hv : RdZ w v fs) (hlong : fs.length ≤ (looseI s).length) (hbad : (crashL s fs).any (badF s) = true) :
    Calls Try.prog 16 #[.pointer (some ⟨b, 0, none⟩), .pointer (some ⟨q, 0, none⟩), v] w fun e w' => e = .returned (.tuple #[.pointer none, .int .i64 3]) ∧ Below w.heap.size w w' := by
  have RR := Lib.hid (dv_real h)
  have RP := Lib.hid (pow_real hq)
  have LO := Lib.hid (dv_loose h hl)
  have HV := Lib.hid hv
  obtain ⟨A, ca, rfl, hA⟩ := hv.open_
  have hll : ¬ (looseL s).length < fs.length := by simp only [looseL, List.length_map]; omega
  have e1 : decide (((looseL s).length : Int) < (fs.length : Int)) = false := decide_eq_false (by omega)
  have e2 : decide ((looseL s).length < fs.length) = false := decide_eq_false hll
  have HBAD := Lib.hid hbad
  have HLONG := Lib.hid hlong
  have HFS := Lib.hid (show fs.length ≤ 4096 by
    have h2 : (looseI s).length ≤ s.n := by
      unfold looseI
      exact Nat.le_trans (List.length_filter_le _ _) (by simp)
    have := h.n1; omega)
  have HA := Lib.hid hA
  clear h hq hl hlong hbad hv hA hll
  go_enter Try.func16, Try.ntmps16
  go_wp2_with fail
  refine RR.out.mono ?_
  rintro e w' ⟨rfl, rfl⟩
  go_wp2_with fail
  refine RP.out.mono ?_
  rintro e w' ⟨rfl, rfl⟩
  go_wp2_with fail
  refine LO.out.mono ?_
  rintro e w2 ⟨u, rfl, hr, hb, hg⟩
  obtain ⟨Al, cl, rfl, hL⟩ := hr.open_
  have B := Lib.hid hb
  have HL := Lib.hid hL
  have HV2 := Lib.hid (HV.out.old hb)
  clear hr hb hg hL
  go_wp2
  go_loopw [35] (fun i wr => ∃ k : Nat, k ≤ fs.length ∧ i = .int .i64 (k : Int) ∧ wr = w2 ∧ ∀ j x, j < k → (crashL s fs)[j]? = some x → badF s x = false) (fun i _ => fs.length - (intOf i).toNat)
  case atStart => exact ⟨0, Nat.zero_le _, rfl, rfl, fun j x hj => absurd hj (Nat.not_lt_zero j)⟩
  case round =>
    obtain ⟨k, hk, rfl, rfl, hgood⟩ := hrel
    by_cases hk4 : k < fs.length
    · obtain ⟨i, f, hi1, hf1, hx1, hl1, hin, hine⟩ := crashL_at hk4 HLONG.out
      obtain ⟨g, o, rfl, hcf⟩ := HA.out (by omega)
      obtain ⟨gl, rfl, hcl⟩ := HL.out (by have := HLONG.out; simp [looseL]; omega)
      have cf := (Keeps.of_below B.out).old (hcf k f hf1)
      have cl1 : wr.cell? ⟨gl, k * 2 + 1, none⟩ = some (.int .i64 ((s.loose i).length : Int)) := by rw [Nat.mul_comm]; exact (hcl k _ hl1).2
      have h1 : (k : Int) < (fs.length : Int) := by omega
      have h3 : (k : Int) ≤ 4096 := by have := HFS.out; omega
      have h2 : (k : Int) < ((looseL s).length : Int) := by have := HLONG.out; simp only [looseL, List.length_map]; omega
      have HG := Lib.hid hgood
      have HX := Lib.hid hx1
      have HK := Lib.hid hk4
      clear hgood hx1 hl1 hi1 hf1 hcf hcl hk hin hine hk4
      generalize hM : (s.loose i).length = M at *
      have HM := Lib.hid hM
      clear hM
      by_cases n0 : f < 0
      · have d1 : decide (f < 0) = true := decide_eq_true n0
        clear n0
        go_wp2
        go_ret2
        exact ⟨rfl, B.out⟩
      · have d1 : decide (f < 0) = false := decide_eq_false n0
        by_cases n1 : (M : Int) < f
        · have d2 : decide ((M : Int) < f) = true := decide_eq_true n1
          clear n0 n1
          go_wp2
          go_ret2
          exact ⟨rfl, B.out⟩
        · have d2 : decide ((M : Int) < f) = false := decide_eq_false n1
          have GD := Lib.hid (show badF s (i, f) = false by unfold badF; simp only [HM.out, d1, d2]; rfl)
          clear n0 n1
          go_wp2
          go_roundw
          case rel =>
            refine ⟨k + 1, HK.out, by simp, trivial, fun j x hj hx => ?_⟩
            by_cases e : j = k
            · subst e
              rw [HX.out] at hx
              simp at hx; subst hx; exact GD.out
            · exact HG.out j x (by omega) hx
          case measure => have := HK.out; simp only [intOf]; omega
    · exfalso
      obtain ⟨x, hx, hb⟩ := List.any_eq_true.1 HBAD.out
      obtain ⟨j, hj⟩ := List.getElem?_of_mem hx
      have hj2 : j < (crashL s fs).length := (List.getElem?_eq_some_iff.1 hj).1
      have := hgood j x (by simp [crashL] at hj2; omega) hj
      rw [this] at hb; cases hb
end

end Go.Proofs.Ytlfeglnacphhlaa
