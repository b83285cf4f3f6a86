/- Sets of numbers: walks of New, Len, Has, Put, Clear. -/
import Derived.Test.YtbgknopjgohocaaGreatZB
import Derived.Test.YtbgknopjgohocaaGreatFr
namespace Go.Proofs.YtbgknopjgohocaaGreat
open Go.RowKit
set_option linter.unusedVariables false

def btF (e n L : Nat) : Nat → Value
  | 0 => .slice (some ⟨e, 0, none⟩) L L
  | 1 => .int .i64 (n : Int)
  | _ => .bool true

/-- A set at block d, its words at block e. -/
structure Bt (w : World) (d e n L : Nat) (D : Nat → Nat) : Prop where
  top : Arr w d 169 3 (btF e n L)
  row : Arr w e 22 L (wd D)
  wds : ∀ q, D q < 18446744073709551616
  n1 : 1 ≤ n
  n2 : n ≤ 4096
  hl : L = (n + 63) / 64

/-- Is i in it? -/
def bitD (D : Nat → Nat) (i : Nat) : Bool := (D (i / 64)).testBit (i % 64)
def putD (D : Nat → Nat) (i : Nat) : Nat → Nat := fun q => if q = i / 64 then D (i / 64) ||| 2 ^ (i % 64) else D q

theorem putD_lt {D : Nat → Nat} (h : ∀ q, D q < 18446744073709551616) (i : Nat) : ∀ q, putD D i q < 18446744073709551616 := fun q => by
  unfold putD
  split
  · have h1 : 2 ^ (i % 64) < 2 ^ 64 := Nat.pow_lt_pow_right (by omega) (Nat.mod_lt _ (by omega))
    exact Nat.or_lt_two_pow (n := 64) (h _) h1
  · exact h q

theorem bitD_put (D : Nat → Nat) (i k : Nat) : bitD (putD D i) k = if k = i then true else bitD D k := by
  unfold bitD putD
  by_cases h : k / 64 = i / 64
  · rw [if_pos h, Nat.testBit_or, Nat.testBit_two_pow]
    by_cases e : k = i
    · subst e; simp
    · have : ¬ i % 64 = k % 64 := by omega
      simp [e, this, h]
  · have e : ¬ k = i := fun e => h (by rw [e])
    simp [h, e]

theorem bit_word (x k : Nat) (hx : x < 18446744073709551616) : (bits BinOp.and IntKind.u64 ((x : Int) / ((2 ^ k : Nat) : Int)) 1 == 1) = x.testBit k := by
  have h : (x : Int) / ((2 ^ k : Nat) : Int) = ((x / 2 ^ k : Nat) : Int) := by norm_cast
  rw [h, show (1 : Int) = ((1 : Nat) : Int) from rfl, u64_and_nat _ _ (Nat.lt_of_le_of_lt (Nat.div_le_self _ _) hx) (by omega), Nat.and_one_is_mod, Nat.testBit_eq_decide_div_mod_eq]
  rw [Bool.eq_iff_iff, beq_iff_eq, decide_eq_true_iff]
  omega

theorem or_word (x k : Nat) (hx : x < 18446744073709551616) (hk : k < 64) : bits BinOp.or IntKind.u64 (x : Int) (IntKind.u64.wrap (2 ^ k)) = ((x ||| 2 ^ k : Nat) : Int) := by
  have h1 : 2 ^ k < 2 ^ 64 := Nat.pow_lt_pow_right (by omega) hk
  have e : ((2 : Int) ^ k) = ((2 ^ k : Nat) : Int) := by push_cast; rfl
  have h2 : ((2 ^ k : Nat) : Int) % 18446744073709551616 = ((2 ^ k : Nat) : Int) := by generalize 2 ^ k = p at *; omega
  rw [e, IntKind.wrap_u64, h2, u64_or_nat _ _ hx h1]

theorem Bt.keep {S : Nat → Prop} {w w' : World} {d e n L : Nat} {D : Nat → Nat} (h : Bt w d e n L D) (k : Keeps S w w') (hd : ¬ S d) (he : ¬ S e) : Bt w' d e n L D :=
  { h with top := h.top.keep k hd, row := h.row.keep k he }
theorem Bt.drewN {w : World} {d e n L : Nat} {D : Nat → Nat} (h : Bt w d e n L D) (m : Nat) : Bt (w.drewN m) d e n L D := { h with top := h.top, row := h.row }

section
variable {w : World} {d e n L : Nat} {D : Nat → Nat}

theorem bt_room (h : Bt w d e n L D) (i : Nat) (hi : i < n) :
    Calls Tryz.prog 102 #[.pointer (some ⟨d, 0, none⟩), .int .i64 (i : Int)] w fun e w' => e = .returned (.bool true) ∧ w = w' := by
  have c1 : w.cell? ⟨d, 1, none⟩ = some (.int .i64 (n : Int)) := h.top.cell (i := 1) (by omega)
  have h1 : (i : Int) < (n : Int) := by omega
  have h2 : (0 : Int) ≤ (i : Int) := by omega
  clear h
  go_enter Tryz.func102, Tryz.ntmps102
  go_wp2
  go_ret
  exact ⟨rfl, rfl⟩

theorem bt_len (h : Bt w d e n L D) :
    Calls Tryz.prog 105 #[.pointer (some ⟨d, 0, none⟩)] w fun e w' => e = .returned (.int .i64 (n : Int)) ∧ w = w' := by
  have c1 : w.cell? ⟨d, 1, none⟩ = some (.int .i64 (n : Int)) := h.top.cell (i := 1) (by omega)
  clear h
  go_enter Tryz.func105, Tryz.ntmps105
  go_wp2
  go_ret
  exact ⟨rfl, rfl⟩

theorem bt_has (h : Bt w d e n L D) (i : Nat) (hi : i < n) :
    Calls Tryz.prog 103 #[.pointer (some ⟨d, 0, none⟩), .int .i64 (i : Int)] w fun e w' => e = .returned (.bool (bitD D i)) ∧ w = w' := by
  have c0 : w.cell? ⟨d, 0, none⟩ = some (.slice (some ⟨e, 0, none⟩) L L) := h.top.cell (i := 0) (by omega)
  have hL : i / 64 < L := by have := h.hl; omega
  have c1 : w.cell? ⟨e, i / 64, none⟩ = some (.int .u64 (D (i / 64) : Int)) := h.row.cell hL
  have q : ((i : Int) / 64).toNat = i / 64 := by omega
  have q1 : ((i : Int) / 64) < (L : Int) := by omega
  have m : ((i : Int) % 64).toNat = i % 64 := by omega
  have b1 : (i : Int) ≤ 4096 := by have := h.n2; omega
  have R := Lib.hid (bt_room h i hi)
  have B := Lib.hid (bit_word (D (i / 64)) (i % 64) (h.wds _))
  clear h
  go_enter Tryz.func103, Tryz.ntmps103
  go_wp2_with fail
  refine R.out.mono ?_
  rintro e w' ⟨rfl, rfl⟩
  go_wp2
  go_ret
  refine ⟨?_, rfl⟩
  rw [bitD, ← B.out]
  push_cast
  rfl

theorem bt_put (h : Bt w d e n L D) (i : Nat) (hi : i < n) :
    Calls Tryz.prog 78 #[.pointer (some ⟨d, 0, none⟩), .int .i64 (i : Int)] w fun r w' => r = .returned (.bool (!bitD D i)) ∧ Bt w' d e n L (if bitD D i then D else putD D i) ∧ Keeps (fun k => k = e) w w' := by
  have c0 : w.cell? ⟨d, 0, none⟩ = some (.slice (some ⟨e, 0, none⟩) L L) := h.top.cell (i := 0) (by omega)
  have hL : i / 64 < L := by have := h.hl; omega
  have c1 : w.cell? ⟨e, i / 64, none⟩ = some (.int .u64 (D (i / 64) : Int)) := h.row.cell hL
  have hf := h.row.free (i / 64)
  have q : ((i : Int) / 64).toNat = i / 64 := by omega
  have q1 : ((i : Int) / 64) < (L : Int) := by omega
  have m : ((i : Int) % 64).toNat = i % 64 := by omega
  have b1 : (i : Int) ≤ 4096 := by have := h.n2; omega
  have R := Lib.hid (bt_room h i hi)
  have K := Lib.hid (bt_has h i hi)
  have O := Lib.hid (or_word (D (i / 64)) (i % 64) (h.wds _) (by omega))
  have H := Lib.hid h
  clear h
  cases hb : bitD D i
  · rw [hb] at K
    go_enter Tryz.func78, Tryz.ntmps78
    clear hb
    go_wp2_with fail
    refine R.out.mono ?_
    rintro e w' ⟨rfl, rfl⟩
    go_wp2_with fail
    refine K.out.mono ?_
    rintro e w' ⟨rfl, rfl⟩
    go_wp2_with fail
    go_region
    go_wp2
    go_ret
    rw [O.out]
    refine ⟨rfl, ?_, ((Keeps.refl (fun k => k = e) w).setCell (p := ⟨e, i / 64, none⟩) (.inl rfl) _).drew⟩
    exact Bt.drewN ⟨H.out.top.far (H.out.top.ne H.out.row (by decide)) _ _, (H.out.row.set (i / 64) _).congr (fun k hk => by unfold wd putD; split <;> simp_all), putD_lt H.out.wds i, H.out.n1, H.out.n2, H.out.hl⟩ 1
  · rw [hb] at K
    go_enter Tryz.func78, Tryz.ntmps78
    clear hb
    go_wp2_with fail
    refine R.out.mono ?_
    rintro e w' ⟨rfl, rfl⟩
    go_wp2_with fail
    refine K.out.mono ?_
    rintro e w' ⟨rfl, rfl⟩
    go_wp2
    go_ret
    exact ⟨rfl, H.out, Keeps.refl _ _⟩

theorem bt_clear (h : Bt w d e n L D) :
    Calls Tryz.prog 82 #[.pointer (some ⟨d, 0, none⟩)] w fun r w' => r = .returned (.tuple #[]) ∧ Bt w' d e n L (fun _ => 0) ∧ Keeps (fun k => k = e) w w' := by
  have c0 : w.cell? ⟨d, 0, none⟩ = some (.slice (some ⟨e, 0, none⟩) L L) := h.top.cell (i := 0) (by omega)
  have hL1 : 0 < L := by have := h.hl; have := h.n1; omega
  have hcl : ∀ ty, (Builtin.clear_ #[163] ty #[.slice (some ⟨e, 0, none⟩) L L]).run Tryz.prog w = .ok (.tuple #[]) (w.setCells e 0 (List.replicate L (.int .u64 0))) :=
    fun ty => Lib.run_clear_slice w _ 22 ty _ Tryz.underlying163 zero_u64 rfl rfl e 0 L L hL1 (fun j hj => by rw [Nat.zero_add, h.row.cell hj]; rfl) (fun j hj => h.row.free _)
  have A1 := Lib.hid ((Arr.fill (.int .u64 0) L 0 _ _ h.row).congr (G := wd (fun _ => 0)) (fun q hq => by simp [wd, hq]))
  have hk := Lib.hid (Keeps.setCells e (List.replicate L (.int .u64 0)) 0 w)
  have H := Lib.hid h
  clear h
  go_enter Tryz.func82, Tryz.ntmps82
  go_wp2
  go_end0
  exact ⟨rfl, ⟨H.out.top.keep hk.out (H.out.top.ne H.out.row (by decide)), A1.out, fun q => by omega, H.out.n1, H.out.n2, H.out.hl⟩, hk.out⟩
end

theorem up_any (n b : Nat) (hn : n ≤ 281474976710656) (hb : 1 ≤ b) (hb2 : b ≤ 281474976710656) (w : World) : Calls Tryz.prog 100 #[.int .i64 (n : Int), .int .i64 (b : Int)] w fun e w' => e = .returned (.int .i64 (((n + b - 1) / b : Nat) : Int)) ∧ w = w' := by
  have hb1 : ¬ (b : Int) < 1 := by omega
  obtain ⟨q, hq⟩ : ∃ q, q = (n + b - 1) / b := ⟨_, rfl⟩
  rw [← hq]
  by_cases h : n < 1
  · have h1 : (n : Int) < 1 := by omega
    obtain rfl : q = 0 := by rw [hq]; exact Nat.div_eq_of_lt (by omega)
    clear hq
    go_enter Tryz.func100, Tryz.ntmps100
    go_wp2
    go_ret
    exact ⟨rfl, rfl⟩
  · have h1 : ¬ (n : Int) < 1 := by omega
    have e0 : (n + b - 1) / b = (n - 1) / b + 1 := by
      rw [show n + b - 1 = (n - 1) + b by omega, Nat.add_div_right _ (by omega)]
    have hd : (n - 1) / b ≤ n - 1 := Nat.div_le_self _ _
    have E : ((n : Int) - 1) / (b : Int) = (((n - 1) / b : Nat) : Int) := by
      rw [show (n : Int) - 1 = ((n - 1 : Nat) : Int) by omega]; norm_cast
    rw [e0] at hq
    subst hq
    clear e0
    have E0 := Lib.hid E
    clear E
    go_enter Tryz.func100, Tryz.ntmps100
    go_wp2
    go_ret
    refine ⟨ret_i64 ?_, rfl⟩
    generalize hz : (n - 1) / b = z at *
    first | (rw [E0.out]; simp only [wrap64]; omega) | (simp only [wrap64]; omega)

theorem make_words (L : Nat) (hL : L ≤ 4096) (W : World) : (Instr.makeSlice 163 (.int .i64 (L : Int)) (.int .i64 (L : Int))).run Tryz.prog W = .ok (.slice (some ⟨W.heap.size, 0, none⟩) L L) (W.alloc (.cells (madeCells #[.int .u64 0] L) 22)) := by
  obtain ⟨i0, hi, hz0, hz1, hz2⟩ := info_parts infoWord
  have := run_make (P := Tryz.prog) (w := W) 163 22 i0 (.int .u64 0) Tryz.underlying163 hi hz0 .i64 .i64 (L : Int) (L : Int) (by omega) (Int.le_refl _) (by rw [hz2]; omega) (by omega)
  rw [this, hz1]
  simp [Value.cells]

theorem bt_new (w : World) (n : Nat) (h1 : 1 ≤ n) (h2 : n ≤ 4096) :
    Calls Tryz.prog 74 #[.int .i64 (n : Int)] w fun r w' => r = .returned (.tuple #[.pointer (some ⟨w.heap.size + 1, 0, none⟩), .int .i64 0]) ∧
      Bt w' (w.heap.size + 1) w.heap.size n ((n + 63) / 64) (fun _ => 0) ∧ Below w.heap.size w w' ∧ w'.heap.size = w.heap.size + 2 := by
  obtain ⟨L, hL⟩ : ∃ L, L = (n + 63) / 64 := ⟨_, rfl⟩
  have M := fun W => make_words L (by omega) W
  have U := Lib.hid (up_any n 64 (by omega) (by omega) (by omega) w)
  rw [show n + 64 - 1 = n + 63 by omega, ← hL] at U
  rw [← hL]
  have HL := Lib.hid hL
  clear hL
  have a1 : ¬ (n : Int) < 0 := by omega
  have a2 : ¬ (4096 : Int) < (n : Int) := by omega
  go_enter Tryz.func74, Tryz.ntmps74
  go_wp2_with fail
  refine U.out.mono ?_
  rintro e w' ⟨rfl, rfl⟩
  go_wp2
  go_ret2
  refine ⟨rfl, ⟨⟨_, heap_at _ _ _ (by simp), rfl, fun i hi => ?_⟩, Arr.past (Arr.made w _ _ (.int .u64 0) _ (by simp [madeCells]) (fun i hi => madeCells_get _ _ _ hi)) _, fun q => by omega, h1, h2, HL.out⟩, ((Below.refl _ _).alloc (Nat.le_refl _) _).alloc (by simp) _, by simp⟩
  have : i = 0 ∨ i = 1 ∨ i = 2 := by omega
  rcases this with rfl | rfl | rfl <;> rfl

end Go.Proofs.YtbgknopjgohocaaGreat
