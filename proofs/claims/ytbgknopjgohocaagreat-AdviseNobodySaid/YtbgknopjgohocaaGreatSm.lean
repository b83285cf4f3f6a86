/- The program's order of slots: Touch, Victim, New. -/
import Derived.Test.YtbgknopjgohocaaGreatSl
namespace Go.Proofs.YtbgknopjgohocaaGreat
open Go.RowKit Fl
set_option linter.unusedVariables false

/-- What a touch makes of an order. -/
def touchL (most m : Nat) (low high : List Nat) : List Nat × List Nat :=
  if (wo m high ++ [m]).length ≤ most then (wo m low, wo m high ++ [m]) else (wo m low ++ [(wo m high ++ [m]).headD 0], (wo m high ++ [m]).tail)

theorem head_tail (l : List Nat) (m : Nat) : ∃ a r, l ++ [m] = a :: r := by
  cases l with
  | nil => exact ⟨m, [], rfl⟩
  | cons a l => exact ⟨a, l ++ [m], rfl⟩
theorem wo_head {a : Nat} {r : List Nat} (h : (a :: r).Nodup) : wo a (a :: r) = r := by
  have := List.nodup_cons.1 h
  simp only [wo, List.filter_cons]
  rw [if_neg (by simp)]
  exact wo_not this.1

section
variable {S : Nat → Prop} {w0 w : World} {b lb g q n most : Nat} {t : LS}

theorem sl_touch_not {low high : List Nat} (h : SlO b n most low high S w) (m : Int) (hin : inI m low = false) (hin2 : inI m high = false) :
    Calls Tryz.prog 64 #[.pointer (some ⟨b, 0, none⟩), .int .i64 m] w fun e w' => e = .returned (.bool false) ∧ w = w' := by
  obtain ⟨lb, g, q, t, h, h0, h1, hmo, hb, hlb, hg, hq⟩ := h.open_
  have c0 := h.c0
  have R := Lib.hid (sl_real h)
  have P : Calls Tryz.prog 87 #[.pointer (some ⟨lb, 0, none⟩), .int .i64 m] w fun e w' => e = .returned (.tuple #[.int .i64 0, .bool false]) ∧ w = w' := by
    by_cases hm : 0 ≤ m ∧ m < n
    · obtain ⟨k, rfl⟩ : ∃ k : Nat, m = (k : Int) := ⟨m.toNat, by omega⟩
      have hk : k < n := by omega
      rw [inI_nat] at hin hin2
      obtain ⟨a, c, d⟩ := tag_low h.2.1.inv hk
      rw [h0] at a; rw [h1] at c
      refine li_of_none h.2.1 k hk ?_
      have h1 : t.tg k ≠ 1 := fun e => of_decide_eq_false hin (a.2 e)
      have h2 : t.tg k ≠ 2 := fun e => of_decide_eq_false hin2 (c.2 e)
      omega
    · exact li_of_no h.2.1 m hm
  have P := Lib.hid P
  clear h h0 h1 hin hin2
  go_enter Tryz.func64, Tryz.ntmps64
  go_wp2_with fail
  refine R.out.mono ?_
  rintro e w' ⟨rfl, rfl⟩
  go_wp2_with fail
  refine P.out.mono ?_
  rintro e w' ⟨rfl, rfl⟩
  go_wp2
  go_ret
  exact ⟨rfl, rfl⟩

set_option maxHeartbeats 1000000 in
theorem sl_touch {low high : List Nat} (h : SlO b n most low high S w) (m : Nat) (hm : m < n) (hin : m ∈ low ∨ m ∈ high) :
    Calls Tryz.prog 64 #[.pointer (some ⟨b, 0, none⟩), .int .i64 (m : Int)] w fun e w' => e = .returned (.bool true) ∧ SlO b n most (touchL most m low high).1 (touchL most m low high).2 (Ext S w w') w' ∧ Keeps S w w' := by
  obtain ⟨lb, g, q, t, h, h0, h1, hmo, hb, hlb, hg, hq⟩ := h.open_
  have c0 := h.c0
  have R := Lib.hid (sl_real h)
  have ht : 0 < t.tg m := by
    obtain ⟨a, c, _⟩ := tag_low h.2.1.inv hm
    rw [h0] at a; rw [h1] at c
    rcases hin with x | x
    · have := a.1 x; omega
    · have := c.1 x; omega
  have O := Lib.hid (li_of h.2.1 m hm ht)
  have P1 : Calls Tryz.prog 88 #[.pointer (some ⟨lb, 0, none⟩), .int .i64 1, .int .i64 (m : Int)] w fun e w' => e = .returned (.bool true) ∧ SlS S w w' b lb g q n most (pushS n t 1 m) := SlS.turn hg hq h (li_push h.2.1 1 m (by omega) hm)
  have P1 := Lib.hid P1
  have inv1 := push_inv h.2.1.inv (k := 1) (by omega) hm
  -- the rows behind the first push
  have r0 : ((pushS n t 1 m).rows 0).reverse = wo m low := by rw [push_rows h.2.1.inv (by omega) hm (by omega), if_neg (by omega), wo_reverse, h0]
  have r1 : ((pushS n t 1 m).rows 1).reverse = wo m high ++ [m] := by rw [push_rows h.2.1.inv (by omega) hm (by omega), if_pos rfl, List.reverse_cons, wo_reverse, h1]
  have oi := oinv_of inv1
  rw [r0, r1] at oi
  have hle := nodup_len n _ oi.h1 oi.hl
  have n2 := h.2.1.n2
  generalize pushS n t 1 m = t1 at *
  have L1 : ∀ W k, SlS S w W b lb g q n most t1 → Calls Tryz.prog 89 #[.pointer (some ⟨lb, 0, none⟩), .int .i64 1] (W.drewN k) fun e w' => e = .returned (.int .i64 ((wo m high ++ [m]).length : Int)) ∧ W.drewN k = w' := fun W k x => by
    rw [← r1, List.length_reverse]; exact li_len (x.drewN k).2.1 1 (by omega)
  have L1 := Lib.hid L1
  obtain ⟨a, r, ear⟩ := head_tail (wo m high) m
  have HT : touchL most m low high = if (wo m high ++ [m]).length ≤ most then (wo m low, wo m high ++ [m]) else (wo m low ++ [a], r) := by rw [touchL, ear]; rfl
  have HT := Lib.hid HT
  have ha : a < n := oi.hl a (by rw [ear]; simp)
  have ra : t1.rows 1 = r.reverse ++ [a] := by
    have : ((t1.rows 1).reverse).reverse = (a :: r).reverse := by rw [r1, ear]
    simpa using this
  have B1 : ∀ W, SlS S w W b lb g q n most t1 → Calls Tryz.prog 90 #[.pointer (some ⟨lb, 0, none⟩), .int .i64 1] W fun e w' => e = .returned (.tuple #[.int .i64 (a : Int), .bool true]) ∧ W = w' := fun W x => by
    have := li_back x.2.1 1 (by omega)
    rw [ra] at this
    have e1 : backN (r.reverse ++ [a]) = a := by simp [backN]
    have e2 : (!(r.reverse ++ [a]).isEmpty) = true := by simp
    rw [e1, e2] at this; exact this
  have B1 := Lib.hid B1
  have P2 : ∀ W, SlS S w W b lb g q n most t1 → Calls Tryz.prog 88 #[.pointer (some ⟨lb, 0, none⟩), .int .i64 0, .int .i64 (a : Int)] W fun e w' => e = .returned (.bool true) ∧ SlS S w w' b lb g q n most (pushS n t1 0 a) := fun W x => SlS.turn hg hq x (li_push x.2.1 0 a (by omega) ha)
  have P2 := Lib.hid P2
  have hanot : a ∉ wo m low := fun x => oi.apart a x (by rw [ear]; simp)
  have nd : (a :: r).Nodup := ear ▸ oi.h1
  have F1 := Lib.hid (fun (w' : World) (x : SlS S w w' b lb g q n most t1) => x.shut r0 r1 hmo hb hlb hg hq)
  have F2 := Lib.hid (fun (w' : World) (x : SlS S w w' b lb g q n most (pushS n t1 0 a)) => x.shut (low := wo m low ++ [a]) (high := r) (by rw [push_rows inv1 (by omega) ha (by omega), if_pos rfl, List.reverse_cons, wo_reverse, r0, wo_not hanot]) (by rw [push_rows inv1 (by omega) ha (by omega), if_neg (by omega), wo_reverse, r1, ear, wo_head nd]) hmo hb hlb hg hq)
  generalize (wo m high ++ [m]).length = len at *
  have y1 : (len : Int) ≤ 1024 := by omega
  clear h h0 h1 inv1 r0 r1 oi hle ear ra hanot nd hin ht
  by_cases hc : len ≤ most
  · rw [if_pos hc] at HT
    have hc1 : decide ((len : Int) ≤ (most : Int)) = true := by rw [decide_eq_decide.2 (show (len : Int) ≤ (most : Int) ↔ len ≤ most by omega)]; exact decide_eq_true hc
    have hc2 : decide (len ≤ most) = true := decide_eq_true hc
    clear hc
    go_enter Tryz.func64, Tryz.ntmps64
    go_wp2_with fail
    refine R.out.mono ?_
    rintro e w' ⟨rfl, rfl⟩
    go_wp2_with fail
    refine O.out.mono ?_
    rintro e w' ⟨rfl, rfl⟩
    go_wp2_with fail
    refine P1.out.mono ?_
    rintro e w1 ⟨rfl, g1⟩
    have d0 := g1.c0
    have d2 := g1.c2
    have G1 := Lib.hid g1
    clear g1 c0
    go_wp2_with fail
    go_quiet ((go_at_call 89; exact quiet_left (L1.out _ _ G1.out)))
    go_wp2_with fail
    go_ret
    rw [HT.out]
    exact ⟨rfl, F1.out _ (G1.out.drewN _)⟩
  · rw [if_neg hc] at HT
    have hc1 : decide ((len : Int) ≤ (most : Int)) = false := by rw [decide_eq_decide.2 (show (len : Int) ≤ (most : Int) ↔ len ≤ most by omega)]; exact decide_eq_false hc
    have hc2 : decide (len ≤ most) = false := decide_eq_false hc
    clear hc
    go_enter Tryz.func64, Tryz.ntmps64
    go_wp2_with fail
    refine R.out.mono ?_
    rintro e w' ⟨rfl, rfl⟩
    go_wp2_with fail
    refine O.out.mono ?_
    rintro e w' ⟨rfl, rfl⟩
    go_wp2_with fail
    refine P1.out.mono ?_
    rintro e w1 ⟨rfl, g1⟩
    have d0 := g1.c0
    have d2 := g1.c2
    have G1 := Lib.hid g1
    clear g1 c0
    go_wp2_with fail
    go_quiet ((go_at_call 89; exact quiet_left (L1.out _ _ G1.out)))
    go_wp2_with fail
    refine (B1.out _ (G1.out.drewN _)).mono ?_
    rintro e w' ⟨rfl, rfl⟩
    go_wp2_with fail
    refine (P2.out _ (G1.out.drewN _)).mono ?_
    rintro e w2 ⟨rfl, g2⟩
    have G2 := Lib.hid g2
    clear g2
    go_wp2
    go_ret
    rw [HT.out]
    exact ⟨rfl, F2.out _ G2.out⟩

/-- 'first' over the two lists. -/
theorem sl_first (h : SlS S w0 w b lb g q n most t) (a c : Nat) (ha : w.cell? ⟨a, 0, none⟩ = some (.int .i64 0)) (hc : w.cell? ⟨a, 1, none⟩ = some (.int .i64 1)) :
    Calls Tryz.prog 125 #[.pointer (some ⟨b, 0, none⟩), .slice (some ⟨a, 0, none⟩) 2 c] w fun e w' => e = .returned (.tuple #[.int .i64 ((((t.rows 0).reverse ++ (t.rows 1).reverse).headD 0 : Nat) : Int), .bool (!((t.rows 0).reverse ++ (t.rows 1).reverse).isEmpty)]) ∧ w = w' := by
  have c0 := h.c0
  have B0 : Calls Tryz.prog 90 #[.pointer (some ⟨lb, 0, none⟩), .int .i64 0] w fun e w' => e = .returned (.tuple #[.int .i64 (backN (t.rows 0) : Int), .bool (!(t.rows 0).isEmpty)]) ∧ w = w' := li_back h.2.1 0 (by omega)
  have B1 : Calls Tryz.prog 90 #[.pointer (some ⟨lb, 0, none⟩), .int .i64 1] w fun e w' => e = .returned (.tuple #[.int .i64 (backN (t.rows 1) : Int), .bool (!(t.rows 1).isEmpty)]) ∧ w = w' := li_back h.2.1 1 (by omega)
  have bk : ∀ l : List Nat, backN l = l.reverse.headD 0 := fun l => by
    rcases List.eq_nil_or_concat l with e | ⟨l, x, e⟩ <;> rw [e] <;> simp [backN]
  have v0 : t.rows 0 ≠ [] → ((t.rows 0).reverse ++ (t.rows 1).reverse).headD 0 = backN (t.rows 0) ∧ (!((t.rows 0).reverse ++ (t.rows 1).reverse).isEmpty) = true := fun h => by
    rw [bk]
    rcases List.eq_nil_or_concat (t.rows 0) with e | ⟨l, x, e⟩
    · exact absurd e h
    · rw [e]; simp
  have v1 : t.rows 0 = [] → ((t.rows 0).reverse ++ (t.rows 1).reverse).headD 0 = backN (t.rows 1) ∧ (!((t.rows 0).reverse ++ (t.rows 1).reverse).isEmpty) = !(t.rows 1).isEmpty := fun h => by
    rw [bk, h]; simp
  have i0 : t.rows 0 = [] ∨ t.rows 0 ≠ [] := by by_cases h : t.rows 0 = [] <;> simp [h]
  have i1 : t.rows 1 = [] ∨ t.rows 1 ≠ [] := by by_cases h : t.rows 1 = [] <;> simp [h]
  have n0 : t.rows 0 ≠ [] → (!(t.rows 0).isEmpty) = true := fun h => by simp [h]
  have n1 : t.rows 1 ≠ [] → (!(t.rows 1).isEmpty) = true := fun h => by simp [h]
  generalize ((t.rows 0).reverse ++ (t.rows 1).reverse).headD 0 = hd at *
  generalize (!((t.rows 0).reverse ++ (t.rows 1).reverse).isEmpty) = ok at *
  generalize hr0 : t.rows 0 = r0 at *
  generalize hr1 : t.rows 1 = r1 at *
  have B0 := Lib.hid B0
  have B1 := Lib.hid B1
  have V0 := Lib.hid v0
  have V1 := Lib.hid v1
  have N0 := Lib.hid n0
  have N1 := Lib.hid n1
  have I0 := Lib.hid i0
  have I1 := Lib.hid i1
  clear h hr0 hr1 v0 v1 bk n0 n1 i0 i1
  go_enter Tryz.func125, Tryz.ntmps125
  go_wp2
  go_loop [12] (fun i => ∃ k : Nat, k ≤ 2 ∧ i = .int .i64 (k : Int) ∧ (0 < k → r0 = []) ∧ (1 < k → r1 = [])) (fun i => 2 - (intOf i).toNat)
  case atStart => exact ⟨0, by omega, rfl, fun h => absurd h (by omega), fun h => absurd h (by omega)⟩
  case round =>
    obtain ⟨k, hk, rfl, e0, e1⟩ := hrel
    have E0 := Lib.hid e0
    have E1 := Lib.hid e1
    clear e0 e1
    have hkk : k = 0 ∨ k = 1 ∨ k = 2 := by omega
    rcases hkk with rfl | rfl | rfl
    · rcases I0.out with x | x
      · rw [x] at B0
        go_wp2_with fail
        refine B0.out.mono ?_
        rintro e w' ⟨rfl, rfl⟩
        go_wp2
        go_round
        case rel => exact ⟨1, by omega, rfl, fun _ => x, fun h => absurd h (by omega)⟩
        case measure => simp only [intOf]; omega
      · have y := N0.out x
        rw [y] at B0
        have z := Lib.hid (V0.out x)
        clear y
        go_wp2_with fail
        refine B0.out.mono ?_
        rintro e w' ⟨rfl, rfl⟩
        go_wp2
        go_ret2
        rw [z.out.1, z.out.2]
        exact ⟨rfl, rfl⟩
    · have x0 := E0.out (by omega)
      have z := Lib.hid (V1.out x0)
      rcases I1.out with x | x
      · rw [x] at B1
        clear x0
        go_wp2_with fail
        refine B1.out.mono ?_
        rintro e w' ⟨rfl, rfl⟩
        go_wp2
        go_round
        case rel => exact ⟨2, by omega, rfl, fun _ => E0.out (by omega), fun _ => x⟩
        case measure => simp only [intOf]; omega
      · have y := N1.out x
        rw [y] at B1 z
        clear y x0
        go_wp2_with fail
        refine B1.out.mono ?_
        rintro e w' ⟨rfl, rfl⟩
        go_wp2
        go_ret2
        rw [z.out.1, z.out.2]
        exact ⟨rfl, rfl⟩
    · have x0 := E0.out (by omega)
      have x1 := E1.out (by omega)
      have z := V1.out x0
      rw [x1] at z
      have Z := Lib.hid z
      clear z x0 x1
      go_wp2
      go_ret2
      rw [Z.out.1, Z.out.2]
      exact ⟨rfl, rfl⟩

theorem sl_victim {low high : List Nat} (h : SlO b n most low high S w) :
    Calls Tryz.prog 116 #[.pointer (some ⟨b, 0, none⟩)] w fun e w' => e = .returned (.tuple #[.int .i64 (((low ++ high).headD 0 : Nat) : Int), .bool (!(low ++ high).isEmpty)]) ∧ Below w.heap.size w w' := by
  obtain ⟨lb, g, q, t, h, h0, h1, hmo, hb, hlb, hg, hq⟩ := h.open_
  have R := Lib.hid (sl_real h)
  have h' : SlS S w (w.alloc (.cells #[.int .i64 0, .int .i64 1] 3)) b lb g q n most t :=
    ⟨h.1.past _, h.2.1.keep ((Keeps.refl (fun _ => False) w).alloc _) (fun x => x) (fun x => x) (fun x => x), h.2.2.alloc _⟩
  have F := fun c => sl_first h' w.heap.size c (blk_cell' (heap_at _ _ _ rfl) 0) (blk_cell' (heap_at _ _ _ rfl) 1)
  rw [h0, h1] at F
  generalize (low ++ high).headD 0 = hd at *
  generalize (!(low ++ high).isEmpty) = ok at *
  have F := Lib.hid F
  clear h h' h0 h1
  go_enter Tryz.func116, Tryz.ntmps116
  go_wp2_with fail
  refine R.out.mono ?_
  rintro e w' ⟨rfl, rfl⟩
  go_wp2_with fail
  refine (F.out _).mono ?_
  rintro e w' ⟨rfl, rfl⟩
  go_wp2
  go_ret2
  exact ⟨rfl, (Below.refl _ _).alloc (Nat.le_refl _) _⟩

theorem sl_new (w : World) (n : Nat) (f : Nat) (hn : n ≤ 1024) (hf : f < 18446744073709551616) (most : Nat) (hm : (most : Int) = shareI n f) :
    Calls Tryz.prog 55 #[.int .i64 (n : Int), .float .f64 f] w fun e w' => ∃ b, e = .returned (.tuple #[.pointer (some ⟨b, 0, none⟩), .int .i64 0]) ∧ SlO b n most [] [] (New w w') w' ∧ Below w.heap.size w w' := by
  have N : Calls Tryz.prog 75 #[.int .i64 (n : Int), .int .i64 2] w (NewLi n 2 w) := li_new w n 2 hn (by omega) (by omega)
  have N := Lib.hid N
  have hb := shareI_bd n f hf
  have SH := fun W => share_any n f hf W
  rw [← hm] at SH hb
  have SH := Lib.hid SH
  have hb2 : most ≤ 2147483648 := by omega
  clear hm hb
  go_enter Tryz.func55, Tryz.ntmps55
  go_wp2_with fail
  refine N.out.mono ?_
  rintro e w1 ⟨lb, g, q, rfl, h1, n1, n2, n3, b1⟩
  have H1 := Lib.hid h1
  have B1 := Lib.hid b1
  clear h1 b1
  go_wp2_with fail
  refine (SH.out _).mono ?_
  rintro e w' ⟨rfl, rfl⟩
  go_wp2
  go_ret2
  have T : Arr (w1.alloc (.cells #[.pointer (some ⟨lb, 0, none⟩), .int .i64 (n : Int), .int .i64 (most : Int)] 144)) w1.heap.size 144 3 (slF lb n most) :=
    Arr.mk_ (L := 3) (heap_at _ _ _ rfl) (by rfl) (fun i (hi : i < 3) => by
      have : i = 0 ∨ i = 1 ∨ i = 2 := by omega
      rcases this with rfl | rfl | rfl <;> rfl)
  have kk : Keeps (fun _ => False) w1 (w1.alloc (.cells #[.pointer (some ⟨lb, 0, none⟩), .int .i64 (n : Int), .int .i64 (most : Int)] 144)) := (Keeps.refl _ _).alloc _
  have z : ∀ j, New w w1 j → New w (w1.alloc (.cells #[.pointer (some ⟨lb, 0, none⟩), .int .i64 (n : Int), .int .i64 (most : Int)] 144)) j := fun j x => ⟨x.1, by have := x.2; rw [World.size_alloc]; omega⟩
  exact ⟨_, rfl, ⟨lb, g, q, newLS, T, H1.out.keep kk (fun x => x) (fun x => x) (fun x => x), rfl, rfl, hb2, ⟨B1.out.size, by rw [World.size_alloc]; omega⟩, z _ n1, z _ n2, z _ n3⟩, B1.out.alloc B1.out.size _⟩
end

end Go.Proofs.YtbgknopjgohocaaGreat
