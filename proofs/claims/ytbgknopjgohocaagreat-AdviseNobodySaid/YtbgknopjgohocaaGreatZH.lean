/- Several texts of this claim, one behind the other. -/
import Derived.Test.YtbgknopjgohocaaGreatUf
import Derived.Test.YtbgknopjgohocaaGreatZI
import Derived.Deep.MidRow
import Derived.Test.YtbgknopjgohocaaGreatRd
import Derived.Laws.AppendOwnNone
import Derived.OwnWalk

/- The page's example of a trace, walked. -/
namespace Go.Proofs.YtbgknopjgohocaaGreat
open Go.RowKit Fl
open Scan hiding isN
set_option linter.unusedVariables false
set_option maxRecDepth 100000
set_option maxHeartbeats 2000000

theorem cnf_there (w1 : World) : (w1.alloc (.cells #[.int .i64 0, .int .i64 0, .int .i64 0, .int .i64 0, .int .i64 0, .int .u64 0, .float .f64 0, .float .f64 0, .float .f64 0, .int .i64 0] 28)).there w1.heap.size 0 10 := fun j hj => by
  have : j = 0 ∨ j = 1 ∨ j = 2 ∨ j = 3 ∨ j = 4 ∨ j = 5 ∨ j = 6 ∨ j = 7 ∨ j = 8 ∨ j = 9 := by omega
  have hy := heap_at w1 (.cells #[.int .i64 0, .int .i64 0, .int .i64 0, .int .i64 0, .int .i64 0, .int .u64 0, .float .f64 0, .float .f64 0, .float .f64 0, .int .i64 0] 28) w1.heap.size rfl
  rw [Nat.zero_add]
  refine ⟨?_, blk_free hy j⟩
  rw [blk_cell' hy]
  rcases this with rfl | rfl | rfl | rfl | rfl | rfl | rfl | rfl | rfl | rfl <;> rfl
theorem cnf_kept (w1 : World) (c : CF) : BX ((w1.alloc (.cells #[.int .i64 0, .int .i64 0, .int .i64 0, .int .i64 0, .int .i64 0, .int .u64 0, .float .f64 0, .float .f64 0, .float .f64 0, .int .i64 0] 28)).setCells w1.heap.size 0 c.cs.toList) w1.heap.size c ∧ (Below w1.heap.size w1 ((w1.alloc (.cells #[.int .i64 0, .int .i64 0, .int .i64 0, .int .i64 0, .int .i64 0, .int .u64 0, .float .f64 0, .float .f64 0, .float .f64 0, .int .i64 0] 28)).setCells w1.heap.size 0 c.cs.toList) ∧ ((w1.alloc (.cells #[.int .i64 0, .int .i64 0, .int .i64 0, .int .i64 0, .int .i64 0, .int .u64 0, .float .f64 0, .float .f64 0, .float .f64 0, .int .i64 0] 28)).setCells w1.heap.size 0 c.cs.toList).heap.size = w1.heap.size + 1) := by
  have CI := World.cell?_setCells_in w1.heap.size c.cs.toList 0 (w1.alloc (.cells #[.int .i64 0, .int .i64 0, .int .i64 0, .int .i64 0, .int .i64 0, .int .u64 0, .float .f64 0, .float .f64 0, .float .f64 0, .int .i64 0] 28)) (fun j hj => (cnf_there w1 j hj).1)
  simp only [Nat.zero_add] at CI
  have k := Keeps.setCells w1.heap.size c.cs.toList 0 (w1.alloc (.cells #[.int .i64 0, .int .i64 0, .int .i64 0, .int .i64 0, .int .i64 0, .int .u64 0, .float .f64 0, .float .f64 0, .float .f64 0, .int .i64 0] 28))
  refine ⟨⟨CI 0 (show 0 < 10 by omega), CI 1 (show 1 < 10 by omega), CI 2 (show 2 < 10 by omega), CI 3 (show 3 < 10 by omega), CI 4 (show 4 < 10 by omega), CI 5 (show 5 < 10 by omega), CI 6 (show 6 < 10 by omega), CI 7 (show 7 < 10 by omega), CI 8 (show 8 < 10 by omega), CI 9 (show 9 < 10 by omega)⟩, ((Keeps.of_below ((Below.refl w1.heap.size w1).alloc (Nat.le_refl _) (.cells #[.int .i64 0, .int .i64 0, .int .i64 0, .int .i64 0, .int .i64 0, .int .u64 0, .float .f64 0, .float .f64 0, .float .f64 0, .int .i64 0] 28))).trans k (fun n (hn : n = w1.heap.size) => .inl (by omega))).below (Nat.le_refl _), ?_⟩
  have : ∀ (vs : List Value) (o : Nat) (W : World), (W.setCells w1.heap.size o vs).heap.size = W.heap.size := by
    intro vs
    induction vs with
    | nil => intro o W; rfl
    | cons v r ih => intro o W; rw [World.setCells, ih, World.size_setCell]
  rw [this]
  simp
theorem cnf_put (w1 : World) (k0 k1 k2 k3 k4 k5 : Int) (k6 k7 k8 : Nat) (k9 : Int) : ∃ w3, (w1.alloc (.cells #[.int .i64 0, .int .i64 0, .int .i64 0, .int .i64 0, .int .i64 0, .int .u64 0, .float .f64 0, .float .f64 0, .float .f64 0, .int .i64 0] 28)).setCells w1.heap.size 0 (#[.int .i64 k0, .int .i64 k1, .int .i64 k2, .int .i64 k3, .int .i64 k4, .int .u64 k5, .float .f64 k6, .float .f64 k7, .float .f64 k8, .int .i64 k9] : Array Value).toList = w3 ∧ BX w3 w1.heap.size ⟨k0, k1, k2, k3, k4, k5, k6, k7, k8, k9⟩ ∧ (Below w1.heap.size w1 w3 ∧ w3.heap.size = w1.heap.size + 1) :=
  ⟨_, rfl, cnf_kept w1 ⟨k0, k1, k2, k3, k4, k5, k6, k7, k8, k9⟩⟩

theorem conf36 (w : World) : Calls Tryz.prog 24 #[] w fun e w' => e = .returned (.agg #[.int .i64 9, .int .i64 2, .int .i64 1, .int .i64 1, .int .i64 50, .int .u64 1, .float .f64 4602678819172646912, .float .f64 4607182418800017408, .float .f64 4607182418800017408, .int .i64 0]) ∧ Below w.heap.size w w' := by
  have TH := Lib.hid (cnf_there w)
  go_enter Tryz.func24, Tryz.ntmps24
  go_wp2_with (
    refine wpList_store_mid rfl 28 (.tmp 0) (.tmp 1) rfl w.heap.size 0 #[.int .i64 9, .int .i64 2, .int .i64 1, .int .i64 1, .int .i64 50, .int .u64 1, .float .f64 4602678819172646912, .float .f64 4607182418800017408, .float .f64 4607182418800017408, .int .i64 0] rfl rfl TH.out (by kernel_rfl) (by simp [Value.oneCell']) ?_
    obtain ⟨w3, hw3, BXC, BXB⟩ := cnf_put w 9 2 1 1 50 1 4602678819172646912 4607182418800017408 4607182418800017408 0
    rw [hw3]
    have B3 := Lib.hid BXB.1
    have BXC := Lib.hid BXC
    clear hw3 TH BXB)
  obtain ⟨r0, r1, r2, r3, r4, r5, r6, r7, r8, r9⟩ := BXC.out
  refine bodyPost_ret (v := .agg #[.int .i64 9, .int .i64 2, .int .i64 1, .int .i64 1, .int .i64 50, .int .u64 1, .float .f64 4602678819172646912, .float .f64 4607182418800017408, .float .f64 4607182418800017408, .int .i64 0]) (by simp [results, Tryz.results24, go_sem, r0, r1, r2, r3, r4, r5, r6, r7, r8, r9]) rfl ⟨rfl, B3.out⟩

abbrev row36 : Obj := .cells #[.int .i64 5, .int .i64 5, .int .i64 6, .int .i64 5] 3
theorem row36_at (w1 : World) : RdZ2 (w1.alloc row36) (some ⟨w1.heap.size, 0, none⟩) 4 z36 := fun _ => by
  refine ⟨w1.heap.size, 0, rfl, by simp, fun i hi => ?_⟩
  rw [blk_cell' (heap_at w1 row36 _ rfl)]
  have : i = 0 ∨ i = 1 ∨ i = 2 ∨ i = 3 := by omega
  rcases this with rfl | rfl | rfl | rfl <;> exact ⟨rfl, by decide, by decide⟩
theorem pair36_at (w5 : World) : RdI (w5.alloc (.cells #[.int .i64 1, .int .i64 3] 3)) (.slice (some ⟨w5.heap.size, 0, none⟩) 2 2) [1, 3] := by
  refine ⟨_, _, rfl, .inr ⟨_, rfl, fun i hi => ?_⟩⟩
  rw [blk_cell' (heap_at w5 (.cells #[.int .i64 1, .int .i64 3] 3) _ rfl)]
  have hi : i < 2 := hi
  have : i = 0 ∨ i = 1 := by omega
  rcases this with rfl | rfl <;> rfl
theorem tlA36 : tlA (goR (rcOf cf36) z36 4).2.t = #[.int .i64 2, .int .i64 2, .int .i64 0, .int .i64 2, .int .i64 0, .int .i64 0, .int .i64 0, .int .i64 0, .int .i64 0, .int .i64 0, .int .i64 0, .int .i64 0, .int .i64 6, .int .i64 0] := by kernel_rfl
theorem awake36 (w : World) : Calls Tryz.prog 12 #[] w fun e w' => e = .returned (.bool true) ∧ Below w.heap.size w w' := by
  have CN := Lib.hid conf36
  have RN := Lib.hid (fun (a : Option Addr) (W : World) (hr : RdZ2 W a 4 z36) => show Calls Tryz.prog 9 #[.agg #[.int .i64 9, .int .i64 2, .int .i64 1, .int .i64 1, .int .i64 50, .int .u64 1, .float .f64 4602678819172646912, .float .f64 4607182418800017408, .float .f64 4607182418800017408, .int .i64 0], .slice a 4 4] W (fun e w' => e = .returned (.tuple #[.agg #[.int .i64 2, .int .i64 2, .int .i64 0, .int .i64 2, .int .i64 0, .int .i64 0, .int .i64 0, .int .i64 0, .int .i64 0, .int .i64 0, .int .i64 0, .int .i64 0, .int .i64 6, .int .i64 0], .int .i64 0]) ∧ Below W.heap.size W w') from (tr_run cf36 cf36_ok cf36_may a 4 4 z36 W hr (by omega) (by omega) (by omega)).mono (fun e w' ⟨he, _, hb⟩ => ⟨by rw [he, tlA36], hb⟩))
  have HN := Lib.hid (fun (a : Option Addr) (W : World) (hr : RdZ2 W a 4 z36) => show Calls Tryz.prog 8 #[.agg #[.int .i64 9, .int .i64 2, .int .i64 1, .int .i64 1, .int .i64 50, .int .u64 1, .float .f64 4602678819172646912, .float .f64 4607182418800017408, .float .f64 4607182418800017408, .int .i64 0], .slice a 4 4] W (fun e w' => ∃ v, e = .returned (.tuple #[v, .int .i64 0]) ∧ RdI w' v [1, 3] ∧ Below W.heap.size W w') from (tr_hits cf36 cf36_ok cf36_may a 4 4 z36 W hr (by omega) (by omega) (by omega)).mono (fun e w' ⟨v, he, hr, _, _, hb⟩ => ⟨v, he, by rw [aw36_h] at hr; exact rdI_of hr, hb⟩))
  go_enter Tryz.func12, Tryz.ntmps12
  go_wp2_with fail
  refine (CN.out _).mono ?_
  rintro e w1 ⟨rfl, b1⟩
  have B1 := Lib.hid b1
  clear b1
  go_wp2_with fail
  refine (RN.out _ _ (row36_at w1)).mono ?_
  rintro e w2 ⟨rfl, b2⟩
  have B2 := Lib.hid (B1.out.trans ((((Below.refl w1.heap.size w1).alloc (Nat.le_refl _) row36).trans (b2.mono (by simp))).mono B1.out.size))
  have TH0 := Lib.hid (heap_at w2 tlZ _ rfl)
  have TH := Lib.hid (tl_there TH0.out)
  clear b2
  go_wp2_with (
    refine wpList_store_mid rfl 35 (.tmp 1) (.tmp 9) rfl w2.heap.size 0 #[.int .i64 2, .int .i64 2, .int .i64 0, .int .i64 2, .int .i64 0, .int .i64 0, .int .i64 0, .int .i64 0, .int .i64 0, .int .i64 0, .int .i64 0, .int .i64 0, .int .i64 6, .int .i64 0] rfl rfl TH.out (by kernel_rfl) (by simp [Value.oneCell']) ?_
    obtain ⟨w3, hw3, FC, KC⟩ := tl_put TH0.out (.int .i64 2) (.int .i64 2) (.int .i64 0) (.int .i64 2) (.int .i64 0) (.int .i64 6)
    rw [hw3]
    have B3 := Lib.hid (B2.out.trans ((((Keeps.of_below ((Below.refl w2.heap.size w2).alloc (Nat.le_refl _) tlZ)).trans KC (fun j (hj : j = w2.heap.size) => .inl (by omega))).below (Nat.le_refl _)).mono B2.out.size))
    have t0 : w3.cell? ⟨w2.heap.size, 0, none⟩ = some (.int .i64 2) := FC.1
    have t1 : w3.cell? ⟨w2.heap.size, 1, none⟩ = some (.int .i64 2) := FC.2.1
    have lt := World.block_lt_of_cell? w3 _ t0
    have CL := Lib.hid (fun W (kk : Below w3.heap.size w3 W) => And.intro ((kk.cell (p := ⟨w2.heap.size, 0, none⟩) lt).trans t0) ((kk.cell (p := ⟨w2.heap.size, 1, none⟩) lt).trans t1))
    clear hw3 TH TH0 KC FC t0 t1 lt)
  refine (CN.out _).mono ?_
  rintro e w4 ⟨rfl, b4⟩
  have B4 := Lib.hid b4
  clear b4
  go_wp2_with fail
  refine (HN.out _ _ (row36_at w4)).mono ?_
  rintro e w5 ⟨v, rfl, rd, b5⟩
  have K5 := Lib.hid (B4.out.trans ((((Below.refl w4.heap.size w4).alloc (Nat.le_refl _) row36).trans (b5.mono (by simp))).mono B4.out.size))
  have B5 := Lib.hid (B3.out.trans (K5.out.mono B3.out.size))
  have RD := Lib.hid rd
  obtain ⟨t0, t1⟩ := CL.out _ K5.out
  clear b5 rd
  go_wp2_with fail
  refine (same_rows (RD.out.below ((Below.refl w5.heap.size w5).alloc (Nat.le_refl _) (.cells #[.int .i64 1, .int .i64 3] 3))) (pair36_at w5) (by decide) (by decide)).mono ?_
  rintro e w6 ⟨he, k, rfl⟩
  obtain rfl : e = .returned (.bool true) := by rw [he]; rfl
  have B6 := Lib.hid (((Keeps.of_below (B5.out.trans (((Below.refl w5.heap.size w5).alloc (Nat.le_refl _) (.cells #[.int .i64 1, .int .i64 3] 3)).mono B5.out.size))).drewN k).below (Nat.le_refl _))
  go_wp2
  go_ret
  exact ⟨rfl, B6.out⟩
end Go.Proofs.YtbgknopjgohocaaGreat


/- Reads of which not more than so many are looked at. -/
namespace Go.Proofs.YtbgknopjgohocaaGreat
open Go.RowKit
set_option linter.unusedVariables false
set_option maxRecDepth 100000
set_option maxHeartbeats 2000000

theorem RdZ2.less {w : World} {a : Option Addr} {n m : Nat} {z : Nat → Int} (h : RdZ2 w a n z) (hm : m ≤ n) : RdZ2 w a m z := fun h0 => by
  obtain ⟨g, off, e, gl, hz⟩ := h (by omega)
  exact ⟨g, off, e, gl, fun i hi => hz i (by omega)⟩
theorem few36 (a : Option Addr) (n cp k : Nat) (z : Nat → Int) (w : World) (h : RdZ2 w a n z) (hc : n ≤ cp) (hm : cp ≤ 9223372036854775807) (hk : k ≤ 1000) :
    Calls Tryz.prog 7 #[.slice a n cp, .int .i64 (k : Int)] w fun e w' => e = .returned (.slice a (min n k) cp) ∧ w = w' := by
  have h1 : (n : Int) ≤ (cp : Int) := by omega
  have h2 : (cp : Int) ≤ 9223372036854775807 := by omega
  have h3 : (k : Int) ≤ 1000 := by omega
  by_cases hlt : (k : Int) < (n : Int)
  · obtain ⟨g, off, rfl, _, _⟩ := h (by omega)
    have hmin : min n k = k := by omega
    have h4 : (k : Int) ≤ (cp : Int) := by omega
    rw [hmin]
    clear h hc hm hk hmin
    go_enter Tryz.func7, Tryz.ntmps7
    go_wp2
    go_ret
    exact ⟨rfl, rfl⟩
  · have hmin : min n k = n := by omega
    rw [hmin]
    clear h hc hm hk hmin
    go_enter Tryz.func7, Tryz.ntmps7
    go_wp2
    go_ret
    exact ⟨rfl, rfl⟩
end Go.Proofs.YtbgknopjgohocaaGreat


/- Reads that came in. -/
namespace Go.Proofs.YtbgknopjgohocaaGreat
open Go.RowKit Go.Deep Go.ChangeShapes Go.WideShapes Go.ChangeAt
set_option linter.unusedVariables false
set_option maxRecDepth 100000
set_option maxHeartbeats 1000000

theorem reads_of {H : Type} {enc : TypeId × Value → H} {W : World} {sp : Nat → Bool} {held : Bool} {a : Option Addr} {len cap : Nat} {d : DataW H} {p : List MemPlace} (h : DataW.Trod enc Tryz.prog W 0 sp held 25 (.slice a len cap) d p) :
    ∃ z, RdZ2 W a len z ∧ len ≤ cap ∧ cap ≤ 9223372036854775807 ∧ (a = none → len = 0 ∧ cap = 0) := by
  obtain ⟨z, ⟨h1, h2⟩, h3, h4⟩ := i64s_of h
  refine ⟨z, fun h0 => ?_, h3, h4, ?_⟩
  · obtain ⟨b, off, e, hc⟩ := h2 h0
    exact ⟨b, off, e, World.block_lt_of_cell? W _ (hc 0 h0), fun i hi => ⟨hc i hi, i64_bd (h1 i hi)⟩⟩
  · intro e
    subst e
    obtain ⟨fuel, hf⟩ := h
    rcases open_slice Tryz.underlying25 hf with ⟨hcs, _⟩ | ⟨x, l, c, m, n, D, Pl, hcs, hb, hl, hm, hmm, _, hx⟩
    · simp [Value.cells] at hcs
      exact hcs
    · simp [Value.cells] at hcs
end Go.Proofs.YtbgknopjgohocaaGreat


/- A row that came in, hung behind a row of one's own. -/
namespace Go.Proofs.YtbgknopjgohocaaGreat
open Go.RowKit
set_option linter.unusedVariables false

theorem wpList_append_row {P : Program} {w : World} {ops : Array Oper} {rest : List Oper} {o : Oper} {a : Act} {Q : Exit → Act → World → Prop} (hgd : o.guard = none) (s x : Operand) (t : TypeId)
    (ho : o.op = .call { callee := .builtin .append, args := #[s, x], argTypes := #[t, t] })
    (base : Nat) (e : TypeId) (i : TypeInfo) (z : Value) (bytes : Nat) (ht : P.underlying t = some (.slice e)) (hi : P.info? e = some i) (hz : i.zero = some z)
    (hsize : i.size = 1) (hby : i.bytes = bytes) (hzs : z.cells.size = 1)
    (v : Value) (n : Nat) (xs : List Value) (hs : a.eval s = v) (hown : w.ownsRow base e 1 v n xs)
    (A : Option Addr) (m c : Nat) (news : List Value) (hx : a.eval x = .slice A m c) (hA : A = none → m = 0 ∧ c = 0) (hl : news.length = m) (hnews : ∀ ad, A = some ad → ∀ j u, news[j]? = some u → w.cell? (ad.add j) = some u) (h1 : ∀ u ∈ news, u.oneCell' = true)
    (h63 : n + m ≤ maxLen) (hbytes : (n + m) * bytes ≤ 140737488355328) (hbase : base ≤ w.heap.size)
    (h : ∀ v' w', w'.ownsRow base e 1 v' (n + m) (xs ++ news) → w.grownBy w' v.ownBlock → wpList P ops Q rest (a.put o.dst v') w') : wpList P ops Q (o :: rest) a w := by
  cases A with
  | none =>
    obtain ⟨rfl, rfl⟩ := hA rfl
    obtain rfl : news = [] := List.length_eq_zero_iff.1 hl
    exact wpList_append_own_none hgd s x t ho base e i 1 ht hi v n xs hs hown hx (h v w (by simpa using hown) (World.grownBy.refl w _))
  | some ad =>
    exact wpList_append_own w hgd s x t ho base e i z 1 bytes ht hi hz hsize hby hzs (by decide) v n xs hs hown ad m c news hx (by omega) (hnews ad rfl) h1 h63 hbytes hbase (fun v' w' h2 h3 _ => h v' w' h2 h3)
end Go.Proofs.YtbgknopjgohocaaGreat
