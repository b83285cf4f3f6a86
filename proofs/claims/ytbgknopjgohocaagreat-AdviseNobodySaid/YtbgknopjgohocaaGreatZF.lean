/- Several texts of this claim, one behind the other. -/
import Derived.Test.YtbgknopjgohocaaGreatPf
import Derived.Test.YtbgknopjgohocaaGreatQo
import Derived.Test.YtbgknopjgohocaaGreatPn

/- A trace that is reckoned: where its parts lie; the free slot of the least wear. -/
namespace Go.Proofs.YtbgknopjgohocaaGreat
open Go.RowKit
set_option linter.unusedVariables false
set_option maxRecDepth 100000
set_option maxHeartbeats 2000000

/-- What is counted. -/
structure TL where
  hits : Nat
  misses : Nat
  byps : Nat
  fills : Nat
  evic : Nat
  filled : Nat
structure RJ where
  po : Nat
  pl : Nat
  qu : Nat
  we : Nat
def ruF (q : RJ) (n nb : Nat) (t : TL) (told : Value) : Nat → Value
  | 0 => .pointer (some ⟨q.po, 0, none⟩)
  | 1 => .pointer (some ⟨q.pl, 0, none⟩)
  | 2 => .pointer (some ⟨q.qu, 0, none⟩)
  | 3 => .slice (some ⟨q.we, 0, none⟩) n n
  | 4 => .int .i64 (nb : Int)
  | 5 => .int .i64 (t.hits : Int)
  | 6 => .int .i64 (t.misses : Int)
  | 7 => .int .i64 (t.byps : Int)
  | 8 => .int .i64 (t.fills : Int)
  | 9 => .int .i64 (t.evic : Int)
  | 17 => .int .i64 (t.filled : Int)
  | 19 => told
  | _ => .int .i64 0
def weF (wear : Nat → Nat) (i : Nat) : Value := .int .i64 (wear i : Int)
/-- Settings of a trace. -/
structure RC where
  c : PC
  nb : Nat
  window : Nat
  most : Nat
/-- What it holds. -/
structure RV where
  pv : PV
  np : Nat
  pl : PLS
  used : Nat
  wear : Nat → Nat
  t : TL
abbrev RuX (b : Nat) (q : RJ) (r : RC) (told : Value) (s : RV) : (Nat → Prop) → World → Prop :=
  Two (Cel b 64 20 (ruF q r.c.n r.nb s.t told)) (Two (PoO q.po r.c s.pv) (Two (PlO q.pl r.nb r.c.n s.np s.pl) (Two (QuO q.qu r.window r.most s.used) (Cel q.we 3 r.c.n (weF s.wear)))))

section
variable {S : Nat → Prop} {w0 w : World} {b : Nat} {q : RJ} {r : RC} {told : Value} {s : RV}
theorem RuX.top (h : RuX b q r told s S w) : Arr w b 64 20 (ruF q r.c.n r.nb s.t told) := by
  obtain ⟨A, h, _⟩ := Two.l h
  exact h.2
theorem RuX.pol (h : RuX b q r told s S w) : ∃ A, PoO q.po r.c s.pv A w ∧ Own A w := by
  obtain ⟨A, h, _⟩ := Two.r h
  exact Two.l h
theorem RuX.pla (h : RuX b q r told s S w) : ∃ sb wb m, Pl w q.pl sb wb r.nb r.c.n s.np s.pl m := by
  obtain ⟨A, h, _⟩ := Two.r h
  obtain ⟨A, h, _⟩ := Two.r h
  obtain ⟨A, ⟨sb, wb, m, h, _⟩, _⟩ := Two.l h
  exact ⟨sb, wb, m, h⟩
theorem RuX.bud (h : RuX b q r told s S w) : ∃ A, QuO q.qu r.window r.most s.used A w ∧ Own A w := by
  obtain ⟨A, h, _⟩ := Two.r h
  obtain ⟨A, h, _⟩ := Two.r h
  obtain ⟨A, h, _⟩ := Two.r h
  exact Two.l h
theorem RuX.wea (h : RuX b q r told s S w) : Arr w q.we 3 r.c.n (weF s.wear) := by
  obtain ⟨A, h, _⟩ := Two.r h
  obtain ⟨A, h, _⟩ := Two.r h
  obtain ⟨A, h, _⟩ := Two.r h
  obtain ⟨A, h, _⟩ := Two.r h
  exact h.2
variable {f : FuncId} {args : Array Value} {V : Ending → Prop}
theorem RuX.polc {pv' : PV} (hc : ∀ A, PoO q.po r.c s.pv A w → Own A w → Calls Tryz.prog f args w fun e w' => V e ∧ PoO q.po r.c pv' (Ext A w w') w' ∧ Keeps A w w') :
    ∀ A, RuX b q r told s A w → Own A w → Calls Tryz.prog f args w fun e w' => V e ∧ RuX b q r told { s with pv := pv' } (Ext A w w') w' ∧ Keeps A w w' :=
  fun A h _ => Two.right h fun A h _ => Two.left h hc
theorem RuX.plac {np' : Nat} {pl' : PLS} (hc : ∀ A, PlO q.pl r.nb r.c.n s.np s.pl A w → Own A w → Calls Tryz.prog f args w fun e w' => V e ∧ PlO q.pl r.nb r.c.n np' pl' (Ext A w w') w' ∧ Keeps A w w') :
    ∀ A, RuX b q r told s A w → Own A w → Calls Tryz.prog f args w fun e w' => V e ∧ RuX b q r told { s with np := np', pl := pl' } (Ext A w w') w' ∧ Keeps A w w' :=
  fun A h _ => Two.right h fun A h _ => Two.right h fun A h _ => Two.left h hc
theorem RuX.budc {used' : Nat} (hc : ∀ A, QuO q.qu r.window r.most s.used A w → Own A w → Calls Tryz.prog f args w fun e w' => V e ∧ QuO q.qu r.window r.most used' (Ext A w w') w' ∧ Keeps A w w') :
    ∀ A, RuX b q r told s A w → Own A w → Calls Tryz.prog f args w fun e w' => V e ∧ RuX b q r told { s with used := used' } (Ext A w w') w' ∧ Keeps A w w' :=
  fun A h _ => Two.right h fun A h _ => Two.right h fun A h _ => Two.right h fun A h _ => Two.left h hc
theorem RuX.setT (t' : TL) (i : Nat) (v : Value) (e : ∀ k, k < 20 → (if k = i then v else ruF q r.c.n r.nb s.t told k) = ruF q r.c.n r.nb t' told k) : Moves (RuX b q r told s) (RuX b q r told { s with t := t' }) w (w.setCell ⟨b, i, none⟩ v) :=
  Moves.left (Cel.set b _ 20 _ _ i _ w e)
theorem RuX.setW (i n : Nat) : Moves (RuX b q r told s) (RuX b q r told { s with wear := fun k => if k = i then n else s.wear k }) w (w.setCell ⟨q.we, i, none⟩ (.int .i64 (n : Int))) :=
  Moves.right (Moves.right (Moves.right (Moves.right (Cel.set q.we _ r.c.n _ _ i _ w (fun k hk => by
    show (if k = i then Value.int .i64 (n : Int) else .int .i64 (s.wear k : Int)) = .int .i64 ((if k = i then n else s.wear k : Nat) : Int)
    split <;> rfl)))))

/-! ### The free slot of the least wear -/
def stepW (wear : Nat → Nat) (a : Nat × Bool) (x : Nat) : Nat × Bool := if a.2 = false ∨ wear x < wear a.1 then (x, true) else a
def leastP (wear : Nat → Nat) (l : List Nat) : Nat × Bool := l.foldl (stepW wear) (0, false)
theorem leastP_take {wear : Nat → Nat} {l : List Nat} {k x : Nat} (h : l[k]? = some x) : leastP wear (l.take (k + 1)) = stepW wear (leastP wear (l.take k)) x := by
  unfold leastP
  rw [List.take_add_one, h, List.foldl_append]
  rfl
theorem stepW_mem {wear : Nat → Nat} {a : Nat × Bool} {x : Nat} : (stepW wear a x).2 = true ∧ ((stepW wear a x).1 = x ∨ ((stepW wear a x).1 = a.1 ∧ a.2 = true)) := by
  unfold stepW
  split
  · exact ⟨rfl, .inl rfl⟩
  · rename_i h
    have : a.2 = true := by cases ha : a.2 <;> simp_all
    exact ⟨this, .inr ⟨rfl, this⟩⟩
theorem leastP_mem {wear : Nat → Nat} : ∀ (l : List Nat), (leastP wear l).2 = true → (leastP wear l).1 ∈ l := by
  suffices H : ∀ (l : List Nat) (a : Nat × Bool) (m : List Nat), (a.2 = true → a.1 ∈ m) → ((l.foldl (stepW wear) a).2 = true → (l.foldl (stepW wear) a).1 ∈ m ++ l) by
    intro l h
    have := H l (0, false) [] (fun h => by cases h) h
    rw [List.nil_append] at this
    exact this
  intro l
  induction l with
  | nil => intro a m ha h; simpa using ha h
  | cons x r ih =>
    intro a m ha h
    have := ih (stepW wear a x) (m ++ [x]) (fun _ => by
      rcases (stepW_mem (wear := wear) (a := a) (x := x)).2 with e | ⟨e, e2⟩
      · rw [e]; simp
      · rw [e]; simp [ha e2]) h
    simpa using this

theorem ru_least (h : RuX b q r told s S w) (hw : ∀ i, s.wear i ≤ 1000000) (hn : r.c.n ≤ 192) :
    Calls Tryz.prog 92 #[.pointer (some ⟨b, 0, none⟩)] w fun e w' => e = .returned (.tuple #[.int .i64 ((leastP s.wear (freeL s.pl.sl r.c.n)).1 : Int), .bool (leastP s.wear (freeL s.pl.sl r.c.n)).2]) ∧ Below w.heap.size w w' := by
  obtain ⟨sb, wb, m, hp⟩ := h.pla
  have FR := Lib.hid (pl_free (w := w.drew) ⟨hp.top, hp.sl, hp.wh, hp.i⟩)
  have c1 : w.cell? ⟨b, 1, none⟩ = some (.pointer (some ⟨q.pl, 0, none⟩)) := h.top.cell (i := 1) (by omega)
  have c3 : w.cell? ⟨b, 3, none⟩ = some (.slice (some ⟨q.we, 0, none⟩) r.c.n r.c.n) := h.top.cell (i := 3) (by omega)
  have KC := Lib.hid (fun W (k : Below w.heap.size w W) => (k.cell (p := ⟨b, 3, none⟩) h.top.lt).trans c3)
  have KW := Lib.hid (fun W (k : Below w.heap.size w W) (i : Nat) (hi : i < r.c.n) => show W.cell? ⟨q.we, i, none⟩ = some (.int .i64 (s.wear i : Int)) from (k.cell (p := ⟨q.we, i, none⟩) h.wea.lt).trans (h.wea.cell hi))
  have HW := Lib.hid hw
  have LB := Lib.hid h.top.lt
  have FM := Lib.hid (fun x hx => (freeL_mem (sl := s.pl.sl) (n := r.c.n) (k := x) hx).1)
  have FL := Lib.hid (Nat.le_trans (freeL_len s.pl.sl r.c.n) hn)
  have hn1 : (r.c.n : Int) ≤ 192 := by omega
  clear h hp hw hn
  generalize freeL s.pl.sl r.c.n = l at *
  go_enter Tryz.func92, Tryz.ntmps92
  go_wp2_with fail
  have KB := Lib.hid (fun W (k : Below w.heap.size w W) => And.intro ((k.cell (p := ⟨b, 1, none⟩) LB.out).trans c1) (KC.out W k))
  go_region_held_law (fun W => W.cell? ⟨b, 1, none⟩ = some (.pointer (some ⟨q.pl, 0, none⟩)) ∧ W.cell? ⟨b, 3, none⟩ = some (.slice (some ⟨q.we, 0, none⟩) r.c.n r.c.n)) (first | exact ⟨c1, c3⟩ | exact KB.out _ b1') (first
    | (go_at_call 115; (with_reducible refine FR.out.mono ?_); rintro e w1 ⟨v, rfl, o1, b1⟩; have b1' := (Below.refl w.heap.size w).drew.trans b1; obtain ⟨A, ca, rfl⟩ := ownRow_any o1))
  have B1 := Lib.hid b1'
  have O1 := Lib.hid o1
  obtain ⟨L, hL⟩ : ∃ L, l.length = L := ⟨_, rfl⟩
  rw [hL]
  have HL := Lib.hid hL
  have hL1 : (L : Int) ≤ 192 := by have := FL.out; omega
  clear o1 b1 b1' hL c1 c3
  go_wp2
  go_loopw [4, 5, 19] (fun x y i wr => ∃ k : Nat, k ≤ L ∧ i = .int .i64 (k : Int) ∧ x = .int .i64 ((leastP s.wear (l.take k)).1 : Int) ∧ y = .bool (leastP s.wear (l.take k)).2 ∧ Below w1.heap.size w1 wr) (fun _ _ i _ => L - (intOf i).toNat)
  case atStart => exact ⟨0, Nat.zero_le _, rfl, rfl, rfl, Below.refl _ _⟩
  case round =>
    obtain ⟨k, hk, rfl, rfl, rfl, bw⟩ := hrel
    have HB := Lib.hid bw
    have BW := B1.out.trans (bw.mono B1.out.size)
    by_cases hc : (k : Int) < (L : Int)
    · have hk2 : k < l.length := by have := HL.out; omega
      obtain ⟨g, rfl⟩ : ∃ g, A = some ⟨g, 0, none⟩ := by
        rcases O1.out.2 with ⟨e, h0⟩ | ⟨g, cap, cur, e, _⟩
        · omega
        · simp at e; exact ⟨g, e.1⟩
      have hx := List.getElem?_eq_getElem hk2
      have hxm := List.getElem_mem hk2
      have TK := leastP_take (wear := s.wear) hx
      have e0 : wr.cell? ⟨g, k, none⟩ = some (.int .i64 (l[k] : Int)) := by
        have := O1.out.cells (g := g) rfl k (intV l[k]) (by rw [List.getElem?_map, hx]; rfl)
        rw [addr_addG] at this
        simp only [Nat.zero_add] at this
        exact (bw.cell (p := ⟨g, k, none⟩) (O1.out.lt g rfl).2).trans this
      have hL9 : (L : Int) ≤ (ca : Int) := by
        rcases O1.out.2 with ⟨e, h0⟩ | ⟨g, cap, cur, e, _, _, h, _⟩
        · omega
        · have := HL.out; simp at e; omega
      have hc9 : (ca : Int) ≤ 9223372036854775807 := by
        rcases O1.out.2 with ⟨e, h0⟩ | ⟨g, cap, cur, e, _, _, _, h, _⟩
        · omega
        · unfold maxLen at h; simp at e; omega
      have q3 := KC.out wr BW
      have xn := FM.out _ hxm
      have HK := Lib.hid (show k + 1 ≤ L by have := HL.out; omega)
      have PM := Lib.hid (fun h => FM.out _ (List.mem_of_mem_take (leastP_mem (wear := s.wear) (l.take k) h)))
      generalize l[k] = x at *
      have e1 := KW.out wr BW x xn
      generalize leastP s.wear (l.take k) = a at *
      obtain ⟨p, ok⟩ := a
      have hxx : (x : Int) < (r.c.n : Int) := by omega
      clear hx hxm hk2 hk bw BW xn
      cases ok
      · have EN := Lib.hid (TK.trans (show stepW s.wear (p, false) x = (x, true) from if_pos (.inl rfl)))
        clear TK
        go_wp2_with fail
        go_quiet (fail)
        go_wp2
        go_roundw
        case rel => exact ⟨k + 1, HK.out, by simp, by rw [EN.out], by rw [EN.out], below_drewN HB.out _⟩
        case measure => have := HK.out; simp only [intOf]; omega
      · have pn := PM.out rfl
        have e2 := KW.out wr (B1.out.trans (HB.out.mono B1.out.size)) p pn
        have hpp : (p : Int) < (r.c.n : Int) := by omega
        clear pn
        by_cases hlt : s.wear x < s.wear p
        · have EN := Lib.hid (TK.trans (show stepW s.wear (p, true) x = (x, true) from if_pos (.inr hlt)))
          have d0 : decide ((s.wear x : Int) < (s.wear p : Int)) = true := decide_eq_true (by omega)
          have d1 : decide (s.wear x < s.wear p) = true := decide_eq_true hlt
          clear TK hlt
          generalize s.wear x = wx at *
          generalize s.wear p = wp at *
          go_wp2_with fail
          go_quiet (fail)
          go_wp2
          go_roundw
          case rel => exact ⟨k + 1, HK.out, by simp, by rw [EN.out], by rw [EN.out], below_drewN HB.out _⟩
          case measure => have := HK.out; simp only [intOf]; omega
        · have EN := Lib.hid (TK.trans (show stepW s.wear (p, true) x = (p, true) from if_neg (fun h => h.elim (fun h => by cases h) hlt)))
          have d0 : decide ((s.wear x : Int) < (s.wear p : Int)) = false := decide_eq_false (by omega)
          have d1 : decide (s.wear x < s.wear p) = false := decide_eq_false hlt
          clear TK hlt
          generalize s.wear x = wx at *
          generalize s.wear p = wp at *
          go_wp2_with fail
          go_quiet (fail)
          go_wp2
          go_roundw
          case rel => exact ⟨k + 1, HK.out, by simp, by rw [EN.out], by rw [EN.out], below_drewN HB.out _⟩
          case measure => have := HK.out; simp only [intOf]; omega
    · have HE := Lib.hid (show l.take k = l by rw [List.take_of_length_le]; have := HL.out; omega)
      have BF := Lib.hid BW
      rw [HE.out]
      clear bw hk BW
      go_wp2
      go_ret2
      exact ⟨rfl, BF.out⟩
end
end Go.Proofs.YtbgknopjgohocaaGreat


/- A trace that is reckoned: room for a block, a fill, a read. -/
namespace Go.Proofs.YtbgknopjgohocaaGreat
open Go.RowKit
set_option linter.unusedVariables false
set_option maxRecDepth 100000
set_option maxHeartbeats 2000000

section
variable {S : Nat → Prop} {w0 w : World} {b : Nat} {q : RJ} {r : RC} {told : Value} {s : RV}

theorem plO_drop {b nb ns N : Nat} {P : PLS} (h : PlO b nb ns N P S w) (ho : Own S w) (k : Nat) (hk : k < ns) (hN : N < 1000000) :
    Calls Tryz.prog 95 #[.pointer (some ⟨b, 0, none⟩), .int .i64 (k : Int)] w fun e w' => e = .returned (.tuple #[.int .i64 (if P.sl k = 0 then 0 else P.sl k - 1), .bool (decide (P.sl k ≠ 0))]) ∧ PlO b nb ns (N + 1) (dropS P k) (Ext S w w') w' ∧ Keeps S w w' := by
  have h0 := h
  obtain ⟨sb, wb, m, hp, hb, hs, hw⟩ := h
  by_cases hx : P.sl k = 0
  · have ED : dropS P k = P := by unfold dropS; rw [if_pos hx]
    rw [ED, if_pos hx]
    refine (pl_drop0 hp k hk hx).mono fun e w' ⟨he, hbw⟩ => ⟨by rw [he]; simp [hx], ?_, Below.keeps hbw S ho⟩
    exact Rep.mono (PlO.more (Rep.keep h0 ho (Keeps.of_below hbw) (fun j x => Nat.not_le.2 (ho j x))) (Nat.le_succ _) hN) (fun j x => .inl x)
  · rw [if_neg hx]
    refine (pl_drop1 hp k hk hx hN).mono fun e w' ⟨he, hp', kk⟩ => ⟨by rw [he]; simp [hx], ⟨sb, wb, _, hp', .inl hb, .inl hs, .inl hw⟩, kk.mono (fun j _ x => by rcases x with rfl | rfl | rfl <;> assumption)⟩
theorem plO_put {b nb ns N : Nat} {P : PLS} (h : PlO b nb ns N P S w) (k l : Nat) (hk : k < ns) (hl : l < nb) (hs0 : P.sl k = 0) (hw0 : P.wh l = 0) (hN : N < 1000000) :
    Calls Tryz.prog 68 #[.pointer (some ⟨b, 0, none⟩), .int .i64 (k : Int), .int .i64 (l : Int), .int .u64 1, .bool true] w fun e w' => e = .returned (.bool true) ∧ PlO b nb ns (N + 1) (putS P k l) (Ext S w w') w' ∧ Keeps S w w' := by
  obtain ⟨sb, wb, m, hp, hb, hs, hw⟩ := h
  exact (pl_put hp k l hk hl hs0 hw0 hN).mono fun e w' ⟨he, hp', kk⟩ => ⟨he, ⟨sb, wb, _, hp', .inl hb, .inl hs, .inl hw⟩, kk.mono (fun j _ x => by rcases x with rfl | rfl | rfl <;> assumption)⟩

/-- Bounds, behind so many reads. -/
structure RB (r : RC) (s : RV) (K : Nat) : Prop where
  n1 : r.c.n ≤ 192
  nb : r.nb ≤ 512
  mo : r.most ≤ 1048576
  us : s.used ≤ r.most
  N : s.pv.N ≤ 2 * K
  np : s.np ≤ 2 * K
  we : ∀ i, s.wear i ≤ K
  hi : s.t.hits ≤ K
  mi : s.t.misses ≤ K
  by_ : s.t.byps ≤ K
  fi : s.t.fills ≤ K
  ev : s.t.evic ≤ K
  fd : s.t.filled ≤ 3 * K

def roomR (r : RC) (s : RV) (lba : Int) : Nat × Bool × RV :=
  if (leastP s.wear (freeL s.pl.sl r.c.n)).2 = true then ((leastP s.wear (freeL s.pl.sl r.c.n)).1, true, s)
  else if anyP s.pv = true ∧ welP r.c s.pv lba = true then
    (vicP s.pv, true, { s with np := s.np + 1, pl := dropS s.pl (vicP s.pv), pv := (leaveP r.c s.pv (vicP s.pv : Int) true).2, t := { s.t with evic := s.t.evic + 1 } })
  else (0, false, s)

theorem ruF9 (n nb : Nat) (t : TL) : ∀ k, k < 20 → (if k = 9 then Value.int .i64 ((t.evic + 1 : Nat) : Int) else ruF q n nb t told k) = ruF q n nb { t with evic := t.evic + 1 } told k := fun k hk => by
  have : k = 0 ∨ k = 1 ∨ k = 2 ∨ k = 3 ∨ k = 4 ∨ k = 5 ∨ k = 6 ∨ k = 7 ∨ k = 8 ∨ k = 9 ∨ k = 10 ∨ k = 11 ∨ k = 12 ∨ k = 13 ∨ k = 14 ∨ k = 15 ∨ k = 16 ∨ k = 17 ∨ k = 18 ∨ k = 19 := by omega
  rcases this with rfl | rfl | rfl | rfl | rfl | rfl | rfl | rfl | rfl | rfl | rfl | rfl | rfl | rfl | rfl | rfl | rfl | rfl | rfl | rfl <;> rfl

theorem ru_room (h : RuX b q r told s S w) (ho : Own S w) {K : Nat} (hB : RB r s K) (hK : K ≤ 100000) (lba : Int) :
    Calls Tryz.prog 66 #[.pointer (some ⟨b, 0, none⟩), .int .i64 lba] w fun e w' => e = .returned (.tuple #[.int .i64 ((roomR r s lba).1 : Int), .bool (roomR r s lba).2.1]) ∧ RuX b q r told (roomR r s lba).2.2 (Ext S w w') w' ∧ Keeps S w w' := by
  have LE := Lib.hid (ru_least h (fun i => Nat.le_trans (hB.we i) (by omega)) hB.n1)
  have O0 := Lib.hid (OnWay.begin h ho)
  have HB := Lib.hid hB
  have HK := Lib.hid hK
  clear h ho hB hK
  by_cases hl : (leastP s.wear (freeL s.pl.sl r.c.n)).2 = true
  · have ER := Lib.hid (show roomR r s lba = ((leastP s.wear (freeL s.pl.sl r.c.n)).1, true, s) by unfold roomR; rw [if_pos hl])
    rw [ER.out]
    rw [hl] at LE
    clear hl
    generalize (leastP s.wear (freeL s.pl.sl r.c.n)).1 = x at *
    go_enter Tryz.func66, Tryz.ntmps66
    go_wp2_with fail
    refine LE.out.mono ?_
    rintro e w1 ⟨rfl, b1⟩
    have F := Lib.hid (OnWay.done (O0.out.below b1))
    clear b1
    go_wp2
    go_ret2
    exact ⟨rfl, F.out⟩
  · have hl : (leastP s.wear (freeL s.pl.sl r.c.n)).2 = false := by simpa using hl
    have VI := Lib.hid (fun (W : World) (k : OnWay (RuX b q r told s) S w W) => k.1.pol.elim fun A h => h.1.1.elim fun p hx => po_victim hx h.1.2.1)
    have WE := Lib.hid (fun (W : World) (k : OnWay (RuX b q r told s) S w W) => k.call (RuX.polc (fun A g o => po_welcome g o lba)))
    have E1 := Lib.hid (fun (h1 : anyP s.pv = true) (h2 : welP r.c s.pv lba = true) => show roomR r s lba = (vicP s.pv, true, { s with np := s.np + 1, pl := dropS s.pl (vicP s.pv), pv := (leaveP r.c s.pv (vicP s.pv : Int) true).2, t := { s.t with evic := s.t.evic + 1 } }) by unfold roomR; rw [hl, if_neg (by decide), if_pos ⟨h1, h2⟩])
    have E0 := Lib.hid (fun (h1 : ¬ (anyP s.pv = true ∧ welP r.c s.pv lba = true)) => show roomR r s lba = (0, false, s) by unfold roomR; rw [hl, if_neg (by decide), if_neg h1])
    rw [hl] at LE
    clear hl
    generalize (leastP s.wear (freeL s.pl.sl r.c.n)).1 = x at *
    cases ha : anyP s.pv
    · rw [E0.out (fun h => by rw [ha] at h; cases h.1)]
      rw [ha] at VI
      clear ha
      go_enter Tryz.func66, Tryz.ntmps66
      go_wp2_with fail
      refine LE.out.mono ?_
      rintro e w1 ⟨rfl, b1⟩
      have O1 := Lib.hid (O0.out.below b1)
      have c0 : w1.cell? ⟨b, 0, none⟩ = some (.pointer (some ⟨q.po, 0, none⟩)) := O1.out.1.top.cell (i := 0) (by omega)
      clear b1
      go_wp2_with fail
      refine (VI.out _ O1.out).mono ?_
      rintro e w2 ⟨rfl, b2⟩
      have O2 := Lib.hid (O1.out.below b2)
      clear b2 c0
      have F := Lib.hid (OnWay.done O2.out)
      go_wp2
      go_ret2
      exact ⟨rfl, F.out⟩
    · cases hw : welP r.c s.pv lba
      · rw [E0.out (fun h => by rw [hw] at h; cases h.2)]
        rw [ha] at VI
        rw [hw] at WE
        clear ha hw
        go_enter Tryz.func66, Tryz.ntmps66
        go_wp2_with fail
        refine LE.out.mono ?_
        rintro e w1 ⟨rfl, b1⟩
        have O1 := Lib.hid (O0.out.below b1)
        have c0 : w1.cell? ⟨b, 0, none⟩ = some (.pointer (some ⟨q.po, 0, none⟩)) := O1.out.1.top.cell (i := 0) (by omega)
        clear b1
        go_wp2_with fail
        refine (VI.out _ O1.out).mono ?_
        rintro e w2 ⟨rfl, b2⟩
        have O2 := Lib.hid (O1.out.below b2)
        clear b2 c0
        have c0 : w2.cell? ⟨b, 0, none⟩ = some (.pointer (some ⟨q.po, 0, none⟩)) := O2.out.1.top.cell (i := 0) (by omega)
        go_wp2_with fail
        refine (WE.out _ O2.out).mono ?_
        rintro e w3 ⟨rfl, h3⟩
        have F := Lib.hid (OnWay.done h3)
        clear h3
        go_wp2
        go_ret2
        exact ⟨rfl, F.out⟩
      · rw [E1.out ha hw]
        have EV := Lib.hid (show vicN s.pv = (vicP s.pv : Int) by unfold vicN; rw [if_pos ha])
        have VL := Lib.hid (show vicP s.pv < r.c.n from O0.out.1.pol.elim fun A h => h.1.1.elim fun p hx => hx.ord.elim fun B ho => vic_lt ho.1.oinv ha)
        rw [EV.out, ha] at VI
        rw [hw] at WE
        clear ha hw
        go_enter Tryz.func66, Tryz.ntmps66
        go_wp2_with fail
        refine LE.out.mono ?_
        rintro e w1 ⟨rfl, b1⟩
        have O1 := Lib.hid (O0.out.below b1)
        have c0 : w1.cell? ⟨b, 0, none⟩ = some (.pointer (some ⟨q.po, 0, none⟩)) := O1.out.1.top.cell (i := 0) (by omega)
        clear b1
        go_wp2_with fail
        refine (VI.out _ O1.out).mono ?_
        rintro e w2 ⟨rfl, b2⟩
        have O2 := Lib.hid (O1.out.below b2)
        clear b2 c0
        have c0 : w2.cell? ⟨b, 0, none⟩ = some (.pointer (some ⟨q.po, 0, none⟩)) := O2.out.1.top.cell (i := 0) (by omega)
        go_wp2_with fail
        refine (WE.out _ O2.out).mono ?_
        rintro e w3 ⟨rfl, h3⟩
        have O3 := Lib.hid (show OnWay (RuX b q r told s) S w w3 from h3)
        have DR := Lib.hid ((O3.out.call (RuX.plac (fun A g o => plO_drop g o (vicP s.pv) VL.out (by have := HB.out.np; have := HK.out; omega)))).mono fun e w' ⟨he, h⟩ => (⟨⟨_, _, he⟩, h⟩ : (∃ (v : Int) (d : Bool), e = Ending.returned (.tuple #[.int .i64 v, .bool d])) ∧ _))
        have c1 : w3.cell? ⟨b, 1, none⟩ = some (.pointer (some ⟨q.pl, 0, none⟩)) := h3.1.top.cell (i := 1) (by omega)
        have hn0 := Lib.hid (show s.pv.N < 1000000 by have := HB.out.N; have := HK.out; omega)
        have LV := Lib.hid (fun (W : World) (s' : RV) (hs : s'.pv = s.pv) (k : OnWay (RuX b q r told s') S w W) => k.call (RuX.polc (fun A g o => po_leave (hs ▸ g) o hn0.out (vicP s.pv : Int) true)))
        clear h3 c0
        go_wp2_with fail
        refine DR.out.mono ?_
        rintro e w4 ⟨⟨v4, d4, rfl⟩, h4⟩
        have c0 : w4.cell? ⟨b, 0, none⟩ = some (.pointer (some ⟨q.po, 0, none⟩)) := h4.1.top.cell (i := 0) (by omega)
        have O4 := Lib.hid h4
        clear h4 c1
        go_wp2_with fail
        refine (LV.out _ { s with np := s.np + 1, pl := dropS s.pl (vicP s.pv) } rfl O4.out).mono ?_
        rintro e w5 ⟨rfl, h5⟩
        have c9 : w5.cell? ⟨b, 9, none⟩ = some (.int .i64 (s.t.evic : Int)) := h5.1.top.cell (i := 9) (by omega)
        have f9 := h5.1.top.free 9
        have e9 : (s.t.evic : Int) ≤ 100000 := by have := HB.out.ev; have := HK.out; omega
        have F := OnWay.done (h5.move (RuX.setT { s.t with evic := s.t.evic + 1 } 9 (.int .i64 ((s.t.evic + 1 : Nat) : Int)) (ruF9 _ _ _)))
        have z1 : ((s.t.evic + 1 : Nat) : Int) = (s.t.evic : Int) + 1 := by omega
        rw [z1] at F
        have F := Lib.hid F
        clear h5 c0 z1
        go_wp2
        go_ret2
        exact ⟨rfl, F.out⟩
end
end Go.Proofs.YtbgknopjgohocaaGreat


/- A trace that is reckoned: a fill, a read. -/
namespace Go.Proofs.YtbgknopjgohocaaGreat
open Go.RowKit
set_option linter.unusedVariables false
set_option maxRecDepth 100000
set_option maxHeartbeats 2000000

def fillW (r : RC) (s s' : RV) (x lba : Nat) : RV :=
  ⟨(enterP r.c s'.pv (x : Int) (lba : Int)).2, s'.np + 1, putS s'.pl x lba, s.used + 3, fun k => if k = x then s.wear x + 1 else s.wear k, { s'.t with fills := s.t.fills + 1, filled := s.t.filled + 3 }⟩
def fillR (r : RC) (s : RV) (lba : Nat) (scans : Bool) : Bool × RV :=
  if scans = true ∨ r.most < s.used + 3 then (false, s)
  else if (roomR r s lba).2.1 = true then (true, fillW r s (roomR r s lba).2.2 (roomR r s lba).1 lba)
  else (false, s)

/-- What is known of a slot that there is room in. -/
structure RoOk (r : RC) (s s' : RV) (k lba : Nat) : Prop where
  kn : k < r.c.n
  sl : s'.pl.sl k = 0
  wh : s'.pl.wh lba = 0
  us : s'.used = s.used
  we : s'.wear = s.wear
  fi : s'.t.fills = s.t.fills
  fd : s'.t.filled = s.t.filled
  hi : s'.t.hits = s.t.hits
  mi : s'.t.misses = s.t.misses
  by_ : s'.t.byps = s.t.byps
  ev : s'.t.evic ≤ s.t.evic + 1
  np : s'.np ≤ s.np + 1
  N : s'.pv.N ≤ s.pv.N + 1
theorem leaveP_N (c : PC) (s : PV) (m : Int) (g : Bool) : (leaveP c s m g).2.N ≤ s.N + 1 := by
  unfold leaveP
  split
  · split
    · exact Nat.le_refl _
    · exact Nat.le_succ _
  · exact Nat.le_succ _
theorem enterP_N (c : PC) (s : PV) (m x : Int) : (enterP c s m x).2.N = s.N := by
  unfold enterP
  split <;> rfl
theorem roomR_ok {r : RC} {s : RV} {lba : Nat} (hv : anyP s.pv = true → vicP s.pv < r.c.n) (hw : s.pl.wh lba = 0) (h : (roomR r s lba).2.1 = true) : RoOk r s (roomR r s lba).2.2 (roomR r s lba).1 lba := by
  unfold roomR at h ⊢
  by_cases hl : (leastP s.wear (freeL s.pl.sl r.c.n)).2 = true
  · rw [if_pos hl]
    have := freeL_mem (leastP_mem _ hl)
    exact ⟨this.1, this.2, hw, rfl, rfl, rfl, rfl, rfl, rfl, rfl, Nat.le_succ _, Nat.le_succ _, Nat.le_succ _⟩
  · rw [if_neg hl] at h ⊢
    by_cases ha : anyP s.pv = true ∧ welP r.c s.pv lba = true
    · rw [if_pos ha]
      refine ⟨hv ha.1, ?_, ?_, rfl, rfl, rfl, rfl, rfl, rfl, rfl, Nat.le_refl _, Nat.le_refl _, leaveP_N _ _ _ _⟩
      · show (dropS s.pl (vicP s.pv)).sl (vicP s.pv) = 0
        unfold dropS
        split
        · assumption
        · simp
      · show (dropS s.pl (vicP s.pv)).wh lba = 0
        unfold dropS
        split
        · exact hw
        · show (if _ then (0 : Int) else s.pl.wh lba) = 0
          split
          · rfl
          · exact hw
    · rw [if_neg ha] at h
      cases h
theorem roomR_no {r : RC} {s : RV} {lba : Int} (h : (roomR r s lba).2.1 = false) : (roomR r s lba).2.2 = s := by
  unfold roomR at h ⊢
  split
  · rename_i hl; simp [hl] at h
  · rename_i hl
    rw [if_neg hl] at h
    split
    · rename_i ha; simp [ha] at h
    · rfl

section
variable {S : Nat → Prop} {w0 w : World} {b : Nat} {q : RJ} {r : RC} {told : Value} {s : RV}
theorem RuX.vic (h : RuX b q r told s S w) : anyP s.pv = true → vicP s.pv < r.c.n := fun ha => by
  obtain ⟨A, ⟨⟨p, hx⟩, _⟩, _⟩ := h.pol
  obtain ⟨B, hord, _⟩ := hx.ord
  exact vic_lt hord.oinv ha
theorem ruF8 (n nb k1 : Nat) (t : TL) : ∀ k, k < 20 → (if k = 8 then Value.int .i64 (k1 : Int) else ruF q n nb t told k) = ruF q n nb { t with fills := k1 } told k := fun k hk => by
  have : k = 0 ∨ k = 1 ∨ k = 2 ∨ k = 3 ∨ k = 4 ∨ k = 5 ∨ k = 6 ∨ k = 7 ∨ k = 8 ∨ k = 9 ∨ k = 10 ∨ k = 11 ∨ k = 12 ∨ k = 13 ∨ k = 14 ∨ k = 15 ∨ k = 16 ∨ k = 17 ∨ k = 18 ∨ k = 19 := by omega
  rcases this with rfl | rfl | rfl | rfl | rfl | rfl | rfl | rfl | rfl | rfl | rfl | rfl | rfl | rfl | rfl | rfl | rfl | rfl | rfl | rfl <;> rfl
theorem ruF17 (n nb k1 : Nat) (t : TL) : ∀ k, k < 20 → (if k = 17 then Value.int .i64 (k1 : Int) else ruF q n nb t told k) = ruF q n nb { t with filled := k1 } told k := fun k hk => by
  have : k = 0 ∨ k = 1 ∨ k = 2 ∨ k = 3 ∨ k = 4 ∨ k = 5 ∨ k = 6 ∨ k = 7 ∨ k = 8 ∨ k = 9 ∨ k = 10 ∨ k = 11 ∨ k = 12 ∨ k = 13 ∨ k = 14 ∨ k = 15 ∨ k = 16 ∨ k = 17 ∨ k = 18 ∨ k = 19 := by omega
  rcases this with rfl | rfl | rfl | rfl | rfl | rfl | rfl | rfl | rfl | rfl | rfl | rfl | rfl | rfl | rfl | rfl | rfl | rfl | rfl | rfl <;> rfl

theorem ru_fill_scan (h : RuX b q r told s S w) (ho : Own S w) (lba : Nat) :
    Calls Tryz.prog 49 #[.pointer (some ⟨b, 0, none⟩), .int .i64 (lba : Int), .bool true] w fun e w' => e = .returned (.bool (fillR r s lba true).1) ∧ RuX b q r told (fillR r s lba true).2 (Ext S w w') w' ∧ Keeps S w w' := by
  have ER : fillR r s lba true = (false, s) := if_pos (.inl rfl)
  rw [ER]
  have F := Lib.hid (OnWay.done (OnWay.begin h ho))
  clear h ho ER
  go_enter Tryz.func49, Tryz.ntmps49
  go_wp2
  go_ret
  exact ⟨rfl, F.out⟩

theorem ru_fill (h : RuX b q r told s S w) (ho : Own S w) {K : Nat} (hB : RB r s K) (hK : K ≤ 100000) (lba : Nat) (hl : lba < r.nb) (hw : s.pl.wh lba = 0) (hx : i64 (lba : Int)) :
    Calls Tryz.prog 49 #[.pointer (some ⟨b, 0, none⟩), .int .i64 (lba : Int), .bool false] w fun e w' => e = .returned (.bool (fillR r s lba false).1) ∧ RuX b q r told (fillR r s lba false).2 (Ext S w w') w' ∧ Keeps S w w' := by
  have O0 := Lib.hid (OnWay.begin h ho)
  have LF := Lib.hid (h.bud.elim fun A g => qu_left g.1)
  have c2 : w.cell? ⟨b, 2, none⟩ = some (.pointer (some ⟨q.qu, 0, none⟩)) := h.top.cell (i := 2) (by omega)
  have HB := Lib.hid hB
  have HK := Lib.hid hK
  have RO := Lib.hid (fun (W : World) (k : OnWay (RuX b q r told s) S w W) => k.call (fun A g o => ru_room g o hB hK lba))
  have mu : s.used ≤ r.most := hB.us
  have mo : (r.most : Int) ≤ 1048576 := by have := hB.mo; omega
  by_cases hm : r.most < s.used + 3
  · have ER : fillR r s lba false = (false, s) := if_pos (.inr hm)
    rw [ER]
    have d0 : decide ((r.most : Int) - (s.used : Int) < 3) = true := decide_eq_true (by omega)
    clear h ho hB hK hl hw hx hm ER RO
    go_enter Tryz.func49, Tryz.ntmps49
    go_wp2_with fail
    refine LF.out.mono ?_
    rintro e w1 ⟨rfl, m, rfl⟩
    have F := Lib.hid (OnWay.done (O0.out.drewN m))
    go_wp2
    go_ret
    exact ⟨rfl, F.out⟩
  · have d0 : decide ((r.most : Int) - (s.used : Int) < 3) = false := decide_eq_false (by omega)
    cases hr : (roomR r s lba).2.1
    · have ER : fillR r s lba false = (false, s) := by
        unfold fillR
        rw [if_neg (fun h => h.elim (fun h => by cases h) hm), hr, if_neg (by decide)]
      rw [ER]
      have RN := roomR_no hr
      rw [hr, RN] at RO
      generalize (roomR r s lba).1 = x at *
      clear h ho hB hK hl hw hx hm ER hr RN
      go_enter Tryz.func49, Tryz.ntmps49
      go_wp2_with fail
      refine LF.out.mono ?_
      rintro e w1 ⟨rfl, m, rfl⟩
      have O1 := Lib.hid (O0.out.drewN m)
      go_wp2_with fail
      refine (RO.out _ O1.out).mono ?_
      rintro e w2 ⟨rfl, h2⟩
      have F := Lib.hid (OnWay.done h2)
      clear h2
      go_wp2
      go_ret
      exact ⟨rfl, F.out⟩
    · have OK := roomR_ok h.vic hw hr
      have EF : fillR r s lba false = (true, fillW r s (roomR r s lba).2.2 (roomR r s lba).1 lba) := by
        unfold fillR
        rw [if_neg (fun h => h.elim (fun h => by cases h) hm), if_pos hr]
      rw [EF]
      rw [hr] at RO
      generalize (roomR r s lba).1 = x at *
      generalize (roomR r s lba).2.2 = s' at *
      have HOK := Lib.hid OK
      have HL := Lib.hid (And.intro hl hx)
      have HNP := Lib.hid (show s'.np < 1000000 by have := OK.np; have := hB.np; omega)
      have SP := Lib.hid (fun (W : World) (k : OnWay (RuX b q r told s') S w W) => k.call (RuX.budc (fun A g o => qu_spend g o (by rw [OK.us]; omega))))
      have xn : (x : Int) < (r.c.n : Int) := by have := OK.kn; omega
      have n9 : (r.c.n : Int) ≤ 192 := by have := hB.n1; omega
      have e8 : (s.t.fills : Int) ≤ 100000 := by have := hB.fi; omega
      have e17 : (s.t.filled : Int) ≤ 300000 := by have := hB.fd; omega
      have ew : (s.wear x : Int) ≤ 100000 := by have := hB.we x; omega
      clear h ho hB hK hl hw hx hm hr OK EF
      go_enter Tryz.func49, Tryz.ntmps49
      go_wp2_with fail
      refine LF.out.mono ?_
      rintro e w1 ⟨rfl, m, rfl⟩
      have O1 := Lib.hid (O0.out.drewN m)
      go_wp2_with fail
      refine (RO.out _ O1.out).mono ?_
      rintro e w2 ⟨rfl, h2⟩
      have c2' : w2.cell? ⟨b, 2, none⟩ = some (.pointer (some ⟨q.qu, 0, none⟩)) := h2.1.top.cell (i := 2) (by omega)
      have O2 := Lib.hid h2
      clear h2 c2
      go_wp2_with fail
      refine (SP.out _ O2.out).mono ?_
      rintro e w3 ⟨rfl, h3⟩
      have t8 := HOK.out.fi
      have t17 := HOK.out.fd
      have tw := HOK.out.we
      have c8 : w3.cell? ⟨b, 8, none⟩ = some (.int .i64 (s.t.fills : Int)) := (h3.1.top.cell (i := 8) (by omega)).trans (by show some (Value.int .i64 (s'.t.fills : Int)) = _; rw [t8])
      have c17 : w3.cell? ⟨b, 17, none⟩ = some (.int .i64 (s.t.filled : Int)) := (h3.1.top.cell (i := 17) (by omega)).trans (by show some (Value.int .i64 (s'.t.filled : Int)) = _; rw [t17])
      have c3 : w3.cell? ⟨b, 3, none⟩ = some (.slice (some ⟨q.we, 0, none⟩) r.c.n r.c.n) := h3.1.top.cell (i := 3) (by omega)
      have c1 : w3.cell? ⟨b, 1, none⟩ = some (.pointer (some ⟨q.pl, 0, none⟩)) := h3.1.top.cell (i := 1) (by omega)
      have cw : w3.cell? ⟨q.we, x, none⟩ = some (.int .i64 (s.wear x : Int)) := (h3.1.wea.cell HOK.out.kn).trans (by show some (Value.int .i64 (s'.wear x : Int)) = _; rw [tw])
      have f8 := h3.1.top.free 8
      have f17 := h3.1.top.free 17
      have fw := h3.1.wea.free x
      have nbw : b ≠ q.we := h3.1.top.ne h3.1.wea (by decide)
      have h4 := ((h3.move (RuX.setT { s'.t with fills := s.t.fills + 1 } 8 (.int .i64 ((s.t.fills + 1 : Nat) : Int)) (ruF8 _ _ _ _))).move (RuX.setT { s'.t with fills := s.t.fills + 1, filled := s.t.filled + 3 } 17 (.int .i64 ((s.t.filled + 3 : Nat) : Int)) (ruF17 _ _ _ _))).move (RuX.setW x (s.wear x + 1))
      have z1 : ((s.t.fills + 1 : Nat) : Int) = (s.t.fills : Int) + 1 := by omega
      have z2 : ((s.t.filled + 3 : Nat) : Int) = (s.t.filled : Int) + 3 := by omega
      have z3 : ((s.wear x + 1 : Nat) : Int) = (s.wear x : Int) + 1 := by omega
      rw [z1, z2, z3] at h4
      have O4 := Lib.hid h4
      clear h3 h4 z1 z2 z3 t8 t17 tw c2'
      go_wp2_with fail
      generalize hw4 : ((w3.setCell ⟨b, 8, none⟩ (.int .i64 ((s.t.fills : Int) + 1))).setCell ⟨b, 17, none⟩ (.int .i64 ((s.t.filled : Int) + 3))).setCell ⟨q.we, x, none⟩ (.int .i64 ((s.wear x : Int) + 1)) = w4 at *
      clear hw4 c8 c17 c3 c1 cw f8 f17 fw
      refine (O4.out.call (RuX.plac (fun A g o => plO_put g x lba HOK.out.kn HL.out.1 HOK.out.sl HOK.out.wh HNP.out))).mono ?_
      rintro e w5 ⟨rfl, h5⟩
      have c0 : w5.cell? ⟨b, 0, none⟩ = some (.pointer (some ⟨q.po, 0, none⟩)) := h5.1.top.cell (i := 0) (by omega)
      have O5 := Lib.hid h5
      clear h5
      go_wp2_with fail
      refine (O5.out.call (RuX.polc (fun A g o => po_enter g o (x : Int) (lba : Int) HL.out.2))).mono ?_
      rintro e w6 ⟨rfl, h6⟩
      have F := OnWay.done h6
      have tw := HOK.out.we
      have us := HOK.out.us
      simp only [tw, us] at F
      have F := Lib.hid F
      clear h6 tw us c0
      go_wp2
      go_ret
      exact ⟨rfl, F.out⟩
end
end Go.Proofs.YtbgknopjgohocaaGreat


/- A trace that is reckoned: a read. -/
namespace Go.Proofs.YtbgknopjgohocaaGreat
open Go.RowKit
set_option linter.unusedVariables false
set_option maxRecDepth 100000
set_option maxHeartbeats 2000000

def rdS (r : RC) (s : RV) (lba : Int) : RV := { s with pv := readP r.c s.pv lba }
def hitS (r : RC) (s : RV) (lba : Int) : RV := { rdS r s lba with pv := (hitP r.c (rdS r s lba).pv (s.pl.wh lba.toNat - 1)).2, t := { s.t with hits := s.t.hits + 1 } }
def misS (f : RV) : RV := { f with t := { f.t with misses := f.t.misses + 1 } }
def bypS (f : RV) : RV := { f with t := { f.t with byps := f.t.byps + 1 } }
def readR (r : RC) (s : RV) (lba : Int) : Bool × RV :=
  if lba < 0 ∨ (r.nb : Int) ≤ lba then (false, s)
  else if s.pl.wh lba.toNat ≠ 0 then (true, hitS r s lba)
  else if (fillR r (rdS r s lba) lba.toNat (rdS r s lba).pv.scan).1 = true then (false, misS (fillR r (rdS r s lba) lba.toNat (rdS r s lba).pv.scan).2)
  else (false, bypS (fillR r (rdS r s lba) lba.toNat (rdS r s lba).pv.scan).2)

theorem fillR_t {r : RC} {s : RV} {lba : Nat} {sc : Bool} (hv : anyP s.pv = true → vicP s.pv < r.c.n) (hw : s.pl.wh lba = 0) :
    (fillR r s lba sc).2.t.hits = s.t.hits ∧ (fillR r s lba sc).2.t.misses = s.t.misses ∧ (fillR r s lba sc).2.t.byps = s.t.byps := by
  unfold fillR
  by_cases hm : sc = true ∨ r.most < s.used + 3
  · rw [if_pos hm]; exact ⟨rfl, rfl, rfl⟩
  · rw [if_neg hm]
    cases hr : (roomR r s lba).2.1
    · rw [if_neg (by decide)]; exact ⟨rfl, rfl, rfl⟩
    · rw [if_pos rfl]
      have ok := roomR_ok hv hw hr
      exact ⟨ok.hi, ok.mi, ok.by_⟩
theorem fillR_ok {r : RC} {s : RV} {K lba : Nat} {sc : Bool} {z : Int} (hv : anyP (rdS r s z).pv = true → vicP (rdS r s z).pv < r.c.n) (hw : s.pl.wh lba = 0) (h : RB r s K) :
    RB r (misS (fillR r (rdS r s z) lba sc).2) (K + 1) ∧ RB r (bypS (fillR r (rdS r s z) lba sc).2) (K + 1) := by
  have a1 := h.N
  have a2 := h.np
  have a3 := h.hi
  have a4 := h.mi
  have a5 := h.by_
  have a6 := h.fi
  have a7 := h.ev
  have a8 := h.fd
  unfold fillR
  by_cases hm : sc = true ∨ r.most < (rdS r s z).used + 3
  · rw [if_pos hm]
    refine ⟨⟨h.n1, h.nb, h.mo, h.us, ?_, ?_, fun i => ?_, ?_, ?_, ?_, ?_, ?_, ?_⟩, ⟨h.n1, h.nb, h.mo, h.us, ?_, ?_, fun i => ?_, ?_, ?_, ?_, ?_, ?_, ?_⟩⟩ <;> (simp only [misS, bypS, rdS, readP]; first | omega | (have := h.we i; omega))
  · rw [if_neg hm]
    cases hr : (roomR r (rdS r s z) lba).2.1
    · rw [if_neg (by decide)]
      refine ⟨⟨h.n1, h.nb, h.mo, h.us, ?_, ?_, fun i => ?_, ?_, ?_, ?_, ?_, ?_, ?_⟩, ⟨h.n1, h.nb, h.mo, h.us, ?_, ?_, fun i => ?_, ?_, ?_, ?_, ?_, ?_, ?_⟩⟩ <;> (simp only [misS, bypS, rdS, readP]; first | omega | (have := h.we i; omega))
    · rw [if_pos rfl]
      have ok := roomR_ok hv hw hr
      generalize (roomR r (rdS r s z) lba).1 = x at *
      generalize (roomR r (rdS r s z) lba).2.2 = s' at *
      have hu : (rdS r s z).used + 3 ≤ r.most := by have : ¬ r.most < (rdS r s z).used + 3 := fun hh => hm (.inr hh); omega
      have e1 := enterP_N r.c s'.pv (x : Int) (lba : Int)
      have b1 : s'.pv.N ≤ s.pv.N + 1 + 1 := ok.N
      have b2 : s'.np ≤ s.np + 1 := ok.np
      have b3 : s'.t.hits = s.t.hits := ok.hi
      have b4 : s'.t.misses = s.t.misses := ok.mi
      have b5 : s'.t.byps = s.t.byps := ok.by_
      have b7 : s'.t.evic ≤ s.t.evic + 1 := ok.ev
      have w2 := h.we x
      refine ⟨⟨h.n1, h.nb, h.mo, hu, ?_, ?_, fun i => ?_, ?_, ?_, ?_, ?_, ?_, ?_⟩, ⟨h.n1, h.nb, h.mo, hu, ?_, ?_, fun i => ?_, ?_, ?_, ?_, ?_, ?_, ?_⟩⟩ <;> (simp only [misS, bypS, fillW, rdS]; first | omega | (have := h.we i; split <;> omega))
theorem readR_ok {r : RC} {s : RV} {K : Nat} {lba : Int} (hv : anyP (rdS r s lba).pv = true → vicP (rdS r s lba).pv < r.c.n) (h : RB r s K) : RB r (readR r s lba).2 (K + 1) := by
  have a1 := h.N
  have a2 := h.np
  have a3 := h.hi
  have a4 := h.mi
  have a5 := h.by_
  have a6 := h.fi
  have a7 := h.ev
  have a8 := h.fd
  unfold readR
  split
  · show RB r s (K + 1)
    exact ⟨h.n1, h.nb, h.mo, h.us, by omega, by omega, fun i => by have := h.we i; omega, by omega, by omega, by omega, by omega, by omega, by omega⟩
  · split
    · refine ⟨h.n1, h.nb, h.mo, h.us, ?_, ?_, fun i => ?_, ?_, ?_, ?_, ?_, ?_, ?_⟩ <;> (simp only [hitS, rdS, hitP, readP]; first | omega | (have := h.we i; omega))
    · rename_i hw
      have hw : s.pl.wh lba.toNat = 0 := by simpa using hw
      have := fillR_ok (lba := lba.toNat) (sc := (rdS r s lba).pv.scan) hv hw h
      split
      · exact this.1
      · exact this.2
/-- Each read of a block is counted once; what is told of it is what it is counted as. -/
theorem readR_counts {r : RC} {s : RV} {lba : Int} (hv : anyP (rdS r s lba).pv = true → vicP (rdS r s lba).pv < r.c.n) :
    (readR r s lba).2.t.hits = s.t.hits + (if (readR r s lba).1 = true then 1 else 0) ∧
    (readR r s lba).2.t.hits + (readR r s lba).2.t.misses + (readR r s lba).2.t.byps = s.t.hits + s.t.misses + s.t.byps + (if 0 ≤ lba ∧ lba < r.nb then 1 else 0) := by
  unfold readR
  split
  · rename_i hc
    have : ¬ (0 ≤ lba ∧ lba < (r.nb : Int)) := by omega
    rw [if_neg this]
    exact ⟨rfl, rfl⟩
  · rename_i hc
    have : 0 ≤ lba ∧ lba < (r.nb : Int) := by omega
    rw [if_pos this]
    split
    · refine ⟨rfl, ?_⟩
      simp only [hitS, rdS]
      omega
    · rename_i hw
      have hw : s.pl.wh lba.toNat = 0 := by simpa using hw
      have ft := fillR_t (r := r) (s := rdS r s lba) (lba := lba.toNat) (sc := (rdS r s lba).pv.scan) hv hw
      obtain ⟨f1, f2, f3⟩ := ft
      have g1 : (rdS r s lba).t = s.t := rfl
      rw [g1] at f1 f2 f3
      split
      · simp only [misS]; rw [f1, f2, f3]; exact ⟨rfl, by omega⟩
      · simp only [bypS]; rw [f1, f2, f3]; exact ⟨rfl, by omega⟩
end Go.Proofs.YtbgknopjgohocaaGreat


/- A trace that is reckoned: the walk of a read. -/
namespace Go.Proofs.YtbgknopjgohocaaGreat
open Go.RowKit
set_option linter.unusedVariables false
set_option maxRecDepth 100000
set_option maxHeartbeats 2000000

section
variable {S : Nat → Prop} {w0 w : World} {b : Nat} {q : RJ} {r : RC} {told : Value} {s : RV}
theorem ruF5 (n nb k1 : Nat) (t : TL) : ∀ k, k < 20 → (if k = 5 then Value.int .i64 (k1 : Int) else ruF q n nb t told k) = ruF q n nb { t with hits := k1 } told k := fun k hk => by
  have : k = 0 ∨ k = 1 ∨ k = 2 ∨ k = 3 ∨ k = 4 ∨ k = 5 ∨ k = 6 ∨ k = 7 ∨ k = 8 ∨ k = 9 ∨ k = 10 ∨ k = 11 ∨ k = 12 ∨ k = 13 ∨ k = 14 ∨ k = 15 ∨ k = 16 ∨ k = 17 ∨ k = 18 ∨ k = 19 := by omega
  rcases this with rfl | rfl | rfl | rfl | rfl | rfl | rfl | rfl | rfl | rfl | rfl | rfl | rfl | rfl | rfl | rfl | rfl | rfl | rfl | rfl <;> rfl
theorem ruF6 (n nb k1 : Nat) (t : TL) : ∀ k, k < 20 → (if k = 6 then Value.int .i64 (k1 : Int) else ruF q n nb t told k) = ruF q n nb { t with misses := k1 } told k := fun k hk => by
  have : k = 0 ∨ k = 1 ∨ k = 2 ∨ k = 3 ∨ k = 4 ∨ k = 5 ∨ k = 6 ∨ k = 7 ∨ k = 8 ∨ k = 9 ∨ k = 10 ∨ k = 11 ∨ k = 12 ∨ k = 13 ∨ k = 14 ∨ k = 15 ∨ k = 16 ∨ k = 17 ∨ k = 18 ∨ k = 19 := by omega
  rcases this with rfl | rfl | rfl | rfl | rfl | rfl | rfl | rfl | rfl | rfl | rfl | rfl | rfl | rfl | rfl | rfl | rfl | rfl | rfl | rfl <;> rfl
theorem ruF7 (n nb k1 : Nat) (t : TL) : ∀ k, k < 20 → (if k = 7 then Value.int .i64 (k1 : Int) else ruF q n nb t told k) = ruF q n nb { t with byps := k1 } told k := fun k hk => by
  have : k = 0 ∨ k = 1 ∨ k = 2 ∨ k = 3 ∨ k = 4 ∨ k = 5 ∨ k = 6 ∨ k = 7 ∨ k = 8 ∨ k = 9 ∨ k = 10 ∨ k = 11 ∨ k = 12 ∨ k = 13 ∨ k = 14 ∨ k = 15 ∨ k = 16 ∨ k = 17 ∨ k = 18 ∨ k = 19 := by omega
  rcases this with rfl | rfl | rfl | rfl | rfl | rfl | rfl | rfl | rfl | rfl | rfl | rfl | rfl | rfl | rfl | rfl | rfl | rfl | rfl | rfl <;> rfl

theorem rb_rd {K : Nat} {z : Int} (h : RB r s K) : RB r (rdS r s z) (K + 1) :=
  ⟨h.n1, h.nb, h.mo, h.us, by show s.pv.N + 1 ≤ _; have := h.N; omega, by show s.np ≤ _; have := h.np; omega, fun i => by show s.wear i ≤ _; have := h.we i; omega, by show s.t.hits ≤ _; have := h.hi; omega, by show s.t.misses ≤ _; have := h.mi; omega, by show s.t.byps ≤ _; have := h.by_; omega, by show s.t.fills ≤ _; have := h.fi; omega, by show s.t.evic ≤ _; have := h.ev; omega, by show s.t.filled ≤ _; have := h.fd; omega⟩

theorem ru_fill_any (h : RuX b q r told s S w) (ho : Own S w) {K : Nat} (hB : RB r s K) (hK : K ≤ 100000) (lba : Nat) (hl : lba < r.nb) (hw : s.pl.wh lba = 0) (hx : i64 (lba : Int)) (sc : Bool) :
    Calls Tryz.prog 49 #[.pointer (some ⟨b, 0, none⟩), .int .i64 (lba : Int), .bool sc] w fun e w' => e = .returned (.bool (fillR r s lba sc).1) ∧ RuX b q r told (fillR r s lba sc).2 (Ext S w w') w' ∧ Keeps S w w' := by
  cases sc
  · exact ru_fill h ho hB hK lba hl hw hx
  · exact ru_fill_scan h ho lba

theorem ru_read (h : RuX b q r told s S w) (ho : Own S w) {K : Nat} (hB : RB r s K) (hK : K ≤ 50000) (lba : Int) (hx : i64 lba) :
    Calls Tryz.prog 33 #[.pointer (some ⟨b, 0, none⟩), .int .i64 lba] w fun e w' => e = .returned (.bool (readR r s lba).1) ∧ RuX b q r told (readR r s lba).2 (Ext S w w') w' ∧ Keeps S w w' := by
  have O0 := Lib.hid (OnWay.begin h ho)
  have c0 : w.cell? ⟨b, 0, none⟩ = some (.pointer (some ⟨q.po, 0, none⟩)) := h.top.cell (i := 0) (by omega)
  have c4 : w.cell? ⟨b, 4, none⟩ = some (.int .i64 (r.nb : Int)) := h.top.cell (i := 4) (by omega)
  by_cases h0 : lba < 0
  · have ER : readR r s lba = (false, s) := if_pos (.inl h0)
    rw [ER]
    have F := Lib.hid (OnWay.done O0.out)
    have d0 : decide (lba < 0) = true := decide_eq_true h0
    clear h ho hB hK hx h0 ER
    go_enter Tryz.func33, Tryz.ntmps33
    go_wp2
    go_ret
    exact ⟨rfl, F.out⟩
  by_cases h1 : (r.nb : Int) ≤ lba
  · have ER : readR r s lba = (false, s) := if_pos (.inr h1)
    rw [ER]
    have F := Lib.hid (OnWay.done O0.out)
    have d0 : decide (lba < 0) = false := decide_eq_false h0
    have d1 : decide ((r.nb : Int) ≤ lba) = true := decide_eq_true h1
    clear h ho hB hK hx h0 h1 ER
    go_enter Tryz.func33, Tryz.ntmps33
    go_wp2
    go_ret
    exact ⟨rfl, F.out⟩
  obtain ⟨l, rfl⟩ : ∃ l : Nat, lba = (l : Int) := ⟨lba.toNat, by omega⟩
  have hl : l < r.nb := by omega
  have E0 : readR r s (l : Int) = if s.pl.wh l ≠ 0 then (true, hitS r s l) else if (fillR r (rdS r s l) l (rdS r s l).pv.scan).1 = true then (false, misS (fillR r (rdS r s l) l (rdS r s l).pv.scan).2) else (false, bypS (fillR r (rdS r s l) l (rdS r s l).pv.scan).2) := by
    unfold readR
    rw [if_neg (by omega), Int.toNat_natCast]
  have d0 : decide ((l : Int) < 0) = false := decide_eq_false h0
  have d1 : decide ((r.nb : Int) ≤ (l : Int)) = false := decide_eq_false h1
  have d2 : decide (r.nb ≤ l) = false := decide_eq_false (by omega)
  have PR := Lib.hid (O0.out.call (RuX.polc (fun A g o => po_read g o (by have := hB.N; omega) (l : Int) hx)))
  have OF := Lib.hid (fun (W : World) (k : OnWay (RuX b q r told (rdS r s l)) S w W) => k.1.pla.elim fun sb hh => hh.elim fun wb hh => hh.elim fun m hp => pl_of hp l hl)
  by_cases hw : s.pl.wh l = 0
  · rw [E0, if_neg (fun h => h hw)]
    have OF := Lib.hid (fun (W : World) (k : OnWay (RuX b q r told (rdS r s l)) S w W) => show Calls Tryz.prog 47 #[.pointer (some ⟨q.pl, 0, none⟩), .int .i64 (l : Int)] W (fun e w' => e = .returned (.tuple #[.int .i64 0, .bool false]) ∧ W = w') from by
      have := OF.out W k
      have hw' : (rdS r s l).pl.wh l = 0 := hw
      rw [hw'] at this
      exact this)
    have FI := Lib.hid (fun (W : World) (k : OnWay (RuX b q r told (rdS r s l)) S w W) => k.call (fun A g o => ru_fill_any g o (rb_rd hB) (by omega) l hl hw hx (rdS r s l).pv.scan))
    have FT := Lib.hid (fun (hv : anyP (rdS r s l).pv = true → vicP (rdS r s l).pv < r.c.n) => fillR_t (r := r) (s := rdS r s l) (lba := l) (sc := (rdS r s l).pv.scan) hv hw)
    have KM := Lib.hid (And.intro hB.mi hB.by_)
    have HK := Lib.hid hK
    have ES : (readP r.c s.pv (l : Int)).scan = (rdS r s l).pv.scan := rfl
    rw [ES] at PR
    clear h ho hB hK hx h0 h1 hl hw E0 ES
    generalize (rdS r s l).pv.scan = sc at *
    generalize fillR r (rdS r s l) l sc = f at *
    obtain ⟨ok, f⟩ := f
    go_enter Tryz.func33, Tryz.ntmps33
    go_wp2_with fail
    refine PR.out.mono ?_
    rintro e w1 ⟨rfl, h1⟩
    have O1 := Lib.hid (show OnWay (RuX b q r told (rdS r s l)) S w w1 from h1)
    have c1 : w1.cell? ⟨b, 1, none⟩ = some (.pointer (some ⟨q.pl, 0, none⟩)) := h1.1.top.cell (i := 1) (by omega)
    have HT := Lib.hid (FT.out O1.out.1.vic)
    clear h1 c0 c4
    go_wp2_with fail
    refine (OF.out _ O1.out).mono ?_
    rintro e w' ⟨rfl, rfl⟩
    go_wp2_with fail
    refine (FI.out _ O1.out).mono ?_
    rintro e w2 ⟨rfl, h2⟩
    cases ok
    · have c7 : w2.cell? ⟨b, 7, none⟩ = some (.int .i64 (f.t.byps : Int)) := h2.1.top.cell (i := 7) (by omega)
      have f7 := h2.1.top.free 7
      have e7 : (f.t.byps : Int) ≤ 100000 := by have e : f.t.byps = s.t.byps := HT.out.2.2; have := KM.out.2; have := HK.out; omega
      have F := OnWay.done (h2.move (RuX.setT { f.t with byps := f.t.byps + 1 } 7 (.int .i64 ((f.t.byps + 1 : Nat) : Int)) (ruF7 _ _ _ _)))
      have z1 : ((f.t.byps + 1 : Nat) : Int) = (f.t.byps : Int) + 1 := by omega
      rw [z1] at F
      have F := Lib.hid F
      clear h2 z1 c1
      go_wp2
      go_ret
      exact ⟨rfl, F.out⟩
    · have c6 : w2.cell? ⟨b, 6, none⟩ = some (.int .i64 (f.t.misses : Int)) := h2.1.top.cell (i := 6) (by omega)
      have f6 := h2.1.top.free 6
      have e6 : (f.t.misses : Int) ≤ 100000 := by have e : f.t.misses = s.t.misses := HT.out.2.1; have := KM.out.1; have := HK.out; omega
      have F := OnWay.done (h2.move (RuX.setT { f.t with misses := f.t.misses + 1 } 6 (.int .i64 ((f.t.misses + 1 : Nat) : Int)) (ruF6 _ _ _ _)))
      have z1 : ((f.t.misses + 1 : Nat) : Int) = (f.t.misses : Int) + 1 := by omega
      rw [z1] at F
      have F := Lib.hid F
      clear h2 z1 c1
      go_wp2
      go_ret
      exact ⟨rfl, F.out⟩
  · rw [E0, if_pos hw]
    have OF := Lib.hid (fun (W : World) (k : OnWay (RuX b q r told (rdS r s l)) S w W) => show Calls Tryz.prog 47 #[.pointer (some ⟨q.pl, 0, none⟩), .int .i64 (l : Int)] W (fun e w' => e = .returned (.tuple #[.int .i64 (s.pl.wh l - 1), .bool true]) ∧ W = w') from by
      have := OF.out W k
      have hw' : ¬ (rdS r s l).pl.wh l = 0 := hw
      rw [if_neg hw', decide_eq_true hw'] at this
      exact this)
    have HI := Lib.hid (fun (W : World) (k : OnWay (RuX b q r told (rdS r s l)) S w W) => k.call (RuX.polc (fun A g o => po_hit g o (s.pl.wh l - 1))))
    have e5 : (s.t.hits : Int) ≤ 100000 := by have := hB.hi; omega
    clear h ho hB hK hx h0 h1 hl hw E0
    generalize hy : s.pl.wh l - 1 = y at *
    have HY := Lib.hid hy
    clear hy
    go_enter Tryz.func33, Tryz.ntmps33
    go_wp2_with fail
    refine PR.out.mono ?_
    rintro e w1 ⟨rfl, h1⟩
    have O1 := Lib.hid (show OnWay (RuX b q r told (rdS r s l)) S w w1 from h1)
    have c1 : w1.cell? ⟨b, 1, none⟩ = some (.pointer (some ⟨q.pl, 0, none⟩)) := h1.1.top.cell (i := 1) (by omega)
    have c0' : w1.cell? ⟨b, 0, none⟩ = some (.pointer (some ⟨q.po, 0, none⟩)) := h1.1.top.cell (i := 0) (by omega)
    clear h1 c0 c4
    generalize (readP r.c s.pv (l : Int)).scan = sc
    go_wp2_with fail
    refine (OF.out _ O1.out).mono ?_
    rintro e w' ⟨rfl, rfl⟩
    go_wp2_with fail
    refine (HI.out _ O1.out).mono ?_
    rintro e w2 ⟨rfl, h2⟩
    have c5 : w2.cell? ⟨b, 5, none⟩ = some (.int .i64 (s.t.hits : Int)) := h2.1.top.cell (i := 5) (by omega)
    have f5 := h2.1.top.free 5
    have F := OnWay.done (h2.move (RuX.setT { s.t with hits := s.t.hits + 1 } 5 (.int .i64 ((s.t.hits + 1 : Nat) : Int)) (ruF5 _ _ _ _)))
    have z1 : ((s.t.hits + 1 : Nat) : Int) = (s.t.hits : Int) + 1 := by omega
    rw [z1, ← HY.out] at F
    have F := Lib.hid F
    clear h2 z1 c1 c0'
    go_wp2
    go_ret
    exact ⟨rfl, F.out⟩
end
end Go.Proofs.YtbgknopjgohocaaGreat
