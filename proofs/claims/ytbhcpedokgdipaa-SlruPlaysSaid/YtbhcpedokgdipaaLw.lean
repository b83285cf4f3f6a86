/- The program's lists: walks. -/
import Derived.Test.YtbhcpedokgdipaaLi
namespace Go.Proofs.Ytbhcpedokgdipaa
open Go.RowKit
set_option linter.unusedVariables false

def liF (g q n K : Nat) : Nat → Value
  | 0 => .slice (some ⟨g, 0, none⟩) (n + K) (n + K)
  | 1 => .int .i64 (n : Int)
  | _ => .slice (some ⟨q, 0, none⟩) K K

/-- The cells of the nodes. -/
def ndF (t : LS) (i : Nat) : Value := if i % 3 = 0 then .int .i64 (t.pv (i / 3) : Int) else if i % 3 = 1 then .int .i64 (t.nx (i / 3) : Int) else .int .i64 (t.tg (i / 3) : Int)
theorem ndF0 (t : LS) (k : Nat) : ndF t (k * 3) = .int .i64 (t.pv k : Int) := by
  unfold ndF; rw [if_pos (by omega), show k * 3 / 3 = k by omega]
theorem ndF1 (t : LS) (k : Nat) : ndF t (k * 3 + 1) = .int .i64 (t.nx k : Int) := by
  unfold ndF; rw [if_neg (by omega), if_pos (by omega), show (k * 3 + 1) / 3 = k by omega]
theorem ndF2 (t : LS) (k : Nat) : ndF t (k * 3 + 2) = .int .i64 (t.tg k : Int) := by
  unfold ndF; rw [if_neg (by omega), if_neg (by omega), show (k * 3 + 2) / 3 = k by omega]
theorem nd_congr {w : World} {g L : Nat} {ty : TypeId} {F : Nat → Value} {t : LS} (h : Arr w g ty (L * 3) F) (e : ∀ k, k < L → F (k * 3) = .int .i64 (t.pv k : Int) ∧ F (k * 3 + 1) = .int .i64 (t.nx k : Int) ∧ F (k * 3 + 2) = .int .i64 (t.tg k : Int)) :
    Arr w g ty (L * 3) (ndF t) :=
  h.congr (fun i hi => by
    have hk : i / 3 < L := by omega
    obtain ⟨e0, e1, e2⟩ := e (i / 3) hk
    have : i = i / 3 * 3 ∨ i = i / 3 * 3 + 1 ∨ i = i / 3 * 3 + 2 := by omega
    rcases this with x | x | x
    · rw [x, ndF0, e0]
    · rw [x, ndF1, e1]
    · rw [x, ndF2, e2])

structure Li (w : World) (b g q n K : Nat) (t : LS) : Prop where
  top : Arr w b 117 3 (liF g q n K)
  nod : Arr w g 119 ((n + K) * 3) (ndF t)
  many : Arr w q 3 K (fun k => .int .i64 (t.cn k : Int))
  inv : LInv n K t
  n2 : n ≤ 1024
  k2 : K ≤ 16

section
variable {w : World} {b g q n K : Nat} {t : LS}

theorem Li.keep {S : Nat → Prop} {w' : World} (h : Li w b g q n K t) (k : Keeps S w w') (hb : ¬ S b) (hg : ¬ S g) (hq : ¬ S q) : Li w' b g q n K t :=
  { h with top := h.top.keep k hb, nod := h.nod.keep k hg, many := h.many.keep k hq }
theorem Li.c0 (h : Li w b g q n K t) : w.cell? ⟨b, 0, none⟩ = some (.slice (some ⟨g, 0, none⟩) (n + K) (n + K)) := h.top.cell (i := 0) (by omega)
theorem Li.c1 (h : Li w b g q n K t) : w.cell? ⟨b, 1, none⟩ = some (.int .i64 (n : Int)) := h.top.cell (i := 1) (by omega)
theorem Li.c2 (h : Li w b g q n K t) : w.cell? ⟨b, 2, none⟩ = some (.slice (some ⟨q, 0, none⟩) K K) := h.top.cell (i := 2) (by omega)
theorem Li.node (h : Li w b g q n K t) {k : Nat} (hk : k < n + K) : w.cell? ⟨g, k * 3, none⟩ = some (.int .i64 (t.pv k : Int)) ∧ w.cell? ⟨g, k * 3 + 1, none⟩ = some (.int .i64 (t.nx k : Int)) ∧ w.cell? ⟨g, k * 3 + 2, none⟩ = some (.int .i64 (t.tg k : Int)) := by
  refine ⟨?_, ?_, ?_⟩
  · rw [h.nod.cell (by omega), ndF0]
  · rw [h.nod.cell (by omega), ndF1]
  · rw [h.nod.cell (by omega), ndF2]

theorem li_has (h : Li w b g q n K t) (m : Int) :
    Calls Try.prog 95 #[.pointer (some ⟨b, 0, none⟩), .int .i64 m] w fun e w' => e = .returned (.bool (decide (0 ≤ m ∧ m < n))) ∧ w = w' := by
  have c1 := h.c1
  clear h
  by_cases h1 : 0 ≤ m
  · by_cases h2 : m < n
    · have e : decide (0 ≤ m ∧ m < n) = true := decide_eq_true ⟨h1, h2⟩
      rw [e]; clear e
      go_enter Try.func95, Try.ntmps95
      go_wp2
      go_ret
      exact ⟨rfl, rfl⟩
    · have e : decide (0 ≤ m ∧ m < n) = false := decide_eq_false (by omega)
      rw [e]; clear e
      have h2' : decide (m < (n : Int)) = false := decide_eq_false h2
      go_enter Try.func95, Try.ntmps95
      go_wp2
      go_ret
      exact ⟨rfl, rfl⟩
  · have e : decide (0 ≤ m ∧ m < n) = false := decide_eq_false (by omega)
    rw [e]; clear e
    have h1' : decide (0 ≤ m) = false := decide_eq_false h1
    go_enter Try.func95, Try.ntmps95
    go_wp2
    go_ret
    exact ⟨rfl, rfl⟩

theorem li_head (h : Li w b g q n K t) (k : Nat) (hk : k < K) :
    Calls Try.prog 94 #[.pointer (some ⟨b, 0, none⟩), .int .i64 (k : Int)] w fun e w' => e = .returned (.tuple #[.int .i64 ((n + k : Nat) : Int), .bool true]) ∧ w = w' := by
  have c1 := h.c1
  have c2 := h.c2
  have h1 : ¬ (k : Int) < 0 := by omega
  have h2 : (k : Int) < (K : Int) := by omega
  have h3 : (n : Int) ≤ 1024 := by have := h.n2; omega
  have h4 : (k : Int) ≤ 16 := by have := h.k2; omega
  clear h
  go_enter Try.func94, Try.ntmps94
  go_wp2
  go_ret2
  exact ⟨by simp, rfl⟩

set_option maxHeartbeats 1000000 in
theorem li_unlink (h : Li w b g q n K t) (m : Nat) (hm : m < n) (ht : 0 < t.tg m) :
    Calls Try.prog 98 #[.pointer (some ⟨b, 0, none⟩), .int .i64 (m : Int)] w fun e w' => e = .returned (.tuple #[]) ∧ Li w' b g q n K (unlinkS t m) ∧ Keeps (fun j => j = g ∨ j = q) w w' := by
  obtain ⟨bp, bn, np, nn, mk0⟩ := beside h.inv hm ht
  have hk : t.tg m - 1 < K := by have := h.inv.tle m hm; omega
  have inv' := Lib.hid (unlink_inv h.inv hm ht)
  have c0 := h.c0
  have c2 := h.c2
  obtain ⟨d0, d1, d2⟩ := h.node (k := m) (by omega)
  obtain ⟨p0, p1, p2⟩ := h.node bp
  obtain ⟨n0, n1, n2⟩ := h.node bn
  have dm := h.many.cell hk
  have fg := fun i => h.nod.free i
  have fq := fun i => h.many.free i
  have H := Lib.hid h
  have x1 : (m : Int) < ((n + K : Nat) : Int) := by omega
  have x2 : (t.pv m : Int) < ((n + K : Nat) : Int) := by omega
  have x3 : (t.nx m : Int) < ((n + K : Nat) : Int) := by omega
  have x4 : 1 ≤ (t.tg m : Int) := by omega
  have x5 : (t.tg m : Int) - 1 < (K : Int) := by omega
  have x6 : ((t.tg m : Int) - 1).toNat = t.tg m - 1 := by omega
  have hlt := h.nod.lt
  have hlq := h.many.lt
  have hlb := h.top.lt
  clear h
  go_enter Try.func98, Try.ntmps98
  go_wp2_with fail
  go_region
  have A1 : Arr (((w.setCell ⟨g, t.pv m * 3 + 1, none⟩ (.int .i64 (t.nx m : Int))).setCell ⟨g, t.nx m * 3, none⟩ (.int .i64 (t.pv m : Int))).alloc (.cells #[.int .i64 (t.pv m : Int), .int .i64 (t.nx m : Int), .int .i64 (t.tg m : Int)] 119)).drew g 119 ((n + K) * 3) _ :=
    (((H.out.nod.set (t.pv m * 3 + 1) (.int .i64 (t.nx m : Int))).set (t.nx m * 3) (.int .i64 (t.pv m : Int))).past _).drewN 1
  have K1 : Keeps (fun j => j = g) w (((w.setCell ⟨g, t.pv m * 3 + 1, none⟩ (.int .i64 (t.nx m : Int))).setCell ⟨g, t.nx m * 3, none⟩ (.int .i64 (t.pv m : Int))).alloc (.cells #[.int .i64 (t.pv m : Int), .int .i64 (t.nx m : Int), .int .i64 (t.tg m : Int)] 119)).drew :=
    ((((Keeps.refl (fun j => j = g) w).setCell (p := ⟨g, t.pv m * 3 + 1, none⟩) (.inl rfl) _).setCell (p := ⟨g, t.nx m * 3, none⟩) (.inl rfl) _).alloc _).drew
  have l2 : (((w.setCell ⟨g, t.pv m * 3 + 1, none⟩ (.int .i64 (t.nx m : Int))).setCell ⟨g, t.nx m * 3, none⟩ (.int .i64 (t.pv m : Int))).alloc (.cells #[.int .i64 (t.pv m : Int), .int .i64 (t.nx m : Int), .int .i64 (t.tg m : Int)] 119)).drew.cell? ⟨w.heap.size, 2, none⟩ = some (.int .i64 (t.tg m : Int)) :=
    blk_cell' (heap_at _ _ _ (by simp [World.size_setCell])) 2
  generalize (((w.setCell ⟨g, t.pv m * 3 + 1, none⟩ (.int .i64 (t.nx m : Int))).setCell ⟨g, t.nx m * 3, none⟩ (.int .i64 (t.pv m : Int))).alloc (.cells #[.int .i64 (t.pv m : Int), .int .i64 (t.nx m : Int), .int .i64 (t.tg m : Int)] 119)).drew = w1 at *
  have TG := H.out.top.keep K1 (fun e => H.out.top.ne H.out.nod (by decide) e)
  have MG := H.out.many.keep K1 (fun e => H.out.many.ne H.out.nod (by decide) e)
  have e0 := A1.cell (i := m * 3) (by omega)
  have e1 := A1.cell (i := m * 3 + 1) (by omega)
  have e2 := A1.cell (i := m * 3 + 2) (by omega)
  have ef := fun i => A1.free i
  have t0 : w1.cell? ⟨b, 0, none⟩ = some (.slice (some ⟨g, 0, none⟩) (n + K) (n + K)) := TG.cell (i := 0) (by omega)
  -- the node, behind
  have A2 := Lib.hid (((A1.set (m * 3) (.int .i64 (m : Int))).set (m * 3 + 1) (.int .i64 (m : Int))).set (m * 3 + 2) (.int .i64 0))
  have K2 := Lib.hid ((((Keeps.refl (fun j => j = g) w1).setCell (p := ⟨g, m * 3, none⟩) (.inl rfl) (.int .i64 (m : Int))).setCell (p := ⟨g, m * 3 + 1, none⟩) (.inl rfl) (.int .i64 (m : Int))).setCell (p := ⟨g, m * 3 + 2, none⟩) (.inl rfl) (.int .i64 0))
  have HK1 := Lib.hid K1
  have HT := Lib.hid TG
  have HM := Lib.hid MG
  clear A1 K1 TG MG c0 c2 d0 d1 d2 p0 p1 p2 n0 n1 n2 dm fg fq
  go_wp2_with fail
  have l2' := K2.out.cell l2 (fun e => by have : w.heap.size = g := e; omega)
  have TG2 := HT.out.keep K2.out (fun e => H.out.top.ne H.out.nod (by decide) e)
  have MG2 := HM.out.keep K2.out (fun e => H.out.many.ne H.out.nod (by decide) e)
  have KK2 := K2.out
  have AA2 := A2.out
  clear l2 e0 e1 e2 ef t0
  generalize ((w1.setCell ⟨g, m * 3, none⟩ (.int .i64 (m : Int))).setCell ⟨g, m * 3 + 1, none⟩ (.int .i64 (m : Int))).setCell ⟨g, m * 3 + 2, none⟩ (.int .i64 0) = w2 at *
  have t2 : w2.cell? ⟨b, 2, none⟩ = some (.slice (some ⟨q, 0, none⟩) K K) := TG2.cell (i := 2) (by omega)
  have dm := MG2.cell hk
  have fq := fun i => MG2.free i
  have cle := H.out.inv.cle hk
  have y1 : 1 ≤ (t.cn (t.tg m - 1) : Int) := by omega
  have y2 : (t.cn (t.tg m - 1) : Int) ≤ 1024 := by have := H.out.n2; omega
  have y3 : (t.tg m : Int) ≤ 16 := by have := H.out.inv.tle m hm; have := H.out.k2; omega
  have HK2 := Lib.hid KK2
  have HA2 := Lib.hid AA2
  have HT2 := Lib.hid TG2
  have HM2 := Lib.hid MG2
  clear KK2 AA2 TG2 MG2 A2 K2 HT HM
  go_region
  go_wp2
  go_end0
  have kf := HK1.out.trans HK2.out (fun j hj => .inl hj)
  have kq := ((Keeps.refl (fun j => j = q) w2).setCell (p := ⟨q, t.tg m - 1, none⟩) (.inl rfl) (.int .i64 ((t.cn (t.tg m - 1) : Int) - 1)))
  have kall : Keeps (fun j => j = g ∨ j = q) w (w2.setCell ⟨q, t.tg m - 1, none⟩ (.int .i64 ((t.cn (t.tg m - 1) : Int) - 1))) := (kf.mono (T := fun j => j = g ∨ j = q) (fun _ _ x => .inl x)).trans kq (fun j hj => .inl (.inr hj))
  refine ⟨rfl, ⟨Arr.drewN (HT2.out.keep kq (H.out.top.ne H.out.many (by decide))) 1, Arr.drewN (nd_congr (HA2.out.keep kq (fun e => H.out.many.ne H.out.nod (by decide) e.symm)) (fun k hk' => ?_)) 1, Arr.drewN ((HM2.out.set (t.tg m - 1) _).congr (fun k hk' => ?_)) 1, inv'.out, H.out.n2, H.out.k2⟩, kall.drew⟩
  · refine ⟨?_, ?_, ?_⟩
    · show (if k * 3 = m * 3 + 2 then _ else if k * 3 = m * 3 + 1 then _ else if k * 3 = m * 3 then _ else if k * 3 = t.nx m * 3 then _ else if k * 3 = t.pv m * 3 + 1 then _ else ndF t (k * 3)) = Value.int .i64 (up1 (up1 t.pv (t.nx m) (t.pv m)) m m k : Int)
      rw [if_neg (by omega), if_neg (by omega)]
      by_cases h1 : k = m
      · subst h1; rw [if_pos rfl, up1_at]
      · rw [if_neg (by omega), up1_ne h1]
        by_cases h2 : k = t.nx m
        · rw [if_pos (by omega), h2, up1_at]
        · rw [if_neg (by omega), if_neg (by omega), up1_ne h2, ndF0]
    · show (if k * 3 + 1 = m * 3 + 2 then _ else if k * 3 + 1 = m * 3 + 1 then _ else if k * 3 + 1 = m * 3 then _ else if k * 3 + 1 = t.nx m * 3 then _ else if k * 3 + 1 = t.pv m * 3 + 1 then _ else ndF t (k * 3 + 1)) = Value.int .i64 (up1 (up1 t.nx (t.pv m) (t.nx m)) m m k : Int)
      rw [if_neg (by omega)]
      by_cases h1 : k = m
      · subst h1; rw [if_pos rfl, up1_at]
      · rw [if_neg (by omega), if_neg (by omega), if_neg (by omega), up1_ne h1]
        by_cases h2 : k = t.pv m
        · rw [if_pos (by omega), h2, up1_at]
        · rw [if_neg (by omega), up1_ne h2, ndF1]
    · show (if k * 3 + 2 = m * 3 + 2 then _ else if k * 3 + 2 = m * 3 + 1 then _ else if k * 3 + 2 = m * 3 then _ else if k * 3 + 2 = t.nx m * 3 then _ else if k * 3 + 2 = t.pv m * 3 + 1 then _ else ndF t (k * 3 + 2)) = Value.int .i64 (up1 t.tg m 0 k : Int)
      by_cases h1 : k = m
      · subst h1; rw [if_pos rfl, up1_at]; rfl
      · rw [if_neg (by omega), if_neg (by omega), if_neg (by omega), if_neg (by omega), if_neg (by omega), up1_ne h1, ndF2]
  · show (if k = t.tg m - 1 then _ else _) = Value.int .i64 (up1 t.cn (t.tg m - 1) (t.cn (t.tg m - 1) - 1) k : Int)
    unfold up1
    split
    · next e => subst e; congr 1; omega
    · rfl

/-- The world behind the stores of 'link'. -/
theorem nd_link {w : World} {g n K k m : Nat} {t : LS} (h : Arr w g 119 ((n + K) * 3) (ndF t)) (hm : m < n) (hk : k < K) (hx : t.nx (n + k) < n + K) (w' : World)
    (hw : w' = ((((w.setCell ⟨g, m * 3, none⟩ (.int .i64 ((n : Int) + (k : Int)))).setCell ⟨g, m * 3 + 1, none⟩ (.int .i64 (t.nx (n + k) : Int))).setCell ⟨g, m * 3 + 2, none⟩ (.int .i64 ((k : Int) + 1))).setCell ⟨g, (n + k) * 3 + 1, none⟩ (.int .i64 (m : Int))).setCell ⟨g, t.nx (n + k) * 3, none⟩ (.int .i64 (m : Int))) :
    Arr w' g 119 ((n + K) * 3) (ndF (linkS n t k m)) := by
  subst hw
  refine nd_congr (((((h.set (m * 3) _).set (m * 3 + 1) _).set (m * 3 + 2) _).set ((n + k) * 3 + 1) _).set (t.nx (n + k) * 3) _) (fun j hj => ?_)
  refine ⟨?_, ?_, ?_⟩
  · show (if j * 3 = t.nx (n + k) * 3 then _ else if j * 3 = (n + k) * 3 + 1 then _ else if j * 3 = m * 3 + 2 then _ else if j * 3 = m * 3 + 1 then _ else if j * 3 = m * 3 then _ else ndF t (j * 3)) = Value.int .i64 (up1 (up1 t.pv m (n + k)) (t.nx (n + k)) m j : Int)
    by_cases h1 : j = t.nx (n + k)
    · rw [if_pos (by omega), h1, up1_at]
    · rw [if_neg (by omega), if_neg (by omega), if_neg (by omega), if_neg (by omega), up1_ne h1]
      by_cases h2 : j = m
      · rw [if_pos (by omega), h2, up1_at]; rfl
      · rw [if_neg (by omega), up1_ne h2, ndF0]
  · show (if j * 3 + 1 = t.nx (n + k) * 3 then _ else if j * 3 + 1 = (n + k) * 3 + 1 then _ else if j * 3 + 1 = m * 3 + 2 then _ else if j * 3 + 1 = m * 3 + 1 then _ else if j * 3 + 1 = m * 3 then _ else ndF t (j * 3 + 1)) = Value.int .i64 (up1 (up1 t.nx m (t.nx (n + k))) (n + k) m j : Int)
    rw [if_neg (by omega)]
    by_cases h1 : j = n + k
    · rw [if_pos (by omega), h1, up1_at]
    · rw [if_neg (by omega), if_neg (by omega), up1_ne h1]
      by_cases h2 : j = m
      · rw [if_pos (by omega), h2, up1_at]
      · rw [if_neg (by omega), if_neg (by omega), up1_ne h2, ndF1]
  · show (if j * 3 + 2 = t.nx (n + k) * 3 then _ else if j * 3 + 2 = (n + k) * 3 + 1 then _ else if j * 3 + 2 = m * 3 + 2 then _ else if j * 3 + 2 = m * 3 + 1 then _ else if j * 3 + 2 = m * 3 then _ else ndF t (j * 3 + 2)) = Value.int .i64 (up1 t.tg m (k + 1) j : Int)
    rw [if_neg (by omega), if_neg (by omega)]
    by_cases h2 : j = m
    · rw [if_pos (by omega), h2, up1_at]; rfl
    · rw [if_neg (by omega), if_neg (by omega), if_neg (by omega), up1_ne h2, ndF2]

/-- 'link' of a node that is in no list. -/
theorem li_link0 (h : Li w b g q n K t) (k m : Nat) (hk : k < K) (hm : m < n) (ht : t.tg m = 0) :
    Calls Try.prog 96 #[.pointer (some ⟨b, 0, none⟩), .int .i64 (k : Int), .int .i64 (m : Int), .int .i64 ((n + k : Nat) : Int)] w fun e w' => e = .returned (.tuple #[]) ∧ Li w' b g q n K (linkS n t k m) ∧ Keeps (fun j => j = g ∨ j = q) w w' := by
  have inv' := Lib.hid (link_inv h.inv hk hm ht)
  have hx := next_of h.inv hk
  have c0 := h.c0
  have c2 := h.c2
  obtain ⟨d0, d1, d2⟩ := h.node (k := m) (by omega)
  obtain ⟨p0, p1, p2⟩ := h.node (k := n + k) (by omega)
  rw [ht] at d2
  have fg := fun i => h.nod.free i
  have H := Lib.hid h
  have NL := Lib.hid (fun w' => nd_link h.nod hm hk hx w')
  have x1 : (m : Int) < ((n + K : Nat) : Int) := by omega
  have x2 : ((n + k : Nat) : Int) < ((n + K : Nat) : Int) := by omega
  have x3 : (t.nx (n + k) : Int) < ((n + K : Nat) : Int) := by omega
  have x4 : (k : Int) ≤ 16 := by have := h.k2; omega
  have x5 : (k : Int) < (K : Int) := by omega
  clear h
  go_enter Try.func96, Try.ntmps96
  go_wp2_with fail
  have A1 := ((H.out.nod.set (m * 3) (.int .i64 ((n : Int) + (k : Int)))).set (m * 3 + 1) (.int .i64 (t.nx (n + k) : Int))).set (m * 3 + 2) (.int .i64 ((k : Int) + 1))
  have K1 := (((Keeps.refl (fun j => j = g) w).setCell (p := ⟨g, m * 3, none⟩) (.inl rfl) (.int .i64 ((n : Int) + (k : Int)))).setCell (p := ⟨g, m * 3 + 1, none⟩) (.inl rfl) (.int .i64 (t.nx (n + k) : Int))).setCell (p := ⟨g, m * 3 + 2, none⟩) (.inl rfl) (.int .i64 ((k : Int) + 1))
  have NL1 := fun w' => NL.out w'
  clear c0 c2 d0 d1 d2 p0 p1 p2 fg
  generalize hw1 : ((w.setCell ⟨g, m * 3, none⟩ (.int .i64 ((n : Int) + (k : Int)))).setCell ⟨g, m * 3 + 1, none⟩ (.int .i64 (t.nx (n + k) : Int))).setCell ⟨g, m * 3 + 2, none⟩ (.int .i64 ((k : Int) + 1)) = w1 at *
  have HN1 := Lib.hid NL1
  have TG := H.out.top.keep K1 (fun e => H.out.top.ne H.out.nod (by decide) e)
  have MG := H.out.many.keep K1 (fun e => H.out.many.ne H.out.nod (by decide) e)
  have t0 : w1.cell? ⟨b, 0, none⟩ = some (.slice (some ⟨g, 0, none⟩) (n + K) (n + K)) := TG.cell (i := 0) (by omega)
  have t2 : w1.cell? ⟨b, 2, none⟩ = some (.slice (some ⟨q, 0, none⟩) K K) := TG.cell (i := 2) (by omega)
  have e0 := A1.cell (i := (n + k) * 3 + 1) (by omega)
  have e1 := A1.cell (i := t.nx (n + k) * 3) (by omega)
  have ef := fun i => A1.free i
  have dm := MG.cell hk
  have fq := fun i => MG.free i
  have cle := H.out.inv.cle hk
  have y2 : (t.cn k : Int) ≤ 1024 := by have := H.out.n2; omega
  have t0s : ∀ i v, (w1.setCell ⟨g, i, none⟩ v).cell? ⟨b, 0, none⟩ = some (.slice (some ⟨g, 0, none⟩) (n + K) (n + K)) := fun i v => (TG.far (TG.ne A1 (by decide)) i v).cell (i := 0) (by omega)
  have HK1 := Lib.hid K1
  have HT := Lib.hid TG
  have HM := Lib.hid MG
  clear NL1 hw1 K1 TG MG A1 NL
  go_region
  have K2 := ((Keeps.refl (fun j => j = g) w1).setCell (p := ⟨g, (n + k) * 3 + 1, none⟩) (.inl rfl) (.int .i64 (m : Int))).setCell (p := ⟨g, t.nx (n + k) * 3, none⟩) (.inl rfl) (.int .i64 (m : Int))
  have A2 := HN1.out _ rfl
  clear e0 e1 ef t0 t2 dm fq t0s
  generalize (w1.setCell ⟨g, (n + k) * 3 + 1, none⟩ (.int .i64 (m : Int))).setCell ⟨g, t.nx (n + k) * 3, none⟩ (.int .i64 (m : Int)) = w2 at *
  have TG2 := HT.out.keep K2 (fun e => H.out.top.ne H.out.nod (by decide) e)
  have MG2 := HM.out.keep K2 (fun e => H.out.many.ne H.out.nod (by decide) e)
  have t2 : w2.cell? ⟨b, 2, none⟩ = some (.slice (some ⟨q, 0, none⟩) K K) := TG2.cell (i := 2) (by omega)
  have dm := MG2.cell hk
  have fq := fun i => MG2.free i
  have HK2 := Lib.hid K2
  have HA2 := Lib.hid A2
  have HT2 := Lib.hid TG2
  have HM2 := Lib.hid MG2
  clear K2 A2 TG2 MG2 HN1
  go_wp2
  go_end0
  have kf := HK1.out.trans HK2.out (fun j hj => .inl hj)
  have kq := ((Keeps.refl (fun j => j = q) w2).setCell (p := ⟨q, k, none⟩) (.inl rfl) (.int .i64 ((t.cn k : Int) + 1)))
  have kall : Keeps (fun j => j = g ∨ j = q) w (w2.setCell ⟨q, k, none⟩ (.int .i64 ((t.cn k : Int) + 1))) := (kf.mono (T := fun j => j = g ∨ j = q) (fun _ _ x => .inl x)).trans kq (fun j hj => .inl (.inr hj))
  refine ⟨rfl, ⟨Arr.drewN (HT2.out.keep kq (H.out.top.ne H.out.many (by decide))) 1, Arr.drewN (HA2.out.keep kq (fun e => H.out.many.ne H.out.nod (by decide) e.symm)) 1, Arr.drewN ((HM2.out.set k _).congr (fun j hj => ?_)) 1, inv'.out, H.out.n2, H.out.k2⟩, kall.drew⟩
  show (if j = k then _ else _) = Value.int .i64 (up1 t.cn k (t.cn k + 1) j : Int)
  unfold up1
  split
  · next e => subst e; rfl
  · rfl

/-- .. of a node that is in one: it is taken out of it first. -/
theorem li_link1 {w00 : World} {t00 : LS} (h : Li w00 b g q n K t00) (k m : Nat) (hk : k < K) (hm : m < n) (ht : 0 < t00.tg m) :
    Calls Try.prog 96 #[.pointer (some ⟨b, 0, none⟩), .int .i64 (k : Int), .int .i64 (m : Int), .int .i64 ((n + k : Nat) : Int)] w00 fun e w' => e = .returned (.tuple #[]) ∧ Li w' b g q n K (linkS n (unlinkS t00 m) k m) ∧ Keeps (fun j => j = g ∨ j = q) w00 w' := by
  obtain ⟨t, et⟩ : ∃ t, t = unlinkS t00 m := ⟨_, rfl⟩
  have U := li_unlink h m hm ht
  have ht' : t.tg m = 0 := by rw [et]; exact up1_at _ _ _
  rw [← et] at U ⊢
  have U := Lib.hid U
  clear et
  have c0 := h.c0
  obtain ⟨d0, d1, d2⟩ := h.node (k := m) (by omega)
  have z1 : (m : Int) < ((n + K : Nat) : Int) := by omega
  have z6 : (0 : Int) < (t00.tg m : Int) := by omega
  clear h
  go_enter Try.func96, Try.ntmps96
  go_wp2_with fail
  refine U.out.mono ?_
  rintro e w ⟨rfl, h, k0⟩
  have HK0 := Lib.hid k0
  clear k0 c0 d0 d1 d2 z1 z6 U ht
  have ht := ht'
  clear ht'
  have inv' := Lib.hid (link_inv h.inv hk hm ht)
  have hx := next_of h.inv hk
  have c0 := h.c0
  have c2 := h.c2
  obtain ⟨d0, d1, d2⟩ := h.node (k := m) (by omega)
  obtain ⟨p0, p1, p2⟩ := h.node (k := n + k) (by omega)
  rw [ht] at d2
  have fg := fun i => h.nod.free i
  have H := Lib.hid h
  have NL := Lib.hid (fun w' => nd_link h.nod hm hk hx w')
  have x1 : (m : Int) < ((n + K : Nat) : Int) := by omega
  have x2 : ((n + k : Nat) : Int) < ((n + K : Nat) : Int) := by omega
  have x3 : (t.nx (n + k) : Int) < ((n + K : Nat) : Int) := by omega
  have x4 : (k : Int) ≤ 16 := by have := h.k2; omega
  have x5 : (k : Int) < (K : Int) := by omega
  clear h
  go_wp2_with fail
  have A1 := ((H.out.nod.set (m * 3) (.int .i64 ((n : Int) + (k : Int)))).set (m * 3 + 1) (.int .i64 (t.nx (n + k) : Int))).set (m * 3 + 2) (.int .i64 ((k : Int) + 1))
  have K1 := (((Keeps.refl (fun j => j = g) w).setCell (p := ⟨g, m * 3, none⟩) (.inl rfl) (.int .i64 ((n : Int) + (k : Int)))).setCell (p := ⟨g, m * 3 + 1, none⟩) (.inl rfl) (.int .i64 (t.nx (n + k) : Int))).setCell (p := ⟨g, m * 3 + 2, none⟩) (.inl rfl) (.int .i64 ((k : Int) + 1))
  have NL1 := fun w' => NL.out w'
  clear c0 c2 d0 d1 d2 p0 p1 p2 fg
  generalize hw1 : ((w.setCell ⟨g, m * 3, none⟩ (.int .i64 ((n : Int) + (k : Int)))).setCell ⟨g, m * 3 + 1, none⟩ (.int .i64 (t.nx (n + k) : Int))).setCell ⟨g, m * 3 + 2, none⟩ (.int .i64 ((k : Int) + 1)) = w1 at *
  have HN1 := Lib.hid NL1
  have TG := H.out.top.keep K1 (fun e => H.out.top.ne H.out.nod (by decide) e)
  have MG := H.out.many.keep K1 (fun e => H.out.many.ne H.out.nod (by decide) e)
  have t0 : w1.cell? ⟨b, 0, none⟩ = some (.slice (some ⟨g, 0, none⟩) (n + K) (n + K)) := TG.cell (i := 0) (by omega)
  have t2 : w1.cell? ⟨b, 2, none⟩ = some (.slice (some ⟨q, 0, none⟩) K K) := TG.cell (i := 2) (by omega)
  have e0 := A1.cell (i := (n + k) * 3 + 1) (by omega)
  have e1 := A1.cell (i := t.nx (n + k) * 3) (by omega)
  have ef := fun i => A1.free i
  have dm := MG.cell hk
  have fq := fun i => MG.free i
  have cle := H.out.inv.cle hk
  have y2 : (t.cn k : Int) ≤ 1024 := by have := H.out.n2; omega
  have t0s : ∀ i v, (w1.setCell ⟨g, i, none⟩ v).cell? ⟨b, 0, none⟩ = some (.slice (some ⟨g, 0, none⟩) (n + K) (n + K)) := fun i v => (TG.far (TG.ne A1 (by decide)) i v).cell (i := 0) (by omega)
  have HK1 := Lib.hid K1
  have HT := Lib.hid TG
  have HM := Lib.hid MG
  clear NL1 hw1 K1 TG MG A1 NL
  go_region
  have K2 := ((Keeps.refl (fun j => j = g) w1).setCell (p := ⟨g, (n + k) * 3 + 1, none⟩) (.inl rfl) (.int .i64 (m : Int))).setCell (p := ⟨g, t.nx (n + k) * 3, none⟩) (.inl rfl) (.int .i64 (m : Int))
  have A2 := HN1.out _ rfl
  clear e0 e1 ef t0 t2 dm fq t0s
  generalize (w1.setCell ⟨g, (n + k) * 3 + 1, none⟩ (.int .i64 (m : Int))).setCell ⟨g, t.nx (n + k) * 3, none⟩ (.int .i64 (m : Int)) = w2 at *
  have TG2 := HT.out.keep K2 (fun e => H.out.top.ne H.out.nod (by decide) e)
  have MG2 := HM.out.keep K2 (fun e => H.out.many.ne H.out.nod (by decide) e)
  have t2 : w2.cell? ⟨b, 2, none⟩ = some (.slice (some ⟨q, 0, none⟩) K K) := TG2.cell (i := 2) (by omega)
  have dm := MG2.cell hk
  have fq := fun i => MG2.free i
  have HK2 := Lib.hid K2
  have HA2 := Lib.hid A2
  have HT2 := Lib.hid TG2
  have HM2 := Lib.hid MG2
  clear K2 A2 TG2 MG2 HN1
  go_wp2
  go_end0
  have kf := HK1.out.trans HK2.out (fun j hj => .inl hj)
  have kq := ((Keeps.refl (fun j => j = q) w2).setCell (p := ⟨q, k, none⟩) (.inl rfl) (.int .i64 ((t.cn k : Int) + 1)))
  have kall : Keeps (fun j => j = g ∨ j = q) w (w2.setCell ⟨q, k, none⟩ (.int .i64 ((t.cn k : Int) + 1))) := (kf.mono (T := fun j => j = g ∨ j = q) (fun _ _ x => .inl x)).trans kq (fun j hj => .inl (.inr hj))
  refine ⟨rfl, ⟨Arr.drewN (HT2.out.keep kq (H.out.top.ne H.out.many (by decide))) 1, Arr.drewN (HA2.out.keep kq (fun e => H.out.many.ne H.out.nod (by decide) e.symm)) 1, Arr.drewN ((HM2.out.set k _).congr (fun j hj => ?_)) 1, inv'.out, H.out.n2, H.out.k2⟩, HK0.out.trans kall.drew (fun j hj => .inl hj)⟩
  show (if j = k then _ else _) = Value.int .i64 (up1 t.cn k (t.cn k + 1) j : Int)
  unfold up1
  split
  · next e => subst e; rfl
  · rfl

/-- 'link', of whatever node. -/
def pushS (n : Nat) (t : LS) (k m : Nat) : LS := linkS n (if 0 < t.tg m then unlinkS t m else t) k m

theorem li_link (h : Li w b g q n K t) (k m : Nat) (hk : k < K) (hm : m < n) :
    Calls Try.prog 96 #[.pointer (some ⟨b, 0, none⟩), .int .i64 (k : Int), .int .i64 (m : Int), .int .i64 ((n + k : Nat) : Int)] w fun e w' => e = .returned (.tuple #[]) ∧ Li w' b g q n K (pushS n t k m) ∧ Keeps (fun j => j = g ∨ j = q) w w' := by
  by_cases ht : 0 < t.tg m
  · rw [pushS, if_pos ht]
    exact li_link1 h k m hk hm ht
  · rw [pushS, if_neg ht]
    exact li_link0 h k m hk hm (by omega)

theorem li_push (h : Li w b g q n K t) (k m : Nat) (hk : k < K) (hm : m < n) :
    Calls Try.prog 72 #[.pointer (some ⟨b, 0, none⟩), .int .i64 (k : Int), .int .i64 (m : Int)] w fun e w' => e = .returned (.bool true) ∧ Li w' b g q n K (pushS n t k m) ∧ Keeps (fun j => j = g ∨ j = q) w w' := by
  have HD := Lib.hid (li_head h k hk)
  have HS := li_has h (m : Int)
  rw [decide_eq_true (show 0 ≤ (m : Int) ∧ (m : Int) < n by omega)] at HS
  have HS := Lib.hid HS
  have L := Lib.hid (li_link h k m hk hm)
  clear h
  go_enter Try.func72, Try.ntmps72
  go_wp2_with fail
  refine HD.out.mono ?_
  rintro e w' ⟨rfl, rfl⟩
  go_wp2_with fail
  refine HS.out.mono ?_
  rintro e w' ⟨rfl, rfl⟩
  go_wp2_with fail
  refine L.out.mono ?_
  rintro e w' ⟨rfl, h', k'⟩
  have H' := Lib.hid h'
  have K' := Lib.hid k'
  clear h' k'
  go_wp2
  go_ret
  exact ⟨rfl, H'.out, K'.out⟩

theorem li_push_no (h : Li w b g q n K t) (k : Nat) (m : Int) (hk : k < K) (hm : ¬ (0 ≤ m ∧ m < n)) :
    Calls Try.prog 72 #[.pointer (some ⟨b, 0, none⟩), .int .i64 (k : Int), .int .i64 m] w fun e w' => e = .returned (.bool false) ∧ w = w' := by
  have HD := Lib.hid (li_head h k hk)
  have HS := li_has h m
  rw [decide_eq_false hm] at HS
  have HS := Lib.hid HS
  clear h hm
  go_enter Try.func72, Try.ntmps72
  go_wp2_with fail
  refine HD.out.mono ?_
  rintro e w' ⟨rfl, rfl⟩
  go_wp2_with fail
  refine HS.out.mono ?_
  rintro e w' ⟨rfl, rfl⟩
  go_wp2
  go_ret
  exact ⟨rfl, rfl⟩
end

end Go.Proofs.Ytbhcpedokgdipaa
