/- The document's device: what stands in memory; walks of New, Has, Stands, Read, of a power's Fuse and spend. -/
import Derived.Test.YtlfeglnacphhlaaDn
namespace Go.Proofs.Ytlfeglnacphhlaa
open Go.RowKit Go.Maps
set_option linter.unusedVariables false

/-- The slice v reads as a row of strings. -/
def RdT (w : World) (v : Value) (l : List ByteArray) : Prop :=
  (v = .slice none 0 0 ∧ l = []) ∨ ∃ g c cur, v = .slice (some ⟨g, 0, none⟩) l.length c ∧ w.heap[g]? = some (.cells cur 9 (0, 0)) ∧ ∀ (j : Nat) (x : ByteArray), l[j]? = some x → cur[j]? = some (.string x)

theorem RdT.keep {T : Nat → Prop} {w w' : World} {v : Value} {l : List ByteArray} (h : RdT w v l) (k : Keeps T w w') (hT : ∀ g, v.ownBlock = some g → ¬ T g) : RdT w' v l := by
  rcases h with h | ⟨g, c, cur, hv, hb, hc⟩
  · exact .inl h
  · exact .inr ⟨g, c, cur, hv, k.blk hb (hT g (by rw [hv]; rfl)), hc⟩
theorem RdT.lt {w : World} {v : Value} {l : List ByteArray} (h : RdT w v l) : ∀ g, v.ownBlock = some g → g < w.heap.size := by
  rcases h with ⟨h, _⟩ | ⟨g, c, cur, hv, hb, hc⟩
  · intro g e; rw [h] at e; simp [Value.ownBlock] at e
  · intro k e
    rw [hv] at e
    obtain rfl : g = k := by simpa [Value.ownBlock] using e
    exact blk_lt' hb
theorem RdT.ne {w : World} {v : Value} {l : List ByteArray} (h : RdT w v l) {b L : Nat} {t : TypeId} {F : Nat → Value} (a : Arr w b t L F) (ht : t ≠ 9) : v.ownBlock ≠ some b := by
  intro e
  obtain ⟨cs, hb', _⟩ := a
  rcases h with ⟨h, _⟩ | ⟨g, c, cur, hv, hb, hc⟩
  · rw [h] at e; simp [Value.ownBlock] at e
  · rw [hv] at e
    obtain rfl : g = b := by simpa [Value.ownBlock] using e
    rw [hb] at hb'
    simp at hb'
    exact ht hb'.2.symm
theorem RdT.open_ {w : World} {v : Value} {l : List ByteArray} (h : RdT w v l) : ∃ A c, v = .slice A l.length c ∧ (0 < l.length → ∃ g, A = some ⟨g, 0, none⟩ ∧ ∀ (j : Nat) (x : ByteArray), l[j]? = some x → w.cell? ⟨g, j, none⟩ = some (.string x)) := by
  rcases h with ⟨h, rfl⟩ | ⟨g, c, cur, hv, hb, hc⟩
  · exact ⟨none, 0, h, fun x => absurd x (by simp)⟩
  · exact ⟨_, c, hv, fun _ => ⟨g, rfl, fun j x hx => by rw [blk_cell' hb]; exact hc j x hx⟩⟩

def rvF (q G : Nat) (s : DS) : Nat → Value
  | 0 => .pointer (some ⟨q, 0, none⟩)
  | 1 => .slice (some ⟨G, 0, none⟩) s.n s.n
  | 2 => .int .u64 (s.rd : Int)
  | _ => .int .u64 (s.wr : Int)

/-- A sector's three cells. -/
def oneF (LV : Nat → Value) (s : DS) (j : Nat) : Value := if j % 3 = 0 then .string (s.fixed (j / 3)) else if j % 3 = 1 then LV (j / 3) else .bool (s.rot (j / 3))

structure Rv (w : World) (e q G : Nat) (LV : Nat → Value) (s : DS) : Prop where
  top : Arr w e 57 4 (rvF q G s)
  fx : Arr w G 62 (s.n * 3) (oneF LV s)
  lo : ∀ i, i < s.n → RdT w (LV i) (s.loose i)
  ll : ∀ i, i < s.n → (s.loose i).length ≤ s.lim
  n1 : s.n ≤ 4096
  r1 : s.rd < 18446744073709551616
  w1 : s.wr < 18446744073709551616

/-- The document's device at e on the power at q. -/
def RvO (e q : Nat) (s : DS) (S : Nat → Prop) (w : World) : Prop := ∃ G LV, Rv w e q G LV s ∧ S e ∧ S G ∧ ∀ i, i < s.n → ∀ g, (LV i).ownBlock = some g → S g

theorem Rv.keep {T : Nat → Prop} {w w' : World} {e q G : Nat} {LV : Nat → Value} {s : DS} (h : Rv w e q G LV s) (k : Keeps T w w') (he : ¬ T e) (hG : ¬ T G) (hl : ∀ i, i < s.n → ∀ g, (LV i).ownBlock = some g → ¬ T g) : Rv w' e q G LV s :=
  { h with
    top := h.top.keep k he
    fx := h.fx.keep k hG
    lo := fun i hi => (h.lo i hi).keep k (hl i hi) }

instance (e q : Nat) (s : DS) : Rep (RvO e q s) where
  keep := fun ⟨G, LV, h, he, hG, hl⟩ _ k ht => ⟨G, LV, h.keep k (ht _ he) (ht _ hG) (fun i hi g e => ht _ (hl i hi g e)), he, hG, hl⟩
  mono := fun ⟨G, LV, h, he, hG, hl⟩ hs => ⟨G, LV, h, hs _ he, hs _ hG, fun i hi g e => hs _ (hl i hi g e)⟩

theorem Rv.drewN {w : World} {e q G : Nat} {LV : Nat → Value} {s : DS} (h : Rv w e q G LV s) (n : Nat) : Rv (w.drewN n) e q G LV s :=
  h.keep ((Keeps.refl (fun _ => False) w).drewN n) (fun x => x) (fun x => x) (fun _ _ _ _ x => x)

/-! ### The document's power -/
structure RPS where
  off : Bool
  fused : Bool
  left : Int
  done : Int
def rpF (s : RPS) : Nat → Value
  | 0 => .bool s.off
  | 1 => .bool s.fused
  | 2 => .int .i64 s.left
  | _ => .int .i64 s.done

/-- The document's power at q stands as the program's does. -/
structure RPow (w : World) (q : Nat) (s : PS) : Prop where
  top : ∃ l, Arr w q 81 4 (rpF ⟨s.off, decide (0 ≤ s.fuse), l, s.done⟩) ∧ (0 ≤ s.fuse → l = s.fuse)
  f0 : -1 ≤ s.fuse
  f1 : s.fuse ≤ 1048576
  d0 : -9223372036854775808 ≤ s.done
  d1 : s.done ≤ 9223372036854775807

section
variable {w w' : World} {q : Nat} {s : PS}
theorem RPow.keep {T : Nat → Prop} (h : RPow w q s) (k : Keeps T w w') (hT : ¬ T q) : RPow w' q s := { h with top := by obtain ⟨l, a, b⟩ := h.top; exact ⟨l, a.keep k hT, b⟩ }
theorem RPow.lt (h : RPow w q s) : q < w.heap.size := by obtain ⟨l, a, b⟩ := h.top; exact a.lt
theorem RPow.c0 (h : RPow w q s) : w.cell? ⟨q, 0, none⟩ = some (.bool s.off) := by obtain ⟨l, a, b⟩ := h.top; exact a.cell (i := 0) (by omega)
theorem RPow.c3 (h : RPow w q s) : w.cell? ⟨q, 3, none⟩ = some (.int .i64 s.done) := by obtain ⟨l, a, b⟩ := h.top; exact a.cell (i := 3) (by omega)
theorem RPow.free (h : RPow w q s) (i : Nat) : w.frozen? ⟨q, i, none⟩ = false := by obtain ⟨l, a, b⟩ := h.top; exact a.free i

theorem RPow.made (w : World) : RPow (w.alloc (.cells #[.bool false, .bool false, .int .i64 0, .int .i64 0] 81)) w.heap.size newP :=
  ⟨⟨0, ⟨_, heap_at _ _ _ rfl, rfl, fun i hi => by
    have : i = 0 ∨ i = 1 ∨ i = 2 ∨ i = 3 := by omega
    rcases this with rfl | rfl | rfl | rfl <;> rfl⟩, fun h => by simp [newP] at h⟩, by decide, by decide, by decide, by decide⟩

theorem RPow.cut (h : RPow w q s) : RPow (w.setCell ⟨q, 0, none⟩ (.bool true)) q { s with off := true } :=
  { h with top := by
             obtain ⟨l, a, b⟩ := h.top
             refine ⟨l, (a.set 0 _).congr fun i hi => ?_, b⟩
             have : i = 0 ∨ i = 1 ∨ i = 2 ∨ i = 3 := by omega
             rcases this with rfl | rfl | rfl | rfl <;> rfl }

theorem rp_fuse (h : RPow w q s) (n : Int) (n0 : -9223372036854775808 ≤ n) (n1 : n ≤ 9223372036854775807) :
    Calls Try.prog 42 #[.pointer (some ⟨q, 0, none⟩), .int .i64 n] w fun e w' => e = .returned (.int .i64 (fuseE s n)) ∧ RPow w' q (fuseP s n) ∧ Keeps (fun k => k = q) w w' ∧ w'.heap.size = w.heap.size := by
  have c0 := h.c0
  have f1 := h.free 1
  have f2 := h.free 2
  have H := Lib.hid h
  obtain ⟨l, a, b⟩ := h.top
  have c1 : w.cell? ⟨q, 1, none⟩ = some (.bool (decide (0 ≤ s.fuse))) := a.cell (i := 1) (by omega)
  have c2 : w.cell? ⟨q, 2, none⟩ = some (.int .i64 l) := a.cell (i := 2) (by omega)
  have HA := Lib.hid a
  unfold fuseE fuseP
  clear h a b
  cases ho : s.off
  · rw [ho] at c0
    rw [if_neg (show ¬ (false = true) by decide), if_neg (show ¬ (false = true) by decide)]
    by_cases h1 : n < -1
    · rw [if_pos (show n < -1 ∨ 1048576 < n from .inl h1), if_pos (show n < -1 ∨ 1048576 < n from .inl h1)]
      have e1 : decide (n < -1) = true := decide_eq_true h1
      clear ho
      go_enter Try.func42, Try.ntmps42
      go_wp2
      go_ret
      exact ⟨rfl, H.out, Keeps.refl _ _, rfl⟩
    · by_cases h2 : 1048576 < n
      · rw [if_pos (show n < -1 ∨ 1048576 < n from .inr h2), if_pos (show n < -1 ∨ 1048576 < n from .inr h2)]
        have e1 : decide (n < -1) = false := decide_eq_false h1
        have e2 : decide (1048576 < n) = true := decide_eq_true h2
        clear ho
        go_enter Try.func42, Try.ntmps42
        go_wp2
        go_ret
        exact ⟨rfl, H.out, Keeps.refl _ _, rfl⟩
      · have h3 : ¬ (n < -1 ∨ 1048576 < n) := by omega
        rw [if_neg h3, if_neg h3]
        have e1 : decide (n < -1) = false := decide_eq_false h1
        have e2 : decide (1048576 < n) = false := decide_eq_false h2
        have FIN : RPow ((w.setCell ⟨q, 1, none⟩ (.bool (decide (0 ≤ n)))).setCell ⟨q, 2, none⟩ (.int .i64 n)) q { s with fuse := n } :=
          { H.out with
            f0 := by show -1 ≤ n; omega
            f1 := by show n ≤ 1048576; omega
            top := ⟨n, ((HA.out.set 1 (.bool (decide (0 ≤ n)))).set 2 (.int .i64 n)).congr (fun i hi => by
              have : i = 0 ∨ i = 1 ∨ i = 2 ∨ i = 3 := by omega
              rcases this with rfl | rfl | rfl | rfl <;> rfl), fun _ => rfl⟩ }
        rw [ho] at FIN
        have FIN := Lib.hid FIN
        clear ho h3 h1 h2
        generalize hd : decide (0 ≤ n) = d at *
        go_enter Try.func42, Try.ntmps42
        go_wp2
        go_ret
        exact ⟨rfl, FIN.out, keep_cells (keep_cells (Keeps.refl (fun k => k = q) w) rfl 1 _) rfl 2 _, by rw [World.size_setCell, World.size_setCell]⟩
  · rw [ho] at c0
    rw [if_pos (show true = true from rfl), if_pos (show true = true from rfl)]
    clear ho
    go_enter Try.func42, Try.ntmps42
    go_wp2
    go_ret
    exact ⟨rfl, H.out, Keeps.refl _ _, rfl⟩

theorem rp_spend (h : RPow w q s) :
    Calls Try.prog 53 #[.pointer (some ⟨q, 0, none⟩)] w fun e w' => e = .returned (.bool (spendB s)) ∧ RPow w' q (spendP s) ∧ Keeps (fun k => k = q) w w' ∧ w'.heap.size = w.heap.size := by
  have c0 := h.c0
  have c3 := h.c3
  have f0 := h.free 0
  have f2 := h.free 2
  have f3 := h.free 3
  have H := Lib.hid h
  obtain ⟨l, a, b⟩ := h.top
  have c1 : w.cell? ⟨q, 1, none⟩ = some (.bool (decide (0 ≤ s.fuse))) := a.cell (i := 1) (by omega)
  have c2 : w.cell? ⟨q, 2, none⟩ = some (.int .i64 l) := a.cell (i := 2) (by omega)
  have HA := Lib.hid a
  have hd := wrap64_bd (s.done + 1)
  have b0 := h.f0
  have b1 := h.f1
  have C := Lib.hid h.cut
  unfold spendB spendP
  by_cases h0 : s.fuse = 0
  · rw [if_pos h0]
    have e0 : (s.fuse == 0) = true := by simp [h0]
    rw [e0]
    have el : l = 0 := by rw [b (by omega), h0]
    rw [show decide (0 ≤ s.fuse) = true from decide_eq_true (by omega)] at c1
    rw [el] at c2
    clear h a b hd b0 b1 h0 el
    go_enter Try.func53, Try.ntmps53
    go_wp2
    go_ret
    exact ⟨rfl, C.out, keep_cell _ _ _ _, by rw [World.size_setCell]⟩
  · rw [if_neg h0]
    have e0 : (s.fuse == 0) = false := by simp [h0]
    rw [e0]
    by_cases hp : 0 < s.fuse
    · rw [if_pos hp]
      have el : l = s.fuse := b (by omega)
      rw [show decide (0 ≤ s.fuse) = true from decide_eq_true (by omega)] at c1
      rw [el] at c2
      have FIN : RPow ((w.setCell ⟨q, 2, none⟩ (.int .i64 (s.fuse - 1))).setCell ⟨q, 3, none⟩ (.int .i64 (wrap64 (s.done + 1)))) q ⟨s.off, s.fuse - 1, wrap64 (s.done + 1)⟩ :=
        { top := ⟨s.fuse - 1, ((HA.out.set 2 (.int .i64 (s.fuse - 1))).set 3 (.int .i64 (wrap64 (s.done + 1)))).congr (fun i hi => by
            have : i = 0 ∨ i = 1 ∨ i = 2 ∨ i = 3 := by omega
            have e1 : decide (0 ≤ s.fuse) = true := decide_eq_true (by omega)
            have e2 : decide (0 ≤ s.fuse - 1) = true := decide_eq_true (by omega)
            rcases this with rfl | rfl | rfl | rfl
            · rfl
            · show Value.bool (decide (0 ≤ s.fuse)) = Value.bool (decide (0 ≤ s.fuse - 1)); rw [e1, e2]
            · rfl
            · rfl), fun _ => rfl⟩
          f0 := by show -1 ≤ s.fuse - 1; omega
          f1 := by show s.fuse - 1 ≤ 1048576; omega
          d0 := hd.1
          d1 := hd.2 }
      have FIN := Lib.hid FIN
      have e2 : (s.fuse == 0) = false := e0
      have c3' : (w.setCell ⟨q, 2, none⟩ (.int .i64 (s.fuse - 1))).cell? ⟨q, 3, none⟩ = some (.int .i64 s.done) := (HA.out.set 2 _).cell (i := 3) (by omega)
      have f3' : (w.setCell ⟨q, 2, none⟩ (.int .i64 (s.fuse - 1))).frozen? ⟨q, 3, none⟩ = false := (HA.out.set 2 _).free 3
      have b2 : s.fuse ≤ 1048576 := b1
      clear h a b hd h0 el HA
      go_enter Try.func53, Try.ntmps53
      go_wp2
      go_ret
      exact ⟨rfl, FIN.out, keep_cells (keep_cells (Keeps.refl (fun k => k = q) w) rfl 2 _) rfl 3 _, by rw [World.size_setCell, World.size_setCell]⟩
    · rw [if_neg hp]
      rw [show decide (0 ≤ s.fuse) = false from decide_eq_false (by omega)] at c1
      have FIN : RPow (w.setCell ⟨q, 3, none⟩ (.int .i64 (wrap64 (s.done + 1)))) q ⟨s.off, s.fuse, wrap64 (s.done + 1)⟩ :=
        { top := ⟨l, (HA.out.set 3 (.int .i64 (wrap64 (s.done + 1)))).congr (fun i hi => by
            have : i = 0 ∨ i = 1 ∨ i = 2 ∨ i = 3 := by omega
            rcases this with rfl | rfl | rfl | rfl <;> rfl), b⟩
          f0 := H.out.f0
          f1 := H.out.f1
          d0 := hd.1
          d1 := hd.2 }
      have FIN := Lib.hid FIN
      clear h a b hd h0 hp b0 b1 HA
      go_enter Try.func53, Try.ntmps53
      go_wp2
      go_ret
      exact ⟨rfl, FIN.out, keep_cell _ _ _ _, by rw [World.size_setCell]⟩
end

end Go.Proofs.Ytlfeglnacphhlaa
