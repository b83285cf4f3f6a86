/- The program's lists: what they hold; walks of Of, Len, Push, Remove, Back. -/
import Derived.Test.YtbhcpedokgdipaaLs
import Derived.Test.YtbhcpedokgdipaaSkX
import Derived.BigRegion
namespace Go.Proofs.Ytbhcpedokgdipaa
open Go.RowKit
set_option linter.unusedVariables false

/-- What the lists know: who is next, who is ahead, in which list, how many, and the rows. -/
structure LS where
  nx : Nat → Nat
  pv : Nat → Nat
  tg : Nat → Nat
  cn : Nat → Nat
  rows : Nat → List Nat

/-- A row without a number. -/
def wo (x : Nat) (l : List Nat) : List Nat := l.filter (fun y => y ≠ x)

structure LInv (n K : Nat) (t : LS) : Prop where
  ring : ∀ k, k < K → Links t.nx t.pv ((n + k) :: (t.rows k ++ [n + k]))
  nod : ∀ k, k < K → (t.rows k).Nodup
  lt : ∀ k, k < K → ∀ x ∈ t.rows k, x < n
  mem : ∀ k, k < K → ∀ x, x < n → (x ∈ t.rows k ↔ t.tg x = k + 1)
  tle : ∀ x, x < n → t.tg x ≤ K
  many : ∀ k, k < K → t.cn k = (t.rows k).length

def unlinkS (t : LS) (m : Nat) : LS :=
  ⟨up1 (up1 t.nx (t.pv m) (t.nx m)) m m, up1 (up1 t.pv (t.nx m) (t.pv m)) m m, up1 t.tg m 0, up1 t.cn (t.tg m - 1) (t.cn (t.tg m - 1) - 1), fun k => wo m (t.rows k)⟩
def linkS (n : Nat) (t : LS) (k m : Nat) : LS :=
  ⟨up1 (up1 t.nx m (t.nx (n + k))) (n + k) m, up1 (up1 t.pv m (n + k)) (t.nx (n + k)) m, up1 t.tg m (k + 1), up1 t.cn k (t.cn k + 1), fun j => if j = k then m :: t.rows k else t.rows j⟩

theorem wo_not {x : Nat} {l : List Nat} (h : x ∉ l) : wo x l = l := by
  unfold wo
  rw [List.filter_eq_self]
  intro a ha
  simp only [ne_eq, decide_eq_true_eq]
  rintro rfl; exact h ha
theorem wo_mem {x y : Nat} {l : List Nat} : y ∈ wo x l ↔ y ∈ l ∧ y ≠ x := by simp [wo]
theorem wo_split {m : Nat} {A B : List Nat} (nd : (A ++ m :: B).Nodup) : wo m (A ++ m :: B) = A ++ B := by
  simp only [List.nodup_append, List.nodup_cons] at nd
  have h1 := wo_not (x := m) (l := A) (fun h => nd.2.2 m h m (by simp) rfl)
  have h2 := wo_not (x := m) (l := B) nd.2.1.1
  have : wo m (A ++ m :: B) = wo m A ++ wo m B := by simp [wo, List.filter_append]
  rw [this, h1, h2]
theorem wo_nodup {m : Nat} {l : List Nat} (h : l.Nodup) : (wo m l).Nodup := h.filter _
theorem wo_len {m : Nat} {l : List Nat} (h : l.Nodup) (hm : m ∈ l) : (wo m l).length = l.length - 1 := by
  obtain ⟨A, B, rfl⟩ := List.append_of_mem hm
  rw [wo_split h]; simp

theorem nodup_len : ∀ (n : Nat) (l : List Nat), l.Nodup → (∀ x ∈ l, x < n) → l.length ≤ n
  | 0, l, _, h => by
    cases l with
    | nil => simp
    | cons a l => have := h a (by simp); omega
  | n + 1, l, nd, h => by
    by_cases hn : n ∈ l
    · have h1 := nodup_len n (wo n l) (wo_nodup nd) (fun x hx => by
        obtain ⟨a, b⟩ := wo_mem.1 hx
        have := h x a; omega)
      rw [wo_len nd hn] at h1
      omega
    · have h1 := nodup_len n l nd (fun x hx => by
        have := h x hx
        have : x ≠ n := by rintro rfl; exact hn hx
        omega)
      omega
theorem LInv.cle {n K : Nat} {t : LS} (h : LInv n K t) {k : Nat} (hk : k < K) : t.cn k ≤ n := by
  rw [h.many k hk]; exact nodup_len n _ (h.nod k hk) (h.lt k hk)

theorem unlink_inv {n K m : Nat} {t : LS} (h : LInv n K t) (hm : m < n) (ht : 0 < t.tg m) : LInv n K (unlinkS t m) := by
  have hk : t.tg m - 1 < K := by have := h.tle m hm; omega
  have hin : m ∈ t.rows (t.tg m - 1) := (h.mem _ hk m hm).2 (by omega)
  have hother : ∀ k, k < K → k ≠ t.tg m - 1 → m ∉ t.rows k := fun k hkK hne hx => by have := (h.mem k hkK m hm).1 hx; omega
  -- the two numbers beside m lie in m's ring
  obtain ⟨A, B, e⟩ := List.append_of_mem hin
  have hr := h.ring _ hk
  rw [e] at hr
  have nd := h.nod _ hk
  rw [e] at nd
  have hh : n + (t.tg m - 1) ∉ A ++ m :: B := fun x => by have := h.lt _ hk _ (e ▸ x); omega
  refine ⟨fun k hkK => ?_, fun k hkK => wo_nodup (h.nod k hkK), fun k hkK x hx => h.lt k hkK x (wo_mem.1 hx).1, fun k hkK x hx => ?_, fun x hx => ?_, fun k hkK => ?_⟩
  · by_cases ek : k = t.tg m - 1
    · subst ek
      show Links _ _ (_ :: (wo m (t.rows _) ++ _))
      rw [e, wo_split nd]
      have hr' : Links t.nx t.pv ((n + (t.tg m - 1)) :: (A ++ m :: B ++ [n + (t.tg m - 1)])) := by simpa using hr
      exact ring_out hr' nd hh
    · show Links _ _ (_ :: (wo m (t.rows k) ++ _))
      rw [wo_not (hother k hkK ek)]
      -- neither m nor the two beside it lie in this ring
      have pin : ∀ (p : Nat), (p = n + (t.tg m - 1) ∨ p ∈ t.rows (t.tg m - 1)) → p ≠ n + k ∧ p ∉ t.rows k := fun p hp => by
        rcases hp with rfl | hp
        · exact ⟨by omega, fun x => by have := h.lt k hkK _ x; omega⟩
        · have hpn := h.lt _ hk p hp
          exact ⟨by omega, fun x => by
            have h1 := (h.mem k hkK p hpn).1 x
            have h2 := (h.mem _ hk p hpn).1 hp
            omega⟩
      obtain ⟨A', p, eA⟩ : ∃ A' p, (n + (t.tg m - 1)) :: A = A' ++ [p] := ⟨_, _, (List.dropLast_concat_getLast (by simp)).symm⟩
      obtain ⟨q, B', eB⟩ : ∃ q B', B ++ [n + (t.tg m - 1)] = q :: B' := by
        cases B with
        | nil => exact ⟨_, [], rfl⟩
        | cons q B => exact ⟨q, B ++ [_], rfl⟩
      have e1 : (n + (t.tg m - 1)) :: (A ++ m :: B ++ [n + (t.tg m - 1)]) = A' ++ p :: m :: q :: B' := by
        rw [show (n + (t.tg m - 1)) :: (A ++ m :: B ++ [n + (t.tg m - 1)]) = ((n + (t.tg m - 1)) :: A) ++ m :: (B ++ [n + (t.tg m - 1)]) by simp, eA, eB]; simp
      have hr' : Links t.nx t.pv ((n + (t.tg m - 1)) :: (A ++ m :: B ++ [n + (t.tg m - 1)])) := by simpa using hr
      rw [e1, links_append] at hr'
      obtain ⟨_, _, hmp, hmq, _, _⟩ := hr'
      have hp : p = n + (t.tg m - 1) ∨ p ∈ t.rows (t.tg m - 1) := by
        have : p ∈ (n + (t.tg m - 1)) :: A := by rw [eA]; simp
        rcases List.mem_cons.1 this with x | x
        · exact .inl x
        · exact .inr (by rw [e]; simp [x])
      have hq : q = n + (t.tg m - 1) ∨ q ∈ t.rows (t.tg m - 1) := by
        have : q ∈ B ++ [n + (t.tg m - 1)] := by rw [eB]; simp
        rcases List.mem_append.1 this with x | x
        · exact .inr (by rw [e]; simp [x])
        · exact .inl (by simpa using x)
      obtain ⟨p1, p2⟩ := pin p hp
      obtain ⟨q1, q2⟩ := pin q hq
      obtain ⟨m1, m2⟩ := pin m (.inr hin)
      have hout : ∀ x, (x = n + k ∨ x ∈ t.rows k) → x ≠ p ∧ x ≠ q ∧ x ≠ m := fun x hx => by
        rcases hx with rfl | hx
        · exact ⟨Ne.symm p1, Ne.symm q1, Ne.symm m1⟩
        · exact ⟨by rintro rfl; exact p2 hx, by rintro rfl; exact q2 hx, by rintro rfl; exact m2 hx⟩
      refine links_congr _ (fun x hx => ?_) (fun x hx => ?_) (h.ring k hkK)
      · have hx' : x = n + k ∨ x ∈ t.rows k := by
          rw [show (n + k) :: (t.rows k ++ [n + k]) = ((n + k) :: t.rows k) ++ [n + k] by simp, List.dropLast_concat] at hx
          exact List.mem_cons.1 hx
        obtain ⟨x1, x2, x3⟩ := hout x hx'
        show up1 (up1 t.nx (t.pv m) (t.nx m)) m m x = _
        rw [hmp, up1_ne x3, up1_ne x1]
      · have hx' : x = n + k ∨ x ∈ t.rows k := by
          simp only [List.tail_cons, List.mem_append, List.mem_singleton] at hx
          exact hx.symm
        obtain ⟨x1, x2, x3⟩ := hout x hx'
        show up1 (up1 t.pv (t.nx m) (t.pv m)) m m x = _
        rw [hmq, up1_ne x3, up1_ne x2]
  · show x ∈ wo m (t.rows k) ↔ up1 t.tg m 0 x = k + 1
    rw [wo_mem, h.mem k hkK x hx]
    by_cases ex : x = m
    · subst ex; simp [up1_at]
    · simp [up1_ne ex, ex]
  · show up1 t.tg m 0 x ≤ K
    by_cases ex : x = m
    · subst ex; simp [up1_at]
    · rw [up1_ne ex]; exact h.tle x hx
  · show up1 t.cn (t.tg m - 1) (t.cn (t.tg m - 1) - 1) k = (wo m (t.rows k)).length
    by_cases ek : k = t.tg m - 1
    · subst ek; rw [up1_at, wo_len (h.nod _ hk) hin, h.many _ hk]
    · rw [up1_ne ek, wo_not (hother k hkK ek), h.many k hkK]

/-- The numbers beside one that is in a list: they are numbers of nodes. -/
theorem beside {n K m : Nat} {t : LS} (h : LInv n K t) (hm : m < n) (ht : 0 < t.tg m) : t.pv m < n + K ∧ t.nx m < n + K ∧ t.pv m ≠ m ∧ t.nx m ≠ m ∧ 0 < t.cn (t.tg m - 1) := by
  have hk : t.tg m - 1 < K := by have := h.tle m hm; omega
  have hin : m ∈ t.rows (t.tg m - 1) := (h.mem _ hk m hm).2 (by omega)
  obtain ⟨A, B, e⟩ := List.append_of_mem hin
  have hr := h.ring _ hk
  have nd := h.nod _ hk
  rw [e] at hr nd
  have lt : ∀ x, x = n + (t.tg m - 1) ∨ x ∈ A ++ m :: B → x < n + K := fun x hx => hx.elim (fun y => by omega) (fun y => by have := h.lt _ hk x (e ▸ y); omega)
  have hh : n + (t.tg m - 1) ∉ A ++ m :: B := fun x => by have := h.lt _ hk _ (e ▸ x); omega
  obtain ⟨A', p, eA⟩ : ∃ A' p, (n + (t.tg m - 1)) :: A = A' ++ [p] := ⟨_, _, (List.dropLast_concat_getLast (by simp)).symm⟩
  obtain ⟨q, B', eB⟩ : ∃ q B', B ++ [n + (t.tg m - 1)] = q :: B' := by
    cases B with
    | nil => exact ⟨_, [], rfl⟩
    | cons q B => exact ⟨q, B ++ [_], rfl⟩
  have e1 : (n + (t.tg m - 1)) :: (A ++ m :: B ++ [n + (t.tg m - 1)]) = A' ++ p :: m :: q :: B' := by
    rw [show (n + (t.tg m - 1)) :: (A ++ m :: B ++ [n + (t.tg m - 1)]) = ((n + (t.tg m - 1)) :: A) ++ m :: (B ++ [n + (t.tg m - 1)]) by simp, eA, eB]; simp
  have hr' : Links t.nx t.pv ((n + (t.tg m - 1)) :: (A ++ m :: B ++ [n + (t.tg m - 1)])) := by simpa using hr
  rw [e1, links_append] at hr'
  obtain ⟨_, _, hmp, hmq, _, _⟩ := hr'
  simp only [List.nodup_append, List.nodup_cons] at nd
  have hp : p = n + (t.tg m - 1) ∨ p ∈ A := by
    have : p ∈ (n + (t.tg m - 1)) :: A := by rw [eA]; simp
    exact List.mem_cons.1 this
  have hq : q ∈ B ∨ q = n + (t.tg m - 1) := by
    have : q ∈ B ++ [n + (t.tg m - 1)] := by rw [eB]; simp
    simpa using this
  rw [hmp, hmq]
  refine ⟨lt _ (hp.imp id (fun x => by simp [x])), lt _ (hq.symm.imp id (fun x => by simp [x])), ?_, ?_, ?_⟩
  · rintro rfl
    rcases hp with x | x
    · omega
    · exact nd.2.2 p x p (by simp) rfl
  · rintro rfl
    rcases hq with x | x
    · exact nd.2.1.1 x
    · omega
  · rw [h.many _ hk, e]; simp; omega

theorem link_inv {n K k m : Nat} {t : LS} (h : LInv n K t) (hk : k < K) (hm : m < n) (ht : t.tg m = 0) : LInv n K (linkS n t k m) := by
  have hnot : ∀ j, j < K → m ∉ t.rows j := fun j hj hx => by have := (h.mem j hj m hm).1 hx; omega
  have hh : ∀ j, j < K → n + j ∉ t.rows j := fun j hj x => by have := h.lt j hj _ x; omega
  -- who is first in the ring
  obtain ⟨q, B', eB⟩ : ∃ q B', t.rows k ++ [n + k] = q :: B' := by
    cases t.rows k with
    | nil => exact ⟨_, [], rfl⟩
    | cons q B => exact ⟨q, B ++ [_], rfl⟩
  have hq : t.nx (n + k) = q := by
    have := h.ring k hk
    rw [eB] at this
    exact this.1
  have hqin : q ∈ t.rows k ∨ q = n + k := by
    have : q ∈ t.rows k ++ [n + k] := by rw [eB]; simp
    simpa using this
  refine ⟨fun j hj => ?_, fun j hj => ?_, fun j hj x hx => ?_, fun j hj x hx => ?_, fun x hx => ?_, fun j hj => ?_⟩
  · by_cases ej : j = k
    · subst ej
      show Links _ _ (_ :: ((if j = j then m :: t.rows j else t.rows j) ++ _))
      rw [if_pos rfl]
      exact ring_in (h.ring j hj) (h.nod j hj) (hh j hj) (hnot j hj) (by omega)
    · show Links _ _ (_ :: ((if j = k then m :: t.rows k else t.rows j) ++ _))
      rw [if_neg ej]
      have hout : ∀ x, (x = n + j ∨ x ∈ t.rows j) → x ≠ m ∧ x ≠ n + k ∧ x ≠ q := fun x hx => by
        rcases hx with rfl | hx
        · exact ⟨by omega, by omega, by
            rcases hqin with y | y
            · have := h.lt k hk q y; omega
            · omega⟩
        · have hxn := h.lt j hj x hx
          exact ⟨by rintro rfl; exact hnot j hj hx, by omega, by
            rintro rfl
            rcases hqin with y | y
            · have h1 := (h.mem k hk x hxn).1 y
              have h2 := (h.mem j hj x hxn).1 hx
              omega
            · omega⟩
      refine links_congr _ (fun x hx => ?_) (fun x hx => ?_) (h.ring j hj)
      · have hx' : x = n + j ∨ x ∈ t.rows j := by
          rw [show (n + j) :: (t.rows j ++ [n + j]) = ((n + j) :: t.rows j) ++ [n + j] by simp, List.dropLast_concat] at hx
          exact List.mem_cons.1 hx
        obtain ⟨x1, x2, x3⟩ := hout x hx'
        show up1 (up1 t.nx m (t.nx (n + k))) (n + k) m x = _
        rw [up1_ne x2, up1_ne x1]
      · have hx' : x = n + j ∨ x ∈ t.rows j := by
          simp only [List.tail_cons, List.mem_append, List.mem_singleton] at hx
          exact hx.symm
        obtain ⟨x1, x2, x3⟩ := hout x hx'
        show up1 (up1 t.pv m (n + k)) (t.nx (n + k)) m x = _
        rw [hq, up1_ne x3, up1_ne x1]
  · show (if j = k then m :: t.rows k else t.rows j).Nodup
    split
    · exact List.nodup_cons.2 ⟨hnot k hk, h.nod k hk⟩
    · exact h.nod j hj
  · have hx' : x ∈ if j = k then m :: t.rows k else t.rows j := hx
    split at hx'
    · rcases List.mem_cons.1 hx' with rfl | y
      · exact hm
      · exact h.lt k hk x y
    · exact h.lt j hj x hx'
  · show x ∈ (if j = k then m :: t.rows k else t.rows j) ↔ up1 t.tg m (k + 1) x = j + 1
    by_cases ex : x = m
    · subst ex
      rw [up1_at]
      split
      · next e => subst e; simp
      · next e => constructor
                  · intro y; exact absurd y (hnot j hj)
                  · intro y; omega
    · rw [up1_ne ex]
      split
      · next e => subst e; rw [List.mem_cons]; simp only [ex, false_or]; exact h.mem j hj x hx
      · exact h.mem j hj x hx
  · show up1 t.tg m (k + 1) x ≤ K
    by_cases ex : x = m
    · subst ex; rw [up1_at]; omega
    · rw [up1_ne ex]; exact h.tle x hx
  · show up1 t.cn k (t.cn k + 1) j = (if j = k then m :: t.rows k else t.rows j).length
    by_cases ej : j = k
    · subst ej; rw [up1_at, if_pos rfl, h.many j hj]; simp
    · rw [up1_ne ej, if_neg ej]; exact h.many j hj

/-- The last one of a ring; the ring's head, if there is none. -/
theorem last_of {n K k : Nat} {t : LS} (h : LInv n K t) (hk : k < K) : t.pv (n + k) = ((t.rows k).getLast?).getD (n + k) := by
  have hr := h.ring k hk
  rcases List.eq_nil_or_concat (t.rows k) with e | ⟨l, a, e⟩
  · rw [e] at hr ⊢; exact hr.2.1
  · rw [e] at hr ⊢
    have : (n + k) :: (l.concat a ++ [n + k]) = ((n + k) :: l) ++ [a, n + k] := by simp
    rw [this, links_last] at hr
    rw [hr.2.2]
    simp

theorem next_of {n K k : Nat} {t : LS} (h : LInv n K t) (hk : k < K) : t.nx (n + k) < n + K := by
  have hr := h.ring k hk
  cases e : t.rows k with
  | nil => rw [e] at hr; have := hr.1; omega
  | cons a l =>
    rw [e] at hr
    have h1 := hr.1
    have h2 := h.lt k hk a (by rw [e]; simp)
    omega

end Go.Proofs.Ytbhcpedokgdipaa
