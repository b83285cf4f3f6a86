/- Several texts of this claim, one behind the other. -/
import Derived.Test.YtbgknopjgohocaaGreatFr
import Derived.Test.YtbgknopjgohocaaGreatZB
import Derived.BigRegion
import Derived.RangeFuncBox
import Derived.RangeFuncNested
import Derived.RangeFuncBound
import Derived.RangeFuncCalls
import Derived.RangeFuncLeaves
import Derived.Shelf.Abstract
import Derived.Shelf.RegionOpen
import Derived.WalkKit
import Derived.OwnWalkIn
import Derived.TacticsInMore
import Derived.LoopNIn
import Derived.LoopIn
import Derived.Maps.AppendAt

/- Rings of numbers, linked both ways: plain laws. -/
namespace Go.Proofs.YtbgknopjgohocaaGreat
set_option linter.unusedVariables false

/-- f, but v at i. -/
def up1 (f : Nat → Nat) (i v : Nat) : Nat → Nat := fun j => if j = i then v else f j
theorem up1_at (f : Nat → Nat) (i v : Nat) : up1 f i v i = v := by simp [up1]
theorem up1_ne {f : Nat → Nat} {i v j : Nat} (h : j ≠ i) : up1 f i v j = f j := by simp [up1, h]

/-- Along the path each one leads to the next one, and back. -/
def Links (nx pv : Nat → Nat) : List Nat → Prop
  | a :: b :: l => nx a = b ∧ pv b = a ∧ Links nx pv (b :: l)
  | _ => True

theorem links_append (nx pv : Nat → Nat) (a : Nat) (l2 : List Nat) : ∀ l1 : List Nat, Links nx pv (l1 ++ a :: l2) ↔ Links nx pv (l1 ++ [a]) ∧ Links nx pv (a :: l2)
  | [] => by simp [Links]
  | [x] => by
    cases l2 with
    | nil => simp [Links]
    | cons y l2 => simp [Links, and_assoc]
  | x :: y :: l => by
    have := links_append nx pv a l2 (y :: l)
    simp only [List.cons_append] at this ⊢
    simp only [Links]
    rw [this]
    simp only [and_assoc]

/-- Where the numbers that lead on, and those that are led to, are as they were. -/
theorem links_congr {nx pv nx' pv' : Nat → Nat} : ∀ l : List Nat, (∀ x ∈ l.dropLast, nx' x = nx x) → (∀ x ∈ l.tail, pv' x = pv x) → Links nx pv l → Links nx' pv' l
  | [], _, _, _ => trivial
  | [_], _, _, _ => trivial
  | a :: b :: l, h1, h2, h => by
    refine ⟨(h1 a (by simp)).trans h.1, (h2 b (by simp)).trans h.2.1, links_congr (b :: l) (fun x hx => h1 x (by simp [hx])) (fun x hx => h2 x ?_) h.2.2⟩
    simp only [List.tail_cons] at hx ⊢
    exact List.mem_cons_of_mem _ hx

theorem links_last (nx pv : Nat → Nat) (a b : Nat) (l : List Nat) : Links nx pv (l ++ [a, b]) ↔ Links nx pv (l ++ [a]) ∧ nx a = b ∧ pv b = a := by
  rw [links_append nx pv a [b] l]; simp [Links]

/-- A path from h back to h over the row l: where one is taken out. -/
theorem ring_out {nx pv : Nat → Nat} {h m : Nat} {A B : List Nat} (hl : Links nx pv (h :: (A ++ m :: B ++ [h]))) (nd : (A ++ m :: B).Nodup) (hh : h ∉ A ++ m :: B) :
    Links (up1 (up1 nx (pv m) (nx m)) m m) (up1 (up1 pv (nx m) (pv m)) m m) (h :: (A ++ B ++ [h])) := by
  -- the one ahead, and the one behind
  obtain ⟨A', p, eA⟩ : ∃ A' p, h :: A = A' ++ [p] := ⟨(h :: A).dropLast, (h :: A).getLast (by simp), (List.dropLast_concat_getLast (by simp)).symm⟩
  obtain ⟨q, B', eB⟩ : ∃ q B', B ++ [h] = q :: B' := by
    cases B with
    | nil => exact ⟨h, [], rfl⟩
    | cons q B => exact ⟨q, B ++ [h], rfl⟩
  have e1 : h :: (A ++ m :: B ++ [h]) = A' ++ p :: m :: q :: B' := by
    rw [show h :: (A ++ m :: B ++ [h]) = (h :: A) ++ m :: (B ++ [h]) by simp, eA, eB]; simp
  have e2 : h :: (A ++ B ++ [h]) = A' ++ p :: q :: B' := by
    rw [show h :: (A ++ B ++ [h]) = (h :: A) ++ (B ++ [h]) by simp, eA, eB]; simp
  rw [e1, links_append] at hl
  obtain ⟨h1, hpm, hmp, hmq, hqm, h2⟩ := hl
  rw [e2, links_append]
  simp only [List.nodup_append, List.nodup_cons, List.mem_append, List.mem_cons, not_or] at nd hh
  obtain ⟨ndA, ⟨hmB, ndB⟩, hAB⟩ := nd
  obtain ⟨hhA, hhm, hhB⟩ := hh
  have hmA : m ∉ A := fun x => (hAB m x m (.inl rfl)) rfl
  have memA : ∀ x, x ∈ A' ++ [p] ↔ x = h ∨ x ∈ A := fun x => by rw [← eA]; simp
  have memB : ∀ x, x ∈ q :: B' ↔ x ∈ B ∨ x = h := fun x => by rw [← eB]; simp
  have hp : p = h ∨ p ∈ A := (memA p).1 (by simp)
  have hq : q ∈ B ∨ q = h := (memB q).1 (by simp)
  have hpm' : p ≠ m := by rintro rfl; exact hp.elim (fun e => hhm e.symm) hmA
  have hqm' : q ≠ m := by rintro rfl; exact hq.elim hmB (fun e => hhm e.symm)
  rw [hmp, hmq]
  -- the row ahead: all differ
  have ndA' : (A' ++ [p]).Nodup := by rw [← eA]; exact List.nodup_cons.2 ⟨hhA, ndA⟩
  have pA' : p ∉ A' := fun x => by
    rw [List.nodup_append] at ndA'
    exact ndA'.2.2 p x p (by simp) rfl
  refine ⟨links_congr _ (fun x hx => ?_) (fun x hx => ?_) h1, ?_, ?_, links_congr _ (fun x hx => ?_) (fun x hx => ?_) h2⟩
  · have hx' : x ∈ A' := by simpa using hx
    have xm : x ≠ m := by
      rintro rfl
      rcases (memA x).1 (by simp [hx']) with e | e
      · exact hhm e.symm
      · exact hmA e
    rw [up1_ne xm, up1_ne (by rintro rfl; exact pA' hx')]
  · have hx' : x ∈ A := by rw [← eA] at hx; simpa using hx
    have xm : x ≠ m := by rintro rfl; exact hmA hx'
    have xq : x ≠ q := by
      rintro rfl
      rcases hq with e | e
      · exact hAB x hx' x (.inr e) rfl
      · exact hhA (e ▸ hx')
    rw [up1_ne xm, up1_ne xq]
  · rw [up1_ne hpm', up1_at]
  · rw [up1_ne hqm', up1_at]
  · -- those that lead on behind: of B alone
    have hx' : x ∈ B := by
      rw [← eB] at hx
      simpa using hx
    have xm : x ≠ m := by rintro rfl; exact hmB hx'
    have xp : x ≠ p := by
      rintro rfl
      rcases hp with e | e
      · exact hhB (e ▸ hx')
      · exact hAB x e x (.inr hx') rfl
    rw [up1_ne xm, up1_ne xp]
  · have hx' : x ∈ B' := by simpa using hx
    have xm : x ≠ m := by
      rintro rfl
      rcases (memB x).1 (by simp [hx']) with e | e
      · exact hmB e
      · exact hhm e.symm
    have xq : x ≠ q := by
      rintro rfl
      -- q once more behind itself: in B ++ [h] all differ
      have nd2 : (B ++ [h]).Nodup := by
        rw [List.nodup_append]
        exact ⟨ndB, by simp, fun a ha b hb e => by simp at hb; subst hb; subst e; exact hhB ha⟩
      rw [eB, List.nodup_cons] at nd2
      exact nd2.1 hx'
    rw [up1_ne xm, up1_ne xq]

/-- .. where one is put in, first. -/
theorem ring_in {nx pv : Nat → Nat} {h m : Nat} {A : List Nat} (hl : Links nx pv (h :: (A ++ [h]))) (nd : A.Nodup) (hh : h ∉ A) (hm : m ∉ A) (hmh : m ≠ h) :
    Links (up1 (up1 nx m (nx h)) h m) (up1 (up1 pv m h) (nx h) m) (h :: (m :: A ++ [h])) := by
  obtain ⟨q, B', eB⟩ : ∃ q B', A ++ [h] = q :: B' := by
    cases A with
    | nil => exact ⟨h, [], rfl⟩
    | cons q B => exact ⟨q, B ++ [h], rfl⟩
  have e2 : h :: (m :: A ++ [h]) = h :: m :: q :: B' := by rw [List.cons_append, eB]
  rw [eB] at hl
  obtain ⟨h1, h2, h3⟩ := hl
  rw [e2]
  have memB : ∀ x, x ∈ q :: B' ↔ x ∈ A ∨ x = h := fun x => by rw [← eB]; simp
  have nd2 : (A ++ [h]).Nodup := by
    rw [List.nodup_append]
    exact ⟨nd, by simp, fun a ha b hb e => by simp at hb; subst hb; subst e; exact hh ha⟩
  have qm : q ≠ m := by
    rintro rfl
    rcases (memB q).1 (by simp) with e | e
    · exact hm e
    · exact hmh e
  rw [h1]
  refine ⟨up1_at _ _ _, by rw [up1_ne (Ne.symm qm), up1_at], by rw [up1_ne hmh, up1_at], up1_at _ _ _, links_congr _ (fun x hx => ?_) (fun x hx => ?_) h3⟩
  · have hx' : x ∈ A := by rw [← eB] at hx; simpa using hx
    rw [up1_ne (by rintro rfl; exact hh hx'), up1_ne (by rintro rfl; exact hm hx')]
  · have hx' : x ∈ B' := by simpa using hx
    have xm : x ≠ m := by
      rintro rfl
      rcases (memB x).1 (by simp [hx']) with e | e
      · exact hm e
      · exact hmh e
    have xq : x ≠ q := by
      rintro rfl
      rw [eB, List.nodup_cons] at nd2
      exact nd2.1 hx'
    rw [up1_ne xq, up1_ne xm]

end Go.Proofs.YtbgknopjgohocaaGreat


/- The program's lists: what they hold; walks of Of, Len, Push, Remove, Back. -/
namespace Go.Proofs.YtbgknopjgohocaaGreat
open Go.RowKit
set_option linter.unusedVariables false

/-- What the lists know: who is next, who is ahead, in which list, how many, and the rows. -/
structure LS where
  nx : Nat → Nat
  pv : Nat → Nat
  tg : Nat → Nat
  cn : Nat → Nat
  rows : Nat → List Nat

/-- A row without a number. -/
def wo (x : Nat) (l : List Nat) : List Nat := l.filter (fun y => y ≠ x)

structure LInv (n K : Nat) (t : LS) : Prop where
  ring : ∀ k, k < K → Links t.nx t.pv ((n + k) :: (t.rows k ++ [n + k]))
  nod : ∀ k, k < K → (t.rows k).Nodup
  lt : ∀ k, k < K → ∀ x ∈ t.rows k, x < n
  mem : ∀ k, k < K → ∀ x, x < n → (x ∈ t.rows k ↔ t.tg x = k + 1)
  tle : ∀ x, x < n → t.tg x ≤ K
  many : ∀ k, k < K → t.cn k = (t.rows k).length

def unlinkS (t : LS) (m : Nat) : LS :=
  ⟨up1 (up1 t.nx (t.pv m) (t.nx m)) m m, up1 (up1 t.pv (t.nx m) (t.pv m)) m m, up1 t.tg m 0, up1 t.cn (t.tg m - 1) (t.cn (t.tg m - 1) - 1), fun k => wo m (t.rows k)⟩
def linkS (n : Nat) (t : LS) (k m : Nat) : LS :=
  ⟨up1 (up1 t.nx m (t.nx (n + k))) (n + k) m, up1 (up1 t.pv m (n + k)) (t.nx (n + k)) m, up1 t.tg m (k + 1), up1 t.cn k (t.cn k + 1), fun j => if j = k then m :: t.rows k else t.rows j⟩

theorem wo_not {x : Nat} {l : List Nat} (h : x ∉ l) : wo x l = l := by
  unfold wo
  rw [List.filter_eq_self]
  intro a ha
  simp only [ne_eq, decide_eq_true_eq]
  rintro rfl; exact h ha
theorem wo_mem {x y : Nat} {l : List Nat} : y ∈ wo x l ↔ y ∈ l ∧ y ≠ x := by simp [wo]
theorem wo_split {m : Nat} {A B : List Nat} (nd : (A ++ m :: B).Nodup) : wo m (A ++ m :: B) = A ++ B := by
  simp only [List.nodup_append, List.nodup_cons] at nd
  have h1 := wo_not (x := m) (l := A) (fun h => nd.2.2 m h m (by simp) rfl)
  have h2 := wo_not (x := m) (l := B) nd.2.1.1
  have : wo m (A ++ m :: B) = wo m A ++ wo m B := by simp [wo, List.filter_append]
  rw [this, h1, h2]
theorem wo_nodup {m : Nat} {l : List Nat} (h : l.Nodup) : (wo m l).Nodup := h.filter _
theorem wo_len {m : Nat} {l : List Nat} (h : l.Nodup) (hm : m ∈ l) : (wo m l).length = l.length - 1 := by
  obtain ⟨A, B, rfl⟩ := List.append_of_mem hm
  rw [wo_split h]; simp

theorem nodup_len : ∀ (n : Nat) (l : List Nat), l.Nodup → (∀ x ∈ l, x < n) → l.length ≤ n
  | 0, l, _, h => by
    cases l with
    | nil => simp
    | cons a l => have := h a (by simp); omega
  | n + 1, l, nd, h => by
    by_cases hn : n ∈ l
    · have h1 := nodup_len n (wo n l) (wo_nodup nd) (fun x hx => by
        obtain ⟨a, b⟩ := wo_mem.1 hx
        have := h x a; omega)
      rw [wo_len nd hn] at h1
      omega
    · have h1 := nodup_len n l nd (fun x hx => by
        have := h x hx
        have : x ≠ n := by rintro rfl; exact hn hx
        omega)
      omega
theorem LInv.cle {n K : Nat} {t : LS} (h : LInv n K t) {k : Nat} (hk : k < K) : t.cn k ≤ n := by
  rw [h.many k hk]; exact nodup_len n _ (h.nod k hk) (h.lt k hk)

theorem unlink_inv {n K m : Nat} {t : LS} (h : LInv n K t) (hm : m < n) (ht : 0 < t.tg m) : LInv n K (unlinkS t m) := by
  have hk : t.tg m - 1 < K := by have := h.tle m hm; omega
  have hin : m ∈ t.rows (t.tg m - 1) := (h.mem _ hk m hm).2 (by omega)
  have hother : ∀ k, k < K → k ≠ t.tg m - 1 → m ∉ t.rows k := fun k hkK hne hx => by have := (h.mem k hkK m hm).1 hx; omega
  -- the two numbers beside m lie in m's ring
  obtain ⟨A, B, e⟩ := List.append_of_mem hin
  have hr := h.ring _ hk
  rw [e] at hr
  have nd := h.nod _ hk
  rw [e] at nd
  have hh : n + (t.tg m - 1) ∉ A ++ m :: B := fun x => by have := h.lt _ hk _ (e ▸ x); omega
  refine ⟨fun k hkK => ?_, fun k hkK => wo_nodup (h.nod k hkK), fun k hkK x hx => h.lt k hkK x (wo_mem.1 hx).1, fun k hkK x hx => ?_, fun x hx => ?_, fun k hkK => ?_⟩
  · by_cases ek : k = t.tg m - 1
    · subst ek
      show Links _ _ (_ :: (wo m (t.rows _) ++ _))
      rw [e, wo_split nd]
      have hr' : Links t.nx t.pv ((n + (t.tg m - 1)) :: (A ++ m :: B ++ [n + (t.tg m - 1)])) := by simpa using hr
      exact ring_out hr' nd hh
    · show Links _ _ (_ :: (wo m (t.rows k) ++ _))
      rw [wo_not (hother k hkK ek)]
      -- neither m nor the two beside it lie in this ring
      have pin : ∀ (p : Nat), (p = n + (t.tg m - 1) ∨ p ∈ t.rows (t.tg m - 1)) → p ≠ n + k ∧ p ∉ t.rows k := fun p hp => by
        rcases hp with rfl | hp
        · exact ⟨by omega, fun x => by have := h.lt k hkK _ x; omega⟩
        · have hpn := h.lt _ hk p hp
          exact ⟨by omega, fun x => by
            have h1 := (h.mem k hkK p hpn).1 x
            have h2 := (h.mem _ hk p hpn).1 hp
            omega⟩
      obtain ⟨A', p, eA⟩ : ∃ A' p, (n + (t.tg m - 1)) :: A = A' ++ [p] := ⟨_, _, (List.dropLast_concat_getLast (by simp)).symm⟩
      obtain ⟨q, B', eB⟩ : ∃ q B', B ++ [n + (t.tg m - 1)] = q :: B' := by
        cases B with
        | nil => exact ⟨_, [], rfl⟩
        | cons q B => exact ⟨q, B ++ [_], rfl⟩
      have e1 : (n + (t.tg m - 1)) :: (A ++ m :: B ++ [n + (t.tg m - 1)]) = A' ++ p :: m :: q :: B' := by
        rw [show (n + (t.tg m - 1)) :: (A ++ m :: B ++ [n + (t.tg m - 1)]) = ((n + (t.tg m - 1)) :: A) ++ m :: (B ++ [n + (t.tg m - 1)]) by simp, eA, eB]; simp
      have hr' : Links t.nx t.pv ((n + (t.tg m - 1)) :: (A ++ m :: B ++ [n + (t.tg m - 1)])) := by simpa using hr
      rw [e1, links_append] at hr'
      obtain ⟨_, _, hmp, hmq, _, _⟩ := hr'
      have hp : p = n + (t.tg m - 1) ∨ p ∈ t.rows (t.tg m - 1) := by
        have : p ∈ (n + (t.tg m - 1)) :: A := by rw [eA]; simp
        rcases List.mem_cons.1 this with x | x
        · exact .inl x
        · exact .inr (by rw [e]; simp [x])
      have hq : q = n + (t.tg m - 1) ∨ q ∈ t.rows (t.tg m - 1) := by
        have : q ∈ B ++ [n + (t.tg m - 1)] := by rw [eB]; simp
        rcases List.mem_append.1 this with x | x
        · exact .inr (by rw [e]; simp [x])
        · exact .inl (by simpa using x)
      obtain ⟨p1, p2⟩ := pin p hp
      obtain ⟨q1, q2⟩ := pin q hq
      obtain ⟨m1, m2⟩ := pin m (.inr hin)
      have hout : ∀ x, (x = n + k ∨ x ∈ t.rows k) → x ≠ p ∧ x ≠ q ∧ x ≠ m := fun x hx => by
        rcases hx with rfl | hx
        · exact ⟨Ne.symm p1, Ne.symm q1, Ne.symm m1⟩
        · exact ⟨by rintro rfl; exact p2 hx, by rintro rfl; exact q2 hx, by rintro rfl; exact m2 hx⟩
      refine links_congr _ (fun x hx => ?_) (fun x hx => ?_) (h.ring k hkK)
      · have hx' : x = n + k ∨ x ∈ t.rows k := by
          rw [show (n + k) :: (t.rows k ++ [n + k]) = ((n + k) :: t.rows k) ++ [n + k] by simp, List.dropLast_concat] at hx
          exact List.mem_cons.1 hx
        obtain ⟨x1, x2, x3⟩ := hout x hx'
        show up1 (up1 t.nx (t.pv m) (t.nx m)) m m x = _
        rw [hmp, up1_ne x3, up1_ne x1]
      · have hx' : x = n + k ∨ x ∈ t.rows k := by
          simp only [List.tail_cons, List.mem_append, List.mem_singleton] at hx
          exact hx.symm
        obtain ⟨x1, x2, x3⟩ := hout x hx'
        show up1 (up1 t.pv (t.nx m) (t.pv m)) m m x = _
        rw [hmq, up1_ne x3, up1_ne x2]
  · show x ∈ wo m (t.rows k) ↔ up1 t.tg m 0 x = k + 1
    rw [wo_mem, h.mem k hkK x hx]
    by_cases ex : x = m
    · subst ex; simp [up1_at]
    · simp [up1_ne ex, ex]
  · show up1 t.tg m 0 x ≤ K
    by_cases ex : x = m
    · subst ex; simp [up1_at]
    · rw [up1_ne ex]; exact h.tle x hx
  · show up1 t.cn (t.tg m - 1) (t.cn (t.tg m - 1) - 1) k = (wo m (t.rows k)).length
    by_cases ek : k = t.tg m - 1
    · subst ek; rw [up1_at, wo_len (h.nod _ hk) hin, h.many _ hk]
    · rw [up1_ne ek, wo_not (hother k hkK ek), h.many k hkK]

/-- The numbers beside one that is in a list: they are numbers of nodes. -/
theorem beside {n K m : Nat} {t : LS} (h : LInv n K t) (hm : m < n) (ht : 0 < t.tg m) : t.pv m < n + K ∧ t.nx m < n + K ∧ t.pv m ≠ m ∧ t.nx m ≠ m ∧ 0 < t.cn (t.tg m - 1) := by
  have hk : t.tg m - 1 < K := by have := h.tle m hm; omega
  have hin : m ∈ t.rows (t.tg m - 1) := (h.mem _ hk m hm).2 (by omega)
  obtain ⟨A, B, e⟩ := List.append_of_mem hin
  have hr := h.ring _ hk
  have nd := h.nod _ hk
  rw [e] at hr nd
  have lt : ∀ x, x = n + (t.tg m - 1) ∨ x ∈ A ++ m :: B → x < n + K := fun x hx => hx.elim (fun y => by omega) (fun y => by have := h.lt _ hk x (e ▸ y); omega)
  have hh : n + (t.tg m - 1) ∉ A ++ m :: B := fun x => by have := h.lt _ hk _ (e ▸ x); omega
  obtain ⟨A', p, eA⟩ : ∃ A' p, (n + (t.tg m - 1)) :: A = A' ++ [p] := ⟨_, _, (List.dropLast_concat_getLast (by simp)).symm⟩
  obtain ⟨q, B', eB⟩ : ∃ q B', B ++ [n + (t.tg m - 1)] = q :: B' := by
    cases B with
    | nil => exact ⟨_, [], rfl⟩
    | cons q B => exact ⟨q, B ++ [_], rfl⟩
  have e1 : (n + (t.tg m - 1)) :: (A ++ m :: B ++ [n + (t.tg m - 1)]) = A' ++ p :: m :: q :: B' := by
    rw [show (n + (t.tg m - 1)) :: (A ++ m :: B ++ [n + (t.tg m - 1)]) = ((n + (t.tg m - 1)) :: A) ++ m :: (B ++ [n + (t.tg m - 1)]) by simp, eA, eB]; simp
  have hr' : Links t.nx t.pv ((n + (t.tg m - 1)) :: (A ++ m :: B ++ [n + (t.tg m - 1)])) := by simpa using hr
  rw [e1, links_append] at hr'
  obtain ⟨_, _, hmp, hmq, _, _⟩ := hr'
  simp only [List.nodup_append, List.nodup_cons] at nd
  have hp : p = n + (t.tg m - 1) ∨ p ∈ A := by
    have : p ∈ (n + (t.tg m - 1)) :: A := by rw [eA]; simp
    exact List.mem_cons.1 this
  have hq : q ∈ B ∨ q = n + (t.tg m - 1) := by
    have : q ∈ B ++ [n + (t.tg m - 1)] := by rw [eB]; simp
    simpa using this
  rw [hmp, hmq]
  refine ⟨lt _ (hp.imp id (fun x => by simp [x])), lt _ (hq.symm.imp id (fun x => by simp [x])), ?_, ?_, ?_⟩
  · rintro rfl
    rcases hp with x | x
    · omega
    · exact nd.2.2 p x p (by simp) rfl
  · rintro rfl
    rcases hq with x | x
    · exact nd.2.1.1 x
    · omega
  · rw [h.many _ hk, e]; simp; omega

theorem link_inv {n K k m : Nat} {t : LS} (h : LInv n K t) (hk : k < K) (hm : m < n) (ht : t.tg m = 0) : LInv n K (linkS n t k m) := by
  have hnot : ∀ j, j < K → m ∉ t.rows j := fun j hj hx => by have := (h.mem j hj m hm).1 hx; omega
  have hh : ∀ j, j < K → n + j ∉ t.rows j := fun j hj x => by have := h.lt j hj _ x; omega
  -- who is first in the ring
  obtain ⟨q, B', eB⟩ : ∃ q B', t.rows k ++ [n + k] = q :: B' := by
    cases t.rows k with
    | nil => exact ⟨_, [], rfl⟩
    | cons q B => exact ⟨q, B ++ [_], rfl⟩
  have hq : t.nx (n + k) = q := by
    have := h.ring k hk
    rw [eB] at this
    exact this.1
  have hqin : q ∈ t.rows k ∨ q = n + k := by
    have : q ∈ t.rows k ++ [n + k] := by rw [eB]; simp
    simpa using this
  refine ⟨fun j hj => ?_, fun j hj => ?_, fun j hj x hx => ?_, fun j hj x hx => ?_, fun x hx => ?_, fun j hj => ?_⟩
  · by_cases ej : j = k
    · subst ej
      show Links _ _ (_ :: ((if j = j then m :: t.rows j else t.rows j) ++ _))
      rw [if_pos rfl]
      exact ring_in (h.ring j hj) (h.nod j hj) (hh j hj) (hnot j hj) (by omega)
    · show Links _ _ (_ :: ((if j = k then m :: t.rows k else t.rows j) ++ _))
      rw [if_neg ej]
      have hout : ∀ x, (x = n + j ∨ x ∈ t.rows j) → x ≠ m ∧ x ≠ n + k ∧ x ≠ q := fun x hx => by
        rcases hx with rfl | hx
        · exact ⟨by omega, by omega, by
            rcases hqin with y | y
            · have := h.lt k hk q y; omega
            · omega⟩
        · have hxn := h.lt j hj x hx
          exact ⟨by rintro rfl; exact hnot j hj hx, by omega, by
            rintro rfl
            rcases hqin with y | y
            · have h1 := (h.mem k hk x hxn).1 y
              have h2 := (h.mem j hj x hxn).1 hx
              omega
            · omega⟩
      refine links_congr _ (fun x hx => ?_) (fun x hx => ?_) (h.ring j hj)
      · have hx' : x = n + j ∨ x ∈ t.rows j := by
          rw [show (n + j) :: (t.rows j ++ [n + j]) = ((n + j) :: t.rows j) ++ [n + j] by simp, List.dropLast_concat] at hx
          exact List.mem_cons.1 hx
        obtain ⟨x1, x2, x3⟩ := hout x hx'
        show up1 (up1 t.nx m (t.nx (n + k))) (n + k) m x = _
        rw [up1_ne x2, up1_ne x1]
      · have hx' : x = n + j ∨ x ∈ t.rows j := by
          simp only [List.tail_cons, List.mem_append, List.mem_singleton] at hx
          exact hx.symm
        obtain ⟨x1, x2, x3⟩ := hout x hx'
        show up1 (up1 t.pv m (n + k)) (t.nx (n + k)) m x = _
        rw [hq, up1_ne x3, up1_ne x1]
  · show (if j = k then m :: t.rows k else t.rows j).Nodup
    split
    · exact List.nodup_cons.2 ⟨hnot k hk, h.nod k hk⟩
    · exact h.nod j hj
  · have hx' : x ∈ if j = k then m :: t.rows k else t.rows j := hx
    split at hx'
    · rcases List.mem_cons.1 hx' with rfl | y
      · exact hm
      · exact h.lt k hk x y
    · exact h.lt j hj x hx'
  · show x ∈ (if j = k then m :: t.rows k else t.rows j) ↔ up1 t.tg m (k + 1) x = j + 1
    by_cases ex : x = m
    · subst ex
      rw [up1_at]
      split
      · next e => subst e; simp
      · next e => constructor
                  · intro y; exact absurd y (hnot j hj)
                  · intro y; omega
    · rw [up1_ne ex]
      split
      · next e => subst e; rw [List.mem_cons]; simp only [ex, false_or]; exact h.mem j hj x hx
      · exact h.mem j hj x hx
  · show up1 t.tg m (k + 1) x ≤ K
    by_cases ex : x = m
    · subst ex; rw [up1_at]; omega
    · rw [up1_ne ex]; exact h.tle x hx
  · show up1 t.cn k (t.cn k + 1) j = (if j = k then m :: t.rows k else t.rows j).length
    by_cases ej : j = k
    · subst ej; rw [up1_at, if_pos rfl, h.many j hj]; simp
    · rw [up1_ne ej, if_neg ej]; exact h.many j hj

/-- The last one of a ring; the ring's head, if there is none. -/
theorem last_of {n K k : Nat} {t : LS} (h : LInv n K t) (hk : k < K) : t.pv (n + k) = ((t.rows k).getLast?).getD (n + k) := by
  have hr := h.ring k hk
  rcases List.eq_nil_or_concat (t.rows k) with e | ⟨l, a, e⟩
  · rw [e] at hr ⊢; exact hr.2.1
  · rw [e] at hr ⊢
    have : (n + k) :: (l.concat a ++ [n + k]) = ((n + k) :: l) ++ [a, n + k] := by simp
    rw [this, links_last] at hr
    rw [hr.2.2]
    simp

theorem next_of {n K k : Nat} {t : LS} (h : LInv n K t) (hk : k < K) : t.nx (n + k) < n + K := by
  have hr := h.ring k hk
  cases e : t.rows k with
  | nil => rw [e] at hr; have := hr.1; omega
  | cons a l =>
    rw [e] at hr
    have h1 := hr.1
    have h2 := h.lt k hk a (by rw [e]; simp)
    omega

end Go.Proofs.YtbgknopjgohocaaGreat


/- The program's lists: walks. -/
namespace Go.Proofs.YtbgknopjgohocaaGreat
open Go.RowKit
set_option linter.unusedVariables false

def liF (g q n K : Nat) : Nat → Value
  | 0 => .slice (some ⟨g, 0, none⟩) (n + K) (n + K)
  | 1 => .int .i64 (n : Int)
  | _ => .slice (some ⟨q, 0, none⟩) K K

/-- The cells of the nodes. -/
def ndF (t : LS) (i : Nat) : Value := if i % 3 = 0 then .int .i64 (t.pv (i / 3) : Int) else if i % 3 = 1 then .int .i64 (t.nx (i / 3) : Int) else .int .i64 (t.tg (i / 3) : Int)
theorem ndF0 (t : LS) (k : Nat) : ndF t (k * 3) = .int .i64 (t.pv k : Int) := by
  unfold ndF; rw [if_pos (by omega), show k * 3 / 3 = k by omega]
theorem ndF1 (t : LS) (k : Nat) : ndF t (k * 3 + 1) = .int .i64 (t.nx k : Int) := by
  unfold ndF; rw [if_neg (by omega), if_pos (by omega), show (k * 3 + 1) / 3 = k by omega]
theorem ndF2 (t : LS) (k : Nat) : ndF t (k * 3 + 2) = .int .i64 (t.tg k : Int) := by
  unfold ndF; rw [if_neg (by omega), if_neg (by omega), show (k * 3 + 2) / 3 = k by omega]
theorem nd_congr {w : World} {g L : Nat} {ty : TypeId} {F : Nat → Value} {t : LS} (h : Arr w g ty (L * 3) F) (e : ∀ k, k < L → F (k * 3) = .int .i64 (t.pv k : Int) ∧ F (k * 3 + 1) = .int .i64 (t.nx k : Int) ∧ F (k * 3 + 2) = .int .i64 (t.tg k : Int)) :
    Arr w g ty (L * 3) (ndF t) :=
  h.congr (fun i hi => by
    have hk : i / 3 < L := by omega
    obtain ⟨e0, e1, e2⟩ := e (i / 3) hk
    have : i = i / 3 * 3 ∨ i = i / 3 * 3 + 1 ∨ i = i / 3 * 3 + 2 := by omega
    rcases this with x | x | x
    · rw [x, ndF0, e0]
    · rw [x, ndF1, e1]
    · rw [x, ndF2, e2])

structure Li (w : World) (b g q n K : Nat) (t : LS) : Prop where
  top : Arr w b 172 3 (liF g q n K)
  nod : Arr w g 174 ((n + K) * 3) (ndF t)
  many : Arr w q 3 K (fun k => .int .i64 (t.cn k : Int))
  inv : LInv n K t
  n2 : n ≤ 1024
  k2 : K ≤ 16

section
variable {w : World} {b g q n K : Nat} {t : LS}

theorem Li.keep {S : Nat → Prop} {w' : World} (h : Li w b g q n K t) (k : Keeps S w w') (hb : ¬ S b) (hg : ¬ S g) (hq : ¬ S q) : Li w' b g q n K t :=
  { h with top := h.top.keep k hb, nod := h.nod.keep k hg, many := h.many.keep k hq }
theorem Li.c0 (h : Li w b g q n K t) : w.cell? ⟨b, 0, none⟩ = some (.slice (some ⟨g, 0, none⟩) (n + K) (n + K)) := h.top.cell (i := 0) (by omega)
theorem Li.c1 (h : Li w b g q n K t) : w.cell? ⟨b, 1, none⟩ = some (.int .i64 (n : Int)) := h.top.cell (i := 1) (by omega)
theorem Li.c2 (h : Li w b g q n K t) : w.cell? ⟨b, 2, none⟩ = some (.slice (some ⟨q, 0, none⟩) K K) := h.top.cell (i := 2) (by omega)
theorem Li.node (h : Li w b g q n K t) {k : Nat} (hk : k < n + K) : w.cell? ⟨g, k * 3, none⟩ = some (.int .i64 (t.pv k : Int)) ∧ w.cell? ⟨g, k * 3 + 1, none⟩ = some (.int .i64 (t.nx k : Int)) ∧ w.cell? ⟨g, k * 3 + 2, none⟩ = some (.int .i64 (t.tg k : Int)) := by
  refine ⟨?_, ?_, ?_⟩
  · rw [h.nod.cell (by omega), ndF0]
  · rw [h.nod.cell (by omega), ndF1]
  · rw [h.nod.cell (by omega), ndF2]

theorem li_has (h : Li w b g q n K t) (m : Int) :
    Calls Tryz.prog 111 #[.pointer (some ⟨b, 0, none⟩), .int .i64 m] w fun e w' => e = .returned (.bool (decide (0 ≤ m ∧ m < n))) ∧ w = w' := by
  have c1 := h.c1
  clear h
  by_cases h1 : 0 ≤ m
  · by_cases h2 : m < n
    · have e : decide (0 ≤ m ∧ m < n) = true := decide_eq_true ⟨h1, h2⟩
      rw [e]; clear e
      go_enter Tryz.func111, Tryz.ntmps111
      go_wp2
      go_ret
      exact ⟨rfl, rfl⟩
    · have e : decide (0 ≤ m ∧ m < n) = false := decide_eq_false (by omega)
      rw [e]; clear e
      have h2' : decide (m < (n : Int)) = false := decide_eq_false h2
      go_enter Tryz.func111, Tryz.ntmps111
      go_wp2
      go_ret
      exact ⟨rfl, rfl⟩
  · have e : decide (0 ≤ m ∧ m < n) = false := decide_eq_false (by omega)
    rw [e]; clear e
    have h1' : decide (0 ≤ m) = false := decide_eq_false h1
    go_enter Tryz.func111, Tryz.ntmps111
    go_wp2
    go_ret
    exact ⟨rfl, rfl⟩

theorem li_head (h : Li w b g q n K t) (k : Nat) (hk : k < K) :
    Calls Tryz.prog 112 #[.pointer (some ⟨b, 0, none⟩), .int .i64 (k : Int)] w fun e w' => e = .returned (.tuple #[.int .i64 ((n + k : Nat) : Int), .bool true]) ∧ w = w' := by
  have c1 := h.c1
  have c2 := h.c2
  have h1 : ¬ (k : Int) < 0 := by omega
  have h2 : (k : Int) < (K : Int) := by omega
  have h3 : (n : Int) ≤ 1024 := by have := h.n2; omega
  have h4 : (k : Int) ≤ 16 := by have := h.k2; omega
  clear h
  go_enter Tryz.func112, Tryz.ntmps112
  go_wp2
  go_ret2
  exact ⟨by simp, rfl⟩

set_option maxHeartbeats 1000000 in
theorem li_unlink (h : Li w b g q n K t) (m : Nat) (hm : m < n) (ht : 0 < t.tg m) :
    Calls Tryz.prog 124 #[.pointer (some ⟨b, 0, none⟩), .int .i64 (m : Int)] w fun e w' => e = .returned (.tuple #[]) ∧ Li w' b g q n K (unlinkS t m) ∧ Keeps (fun j => j = g ∨ j = q) w w' := by
  obtain ⟨bp, bn, np, nn, mk0⟩ := beside h.inv hm ht
  have hk : t.tg m - 1 < K := by have := h.inv.tle m hm; omega
  have inv' := Lib.hid (unlink_inv h.inv hm ht)
  have c0 := h.c0
  have c2 := h.c2
  obtain ⟨d0, d1, d2⟩ := h.node (k := m) (by omega)
  obtain ⟨p0, p1, p2⟩ := h.node bp
  obtain ⟨n0, n1, n2⟩ := h.node bn
  have dm := h.many.cell hk
  have fg := fun i => h.nod.free i
  have fq := fun i => h.many.free i
  have H := Lib.hid h
  have x1 : (m : Int) < ((n + K : Nat) : Int) := by omega
  have x2 : (t.pv m : Int) < ((n + K : Nat) : Int) := by omega
  have x3 : (t.nx m : Int) < ((n + K : Nat) : Int) := by omega
  have x4 : 1 ≤ (t.tg m : Int) := by omega
  have x5 : (t.tg m : Int) - 1 < (K : Int) := by omega
  have x6 : ((t.tg m : Int) - 1).toNat = t.tg m - 1 := by omega
  have hlt := h.nod.lt
  have hlq := h.many.lt
  have hlb := h.top.lt
  clear h
  go_enter Tryz.func124, Tryz.ntmps124
  go_wp2_with fail
  go_region
  have A1 : Arr (((w.setCell ⟨g, t.pv m * 3 + 1, none⟩ (.int .i64 (t.nx m : Int))).setCell ⟨g, t.nx m * 3, none⟩ (.int .i64 (t.pv m : Int))).alloc (.cells #[.int .i64 (t.pv m : Int), .int .i64 (t.nx m : Int), .int .i64 (t.tg m : Int)] 174)).drew g 174 ((n + K) * 3) _ :=
    (((H.out.nod.set (t.pv m * 3 + 1) (.int .i64 (t.nx m : Int))).set (t.nx m * 3) (.int .i64 (t.pv m : Int))).past _).drewN 1
  have K1 : Keeps (fun j => j = g) w (((w.setCell ⟨g, t.pv m * 3 + 1, none⟩ (.int .i64 (t.nx m : Int))).setCell ⟨g, t.nx m * 3, none⟩ (.int .i64 (t.pv m : Int))).alloc (.cells #[.int .i64 (t.pv m : Int), .int .i64 (t.nx m : Int), .int .i64 (t.tg m : Int)] 174)).drew :=
    ((((Keeps.refl (fun j => j = g) w).setCell (p := ⟨g, t.pv m * 3 + 1, none⟩) (.inl rfl) _).setCell (p := ⟨g, t.nx m * 3, none⟩) (.inl rfl) _).alloc _).drew
  have l2 : (((w.setCell ⟨g, t.pv m * 3 + 1, none⟩ (.int .i64 (t.nx m : Int))).setCell ⟨g, t.nx m * 3, none⟩ (.int .i64 (t.pv m : Int))).alloc (.cells #[.int .i64 (t.pv m : Int), .int .i64 (t.nx m : Int), .int .i64 (t.tg m : Int)] 174)).drew.cell? ⟨w.heap.size, 2, none⟩ = some (.int .i64 (t.tg m : Int)) :=
    blk_cell' (heap_at _ _ _ (by simp [World.size_setCell])) 2
  generalize (((w.setCell ⟨g, t.pv m * 3 + 1, none⟩ (.int .i64 (t.nx m : Int))).setCell ⟨g, t.nx m * 3, none⟩ (.int .i64 (t.pv m : Int))).alloc (.cells #[.int .i64 (t.pv m : Int), .int .i64 (t.nx m : Int), .int .i64 (t.tg m : Int)] 174)).drew = w1 at *
  have TG := H.out.top.keep K1 (fun e => H.out.top.ne H.out.nod (by decide) e)
  have MG := H.out.many.keep K1 (fun e => H.out.many.ne H.out.nod (by decide) e)
  have e0 := A1.cell (i := m * 3) (by omega)
  have e1 := A1.cell (i := m * 3 + 1) (by omega)
  have e2 := A1.cell (i := m * 3 + 2) (by omega)
  have ef := fun i => A1.free i
  have t0 : w1.cell? ⟨b, 0, none⟩ = some (.slice (some ⟨g, 0, none⟩) (n + K) (n + K)) := TG.cell (i := 0) (by omega)
  -- the node, behind
  have A2 := Lib.hid (((A1.set (m * 3) (.int .i64 (m : Int))).set (m * 3 + 1) (.int .i64 (m : Int))).set (m * 3 + 2) (.int .i64 0))
  have K2 := Lib.hid ((((Keeps.refl (fun j => j = g) w1).setCell (p := ⟨g, m * 3, none⟩) (.inl rfl) (.int .i64 (m : Int))).setCell (p := ⟨g, m * 3 + 1, none⟩) (.inl rfl) (.int .i64 (m : Int))).setCell (p := ⟨g, m * 3 + 2, none⟩) (.inl rfl) (.int .i64 0))
  have HK1 := Lib.hid K1
  have HT := Lib.hid TG
  have HM := Lib.hid MG
  clear A1 K1 TG MG c0 c2 d0 d1 d2 p0 p1 p2 n0 n1 n2 dm fg fq
  go_wp2_with fail
  have l2' := K2.out.cell l2 (fun e => by have : w.heap.size = g := e; omega)
  have TG2 := HT.out.keep K2.out (fun e => H.out.top.ne H.out.nod (by decide) e)
  have MG2 := HM.out.keep K2.out (fun e => H.out.many.ne H.out.nod (by decide) e)
  have KK2 := K2.out
  have AA2 := A2.out
  clear l2 e0 e1 e2 ef t0
  generalize ((w1.setCell ⟨g, m * 3, none⟩ (.int .i64 (m : Int))).setCell ⟨g, m * 3 + 1, none⟩ (.int .i64 (m : Int))).setCell ⟨g, m * 3 + 2, none⟩ (.int .i64 0) = w2 at *
  have t2 : w2.cell? ⟨b, 2, none⟩ = some (.slice (some ⟨q, 0, none⟩) K K) := TG2.cell (i := 2) (by omega)
  have dm := MG2.cell hk
  have fq := fun i => MG2.free i
  have cle := H.out.inv.cle hk
  have y1 : 1 ≤ (t.cn (t.tg m - 1) : Int) := by omega
  have y2 : (t.cn (t.tg m - 1) : Int) ≤ 1024 := by have := H.out.n2; omega
  have y3 : (t.tg m : Int) ≤ 16 := by have := H.out.inv.tle m hm; have := H.out.k2; omega
  have HK2 := Lib.hid KK2
  have HA2 := Lib.hid AA2
  have HT2 := Lib.hid TG2
  have HM2 := Lib.hid MG2
  clear KK2 AA2 TG2 MG2 A2 K2 HT HM
  go_region
  go_wp2
  go_end0
  have kf := HK1.out.trans HK2.out (fun j hj => .inl hj)
  have kq := ((Keeps.refl (fun j => j = q) w2).setCell (p := ⟨q, t.tg m - 1, none⟩) (.inl rfl) (.int .i64 ((t.cn (t.tg m - 1) : Int) - 1)))
  have kall : Keeps (fun j => j = g ∨ j = q) w (w2.setCell ⟨q, t.tg m - 1, none⟩ (.int .i64 ((t.cn (t.tg m - 1) : Int) - 1))) := (kf.mono (T := fun j => j = g ∨ j = q) (fun _ _ x => .inl x)).trans kq (fun j hj => .inl (.inr hj))
  refine ⟨rfl, ⟨Arr.drewN (HT2.out.keep kq (H.out.top.ne H.out.many (by decide))) 1, Arr.drewN (nd_congr (HA2.out.keep kq (fun e => H.out.many.ne H.out.nod (by decide) e.symm)) (fun k hk' => ?_)) 1, Arr.drewN ((HM2.out.set (t.tg m - 1) _).congr (fun k hk' => ?_)) 1, inv'.out, H.out.n2, H.out.k2⟩, kall.drew⟩
  · refine ⟨?_, ?_, ?_⟩
    · show (if k * 3 = m * 3 + 2 then _ else if k * 3 = m * 3 + 1 then _ else if k * 3 = m * 3 then _ else if k * 3 = t.nx m * 3 then _ else if k * 3 = t.pv m * 3 + 1 then _ else ndF t (k * 3)) = Value.int .i64 (up1 (up1 t.pv (t.nx m) (t.pv m)) m m k : Int)
      rw [if_neg (by omega), if_neg (by omega)]
      by_cases h1 : k = m
      · subst h1; rw [if_pos rfl, up1_at]
      · rw [if_neg (by omega), up1_ne h1]
        by_cases h2 : k = t.nx m
        · rw [if_pos (by omega), h2, up1_at]
        · rw [if_neg (by omega), if_neg (by omega), up1_ne h2, ndF0]
    · show (if k * 3 + 1 = m * 3 + 2 then _ else if k * 3 + 1 = m * 3 + 1 then _ else if k * 3 + 1 = m * 3 then _ else if k * 3 + 1 = t.nx m * 3 then _ else if k * 3 + 1 = t.pv m * 3 + 1 then _ else ndF t (k * 3 + 1)) = Value.int .i64 (up1 (up1 t.nx (t.pv m) (t.nx m)) m m k : Int)
      rw [if_neg (by omega)]
      by_cases h1 : k = m
      · subst h1; rw [if_pos rfl, up1_at]
      · rw [if_neg (by omega), if_neg (by omega), if_neg (by omega), up1_ne h1]
        by_cases h2 : k = t.pv m
        · rw [if_pos (by omega), h2, up1_at]
        · rw [if_neg (by omega), up1_ne h2, ndF1]
    · show (if k * 3 + 2 = m * 3 + 2 then _ else if k * 3 + 2 = m * 3 + 1 then _ else if k * 3 + 2 = m * 3 then _ else if k * 3 + 2 = t.nx m * 3 then _ else if k * 3 + 2 = t.pv m * 3 + 1 then _ else ndF t (k * 3 + 2)) = Value.int .i64 (up1 t.tg m 0 k : Int)
      by_cases h1 : k = m
      · subst h1; rw [if_pos rfl, up1_at]; rfl
      · rw [if_neg (by omega), if_neg (by omega), if_neg (by omega), if_neg (by omega), if_neg (by omega), up1_ne h1, ndF2]
  · show (if k = t.tg m - 1 then _ else _) = Value.int .i64 (up1 t.cn (t.tg m - 1) (t.cn (t.tg m - 1) - 1) k : Int)
    unfold up1
    split
    · next e => subst e; congr 1; omega
    · rfl

/-- The world behind the stores of 'link'. -/
theorem nd_link {w : World} {g n K k m : Nat} {t : LS} (h : Arr w g 174 ((n + K) * 3) (ndF t)) (hm : m < n) (hk : k < K) (hx : t.nx (n + k) < n + K) (w' : World)
    (hw : w' = ((((w.setCell ⟨g, m * 3, none⟩ (.int .i64 ((n : Int) + (k : Int)))).setCell ⟨g, m * 3 + 1, none⟩ (.int .i64 (t.nx (n + k) : Int))).setCell ⟨g, m * 3 + 2, none⟩ (.int .i64 ((k : Int) + 1))).setCell ⟨g, (n + k) * 3 + 1, none⟩ (.int .i64 (m : Int))).setCell ⟨g, t.nx (n + k) * 3, none⟩ (.int .i64 (m : Int))) :
    Arr w' g 174 ((n + K) * 3) (ndF (linkS n t k m)) := by
  subst hw
  refine nd_congr (((((h.set (m * 3) _).set (m * 3 + 1) _).set (m * 3 + 2) _).set ((n + k) * 3 + 1) _).set (t.nx (n + k) * 3) _) (fun j hj => ?_)
  refine ⟨?_, ?_, ?_⟩
  · show (if j * 3 = t.nx (n + k) * 3 then _ else if j * 3 = (n + k) * 3 + 1 then _ else if j * 3 = m * 3 + 2 then _ else if j * 3 = m * 3 + 1 then _ else if j * 3 = m * 3 then _ else ndF t (j * 3)) = Value.int .i64 (up1 (up1 t.pv m (n + k)) (t.nx (n + k)) m j : Int)
    by_cases h1 : j = t.nx (n + k)
    · rw [if_pos (by omega), h1, up1_at]
    · rw [if_neg (by omega), if_neg (by omega), if_neg (by omega), if_neg (by omega), up1_ne h1]
      by_cases h2 : j = m
      · rw [if_pos (by omega), h2, up1_at]; rfl
      · rw [if_neg (by omega), up1_ne h2, ndF0]
  · show (if j * 3 + 1 = t.nx (n + k) * 3 then _ else if j * 3 + 1 = (n + k) * 3 + 1 then _ else if j * 3 + 1 = m * 3 + 2 then _ else if j * 3 + 1 = m * 3 + 1 then _ else if j * 3 + 1 = m * 3 then _ else ndF t (j * 3 + 1)) = Value.int .i64 (up1 (up1 t.nx m (t.nx (n + k))) (n + k) m j : Int)
    rw [if_neg (by omega)]
    by_cases h1 : j = n + k
    · rw [if_pos (by omega), h1, up1_at]
    · rw [if_neg (by omega), if_neg (by omega), up1_ne h1]
      by_cases h2 : j = m
      · rw [if_pos (by omega), h2, up1_at]
      · rw [if_neg (by omega), if_neg (by omega), up1_ne h2, ndF1]
  · show (if j * 3 + 2 = t.nx (n + k) * 3 then _ else if j * 3 + 2 = (n + k) * 3 + 1 then _ else if j * 3 + 2 = m * 3 + 2 then _ else if j * 3 + 2 = m * 3 + 1 then _ else if j * 3 + 2 = m * 3 then _ else ndF t (j * 3 + 2)) = Value.int .i64 (up1 t.tg m (k + 1) j : Int)
    rw [if_neg (by omega), if_neg (by omega)]
    by_cases h2 : j = m
    · rw [if_pos (by omega), h2, up1_at]; rfl
    · rw [if_neg (by omega), if_neg (by omega), if_neg (by omega), up1_ne h2, ndF2]

/-- 'link' of a node that is in no list. -/
theorem li_link0 (h : Li w b g q n K t) (k m : Nat) (hk : k < K) (hm : m < n) (ht : t.tg m = 0) :
    Calls Tryz.prog 113 #[.pointer (some ⟨b, 0, none⟩), .int .i64 (k : Int), .int .i64 (m : Int), .int .i64 ((n + k : Nat) : Int)] w fun e w' => e = .returned (.tuple #[]) ∧ Li w' b g q n K (linkS n t k m) ∧ Keeps (fun j => j = g ∨ j = q) w w' := by
  have inv' := Lib.hid (link_inv h.inv hk hm ht)
  have hx := next_of h.inv hk
  have c0 := h.c0
  have c2 := h.c2
  obtain ⟨d0, d1, d2⟩ := h.node (k := m) (by omega)
  obtain ⟨p0, p1, p2⟩ := h.node (k := n + k) (by omega)
  rw [ht] at d2
  have fg := fun i => h.nod.free i
  have H := Lib.hid h
  have NL := Lib.hid (fun w' => nd_link h.nod hm hk hx w')
  have x1 : (m : Int) < ((n + K : Nat) : Int) := by omega
  have x2 : ((n + k : Nat) : Int) < ((n + K : Nat) : Int) := by omega
  have x3 : (t.nx (n + k) : Int) < ((n + K : Nat) : Int) := by omega
  have x4 : (k : Int) ≤ 16 := by have := h.k2; omega
  have x5 : (k : Int) < (K : Int) := by omega
  clear h
  go_enter Tryz.func113, Tryz.ntmps113
  go_wp2_with fail
  have A1 := ((H.out.nod.set (m * 3) (.int .i64 ((n : Int) + (k : Int)))).set (m * 3 + 1) (.int .i64 (t.nx (n + k) : Int))).set (m * 3 + 2) (.int .i64 ((k : Int) + 1))
  have K1 := (((Keeps.refl (fun j => j = g) w).setCell (p := ⟨g, m * 3, none⟩) (.inl rfl) (.int .i64 ((n : Int) + (k : Int)))).setCell (p := ⟨g, m * 3 + 1, none⟩) (.inl rfl) (.int .i64 (t.nx (n + k) : Int))).setCell (p := ⟨g, m * 3 + 2, none⟩) (.inl rfl) (.int .i64 ((k : Int) + 1))
  have NL1 := fun w' => NL.out w'
  clear c0 c2 d0 d1 d2 p0 p1 p2 fg
  generalize hw1 : ((w.setCell ⟨g, m * 3, none⟩ (.int .i64 ((n : Int) + (k : Int)))).setCell ⟨g, m * 3 + 1, none⟩ (.int .i64 (t.nx (n + k) : Int))).setCell ⟨g, m * 3 + 2, none⟩ (.int .i64 ((k : Int) + 1)) = w1 at *
  have HN1 := Lib.hid NL1
  have TG := H.out.top.keep K1 (fun e => H.out.top.ne H.out.nod (by decide) e)
  have MG := H.out.many.keep K1 (fun e => H.out.many.ne H.out.nod (by decide) e)
  have t0 : w1.cell? ⟨b, 0, none⟩ = some (.slice (some ⟨g, 0, none⟩) (n + K) (n + K)) := TG.cell (i := 0) (by omega)
  have t2 : w1.cell? ⟨b, 2, none⟩ = some (.slice (some ⟨q, 0, none⟩) K K) := TG.cell (i := 2) (by omega)
  have e0 := A1.cell (i := (n + k) * 3 + 1) (by omega)
  have e1 := A1.cell (i := t.nx (n + k) * 3) (by omega)
  have ef := fun i => A1.free i
  have dm := MG.cell hk
  have fq := fun i => MG.free i
  have cle := H.out.inv.cle hk
  have y2 : (t.cn k : Int) ≤ 1024 := by have := H.out.n2; omega
  have t0s : ∀ i v, (w1.setCell ⟨g, i, none⟩ v).cell? ⟨b, 0, none⟩ = some (.slice (some ⟨g, 0, none⟩) (n + K) (n + K)) := fun i v => (TG.far (TG.ne A1 (by decide)) i v).cell (i := 0) (by omega)
  have HK1 := Lib.hid K1
  have HT := Lib.hid TG
  have HM := Lib.hid MG
  clear NL1 hw1 K1 TG MG A1 NL
  go_region
  have K2 := ((Keeps.refl (fun j => j = g) w1).setCell (p := ⟨g, (n + k) * 3 + 1, none⟩) (.inl rfl) (.int .i64 (m : Int))).setCell (p := ⟨g, t.nx (n + k) * 3, none⟩) (.inl rfl) (.int .i64 (m : Int))
  have A2 := HN1.out _ rfl
  clear e0 e1 ef t0 t2 dm fq t0s
  generalize (w1.setCell ⟨g, (n + k) * 3 + 1, none⟩ (.int .i64 (m : Int))).setCell ⟨g, t.nx (n + k) * 3, none⟩ (.int .i64 (m : Int)) = w2 at *
  have TG2 := HT.out.keep K2 (fun e => H.out.top.ne H.out.nod (by decide) e)
  have MG2 := HM.out.keep K2 (fun e => H.out.many.ne H.out.nod (by decide) e)
  have t2 : w2.cell? ⟨b, 2, none⟩ = some (.slice (some ⟨q, 0, none⟩) K K) := TG2.cell (i := 2) (by omega)
  have dm := MG2.cell hk
  have fq := fun i => MG2.free i
  have HK2 := Lib.hid K2
  have HA2 := Lib.hid A2
  have HT2 := Lib.hid TG2
  have HM2 := Lib.hid MG2
  clear K2 A2 TG2 MG2 HN1
  go_wp2
  go_end0
  have kf := HK1.out.trans HK2.out (fun j hj => .inl hj)
  have kq := ((Keeps.refl (fun j => j = q) w2).setCell (p := ⟨q, k, none⟩) (.inl rfl) (.int .i64 ((t.cn k : Int) + 1)))
  have kall : Keeps (fun j => j = g ∨ j = q) w (w2.setCell ⟨q, k, none⟩ (.int .i64 ((t.cn k : Int) + 1))) := (kf.mono (T := fun j => j = g ∨ j = q) (fun _ _ x => .inl x)).trans kq (fun j hj => .inl (.inr hj))
  refine ⟨rfl, ⟨Arr.drewN (HT2.out.keep kq (H.out.top.ne H.out.many (by decide))) 1, Arr.drewN (HA2.out.keep kq (fun e => H.out.many.ne H.out.nod (by decide) e.symm)) 1, Arr.drewN ((HM2.out.set k _).congr (fun j hj => ?_)) 1, inv'.out, H.out.n2, H.out.k2⟩, kall.drew⟩
  show (if j = k then _ else _) = Value.int .i64 (up1 t.cn k (t.cn k + 1) j : Int)
  unfold up1
  split
  · next e => subst e; rfl
  · rfl

/-- .. of a node that is in one: it is taken out of it first. -/
theorem li_link1 {w00 : World} {t00 : LS} (h : Li w00 b g q n K t00) (k m : Nat) (hk : k < K) (hm : m < n) (ht : 0 < t00.tg m) :
    Calls Tryz.prog 113 #[.pointer (some ⟨b, 0, none⟩), .int .i64 (k : Int), .int .i64 (m : Int), .int .i64 ((n + k : Nat) : Int)] w00 fun e w' => e = .returned (.tuple #[]) ∧ Li w' b g q n K (linkS n (unlinkS t00 m) k m) ∧ Keeps (fun j => j = g ∨ j = q) w00 w' := by
  obtain ⟨t, et⟩ : ∃ t, t = unlinkS t00 m := ⟨_, rfl⟩
  have U := li_unlink h m hm ht
  have ht' : t.tg m = 0 := by rw [et]; exact up1_at _ _ _
  rw [← et] at U ⊢
  have U := Lib.hid U
  clear et
  have c0 := h.c0
  obtain ⟨d0, d1, d2⟩ := h.node (k := m) (by omega)
  have z1 : (m : Int) < ((n + K : Nat) : Int) := by omega
  have z6 : (0 : Int) < (t00.tg m : Int) := by omega
  clear h
  go_enter Tryz.func113, Tryz.ntmps113
  go_wp2_with fail
  refine U.out.mono ?_
  rintro e w ⟨rfl, h, k0⟩
  have HK0 := Lib.hid k0
  clear k0 c0 d0 d1 d2 z1 z6 U ht
  have ht := ht'
  clear ht'
  have inv' := Lib.hid (link_inv h.inv hk hm ht)
  have hx := next_of h.inv hk
  have c0 := h.c0
  have c2 := h.c2
  obtain ⟨d0, d1, d2⟩ := h.node (k := m) (by omega)
  obtain ⟨p0, p1, p2⟩ := h.node (k := n + k) (by omega)
  rw [ht] at d2
  have fg := fun i => h.nod.free i
  have H := Lib.hid h
  have NL := Lib.hid (fun w' => nd_link h.nod hm hk hx w')
  have x1 : (m : Int) < ((n + K : Nat) : Int) := by omega
  have x2 : ((n + k : Nat) : Int) < ((n + K : Nat) : Int) := by omega
  have x3 : (t.nx (n + k) : Int) < ((n + K : Nat) : Int) := by omega
  have x4 : (k : Int) ≤ 16 := by have := h.k2; omega
  have x5 : (k : Int) < (K : Int) := by omega
  clear h
  go_wp2_with fail
  have A1 := ((H.out.nod.set (m * 3) (.int .i64 ((n : Int) + (k : Int)))).set (m * 3 + 1) (.int .i64 (t.nx (n + k) : Int))).set (m * 3 + 2) (.int .i64 ((k : Int) + 1))
  have K1 := (((Keeps.refl (fun j => j = g) w).setCell (p := ⟨g, m * 3, none⟩) (.inl rfl) (.int .i64 ((n : Int) + (k : Int)))).setCell (p := ⟨g, m * 3 + 1, none⟩) (.inl rfl) (.int .i64 (t.nx (n + k) : Int))).setCell (p := ⟨g, m * 3 + 2, none⟩) (.inl rfl) (.int .i64 ((k : Int) + 1))
  have NL1 := fun w' => NL.out w'
  clear c0 c2 d0 d1 d2 p0 p1 p2 fg
  generalize hw1 : ((w.setCell ⟨g, m * 3, none⟩ (.int .i64 ((n : Int) + (k : Int)))).setCell ⟨g, m * 3 + 1, none⟩ (.int .i64 (t.nx (n + k) : Int))).setCell ⟨g, m * 3 + 2, none⟩ (.int .i64 ((k : Int) + 1)) = w1 at *
  have HN1 := Lib.hid NL1
  have TG := H.out.top.keep K1 (fun e => H.out.top.ne H.out.nod (by decide) e)
  have MG := H.out.many.keep K1 (fun e => H.out.many.ne H.out.nod (by decide) e)
  have t0 : w1.cell? ⟨b, 0, none⟩ = some (.slice (some ⟨g, 0, none⟩) (n + K) (n + K)) := TG.cell (i := 0) (by omega)
  have t2 : w1.cell? ⟨b, 2, none⟩ = some (.slice (some ⟨q, 0, none⟩) K K) := TG.cell (i := 2) (by omega)
  have e0 := A1.cell (i := (n + k) * 3 + 1) (by omega)
  have e1 := A1.cell (i := t.nx (n + k) * 3) (by omega)
  have ef := fun i => A1.free i
  have dm := MG.cell hk
  have fq := fun i => MG.free i
  have cle := H.out.inv.cle hk
  have y2 : (t.cn k : Int) ≤ 1024 := by have := H.out.n2; omega
  have t0s : ∀ i v, (w1.setCell ⟨g, i, none⟩ v).cell? ⟨b, 0, none⟩ = some (.slice (some ⟨g, 0, none⟩) (n + K) (n + K)) := fun i v => (TG.far (TG.ne A1 (by decide)) i v).cell (i := 0) (by omega)
  have HK1 := Lib.hid K1
  have HT := Lib.hid TG
  have HM := Lib.hid MG
  clear NL1 hw1 K1 TG MG A1 NL
  go_region
  have K2 := ((Keeps.refl (fun j => j = g) w1).setCell (p := ⟨g, (n + k) * 3 + 1, none⟩) (.inl rfl) (.int .i64 (m : Int))).setCell (p := ⟨g, t.nx (n + k) * 3, none⟩) (.inl rfl) (.int .i64 (m : Int))
  have A2 := HN1.out _ rfl
  clear e0 e1 ef t0 t2 dm fq t0s
  generalize (w1.setCell ⟨g, (n + k) * 3 + 1, none⟩ (.int .i64 (m : Int))).setCell ⟨g, t.nx (n + k) * 3, none⟩ (.int .i64 (m : Int)) = w2 at *
  have TG2 := HT.out.keep K2 (fun e => H.out.top.ne H.out.nod (by decide) e)
  have MG2 := HM.out.keep K2 (fun e => H.out.many.ne H.out.nod (by decide) e)
  have t2 : w2.cell? ⟨b, 2, none⟩ = some (.slice (some ⟨q, 0, none⟩) K K) := TG2.cell (i := 2) (by omega)
  have dm := MG2.cell hk
  have fq := fun i => MG2.free i
  have HK2 := Lib.hid K2
  have HA2 := Lib.hid A2
  have HT2 := Lib.hid TG2
  have HM2 := Lib.hid MG2
  clear K2 A2 TG2 MG2 HN1
  go_wp2
  go_end0
  have kf := HK1.out.trans HK2.out (fun j hj => .inl hj)
  have kq := ((Keeps.refl (fun j => j = q) w2).setCell (p := ⟨q, k, none⟩) (.inl rfl) (.int .i64 ((t.cn k : Int) + 1)))
  have kall : Keeps (fun j => j = g ∨ j = q) w (w2.setCell ⟨q, k, none⟩ (.int .i64 ((t.cn k : Int) + 1))) := (kf.mono (T := fun j => j = g ∨ j = q) (fun _ _ x => .inl x)).trans kq (fun j hj => .inl (.inr hj))
  refine ⟨rfl, ⟨Arr.drewN (HT2.out.keep kq (H.out.top.ne H.out.many (by decide))) 1, Arr.drewN (HA2.out.keep kq (fun e => H.out.many.ne H.out.nod (by decide) e.symm)) 1, Arr.drewN ((HM2.out.set k _).congr (fun j hj => ?_)) 1, inv'.out, H.out.n2, H.out.k2⟩, HK0.out.trans kall.drew (fun j hj => .inl hj)⟩
  show (if j = k then _ else _) = Value.int .i64 (up1 t.cn k (t.cn k + 1) j : Int)
  unfold up1
  split
  · next e => subst e; rfl
  · rfl

/-- 'link', of whatever node. -/
def pushS (n : Nat) (t : LS) (k m : Nat) : LS := linkS n (if 0 < t.tg m then unlinkS t m else t) k m

theorem li_link (h : Li w b g q n K t) (k m : Nat) (hk : k < K) (hm : m < n) :
    Calls Tryz.prog 113 #[.pointer (some ⟨b, 0, none⟩), .int .i64 (k : Int), .int .i64 (m : Int), .int .i64 ((n + k : Nat) : Int)] w fun e w' => e = .returned (.tuple #[]) ∧ Li w' b g q n K (pushS n t k m) ∧ Keeps (fun j => j = g ∨ j = q) w w' := by
  by_cases ht : 0 < t.tg m
  · rw [pushS, if_pos ht]
    exact li_link1 h k m hk hm ht
  · rw [pushS, if_neg ht]
    exact li_link0 h k m hk hm (by omega)

theorem li_push (h : Li w b g q n K t) (k m : Nat) (hk : k < K) (hm : m < n) :
    Calls Tryz.prog 88 #[.pointer (some ⟨b, 0, none⟩), .int .i64 (k : Int), .int .i64 (m : Int)] w fun e w' => e = .returned (.bool true) ∧ Li w' b g q n K (pushS n t k m) ∧ Keeps (fun j => j = g ∨ j = q) w w' := by
  have HD := Lib.hid (li_head h k hk)
  have HS := li_has h (m : Int)
  rw [decide_eq_true (show 0 ≤ (m : Int) ∧ (m : Int) < n by omega)] at HS
  have HS := Lib.hid HS
  have L := Lib.hid (li_link h k m hk hm)
  clear h
  go_enter Tryz.func88, Tryz.ntmps88
  go_wp2_with fail
  refine HD.out.mono ?_
  rintro e w' ⟨rfl, rfl⟩
  go_wp2_with fail
  refine HS.out.mono ?_
  rintro e w' ⟨rfl, rfl⟩
  go_wp2_with fail
  refine L.out.mono ?_
  rintro e w' ⟨rfl, h', k'⟩
  have H' := Lib.hid h'
  have K' := Lib.hid k'
  clear h' k'
  go_wp2
  go_ret
  exact ⟨rfl, H'.out, K'.out⟩

theorem li_push_no (h : Li w b g q n K t) (k : Nat) (m : Int) (hk : k < K) (hm : ¬ (0 ≤ m ∧ m < n)) :
    Calls Tryz.prog 88 #[.pointer (some ⟨b, 0, none⟩), .int .i64 (k : Int), .int .i64 m] w fun e w' => e = .returned (.bool false) ∧ w = w' := by
  have HD := Lib.hid (li_head h k hk)
  have HS := li_has h m
  rw [decide_eq_false hm] at HS
  have HS := Lib.hid HS
  clear h hm
  go_enter Tryz.func88, Tryz.ntmps88
  go_wp2_with fail
  refine HD.out.mono ?_
  rintro e w' ⟨rfl, rfl⟩
  go_wp2_with fail
  refine HS.out.mono ?_
  rintro e w' ⟨rfl, rfl⟩
  go_wp2
  go_ret
  exact ⟨rfl, rfl⟩
end

end Go.Proofs.YtbgknopjgohocaaGreat


/- The program's lists: walks of Of, Remove, Len, Back, New. -/
namespace Go.Proofs.YtbgknopjgohocaaGreat
open Go.RowKit
set_option linter.unusedVariables false

section
variable {w : World} {b g q n K : Nat} {t : LS}

theorem li_of (h : Li w b g q n K t) (m : Nat) (hm : m < n) (ht : 0 < t.tg m) :
    Calls Tryz.prog 87 #[.pointer (some ⟨b, 0, none⟩), .int .i64 (m : Int)] w fun e w' => e = .returned (.tuple #[.int .i64 ((t.tg m - 1 : Nat) : Int), .bool true]) ∧ w = w' := by
  have HS := li_has h (m : Int)
  rw [decide_eq_true (show 0 ≤ (m : Int) ∧ (m : Int) < n by omega)] at HS
  have HS := Lib.hid HS
  have c0 := h.c0
  obtain ⟨d0, d1, d2⟩ := h.node (k := m) (by omega)
  have x1 : (m : Int) < ((n + K : Nat) : Int) := by omega
  have x2 : ((t.tg m : Int) == 0) = false := beq_eq_false_iff_ne.2 (by omega)
  have x3 : (t.tg m : Int) ≤ 16 := by have := h.inv.tle m hm; have := h.k2; omega
  have x4 : 1 ≤ (t.tg m : Int) := by omega
  clear h
  go_enter Tryz.func87, Tryz.ntmps87
  go_wp2_with fail
  refine HS.out.mono ?_
  rintro e w' ⟨rfl, rfl⟩
  go_wp2
  go_ret2
  refine ⟨?_, rfl⟩
  rw [show ((t.tg m - 1 : Nat) : Int) = (t.tg m : Int) - 1 by omega]; rfl

theorem li_of_none (h : Li w b g q n K t) (m : Nat) (hm : m < n) (ht : t.tg m = 0) :
    Calls Tryz.prog 87 #[.pointer (some ⟨b, 0, none⟩), .int .i64 (m : Int)] w fun e w' => e = .returned (.tuple #[.int .i64 0, .bool false]) ∧ w = w' := by
  have HS := li_has h (m : Int)
  rw [decide_eq_true (show 0 ≤ (m : Int) ∧ (m : Int) < n by omega)] at HS
  have HS := Lib.hid HS
  have c0 := h.c0
  obtain ⟨d0, d1, d2⟩ := h.node (k := m) (by omega)
  rw [ht] at d2
  have x1 : (m : Int) < ((n + K : Nat) : Int) := by omega
  clear h ht
  go_enter Tryz.func87, Tryz.ntmps87
  go_wp2_with fail
  refine HS.out.mono ?_
  rintro e w' ⟨rfl, rfl⟩
  go_wp2
  go_ret2
  exact ⟨rfl, rfl⟩

theorem li_of_no (h : Li w b g q n K t) (m : Int) (hm : ¬ (0 ≤ m ∧ m < n)) :
    Calls Tryz.prog 87 #[.pointer (some ⟨b, 0, none⟩), .int .i64 m] w fun e w' => e = .returned (.tuple #[.int .i64 0, .bool false]) ∧ w = w' := by
  have HS := li_has h m
  rw [decide_eq_false hm] at HS
  have HS := Lib.hid HS
  clear h hm
  go_enter Tryz.func87, Tryz.ntmps87
  go_wp2_with fail
  refine HS.out.mono ?_
  rintro e w' ⟨rfl, rfl⟩
  go_wp2
  go_ret2
  exact ⟨rfl, rfl⟩

theorem li_remove (h : Li w b g q n K t) (m : Nat) (hm : m < n) (ht : 0 < t.tg m) :
    Calls Tryz.prog 128 #[.pointer (some ⟨b, 0, none⟩), .int .i64 (m : Int)] w fun e w' => e = .returned (.bool true) ∧ Li w' b g q n K (unlinkS t m) ∧ Keeps (fun j => j = g ∨ j = q) w w' := by
  have HS := li_has h (m : Int)
  rw [decide_eq_true (show 0 ≤ (m : Int) ∧ (m : Int) < n by omega)] at HS
  have HS := Lib.hid HS
  have U := Lib.hid (li_unlink h m hm ht)
  have c0 := h.c0
  obtain ⟨d0, d1, d2⟩ := h.node (k := m) (by omega)
  have x1 : (m : Int) < ((n + K : Nat) : Int) := by omega
  have x2 : ((t.tg m : Int) == 0) = false := beq_eq_false_iff_ne.2 (by omega)
  clear h
  go_enter Tryz.func128, Tryz.ntmps128
  go_wp2_with fail
  refine HS.out.mono ?_
  rintro e w' ⟨rfl, rfl⟩
  go_wp2_with fail
  refine U.out.mono ?_
  rintro e w' ⟨rfl, h', k'⟩
  have H' := Lib.hid h'
  have K' := Lib.hid k'
  clear h' k'
  go_wp2
  go_ret
  exact ⟨rfl, H'.out, K'.out⟩

theorem li_remove_none (h : Li w b g q n K t) (m : Nat) (hm : m < n) (ht : t.tg m = 0) :
    Calls Tryz.prog 128 #[.pointer (some ⟨b, 0, none⟩), .int .i64 (m : Int)] w fun e w' => e = .returned (.bool false) ∧ w = w' := by
  have HS := li_has h (m : Int)
  rw [decide_eq_true (show 0 ≤ (m : Int) ∧ (m : Int) < n by omega)] at HS
  have HS := Lib.hid HS
  have c0 := h.c0
  obtain ⟨d0, d1, d2⟩ := h.node (k := m) (by omega)
  rw [ht] at d2
  have x1 : (m : Int) < ((n + K : Nat) : Int) := by omega
  clear h ht
  go_enter Tryz.func128, Tryz.ntmps128
  go_wp2_with fail
  refine HS.out.mono ?_
  rintro e w' ⟨rfl, rfl⟩
  go_wp2
  go_ret
  exact ⟨rfl, rfl⟩

theorem li_remove_no (h : Li w b g q n K t) (m : Int) (hm : ¬ (0 ≤ m ∧ m < n)) :
    Calls Tryz.prog 128 #[.pointer (some ⟨b, 0, none⟩), .int .i64 m] w fun e w' => e = .returned (.bool false) ∧ w = w' := by
  have HS := li_has h m
  rw [decide_eq_false hm] at HS
  have HS := Lib.hid HS
  clear h hm
  go_enter Tryz.func128, Tryz.ntmps128
  go_wp2_with fail
  refine HS.out.mono ?_
  rintro e w' ⟨rfl, rfl⟩
  go_wp2
  go_ret
  exact ⟨rfl, rfl⟩

theorem li_len (h : Li w b g q n K t) (k : Nat) (hk : k < K) :
    Calls Tryz.prog 89 #[.pointer (some ⟨b, 0, none⟩), .int .i64 (k : Int)] w fun e w' => e = .returned (.int .i64 ((t.rows k).length : Int)) ∧ w = w' := by
  have HD := Lib.hid (li_head h k hk)
  have c2 := h.c2
  have dm := h.many.cell hk
  rw [h.inv.many k hk] at dm
  have x5 : (k : Int) < (K : Int) := by omega
  clear h
  go_enter Tryz.func89, Tryz.ntmps89
  go_wp2_with fail
  refine HD.out.mono ?_
  rintro e w' ⟨rfl, rfl⟩
  go_wp2
  go_ret
  exact ⟨rfl, rfl⟩

theorem li_end (h : Li w b g q n K t) (m : Nat) :
    Calls Tryz.prog 114 #[.pointer (some ⟨b, 0, none⟩), .int .i64 (m : Int)] w fun e w' => e = .returned (.tuple #[.int .i64 ((if m < n then m else 0 : Nat) : Int), .bool (decide (m < n))]) ∧ w = w' := by
  have HS := li_has h (m : Int)
  clear h
  by_cases hm : m < n
  · rw [decide_eq_true (show 0 ≤ (m : Int) ∧ (m : Int) < n by omega)] at HS
    have HS := Lib.hid HS
    rw [if_pos hm, decide_eq_true hm]
    go_enter Tryz.func114, Tryz.ntmps114
    go_wp2_with fail
    refine HS.out.mono ?_
    rintro e w' ⟨rfl, rfl⟩
    go_wp2
    go_ret2
    exact ⟨rfl, rfl⟩
  · rw [decide_eq_false (show ¬ (0 ≤ (m : Int) ∧ (m : Int) < n) by omega)] at HS
    have HS := Lib.hid HS
    rw [if_neg hm, decide_eq_false hm]
    go_enter Tryz.func114, Tryz.ntmps114
    go_wp2_with fail
    refine HS.out.mono ?_
    rintro e w' ⟨rfl, rfl⟩
    go_wp2
    go_ret2
    exact ⟨rfl, rfl⟩

/-- The last one of a row, and whether there is one. -/
def backN (l : List Nat) : Nat := l.getLast?.getD 0
theorem li_back (h : Li w b g q n K t) (k : Nat) (hk : k < K) :
    Calls Tryz.prog 90 #[.pointer (some ⟨b, 0, none⟩), .int .i64 (k : Int)] w fun e w' => e = .returned (.tuple #[.int .i64 (backN (t.rows k) : Int), .bool (!(t.rows k).isEmpty)]) ∧ w = w' := by
  have HD := Lib.hid (li_head h k hk)
  have E := li_end h (t.pv (n + k))
  have hl := last_of h.inv hk
  have e1 : ((if t.pv (n + k) < n then t.pv (n + k) else 0 : Nat)) = backN (t.rows k) ∧ decide (t.pv (n + k) < n) = !(t.rows k).isEmpty := by
    rw [hl]
    rcases List.eq_nil_or_concat (t.rows k) with e | ⟨l, a, e⟩
    · rw [e]; simp [backN, show ¬ n + k < n by omega]
    · have hlt := h.inv.lt k hk a (by rw [e]; simp)
      rw [e]; simp [backN, hlt]
  rw [e1.1, e1.2] at E
  have E := Lib.hid E
  have c0 := h.c0
  obtain ⟨d0, d1, d2⟩ := h.node (k := n + k) (by omega)
  have x2 : ((n + k : Nat) : Int) < ((n + K : Nat) : Int) := by omega
  clear h hl e1
  go_enter Tryz.func90, Tryz.ntmps90
  go_wp2_with fail
  refine HD.out.mono ?_
  rintro e w' ⟨rfl, rfl⟩
  go_wp2_with fail
  refine E.out.mono ?_
  rintro e w' ⟨rfl, rfl⟩
  go_wp2
  first
    | (go_ret2; exact ⟨rfl, rfl⟩)
    | (go_ret; exact ⟨rfl, rfl⟩)
end

/-- The zero of a node. -/
theorem infoNode : (Tryz.prog.info? 174).map (fun i => (i.zero, i.size, i.bytes)) = some (some (.agg #[.int .i64 0, .int .i64 0, .int .i64 0]), 3, 24) := by kernel_rfl

theorem toList_madeCells3 (z : Value) (n : Nat) : (madeCells #[z, z, z] (n * 3)).size = n * 3 ∧ ∀ i, i < n * 3 → (madeCells #[z, z, z] (n * 3))[i]? = some z := by
  refine ⟨size_madeCells _ _, fun i hi => ?_⟩
  have : i % 3 = 0 ∨ i % 3 = 1 ∨ i % 3 = 2 := by omega
  unfold madeCells
  rw [Array.getElem?_map, Array.getElem?_range, if_pos hi]
  rcases this with e | e | e <;> simp [e]

theorem make_nodes (L : Nat) (hL : L ≤ 2048) (W : World) : (Instr.makeSlice 170 (.int .i64 (L : Int)) (.int .i64 (L : Int))).run Tryz.prog W = .ok (.slice (some ⟨W.heap.size, 0, none⟩) L L) (W.alloc (.cells (madeCells #[.int .i64 0, .int .i64 0, .int .i64 0] (L * 3)) 174)) := by
  obtain ⟨i0, hi, hz0, hz1, hz2⟩ := info_parts infoNode
  have := run_make (P := Tryz.prog) (w := W) 170 174 i0 (.agg #[.int .i64 0, .int .i64 0, .int .i64 0]) Tryz.underlying170 hi hz0 .i64 .i64 (L : Int) (L : Int) (by omega) (Int.le_refl _) (by rw [hz2]; omega) (by omega)
  rw [this, hz1]
  simp [Value.cells]

theorem mk_ints (L : Nat) (hL : L ≤ 4096) (W : World) : (Instr.makeSlice 25 (.int .i64 (L : Int)) (.int .i64 (L : Int))).run Tryz.prog W = .ok (.slice (some ⟨W.heap.size, 0, none⟩) L L) (W.alloc (.cells (madeCells #[.int .i64 0] L) 3)) := by
  obtain ⟨i0, hi, hz0, hz1, hz2⟩ := info_parts infoInt
  have := run_make (P := Tryz.prog) (w := W) 25 3 i0 (.int .i64 0) Tryz.underlying25 hi hz0 .i64 .i64 (L : Int) (L : Int) (by omega) (Int.le_refl _) (by rw [hz2]; omega) (by omega)
  rw [this, hz1]
  simp [Value.cells]

def newLS : LS := ⟨fun i => i, fun i => i, fun _ => 0, fun _ => 0, fun _ => []⟩
theorem newLS_inv (n K : Nat) : LInv n K newLS :=
  ⟨fun k hk => by show Links _ _ [n + k, n + k]; exact ⟨rfl, rfl, trivial⟩, fun k hk => List.nodup_nil, fun k hk x hx => (by cases hx), fun k hk x hx => by simp [newLS], fun x hx => Nat.zero_le _, fun k hk => rfl⟩

theorem madeCells_get' (z : Value) (n i : Nat) (hi : i < n) : (madeCells #[z] n)[i]? = some z := by
  have h := toList_madeCells_one z n
  have : (madeCells #[z] n).toList[i]? = some z := by rw [h]; simp [hi]
  simpa using this

/-- The nodes on the way: those below k are laid. -/
def partF (k i : Nat) : Value := if i < k * 3 then ndF newLS i else .int .i64 0
theorem part_step {w : World} {g L : Nat} {ty : TypeId} {k : Nat} (h : Arr w g ty (L * 3) (partF k)) :
    Arr (((w.setCell ⟨g, k * 3, none⟩ (.int .i64 (k : Int))).setCell ⟨g, k * 3 + 1, none⟩ (.int .i64 (k : Int))).setCell ⟨g, k * 3 + 2, none⟩ (.int .i64 0)) g ty (L * 3) (partF (k + 1)) :=
  (((h.set (k * 3) _).set (k * 3 + 1) _).set (k * 3 + 2) _).congr (fun i hi => by
    by_cases e0 : i = k * 3
    · subst e0
      rw [if_neg (by omega), if_neg (by omega), if_pos rfl, partF, if_pos (by omega), ndF0]; rfl
    · by_cases e1 : i = k * 3 + 1
      · subst e1
        rw [if_neg (by omega), if_pos rfl, partF, if_pos (by omega), ndF1]; rfl
      · by_cases e2 : i = k * 3 + 2
        · subst e2
          rw [if_pos rfl, partF, if_pos (by omega), ndF2]; rfl
        · rw [if_neg e2, if_neg e1, if_neg e0, partF, partF]
          by_cases h : i < k * 3
          · rw [if_pos h, if_pos (by omega)]
          · rw [if_neg h, if_neg (by omega)])

/-- What 'New' leaves. -/
def NewLi (n K : Nat) (w : World) (e : Ending) (w' : World) : Prop := ∃ b g q, e = .returned (.tuple #[.pointer (some ⟨b, 0, none⟩), .int .i64 0]) ∧
  Li w' b g q n K newLS ∧ New w w' b ∧ New w w' g ∧ New w w' q ∧ Below w.heap.size w w'
theorem Arr.mk_ {w : World} {g L : Nat} {t : TypeId} {F : Nat → Value} {cs : Array Value} (h : w.heap[g]? = some (.cells cs t (0, 0))) (hs : cs.size = L) (hc : ∀ i, i < L → cs[i]? = some (F i)) : Arr w g t L F := ⟨cs, h, hs, hc⟩

set_option maxHeartbeats 1000000 in
theorem li_new (w : World) (n K : Nat) (hn : n ≤ 1024) (hK : K ≤ 16) (hK1 : 1 ≤ K) :
    Calls Tryz.prog 75 #[.int .i64 (n : Int), .int .i64 (K : Int)] w (NewLi n K w) := by
  have M1 : ∀ W, (Instr.makeSlice 170 (.int .i64 ((n : Int) + (K : Int))) (.int .i64 ((n : Int) + (K : Int)))).run Tryz.prog W = .ok (.slice (some ⟨W.heap.size, 0, none⟩) (n + K) (n + K)) (W.alloc (.cells (madeCells #[.int .i64 0, .int .i64 0, .int .i64 0] ((n + K) * 3)) 174)) := fun W => by
    have := make_nodes (n + K) (by omega) W
    rw [show ((n + K : Nat) : Int) = (n : Int) + (K : Int) by omega] at this; exact this
  have M2 := fun W => mk_ints K (by omega) W
  have a1 : ¬ (n : Int) < 0 := by omega
  have a2 : ¬ (1024 : Int) < (n : Int) := by omega
  have a3 : ¬ (K : Int) < 0 := by omega
  have a4 : ¬ (16 : Int) < (K : Int) := by omega
  have a5 : (n : Int) ≤ 1024 := by omega
  have a6 : (K : Int) ≤ 16 := by omega
  go_enter Tryz.func75, Tryz.ntmps75
  go_wp2_with fail
  go_region
  · have bb : Below w.heap.size w (((w.alloc (.cells (madeCells #[.int .i64 0, .int .i64 0, .int .i64 0] ((n + K) * 3)) 174)).alloc (.cells (madeCells #[.int .i64 0] K) 3)).alloc (.cells #[.slice (some ⟨w.heap.size, 0, none⟩) (n + K) (n + K), .int .i64 (n : Int), .slice (some ⟨w.heap.size + 1, 0, none⟩) K K] 172)).drew := ((((Below.refl w.heap.size w).alloc (Nat.le_refl _) _).alloc (by simp) _).alloc (by simp; omega) _).drew
    have hz : (((w.alloc (.cells (madeCells #[.int .i64 0, .int .i64 0, .int .i64 0] ((n + K) * 3)) 174)).alloc (.cells (madeCells #[.int .i64 0] K) 3)).alloc (.cells #[.slice (some ⟨w.heap.size, 0, none⟩) (n + K) (n + K), .int .i64 (n : Int), .slice (some ⟨w.heap.size + 1, 0, none⟩) K K] 172)).drew.heap.size = w.heap.size + 3 := by simp
    have A0 : Arr (((w.alloc (.cells (madeCells #[.int .i64 0, .int .i64 0, .int .i64 0] ((n + K) * 3)) 174)).alloc (.cells (madeCells #[.int .i64 0] K) 3)).alloc (.cells #[.slice (some ⟨w.heap.size, 0, none⟩) (n + K) (n + K), .int .i64 (n : Int), .slice (some ⟨w.heap.size + 1, 0, none⟩) K K] 172)).drew w.heap.size 174 ((n + K) * 3) (partF 0) := Arr.drewN (Arr.past (Arr.past (Arr.mk_ (w := w.alloc (.cells (madeCells #[.int .i64 0, .int .i64 0, .int .i64 0] ((n + K) * 3)) 174)) (heap_at _ _ _ rfl) (toList_madeCells3 _ _).1 (fun i hi => by rw [(toList_madeCells3 _ _).2 i hi]; simp [partF])) _) _) 1
    have M0 : Arr (((w.alloc (.cells (madeCells #[.int .i64 0, .int .i64 0, .int .i64 0] ((n + K) * 3)) 174)).alloc (.cells (madeCells #[.int .i64 0] K) 3)).alloc (.cells #[.slice (some ⟨w.heap.size, 0, none⟩) (n + K) (n + K), .int .i64 (n : Int), .slice (some ⟨w.heap.size + 1, 0, none⟩) K K] 172)).drew (w.heap.size + 1) 3 K (fun k => .int .i64 ((newLS.cn k : Nat) : Int)) := Arr.drewN (Arr.past (Arr.mk_ (w := (w.alloc (.cells (madeCells #[.int .i64 0, .int .i64 0, .int .i64 0] ((n + K) * 3)) 174)).alloc (.cells (madeCells #[.int .i64 0] K) 3)) (heap_at _ _ _ (by simp)) (size_madeCells _ _) (fun i hi => madeCells_get' _ _ _ hi)) _) 1
    have T0 : Arr (((w.alloc (.cells (madeCells #[.int .i64 0, .int .i64 0, .int .i64 0] ((n + K) * 3)) 174)).alloc (.cells (madeCells #[.int .i64 0] K) 3)).alloc (.cells #[.slice (some ⟨w.heap.size, 0, none⟩) (n + K) (n + K), .int .i64 (n : Int), .slice (some ⟨w.heap.size + 1, 0, none⟩) K K] 172)).drew (w.heap.size + 1 + 1) 172 3 (liF w.heap.size (w.heap.size + 1) n K) := Arr.drewN (Arr.mk_ (L := 3) (heap_at _ _ _ (by simp)) (by rfl) (fun i (hi : i < 3) => by
      have : i = 0 ∨ i = 1 ∨ i = 2 := by omega
      rcases this with rfl | rfl | rfl <;> rfl)) 1
    generalize (((w.alloc (.cells (madeCells #[.int .i64 0, .int .i64 0, .int .i64 0] ((n + K) * 3)) 174)).alloc (.cells (madeCells #[.int .i64 0] K) 3)).alloc (.cells #[.slice (some ⟨w.heap.size, 0, none⟩) (n + K) (n + K), .int .i64 (n : Int), .slice (some ⟨w.heap.size + 1, 0, none⟩) K K] 172)).drew = w0 at *
    obtain ⟨g, hg⟩ : ∃ g, g = w.heap.size := ⟨_, rfl⟩
    obtain ⟨q, hq⟩ : ∃ q, q = (w.heap.size + 1) := ⟨_, rfl⟩
    obtain ⟨b, hb⟩ : ∃ b, b = w.heap.size + 1 + 1 := ⟨_, rfl⟩
    rw [← hb, ← hq, ← hg] at T0
    rw [← hg] at A0
    rw [← hq] at M0
    have c0 : w0.cell? ⟨b, 0, none⟩ = some (.slice (some ⟨g, 0, none⟩) (n + K) (n + K)) := T0.cell (i := 0) (by omega)
    rw [hb, hg] at c0
    have HG := Lib.hid hg
    have HQ := Lib.hid hq
    have HB := Lib.hid hb
    have T0' := Lib.hid T0
    have M0' := Lib.hid M0
    have A0' := Lib.hid A0
    have BB := Lib.hid bb
    have HZ := Lib.hid hz
    clear T0 M0 A0 bb hz hg hq hb
    go_wp2_with fail
    have hzz := HZ.out
    go_loopw [36, 7] (fun i _ wr => ∃ k : Nat, k ≤ n + K ∧ i = .int .i64 (k : Int) ∧ Arr wr g 174 ((n + K) * 3) (partF k) ∧ Keeps (fun j => j = g) w0 wr) (fun i _ _ => n + K - (intOf i).toNat)
    case atStart => exact ⟨0, Nat.zero_le _, rfl, A0'.out, Keeps.refl _ _⟩
    case round =>
      obtain ⟨k, hk, rfl, ha, hkk⟩ := hrel
      have tg := T0'.out.keep hkk (fun e => T0'.out.ne A0'.out (by decide) e)
      have d0 : wr.cell? ⟨b, 0, none⟩ = some (.slice (some ⟨g, 0, none⟩) (n + K) (n + K)) := tg.cell (i := 0) (by omega)
      rw [HB.out, HG.out] at d0
      have HK := Lib.hid hkk
      have HA := Lib.hid ha
      have HT := Lib.hid tg
      by_cases h1 : k < n + K
      · have x1 : (k : Int) < ((n + K : Nat) : Int) := by omega
        have x2 : (k : Int) ≤ 1040 := by omega
        have f0 := fun i => ha.free i
        have y0 := ha.cell (i := k * 3) (by omega)
        have y1 := ha.cell (i := k * 3 + 1) (by omega)
        have y2 := ha.cell (i := k * 3 + 2) (by omega)
        rw [HG.out] at f0 y0 y1 y2
        have ST := part_step ha
        have KS := (((HK.out.setCell (p := ⟨g, k * 3, none⟩) (.inl rfl) (.int .i64 (k : Int))).setCell (p := ⟨g, k * 3 + 1, none⟩) (.inl rfl) (.int .i64 (k : Int))).setCell (p := ⟨g, k * 3 + 2, none⟩) (.inl rfl) (.int .i64 0))
        have HST := Lib.hid ST
        have HKS := Lib.hid KS
        clear ha hkk tg ST KS
        go_wp2
        go_roundw
        case rel => exact ⟨k + 1, by omega, by simp, by rw [HG.out] at HST ⊢; exact HST.out, by rw [HG.out] at HKS ⊢; exact HKS.out⟩
        case measure => simp only [intOf]; omega
      · have x1 : ¬ (k : Int) < ((n + K : Nat) : Int) := by omega
        obtain rfl : k = n + K := by omega
        clear ha hkk tg d0
        go_wp2
        go_ret2
        have hsz := HK.out.size
        have hg := HG.out
        have hq := HQ.out
        have hb := HB.out
        refine ⟨b, g, q, by rw [hb]; rfl, ⟨HT.out, nd_congr HA.out (fun k hk => ?_), M0'.out.keep HK.out (fun e => M0'.out.ne A0'.out (by decide) e), newLS_inv n K, hn, hK⟩, ⟨by omega, by omega⟩, ⟨by omega, by omega⟩, ⟨by omega, by omega⟩, BB.out.trans ((HK.out.mono (T := fun j => w.heap.size ≤ j) (fun _ _ x => by omega)).below (by omega))⟩
        unfold partF
        rw [if_pos (by omega), if_pos (by omega), if_pos (by omega)]
        exact ⟨ndF0 _ _, ndF1 _ _, ndF2 _ _⟩
  · have bb : Below w.heap.size w (((w.alloc (.cells (madeCells #[.int .i64 0] K) 3)).alloc (.cells (madeCells #[.int .i64 0, .int .i64 0, .int .i64 0] ((n + K) * 3)) 174)).alloc (.cells #[.slice (some ⟨w.heap.size + 1, 0, none⟩) (n + K) (n + K), .int .i64 (n : Int), .slice (some ⟨w.heap.size, 0, none⟩) K K] 172)).drew := ((((Below.refl w.heap.size w).alloc (Nat.le_refl _) _).alloc (by simp) _).alloc (by simp; omega) _).drew
    have hz : (((w.alloc (.cells (madeCells #[.int .i64 0] K) 3)).alloc (.cells (madeCells #[.int .i64 0, .int .i64 0, .int .i64 0] ((n + K) * 3)) 174)).alloc (.cells #[.slice (some ⟨w.heap.size + 1, 0, none⟩) (n + K) (n + K), .int .i64 (n : Int), .slice (some ⟨w.heap.size, 0, none⟩) K K] 172)).drew.heap.size = w.heap.size + 3 := by simp
    have M0 : Arr (((w.alloc (.cells (madeCells #[.int .i64 0] K) 3)).alloc (.cells (madeCells #[.int .i64 0, .int .i64 0, .int .i64 0] ((n + K) * 3)) 174)).alloc (.cells #[.slice (some ⟨w.heap.size + 1, 0, none⟩) (n + K) (n + K), .int .i64 (n : Int), .slice (some ⟨w.heap.size, 0, none⟩) K K] 172)).drew w.heap.size 3 K (fun k => .int .i64 ((newLS.cn k : Nat) : Int)) := Arr.drewN (Arr.past (Arr.past (Arr.mk_ (w := w.alloc (.cells (madeCells #[.int .i64 0] K) 3)) (heap_at _ _ _ rfl) (size_madeCells _ _) (fun i hi => madeCells_get' _ _ _ hi)) _) _) 1
    have A0 : Arr (((w.alloc (.cells (madeCells #[.int .i64 0] K) 3)).alloc (.cells (madeCells #[.int .i64 0, .int .i64 0, .int .i64 0] ((n + K) * 3)) 174)).alloc (.cells #[.slice (some ⟨w.heap.size + 1, 0, none⟩) (n + K) (n + K), .int .i64 (n : Int), .slice (some ⟨w.heap.size, 0, none⟩) K K] 172)).drew (w.heap.size + 1) 174 ((n + K) * 3) (partF 0) := Arr.drewN (Arr.past (Arr.mk_ (w := (w.alloc (.cells (madeCells #[.int .i64 0] K) 3)).alloc (.cells (madeCells #[.int .i64 0, .int .i64 0, .int .i64 0] ((n + K) * 3)) 174)) (heap_at _ _ _ (by simp)) (toList_madeCells3 _ _).1 (fun i hi => by rw [(toList_madeCells3 _ _).2 i hi]; simp [partF])) _) 1
    have T0 : Arr (((w.alloc (.cells (madeCells #[.int .i64 0] K) 3)).alloc (.cells (madeCells #[.int .i64 0, .int .i64 0, .int .i64 0] ((n + K) * 3)) 174)).alloc (.cells #[.slice (some ⟨w.heap.size + 1, 0, none⟩) (n + K) (n + K), .int .i64 (n : Int), .slice (some ⟨w.heap.size, 0, none⟩) K K] 172)).drew (w.heap.size + 1 + 1) 172 3 (liF (w.heap.size + 1) w.heap.size n K) := Arr.drewN (Arr.mk_ (L := 3) (heap_at _ _ _ (by simp)) (by rfl) (fun i (hi : i < 3) => by
      have : i = 0 ∨ i = 1 ∨ i = 2 := by omega
      rcases this with rfl | rfl | rfl <;> rfl)) 1
    generalize (((w.alloc (.cells (madeCells #[.int .i64 0] K) 3)).alloc (.cells (madeCells #[.int .i64 0, .int .i64 0, .int .i64 0] ((n + K) * 3)) 174)).alloc (.cells #[.slice (some ⟨w.heap.size + 1, 0, none⟩) (n + K) (n + K), .int .i64 (n : Int), .slice (some ⟨w.heap.size, 0, none⟩) K K] 172)).drew = w0 at *
    obtain ⟨g, hg⟩ : ∃ g, g = (w.heap.size + 1) := ⟨_, rfl⟩
    obtain ⟨q, hq⟩ : ∃ q, q = w.heap.size := ⟨_, rfl⟩
    obtain ⟨b, hb⟩ : ∃ b, b = w.heap.size + 1 + 1 := ⟨_, rfl⟩
    rw [← hb, ← hg, ← hq] at T0
    rw [← hg] at A0
    rw [← hq] at M0
    have c0 : w0.cell? ⟨b, 0, none⟩ = some (.slice (some ⟨g, 0, none⟩) (n + K) (n + K)) := T0.cell (i := 0) (by omega)
    rw [hb, hg] at c0
    have HG := Lib.hid hg
    have HQ := Lib.hid hq
    have HB := Lib.hid hb
    have T0' := Lib.hid T0
    have M0' := Lib.hid M0
    have A0' := Lib.hid A0
    have BB := Lib.hid bb
    have HZ := Lib.hid hz
    clear T0 M0 A0 bb hz hg hq hb
    go_wp2_with fail
    have hzz := HZ.out
    go_loopw [36, 7] (fun i _ wr => ∃ k : Nat, k ≤ n + K ∧ i = .int .i64 (k : Int) ∧ Arr wr g 174 ((n + K) * 3) (partF k) ∧ Keeps (fun j => j = g) w0 wr) (fun i _ _ => n + K - (intOf i).toNat)
    case atStart => exact ⟨0, Nat.zero_le _, rfl, A0'.out, Keeps.refl _ _⟩
    case round =>
      obtain ⟨k, hk, rfl, ha, hkk⟩ := hrel
      have tg := T0'.out.keep hkk (fun e => T0'.out.ne A0'.out (by decide) e)
      have d0 : wr.cell? ⟨b, 0, none⟩ = some (.slice (some ⟨g, 0, none⟩) (n + K) (n + K)) := tg.cell (i := 0) (by omega)
      rw [HB.out, HG.out] at d0
      have HK := Lib.hid hkk
      have HA := Lib.hid ha
      have HT := Lib.hid tg
      by_cases h1 : k < n + K
      · have x1 : (k : Int) < ((n + K : Nat) : Int) := by omega
        have x2 : (k : Int) ≤ 1040 := by omega
        have f0 := fun i => ha.free i
        have y0 := ha.cell (i := k * 3) (by omega)
        have y1 := ha.cell (i := k * 3 + 1) (by omega)
        have y2 := ha.cell (i := k * 3 + 2) (by omega)
        rw [HG.out] at f0 y0 y1 y2
        have ST := part_step ha
        have KS := (((HK.out.setCell (p := ⟨g, k * 3, none⟩) (.inl rfl) (.int .i64 (k : Int))).setCell (p := ⟨g, k * 3 + 1, none⟩) (.inl rfl) (.int .i64 (k : Int))).setCell (p := ⟨g, k * 3 + 2, none⟩) (.inl rfl) (.int .i64 0))
        have HST := Lib.hid ST
        have HKS := Lib.hid KS
        clear ha hkk tg ST KS
        go_wp2
        go_roundw
        case rel => exact ⟨k + 1, by omega, by simp, by rw [HG.out] at HST ⊢; exact HST.out, by rw [HG.out] at HKS ⊢; exact HKS.out⟩
        case measure => simp only [intOf]; omega
      · have x1 : ¬ (k : Int) < ((n + K : Nat) : Int) := by omega
        obtain rfl : k = n + K := by omega
        clear ha hkk tg d0
        go_wp2
        go_ret2
        have hsz := HK.out.size
        have hg := HG.out
        have hq := HQ.out
        have hb := HB.out
        refine ⟨b, g, q, by rw [hb]; rfl, ⟨HT.out, nd_congr HA.out (fun k hk => ?_), M0'.out.keep HK.out (fun e => M0'.out.ne A0'.out (by decide) e), newLS_inv n K, hn, hK⟩, ⟨by omega, by omega⟩, ⟨by omega, by omega⟩, ⟨by omega, by omega⟩, BB.out.trans ((HK.out.mono (T := fun j => w.heap.size ≤ j) (fun _ _ x => by omega)).below (by omega))⟩
        unfold partF
        rw [if_pos (by omega), if_pos (by omega), if_pos (by omega)]
        exact ⟨ndF0 _ _, ndF1 _ _, ndF2 _ _⟩

end Go.Proofs.YtbgknopjgohocaaGreat


/- All nodes of a list: a range over a function. -/
namespace Go.Proofs.YtbgknopjgohocaaGreat
open Go.RowKit Go.Shelf
set_option linter.unusedVariables false
attribute [local go_sem] Oper.semAt_some

/-- Where one stands in a row; its length, if it is not in it. -/
def posOf (x : Nat) : List Nat → Nat
  | [] => 0
  | y :: l => if y = x then 0 else posOf x l + 1
theorem posOf_append (x : Nat) : ∀ (a b : List Nat), x ∉ a → posOf x (a ++ b) = a.length + posOf x b
  | [], b, _ => by simp
  | y :: a, b, h => by
    have h1 : y ≠ x := fun e => h (by simp [e])
    have h2 := posOf_append x a b (fun z => h (by simp [z]))
    simp only [List.cons_append, posOf, if_neg h1, h2, List.length_cons]; omega

/-- Who stands next in a ring. -/
theorem ring_next {nx pv : Nat → Nat} {h x : Nat} {pre rest : List Nat} (hl : Links nx pv (h :: (pre ++ x :: rest ++ [h]))) : nx x = rest.head?.getD h := by
  have e : h :: (pre ++ x :: rest ++ [h]) = (h :: pre) ++ x :: (rest ++ [h]) := by simp
  rw [e, links_append] at hl
  obtain ⟨_, hl⟩ := hl
  cases rest with
  | nil => exact hl.1
  | cons y r => exact hl.1
theorem ring_first {nx pv : Nat → Nat} {h : Nat} {rest : List Nat} (hl : Links nx pv (h :: (rest ++ [h]))) : nx h = rest.head?.getD h := by
  cases rest with
  | nil => exact hl.1
  | cons y r => exact hl.1

/-- What stands in the five blocks stays. -/
def KT (T : Nat → Prop) (A B : World) : Prop := Keeps (fun j => ¬ T j) A B
theorem KT.t {T : Nat → Prop} {A B C : World} (h : KT T A B) (k : KT T B C) : KT T A C := Keeps.trans h k (fun _ x => .inl x)
theorem KT.b {T : Nat → Prop} {w : World} (hT : ∀ j, T j → j < w.heap.size) (W : World) (l : Nat) (o o' : Obj) (hl : w.heap.size ≤ l) (h : W.heap[l]? = some o) (_ : o.isCells = false) (_ : o.isWalk = false) : KT T W (W.putObj l o') := by
  have g := grownBy_putObj' W l o'
  exact ⟨g.os, g.tape, g.output, g.size, fun k hk hS => g.block k hk (fun e => by
    have e' : k = l := by injection e
    have := hT k (Classical.not_not.1 hS)
    omega)⟩

theorem Keeps.grown {S : Nat → Prop} {a w w' : World} {row : Option Nat} (h : Keeps S a w) (g : w.grownBy w' row) (hr : ∀ r, row = some r → S r ∨ a.heap.size ≤ r) : Keeps S a w' :=
  ⟨g.os.trans h.os, g.tape.trans h.tape, g.output.trans h.output, Nat.le_trans h.size g.size, fun k hk hS => (g.block k (Nat.lt_of_lt_of_le hk h.size) (fun e => by
    rcases hr k e.symm with x | x
    · exact hS x
    · omega)).trans (h.block k hk hS)⟩

/-- A variable in a box; a row that it holds has grown. -/
theorem boxed_more {W w1 : World} {n₀ nb B : Nat} {t e : TypeId} {size : Nat} {v v' : Value} {k m : Nat} {xs ys : List Value} {tmp : Obj}
    (hv : Boxed W B t v) (hte : t ≠ e) (hrow : W.ownsRow nb e size v k xs) (hn₀ : n₀ ≤ W.heap.size) (hB : n₀ ≤ B) (hnb : n₀ ≤ nb)
    (hown' : w1.ownsRow nb e size v' m ys) (hgrow : (W.alloc tmp).grownBy w1 v.ownBlock) :
    Boxed w1 B t v ∧ Boxed (w1.setCell ⟨B, 0, none⟩ v') B t v' ∧ (w1.setCell ⟨B, 0, none⟩ v').ownsRow nb e size v' m ys ∧ KeepsOthers W (w1.setCell ⟨B, 0, none⟩ v') ∧ Below n₀ W (w1.setCell ⟨B, 0, none⟩ v') ∧
      ∀ T : Nat → Prop, (∀ j, T j → j < nb ∧ j ≠ B) → KT T W (w1.setCell ⟨B, 0, none⟩ v') := by
  have hv1 : Boxed w1 B t v := (hv.alloc tmp).kept hgrow (hv.not_row hte hrow)
  have row : ∀ j, v.ownBlock = some j → nb ≤ j := fun j ej => by
    rcases hrow.2 with ⟨rfl, _⟩ | ⟨g, cap, cur, rfl, hb, _, _⟩
    · simp [Value.ownBlock] at ej
    · obtain rfl : g = j := by simpa [Value.ownBlock] using ej
      exact hb
  refine ⟨hv1, hv1.set v', hown'.kept (grownBy_setCell' w1 B v') (.inr (hv1.not_row hte hown').symm), ?_, ?_, fun T hT => ?_⟩
  · refine ((KeepsOthers.alloc W tmp).trans (KeepsOthers.of_grownBy hgrow fun j o ej hj => ?_)).trans (KeepsOthers.setCell _ _ _)
    rcases (hrow.alloc tmp).2 with ⟨rfl, _⟩ | ⟨g, cap, cur, rfl, _, hgb, _⟩
    · simp [Value.ownBlock] at ej
    · obtain rfl : g = j := by simpa [Value.ownBlock] using ej
      rw [hgb] at hj; cases hj; rfl
  · refine (((Below.refl n₀ W).alloc hn₀ tmp).grown hgrow (by simp; omega) fun j ej => ?_).setCell (p := ⟨B, 0, none⟩) hB v'
    have := row j ej; omega
  · refine (((Keeps.refl _ W).alloc tmp).grown hgrow (fun j ej => .inl (fun x => by have := row j ej; have := (hT j x).1; omega))).setCell (p := ⟨B, 0, none⟩) (.inl (fun x => (hT B x).2 rfl)) v'

def intV (x : Nat) : Value := .int .i64 ((x : Nat) : Int)

end Go.Proofs.YtbgknopjgohocaaGreat
