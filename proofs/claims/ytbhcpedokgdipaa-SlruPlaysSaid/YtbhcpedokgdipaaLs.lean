/- Rings of numbers, linked both ways: plain laws. -/
import Derived.Test.YtbhcpedokgdipaaFr
namespace Go.Proofs.Ytbhcpedokgdipaa
set_option linter.unusedVariables false

/-- f, but v at i. -/
def up1 (f : Nat → Nat) (i v : Nat) : Nat → Nat := fun j => if j = i then v else f j
theorem up1_at (f : Nat → Nat) (i v : Nat) : up1 f i v i = v := by simp [up1]
theorem up1_ne {f : Nat → Nat} {i v j : Nat} (h : j ≠ i) : up1 f i v j = f j := by simp [up1, h]

/-- Along the path each one leads to the next one, and back. -/
def Links (nx pv : Nat → Nat) : List Nat → Prop
  | a :: b :: l => nx a = b ∧ pv b = a ∧ Links nx pv (b :: l)
  | _ => True

theorem links_append (nx pv : Nat → Nat) (a : Nat) (l2 : List Nat) : ∀ l1 : List Nat, Links nx pv (l1 ++ a :: l2) ↔ Links nx pv (l1 ++ [a]) ∧ Links nx pv (a :: l2)
  | [] => by simp [Links]
  | [x] => by
    cases l2 with
    | nil => simp [Links]
    | cons y l2 => simp [Links, and_assoc]
  | x :: y :: l => by
    have := links_append nx pv a l2 (y :: l)
    simp only [List.cons_append] at this ⊢
    simp only [Links]
    rw [this]
    simp only [and_assoc]

/-- Where the numbers that lead on, and those that are led to, are as they were. -/
theorem links_congr {nx pv nx' pv' : Nat → Nat} : ∀ l : List Nat, (∀ x ∈ l.dropLast, nx' x = nx x) → (∀ x ∈ l.tail, pv' x = pv x) → Links nx pv l → Links nx' pv' l
  | [], _, _, _ => trivial
  | [_], _, _, _ => trivial
  | a :: b :: l, h1, h2, h => by
    refine ⟨(h1 a (by simp)).trans h.1, (h2 b (by simp)).trans h.2.1, links_congr (b :: l) (fun x hx => h1 x (by simp [hx])) (fun x hx => h2 x ?_) h.2.2⟩
    simp only [List.tail_cons] at hx ⊢
    exact List.mem_cons_of_mem _ hx

theorem links_last (nx pv : Nat → Nat) (a b : Nat) (l : List Nat) : Links nx pv (l ++ [a, b]) ↔ Links nx pv (l ++ [a]) ∧ nx a = b ∧ pv b = a := by
  rw [links_append nx pv a [b] l]; simp [Links]

/-- A path from h back to h over the row l: where one is taken out. -/
theorem ring_out {nx pv : Nat → Nat} {h m : Nat} {A B : List Nat} (hl : Links nx pv (h :: (A ++ m :: B ++ [h]))) (nd : (A ++ m :: B).Nodup) (hh : h ∉ A ++ m :: B) :
    Links (up1 (up1 nx (pv m) (nx m)) m m) (up1 (up1 pv (nx m) (pv m)) m m) (h :: (A ++ B ++ [h])) := by
  -- the one ahead, and the one behind
  obtain ⟨A', p, eA⟩ : ∃ A' p, h :: A = A' ++ [p] := ⟨(h :: A).dropLast, (h :: A).getLast (by simp), (List.dropLast_concat_getLast (by simp)).symm⟩
  obtain ⟨q, B', eB⟩ : ∃ q B', B ++ [h] = q :: B' := by
    cases B with
    | nil => exact ⟨h, [], rfl⟩
    | cons q B => exact ⟨q, B ++ [h], rfl⟩
  have e1 : h :: (A ++ m :: B ++ [h]) = A' ++ p :: m :: q :: B' := by
    rw [show h :: (A ++ m :: B ++ [h]) = (h :: A) ++ m :: (B ++ [h]) by simp, eA, eB]; simp
  have e2 : h :: (A ++ B ++ [h]) = A' ++ p :: q :: B' := by
    rw [show h :: (A ++ B ++ [h]) = (h :: A) ++ (B ++ [h]) by simp, eA, eB]; simp
  rw [e1, links_append] at hl
  obtain ⟨h1, hpm, hmp, hmq, hqm, h2⟩ := hl
  rw [e2, links_append]
  simp only [List.nodup_append, List.nodup_cons, List.mem_append, List.mem_cons, not_or] at nd hh
  obtain ⟨ndA, ⟨hmB, ndB⟩, hAB⟩ := nd
  obtain ⟨hhA, hhm, hhB⟩ := hh
  have hmA : m ∉ A := fun x => (hAB m x m (.inl rfl)) rfl
  have memA : ∀ x, x ∈ A' ++ [p] ↔ x = h ∨ x ∈ A := fun x => by rw [← eA]; simp
  have memB : ∀ x, x ∈ q :: B' ↔ x ∈ B ∨ x = h := fun x => by rw [← eB]; simp
  have hp : p = h ∨ p ∈ A := (memA p).1 (by simp)
  have hq : q ∈ B ∨ q = h := (memB q).1 (by simp)
  have hpm' : p ≠ m := by rintro rfl; exact hp.elim (fun e => hhm e.symm) hmA
  have hqm' : q ≠ m := by rintro rfl; exact hq.elim hmB (fun e => hhm e.symm)
  rw [hmp, hmq]
  -- the row ahead: all differ
  have ndA' : (A' ++ [p]).Nodup := by rw [← eA]; exact List.nodup_cons.2 ⟨hhA, ndA⟩
  have pA' : p ∉ A' := fun x => by
    rw [List.nodup_append] at ndA'
    exact ndA'.2.2 p x p (by simp) rfl
  refine ⟨links_congr _ (fun x hx => ?_) (fun x hx => ?_) h1, ?_, ?_, links_congr _ (fun x hx => ?_) (fun x hx => ?_) h2⟩
  · have hx' : x ∈ A' := by simpa using hx
    have xm : x ≠ m := by
      rintro rfl
      rcases (memA x).1 (by simp [hx']) with e | e
      · exact hhm e.symm
      · exact hmA e
    rw [up1_ne xm, up1_ne (by rintro rfl; exact pA' hx')]
  · have hx' : x ∈ A := by rw [← eA] at hx; simpa using hx
    have xm : x ≠ m := by rintro rfl; exact hmA hx'
    have xq : x ≠ q := by
      rintro rfl
      rcases hq with e | e
      · exact hAB x hx' x (.inr e) rfl
      · exact hhA (e ▸ hx')
    rw [up1_ne xm, up1_ne xq]
  · rw [up1_ne hpm', up1_at]
  · rw [up1_ne hqm', up1_at]
  · -- those that lead on behind: of B alone
    have hx' : x ∈ B := by
      rw [← eB] at hx
      simpa using hx
    have xm : x ≠ m := by rintro rfl; exact hmB hx'
    have xp : x ≠ p := by
      rintro rfl
      rcases hp with e | e
      · exact hhB (e ▸ hx')
      · exact hAB x e x (.inr hx') rfl
    rw [up1_ne xm, up1_ne xp]
  · have hx' : x ∈ B' := by simpa using hx
    have xm : x ≠ m := by
      rintro rfl
      rcases (memB x).1 (by simp [hx']) with e | e
      · exact hmB e
      · exact hhm e.symm
    have xq : x ≠ q := by
      rintro rfl
      -- q once more behind itself: in B ++ [h] all differ
      have nd2 : (B ++ [h]).Nodup := by
        rw [List.nodup_append]
        exact ⟨ndB, by simp, fun a ha b hb e => by simp at hb; subst hb; subst e; exact hhB ha⟩
      rw [eB, List.nodup_cons] at nd2
      exact nd2.1 hx'
    rw [up1_ne xm, up1_ne xq]

/-- .. where one is put in, first. -/
theorem ring_in {nx pv : Nat → Nat} {h m : Nat} {A : List Nat} (hl : Links nx pv (h :: (A ++ [h]))) (nd : A.Nodup) (hh : h ∉ A) (hm : m ∉ A) (hmh : m ≠ h) :
    Links (up1 (up1 nx m (nx h)) h m) (up1 (up1 pv m h) (nx h) m) (h :: (m :: A ++ [h])) := by
  obtain ⟨q, B', eB⟩ : ∃ q B', A ++ [h] = q :: B' := by
    cases A with
    | nil => exact ⟨h, [], rfl⟩
    | cons q B => exact ⟨q, B ++ [h], rfl⟩
  have e2 : h :: (m :: A ++ [h]) = h :: m :: q :: B' := by rw [List.cons_append, eB]
  rw [eB] at hl
  obtain ⟨h1, h2, h3⟩ := hl
  rw [e2]
  have memB : ∀ x, x ∈ q :: B' ↔ x ∈ A ∨ x = h := fun x => by rw [← eB]; simp
  have nd2 : (A ++ [h]).Nodup := by
    rw [List.nodup_append]
    exact ⟨nd, by simp, fun a ha b hb e => by simp at hb; subst hb; subst e; exact hh ha⟩
  have qm : q ≠ m := by
    rintro rfl
    rcases (memB q).1 (by simp) with e | e
    · exact hm e
    · exact hmh e
  rw [h1]
  refine ⟨up1_at _ _ _, by rw [up1_ne (Ne.symm qm), up1_at], by rw [up1_ne hmh, up1_at], up1_at _ _ _, links_congr _ (fun x hx => ?_) (fun x hx => ?_) h3⟩
  · have hx' : x ∈ A := by rw [← eB] at hx; simpa using hx
    rw [up1_ne (by rintro rfl; exact hh hx'), up1_ne (by rintro rfl; exact hm hx')]
  · have hx' : x ∈ B' := by simpa using hx
    have xm : x ≠ m := by
      rintro rfl
      rcases (memB x).1 (by simp [hx']) with e | e
      · exact hm e
      · exact hmh e
    have xq : x ≠ q := by
      rintro rfl
      rw [eB, List.nodup_cons] at nd2
      exact nd2.1 hx'
    rw [up1_ne xq, up1_ne xm]

end Go.Proofs.Ytbhcpedokgdipaa
