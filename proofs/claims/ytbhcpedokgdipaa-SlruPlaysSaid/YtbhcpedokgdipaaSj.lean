/- The document's order of slots: Leave, Enter. -/
import Derived.Test.YtbhcpedokgdipaaSh
namespace Go.Proofs.Ytbhcpedokgdipaa
open Go.RowKit Fl
set_option linter.unusedVariables false

section
variable {S : Nat → Prop} {w0 w : World} {b n most : Nat} {low high : List Nat} {vl vh : Value}

theorem own_ext {w0 w w' : World} {S : Nat → Prop} {v : Value} {l : List Nat} (h : w'.ownsRow w.heap.size 3 1 v l.length (l.map intV)) (hs : w0.heap.size ≤ w.heap.size) : ∀ j, v.ownBlock = some j → Ext S w0 w' j := fun j e => .inr ⟨Nat.le_trans hs (own_ge h j e), own_lt h j e⟩
theorem own_new {w w' : World} {v u : Value} {l l' : List Nat} (h : w'.ownsRow w.heap.size 3 1 v l.length (l.map intV)) (h' : RowO w u l') : ∀ j, v.ownBlock = some j → u.ownBlock ≠ some j := fun j e e' => by
  have := own_ge h j e
  have := own_lt h' j e'
  omega

set_option maxHeartbeats 2000000 in
theorem rf_leave (h : RfV S w0 w b n most vl vh low high) (m : Int) (hl : low.length ≤ 1024) (hh : high.length ≤ 1024) :
    Calls Try.prog 48 #[.pointer (some ⟨b, 0, none⟩), .int .i64 m] w fun e w' => e = .returned (.bool (lvS m low high).1) ∧ ∃ vl' vh', RfV S w0 w' b n most vl' vh' (lvS m low high).2.1 (lvS m low high).2.2 := by
  have HAS := rf_has h m (by omega) (by omega)
  unfold lvS
  by_cases hi : (inI m low || inI m high) = true
  · rw [if_pos hi]
    rw [hi] at HAS
    obtain ⟨k, rfl, hk⟩ := inI_or.1 hi
    rw [Int.toNat_natCast]
    have HAS := Lib.hid HAS
    obtain ⟨A, ca, rfl⟩ := own_slice h.lo
    obtain ⟨B, cb, rfl⟩ := own_slice h.hi
    have W2 := without_any (rdI_of h.lo) (by omega) (k : Int)
    rw [woI_nat] at W2
    have W2 := Lib.hid W2
    have W3 := Lib.hid (fun (w' : World) (r : RowO w' (.slice B high.length cb) high) => without_any (rdI_of r) (by omega) (k : Int))
    have c2 := h.c2
    have H := Lib.hid h
    have HH := Lib.hid hh
    clear h hi hk hl hh
    go_enter Try.func48, Try.ntmps48
    go_wp2_with fail
    refine HAS.out.mono ?_
    rintro e w' ⟨rfl, rfl⟩
    go_wp2_with fail
    refine W2.out.mono ?_
    rintro e w1 ⟨v1, rfl, o1, b1⟩
    obtain ⟨A1, c1, rfl⟩ := own_slice o1
    have R1 := Lib.hid (H.out.below b1)
    have R2 := Lib.hid (R1.out.setLow o1 (own_ext o1 H.out.keeps.size) (own_new o1 H.out.hi))
    have f2 := R1.out.top.free 2
    have c3 := R1.out.c3
    have c3' := R2.out.c3
    have c2' := R1.out.c2
    have O1 := Lib.hid o1
    clear o1 b1 c2
    generalize (wo k low).length = L1 at *
    go_wp2_with fail
    have z := W3.out _ R2.out.hi
    rw [woI_nat] at z
    refine z.mono ?_
    rintro e w3 ⟨v3, rfl, o3, b3⟩
    obtain ⟨A3, c3, rfl⟩ := own_slice o3
    have R3 := Lib.hid (R2.out.below b3)
    have f3 := R3.out.top.free 3
    have e3 := R3.out.c3
    have R4 := Lib.hid (R3.out.setHigh o3 (own_ext o3 R2.out.keeps.size) (own_new o3 R2.out.lo))
    clear z o3 b3
    go_wp2
    go_ret
    exact ⟨rfl, _, _, R4.out⟩
  · rw [if_neg hi]
    rw [Bool.not_eq_true] at hi
    rw [hi] at HAS
    have HAS := Lib.hid HAS
    have H := Lib.hid h
    clear h hi hl hh
    go_enter Try.func48, Try.ntmps48
    go_wp2_with fail
    refine HAS.out.mono ?_
    rintro e w' ⟨rfl, rfl⟩
    go_wp2
    go_ret
    exact ⟨rfl, _, _, H.out⟩

theorem RfV.mkLow {w' : World} (top : Arr w' b 108 4 (rfF n most vl vh)) (hi : RowO w' vh high) (sb : S b) (sh : ∀ j, vh.ownBlock = some j → Ext S w0 w' j) (keeps : Keeps S w0 w')
    {v : Value} {l : List Nat} (ho : RowO w' v l) (hv : ∀ j, v.ownBlock = some j → Ext S w0 w' j) (hd : ∀ j, v.ownBlock = some j → vh.ownBlock ≠ some j) :
    RfV S w0 (w'.setCell ⟨b, 2, none⟩ v) b n most v vh l high := by
  have hs : (w'.setCell ⟨b, 2, none⟩ v).heap.size = w'.heap.size := World.size_setCell _ _ _
  have kk : Keeps (fun j => j = b) w' (w'.setCell ⟨b, 2, none⟩ v) := (Keeps.refl (fun j => j = b) w').setCell (p := ⟨b, 2, none⟩) (.inl rfl) v
  exact {
    top := (top.set 2 v).congr (rfF_low v)
    lo := own_keep (own_base ho) kk (fun j e => own_ne top ho (by decide) j e)
    hi := own_keep hi kk (fun j e => own_ne top hi (by decide) j e)
    sb := sb
    sl := fun j e => by have := hv j e; unfold Ext at this ⊢; rwa [hs]
    sh := fun j e => by have := sh j e; unfold Ext at this ⊢; rwa [hs]
    apart := hd
    keeps := keeps.trans kk (fun j x => .inl (x ▸ sb)) }
theorem RfV.mkHigh {w' : World} (top : Arr w' b 108 4 (rfF n most vl vh)) (lo : RowO w' vl low) (sb : S b) (sl : ∀ j, vl.ownBlock = some j → Ext S w0 w' j) (keeps : Keeps S w0 w')
    {v : Value} {l : List Nat} (ho : RowO w' v l) (hv : ∀ j, v.ownBlock = some j → Ext S w0 w' j) (hd : ∀ j, v.ownBlock = some j → vl.ownBlock ≠ some j) :
    RfV S w0 (w'.setCell ⟨b, 3, none⟩ v) b n most vl v low l := by
  have hs : (w'.setCell ⟨b, 3, none⟩ v).heap.size = w'.heap.size := World.size_setCell _ _ _
  have kk : Keeps (fun j => j = b) w' (w'.setCell ⟨b, 3, none⟩ v) := (Keeps.refl (fun j => j = b) w').setCell (p := ⟨b, 3, none⟩) (.inl rfl) v
  exact {
    top := (top.set 3 v).congr (rfF_high v)
    lo := own_keep lo kk (fun j e => own_ne top lo (by decide) j e)
    hi := own_keep (own_base ho) kk (fun j e => own_ne top ho (by decide) j e)
    sb := sb
    sl := fun j e => by have := sl j e; unfold Ext at this ⊢; rwa [hs]
    sh := fun j e => by have := hv j e; unfold Ext at this ⊢; rwa [hs]
    apart := fun j e e' => hd j e' e
    keeps := keeps.trans kk (fun j x => .inl (x ▸ sb)) }

theorem ext_grow {S : Nat → Prop} {a b c : World} (h : b.heap.size ≤ c.heap.size) {j : Nat} (x : Ext S a b j) : Ext S a c j := x.elim .inl (fun y => .inr ⟨y.1, Nat.lt_of_lt_of_le y.2 h⟩)

theorem RfV.growLow (h : RfV S w0 w b n most vl vh low high) {w' : World} {v' : Value} {l' : List Nat} (ho : RowO w' v' l') (hg : w.grownBy w' vl.ownBlock) (hat : v'.ownBlock = vl.ownBlock ∨ v'.ownBlock = some w.heap.size) :
    RfV S w0 (w'.setCell ⟨b, 2, none⟩ v') b n most v' vh l' high := by
  have kk : Keeps (fun j => vl.ownBlock = some j) w w' := (Keeps.refl (fun j => vl.ownBlock = some j) w).grown hg (fun r e => .inl e)
  refine RfV.mkLow (vl := vl) (h.top.keep kk (fun x => own_ne h.top h.lo (by decide) b x rfl)) (own_keep h.hi kk (fun j e x => h.apart j x e)) h.sb (fun j e => ext_grow hg.size (h.sh j e)) (h.keeps.trans kk (fun j x => (h.sl j x).imp id (fun y => y.1))) ho (fun j e => ?_) (fun j e e' => ?_)
  · rcases hat with x | x
    · exact ext_grow hg.size (h.sl j (x ▸ e))
    · have : w.heap.size = j := by rw [x] at e; simpa using e
      exact .inr ⟨this ▸ h.keeps.size, own_lt ho j e⟩
  · rcases hat with x | x
    · exact h.apart j (x ▸ e) e'
    · have : w.heap.size = j := by rw [x] at e; simpa using e
      have := own_lt h.hi j e'
      omega
theorem RfV.growHigh (h : RfV S w0 w b n most vl vh low high) {w' : World} {v' : Value} {l' : List Nat} (ho : RowO w' v' l') (hg : w.grownBy w' vh.ownBlock) (hat : v'.ownBlock = vh.ownBlock ∨ v'.ownBlock = some w.heap.size) :
    RfV S w0 (w'.setCell ⟨b, 3, none⟩ v') b n most vl v' low l' := by
  have kk : Keeps (fun j => vh.ownBlock = some j) w w' := (Keeps.refl (fun j => vh.ownBlock = some j) w).grown hg (fun r e => .inl e)
  refine RfV.mkHigh (vh := vh) (h.top.keep kk (fun x => own_ne h.top h.hi (by decide) b x rfl)) (own_keep h.lo kk (fun j e x => h.apart j e x)) h.sb (fun j e => ext_grow hg.size (h.sl j e)) (h.keeps.trans kk (fun j x => (h.sh j x).imp id (fun y => y.1))) ho (fun j e => ?_) (fun j e e' => ?_)
  · rcases hat with x | x
    · exact ext_grow hg.size (h.sh j (x ▸ e))
    · have : w.heap.size = j := by rw [x] at e; simpa using e
      exact .inr ⟨this ▸ h.keeps.size, own_lt ho j e⟩
  · rcases hat with x | x
    · exact h.apart j e' (x ▸ e)
    · have : w.heap.size = j := by rw [x] at e; simpa using e
      have := own_lt h.lo j e'
      omega

theorem rowO_snoc {w : World} {v : Value} {l : List Nat} {k : Nat} (h : w.ownsRow 0 3 1 v (l.length + 1) (l.map intV ++ [.int .i64 (k : Int)])) : RowO w v (l ++ [k]) := by
  have e : (l ++ [k]).map intV = l.map intV ++ [.int .i64 (k : Int)] := by simp [intV]
  show w.ownsRow 0 3 1 v (l ++ [k]).length ((l ++ [k]).map intV)
  rw [e, List.length_append]
  exact h

theorem inI_not {k : Nat} {low high : List Nat} (h : ¬ (inI (k : Int) low || inI (k : Int) high) = true) : k ∉ low ∧ k ∉ high := by
  simp only [inI_nat, Bool.or_eq_true, decide_eq_true_eq, not_or] at h
  exact h
theorem lvS_rows (k : Nat) (low high : List Nat) : (lvS (k : Int) low high).2.1 = wo k low ∧ (lvS (k : Int) low high).2.2 = wo k high := by
  unfold lvS
  by_cases hi : (inI (k : Int) low || inI (k : Int) high) = true
  · rw [if_pos hi]; exact ⟨rfl, rfl⟩
  · rw [if_neg hi]
    obtain ⟨h1, h2⟩ := inI_not hi
    exact ⟨(wo_not h1).symm, (wo_not h2).symm⟩

set_option maxHeartbeats 2000000 in
theorem rf_enter (h : RfV S w0 w b n most vl vh low high) (m : Int) (hl : low.length ≤ 1024) (hh : high.length ≤ 1024) :
    Calls Try.prog 46 #[.pointer (some ⟨b, 0, none⟩), .int .i64 m] w fun e w' => e = .returned (.bool (enS n m low high).1) ∧ ∃ vl' vh', RfV S w0 w' b n most vl' vh' (enS n m low high).2.1 (enS n m low high).2.2 := by
  unfold enS
  have c0 := h.c0
  by_cases hm : 0 ≤ m ∧ m < n
  · rw [if_pos hm]
    obtain ⟨k, rfl⟩ : ∃ k : Nat, m = (k : Int) := ⟨m.toNat, by omega⟩
    rw [Int.toNat_natCast]
    have LV := rf_leave h (k : Int) hl hh
    rw [(lvS_rows k low high).1, (lvS_rows k low high).2] at LV
    generalize (lvS (k : Int) low high).1 = ans at LV
    have LV := Lib.hid LV
    have WL := Lib.hid (Nat.le_trans (wo_le k low) hl)
    obtain ⟨i0, hi, hz0, hz1, hz2⟩ := info_parts infoInt
    generalize wo k low = lo at *
    generalize wo k high = hg at *
    have d0 : decide ((k : Int) < 0) = false := decide_eq_false (by omega)
    have d1 : decide ((n : Int) ≤ (k : Int)) = false := decide_eq_false (by omega)
    have d2 : decide (n ≤ k) = false := decide_eq_false (by omega)
    clear h hm hl hh
    go_enter Try.func46, Try.ntmps46
    go_wp2_with fail
    refine LV.out.mono ?_
    rintro e w1 ⟨rfl, vl1, vh1, r1⟩
    obtain ⟨A1, c1, rfl⟩ := own_slice r1.lo
    have c2 := r1.c2
    have R1 := Lib.hid r1
    have R2 := Lib.hid (r1.below ((Below.refl _ w1).alloc (Nat.le_refl _) (.cells #[.int .i64 (k : Int)] 3)))
    have sz := Lib.hid (World.size_alloc w1 (.cells #[.int .i64 (k : Int)] 3))
    clear r1 c0
    go_wp2_with (first
      | (at_builtin; refine wpList_append_own_at _ rfl _ _ 79 rfl 0 3 i0 (.int .i64 0) 1 8 Try.underlying79 hi hz0 hz1 hz2 rfl (by decide) _ _ _ rfl R2.out.lo ⟨w1.heap.size, 0, none⟩ 1 1 [.int .i64 (k : Int)] rfl rfl ?c1 ?c2 ?c3 ?c4 ?c5 ?_)
      | go_in)
    case c1 =>
      intro j u hj
      match j, hj with
      | 0, hj => simp at hj; subst hj; simp [Addr.add]
    case c2 => intro u hu; simp at hu; subst hu; rfl
    case c3 => have := WL.out; unfold maxLen; omega
    case c4 => have := WL.out; omega
    case c5 => exact Nat.zero_le _
    rintro v' w2 hown' hgr - hat
    obtain ⟨A2, c3, rfl⟩ := own_slice hown'
    have R3 := Lib.hid (R2.out.growLow (rowO_snoc hown') hgr (by rw [sz.out]; exact hat))
    have kk : Keeps (fun j => (Value.slice A1 lo.length c1).ownBlock = some j) _ w2 := (Keeps.refl (fun j => (Value.slice A1 lo.length c1).ownBlock = some j) _).grown hgr (fun r e => .inl e)
    have t2 := R2.out.top.keep kk (fun x => own_ne R2.out.top R2.out.lo (by decide) b x rfl)
    have e2 := t2.cell (i := 2) (by omega)
    have f2 := t2.free 2
    simp only [rfF] at e2
    clear hown' hgr hat kk t2 c2
    go_wp2
    go_ret
    exact ⟨rfl, _, _, R3.out⟩
  · rw [if_neg hm]
    have H := Lib.hid h
    clear h hl hh
    by_cases h0 : m < 0
    · go_enter Try.func46, Try.ntmps46
      go_wp2
      go_ret
      exact ⟨rfl, _, _, H.out⟩
    · have d0 : decide (m < 0) = false := decide_eq_false h0
      have h1 : (n : Int) ≤ m := by omega
      have d1 : decide ((n : Int) ≤ m) = true := decide_eq_true h1
      clear hm
      go_enter Try.func46, Try.ntmps46
      go_wp2
      go_ret
      exact ⟨rfl, _, _, H.out⟩
end

end Go.Proofs.Ytbhcpedokgdipaa
