/- Sums, products and quotients of doubles, where a NaN's bits are anybody's: what they are but for those. -/
import Derived.Test.YtbhcpedokgdipaaFlW
import Derived.Laws.FloatArith
namespace Go.Proofs.Ytbhcpedokgdipaa
open Go.RowKit Fl
set_option linter.unusedVariables false
open Ieee

/-- A word, but none for all NaNs. -/
def cn (x : Nat) : Option Nat := if isN x then none else some x

theorem sameB_cn {a b : Nat} (ha : a < 18446744073709551616) (hb : b < 18446744073709551616) : sameB a b = decide (cn a = cn b) := by
  unfold cn
  cases na : isN a <;> cases nb : isN b <;> simp
  · rw [sameB_num ha hb na nb]
  · have h1 := rank_lt ha na; have h2 := rank_nan nb; unfold sameB; simp; omega
  · have h1 := rank_lt hb nb; have h2 := rank_nan na; unfold sameB; simp; omega
  · have h1 := rank_nan nb; have h2 := rank_nan na; unfold sameB; simp; omega

theorem word_num (s : Bool) {r : Nat} (h : r ≤ 9218868437227405312) : isN (double.word s r) = false ∧ double.word s r < 18446744073709551616 := by
  unfold isN Format.word
  rw [dbl_sw]
  cases s <;> simp <;> omega

theorem write_num {d : Datum} (h : d.isNaN = false) : isN (double.write d) = false ∧ double.write d < 18446744073709551616 := by
  cases d with
  | number s m e =>
    simp only [Format.write, Format.nearest]
    split
    · exact word_num _ (by omega)
    · rw [dbl_inf]; exact word_num _ (by omega)
  | infinity s => simp only [Format.write]; rw [dbl_inf]; exact word_num _ (by omega)
  | nan s t => simp [Datum.isNaN] at h

theorem sum_num {a b d : Datum} (h : a.sum b = some d) : d.isNaN = false := by
  cases a <;> cases b <;> simp only [Datum.sum] at h <;> (try split at h) <;> first | (cases h; rfl) | cases h
theorem product_num {a b d : Datum} (h : a.product b = some d) : d.isNaN = false := by
  cases a <;> cases b <;> simp only [Datum.product] at h <;> (try split at h) <;> first | (cases h; rfl) | cases h
theorem quotient_num {n : Nat} {a b d : Datum} (h : a.quotient n b = some d) : d.isNaN = false := by
  cases a <;> cases b <;> simp only [Datum.quotient] at h <;> (try split at h) <;> (try split at h) <;> first | (cases h; rfl) | cases h

theorem bits_num {op : BinOp} {x y r : Nat} (h : floatBits op .f64 x y = some r) : isN r = false ∧ r < 18446744073709551616 := by
  unfold floatBits at h
  split at h
  · change double.add x y = some r at h
    unfold Format.add at h
    obtain ⟨d, hd, rfl⟩ := Option.map_eq_some_iff.1 h
    exact write_num (sum_num hd)
  · change double.sub x y = some r at h
    unfold Format.sub at h
    obtain ⟨d, hd, rfl⟩ := Option.map_eq_some_iff.1 h
    exact write_num (sum_num hd)
  · change double.mul x y = some r at h
    unfold Format.mul at h
    obtain ⟨d, hd, rfl⟩ := Option.map_eq_some_iff.1 h
    exact write_num (product_num hd)
  · change double.div x y = some r at h
    unfold Format.div at h
    obtain ⟨d, hd, rfl⟩ := Option.map_eq_some_iff.1 h
    exact write_num (quotient_num hd)
  · cases h

theorem bits_nan {op : BinOp} {x y : Nat} (h : isN x = true ∨ isN y = true) : floatBits op .f64 x y = none := by
  unfold floatBits
  rcases h with h | h <;> obtain ⟨s, t, h⟩ := read_nan h
  · split
    · change double.add x y = none; unfold Format.add; rw [h]; rfl
    · change double.sub x y = none; unfold Format.sub; rw [h]; rfl
    · change double.mul x y = none; unfold Format.mul; rw [h]; rfl
    · change double.div x y = none; unfold Format.div; rw [h]; rfl
    · rfl
  · split
    · change double.add x y = none; unfold Format.add; rw [h]; cases double.read x <;> rfl
    · change double.sub x y = none; unfold Format.sub; rw [h]; cases double.read x <;> rfl
    · change double.mul x y = none; unfold Format.mul; rw [h]; cases double.read x <;> rfl
    · change double.div x y = none; unfold Format.div; rw [h]; cases double.read x <;> rfl
    · rfl

def opC (op : BinOp) (a b : Option Nat) : Option Nat := a.bind fun x => b.bind fun y => floatBits op .f64 x y

theorem opC_cn (op : BinOp) (x y : Nat) : opC op (cn x) (cn y) = floatBits op .f64 x y := by
  unfold opC cn
  cases nx : isN x <;> cases ny : isN y <;> simp
  · exact (bits_nan (.inr ny)).symm
  · exact (bits_nan (.inl nx)).symm
  · exact (bits_nan (.inl nx)).symm

/-- Whatever the operands: some word that is the result's, but for the bits of a NaN. -/
theorem run_arith {P : Program} (op : BinOp) (hop : op = .add ∨ op = .sub ∨ op = .mul ∨ op = .quo) (x y : Nat) (w : World) :
    ∃ r m, (∀ T, (binOp op T (.float .f64 x) (.float .f64 y)).run P w = .ok (.float .f64 r) (w.drewN m)) ∧ r < 18446744073709551616 ∧ cn r = opC op (cn x) (cn y) := by
  rw [opC_cn]
  cases h : floatBits op .f64 x y with
  | some r =>
    obtain ⟨h1, h2⟩ := bits_num h
    exact ⟨r, 0, fun T => run_float_arith w op T .f64 x y r h, h2, by unfold cn; rw [h1]; rfl⟩
  | none =>
    have hr : ∀ T, (binOp op T (.float .f64 x) (.float .f64 y)).run P w = .ok (.float .f64 ((Question.nanBits .f64 x y).cut (w.tape w.drawn (.nanBits .f64 x y)))) (w.drewN 1) := by
      intro T
      unfold floatBits at h
      rcases hop with rfl | rfl | rfl | rfl <;> simp only at h <;> simp [binOp, Op.floatArith, h, choose, Sem.run, Question.forced] <;> rfl
    have hc : isN ((Question.nanBits .f64 x y).cut (w.tape w.drawn (.nanBits .f64 x y))) = true ∧ (Question.nanBits .f64 x y).cut (w.tape w.drawn (.nanBits .f64 x y)) < 18446744073709551616 := by
      simp only [Question.cut]
      generalize w.tape w.drawn (.nanBits .f64 x y) = t
      unfold isN
      simp only [decide_eq_true_eq]
      have h2 : t % 2 = 0 ∨ t % 2 = 1 := by omega
      rcases h2 with h2 | h2 <;> rw [h2] <;> omega
    exact ⟨_, 1, hr, hc.2, by unfold cn; rw [hc.1]; rfl⟩

end Go.Proofs.Ytbhcpedokgdipaa
