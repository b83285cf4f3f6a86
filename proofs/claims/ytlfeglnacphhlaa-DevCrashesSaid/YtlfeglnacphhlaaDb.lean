/- Rows of octets: a slice that reads as a string of octets; slices.Clone on it; its string. -/
import Derived.Test.YtlfeglnacphhlaaMp
import Derived.Lib.SlBytesRow
namespace Go.Proofs.Ytlfeglnacphhlaa
open Go.RowKit
set_option linter.unusedVariables false

theorem infoU8 : (Try.prog.info? 5).map (fun i => (i.zero, i.size, i.bytes)) = some (some (.int .u8 0), 1, 1) := by kernel_rfl

/-- The octets of s as cells. -/
def octV (s : ByteArray) : List Value := s.data.toList.map fun b => .int .u8 (b.toNat : Int)
theorem octV_len (s : ByteArray) : (octV s).length = s.size := by simp [octV]
theorem octV_at (s : ByteArray) (i : Nat) (h : i < s.size) : (octV s)[i]? = some (.int .u8 (s[i].toNat : Int)) := by
  have : i < s.data.toList.length := by simpa using h
  rw [octV, List.getElem?_map, List.getElem?_eq_getElem this]
  rfl

theorem addr_add (g o j : Nat) : (⟨g, o, none⟩ : Addr).add j = ⟨g, o + j, none⟩ := by unfold Addr.add; split <;> simp_all

/-- The slice v reads as the octets of s. -/
def RdB (w : World) (v : Value) (s : ByteArray) : Prop :=
  (v = .slice none 0 0 ∧ s.size = 0) ∨ ∃ g o c, v = .slice (some ⟨g, o, none⟩) s.size c ∧ Lib.Bytes w g o s

theorem RdB.drewN {w : World} {v : Value} {s : ByteArray} (h : RdB w v s) (n : Nat) : RdB (w.drewN n) v s := by
  rcases h with h | ⟨g, o, c, h1, h2⟩
  · exact .inl h
  · exact .inr ⟨g, o, c, h1, h2.drewN n⟩

theorem RdB.keep {S : Nat → Prop} {w w' : World} {v : Value} {s : ByteArray} (h : RdB w v s) (k : Keeps S w w') (hS : ∀ g, v.ownBlock = some g → ¬ S g) : RdB w' v s := by
  rcases h with h | ⟨g, o, c, h1, h2⟩
  · exact .inl h
  · subst h1
    exact .inr ⟨g, o, c, rfl, fun i hi => k.cell (h2 i hi) (hS g rfl)⟩

theorem RdB.below {B : Nat} {w w' : World} {v : Value} {s : ByteArray} (h : RdB w v s) (k : Below B w w') (hS : ∀ g, v.ownBlock = some g → g < B) : RdB w' v s :=
  h.keep (Keeps.of_below k) (fun g e => by have := hS g e; omega)

/-- What stood when a call began reads as it did. -/
theorem RdB.old {w w' : World} {v : Value} {s : ByteArray} (h : RdB w v s) (k : Below w.heap.size w w') : RdB w' v s := by
  rcases h with h | ⟨g, o, c, h1, h2⟩
  · exact .inl h
  · exact .inr ⟨g, o, c, h1, fun i hi => (Keeps.of_below k).old (h2 i hi)⟩

theorem RdB.of_row {w : World} {base : Nat} {v : Value} {s : ByteArray} (h : w.ownsRow base 5 1 v s.size (octV s)) : RdB w v s := by
  rcases h.2 with h0 | ⟨g, cap, cur, hv, _⟩
  · exact .inl h0
  · refine .inr ⟨g, 0, cap, hv, fun i hi => ?_⟩
    have := h.cells (g := g) (by rw [hv]; rfl) i _ (octV_at s i hi)
    rw [addr_add] at this; simpa using this

/-- 'string(b)'. -/
theorem RdB.str {w : World} {v : Value} {s : ByteArray} (h : RdB w v s) : (convert 44 9 v).run Try.prog w = .ok (.string s) w := by
  rcases h with ⟨rfl, hs⟩ | ⟨g, o, c, rfl, h2⟩
  · have e : s = ByteArray.empty := by
      apply ByteArray.ext; apply Array.eq_empty_of_size_eq_zero; exact hs
    subst e
    rw [run_convert_bytes_string w 44 9 5 none 0 0 Try.underlying44 Try.underlying5 Try.underlying9]
    rfl
  · exact Lib.run_convert_whole w 44 5 9 Try.underlying44 Try.underlying5 Try.underlying9 g o s h2 c

theorem eql_nil8 (W : World) (a : Option Addr) (n c : Nat) : (binOp .eql 44 (.slice a n c) (.slice none 0 0)).run Try.prog W = .ok (.bool a.isNone) W :=
  Lib.run_eql_slice_nil W 44 5 a n c 0 0 Try.underlying44

/-- A copy of a slice of octets. -/
theorem clone_any {w : World} {v : Value} {s : ByteArray} (h : RdB w v s) (hs : s.size ≤ 1000000) :
    Calls Try.prog 36 #[v] w fun e w' => ∃ u, e = .returned u ∧ w'.ownsRow w.heap.size 5 1 u s.size (octV s) ∧ Below w.heap.size w w' := by
  rcases h with ⟨rfl, h0⟩ | ⟨g, o, c, rfl, h2⟩
  · have HO := Lib.hid (show w.ownsRow w.heap.size 5 1 (.slice none 0 0) s.size (octV s) from ⟨by rw [octV_len]; omega, .inl ⟨rfl, h0⟩⟩)
    have EN := fun (W : World) => eql_nil8 W none 0 0
    clear h0 hs
    go_enter Try.func36, Try.ntmps36
    go_wp2
    go_ret
    exact ⟨_, rfl, HO.out, Below.refl _ _⟩
  · obtain ⟨i0, hi, hz0, hz1, hz2⟩ := info_parts infoU8
    have H2 := Lib.hid h2
    have HS := Lib.hid hs
    have HL := Lib.hid (octV_len s)
    have HC := Lib.hid (fun (W : World) (k : Below w.heap.size w W) j u (hu : (octV s)[j]? = some u) => show W.cell? ((⟨g, o, none⟩ : Addr).add j) = some u from by
      have hj : j < s.size := by
        have := (List.getElem?_eq_some_iff.1 hu).1
        rw [octV_len] at this; exact this
      rw [octV_at s j hj] at hu
      simp at hu; subst hu
      have := (Keeps.of_below k).old (h2 j hj)
      rw [addr_add]; exact this)
    have H1 := Lib.hid (fun u (hu : u ∈ octV s) => show u.oneCell' = true from by
      obtain ⟨b, _, rfl⟩ := List.mem_map.1 hu; rfl)
    have B0 := Lib.hid ((Below.refl w.heap.size w).alloc (Nat.le_refl _) (.cells #[] 5))
    have OE := Lib.hid (World.ownsRow_made (base := w.heap.size) (size := 1) (e := 5) w #[] 0 (Nat.le_refl _) (Nat.zero_le _) rfl)
    have Z := Lib.hid (World.size_alloc w (.cells #[] 5))
    generalize s.size = N at *
    have EN := fun (W : World) => eql_nil8 W (some ⟨g, o, none⟩) N c
    clear h2 hs
    go_enter Try.func36, Try.ntmps36
    go_wp2_with (first
      | (at_builtin; refine wpList_append_own_at _ rfl _ _ 44 rfl w.heap.size 5 i0 (.int .u8 0) 1 1 Try.underlying44 hi hz0 hz1 hz2 rfl (by decide) _ _ _ rfl OE.out ⟨g, o, none⟩ N c (octV s) rfl ?c1 ?c2 ?c3 ?c4 ?c5 ?c6 ?_)
      | go_in)
    case c1 => have := HL.out; omega
    case c2 => exact HC.out _ B0.out
    case c3 => exact H1.out
    case c4 => have := HS.out; unfold maxLen; omega
    case c5 => have := HS.out; omega
    case c6 => have := Z.out; omega
    rintro v' w2 hown' hgr - hat
    have O := Lib.hid (show w2.ownsRow w.heap.size 5 1 v' N (octV s) by simpa using hown')
    have B2 := Lib.hid (B0.out.grown hgr (by have := Z.out; omega) (fun k e => by simp [Value.ownBlock] at e; omega))
    clear hown' hgr hat
    go_wp2
    go_ret
    exact ⟨_, rfl, O.out, B2.out⟩

end Go.Proofs.Ytlfeglnacphhlaa
