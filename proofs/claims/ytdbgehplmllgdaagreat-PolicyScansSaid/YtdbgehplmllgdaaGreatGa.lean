/- The program's history: All, Clear; of none. -/
import Derived.Test.YtdbgehplmllgdaaGreatGo
import Derived.Deep.AppendLies
namespace Go.Proofs.YtdbgehplmllgdaaGreat
open Go.RowKit Go.Maps Go.WideMaps Go.WideElems
set_option linter.unusedVariables false

theorem infoU64 : (Tryz.prog.info? 22).map (fun i => (i.zero, i.size, i.bytes)) = some (some (.int .u64 0), 1, 8) := by kernel_rfl

theorem row_keepG {w w' : World} {T : Nat → Prop} {base sz n : Nat} {t : TypeId} {v : Value} {xs : List Value} (h : w.ownsRow base t sz v n xs) (k : Keeps T w w') (hT : ∀ g, v.ownBlock = some g → ¬ T g) : w'.ownsRow base t sz v n xs := by
  refine ⟨h.1, ?_⟩
  rcases h.2 with x | ⟨g, cap, cur, hv, hb, hc, r⟩
  · exact .inl x
  · exact .inr ⟨g, cap, cur, hv, hb, k.blk hc (hT g (by rw [hv]; rfl)), r⟩

/-- The keys that count among the first k puts. -/
def keysT (P : List (Int × Nat)) (M : Int → Option Nat) (k : Nat) : List Int := keysOf (P.take k) M
theorem keysT_next {P : List (Int × Nat)} {M : Int → Option Nat} {k : Nat} {p : Int × Nat} (hp : P[k]? = some p) : keysT P M (k + 1) = keysT P M k ++ (if live M p then [p.1] else []) := by
  unfold keysT keysOf
  rw [take_next hp, List.filter_append, List.map_append]
  cases h : live M p
  · rw [List.filter_cons_of_neg (by rw [h]; decide)]; rfl
  · rw [List.filter_cons_of_pos h]; rfl

section
variable {w w' : World} {b m n now most N : Nat} {M : Int → Option Nat} {P : List (Int × Nat)} {v : Value} {G : List Int} {S : Nat → Prop}

def RowK (w : World) (base : Nat) (v : Value) (l : List Int) : Prop := w.ownsRow base 22 1 v l.length (l.map (Value.int .u64))

set_option maxRecDepth 100000 in
set_option maxHeartbeats 2000000 in
theorem gh_all (h : GhO b most G N S w) :
    Calls Tryz.prog 66 #[.pointer (some ⟨b, 0, none⟩)] w fun e w' => ∃ v, e = .returned v ∧ RowK w' w.heap.size v G ∧ Below w.heap.size w w' := by
  obtain ⟨m, v, P, M, now, h, rfl, hNN, hl, -⟩ := h
  have RR := Lib.hid (gh_real h)
  have c1 := h.c1
  obtain ⟨A, c, rfl, h1, h2, hc⟩ := h.que.open_
  obtain ⟨i0, hif, hz0, hz1, hz2⟩ := info_parts infoU64
  have OK := Lib.hid (PutsOk.of h.inv h.big)
  have HH := Lib.hid (fun (W : World) (k : Below w.heap.size w W) => h.below k)
  have HC := Lib.hid hc
  have HPL := Lib.hid (show P.length ≤ 1000000 by have := h.len; have := h.big; omega)
  have O0 := Lib.hid (show RowK w w.heap.size (.slice none 0 0) (keysT P M 0) from World.ownsRow_nil w w.heap.size 22 1)
  obtain ⟨L, hL⟩ : ∃ L, P.length = L := ⟨_, rfl⟩
  rw [hL] at c1
  have HL := Lib.hid hL
  have l1 : (L : Int) ≤ 1000000 := by have := HPL.out; omega
  clear h hc h1 h2 hl hNN hL
  go_enter Tryz.func66, Tryz.ntmps66
  go_wp2_with fail
  refine RR.out.mono ?_
  rintro e w' ⟨rfl, rfl⟩
  go_wp2_with fail
  go_loopw [3, 14] (fun u i wr => ∃ k : Nat, k ≤ L ∧ i = .int .i64 (k : Int) ∧ RowK wr w.heap.size u (keysT P M k) ∧ Below w.heap.size w wr) (fun _ i _ => L - (intOf i).toNat)
  case atStart => exact ⟨0, Nat.zero_le _, rfl, O0.out, Below.refl _ _⟩
  case round =>
    obtain ⟨k, hk, rfl, ho, bw⟩ := hrel
    obtain ⟨Ao, co, rfl⟩ := rowS ho
    have HB := Lib.hid bw
    have HO := Lib.hid ho
    by_cases hk1 : (k : Int) < (L : Int)
    · have hk2 : k < P.length := by have := HL.out; omega
      obtain ⟨g, o, rfl, hcc⟩ := HC.out (by omega)
      have hp := List.getElem?_eq_getElem hk2
      obtain ⟨q1, q2⟩ := hcc wr bw k _ hp
      have okp := OK.out _ (List.getElem_mem hk2)
      have KN := keysT_next (M := M) hp
      have BA := (Below.refl wr.heap.size wr).alloc (Nat.le_refl _) (.cells #[.int .u64 (P[k]).1, .int .i64 ((P[k]).2 : Int)] 154)
      have CN := gh_counts ((HH.out wr bw).below BA) P[k] okp.1 okp.2.1 okp.2.2.1 okp.2.2.2
      have BX := Lib.hid (blk_cell' (heap_at wr (.cells #[.int .u64 (P[k]).1, .int .i64 ((P[k]).2 : Int)] 154) wr.heap.size rfl) 0)
      have HBA := Lib.hid BA
      have HK := Lib.hid (show k + 1 ≤ L by omega)
      generalize P[k] = p at *
      generalize hp1 : p.1 = key at *
      generalize hp2 : p.2 = wh at *
      have HPP := Lib.hid (And.intro hp1 hp2)
      have KL := Lib.hid (show (keysT P M k).length ≤ 1000000 by
        have := HPL.out
        unfold keysT keysOf
        rw [List.length_map]
        exact Nat.le_trans (List.length_filter_le _ _) (by rw [List.length_take]; omega))
      clear hk2 hp hcc okp ho bw hk BA hp1 hp2
      cases hlv : live M p
      · rw [hlv] at CN KN
        have HKN := Lib.hid (show keysT P M (k + 1) = keysT P M k by rw [KN]; simp)
        replace CN := Lib.hid CN
        clear hlv KN
        go_wp2_with fail
        refine CN.out.mono ?_
        rintro e w2 ⟨rfl, b2⟩
        have B2 := HBA.out.trans (b2.mono HBA.out.size)
        have O2 := Lib.hid (show RowK w2 w.heap.size (.slice Ao (keysT P M k).length co) (keysT P M (k + 1)) by
          rw [HKN.out]
          exact row_keepG HO.out (Keeps.of_below B2) (fun g e => by have := (HO.out.lt g e).2; omega))
        have HB2 := Lib.hid (HB.out.trans (B2.mono HB.out.size))
        clear b2 B2 CN
        go_wp2
        go_roundw
        case rel => exact ⟨k + 1, HK.out, by simp, O2.out, HB2.out⟩
        case measure => have := HK.out; simp only [intOf]; omega
      · rw [hlv] at CN KN
        have HKN := Lib.hid (show keysT P M (k + 1) = keysT P M k ++ [key] by rw [KN]; simp)
        replace CN := Lib.hid CN
        clear hlv KN
        go_wp2_with fail
        refine CN.out.mono ?_
        rintro e w2 ⟨rfl, b2⟩
        have B2 := HBA.out.trans (b2.mono HBA.out.size)
        have t0 := (Keeps.of_below b2).old BX.out
        have OW := Lib.hid ((row_keepG HO.out (Keeps.of_below B2) (fun g e => by have := (HO.out.lt g e).2; omega)).alloc (.cells #[.int .u64 key] 22))
        have HB2 := HB.out.trans (B2.mono HB.out.size)
        have BAA := Lib.hid (HB2.alloc HB2.size (.cells #[.int .u64 key] 22))
        have KLO := Lib.hid (show ∀ g, (Value.slice Ao (keysT P M k).length co).ownBlock = some g → w.heap.size ≤ g from fun g e => (HO.out.lt g e).1)
        generalize hkl : (keysT P M k).length = kl at *
        have HKL := Lib.hid hkl
        clear b2 B2 CN HB2 hkl
        go_wp2_with (at_builtin; refine wpList_append_own_at _ rfl _ _ 50 rfl w.heap.size 22 i0 (.int .u64 0) 1 8 Tryz.underlying50 hif hz0 hz1 hz2 rfl (by decide) _ _ _ rfl OW.out ⟨w2.heap.size, 0, none⟩ 1 1 [.int .u64 key] rfl (by rfl) (World.news_of_block (heap_alloc_new _ _)) ?c2 ?c3 ?c4 ?c5 ?_)
        case c2 => intro u hu; simp at hu; subst hu; rfl
        case c3 => have := KL.out; unfold maxLen; omega
        case c4 => have := KL.out; omega
        case c5 => exact BAA.out.size
        rintro v' w3 hown' hgr - hat
        have O3 := Lib.hid (show RowK w3 w.heap.size v' (keysT P M (k + 1)) by
          unfold RowK
          rw [HKN.out, List.map_append, List.length_append, HKL.out]
          exact hown')
        have B3 := Lib.hid (BAA.out.grown hgr BAA.out.size (fun g e => KLO.out g e))
        clear hown' hgr hat
        go_wp2
        go_roundw
        case rel => exact ⟨k + 1, HK.out, by simp, O3.out, B3.out⟩
        case measure => have := HK.out; simp only [intOf]; omega
    · have e1 : decide (k < L) = false := decide_eq_false (by omega)
      have HE := Lib.hid (show keysT P M k = keysOf P M by
        have := HL.out
        unfold keysT
        rw [show k = P.length by omega, List.take_length])
      rw [HE.out] at HO ⊢
      clear ho bw hk hk1
      go_wp2
      go_ret
      exact ⟨_, rfl, HO.out, HB.out⟩

theorem gh_clear (h : GhO b most G N S w) :
    Calls Tryz.prog 52 #[.pointer (some ⟨b, 0, none⟩)] w fun e w' => e = .returned (.tuple #[]) ∧ GhO b most [] N (Ext S w w') w' ∧ Keeps S w w' := by
  obtain ⟨m, v, P, M, now, h, rfl, hNN, hl, sb, sm, sv⟩ := h
  have RR := Lib.hid (gh_real h)
  have c0 := h.c0
  obtain ⟨w2, hcl⟩ : ∃ w2, ∀ ty, (Builtin.clear_ #[143] ty #[.map (some m)]).run Tryz.prog w = .ok (.tuple #[]) w2 ∧ UMap w2 m 0 (fun _ => none) ∧ w.mapTurned w2 m := by
    obtain ⟨w2, e1, e2, e3⟩ := h.map.clear Tryz.underlying143 0
    refine ⟨w2, fun ty => ⟨?_, e2, e3⟩⟩
    exact e1
  have kt := keeps_turned (hcl 0).2.2
  have hm2 := (hcl 0).2.1
  have cl := fun ty => (hcl ty).1
  have top2 := h.top.keep kt h.bm
  have d1 : w2.cell? ⟨b, 1, none⟩ = some v := top2.cell (i := 1) (by omega)
  have f1 := top2.free 1
  have FIN := Lib.hid (show GhO b most [] N (Ext S w (w2.setCell ⟨b, 1, none⟩ (.slice none 0 0))) (w2.setCell ⟨b, 1, none⟩ (.slice none 0 0)) ∧ Keeps S w (w2.setCell ⟨b, 1, none⟩ (.slice none 0 0)) from by
    refine ⟨⟨m, .slice none 0 0, [], fun _ => none, now, ⟨(top2.set 1 _).congr (ghF_set m v _ now most), ?_, .inl ⟨rfl, rfl⟩, ⟨List.Pairwise.nil, fun p hp => by simp at hp, fun k w hk => (by cases hk), fun p hp => by simp at hp⟩, Nat.zero_le _, h.big, h.mst⟩, rfl, hNN, Nat.zero_le _, .inl sb, .inl sm, fun g e => by simp [Value.ownBlock] at e⟩, (kt.mono (T := S) (fun n _ e => by rw [e]; exact sm)).setCell (p := ⟨b, 1, none⟩) (.inl sb) _⟩
    exact (hm2.keep (keep_cellG w2 b 1 _) (fun e => h.bm e.symm)).congr (fun x _ => rfl))
  clear h hcl kt hm2 top2 sb sm sv hNN hl
  go_enter Tryz.func52, Tryz.ntmps52
  go_wp2_with fail
  refine RR.out.mono ?_
  rintro e w' ⟨rfl, rfl⟩
  go_wp2
  go_end0
  exact ⟨rfl, FIN.out.1, FIN.out.2⟩
end

end Go.Proofs.YtdbgehplmllgdaaGreat
