/- The document's answer for layer 18: what it was told; Take, Rank. -/
import Derived.Test.YtpkaddpennafcaaRanksR
namespace Go.Proofs.Ytpkaddpennafcaa
set_option linter.unusedVariables false
set_option linter.unusedSimpArgs false
open Go.ChangeShapes Go.WideShapes Go.ChangeAt Go.RowKit

def racells : List RankA → List Value
  | [] => []
  | r :: rest => .int .u64 r.gen :: .int .i64 r.rank :: racells rest
theorem racells_length : ∀ l : List RankA, (racells l).length = l.length * 2
  | [] => rfl
  | r :: rest => by rw [racells, List.length_cons, List.length_cons, racells_length rest, List.length_cons]; omega
theorem racells_get : ∀ (l : List RankA) (i : Nat) (hi : i < l.length), (racells l)[i * 2]? = some (.int .u64 l[i].gen) ∧ (racells l)[i * 2 + 1]? = some (.int .i64 l[i].rank)
  | r :: rest, 0, _ => by simp [racells]
  | r :: rest, i + 1, hi => by
    have := racells_get rest i (by simpa using hi)
    simp only [List.getElem_cons_succ]
    rw [show (i + 1) * 2 = i * 2 + 1 + 1 by omega, racells]
    simpa using this
theorem racells_one (l : List RankA) : ∀ u ∈ racells l, u.oneCell' = true := by
  induction l with
  | nil => intro u hu; simp [racells] at hu
  | cons r rest ih =>
    intro u hu
    simp only [racells, List.mem_cons] at hu
    rcases hu with rfl | rfl | hu
    · rfl
    · rfl
    · exact ih u hu

/-- Any ranks, as a source of append. -/
theorem Rs.src {w : World} {v : Value} {l : List RankA} (h : Rs w v l) : Src Try.prog 2 23 v l.length (racells l) w := by
  rcases h.1 with ⟨a, cap, rfl, h0⟩ | ⟨b, off, cap, rfl, hcap, hmax, hlt, hcell⟩
  · have hl : l = [] := List.eq_nil_of_length_eq_zero h0
    subst hl
    cases a with
    | none => exact Src.ofNil w Try.underlying23 cap
    | some x => exact Src.ofSlice w Try.underlying23 x 0 cap [] (by simp) (by simp) (by simp)
  · refine Src.ofSlice w Try.underlying23 ⟨b, off, none⟩ l.length cap (racells l) (racells_length l) (fun j u hj => ?_) (racells_one l)
    have hjl := (List.getElem?_eq_some_iff.1 hj).1
    rw [racells_length] at hjl
    have hplain : (⟨b, off, none⟩ : Addr).add j = ⟨b, off + j, none⟩ := by unfold Addr.add; split <;> simp_all
    obtain ⟨cs, _, ⟨r, hr, rfl, _⟩, hc⟩ := hcell (j / 2) (by omega)
    have h2 := hc (j % 2) (Nat.mod_lt _ (by omega))
    rw [Nat.add_assoc, show j / 2 * 2 + j % 2 = j by omega] at h2
    rw [hplain, h2, ← hj]
    rw [List.getElem?_eq_getElem (by omega)] at hr
    simp only [Option.some.injEq] at hr
    rw [← hr]
    have h3 := racells_get l (j / 2) (by omega)
    have hm : j % 2 = 0 ∨ j % 2 = 1 := by omega
    rcases hm with hm | hm
    · rw [hm, ← show (racells l)[j / 2 * 2]? = (racells l)[j]? by congr 1; omega, h3.1]; rfl
    · rw [hm, ← show (racells l)[j / 2 * 2 + 1]? = (racells l)[j]? by congr 1; omega, h3.2]; rfl
/-- Ranks that the call owns, as ranks. -/
theorem Rs.of_owns {w : World} {v : Value} {l : List RankA} (h : OwnS w 39 2 v l.length (racells l)) (hok : ∀ r ∈ l, r.okay) (hl : l.length * 16 ≤ 140737488351232) : Rs w v l := by
  refine ⟨?_, hl⟩
  rcases h.2 with ⟨rfl, h0⟩ | ⟨g, off, cap, cur, rfl, hg, h1, h2, h3, h4⟩
  · exact .inl ⟨none, 0, rfl, h0⟩
  · refine .inr ⟨g, off, cap, rfl, h1, h2, heap_lt hg, fun i hi => ⟨l[i].cells, rfl, ⟨l[i], List.getElem?_eq_getElem hi, rfl, hok _ (List.getElem_mem _)⟩, fun j hj => ?_⟩⟩
    rw [cell_of_heap hg, Nat.add_assoc, h4 _ (by omega)]
    have h5 := racells_get l i hi
    have hm : j = 0 ∨ j = 1 := by omega
    rcases hm with rfl | rfl
    · rw [Nat.add_zero, h5.1]; rfl
    · rw [h5.2]; rfl

/-- What the answer was told. -/
structure RefT (w : World) (t : Nat) (S : Nat → Prop) (life count base : Nat) (l : List RankA) : Prop where
  blk : ∃ ty vs, w.heap[t]? = some (.cells #[.int .u64 life, .int .u64 count, .int .u64 base, vs] ty (0, 0)) ∧ OwnS w 39 2 vs l.length (racells l) ∧ ∀ b, vs.ownBlock = some b → S b ∧ b ≠ t
  own : S t
theorem RefT.lt {w : World} {t : Nat} {S : Nat → Prop} {life count base : Nat} {l : List RankA} (h : RefT w t S life count base l) : t < w.heap.size := by
  obtain ⟨ty, vs, hh, _⟩ := h.blk
  exact heap_lt hh
theorem RefT.ext {w w' : World} {t : Nat} {S T : Nat → Prop} {life count base : Nat} {l : List RankA} (h : RefT w t S life count base l) (g : Ext T w w') (hd : ∀ k, S k → ¬ T k) : RefT w' t S life count base l := by
  have hl := h.lt
  obtain ⟨ty, vs, hh, ho, hb⟩ := h.blk
  exact ⟨⟨ty, vs, (g.block t hl (hd t h.own)).trans hh, ho.ext g (fun b hbb => hd b (hb b hbb).1), hb⟩, h.own⟩

theorem reftake_arg {w : World} {t : Nat} (life count base : Nat) (v : Value) (l : List RankA) (hr : Rs w v l) (hm : mayB life count base l = false) :
    Calls Try.prog 20 #[.pointer (some ⟨t, 0, none⟩), .int .u64 life, .int .u64 count, .int .u64 base, v] w fun e w' => e = .returned (.int .i64 1) ∧ Grows w w' := by
  have h2 := refmay_any life count base v l w hr
  rw [hm] at h2
  clear hr hm
  go_enter Try.func20, Try.ntmps20
  go_wp2_with fail
  refine h2.mono ?_
  rintro e w9 ⟨rfl, m, rfl⟩
  go_wp2
  go_ret
  exact ⟨rfl, Ext.drewN_r m⟩
theorem reftake_old {w : World} {t : Nat} {S : Nat → Prop} {life0 count0 base0 : Nat} {l0 : List RankA} (h : RefT w t S life0 count0 base0 l0) (life count base : Nat) (v : Value) (l : List RankA) (hr : Rs w v l) (hm : mayB life count base l = true) (hb : laterB life count life0 count0 = false) :
    Calls Try.prog 20 #[.pointer (some ⟨t, 0, none⟩), .int .u64 life, .int .u64 count, .int .u64 base, v] w fun e w' => e = .returned (.int .i64 22) ∧ Grows w w' := by
  have h2 := refmay_any life count base v l w hr
  rw [hm] at h2
  have hlat := fun w => reflater_any life count life0 count0 w
  rw [hb] at hlat
  obtain ⟨ty, vs, hh, _⟩ := h.blk
  have c0 := cell_of_heap hh 0
  have c1 := cell_of_heap hh 1
  simp at c0 c1
  have hl0 := heap_lt hh
  clear hr hm hb h hh
  go_enter Try.func20, Try.ntmps20
  go_wp2_with fail
  refine h2.mono ?_
  rintro e w9 ⟨rfl, m, rfl⟩
  have hg : Grows w (w.drewN m) := Ext.drewN_r m
  have d0 := (hg.cell hl0 (fun h => h)).trans c0
  have d1 := (hg.cell hl0 (fun h => h)).trans c1
  generalize w.drewN m = w1 at hg d0 d1 ⊢
  clear c0 c1
  go_wp2_with fail
  go_quiet (first | (go_at_call 58; exact quiet_same_r (hlat _)))
  go_wp2
  go_ret
  exact ⟨rfl, hg.trans (Ext.drewN_r _)⟩

theorem refrank_any {w : World} {t : Nat} {S : Nat → Prop} {life count base : Nat} {l : List RankA} (h : RefT w t S life count base l) (hl : l.length ≤ 16) (gen : Nat) (hk : ∀ r ∈ l, 1 ≤ r.rank) :
    Calls Try.prog 25 #[.pointer (some ⟨t, 0, none⟩), .int .u64 gen] w fun e w' => e = .returned (.int .i64 (rankOf gen (kept l))) ∧ w = w' := by
  obtain ⟨ty, vs, hh, ho, _⟩ := h.blk
  have c3 := cell_of_heap hh 3
  simp at c3
  obtain ⟨ua, uc, rfl⟩ := OwnS.form ho
  have HO := Lib.hid ho
  have HK1 := Lib.hid hk
  clear hh h ho hk
  go_enter Try.func25, Try.ntmps25
  go_wp2
  go_loopg [5] l.length (fun k i wr => ∃ j : Nat, k = l.length - j ∧ j ≤ l.length ∧ i = .int .i64 (j : Nat) ∧ wr = w ∧ ∀ i, (h : i < (kept l).length) → i < j → (kept l)[i].gen ≠ gen)
  case atStart => exact ⟨0, by omega, by omega, rfl, rfl, fun i _ h => by omega⟩
  case round =>
    obtain ⟨j, hk, hj, rfl, rfl, hn⟩ := hrel
    have HK := Lib.hid hk
    have HN := Lib.hid hn
    clear hk hn
    by_cases hlt : j < l.length
    · obtain ⟨g, off, cap, e, hgl, hcell, _⟩ := OwnS.cells HO.out (j * 2) (by omega)
      obtain ⟨g', off', cap', e', _, hcell', _⟩ := OwnS.cells HO.out (j * 2 + 1) (by omega)
      injection e with e1 e2 e3
      subst e1 e3
      clear e2
      injection e' with e1 e2 e3
      injection e1 with e1
      injection e1 with e4 e5 e6
      subst e4 e5 e3
      clear e2
      rw [(racells_get l j hlt).1] at hcell
      rw [(racells_get l j hlt).2, ← Nat.add_assoc] at hcell'
      have j1 : (0 : Int) ≤ (j : Int) := by omega
      have j2 : (j : Int) < (l.length : Int) := by omega
      obtain ⟨gn, hgn⟩ : ∃ gn, l[j].gen = gn := ⟨_, rfl⟩
      obtain ⟨rk, hrk⟩ : ∃ rk, l[j].rank = rk := ⟨_, rfl⟩
      have hpos := HK1.out l[j] (List.getElem_mem _)
      rw [hrk] at hpos
      rw [hgn] at hcell
      rw [hrk] at hcell'
      have HX := Lib.hid (show (kept l)[j]'(by rw [kept_length]; exact hlt) = ⟨gn, rk.toNat⟩ by simp [kept, hgn, hrk])
      have HP := Lib.hid hpos
      clear hgn hrk hpos
      by_cases he : gn = gen
      · subst he
        have HR := Lib.hid (idxOf_skip gn (kept l) j HN.out (by rw [kept_length]; exact hlt) (by rw [HX.out])).2
        go_wp2
        go_ret
        exact ⟨ret_int (by rw [HR.out, HX.out]; have := HP.out; simp; omega), rfl⟩
      · have he' : ¬ (gn : Int) = (gen : Int) := by omega
        have HE := Lib.hid he
        clear he
        go_wp2
        go_roundg (l.length - (j + 1))
        case measure => have := HK.out; omega
        case rel =>
          refine ⟨j + 1, rfl, by omega, by go_num, rfl, fun i hi hij => ?_⟩
          by_cases hij2 : i < j
          · exact HN.out i hi hij2
          · obtain rfl : i = j := by omega
            rw [HX.out]; exact HE.out
    · have j2 : ¬ (j : Int) < (l.length : Int) := by omega
      have HR := Lib.hid (idxOf_none gen (kept l) (fun i hi => HN.out i hi (by have := kept_length l; omega))).2
      go_wp2
      go_ret
      exact ⟨ret_int (by rw [HR.out]; rfl), rfl⟩

end Go.Proofs.Ytpkaddpennafcaa
