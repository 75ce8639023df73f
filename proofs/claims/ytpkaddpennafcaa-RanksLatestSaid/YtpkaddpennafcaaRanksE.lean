/- ranks: Wants, Ranks, Copy. -/
import Derived.Test.YtpkaddpennafcaaRanksD
import Derived.Lib.SliceRun
import Derived.Deep.DeepCutAuto
namespace Go.Proofs.Ytpkaddpennafcaa
set_option linter.unusedVariables false
set_option linter.unusedSimpArgs false
open Go.ChangeShapes Go.WideShapes Go.ChangeAt Go.RowKit
attribute [local go_sem] run_store_complex_r

def wantsB (life base : Nat) (l : List RankV) (gen : Nat) (own width : Int) : Bool :=
  decide (0 < life) && (decide (1 ≤ width ∧ width ≤ 16) && decide (base ≤ gen ∧ (gen : Int) < min ((base : Int) + width) 1099511627776 ∧ (rankOf gen l : Int) < own))

set_option maxRecDepth 4000 in
theorem told_wants {w : World} {t : Nat} {S : Nat → Prop} {life count base : Nat} {l : List RankV} (h : ToldAt w t S life count base l) (gen : Nat) (own width : Int) :
    Calls Try.prog 16 #[.pointer (some ⟨t, 0, none⟩), .int .u64 gen, .int .i64 own, .int .i64 width] w fun e w' => e = .returned (.bool (wantsB life base l gen own width)) ∧ Grows w w' := by
  have hk := told_known h
  have HRK := Lib.hid (told_rank h gen)
  obtain ⟨ty, vs, hh, _⟩ := h.blk
  have c2 := cell_of_heap hh 2
  simp at c2
  have hb := h.b3
  have hb' : (base : Int) ≤ 1099511627776 := by simp only [MostG] at hb; omega
  clear hh h hb
  go_enter Try.func16, Try.ntmps16
  obtain ⟨bk, hbk⟩ : ∃ bk, decide (0 < life) = bk := ⟨_, rfl⟩
  rw [hbk] at hk
  have HB := Lib.hid hbk
  clear hbk
  go_wp2_with fail
  refine hk.mono ?_
  rintro e w' ⟨rfl, rfl⟩
  clear hk
  cases bk with
  | false =>
    go_wp2
    go_ret
    exact ⟨ret_bool (by rw [wantsB, HB.out]; rfl), Ext.refl _ _⟩
  | true =>
    by_cases w1 : width < 1
    · go_wp2
      go_ret
      exact ⟨ret_bool (by rw [wantsB, show decide (1 ≤ width ∧ width ≤ 16) = false by simp; omega]; simp), Ext.refl _ _⟩
    · by_cases w2 : 16 < width
      · go_wp2
        go_ret
        exact ⟨ret_bool (by rw [wantsB, show decide (1 ≤ width ∧ width ≤ 16) = false by simp; omega]; simp), Ext.refl _ _⟩
      · obtain ⟨wd, rfl⟩ := Int.eq_ofNat_of_zero_le (show 0 ≤ width by omega)
        have HW := Lib.hid (show decide (1 ≤ (wd : Int) ∧ (wd : Int) ≤ 16) = true by simp; omega)
        by_cases g1 : base ≤ gen
        · have g1' : (base : Int) ≤ (gen : Int) := by omega
          by_cases m1 : (1099511627776 : Int) < (base : Int) + (wd : Int)
          · by_cases g2 : (gen : Int) < 1099511627776
            · as_aux_lemma =>
              have G2 := Lib.hid (And.intro g2 (And.intro hb' g1))
              have M2 := Lib.hid m1
              have G1 := Lib.hid g1'
              clear hb' g1 m1 g1' g2
              go_upto_region 3 with fail
              have g2 := G2.out.1
              have m1 := M2.out
              have g1' := G1.out
              clear w1 w2
              go_wp2_with fail
              refine HRK.out.mono ?_
              rintro e w' ⟨rfl, hg⟩
              clear g2 m1 g1'
              go_wp2
              go_ret
              have g2 := G2.out
              have m1 := M2.out
              refine ⟨ret_bool ?_, hg⟩
              rw [wantsB, HB.out, HW.out]
              simp only [Bool.true_and]
              rw [Bool.eq_iff_iff]
              simp only [decide_eq_true_eq]
              omega
            · as_aux_lemma =>
              have G2 := Lib.hid (show (1099511627776 : Int) ≤ (gen : Int) by omega)
              have B2 := Lib.hid hb'
              have M2 := Lib.hid m1
              have G1 := Lib.hid g1'
              clear g2 hb' g1' g1 m1
              go_upto_region 3 with fail
              have m1 := M2.out
              have g1' := G1.out
              have g3 := G2.out
              clear w1 w2
              generalize (gen : Int) = gi at g1' g3 ⊢
              generalize (base : Int) + (wd : Int) = ee at m1 ⊢
              go_wp2
              all_goals go_ret
              all_goals
                have g2 := G2.out
                refine ⟨ret_bool ?_, Ext.refl _ _⟩
                rw [wantsB, HB.out, HW.out]
                simp only [Bool.true_and]
                symm
                rw [decide_eq_false_iff_not]
                omega
          · by_cases g2 : (gen : Int) < (base : Int) + (wd : Int)
            · as_aux_lemma =>
              have G2 := Lib.hid (And.intro g2 (And.intro hb' g1))
              have M2 := Lib.hid m1
              have G1 := Lib.hid g1'
              clear hb' g1 m1 g1' g2
              go_upto_region 3 with fail
              have g2 := G2.out.1
              have m1 := M2.out
              have g1' := G1.out
              clear w1 w2
              go_wp2_with fail
              refine HRK.out.mono ?_
              rintro e w' ⟨rfl, hg⟩
              clear g2 m1 g1'
              go_wp2
              go_ret
              have g2 := G2.out
              have m1 := M2.out
              refine ⟨ret_bool ?_, hg⟩
              rw [wantsB, HB.out, HW.out]
              simp only [Bool.true_and]
              rw [Bool.eq_iff_iff]
              simp only [decide_eq_true_eq]
              omega
            · as_aux_lemma =>
              have G2 := Lib.hid g2
              have B2 := Lib.hid hb'
              have M2 := Lib.hid m1
              have G1 := Lib.hid g1'
              have g3 := Lib.hid (show (base : Int) + (wd : Int) ≤ (gen : Int) by omega)
              clear g2 hb' g1' g1 m1
              go_upto_region 3 with fail
              have g3 := g3.out
              have m1 := M2.out
              have g1' := G1.out
              have hwr : IntKind.u64.wrap ((base : Int) + (wd : Int)) = (base : Int) + (wd : Int) := by rw [IntKind.wrap_u64]; have := B2.out; omega
              clear w1 w2
              generalize (gen : Int) = gi at g3 g1' ⊢
              go_wp2
              go_ret
              have g2 := G2.out
              refine ⟨ret_bool ?_, Ext.refl _ _⟩
              rw [wantsB, HB.out, HW.out]
              simp only [Bool.true_and]
              symm
              rw [decide_eq_false_iff_not]
              omega
        · have g1' : ¬ (base : Int) ≤ (gen : Int) := by omega
          go_wp2
          go_ret
          refine ⟨ret_bool ?_, Ext.refl _ _⟩
          rw [wantsB, HB.out, HW.out]
          simp only [Bool.true_and]
          symm
          rw [decide_eq_false_iff_not]
          omega

theorem OwnS.src {w : World} {e t : TypeId} {v : Value} {n : Nat} {xs : List Value} (h : OwnS w e 1 v n xs) (ht : Try.prog.underlying t = some (.slice e)) (h1 : ∀ u ∈ xs, u.oneCell' = true) : Src Try.prog 1 t v n xs w := by
  have hl := h.1
  rcases h.2 with ⟨rfl, h0⟩ | ⟨g, off, cap, cur, rfl, hg, _, _, _, hc⟩
  · subst h0
    obtain rfl : xs = [] := List.eq_nil_of_length_eq_zero (by omega)
    exact Src.ofNil w ht 0
  · refine Src.ofSlice w ht ⟨g, off, none⟩ n cap xs (by omega) (fun j u hj => ?_) h1
    have hjl := (List.getElem?_eq_some_iff.1 hj).1
    have hplain : (⟨g, off, none⟩ : Addr).add j = ⟨g, off + j, none⟩ := by unfold Addr.add; split <;> simp_all
    rw [hplain, cell_of_heap hg, hc j (by omega), hj]
theorem pcells_one (l : List RankV) : ∀ u ∈ pcells l, u.oneCell' = true := by
  intro u hu
  simp only [pcells, List.mem_map] at hu
  obtain ⟨r, _, rfl⟩ := hu
  rfl

set_option maxRecDepth 4000 in
theorem clone_any (v : Value) (l : List RankV) (w : World) (ho : OwnS w 51 1 v l.length (pcells l)) (hl : l.length ≤ 16) :
    Calls Try.prog 56 #[v] w fun e w' => ∃ v', e = .returned v' ∧ OwnS w' 51 1 v' l.length (pcells l) ∧ (∀ b, v'.ownBlock = some b → w.heap.size ≤ b) ∧ Grows w w' := by
  have hw := ho
  have qT : ∀ (w : World) (a : Option Addr) (n c : Nat), (binOp .eql 52 (.slice a n c) (.slice none 0 0)).run Try.prog w = .ok (.bool a.isNone) w := fun w a n c => Lib.run_eql_slice_nil w _ _ a n c 0 0 Try.underlying52
  rcases ho.2 with ⟨rfl, h0⟩ | ⟨g, off, cap, cur, rfl, hg, _⟩
  · go_enter Try.func56, Try.ntmps56
    go_wp2
    go_ret
    exact ⟨_, rfl, hw, fun b hb => by simp [Value.ownBlock] at hb, Ext.refl _ _⟩
  · have HO := Lib.hid hw
    clear ho hw hg
    go_enter Try.func56, Try.ntmps56
    have own5 : OwnS (w.alloc (.cells #[] 51)) 51 1 (.slice (some ⟨w.heap.size, 0, none⟩) 0 0) 0 [] :=
      ⟨rfl, .inr ⟨w.heap.size, 0, 0, #[], rfl, heap_alloc_new w _, Nat.le_refl _, Nat.zero_le _, by simp, fun i hi => by omega⟩⟩
    have hs := OwnS.src (HO.out.grows ((Ext.refl (fun _ => False) w).alloc (.cells #[] 51))) Try.underlying52 (pcells_one l)
    go_wp2_with (at_builtin; refine wpList_append_ownS rfl (.tmp 5) (.tmp 6) 52 52 rfl 51 (.complex .f64 0 0) 1 16 Try.underlying52 infoPair rfl _ _ rfl rfl 0 [] own5 l.length (pcells l) hs (by unfold maxLen; omega) (by omega) ?_)
    intro v' w6 hown6 hgr6 hblk6
    have A := Lib.hid (And.intro hown6 (And.intro hgr6 hblk6))
    clear own5 hown6 hgr6 hblk6 hs
    go_wp2
    go_ret
    obtain ⟨a1, a2, a3⟩ := A.out
    refine ⟨v', rfl, by simpa using a1, fun b hb => ?_, ?_⟩
    · rcases a3 with a3 | a3
      · rw [a3] at hb; exact Nat.le_of_eq (Option.some.inj hb)
      · rw [a3] at hb; have := Option.some.inj hb; omega
    · exact (((Ext.refl _ w).alloc _).lift.trans (Ext.of_grown (S := fun k => (Value.slice (some ⟨w.heap.size, 0, none⟩) 0 0).ownBlock = some k) a2 (fun _ hk => hk))).mono (fun k hk hh => by have h1 : w.heap.size = k := Option.some.inj hh; omega)

theorem told_copy {w : World} {t : Nat} {S : Nat → Prop} {life count base : Nat} {l : List RankV} (h : ToldAt w t S life count base l) :
    Calls Try.prog 19 #[.pointer (some ⟨t, 0, none⟩)] w fun e w' => e = .returned (.pointer (some ⟨w.heap.size, 0, none⟩)) ∧ ToldAt w' w.heap.size (fun k => w.heap.size ≤ k) life count base l ∧ Grows w w' := by
  have hn := told_none h
  have HT := Lib.hid h
  obtain ⟨ty, vs, hh, ho, hvb⟩ := h.blk
  have c0 := cell_of_heap hh 0
  have c1 := cell_of_heap hh 1
  have c2 := cell_of_heap hh 2
  have c3 := cell_of_heap hh 3
  simp at c0 c1 c2 c3
  obtain ⟨ua, uc, rfl⟩ := OwnS.form ho
  have HO := Lib.hid ho
  clear hh ho h hvb
  go_enter Try.func19, Try.ntmps19
  go_wp2_with fail
  refine hn.mono ?_
  rintro e w' ⟨rfl, rfl⟩
  have htl := HT.out.lt
  go_wp2_with fail
  have ha : Grows w (w.alloc (.cells #[.bool true, .complex .f64 (fl life) (fl count), .int .u64 base, .slice ua l.length uc] 54)) := (Ext.refl _ _).alloc _
  have hh2 : (w.alloc (.cells #[.bool true, .complex .f64 (fl life) (fl count), .int .u64 base, .slice ua l.length uc] 54)).heap[w.heap.size]? = some (.cells #[.bool true, .complex .f64 (fl life) (fl count), .int .u64 base, .slice ua l.length uc] 54 (0, 0)) := heap_alloc_new w _
  have hcl := clone_any (.slice ua l.length uc) l _ (HO.out.grows ha) HT.out.b4
  have hsz : (w.alloc (.cells #[.bool true, .complex .f64 (fl life) (fl count), .int .u64 base, .slice ua l.length uc] 54)).heap.size = w.heap.size + 1 := by simp
  generalize w.alloc (.cells #[.bool true, .complex .f64 (fl life) (fl count), .int .u64 base, .slice ua l.length uc] 54) = wa at ha hh2 hcl hsz ⊢
  refine hcl.mono ?_
  rintro e w6 ⟨v', rfl, ho6, hf6, hg6⟩
  obtain ⟨vb, vc, rfl⟩ := OwnS.form ho6
  have hh6 := (hg6.block w.heap.size (by omega) (fun h => h)).trans hh2
  have d3 := cell_of_heap hh6 3
  have f3 := frozen_of_heap hh6 3
  simp at d3
  have A := Lib.hid (And.intro ho6 (And.intro hf6 (And.intro (ha.trans hg6) hh6)))
  clear ho6 hf6 hg6 hh6 hh2 ha hcl
  go_wp2
  go_ret
  obtain ⟨a1, a2, a3, a4⟩ := A.out
  have k4 := setCell_heap a4 3 (.slice vb l.length vc)
  have e4 : Ext (fun k => k = w.heap.size) w6 (w6.setCell ⟨w.heap.size, 3, none⟩ (.slice vb l.length vc)) := (Ext.refl _ _).setT_r 3 _
  refine ⟨rfl, ⟨⟨_, .slice vb l.length vc, by simpa using k4, a1.ext e4 (fun b hb he => by have := a2 b hb; omega), fun b hb => ⟨by have := a2 b hb; omega, by have := a2 b hb; omega⟩⟩, Nat.le_refl _, HT.out.b1, HT.out.b2, HT.out.b3, HT.out.b4, HT.out.b5, HT.out.b6⟩, (a3.lift.trans e4).mono (fun k hk hh => by omega)⟩

def rcells : List RankV → List Value
  | [] => []
  | r :: rest => .int .u64 r.gen :: .int .i64 r.rank :: rcells rest
theorem rcells_append : ∀ a b : List RankV, rcells (a ++ b) = rcells a ++ rcells b
  | [], _ => rfl
  | r :: rest, b => by rw [List.cons_append, rcells, rcells_append rest b, rcells]; rfl
theorem infoRank : (Try.prog.info? 39).map (fun i => (i.zero, i.size, i.bytes)) = some (some (.agg #[.int .u64 0, .int .i64 0]), 2, 16) := by kernel_rfl
theorem src_two {w : World} {b : Nat} {ty t e : TypeId} {x y : Value} {fr : Nat × Nat} (ht : Try.prog.underlying t = some (.slice e)) (hb : w.heap[b]? = some (.cells #[x, y] ty fr)) (hx : x.oneCell' = true) (hy : y.oneCell' = true) : Src Try.prog 2 t (.slice (some ⟨b, 0, none⟩) 1 1) 1 [x, y] w := by
  refine Src.ofSlice w ht ⟨b, 0, none⟩ 1 1 [x, y] rfl (fun j u hj => ?_) (fun u hu => ?_)
  · have hplain : (⟨b, 0, none⟩ : Addr).add j = ⟨b, 0 + j, none⟩ := by unfold Addr.add; split <;> simp_all
    rw [hplain, cell_of_heap hb, Nat.zero_add, ← hj]
    simp
  · simp only [List.mem_cons, List.not_mem_nil, or_false] at hu
    rcases hu with rfl | rfl
    · exact hx
    · exact hy

theorem told_ranks {w : World} {t : Nat} {S : Nat → Prop} {life count base : Nat} {l : List RankV} (h : ToldAt w t S life count base l) :
    Calls Try.prog 21 #[.pointer (some ⟨t, 0, none⟩)] w fun e w' => ∃ v, e = .returned v ∧ OwnS w' 39 2 v l.length (rcells l) ∧ (∀ b, v.ownBlock = some b → w.heap.size ≤ b) ∧ Grows w w' := by
  have hn := told_none h
  have HT := Lib.hid h
  obtain ⟨ty, vs, hh, ho, hvb⟩ := h.blk
  have c3 := cell_of_heap hh 3
  simp at c3
  obtain ⟨ua, uc, rfl⟩ := OwnS.form ho
  have HO := Lib.hid ho
  have h16 := h.b4
  clear hh ho h hvb
  go_enter Try.func21, Try.ntmps21
  go_wp2_with fail
  refine hn.mono ?_
  rintro e w' ⟨rfl, rfl⟩
  go_wp2
  go_loopg [13, 3] l.length (fun k i x wr => ∃ j : Nat, k = l.length - j ∧ j ≤ l.length ∧ i = .int .i64 (j : Nat) ∧ OwnS wr 39 2 x j (rcells (l.take j)) ∧ Grows w wr ∧ ∀ b, x.ownBlock = some b → w.heap.size ≤ b)
  case atStart => exact ⟨0, by omega, by omega, rfl, OwnS.nil _ _ _, Ext.refl _ _, fun b hb => by simp [Value.ownBlock] at hb⟩
  case round =>
    obtain ⟨j, hk, hj, rfl, ho, hg, hf⟩ := hrel
    have HK := Lib.hid hk
    have HG := Lib.hid hg
    have HR := Lib.hid (And.intro ho hf)
    clear hk hg ho hf
    by_cases hlt : j < l.length
    · obtain ⟨g, off, cap, e, hgl, hcell, _⟩ := OwnS.cells HO.out j (by omega)
      injection e with e1 e2 e3
      subst e1 e3
      clear e2
      obtain ⟨gn, hgn⟩ : ∃ gn, l[j].gen = gn := ⟨_, rfl⟩
      obtain ⟨rk, hrk⟩ : ∃ rk, l[j].rank = rk := ⟨_, rfl⟩
      have c0 : wr.cell? ⟨g, off + j, none⟩ = some (.complex .f64 (fl gn) (fl rk)) := by
        rw [HG.out.cell hgl (fun h => h), hcell]
        simp [pcells, List.getElem?_eq_getElem hlt, hgn, hrk]
      have j1 : (0 : Int) ≤ (j : Int) := by omega
      have j2 : (j : Int) < (l.length : Int) := by omega
      have hbd := HT.out.b5 l[j] (List.getElem_mem _)
      rw [hgn, hrk] at hbd
      have HX := Lib.hid (show rcells (l.take (j + 1)) = rcells (l.take j) ++ [.int .u64 gn, .int .i64 rk] by
        rw [List.take_succ_eq_append_getElem hlt, rcells_append, rcells, hgn, hrk]; rfl)
      have hf1 := fun w => first_any gn rk (by have := hbd.1; simp only [MostG] at this; simp only [MostC]; omega) w
      have hf2 := fun w => second_any gn rk (by have := hbd.2.2; simp only [MostC]; omega) w
      have hr255 : (rk : Int) ≤ 255 := by omega
      clear hcell hgn hrk hbd
      obtain ⟨xa, xc, rfl⟩ := OwnS.form HR.out.1
      go_wp2_with fail
      refine (hf1 _).mono ?_
      rintro e w9 ⟨rfl, rfl⟩
      go_wp2_with fail
      refine (hf2 _).mono ?_
      rintro e w9 ⟨rfl, rfl⟩
      clear hf1 hf2
      have own5 := HR.out.1.grows ((Ext.refl (fun _ => False) wr).alloc (.cells #[.int .u64 gn, .int .i64 rk] 39))
      have HW := Lib.hid (HG.out.alloc (.cells #[.int .u64 gn, .int .i64 rk] 39))
      go_wp2_with (at_builtin; refine wpList_append_ownS rfl (.tmp 17) (.tmp 24) 23 23 rfl 39 (.agg #[.int .u64 0, .int .i64 0]) 2 16 Try.underlying23 infoRank rfl _ _ rfl rfl j (rcells (l.take j)) own5 1 [.int .u64 gn, .int .i64 rk] (src_two Try.underlying23 (heap_alloc_new wr _) rfl rfl) (by unfold maxLen; omega) (by omega) ?_)
      intro v' w6 hown6 hgr6 hblk6
      have A := Lib.hid (And.intro hown6 (And.intro hgr6 hblk6))
      clear own5 hown6 hgr6 hblk6
      go_wp2
      go_roundg (l.length - (j + 1))
      case measure => have := HK.out; omega
      case rel =>
        obtain ⟨a1, a2, a3⟩ := A.out
        have hsz := HW.out.size
        refine ⟨j + 1, rfl, by omega, by go_num, ?_, ?_, fun b hb => ?_⟩
        · rw [HX.out]; exact a1
        · exact (HW.out.lift.trans (Ext.of_grown (S := fun k => (Value.slice xa j xc).ownBlock = some k) a2 (fun _ hk => hk))).mono (fun k hk hh => by have := HR.out.2 k hh; omega)
        · rcases a3 with a3 | a3
          · exact HR.out.2 b (a3 ▸ hb)
          · rw [a3] at hb; have hb' := Option.some.inj hb; rw [← hb']; simpa using hsz
    · have j2 : ¬ (j : Int) < (l.length : Int) := by omega
      obtain rfl : j = l.length := by omega
      go_wp2
      go_ret
      exact ⟨_, rfl, by have := HR.out.1; rwa [List.take_of_length_le (Nat.le_refl _)] at this, HR.out.2, HG.out⟩

end Go.Proofs.Ytpkaddpennafcaa
