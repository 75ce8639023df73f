/- sched: the answer's Round. -/
import Derived.Test.YtlejdhgchanilaaSchedN
namespace Go.Proofs.Ytlejdhgchanilaa
set_option linter.unusedVariables false
set_option linter.unusedSimpArgs false
open Go.RowKit Go.Sort Go.Lib

def OwnR (w : World) (v : Value) (l : List PlaceV) : Prop := OwnS w 25 2 v l.length (plcells l)
theorem OwnR.grows {w w' : World} {v : Value} {l : List PlaceV} (h : OwnR w v l) (e : Grows w w') : OwnR w' v l := OwnS.grows h e
theorem OwnR.at {w : World} {v : Value} {l : List PlaceV} (h : OwnR w v l) (i : Nat) (hi : i < l.length) :
    ∃ g off cap, v = .slice (some ⟨g, off, none⟩) l.length cap ∧ g < w.heap.size ∧ w.cell? ⟨g, off + i * 2, none⟩ = some (.int .i64 l[i].flow) ∧ w.cell? ⟨g, off + i * 2 + 1, none⟩ = some (.int .u64 l[i].gen) := by
  obtain ⟨g, off, cap, hv, hg, hc, hf⟩ := OwnS.cells h (i * 2) (by omega)
  obtain ⟨g', off', cap', hv', _, hc', hf'⟩ := OwnS.cells h (i * 2 + 1) (by omega)
  rw [hv] at hv'
  simp only [Value.slice.injEq, Option.some.injEq, Addr.mk.injEq] at hv'
  obtain ⟨⟨rfl, rfl, _⟩, _, rfl⟩ := hv'
  rw [(plcells_get l i hi).1] at hc
  rw [(plcells_get l i hi).2, ← Nat.add_assoc] at hc'
  exact ⟨g, off, cap, hv, hg, hc, hc'⟩
theorem OwnR.row {w : World} {v : Value} {xs : List PlaceV} (h : OwnR w v xs) : RowP w v xs := ⟨OwnS.form h, fun i hi => OwnR.at h i hi⟩
theorem infoPlR : (Try.prog.info? 25).map (fun i => (i.zero, i.size, i.bytes)) = some (some (.agg #[.int .i64 0, .int .u64 0]), 2, 16) := by kernel_rfl
theorem src_plR {w : World} {b : Nat} {ty : TypeId} {fr : Nat × Nat} (x : PlaceV) (hb : w.heap[b]? = some (.cells #[.int .i64 x.flow, .int .u64 x.gen] ty fr)) : Src Try.prog 2 22 (.slice (some ⟨b, 0, none⟩) 1 1) 1 (plcells [x]) w := by
  refine Src.ofSlice w Try.underlying22 ⟨b, 0, none⟩ 1 1 _ rfl (fun j u hj => ?_) (plcells_one _)
  have hplain : (⟨b, 0, none⟩ : Addr).add j = ⟨b, 0 + j, none⟩ := by unfold Addr.add; split <;> simp_all
  have : plcells [x] = [.int .i64 x.flow, .int .u64 x.gen] := rfl
  rw [hplain, cell_of_heap hb, ← hj, this, Nat.zero_add]
  simp

/-- What comes next, behind m of R. -/
def nx (R : List PlaceV) (m : Nat) : Option PlaceV := (R.drop m ++ R.take m).head?
theorem nx_lt {R : List PlaceV} {m : Nat} (h : m < R.length) : nx R m = some R[m] := by
  unfold nx
  rw [List.drop_eq_getElem_cons h]
  rfl
theorem nx_end {R : List PlaceV} : nx R R.length = R.head? := by
  unfold nx
  rw [List.drop_length, List.take_length]
  rfl
theorem nx_step {S : List PlaceV} (hS : Sorted S) (last : PlaceV) (begun : Bool) {m : Nat} {R : List PlaceV} (hR : roundP S last begun = R) (h : m < R.length) : (roundP S R[m] true).head? = nx R (m + 1) := by
  have ht := roundP_turn hS last begun
  rw [hR] at ht
  have e : R = R.take m ++ R[m] :: R.drop (m + 1) := by rw [← List.drop_eq_getElem_cons h, List.take_append_drop]
  rw [turn_next hS ht e]
  unfold nx
  rw [List.take_succ_eq_append_getElem h, List.append_assoc]
theorem not_before {R : List PlaceV} (hn : R.Nodup) {i m : Nat} (hi : i < m) (hm : m < R.length) : ¬ R[i]'(by omega) = R[m] := fun h => (List.pairwise_iff_getElem.1 hn) i m (by omega) hm hi h

set_option maxHeartbeats 16000000 in
theorem refround_S (v : Value) (l S : List PlaceV) (hS : InOrder S l) (last : PlaceV) (begun : Bool) (w : World) (h : RowP w v l) (hl : l.length ≤ 1048576) :
    Calls Try.prog 12 #[v, .agg #[.int .i64 last.flow, .int .u64 last.gen], .bool begun] w fun e w' => ∃ v', e = .returned v' ∧ OwnR w' v' (roundP S last begun) ∧ Grows w w' := by
  have hg : Grows w (w.alloc (.cells #[.int .i64 last.flow, .int .u64 last.gen] 25)) := (Ext.refl _ w).alloc _
  have k4 := heap_alloc_new w (.cells #[.int .i64 last.flow, .int .u64 last.gen] 25 (0, 0))
  obtain ⟨R, hR⟩ : ∃ R, roundP S last begun = R := ⟨_, rfl⟩
  have hR0 : (roundP S last begun).head? = nx R 0 := by rw [hR]; unfold nx; simp
  have hn : R.Nodup := hR ▸ roundP_nodup hS.1 last begun
  have hlen : R.length ≤ 1048576 := Nat.le_trans (nodup_short R l hn (fun x hx => (hS.2 x).1 ((mem_roundP S last begun x).1 (hR ▸ hx)))) hl
  have H := Lib.hid (And.intro h (And.intro hg (And.intro k4 (And.intro hR (And.intro hR0 (And.intro hn hlen))))))
  rw [hR]
  clear h hg k4 hR hR0 hn hlen
  go_enter Try.func12, Try.ntmps12
  go_wp2
  go_loopg [7, 2] R.length (fun k vo vb wr => ∃ (m : Nat) (cur : PlaceV) (b : Bool), m ≤ R.length ∧ k = R.length - m ∧ vb = .bool b ∧ OwnR wr vo (R.take m) ∧ Grows w wr ∧ (∀ bb, vo.ownBlock = some bb → w.heap.size < bb) ∧
    wr.heap[w.heap.size]? = some (.cells #[.int .i64 cur.flow, .int .u64 cur.gen] 25 (0, 0)) ∧ (roundP S cur b).head? = nx R m)
  case atStart => exact ⟨0, last, begun, by omega, by omega, rfl, OwnS.nil _ _ _, H.out.2.1, fun k hk => by simp [Value.ownBlock] at hk, H.out.2.2.1, H.out.2.2.2.2.1⟩
  case round =>
    obtain ⟨m, cur, b, hm, hk, rfl, ho, hg, hf, hc, hnx⟩ := hrel
    have HK := Lib.hid (And.intro hk (And.intro hm (And.intro ho (And.intro hg (And.intro hf (And.intro hc hnx))))))
    have c0 := cell_of_heap hc 0
    have c1 := cell_of_heap hc 1
    simp at c0 c1
    have hrow := H.out.1.grows hg
    clear hk hm ho hg hf hc hnx
    go_wp2_with fail
    refine (refnext_S v l S hS cur b wr hrow hl (nx R m) HK.out.2.2.2.2.2.2).mono ?_
    rintro e w3 ⟨rfl, g3⟩
    by_cases hlt : m < R.length
    · have hnx := nx_lt hlt
      rw [hnx]
      obtain ⟨p, hp⟩ : ∃ p, R[m] = p := ⟨_, rfl⟩
      rw [hp]
      simp only [nextV]
      clear hnx c0 c1 hrow
      have ga : Grows w3 (w3.alloc (.cells #[.int .i64 p.flow, .int .u64 p.gen] 25)) := (Ext.refl _ _).alloc _
      have k8 := heap_alloc_new w3 (.cells #[.int .i64 p.flow, .int .u64 p.gen] 25 (0, 0))
      have hb8 : w.heap.size < w3.heap.size := Nat.lt_of_lt_of_le (heap_lt HK.out.2.2.2.2.2.1) g3.size
      have hb9 : wr.heap.size ≤ w3.heap.size := g3.size
      have K := Lib.hid (And.intro hp (And.intro (g3.trans ga) (And.intro k8 (And.intro hb8 hb9))))
      clear hp g3 ga k8 hb8 hb9
      go_wp2
      generalize w3.alloc (.cells #[.int .i64 p.flow, .int .u64 p.gen] 25) = w4 at K ⊢
      generalize w3.heap.size = b8 at K ⊢
      obtain ⟨va, vc, rfl⟩ := OwnS.form HK.out.2.2.1
      have htl : (R.take m).length = m := by rw [List.length_take]; omega
      rw [htl]
      go_loopg [10] m (fun k c wr => ∃ i : Nat, i ≤ m ∧ k = m - i ∧ c = .int .i64 (i : Nat) ∧ Grows w4 wr)
      case atStart => exact ⟨0, by omega, by omega, rfl, Ext.refl _ _⟩
      case round =>
        obtain ⟨i, hi, hk, rfl, hg⟩ := hrel
        have HI := Lib.hid (And.intro hk (And.intro hi hg))
        have k8 := (hg.block _ (heap_lt K.out.2.2.1) (fun h => h)).trans K.out.2.2.1
        have p0 := cell_of_heap k8 0
        have p1 := cell_of_heap k8 1
        simp at p0 p1
        clear hk hi hg k8
        have own := (OwnR.grows HK.out.2.2.1 (K.out.2.1)).grows HI.out.2.2
        have i0 : (0 : Int) ≤ (i : Int) := by omega
        by_cases hil : i < m
        · have i1 : (i : Int) < (m : Int) := by omega
          have i5 : (i : Int) < 1048576 := by have := H.out.2.2.2.2.2.2; omega
          obtain ⟨g, off, cap, e, hb, c0, c1⟩ := OwnR.at own i (by omega)
          injection e with e1 e2 e3
          subst e1 e3
          clear e2
          obtain ⟨x, hx⟩ : ∃ x, (R.take m)[i]'(by omega) = x := ⟨_, rfl⟩
          rw [hx] at c0 c1
          have hne : ¬ x = p := by
            rw [← hx, ← K.out.1, List.getElem_take]
            exact not_before H.out.2.2.2.2.2.1 hil hlt
          have heq := eqR x p
          rw [decide_eq_false hne] at heq
          clear hx own hne hb
          have hgd := eqGuardR
          go_upto_region 8 with fail
          go_quiet (fail)
          clear c0 c1 heq hgd p0 p1
          go_wp2
          go_roundg (m - (i + 1))
          case measure => have := HI.out.1; omega
          case rel => exact ⟨i + 1, by omega, rfl, by go_num, HI.out.2.2.trans ⟨rfl, rfl, rfl, Nat.le_refl _, fun _ _ _ => rfl⟩⟩
        · have i1 : ¬ (i : Int) < (m : Int) := by omega
          have own' : OwnS wr 25 2 (.slice va m vc) m (plcells (R.take m)) := by unfold OwnR at own; rwa [htl] at own
          have own5 := own'.grows ((Ext.refl (fun _ => False) wr).alloc (.cells #[.int .i64 p.flow, .int .u64 p.gen] 25))
          clear own own'
          go_wp2_with (at_builtin; refine wpList_append_ownS rfl (.tmp 34) (.tmp 36) 22 22 rfl 25 (.agg #[.int .i64 0, .int .u64 0]) 2 16 Try.underlying22 infoPlR rfl _ _ rfl rfl m (plcells (R.take m)) own5 1 (plcells [p]) (src_plR p (heap_alloc_new wr _)) (by unfold maxLen; have := H.out.2.2.2.2.2.2; omega) (by have := H.out.2.2.2.2.2.2; omega) ?_)
          intro v' w5 hown5 hgr5 hblk5
          have g4 := HK.out.2.2.2.1.trans (K.out.2.1.trans HI.out.2.2)
          have g5 : Grows wr (wr.alloc (.cells #[.int .i64 p.flow, .int .u64 p.gen] 25)) := (Ext.refl _ _).alloc _
          have e5 : Ext (fun k => (Value.slice va m vc).ownBlock = some k) (wr.alloc (.cells #[.int .i64 p.flow, .int .u64 p.gen] 25)) w5 := Ext.of_grown hgr5 (fun k hk => hk)
          have hold : ∀ k, (Value.slice va m vc).ownBlock = some k → w.heap.size < k := fun k hk => HK.out.2.2.2.2.1 k (by rw [htl]; exact hk)
          have gg : Grows w w5 := ((g4.trans g5).lift.trans e5).mono (fun k hk hh => by have := hold k hh; omega)
          have b5 : ∀ k, v'.ownBlock = some k → w.heap.size < k := fun k hk => by
            have := g4.size
            have := g5.size
            have := heap_lt HK.out.2.2.2.2.2.1
            have := (K.out.2.1.trans HI.out.2.2).size
            rcases hblk5 with h | h
            · exact hold k (h ▸ hk)
            · rw [h] at hk
              simp only [Option.some.injEq] at hk
              omega
          have o5 : OwnR w5 v' (R.take (m + 1)) := by
            unfold OwnR
            rw [List.take_succ_eq_append_getElem hlt, plcells_append, List.length_append, htl, K.out.1]
            exact hown5
          have k4 : w5.heap[w.heap.size]? = some (.cells #[.int .i64 cur.flow, .int .u64 cur.gen] 25 (0, 0)) :=
            ((((K.out.2.1.trans HI.out.2.2).trans g5).lift.trans e5).block _ (heap_lt HK.out.2.2.2.2.2.1) (fun h => by have := hold _ h; omega)).trans HK.out.2.2.2.2.2.1
          have k8 : w5.heap[b8]? = some (.cells #[.int .i64 p.flow, .int .u64 p.gen] 25 (0, 0)) :=
            ((HI.out.2.2.trans g5).lift.trans e5).block _ (heap_lt K.out.2.2.1) (fun h => by have := HK.out.2.2.1; have := OwnS.lt HK.out.2.2.1 _ (by rw [htl]; exact h); have := K.out.2.2.2.2; omega) |>.trans K.out.2.2.1
          have A := Lib.hid (And.intro o5 (And.intro gg (And.intro b5 k4)))
          have p0 := cell_of_heap k8 0
          have p1 := cell_of_heap k8 1
          have c0 := cell_of_heap k4 0
          have c1 := cell_of_heap k4 1
          have f0 := frozen_of_heap k4 0
          have f1 := frozen_of_heap k4 1
          simp at p0 p1 c0 c1
          have HW := Lib.hid (fun x y => (setCell_heap (setCell_heap k4 0 x) 1 y))
          have GW := Lib.hid (fun x y : Value => Ext.setCell (Ext.setCell gg ⟨w.heap.size, 0, none⟩ (.inl (Nat.le_refl _)) x) ⟨w.heap.size, 1, none⟩ (.inl (Nat.le_refl _)) y)
          clear o5 gg b5 k4 k8 g4 g5 e5 hold hown5 hgr5 hblk5 own5
          go_wp2
          go_roundg (R.length - (m + 1))
          case measure => have := HK.out.1; omega
          case rel =>
            have eS : ∀ x y : Value, Ext (fun k => k = w.heap.size) w5 ((w5.setCell ⟨w.heap.size, 0, none⟩ x).setCell ⟨w.heap.size, 1, none⟩ y) := fun x y => Ext.setCell (S := fun k => k = w.heap.size) (Ext.setCell (S := fun k => k = w.heap.size) (Ext.refl _ _) ⟨w.heap.size, 0, none⟩ (.inr rfl) x) ⟨w.heap.size, 1, none⟩ (.inr rfl) y
            exact ⟨m + 1, p, true, hlt, rfl, rfl, A.out.1.ext (eS _ _) (fun k hk hh => by have := A.out.2.2.1 k hk; omega), GW.out _ _, A.out.2.2.1, HW.out _ _, by rw [← K.out.1]; exact nx_step hS.1 last begun H.out.2.2.2.1 hlt⟩
    · obtain rfl : m = R.length := by have := HK.out.2.1; omega
      have e : R.take R.length = R := List.take_length
      have hnx : nx R R.length = R.head? := nx_end
      rw [hnx]
      have own := HK.out.2.2.1
      rw [e] at own
      clear c0 c1 hrow
      cases R with
      | nil =>
        simp only [List.head?_nil, nextV]
        have gf : Grows w (w3.alloc (.cells #[.int .i64 0, .int .u64 0] 25)) := (HK.out.2.2.2.1.trans g3).alloc _
        have own5 : OwnR (w3.alloc (.cells #[.int .i64 0, .int .u64 0] 25)) u7 [] := own.grows (g3.alloc _)
        have G := Lib.hid (And.intro gf own5)
        clear own gf own5
        go_wp2
        go_ret
        exact ⟨_, rfl, G.out.2, G.out.1⟩
      | cons p r =>
        simp only [List.head?_cons, nextV]
        have ga : Grows w3 (w3.alloc (.cells #[.int .i64 p.flow, .int .u64 p.gen] 25)) := (Ext.refl _ _).alloc _
        have k8 := heap_alloc_new w3 (.cells #[.int .i64 p.flow, .int .u64 p.gen] 25 (0, 0))
        have own5 : OwnR (w3.alloc (.cells #[.int .i64 p.flow, .int .u64 p.gen] 25)) u7 (p :: r) := own.grows (g3.trans ga)
        have K := Lib.hid (And.intro own5 (And.intro (HK.out.2.2.2.1.trans (g3.trans ga)) k8))
        clear ga k8 own5 own g3
        go_wp2
        generalize w3.alloc (.cells #[.int .i64 p.flow, .int .u64 p.gen] 25) = w4 at K ⊢
        generalize w3.heap.size = b8 at K ⊢
        go_loopg [10] 1 (fun k c wr' => k = 1 ∧ c = .int .i64 0 ∧ Grows w4 wr')
        case atStart => exact ⟨rfl, rfl, Ext.refl _ _⟩
        case round =>
          obtain ⟨hk, rfl, hg⟩ := hrel
          obtain ⟨g, off, cap, rfl, hb, c0, c1⟩ := OwnR.at (K.out.1.grows hg) 0 (by simp)
          have k8 := (hg.block _ (heap_lt K.out.2.2) (fun h => h)).trans K.out.2.2
          have p0 := cell_of_heap k8 0
          have p1 := cell_of_heap k8 1
          simp only [List.getElem_cons_zero, Nat.zero_mul, Nat.add_zero] at c0 c1
          simp at p0 p1
          have heq := eqR p p
          rw [decide_eq_true rfl] at heq
          have hgd := eqGuardR
          have n1 : (0 : Int) < (((p :: r).length : Nat) : Int) := by rw [List.length_cons]; omega
          have HG := Lib.hid (And.intro (K.out.1.grows hg) (K.out.2.1.trans hg))
          clear hg k8 hb hk
          go_upto_region 8 with fail
          go_quiet (fail)
          clear c0 c1 heq hgd p0 p1
          go_wp2
          go_ret
          exact ⟨_, rfl, HG.out.1.grows ⟨rfl, rfl, rfl, Nat.le_refl _, fun _ _ _ => rfl⟩, HG.out.2.trans ⟨rfl, rfl, rfl, Nat.le_refl _, fun _ _ _ => rfl⟩⟩

end Go.Proofs.Ytlejdhgchanilaa
