/- sched: the answer's Next. -/
import Derived.Test.YtlejdhgchanilaaSchedR
namespace Go.Proofs.Ytlejdhgchanilaa
set_option linter.unusedVariables false
set_option linter.unusedSimpArgs false
open Go.RowKit Go.Sort Go.Lib

theorem first_some {v : Value} {l S : List PlaceV} (hS : InOrder S l) (last : PlaceV) (all : Bool) {w : World} (h : RowP w v l) (hl : l.length ≤ 1048576) (p : PlaceV) (ho : (S.filter (fun x => all || decide (ltP last x))).head? = some p) :
    Calls Try.prog 16 #[v, .agg #[.int .i64 last.flow, .int .u64 last.gen], .bool all] w fun e w' => e = .returned (.tuple #[.agg #[.int .i64 p.flow, .int .u64 p.gen], .bool true]) ∧ Grows w w' := pfirst_any v l S hS last all w h hl _ ho
theorem first_none {v : Value} {l S : List PlaceV} (hS : InOrder S l) (last : PlaceV) (all : Bool) {w : World} (h : RowP w v l) (hl : l.length ≤ 1048576) (ho : (S.filter (fun x => all || decide (ltP last x))).head? = none) :
    Calls Try.prog 16 #[v, .agg #[.int .i64 last.flow, .int .u64 last.gen], .bool all] w fun e w' => e = .returned (.tuple #[.agg #[.int .i64 0, .int .u64 0], .bool false]) ∧ Grows w w' := pfirst_any v l S hS last all w h hl _ ho
theorem all_head (S : List PlaceV) (last : PlaceV) : (S.filter (fun x => true || decide (ltP last x))).head? = S.head? := by
  have e : S.filter (fun x => true || decide (ltP last x)) = S := by
    induction S with
    | nil => rfl
    | cons a r ih => rw [List.filter_cons, if_pos (by rfl), ih]
  rw [e]
theorem round_head_true {S : List PlaceV} (hS : Sorted S) (last : PlaceV) : (roundP S last true).head? = match (S.filter (fun x => false || decide (ltP last x))).head? with | some p => some p | none => S.head? := by
  have e := sorted_split S hS last
  simp only [Bool.false_or]
  unfold roundP
  rw [if_pos rfl]
  cases hA : S.filter (fun x => decide (ltP last x)) with
  | nil =>
    rw [hA, List.append_nil] at e
    rw [List.nil_append, ← e]
    rfl
  | cons a r => rfl

set_option maxHeartbeats 16000000 in
theorem refnext_S (v : Value) (l S : List PlaceV) (hS : InOrder S l) (last : PlaceV) (begun : Bool) (w : World) (h : RowP w v l) (hl : l.length ≤ 1048576) (o : Option PlaceV) (ho : (roundP S last begun).head? = o) :
    Calls Try.prog 9 #[v, .agg #[.int .i64 last.flow, .int .u64 last.gen], .bool begun] w fun e w' => e = .returned (nextV o) ∧ Grows w w' := by
  have hg : Grows w ((w.alloc (.cells #[.int .i64 last.flow, .int .u64 last.gen] 25)).alloc (.cells #[.int .i64 0, .int .u64 0] 25)) := ((Ext.refl _ w).alloc _).alloc _
  have k4 : ((w.alloc (.cells #[.int .i64 last.flow, .int .u64 last.gen] 25)).alloc (.cells #[.int .i64 0, .int .u64 0] 25)).heap[w.heap.size]? = some (.cells #[.int .i64 last.flow, .int .u64 last.gen] 25 (0, 0)) := ((Ext.refl (fun _ => False) (w.alloc (.cells #[.int .i64 last.flow, .int .u64 last.gen] 25))).alloc _).block _ (by simp) (fun h => h) |>.trans (heap_alloc_new w _)
  have k6 := heap_alloc_new (w.alloc (.cells #[.int .i64 last.flow, .int .u64 last.gen] 25)) (.cells #[.int .i64 0, .int .u64 0] 25 (0, 0))
  rw [show (w.alloc (.cells #[.int .i64 last.flow, .int .u64 last.gen] 25)).heap.size = w.heap.size + 1 by simp] at k6
  have H := Lib.hid (And.intro h (And.intro hg (And.intro k4 k6)))
  obtain ⟨o1, ho1⟩ : ∃ o1, (S.filter (fun x => false || decide (ltP last x))).head? = o1 := ⟨_, rfl⟩
  have hrt := round_head_true hS.1 last
  rw [ho1] at hrt
  have HO := Lib.hid (And.intro ho (And.intro ho1 hrt))
  clear h hg k4 k6 ho ho1 hrt
  go_enter Try.func9, Try.ntmps9
  go_wp2_with fail
  generalize (w.alloc (.cells #[.int .i64 last.flow, .int .u64 last.gen] 25)).alloc (.cells #[.int .i64 0, .int .u64 0] 25) = w2 at H ⊢
  have key : Calls Try.prog 16 #[v, .agg #[.int .i64 last.flow, .int .u64 last.gen], .bool false] w2 fun e w' => e = .returned (.tuple #[.agg #[.int .i64 (o1.getD ⟨0, 0⟩).flow, .int .u64 (o1.getD ⟨0, 0⟩).gen], .bool o1.isSome]) ∧ Grows w2 w' := by
    cases o1 with
    | none => exact first_none hS last false (H.out.1.grows H.out.2.1) hl HO.out.2.1
    | some p => exact first_some hS last false (H.out.1.grows H.out.2.1) hl p HO.out.2.1
  refine key.mono ?_
  clear key
  rintro e w3 ⟨rfl, g3⟩
  have ga : Grows w3 (w3.alloc (.cells #[.int .i64 (o1.getD ⟨0, 0⟩).flow, .int .u64 (o1.getD ⟨0, 0⟩).gen] 25)) := (Ext.refl _ _).alloc _
  have k8 := heap_alloc_new w3 (.cells #[.int .i64 (o1.getD ⟨0, 0⟩).flow, .int .u64 (o1.getD ⟨0, 0⟩).gen] 25 (0, 0))
  go_upto_region 2 with fail
  have k4 := ((g3.trans ga).block _ (heap_lt H.out.2.2.1) (fun h => h)).trans H.out.2.2.1
  have k6 := ((g3.trans ga).block _ (heap_lt H.out.2.2.2) (fun h => h)).trans H.out.2.2.2
  have hg := H.out.2.1.trans (g3.trans ga)
  generalize w3.alloc (.cells #[.int .i64 (o1.getD ⟨0, 0⟩).flow, .int .u64 (o1.getD ⟨0, 0⟩).gen] 25) = w4 at k4 k6 k8 hg ⊢
  generalize w3.heap.size = b8 at k8 ⊢
  have HK := Lib.hid (And.intro hg (And.intro k4 k6))
  have hrow := H.out.1.grows hg
  clear g3 ga H
  by_cases hb : begun = true ∧ o1.isSome = true
  · obtain ⟨rfl, h1⟩ := hb
    cases o1 with
    | none => cases h1
    | some p =>
      have ho2 : o = some p := by rw [← HO.out.1, HO.out.2.2]
      subst ho2
      have p0 := cell_of_heap k8 0
      have p1 := cell_of_heap k8 1
      have q0 := cell_of_heap k6 0
      have q1 := cell_of_heap k6 1
      have f0 := frozen_of_heap k6 0
      have f1 := frozen_of_heap k6 1
      simp at p0 p1 q0 q1
      have hgs : ∀ x y : Value, Grows w ((w4.setCell ⟨w.heap.size + 1, 0, none⟩ x).setCell ⟨w.heap.size + 1, 1, none⟩ y) := fun x y =>
        Ext.setCell (Ext.setCell hg ⟨w.heap.size + 1, 0, none⟩ (.inl (Nat.le_succ _)) x) ⟨w.heap.size + 1, 1, none⟩ (.inl (Nat.le_succ _)) y
      have HG := Lib.hid hgs
      clear hgs hg k4 k6 k8 hrow
      go_wp2
      refine bodyPost_ret (v := nextV (some p)) ?_ rfl ⟨rfl, ?_⟩
      · rw [results_cell_tmp rfl]
        go_simp
        rfl
      · exact HG.out _ _
  · have ho2 : o = S.head? := by
      rw [← HO.out.1]
      cases begun with
      | false => unfold roundP; rw [if_neg (by simp)]
      | true =>
        rw [HO.out.2.2]
        cases o1 with
        | none => rfl
        | some p => exact absurd ⟨rfl, rfl⟩ hb
    have d0 := cell_of_heap k4 0
    have d1 := cell_of_heap k4 1
    simp at d0 d1
    have key2 : Calls Try.prog 16 #[v, .agg #[.int .i64 last.flow, .int .u64 last.gen], .bool true] w4 fun e w' => e = .returned (nextV o) ∧ Grows w4 w' := pfirst_any v l S hS last true w4 hrow hl o (by rw [all_head, ho2])
    have KEY := Lib.hid key2
    clear key2 hg k4 k6 k8 hrow
    have hcond : begun = false ∨ (begun = true ∧ o1 = none) := by
      cases begun with
      | false => exact .inl rfl
      | true =>
        cases o1 with
        | none => exact .inr ⟨rfl, rfl⟩
        | some p => exact absurd ⟨rfl, rfl⟩ hb
    clear hb
    rcases hcond with rfl | ⟨rfl, rfl⟩
    all_goals
      go_wp2_with fail
      refine KEY.out.mono ?_
      rintro e w5 ⟨rfl, g5⟩
      have k6 := (g5.block _ (heap_lt HK.out.2.2) (fun h => h)).trans HK.out.2.2
      have q0 := cell_of_heap k6 0
      have q1 := cell_of_heap k6 1
      have f0 := frozen_of_heap k6 0
      have f1 := frozen_of_heap k6 1
      simp at q0 q1
      have hg := HK.out.1.trans g5
      have hgs : ∀ x y : Value, Grows w ((w5.setCell ⟨w.heap.size + 1, 0, none⟩ x).setCell ⟨w.heap.size + 1, 1, none⟩ y) := fun x y =>
        Ext.setCell (Ext.setCell hg ⟨w.heap.size + 1, 0, none⟩ (.inl (Nat.le_succ _)) x) ⟨w.heap.size + 1, 1, none⟩ (.inl (Nat.le_succ _)) y
      have HG := Lib.hid hgs
      clear hgs hg k6 g5 d0 d1
      clear ho2 HO
      cases o with
      | none =>
        simp only [nextV]
        go_wp2
        refine bodyPost_ret (v := nextV none) ?_ rfl ⟨rfl, ?_⟩
        · rw [results_cell_tmp rfl]
          go_simp
          rfl
        · exact HG.out _ _
      | some c =>
        simp only [nextV]
        go_wp2
        refine bodyPost_ret (v := nextV (some c)) ?_ rfl ⟨rfl, ?_⟩
        · rw [results_cell_tmp rfl]
          go_simp
          rfl
        · exact HG.out _ _

end Go.Proofs.Ytlejdhgchanilaa
