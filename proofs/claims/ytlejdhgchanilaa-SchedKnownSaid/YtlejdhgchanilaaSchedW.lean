/- sched: wakes. -/
import Derived.Test.YtlejdhgchanilaaSchedG
namespace Go.Proofs.Ytlejdhgchanilaa
set_option linter.unusedVariables false
set_option linter.unusedSimpArgs false
open Go.RowKit Go.Sort Go.Lib

theorem next_some {v : Value} {l S : List PlaceV} (hS : InOrder S l) (last : PlaceV) (begun : Bool) {w : World} (h : OwnP w v l) (hl : l.length ≤ 1048576) (p : PlaceV) (ho : (roundP S last begun).head? = some p) :
    Calls Try.prog 8 #[v, .agg #[.int .i64 last.flow, .int .u64 last.gen], .bool begun] w fun e w' => e = .returned (.tuple #[.agg #[.int .i64 p.flow, .int .u64 p.gen], .bool true]) ∧ Grows w w' := next_S v l S hS last begun w h hl _ ho
theorem next_none {v : Value} {l S : List PlaceV} (hS : InOrder S l) (last : PlaceV) (begun : Bool) {w : World} (h : OwnP w v l) (hl : l.length ≤ 1048576) (ho : (roundP S last begun).head? = none) :
    Calls Try.prog 8 #[v, .agg #[.int .i64 last.flow, .int .u64 last.gen], .bool begun] w fun e w' => e = .returned (.tuple #[.agg #[.int .i64 0, .int .u64 0], .bool false]) ∧ Grows w w' := next_S v l S hS last begun w h hl _ ho
theorem nil_pl (w : World) : OwnP w (.slice none 0 0) [] := OwnS.nil _ _ _

theorem compare_g (a b : PlaceV) (x : Int) (hx : cmpP a b = x) (w : World) : Calls Try.prog 13 #[.agg #[.int .i64 a.flow, .int .u64 a.gen], .agg #[.int .i64 b.flow, .int .u64 b.gen]] w fun e w' => e = .returned (.int .i64 x) ∧ Grows w w' := by
  subst hx
  refine (compare_any a b w).mono ?_
  rintro e w' ⟨rfl, q, os, rfl⟩
  exact ⟨rfl, grow_grows w q os⟩

def wl : List PlaceV := [⟨0, 3⟩, ⟨1, 0⟩]
theorem wl_order : InOrder wl wl := ⟨by unfold Sorted wl; simp [ltP], fun x => Iff.rfl⟩

set_option maxHeartbeats 16000000 in
theorem sched_wakes (w : World) : Calls Try.prog 15 #[] w fun e w' => e = .returned (.bool true) ∧ Grows w w' := by
  have hgd := eqGuardP
  have hb : (w.alloc (.cells #[.int .i64 0, .int .u64 3, .int .i64 1, .int .u64 0] 28)).heap[w.heap.size]? = some (.cells #[.int .i64 0, .int .u64 ((3 : Nat) : Int), .int .i64 1, .int .u64 ((0 : Nat) : Int)] 28 (0, 0)) := heap_alloc_new w _
  have ho : OwnP (w.alloc (.cells #[.int .i64 0, .int .u64 3, .int .i64 1, .int .u64 0] 28)) (.slice (some ⟨w.heap.size, 0, none⟩) 2 2) wl := by
    refine ⟨rfl, .inr ⟨w.heap.size, 0, 2, _, rfl, hb, Nat.le_refl _, by unfold maxLen; omega, by simp, fun i hi => ?_⟩⟩
    have : i = 0 ∨ i = 1 ∨ i = 2 ∨ i = 3 := by simp [wl] at hi; omega
    rcases this with rfl | rfl | rfl | rfl <;> rfl
  have hg : Grows w (w.alloc (.cells #[.int .i64 0, .int .u64 3, .int .i64 1, .int .u64 0] 28)) := (Ext.refl _ w).alloc _
  have H := Lib.hid (And.intro ho (And.intro hg hb))
  clear ho hg hb
  go_enter Try.func15, Try.ntmps15
  go_wp2_with fail
  generalize w.alloc (.cells #[.int .i64 0, .int .u64 3, .int .i64 1, .int .u64 0] 28) = w1 at H ⊢
  obtain ⟨ho, hg, kl⟩ := H.out
  clear H
  generalize w.heap.size = bl at ho kl ⊢
  refine (next_some wl_order (⟨0, 3⟩ : PlaceV) true ho (by decide) ⟨1, 0⟩ rfl).mono ?_
  rintro e y0 ⟨rfl, g0⟩
  have ga : Grows y0 (y0.alloc (.cells #[.int .i64 1, .int .u64 0] 28)) := (Ext.refl _ _).alloc _
  have ho := (ho.grows g0).grows ga
  have hg := (hg.trans g0).trans ga
  have kl := (ga.block _ (heap_lt ((g0.block _ (heap_lt kl) (fun h => h)).trans kl)) (fun h => h)).trans ((g0.block _ (heap_lt kl) (fun h => h)).trans kl)
  have ka : (y0.alloc (.cells #[.int .i64 1, .int .u64 0] 28)).heap[y0.heap.size]? = some (.cells #[.int .i64 1, .int .u64 0] 28 (0, 0)) := heap_alloc_new y0 _
  clear ga g0
  have l0 := cell_of_heap kl 0
  have l1 := cell_of_heap kl 1
  have l2 := cell_of_heap kl 2
  have l3 := cell_of_heap kl 3
  simp at l0 l1 l2 l3
  have a0 := cell_of_heap ka 0
  have a1 := cell_of_heap ka 1
  simp at a0 a1
  have HC0 := Lib.hid (And.intro ho (And.intro hg (And.intro kl (And.intro ka (True.intro)))))
  clear ho hg kl ka
  go_wp2_with fail
  clear l0 l1 l2 l3 a0 a1
  obtain ⟨ho, hg, kl, ka, _⟩ := HC0.out
  clear HC0
  generalize y0.alloc (.cells #[.int .i64 1, .int .u64 0] 28) = z0 at *
  generalize y0.heap.size = ba at *
  refine (next_some wl_order (⟨1, 0⟩ : PlaceV) true ho (by decide) ⟨0, 3⟩ rfl).mono ?_
  rintro e y1 ⟨rfl, g1⟩
  have ga : Grows y1 (y1.alloc (.cells #[.int .i64 0, .int .u64 3] 28)) := (Ext.refl _ _).alloc _
  have ho := (ho.grows g1).grows ga
  have hg := (hg.trans g1).trans ga
  have kl := (ga.block _ (heap_lt ((g1.block _ (heap_lt kl) (fun h => h)).trans kl)) (fun h => h)).trans ((g1.block _ (heap_lt kl) (fun h => h)).trans kl)
  have ka := (ga.block _ (heap_lt ((g1.block _ (heap_lt ka) (fun h => h)).trans ka)) (fun h => h)).trans ((g1.block _ (heap_lt ka) (fun h => h)).trans ka)
  have kb : (y1.alloc (.cells #[.int .i64 0, .int .u64 3] 28)).heap[y1.heap.size]? = some (.cells #[.int .i64 0, .int .u64 3] 28 (0, 0)) := heap_alloc_new y1 _
  clear ga g1
  have l0 := cell_of_heap kl 0
  have l1 := cell_of_heap kl 1
  have l2 := cell_of_heap kl 2
  have l3 := cell_of_heap kl 3
  simp at l0 l1 l2 l3
  have a0 := cell_of_heap ka 0
  have a1 := cell_of_heap ka 1
  simp at a0 a1
  have b0 := cell_of_heap kb 0
  have b1 := cell_of_heap kb 1
  simp at b0 b1
  have HC1 := Lib.hid (And.intro ho (And.intro hg (And.intro kl (And.intro ka (And.intro kb (True.intro))))))
  clear ho hg kl ka kb
  go_wp2_with fail
  clear l0 l1 l2 l3 a0 a1 b0 b1
  obtain ⟨ho, hg, kl, ka, kb, _⟩ := HC1.out
  clear HC1
  generalize y1.alloc (.cells #[.int .i64 0, .int .u64 3] 28) = z1 at *
  generalize y1.heap.size = bb at *
  refine (next_some wl_order (⟨0, 3⟩ : PlaceV) false ho (by decide) ⟨0, 3⟩ rfl).mono ?_
  rintro e y2 ⟨rfl, g2⟩
  have ga : Grows y2 (y2.alloc (.cells #[.int .i64 0, .int .u64 3] 28)) := (Ext.refl _ _).alloc _
  have ho := (ho.grows g2).grows ga
  have hg := (hg.trans g2).trans ga
  have kl := (ga.block _ (heap_lt ((g2.block _ (heap_lt kl) (fun h => h)).trans kl)) (fun h => h)).trans ((g2.block _ (heap_lt kl) (fun h => h)).trans kl)
  have ka := (ga.block _ (heap_lt ((g2.block _ (heap_lt ka) (fun h => h)).trans ka)) (fun h => h)).trans ((g2.block _ (heap_lt ka) (fun h => h)).trans ka)
  have kb := (ga.block _ (heap_lt ((g2.block _ (heap_lt kb) (fun h => h)).trans kb)) (fun h => h)).trans ((g2.block _ (heap_lt kb) (fun h => h)).trans kb)
  have kc : (y2.alloc (.cells #[.int .i64 0, .int .u64 3] 28)).heap[y2.heap.size]? = some (.cells #[.int .i64 0, .int .u64 3] 28 (0, 0)) := heap_alloc_new y2 _
  clear ga g2
  have l0 := cell_of_heap kl 0
  have l1 := cell_of_heap kl 1
  have l2 := cell_of_heap kl 2
  have l3 := cell_of_heap kl 3
  simp at l0 l1 l2 l3
  have a0 := cell_of_heap ka 0
  have a1 := cell_of_heap ka 1
  simp at a0 a1
  have b0 := cell_of_heap kb 0
  have b1 := cell_of_heap kb 1
  simp at b0 b1
  have c0 := cell_of_heap kc 0
  have c1 := cell_of_heap kc 1
  simp at c0 c1
  have HC2 := Lib.hid (And.intro ho (And.intro hg (And.intro kl (And.intro ka (And.intro kb (And.intro kc (True.intro)))))))
  clear ho hg kl ka kb kc
  go_wp2_with fail
  clear l0 l1 l2 l3 a0 a1 b0 b1 c0 c1
  obtain ⟨ho, hg, kl, ka, kb, kc, _⟩ := HC2.out
  clear HC2
  generalize y2.alloc (.cells #[.int .i64 0, .int .u64 3] 28) = z2 at *
  generalize y2.heap.size = bc at *
  refine (next_none (S := []) (l := []) ⟨List.Pairwise.nil, fun x => Iff.rfl⟩ (⟨0, 3⟩ : PlaceV) true (nil_pl _) (by decide) rfl).mono ?_
  rintro e y3 ⟨rfl, g3⟩
  have ga : Grows y3 (y3.alloc (.cells #[.int .i64 0, .int .u64 0] 28)) := (Ext.refl _ _).alloc _
  have ho := (ho.grows g3).grows ga
  have hg := (hg.trans g3).trans ga
  have kl := (ga.block _ (heap_lt ((g3.block _ (heap_lt kl) (fun h => h)).trans kl)) (fun h => h)).trans ((g3.block _ (heap_lt kl) (fun h => h)).trans kl)
  have ka := (ga.block _ (heap_lt ((g3.block _ (heap_lt ka) (fun h => h)).trans ka)) (fun h => h)).trans ((g3.block _ (heap_lt ka) (fun h => h)).trans ka)
  have kb := (ga.block _ (heap_lt ((g3.block _ (heap_lt kb) (fun h => h)).trans kb)) (fun h => h)).trans ((g3.block _ (heap_lt kb) (fun h => h)).trans kb)
  have kc := (ga.block _ (heap_lt ((g3.block _ (heap_lt kc) (fun h => h)).trans kc)) (fun h => h)).trans ((g3.block _ (heap_lt kc) (fun h => h)).trans kc)
  have kd : (y3.alloc (.cells #[.int .i64 0, .int .u64 0] 28)).heap[y3.heap.size]? = some (.cells #[.int .i64 0, .int .u64 0] 28 (0, 0)) := heap_alloc_new y3 _
  clear ga g3
  have l0 := cell_of_heap kl 0
  have l1 := cell_of_heap kl 1
  have l2 := cell_of_heap kl 2
  have l3 := cell_of_heap kl 3
  simp at l0 l1 l2 l3
  have a0 := cell_of_heap ka 0
  have a1 := cell_of_heap ka 1
  simp at a0 a1
  have b0 := cell_of_heap kb 0
  have b1 := cell_of_heap kb 1
  simp at b0 b1
  have c0 := cell_of_heap kc 0
  have c1 := cell_of_heap kc 1
  simp at c0 c1
  have d0 := cell_of_heap kd 0
  have d1 := cell_of_heap kd 1
  simp at d0 d1
  have HC3 := Lib.hid (And.intro ho (And.intro hg (And.intro kl (And.intro ka (And.intro kb (And.intro kc (And.intro kd (True.intro))))))))
  clear ho hg kl ka kb kc kd
  go_upto_region 6 with fail
  obtain ⟨ho, hg, kl, ka, kb, kc, kd, _⟩ := HC3.out
  clear HC3
  generalize y3.alloc (.cells #[.int .i64 0, .int .u64 0] 28) = z3 at *
  generalize y3.heap.size = bd at *
  have e1 := eqS ⟨1, 0⟩ ⟨1, 0⟩
  have e2 := eqS ⟨0, 3⟩ ⟨0, 3⟩
  simp only [decide_true] at e1 e2
  have HG := Lib.hid hg
  clear hg ho kl ka kb kc kd
  go_quiet (fail)
  go_wp2
  go_ret
  exact ⟨rfl, HG.out.trans ⟨rfl, rfl, rfl, Nat.le_refl _, fun _ _ _ => rfl⟩⟩

end Go.Proofs.Ytlejdhgchanilaa
