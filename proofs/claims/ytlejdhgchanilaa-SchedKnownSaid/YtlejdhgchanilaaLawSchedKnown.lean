/- SchedKnown: the chapter's rows, the ends. -/
import Derived.Test.YtlejdhgchanilaaSchedW
namespace Go.Proofs.Ytlejdhgchanilaa
set_option linter.unusedVariables false
set_option linter.unusedSimpArgs false
open Go.ChangeShapes Go.WideShapes Go.RowKit Go.Sort Go.Lib

def plo : PlaceV := ⟨-9223372036854775808, 0⟩
def pto : PlaceV := ⟨9223372036854775807, 18446744073709551615⟩
theorem lt_ends : ltP plo pto := .inl (by decide)
theorem ends_order : InOrder [plo, pto] [pto, plo] := ⟨by unfold Sorted; simp [lt_ends], fun x => by simp [or_comm]⟩
theorem top_order : InOrder [pto] [pto, pto] := ⟨by unfold Sorted; simp, fun x => by simp⟩
theorem own_two {w : World} {b : Nat} (x y : PlaceV) (hb : w.heap[b]? = some (.cells #[.int .i64 x.flow, .int .u64 x.gen, .int .i64 y.flow, .int .u64 y.gen] 28 (0, 0))) : OwnP w (.slice (some ⟨b, 0, none⟩) 2 2) [x, y] := by
  refine ⟨rfl, .inr ⟨b, 0, 2, _, rfl, hb, Nat.le_refl _, by unfold maxLen; omega, by simp, fun i hi => ?_⟩⟩
  have : i = 0 ∨ i = 1 ∨ i = 2 ∨ i = 3 := by simp at hi; omega
  rcases this with rfl | rfl | rfl | rfl <;> rfl

set_option maxHeartbeats 16000000 in
theorem SchedKnown_walk (w : World) : Calls Try.prog 6 #[] w fun e w' => e = .returned (.bool true) ∧ Below w.heap.size w w' := by
  have hgd := eqGuardP
  go_enter Try.func6, Try.ntmps6
  go_wp2_with fail
  have hg : Grows w (((w.alloc (.cells #[.int .i64 (-9223372036854775808), .int .u64 0] 28)).alloc (.cells #[.int .i64 9223372036854775807, .int .u64 18446744073709551615] 28)).alloc (.cells #[.int .i64 9223372036854775807, .int .u64 18446744073709551615, .int .i64 (-9223372036854775808), .int .u64 0] 28)) := (((Ext.refl _ _).alloc _).alloc _).alloc _
  have k1 : (((w.alloc (.cells #[.int .i64 (-9223372036854775808), .int .u64 0] 28)).alloc (.cells #[.int .i64 9223372036854775807, .int .u64 18446744073709551615] 28)).alloc (.cells #[.int .i64 9223372036854775807, .int .u64 18446744073709551615, .int .i64 (-9223372036854775808), .int .u64 0] 28)).heap[w.heap.size]? = some (.cells #[.int .i64 (-9223372036854775808), .int .u64 0] 28 (0, 0)) := (((Ext.refl (fun _ => False) (w.alloc (.cells #[.int .i64 (-9223372036854775808), .int .u64 0] 28))).alloc _).alloc _).block _ (by simp) (fun h => h) |>.trans (heap_alloc_new w _)
  have k2 : (((w.alloc (.cells #[.int .i64 (-9223372036854775808), .int .u64 0] 28)).alloc (.cells #[.int .i64 9223372036854775807, .int .u64 18446744073709551615] 28)).alloc (.cells #[.int .i64 9223372036854775807, .int .u64 18446744073709551615, .int .i64 (-9223372036854775808), .int .u64 0] 28)).heap[w.heap.size + 1]? = some (.cells #[.int .i64 9223372036854775807, .int .u64 18446744073709551615] 28 (0, 0)) := by
    have h9 := heap_alloc_new (w.alloc (.cells #[.int .i64 (-9223372036854775808), .int .u64 0] 28)) (.cells #[.int .i64 9223372036854775807, .int .u64 18446744073709551615] 28 (0, 0))
    rw [show (w.alloc (.cells #[.int .i64 (-9223372036854775808), .int .u64 0] 28)).heap.size = w.heap.size + 1 by simp] at h9
    exact ((Ext.refl (fun _ => False) ((w.alloc (.cells #[.int .i64 (-9223372036854775808), .int .u64 0] 28)).alloc (.cells #[.int .i64 9223372036854775807, .int .u64 18446744073709551615] 28))).alloc _).block _ (by simp) (fun h => h) |>.trans h9
  have k3 : (((w.alloc (.cells #[.int .i64 (-9223372036854775808), .int .u64 0] 28)).alloc (.cells #[.int .i64 9223372036854775807, .int .u64 18446744073709551615] 28)).alloc (.cells #[.int .i64 9223372036854775807, .int .u64 18446744073709551615, .int .i64 (-9223372036854775808), .int .u64 0] 28)).heap[w.heap.size + 1 + 1]? = some (.cells #[.int .i64 9223372036854775807, .int .u64 18446744073709551615, .int .i64 (-9223372036854775808), .int .u64 0] 28 (0, 0)) := by
    have h9 := heap_alloc_new ((w.alloc (.cells #[.int .i64 (-9223372036854775808), .int .u64 0] 28)).alloc (.cells #[.int .i64 9223372036854775807, .int .u64 18446744073709551615] 28)) (.cells #[.int .i64 9223372036854775807, .int .u64 18446744073709551615, .int .i64 (-9223372036854775808), .int .u64 0] 28 (0, 0))
    rwa [show ((w.alloc (.cells #[.int .i64 (-9223372036854775808), .int .u64 0] 28)).alloc (.cells #[.int .i64 9223372036854775807, .int .u64 18446744073709551615] 28)).heap.size = w.heap.size + 1 + 1 by simp] at h9
  generalize ((w.alloc (.cells #[.int .i64 (-9223372036854775808), .int .u64 0] 28)).alloc (.cells #[.int .i64 9223372036854775807, .int .u64 18446744073709551615] 28)).alloc (.cells #[.int .i64 9223372036854775807, .int .u64 18446744073709551615, .int .i64 (-9223372036854775808), .int .u64 0] 28) = v0 at *
  generalize w.heap.size + 1 + 1 = b3 at *
  generalize w.heap.size + 1 = b2 at *
  generalize hb1 : w.heap.size = b1 at k1 ⊢
  clear hb1
  refine (next_some ends_order (⟨9223372036854775807, 18446744073709551615⟩ : PlaceV) true (own_two (⟨9223372036854775807, 18446744073709551615⟩ : PlaceV) (⟨-9223372036854775808, 0⟩ : PlaceV) k3) (by decide) (⟨-9223372036854775808, 0⟩ : PlaceV) (by decide)).mono ?_
  rintro e y0 ⟨rfl, g⟩
  have ga : Grows y0 ((y0.alloc (.cells #[.int .i64 (-9223372036854775808), .int .u64 0] 28)).alloc (.cells #[.int .i64 9223372036854775807, .int .u64 18446744073709551615, .int .i64 (-9223372036854775808), .int .u64 0] 28)) := ((Ext.refl _ _).alloc _).alloc _
  have ga1 : Grows y0 (y0.alloc (.cells #[.int .i64 (-9223372036854775808), .int .u64 0] 28)) := (Ext.refl _ _).alloc _
  clear k3
  have hg := hg.trans g
  have k1 := (g.block _ (heap_lt k1) (fun h => h)).trans k1
  have k2 := (g.block _ (heap_lt k2) (fun h => h)).trans k2
  have k1x := (ga1.block _ (heap_lt k1) (fun h => h)).trans k1
  have p0 := cell_of_heap k1x 0
  have p1 := cell_of_heap k1x 1
  simp at p0 p1
  have k2x := (ga1.block _ (heap_lt k2) (fun h => h)).trans k2
  have q0 := cell_of_heap k2x 0
  have q1 := cell_of_heap k2x 1
  simp at q0 q1
  clear k1x k2x
  have k1z := (ga.block _ (heap_lt k1) (fun h => h)).trans k1
  have p0z := cell_of_heap k1z 0
  have p1z := cell_of_heap k1z 1
  simp at p0z p1z
  have k2z := (ga.block _ (heap_lt k2) (fun h => h)).trans k2
  have q0z := cell_of_heap k2z 0
  have q1z := cell_of_heap k2z 1
  simp at q0z q1z
  clear k1z k2z
  have HC0 := Lib.hid (And.intro hg (And.intro k1 (And.intro k2 (True.intro))))
  clear hg k1 k2
  go_wp2_with fail
  clear p0z p1z q0z q1z
  clear p0 p1 q0 q1
  obtain ⟨hg, k1, k2, _⟩ := HC0.out
  clear HC0
  have k1 := (ga.block _ (heap_lt k1) (fun h => h)).trans k1
  have k2 := (ga.block _ (heap_lt k2) (fun h => h)).trans k2
  have hg := hg.trans ga
  have k4 : ((y0.alloc (.cells #[.int .i64 (-9223372036854775808), .int .u64 0] 28)).alloc (.cells #[.int .i64 9223372036854775807, .int .u64 18446744073709551615, .int .i64 (-9223372036854775808), .int .u64 0] 28)).heap[y0.heap.size]? = some (.cells #[.int .i64 (-9223372036854775808), .int .u64 0] 28 (0, 0)) := ((Ext.refl (fun _ => False) (y0.alloc (.cells #[.int .i64 (-9223372036854775808), .int .u64 0] 28))).alloc _).block _ (by simp) (fun h => h) |>.trans (heap_alloc_new y0 _)
  have k3 : ((y0.alloc (.cells #[.int .i64 (-9223372036854775808), .int .u64 0] 28)).alloc (.cells #[.int .i64 9223372036854775807, .int .u64 18446744073709551615, .int .i64 (-9223372036854775808), .int .u64 0] 28)).heap[y0.heap.size + 1]? = some (.cells #[.int .i64 9223372036854775807, .int .u64 18446744073709551615, .int .i64 (-9223372036854775808), .int .u64 0] 28 (0, 0)) := by
    have h9 := heap_alloc_new (y0.alloc (.cells #[.int .i64 (-9223372036854775808), .int .u64 0] 28)) (.cells #[.int .i64 9223372036854775807, .int .u64 18446744073709551615, .int .i64 (-9223372036854775808), .int .u64 0] 28 (0, 0))
    rwa [show (y0.alloc (.cells #[.int .i64 (-9223372036854775808), .int .u64 0] 28)).heap.size = y0.heap.size + 1 by simp] at h9
  clear ga ga1 g
  generalize (y0.alloc (.cells #[.int .i64 (-9223372036854775808), .int .u64 0] 28)).alloc (.cells #[.int .i64 9223372036854775807, .int .u64 18446744073709551615, .int .i64 (-9223372036854775808), .int .u64 0] 28) = x0 at *
  generalize y0.heap.size + 1 = c0 at *
  generalize y0.heap.size = d0 at *
  refine (next_some ends_order (⟨-9223372036854775808, 0⟩ : PlaceV) true (own_two (⟨9223372036854775807, 18446744073709551615⟩ : PlaceV) (⟨-9223372036854775808, 0⟩ : PlaceV) k3) (by decide) (⟨9223372036854775807, 18446744073709551615⟩ : PlaceV) (by decide)).mono ?_
  rintro e y1 ⟨rfl, g⟩
  have ga : Grows y1 ((y1.alloc (.cells #[.int .i64 9223372036854775807, .int .u64 18446744073709551615] 28)).alloc (.cells #[.int .i64 9223372036854775807, .int .u64 18446744073709551615, .int .i64 9223372036854775807, .int .u64 18446744073709551615] 28)) := ((Ext.refl _ _).alloc _).alloc _
  have ga1 : Grows y1 (y1.alloc (.cells #[.int .i64 9223372036854775807, .int .u64 18446744073709551615] 28)) := (Ext.refl _ _).alloc _
  clear k3
  have hg := hg.trans g
  have k1 := (g.block _ (heap_lt k1) (fun h => h)).trans k1
  have k2 := (g.block _ (heap_lt k2) (fun h => h)).trans k2
  have k4 := (g.block _ (heap_lt k4) (fun h => h)).trans k4
  have k1x := (ga1.block _ (heap_lt k1) (fun h => h)).trans k1
  have p0 := cell_of_heap k1x 0
  have p1 := cell_of_heap k1x 1
  simp at p0 p1
  have k2x := (ga1.block _ (heap_lt k2) (fun h => h)).trans k2
  have q0 := cell_of_heap k2x 0
  have q1 := cell_of_heap k2x 1
  simp at q0 q1
  have k4x := (ga1.block _ (heap_lt k4) (fun h => h)).trans k4
  have r00 := cell_of_heap k4x 0
  have r01 := cell_of_heap k4x 1
  simp at r00 r01
  clear k1x k2x k4x
  have k1z := (ga.block _ (heap_lt k1) (fun h => h)).trans k1
  have p0z := cell_of_heap k1z 0
  have p1z := cell_of_heap k1z 1
  simp at p0z p1z
  have k2z := (ga.block _ (heap_lt k2) (fun h => h)).trans k2
  have q0z := cell_of_heap k2z 0
  have q1z := cell_of_heap k2z 1
  simp at q0z q1z
  have k4z := (ga.block _ (heap_lt k4) (fun h => h)).trans k4
  have r00z := cell_of_heap k4z 0
  have r01z := cell_of_heap k4z 1
  simp at r00z r01z
  clear k1z k2z k4z
  have HC1 := Lib.hid (And.intro hg (And.intro k1 (And.intro k2 (And.intro k4 (True.intro)))))
  clear hg k1 k2 k4
  go_wp2_with fail
  clear p0z p1z q0z q1z r00z r01z
  clear p0 p1 q0 q1 r00 r01
  obtain ⟨hg, k1, k2, k4, _⟩ := HC1.out
  clear HC1
  have k1 := (ga.block _ (heap_lt k1) (fun h => h)).trans k1
  have k2 := (ga.block _ (heap_lt k2) (fun h => h)).trans k2
  have k4 := (ga.block _ (heap_lt k4) (fun h => h)).trans k4
  have hg := hg.trans ga
  have k5 : ((y1.alloc (.cells #[.int .i64 9223372036854775807, .int .u64 18446744073709551615] 28)).alloc (.cells #[.int .i64 9223372036854775807, .int .u64 18446744073709551615, .int .i64 9223372036854775807, .int .u64 18446744073709551615] 28)).heap[y1.heap.size]? = some (.cells #[.int .i64 9223372036854775807, .int .u64 18446744073709551615] 28 (0, 0)) := ((Ext.refl (fun _ => False) (y1.alloc (.cells #[.int .i64 9223372036854775807, .int .u64 18446744073709551615] 28))).alloc _).block _ (by simp) (fun h => h) |>.trans (heap_alloc_new y1 _)
  have k3 : ((y1.alloc (.cells #[.int .i64 9223372036854775807, .int .u64 18446744073709551615] 28)).alloc (.cells #[.int .i64 9223372036854775807, .int .u64 18446744073709551615, .int .i64 9223372036854775807, .int .u64 18446744073709551615] 28)).heap[y1.heap.size + 1]? = some (.cells #[.int .i64 9223372036854775807, .int .u64 18446744073709551615, .int .i64 9223372036854775807, .int .u64 18446744073709551615] 28 (0, 0)) := by
    have h9 := heap_alloc_new (y1.alloc (.cells #[.int .i64 9223372036854775807, .int .u64 18446744073709551615] 28)) (.cells #[.int .i64 9223372036854775807, .int .u64 18446744073709551615, .int .i64 9223372036854775807, .int .u64 18446744073709551615] 28 (0, 0))
    rwa [show (y1.alloc (.cells #[.int .i64 9223372036854775807, .int .u64 18446744073709551615] 28)).heap.size = y1.heap.size + 1 by simp] at h9
  clear ga ga1 g
  generalize (y1.alloc (.cells #[.int .i64 9223372036854775807, .int .u64 18446744073709551615] 28)).alloc (.cells #[.int .i64 9223372036854775807, .int .u64 18446744073709551615, .int .i64 9223372036854775807, .int .u64 18446744073709551615] 28) = x1 at *
  generalize y1.heap.size + 1 = c1 at *
  generalize y1.heap.size = d1 at *
  refine (round_S _ _ _ top_order (⟨-9223372036854775808, 0⟩ : PlaceV) false _ (own_two (⟨9223372036854775807, 18446744073709551615⟩ : PlaceV) (⟨9223372036854775807, 18446744073709551615⟩ : PlaceV) k3) (by decide)).mono ?_
  rintro e y2 ⟨v2, rfl, ho2, g, _⟩
  clear k3
  have hlen : (roundP [pto] (⟨-9223372036854775808, 0⟩ : PlaceV) false).length = 1 := by decide
  obtain ⟨a2, n2, rfl⟩ := OwnS.form ho2
  rw [hlen]
  clear ho2 hlen
  have e1 := eqS (⟨-9223372036854775808, 0⟩ : PlaceV) (⟨-9223372036854775808, 0⟩ : PlaceV)
  have e2 := eqS (⟨9223372036854775807, 18446744073709551615⟩ : PlaceV) (⟨9223372036854775807, 18446744073709551615⟩ : PlaceV)
  simp only [decide_true] at e1 e2
  have hg := hg.trans g
  have k1 := (g.block _ (heap_lt k1) (fun h => h)).trans k1
  have k2 := (g.block _ (heap_lt k2) (fun h => h)).trans k2
  have k4 := (g.block _ (heap_lt k4) (fun h => h)).trans k4
  have k5 := (g.block _ (heap_lt k5) (fun h => h)).trans k5
  clear g
  have p0 := cell_of_heap k1 0
  have p1 := cell_of_heap k1 1
  simp at p0 p1
  have q0 := cell_of_heap k2 0
  have q1 := cell_of_heap k2 1
  simp at q0 q1
  have r00 := cell_of_heap k4 0
  have r01 := cell_of_heap k4 1
  simp at r00 r01
  have r10 := cell_of_heap k5 0
  have r11 := cell_of_heap k5 1
  simp at r10 r11
  have HC10 := Lib.hid (And.intro hg (And.intro k1 (And.intro k2 (And.intro k4 (And.intro k5 (True.intro))))))
  clear hg k1 k2 k4 k5
  go_wp2_with fail
  clear p0 p1 q0 q1 r00 r01 r10 r11
  obtain ⟨hg, k1, k2, k4, k5, _⟩ := HC10.out
  clear HC10
  refine (round_S _ [] [] ⟨List.Pairwise.nil, fun x => Iff.rfl⟩ (⟨-9223372036854775808, 0⟩ : PlaceV) true _ (nil_pl _) (by decide)).mono ?_
  rintro e y3 ⟨v3, rfl, ho3, g, _⟩
  obtain ⟨a3, n3, rfl⟩ := OwnS.form ho3
  clear ho3
  rw [show (roundP [] (⟨-9223372036854775808, 0⟩ : PlaceV) true).length = 0 from rfl]
  have hg := hg.trans g
  have k1 := (g.block _ (heap_lt k1) (fun h => h)).trans k1
  have k2 := (g.block _ (heap_lt k2) (fun h => h)).trans k2
  have k4 := (g.block _ (heap_lt k4) (fun h => h)).trans k4
  have k5 := (g.block _ (heap_lt k5) (fun h => h)).trans k5
  clear g
  have p0 := cell_of_heap k1 0
  have p1 := cell_of_heap k1 1
  simp at p0 p1
  have q0 := cell_of_heap k2 0
  have q1 := cell_of_heap k2 1
  simp at q0 q1
  have r00 := cell_of_heap k4 0
  have r01 := cell_of_heap k4 1
  simp at r00 r01
  have r10 := cell_of_heap k5 0
  have r11 := cell_of_heap k5 1
  simp at r10 r11
  have HC11 := Lib.hid (And.intro hg (And.intro k1 (And.intro k2 (And.intro k4 (And.intro k5 (True.intro))))))
  clear hg k1 k2 k4 k5
  go_wp2_with fail
  clear p0 p1 q0 q1 r00 r01 r10 r11
  obtain ⟨hg, k1, k2, k4, k5, _⟩ := HC11.out
  clear HC11
  refine (compare_g (⟨-9223372036854775808, 0⟩ : PlaceV) (⟨9223372036854775807, 18446744073709551615⟩ : PlaceV) (-1) (by decide) _).mono ?_
  rintro e y4 ⟨rfl, g⟩
  have hg := hg.trans g
  have k1 := (g.block _ (heap_lt k1) (fun h => h)).trans k1
  have k2 := (g.block _ (heap_lt k2) (fun h => h)).trans k2
  have k4 := (g.block _ (heap_lt k4) (fun h => h)).trans k4
  have k5 := (g.block _ (heap_lt k5) (fun h => h)).trans k5
  clear g
  have p0 := cell_of_heap k1 0
  have p1 := cell_of_heap k1 1
  simp at p0 p1
  have q0 := cell_of_heap k2 0
  have q1 := cell_of_heap k2 1
  simp at q0 q1
  have r00 := cell_of_heap k4 0
  have r01 := cell_of_heap k4 1
  simp at r00 r01
  have r10 := cell_of_heap k5 0
  have r11 := cell_of_heap k5 1
  simp at r10 r11
  have HC12 := Lib.hid (And.intro hg (And.intro k1 (And.intro k2 (And.intro k4 (And.intro k5 (True.intro))))))
  clear hg k1 k2 k4 k5
  go_wp2_with fail
  clear p0 p1 q0 q1 r00 r01 r10 r11
  obtain ⟨hg, k1, k2, k4, k5, _⟩ := HC12.out
  clear HC12
  refine (compare_g (⟨9223372036854775807, 18446744073709551615⟩ : PlaceV) (⟨-9223372036854775808, 0⟩ : PlaceV) 1 (by decide) _).mono ?_
  rintro e y5 ⟨rfl, g⟩
  have hg := hg.trans g
  have k1 := (g.block _ (heap_lt k1) (fun h => h)).trans k1
  have k2 := (g.block _ (heap_lt k2) (fun h => h)).trans k2
  have k4 := (g.block _ (heap_lt k4) (fun h => h)).trans k4
  have k5 := (g.block _ (heap_lt k5) (fun h => h)).trans k5
  clear g
  have p0 := cell_of_heap k1 0
  have p1 := cell_of_heap k1 1
  simp at p0 p1
  have q0 := cell_of_heap k2 0
  have q1 := cell_of_heap k2 1
  simp at q0 q1
  have r00 := cell_of_heap k4 0
  have r01 := cell_of_heap k4 1
  simp at r00 r01
  have r10 := cell_of_heap k5 0
  have r11 := cell_of_heap k5 1
  simp at r10 r11
  have HC13 := Lib.hid (And.intro hg (And.intro k1 (And.intro k2 (And.intro k4 (And.intro k5 (True.intro))))))
  clear hg k1 k2 k4 k5
  go_wp2_with fail
  clear p0 p1 q0 q1 r00 r01 r10 r11
  obtain ⟨hg, k1, k2, k4, k5, _⟩ := HC13.out
  clear HC13
  refine (compare_g (⟨9223372036854775807, 18446744073709551615⟩ : PlaceV) (⟨9223372036854775807, 18446744073709551615⟩ : PlaceV) 0 (by decide) _).mono ?_
  rintro e y6 ⟨rfl, g⟩
  have hg := hg.trans g
  have k1 := (g.block _ (heap_lt k1) (fun h => h)).trans k1
  have k2 := (g.block _ (heap_lt k2) (fun h => h)).trans k2
  have k4 := (g.block _ (heap_lt k4) (fun h => h)).trans k4
  have k5 := (g.block _ (heap_lt k5) (fun h => h)).trans k5
  clear g
  have p0 := cell_of_heap k1 0
  have p1 := cell_of_heap k1 1
  simp at p0 p1
  have q0 := cell_of_heap k2 0
  have q1 := cell_of_heap k2 1
  simp at q0 q1
  have r00 := cell_of_heap k4 0
  have r01 := cell_of_heap k4 1
  simp at r00 r01
  have r10 := cell_of_heap k5 0
  have r11 := cell_of_heap k5 1
  simp at r10 r11
  have HC14 := Lib.hid (And.intro hg (And.intro k1 (And.intro k2 (And.intro k4 (And.intro k5 (True.intro))))))
  clear hg k1 k2 k4 k5
  go_wp2_with fail
  clear p0 p1 q0 q1 r00 r01 r10 r11
  obtain ⟨hg, k1, k2, k4, k5, _⟩ := HC14.out
  clear HC14
  refine (sched_wakes _).mono ?_
  rintro e y7 ⟨rfl, g⟩
  have hg := hg.trans g
  have HG := Lib.hid hg
  clear hg g k1 k2 k4 k5
  go_wp2
  go_ret
  exact ⟨rfl, Ext.to_below HG.out⟩
namespace SchedKnownShell
theorem own : ownKnob Try.prog.godebug = none := by kernel_rfl
theorem laidOut : laidOutB Try.prog = true := by kernel_rfl
set_option maxRecDepth 100000 in
theorem lifted (os : Os) (started : os.Started) (H : Type) (enc : TypeId × Value → H) :
    ReturnsInHanded {} Try.checked os 6 .any (Rows.schedKnownSpec.pre6 enc Try.prog Try.f6 Rows.schedKnownRow.domain false) (Rows.schedKnownSpec.post enc Try.prog Try.f6 false true false false) := by
  refine returnsInHanded_of_change_sized (C := Try.checked) own started (by kernel_rfl) Try.func6
    (ChangeSpec.witness6 (enc := enc) (C := Try.checked) false ⟨#[], #[], []⟩ 8 (by kernel_rfl) (by kernel_rfl) (by kernel_rfl) (by kernel_rfl)) ?_
  intro W base args ds gs before hval0 hW hcnd hsz0 _
  have hval : ∀ (j : Nat) t v, Try.f6.params[j]? = some t → args[j]? = some v → Value.okWide Try.prog W .any base t v := hval0
  have hsz : (DataW.weightsEach Try.prog (Try.f6.params.toList ++ Rows.schedKnownSpec.plain.varTypes Try.prog) (ds ++ gs)).all (· ≤ reachBytes) = true := hsz0
  have hW' := hW
  obtain ⟨p, q, hA0, hV, rfl, hfz, hnd⟩ := hW
  have hA : DataW.TrodAll enc Try.prog W 0 (fun _ => true) true Try.f6.params.toList args.toList ds p := hA0
  rw [Try.params6] at hA hval hsz
  obtain ⟨hargs, rfl, rfl⟩ := trodAll_nil hA
  obtain rfl : args = #[] := by cases args; simp_all
  obtain ⟨rfl, rfl⟩ := trodVars_none hV
  clear hA0 hval0 hsz0
  refine (SchedKnown_walk  W ).mono fun e W' ⟨he, bel⟩ => ?_
  subst he
  exact ⟨_, rfl, _, _, _, [], _, [], hW', trodAll_mk1 (shut_bool Try.underlying4 _), trodAll_mk0, rfl, bel.frame _, fun h => by cases h⟩
theorem over : Rows.schedKnownRow.holds Try.pinned (OpenSpec.ofChange Rows.schedKnownSpec) :=
  OpenClaim.holds_of_wide 6 Try.f6 rfl rfl rfl rfl rfl rfl rfl ⟨rfl, rfl, rfl, rfl, rfl⟩ rfl rfl rfl rfl rfl (by kernel_rfl) Try.func6 (by kernel_rfl)
    (of_decide_eq_true (by kernel_rfl)) (by unfold Func.isWrapper; first | (rw [if_pos (by decide +kernel)]; kernel_rfl) | (rw [if_neg (by decide +kernel)]; exact ⟨rfl, rfl⟩))
    (fun os started H enc _ => lifted os started H enc)
end SchedKnownShell
theorem SchedKnown_holds : Rows.SchedKnownSaid := SchedKnownShell.over
#print axioms SchedKnown_holds
end Go.Proofs.Ytlejdhgchanilaa
