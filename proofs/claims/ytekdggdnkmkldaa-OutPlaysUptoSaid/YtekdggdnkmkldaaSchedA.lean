/- sched: the comparisons. -/
import Derived.Test.YtekdggdnkmkldaaSchedPlain
import Derived.Test.YtekdggdnkmkldaaFacts
import Derived.Deep.RegionHeld3
import Derived.Lib.Hide
import Derived.Sort.Grow
import Derived.Deep.Draws
import Derived.Deep.DeepCutAuto
namespace Go.Proofs.Ytekdggdnkmkldaa
set_option linter.unusedVariables false
set_option linter.unusedSimpArgs false
set_option maxRecDepth 1500
open Go.RowKit Go.Sort Go.Lib

theorem nanI (a : Int) (w : World) : Calls Try.prog 117 #[.int .i64 a] w fun e w' => e = .returned (.bool false) ∧ w = w' := by
  go_enter Try.func117, Try.ntmps117
  go_wp2
  go_ret
  exact ⟨rfl, rfl⟩
theorem nanU (a : Nat) (w : World) : Calls Try.prog 118 #[.int .u64 a] w fun e w' => e = .returned (.bool false) ∧ w = w' := by
  go_enter Try.func118, Try.ntmps118
  go_wp2
  go_ret
  exact ⟨rfl, rfl⟩
def cmpI (a b : Int) : Int := if a < b then -1 else if b < a then 1 else 0
theorem cmp_int (a b : Int) (w : World) : Calls Try.prog 104 #[.int .i64 a, .int .i64 b] w fun e w' => e = .returned (.int .i64 (cmpI a b)) ∧ w = w' := by
  go_enter Try.func104, Try.ntmps104
  go_wp2_with (first | (go_at_call 117; refine (nanI _ _).mono ?_; rintro e w' ⟨rfl, rfl⟩))
  all_goals
    go_ret
    refine ⟨ret_int ?_, rfl⟩
    unfold cmpI
    repeat' split
    all_goals omega
theorem cmp_uint (a b : Nat) (w : World) : Calls Try.prog 105 #[.int .u64 a, .int .u64 b] w fun e w' => e = .returned (.int .i64 (cmpI a b)) ∧ w = w' := by
  go_enter Try.func105, Try.ntmps105
  go_wp2_with (first | (go_at_call 118; refine (nanU _ _).mono ?_; rintro e w' ⟨rfl, rfl⟩))
  all_goals
    go_ret
    refine ⟨ret_int ?_, rfl⟩
    unfold cmpI
    repeat' split
    all_goals omega
theorem cmp_or (b : Nat) (x y : Int) (w : World) (h0 : w.cell? ⟨b, 0, none⟩ = some (.int .i64 x)) (h1 : w.cell? ⟨b, 1, none⟩ = some (.int .i64 y)) : Calls Try.prog 103 #[.slice (some ⟨b, 0, none⟩) 2 2] w fun e w' => e = .returned (.int .i64 (if x = 0 then y else x)) ∧ w = w' := by
  go_enter Try.func103, Try.ntmps103
  go_wp2
  refine wp_loop_rounds 3 ?_
  by_cases hx : x = 0
  · subst hx
    by_cases hy : y = 0
    · subst hy
      rw [rounds_succ]; go_wp2
      rw [rounds_succ]; go_wp2
      rw [rounds_succ]; go_wp2
      all_goals (go_ret; exact ⟨rfl, rfl⟩)
    · rw [rounds_succ]; go_wp2
      rw [rounds_succ]; go_wp2
      all_goals (go_ret; exact ⟨rfl, rfl⟩)
  · rw [rounds_succ]; go_wp2
    all_goals (go_ret; first | exact ⟨rfl, rfl⟩ | exact ⟨ret_int (by rw [if_neg hx]), rfl⟩)

theorem cmp_or' (b : Nat) (x y r : Int) (hr : (if x = 0 then y else x) = r) (w : World) (h0 : w.cell? ⟨b, 0, none⟩ = some (.int .i64 x)) (h1 : w.cell? ⟨b, 1, none⟩ = some (.int .i64 y)) : Calls Try.prog 103 #[.slice (some ⟨b, 0, none⟩) 2 2] w fun e w' => e = .returned (.int .i64 r) ∧ w = w' := hr ▸ cmp_or b x y w h0 h1
theorem new20 (w : World) (x y : Value) (t : TypeId) : (w.alloc (.cells #[x, y] t)).cell? ⟨w.heap.size, 0, none⟩ = some x := by rw [cell_of_heap (heap_alloc_new w _)]; rfl
theorem new21 (w : World) (x y : Value) (t : TypeId) : (w.alloc (.cells #[x, y] t)).cell? ⟨w.heap.size, 1, none⟩ = some y := by rw [cell_of_heap (heap_alloc_new w _)]; rfl
theorem grow_grows (w : World) (n : Nat) (os : Array Obj) : Grows w (grow (w.drewN n) os) := by
  refine ⟨rfl, rfl, rfl, by simp [grow, World.drewN], fun k hk _ => ?_⟩
  simp [grow, World.drewN, Array.getElem?_append_left hk]
theorem cmpP_or (a b : PlaceV) : (if cmpI a.flow b.flow = 0 then cmpI a.gen b.gen else cmpI a.flow b.flow) = cmpP a b := by
  unfold cmpI cmpP
  repeat' split
  all_goals omega

set_option maxHeartbeats 4000000 in
theorem compare_any (a b : PlaceV) (w : World) : Calls Try.prog 95 #[.agg #[.int .i64 a.flow, .int .u64 a.gen], .agg #[.int .i64 b.flow, .int .u64 b.gen]] w fun e w' => e = .returned (.int .i64 (cmpP a b)) ∧ ∃ q os, w' = grow (w.drewN q) os := by
  obtain ⟨x, hx⟩ : ∃ x, cmpI a.flow b.flow = x := ⟨_, rfl⟩
  obtain ⟨y, hy⟩ : ∃ y, cmpI a.gen b.gen = y := ⟨_, rfl⟩
  have c1 : ∀ W, Calls Try.prog 104 #[.int .i64 a.flow, .int .i64 b.flow] W fun e w' => e = .returned (.int .i64 x) ∧ W = w' := fun W => hx ▸ cmp_int _ _ W
  have c2 : ∀ W, Calls Try.prog 105 #[.int .u64 a.gen, .int .u64 b.gen] W fun e w' => e = .returned (.int .i64 y) ∧ W = w' := fun W => hy ▸ cmp_uint _ _ W
  have hxy : (if x = 0 then y else x) = cmpP a b := by rw [← hx, ← hy]; exact cmpP_or a b
  have HX := Lib.hid (And.intro c1 (And.intro c2 hxy))
  clear hx hy c1 c2 hxy
  go_enter Try.func95, Try.ntmps95
  go_upto_region 1 with fail
  have hw : (w.alloc (.cells #[.int .i64 a.flow, .int .u64 a.gen] 31)).alloc (.cells #[.int .i64 b.flow, .int .u64 b.gen] 31) = grow w #[.cells #[.int .i64 a.flow, .int .u64 a.gen] 31 (0, 0), .cells #[.int .i64 b.flow, .int .u64 b.gen] 31 (0, 0)] := by rw [alloc_eq_grow, alloc_eq_grow, grow_grow]; rfl
  have b1 : ((w.alloc (.cells #[.int .i64 a.flow, .int .u64 a.gen] 31)).alloc (.cells #[.int .i64 b.flow, .int .u64 b.gen] 31)).heap[w.heap.size]? = some (.cells #[.int .i64 a.flow, .int .u64 a.gen] 31 (0, 0)) := (((Ext.refl (fun _ => False) _).alloc _).block _ (by simp) (fun h => h)).trans (heap_alloc_new w _)
  have b2 : ((w.alloc (.cells #[.int .i64 a.flow, .int .u64 a.gen] 31)).alloc (.cells #[.int .i64 b.flow, .int .u64 b.gen] 31)).heap[w.heap.size + 1]? = some (.cells #[.int .i64 b.flow, .int .u64 b.gen] 31 (0, 0)) := by
    have h9 := heap_alloc_new (w.alloc (.cells #[.int .i64 a.flow, .int .u64 a.gen] 31)) (.cells #[.int .i64 b.flow, .int .u64 b.gen] 31 (0, 0))
    rwa [show (w.alloc (.cells #[.int .i64 a.flow, .int .u64 a.gen] 31)).heap.size = w.heap.size + 1 by simp] at h9
  have HW := Lib.hid hw
  generalize (w.alloc (.cells #[.int .i64 a.flow, .int .u64 a.gen] 31)).alloc (.cells #[.int .i64 b.flow, .int .u64 b.gen] 31) = w2 at HW hw b1 b2 ⊢
  have q0 := cell_of_heap b1 0
  have q1 := cell_of_heap b1 1
  have q2 := cell_of_heap b2 0
  have q3 := cell_of_heap b2 1
  simp at q0 q1 q2 q3
  clear hw b1 b2
  go_region_held3 (fun w' => w'.cell? ⟨w.heap.size, 0, none⟩ = some (.int .i64 a.flow) ∧ w'.cell? ⟨w.heap.size, 1, none⟩ = some (.int .u64 a.gen) ∧ w'.cell? ⟨w.heap.size + 1, 0, none⟩ = some (.int .i64 b.flow) ∧ w'.cell? ⟨w.heap.size + 1, 1, none⟩ = some (.int .u64 b.gen))
    (go_keep)
    (first
      | (go_at_call 104; refine (HX.out.1 _).mono ?_; rintro e w' ⟨rfl, rfl⟩)
      | (go_at_call 105; refine (HX.out.2.1 _).mono ?_; rintro e w' ⟨rfl, rfl⟩)
      | (go_at_call 103; refine (cmp_or' _ x y _ HX.out.2.2 (w2.alloc (.cells #[.int .i64 x, .int .i64 y] 3)).drew (new20 w2 _ _ _) (new21 w2 _ _ _)).mono ?_; rintro e w' ⟨rfl, rfl⟩))
  all_goals
    clear q0 q1 q2 q3
    go_wp2
    go_ret
    refine ⟨rfl, 1, #[.cells #[.int .i64 a.flow, .int .u64 a.gen] 31 (0, 0), .cells #[.int .i64 b.flow, .int .u64 b.gen] 31 (0, 0), .cells #[.int .i64 x, .int .i64 y] 3 (0, 0)], ?_⟩
    rw [HW.out, alloc_eq_grow, grow_grow]
    rfl
end Go.Proofs.Ytekdggdnkmkldaa
