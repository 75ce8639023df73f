/- link: an Out that is none. -/
import Derived.Test.YtekdggdnkmkldaaLinkV
namespace Go.Proofs.Ytekdggdnkmkldaa
set_option linter.unusedVariables false
set_option linter.unusedSimpArgs false
set_option maxRecDepth 1500
open Go.RowKit

theorem ocredit_nil (a b c : Int) (w : World) : Calls Try.prog 10 #[.pointer none, .int .u64 a, .int .u64 b, .int .u64 c] w fun e w' => e = .returned (.int .i64 2) ∧ w = w' := by
  go_enter Try.func10, Try.ntmps10
  go_wp2_with fail
  refine (onone_nil _).mono ?_
  rintro e w' ⟨rfl, rfl⟩
  go_wp2
  go_ret
  exact ⟨rfl, rfl⟩
theorem ofeed_nil (f a b c : Int) (v : Value) (w : World) : Calls Try.prog 11 #[.pointer none, .int .i64 f, .int .u64 a, .int .u64 b, .int .u64 c, v] w fun e w' => e = .returned (.int .i64 2) ∧ w = w' := by
  go_enter Try.func11, Try.ntmps11
  go_wp2_with fail
  refine (onone_nil _).mono ?_
  rintro e w' ⟨rfl, rfl⟩
  go_wp2
  go_ret
  exact ⟨rfl, rfl⟩
theorem osent_nil (w : World) : Calls Try.prog 21 #[.pointer none] w fun e w' => e = .returned (.int .u64 0) ∧ w = w' := by
  go_enter Try.func21, Try.ntmps21
  go_wp2_with fail
  refine (onone_nil _).mono ?_
  rintro e w' ⟨rfl, rfl⟩
  go_wp2
  go_ret
  exact ⟨rfl, rfl⟩
theorem ogranted_nil (w : World) : Calls Try.prog 22 #[.pointer none] w fun e w' => e = .returned (.int .u64 0) ∧ w = w' := by
  go_enter Try.func22, Try.ntmps22
  go_wp2_with fail
  refine (onone_nil _).mono ?_
  rintro e w' ⟨rfl, rfl⟩
  go_wp2
  go_ret
  exact ⟨rfl, rfl⟩
theorem oknown_nil (f : Int) (w : World) : Calls Try.prog 19 #[.pointer none, .int .i64 f] w fun e w' => e = .returned (.tuple #[.int .u64 0, .bool false]) ∧ w = w' := by
  go_enter Try.func19, Try.ntmps19
  go_wp2_with fail
  refine (oof_nil f _).mono ?_
  rintro e w' ⟨rfl, rfl⟩
  go_wp2
  go_ret2
  exact ⟨rfl, rfl⟩
theorem orank_nil (f g : Int) (w : World) : Calls Try.prog 20 #[.pointer none, .int .i64 f, .int .u64 g] w fun e w' => e = .returned (.int .i64 0) ∧ w = w' := by
  go_enter Try.func20, Try.ntmps20
  go_wp2_with fail
  refine (oof_nil f _).mono ?_
  rintro e w' ⟨rfl, rfl⟩
  go_wp2
  go_ret
  exact ⟨rfl, rfl⟩
theorem ouse_nil (f g : Int) (w : World) : Calls Try.prog 13 #[.pointer none, .agg #[.int .i64 f, .int .u64 g]] w fun e w' => e = .returned (.tuple #[.int .u64 0, .int .u64 0, .int .i64 2]) ∧ Grows w w' := by
  have hg0 : Grows w (w.alloc (.cells #[.int .i64 f, .int .u64 g] 31)) := (Ext.refl _ _).alloc _
  have HG := Lib.hid hg0
  clear hg0
  go_enter Try.func13, Try.ntmps13
  go_wp2_with fail
  refine (onone_nil _).mono ?_
  rintro e w' ⟨rfl, rfl⟩
  go_wp2
  go_ret3
  exact ⟨rfl, HG.out⟩
theorem opick_nil (f : Int) (v : Value) (w : World) : Calls Try.prog 12 #[.pointer none, .int .i64 f, v] w fun e w' => e = .returned (.tuple #[.agg #[.int .i64 0, .int .u64 0], .int .i64 2]) ∧ Grows w w' := by
  have hz := zeroP
  have hgs : ∀ x y : Value, Grows w (((w.alloc (.cells #[.int .i64 0, .int .u64 0] 31)).setCell ⟨w.heap.size, 0, none⟩ x).setCell ⟨w.heap.size, 1, none⟩ y) := fun x y =>
    Ext.setCell (Ext.setCell ((Ext.refl _ _).alloc _) ⟨w.heap.size, 0, none⟩ (.inl (Nat.le_refl _)) x) ⟨w.heap.size, 1, none⟩ (.inl (Nat.le_refl _)) y
  have HS := Lib.hid hgs
  have hn := heap_alloc_new w (.cells #[.int .i64 0, .int .u64 0] 31 (0, 0))
  have HG := Lib.hid hn
  clear hgs hn
  go_enter Try.func12, Try.ntmps12
  go_wp2_with fail
  refine (onone_nil _).mono ?_
  rintro e w' ⟨rfl, rfl⟩
  obtain ⟨w1, hw1⟩ : ∃ w1, w.alloc (.cells #[.int .i64 0, .int .u64 0] 31) = w1 := ⟨_, rfl⟩
  rw [hw1] at HS HG ⊢
  clear hw1
  have d0 := cell_of_heap HG.out 0
  have d1 := cell_of_heap HG.out 1
  have f0 := frozen_of_heap HG.out 0
  have f1 := frozen_of_heap HG.out 1
  simp at d0 d1
  go_wp2
  refine bodyPost_ret (v := .tuple #[.agg #[.int .i64 0, .int .u64 0], .int .i64 2]) ?_ rfl ⟨rfl, HS.out _ _⟩
  rw [results_cell_tmp rfl]
  go_simp
  try rfl
end Go.Proofs.Ytekdggdnkmkldaa
