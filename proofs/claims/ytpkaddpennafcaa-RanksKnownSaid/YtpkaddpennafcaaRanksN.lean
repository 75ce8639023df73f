/- ranks: nothing told, by nil and by a zero value. -/
import Derived.Test.YtpkaddpennafcaaRanksT
namespace Go.Proofs.Ytpkaddpennafcaa
set_option linter.unusedVariables false
set_option linter.unusedSimpArgs false
open Go.ChangeShapes Go.WideShapes Go.ChangeAt Go.RowKit

theorem rtake_nil (a b c : Int) (v : Value) (w : World) : Calls Try.prog 14 #[.pointer none, .int .u64 a, .int .u64 b, .int .u64 c, v] w fun e w' => e = .returned (.int .i64 2) ∧ w = w' := by
  go_enter Try.func14, Try.ntmps14
  go_wp2_with fail
  refine (rnone_nil w).mono ?_
  rintro e w' ⟨rfl, rfl⟩
  go_wp2
  go_ret
  exact ⟨rfl, rfl⟩
theorem rtake_zero (t : Nat) (a b c : Int) (v : Value) (w : World) (h : w.cell? ⟨t, 0, none⟩ = some (.bool false)) : Calls Try.prog 14 #[.pointer (some ⟨t, 0, none⟩), .int .u64 a, .int .u64 b, .int .u64 c, v] w fun e w' => e = .returned (.int .i64 2) ∧ w = w' := by
  go_enter Try.func14, Try.ntmps14
  go_wp2_with fail
  refine (rnone_bool t false w h).mono ?_
  rintro e w' ⟨rfl, rfl⟩
  go_wp2
  go_ret
  exact ⟨rfl, rfl⟩
theorem rknown_nil (w : World) : Calls Try.prog 15 #[.pointer none] w fun e w' => e = .returned (.bool false) ∧ w = w' := by
  go_enter Try.func15, Try.ntmps15
  go_wp2_with fail
  refine (rnone_nil w).mono ?_
  rintro e w' ⟨rfl, rfl⟩
  go_wp2
  go_ret
  exact ⟨rfl, rfl⟩
theorem rknown_zero (t : Nat) (w : World) (h : w.cell? ⟨t, 0, none⟩ = some (.bool false)) : Calls Try.prog 15 #[.pointer (some ⟨t, 0, none⟩)] w fun e w' => e = .returned (.bool false) ∧ w = w' := by
  go_enter Try.func15, Try.ntmps15
  go_wp2_with fail
  refine (rnone_bool t false w h).mono ?_
  rintro e w' ⟨rfl, rfl⟩
  go_wp2
  go_ret
  exact ⟨rfl, rfl⟩
theorem rbase_nil (w : World) : Calls Try.prog 24 #[.pointer none] w fun e w' => e = .returned (.int .u64 0) ∧ w = w' := by
  go_enter Try.func24, Try.ntmps24
  go_wp2_with fail
  refine (rnone_nil w).mono ?_
  rintro e w' ⟨rfl, rfl⟩
  go_wp2
  go_ret
  exact ⟨rfl, rfl⟩
theorem rlife_zero (t : Nat) (w : World) (h : w.cell? ⟨t, 0, none⟩ = some (.bool false)) : Calls Try.prog 23 #[.pointer (some ⟨t, 0, none⟩)] w fun e w' => e = .returned (.int .u64 0) ∧ w = w' := by
  go_enter Try.func23, Try.ntmps23
  go_wp2_with fail
  refine (rnone_bool t false w h).mono ?_
  rintro e w' ⟨rfl, rfl⟩
  go_wp2
  go_ret
  exact ⟨rfl, rfl⟩
theorem rrank_nil (g : Int) (w : World) : Calls Try.prog 17 #[.pointer none, .int .u64 g] w fun e w' => e = .returned (.int .i64 0) ∧ Grows w w' := by
  go_enter Try.func17, Try.ntmps17
  go_wp2_with fail
  refine (rnone_nil _).mono ?_
  rintro e w' ⟨rfl, rfl⟩
  go_wp2
  go_ret
  exact ⟨rfl, (Ext.refl _ _).alloc _⟩
theorem rranks_zero (t : Nat) (w : World) (h : w.cell? ⟨t, 0, none⟩ = some (.bool false)) : Calls Try.prog 21 #[.pointer (some ⟨t, 0, none⟩)] w fun e w' => e = .returned (.slice none 0 0) ∧ w = w' := by
  go_enter Try.func21, Try.ntmps21
  go_wp2_with fail
  refine (rnone_bool t false w h).mono ?_
  rintro e w' ⟨rfl, rfl⟩
  go_wp2
  go_ret
  exact ⟨rfl, rfl⟩
theorem rwants_nil (g a b : Int) (w : World) : Calls Try.prog 16 #[.pointer none, .int .u64 g, .int .i64 a, .int .i64 b] w fun e w' => e = .returned (.bool false) ∧ w = w' := by
  go_enter Try.func16, Try.ntmps16
  go_wp2_with fail
  refine (rknown_nil w).mono ?_
  rintro e w' ⟨rfl, rfl⟩
  go_wp2
  go_ret
  exact ⟨rfl, rfl⟩
theorem rcopy_nil (w : World) : Calls Try.prog 19 #[.pointer none] w fun e w' => e = .returned (.pointer none) ∧ w = w' := by
  go_enter Try.func19, Try.ntmps19
  go_wp2_with fail
  refine (rnone_nil w).mono ?_
  rintro e w' ⟨rfl, rfl⟩
  go_wp2
  go_ret
  exact ⟨rfl, rfl⟩

theorem rs_two {w : World} {b : Nat} {ty : TypeId} {fr : Nat × Nat} (r s : RankA) (hb : w.heap[b]? = some (.cells #[.int .u64 r.gen, .int .i64 r.rank, .int .u64 s.gen, .int .i64 s.rank] ty fr)) (hr : r.okay) (hs : s.okay) : Rs w (.slice (some ⟨b, 0, none⟩) 2 2) [r, s] := by
  refine ⟨.inr ⟨b, 0, 2, rfl, Nat.le_refl _, by unfold maxLen; omega, heap_lt hb, fun i hi => ?_⟩, by simp⟩
  have hi2 : i = 0 ∨ i = 1 := by simp at hi; omega
  rcases hi2 with rfl | rfl
  · refine ⟨r.cells, rfl, ⟨r, rfl, rfl, hr⟩, fun j hj => ?_⟩
    rw [cell_of_heap hb]
    have hj2 : j = 0 ∨ j = 1 := by omega
    rcases hj2 with rfl | rfl <;> rfl
  · refine ⟨s.cells, rfl, ⟨s, rfl, rfl, hs⟩, fun j hj => ?_⟩
    rw [cell_of_heap hb]
    have hj2 : j = 0 ∨ j = 1 := by omega
    rcases hj2 with rfl | rfl <;> rfl

/-- Nine tellings that may not be. -/
def Bad (w : World) (ab : Nat) : Prop := ab < w.heap.size ∧ ∀ i, i < 9 → ∃ (life count base : Nat) (u : Value) (l : List RankA),
  (w.cell? ⟨ab, i * 4, none⟩ = some (.int .u64 life) ∧ w.cell? ⟨ab, i * 4 + 1, none⟩ = some (.int .u64 count) ∧ w.cell? ⟨ab, i * 4 + 2, none⟩ = some (.int .u64 base) ∧ w.cell? ⟨ab, i * 4 + 3, none⟩ = some u) ∧ Rs w u l ∧ base < 18446744073709551616 ∧ takeRE 0 0 life count base l = 1
theorem Bad.grows {w w' : World} {ab : Nat} (h : Bad w ab) (g : Grows w w') : Bad w' ab := by
  refine ⟨Nat.lt_of_lt_of_le h.1 g.size, fun i hi => ?_⟩
  obtain ⟨life, count, base, u, l, ⟨h1, h2, h3, h4⟩, h5, h6⟩ := h.2 i hi
  exact ⟨life, count, base, u, l, ⟨(g.cell h.1 (fun h => h)).trans h1, (g.cell h.1 (fun h => h)).trans h2, (g.cell h.1 (fun h => h)).trans h3, (g.cell h.1 (fun h => h)).trans h4⟩, h5.grows g, h6⟩

end Go.Proofs.Ytpkaddpennafcaa
