/- The draw layer: contracts of the small functions. -/
import Derived.Test.YtekegbadkafjlaaRows
import Derived.WalkKit
namespace Go.Proofs.Ytekegbadkafjlaa
set_option linter.unusedVariables false
set_option linter.unusedSimpArgs false
open Go.RowKit

theorem may_yes (n : Int) (w : World) (h1 : 1 ≤ n) (h2 : n ≤ 255) :
    Calls Try.prog 34 #[.int .i64 n] w fun e w' => e = .returned (.bool true) ∧ w = w' := by
  go_enter Try.func34, Try.ntmps34
  go_wp2
  go_ret
  exact ⟨rfl, rfl⟩

theorem may_no (n : Int) (w : World) (h : n < 1 ∨ 255 < n) :
    Calls Try.prog 34 #[.int .i64 n] w fun e w' => e = .returned (.bool false) ∧ w = w' := by
  rcases h with h | h
  · go_enter Try.func34, Try.ntmps34
    go_wp2
    go_ret
    exact ⟨rfl, rfl⟩
  · have h' : 1 ≤ n := by omega
    go_enter Try.func34, Try.ntmps34
    go_wp2
    go_ret
    exact ⟨by simp; omega, rfl⟩

theorem sys_any (t n : Int) (w : World) :
    Calls Try.prog 17 #[.int .i64 t, .int .i64 n] w fun e w' => e = .returned (.bool (decide (0 ≤ t ∧ t < n))) ∧ w = w' := by
  by_cases h1 : 0 ≤ t
  · by_cases h2 : t < n
    · go_enter Try.func17, Try.ntmps17
      go_wp2
      go_ret
      exact ⟨by simp [h1, h2], rfl⟩
    · go_enter Try.func17, Try.ntmps17
      go_wp2
      go_ret
      exact ⟨by simp; omega, rfl⟩
  · go_enter Try.func17, Try.ntmps17
    go_wp2
    go_ret
    exact ⟨by simp; omega, rfl⟩

theorem nz_any (x : Int) (w : World) :
    Calls Try.prog 38 #[.int .u8 x] w fun e w' => e = .returned (.bool (x != 0)) ∧ w = w' := by
  go_enter Try.func38, Try.ntmps38
  go_wp2
  go_ret
  exact ⟨by simp, rfl⟩

end Go.Proofs.Ytekegbadkafjlaa
