/- The draw layer: contracts of the small functions. -/
import Derived.Test.YtiokikiombhcnaaDoorRows
import Derived.WalkKit
namespace Go.Proofs.YtiokikiombhcnaaDoor
set_option linter.unusedVariables false
set_option linter.unusedSimpArgs false
open Go.RowKit

theorem may_yes (n : Int) (w : World) (h1 : 1 ≤ n) (h2 : n ≤ 255) :
    Calls Tryd.prog 9 #[.int .i64 n] w fun e w' => e = .returned (.bool true) ∧ w = w' := by
  go_enter Tryd.func9, Tryd.ntmps9
  go_wp2
  go_ret
  exact ⟨rfl, rfl⟩

theorem may_no (n : Int) (w : World) (h : n < 1 ∨ 255 < n) :
    Calls Tryd.prog 9 #[.int .i64 n] w fun e w' => e = .returned (.bool false) ∧ w = w' := by
  rcases h with h | h
  · go_enter Tryd.func9, Tryd.ntmps9
    go_wp2
    go_ret
    exact ⟨rfl, rfl⟩
  · have h' : 1 ≤ n := by omega
    go_enter Tryd.func9, Tryd.ntmps9
    go_wp2
    go_ret
    exact ⟨by simp; omega, rfl⟩

theorem sys_any (t n : Int) (w : World) :
    Calls Tryd.prog 11 #[.int .i64 t, .int .i64 n] w fun e w' => e = .returned (.bool (decide (0 ≤ t ∧ t < n))) ∧ w = w' := by
  by_cases h1 : 0 ≤ t
  · by_cases h2 : t < n
    · go_enter Tryd.func11, Tryd.ntmps11
      go_wp2
      go_ret
      exact ⟨by simp [h1, h2], rfl⟩
    · go_enter Tryd.func11, Tryd.ntmps11
      go_wp2
      go_ret
      exact ⟨by simp; omega, rfl⟩
  · go_enter Tryd.func11, Tryd.ntmps11
    go_wp2
    go_ret
    exact ⟨by simp; omega, rfl⟩

theorem nz_any (x : Int) (w : World) :
    Calls Tryd.prog 18 #[.int .u8 x] w fun e w' => e = .returned (.bool (x != 0)) ∧ w = w' := by
  go_enter Tryd.func18, Tryd.ntmps18
  go_wp2
  go_ret
  exact ⟨by simp, rfl⟩

end Go.Proofs.YtiokikiombhcnaaDoor
