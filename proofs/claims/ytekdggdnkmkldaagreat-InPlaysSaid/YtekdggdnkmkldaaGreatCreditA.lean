/- credit: accounts; the small functions. -/
import Derived.Test.YtekdggdnkmkldaaGreatRows
import Derived.WalkKit
import Derived.Test.YtekdggdnkmkldaaGreatBase
import Derived.Test.YtekdggdnkmkldaaGreatExact
import Derived.Laws.ComplexArith
namespace Go.Proofs.YtekdggdnkmkldaaGreat
set_option linter.unusedVariables false
set_option linter.unusedSimpArgs false
set_option maxRecDepth 1500
open Go.RowKit

/-- 2^50, the greatest number. -/
abbrev Most : Nat := 1125899906842624

theorem conv_u64 (n : Nat) (h : n ≤ Most) (w : World) : (convert 135 31 (.float .f64 (fl n))).run Tryz.prog w = .ok (.int .u64 n) w :=
  run_convert_float_int w 135 31 .f64 .u64 (fl n) n (by rw [Tryz.underlying135]; rfl) Tryz.underlying31 (back (by simp only [Most] at h; omega) .u64 ⟨by show (0 : Int) ≤ _; omega, by simp only [Most] at h; show _ ≤ (18446744073709551615 : Int); omega⟩)

theorem of_any (a b : Nat) (w : World) : Calls Tryz.prog 55 #[.int .u64 a, .int .u64 b] w fun e w' => e = .returned (.complex .f64 (fl a) (fl b)) ∧ w = w' := by
  have e1 := floatOfInt_fl a
  have e2 := floatOfInt_fl b
  go_enter Tryz.func55, Tryz.ntmps55
  go_wp2
  go_ret
  exact ⟨rfl, rfl⟩
theorem acct_granted (a b : Nat) (h : a ≤ Most) (w : World) : Calls Tryz.prog 57 #[.complex .f64 (fl a) (fl b)] w fun e w' => e = .returned (.int .u64 a) ∧ w = w' := by
  have c1 := fun w => conv_u64 a h w
  go_enter Tryz.func57, Tryz.ntmps57
  go_wp2
  go_ret
  exact ⟨rfl, rfl⟩
theorem acct_other (a b : Nat) (h : b ≤ Most) (w : World) : Calls Tryz.prog 58 #[.complex .f64 (fl a) (fl b)] w fun e w' => e = .returned (.int .u64 b) ∧ w = w' := by
  have c1 := fun w => conv_u64 b h w
  go_enter Tryz.func58, Tryz.ntmps58
  go_wp2
  go_ret
  exact ⟨rfl, rfl⟩
theorem count_any (n least : Nat) (w : World) : Calls Tryz.prog 53 #[.int .u64 n, .int .u64 least] w fun e w' => e = .returned (.bool (decide (least ≤ n ∧ n ≤ Most))) ∧ w = w' := by
  go_enter Tryz.func53, Tryz.ntmps53
  by_cases h1 : least ≤ n
  · have h1' : (least : Int) ≤ (n : Int) := by omega
    by_cases h2 : n ≤ Most
    · have h2' : (n : Int) ≤ 1125899906842624 := by simp only [Most] at h2; omega
      go_wp2
      go_ret
      exact ⟨by simp [h1, h2], rfl⟩
    · have h2' : ¬ (n : Int) ≤ 1125899906842624 := by simp only [Most] at h2; omega
      go_wp2
      go_ret
      exact ⟨by simp [h1, h2], rfl⟩
  · have h1' : ¬ (least : Int) ≤ (n : Int) := by omega
    go_wp2
    go_ret
    exact ⟨by simp [h1], rfl⟩

/-- A sender's block. -/
def SenderAt (w : World) (s own peer gr used : Nat) : Prop :=
  (∃ ty, w.heap[s]? = some (.cells #[.int .u64 own, .int .u64 peer, .complex .f64 (fl gr) (fl used)] ty (0, 0))) ∧ 1 ≤ own ∧ own ≤ Most ∧ peer ≤ Most ∧ gr ≤ Most ∧ used ≤ Most
/-- A receiver's. -/
def ReceiverAt (w : World) (r places peer gr seen : Nat) : Prop :=
  (∃ ty, w.heap[r]? = some (.cells #[.int .i64 places, .int .u64 peer, .complex .f64 (fl gr) (fl seen)] ty (0, 0))) ∧ 1 ≤ places ∧ places ≤ 64 ∧ peer ≤ Most ∧ gr ≤ Most ∧ seen ≤ Most

theorem sender_none (w : World) (s own peer gr used : Nat) (h : SenderAt w s own peer gr used) :
    Calls Tryz.prog 71 #[.pointer (some ⟨s, 0, none⟩)] w fun e w' => e = .returned (.bool false) ∧ w = w' := by
  obtain ⟨⟨ty, hh⟩, h1, _⟩ := h
  have c0 := cell_of_heap hh 0
  have hne : ((own : Int) == 0) = false := by simp; omega
  simp at c0
  go_enter Tryz.func71, Tryz.ntmps71
  go_wp2
  go_ret
  exact ⟨rfl, rfl⟩
theorem sent_any (w : World) (s own peer gr used : Nat) (h : SenderAt w s own peer gr used) :
    Calls Tryz.prog 66 #[.pointer (some ⟨s, 0, none⟩)] w fun e w' => e = .returned (.int .u64 used) ∧ w = w' := by
  have hn := sender_none w s own peer gr used h
  obtain ⟨⟨ty, hh⟩, h1, _, _, _, h5⟩ := h
  have c0 := cell_of_heap hh 2
  simp at c0
  go_enter Tryz.func66, Tryz.ntmps66
  go_wp2_with fail
  refine hn.mono ?_
  rintro e w' ⟨rfl, rfl⟩
  go_wp2_with fail
  refine (acct_other gr used h5 _).mono ?_
  rintro e w' ⟨rfl, rfl⟩
  go_wp2
  go_ret
  exact ⟨rfl, rfl⟩

end Go.Proofs.YtekdggdnkmkldaaGreat
