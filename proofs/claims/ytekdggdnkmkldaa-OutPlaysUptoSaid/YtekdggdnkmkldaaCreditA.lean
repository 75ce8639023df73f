/- credit: accounts; the small functions. -/
import Derived.Test.YtekdggdnkmkldaaRows
import Derived.WalkKit
import Derived.Test.YtekdggdnkmkldaaBase
import Derived.Test.YtekdggdnkmkldaaExact
import Derived.Laws.ComplexArith
namespace Go.Proofs.Ytekdggdnkmkldaa
set_option linter.unusedVariables false
set_option linter.unusedSimpArgs false
set_option maxRecDepth 1500
open Go.RowKit

/-- 2^50, the greatest number. -/
abbrev Most : Nat := 1125899906842624

theorem conv_u64 (n : Nat) (h : n ≤ Most) (w : World) : (convert 163 27 (.float .f64 (fl n))).run Try.prog w = .ok (.int .u64 n) w :=
  run_convert_float_int w 163 27 .f64 .u64 (fl n) n (by rw [Try.underlying163]; rfl) Try.underlying27 (back (by simp only [Most] at h; omega) .u64 ⟨by show (0 : Int) ≤ _; omega, by simp only [Most] at h; show _ ≤ (18446744073709551615 : Int); omega⟩)

theorem of_any (a b : Nat) (w : World) : Calls Try.prog 70 #[.int .u64 a, .int .u64 b] w fun e w' => e = .returned (.complex .f64 (fl a) (fl b)) ∧ w = w' := by
  have e1 := floatOfInt_fl a
  have e2 := floatOfInt_fl b
  go_enter Try.func70, Try.ntmps70
  go_wp2
  go_ret
  exact ⟨rfl, rfl⟩
theorem acct_granted (a b : Nat) (h : a ≤ Most) (w : World) : Calls Try.prog 72 #[.complex .f64 (fl a) (fl b)] w fun e w' => e = .returned (.int .u64 a) ∧ w = w' := by
  have c1 := fun w => conv_u64 a h w
  go_enter Try.func72, Try.ntmps72
  go_wp2
  go_ret
  exact ⟨rfl, rfl⟩
theorem acct_other (a b : Nat) (h : b ≤ Most) (w : World) : Calls Try.prog 73 #[.complex .f64 (fl a) (fl b)] w fun e w' => e = .returned (.int .u64 b) ∧ w = w' := by
  have c1 := fun w => conv_u64 b h w
  go_enter Try.func73, Try.ntmps73
  go_wp2
  go_ret
  exact ⟨rfl, rfl⟩
theorem count_any (n least : Nat) (w : World) : Calls Try.prog 67 #[.int .u64 n, .int .u64 least] w fun e w' => e = .returned (.bool (decide (least ≤ n ∧ n ≤ Most))) ∧ w = w' := by
  go_enter Try.func67, Try.ntmps67
  by_cases h1 : least ≤ n
  · have h1' : (least : Int) ≤ (n : Int) := by omega
    by_cases h2 : n ≤ Most
    · have h2' : (n : Int) ≤ 1125899906842624 := by simp only [Most] at h2; omega
      go_wp2
      go_ret
      exact ⟨by simp [h1, h2], rfl⟩
    · have h2' : ¬ (n : Int) ≤ 1125899906842624 := by simp only [Most] at h2; omega
      go_wp2
      go_ret
      exact ⟨by simp [h1, h2], rfl⟩
  · have h1' : ¬ (least : Int) ≤ (n : Int) := by omega
    go_wp2
    go_ret
    exact ⟨by simp [h1], rfl⟩

/-- A sender's block. -/
def SenderAt (w : World) (s own peer gr used : Nat) : Prop :=
  (∃ ty, w.heap[s]? = some (.cells #[.int .u64 own, .int .u64 peer, .complex .f64 (fl gr) (fl used)] ty (0, 0))) ∧ 1 ≤ own ∧ own ≤ Most ∧ peer ≤ Most ∧ gr ≤ Most ∧ used ≤ Most
/-- A receiver's. -/
def ReceiverAt (w : World) (r places peer gr seen : Nat) : Prop :=
  (∃ ty, w.heap[r]? = some (.cells #[.int .i64 places, .int .u64 peer, .complex .f64 (fl gr) (fl seen)] ty (0, 0))) ∧ 1 ≤ places ∧ places ≤ 64 ∧ peer ≤ Most ∧ gr ≤ Most ∧ seen ≤ Most

theorem sender_none (w : World) (s own peer gr used : Nat) (h : SenderAt w s own peer gr used) :
    Calls Try.prog 68 #[.pointer (some ⟨s, 0, none⟩)] w fun e w' => e = .returned (.bool false) ∧ w = w' := by
  obtain ⟨⟨ty, hh⟩, h1, _⟩ := h
  have c0 := cell_of_heap hh 0
  have hne : ((own : Int) == 0) = false := by simp; omega
  simp at c0
  go_enter Try.func68, Try.ntmps68
  go_wp2
  go_ret
  exact ⟨rfl, rfl⟩
theorem sent_any (w : World) (s own peer gr used : Nat) (h : SenderAt w s own peer gr used) :
    Calls Try.prog 57 #[.pointer (some ⟨s, 0, none⟩)] w fun e w' => e = .returned (.int .u64 used) ∧ w = w' := by
  have hn := sender_none w s own peer gr used h
  obtain ⟨⟨ty, hh⟩, h1, _, _, _, h5⟩ := h
  have c0 := cell_of_heap hh 2
  simp at c0
  go_enter Try.func57, Try.ntmps57
  go_wp2_with fail
  refine hn.mono ?_
  rintro e w' ⟨rfl, rfl⟩
  go_wp2_with fail
  refine (acct_other gr used h5 _).mono ?_
  rintro e w' ⟨rfl, rfl⟩
  go_wp2
  go_ret
  exact ⟨rfl, rfl⟩

end Go.Proofs.Ytekdggdnkmkldaa
