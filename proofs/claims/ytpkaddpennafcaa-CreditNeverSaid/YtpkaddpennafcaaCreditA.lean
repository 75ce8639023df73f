/- credit: accounts; the small functions. -/
import Derived.Test.YtpkaddpennafcaaRows
import Derived.WalkKit
import Derived.Test.YtpkaddpennafcaaBase
import Derived.Test.YtpkaddpennafcaaExact
import Derived.Laws.ComplexArith
namespace Go.Proofs.Ytpkaddpennafcaa
set_option linter.unusedVariables false
set_option linter.unusedSimpArgs false
open Go.RowKit

/-- 2^50, the greatest number. -/
abbrev Most : Nat := 1125899906842624

theorem conv_u64 (n : Nat) (h : n ≤ Most) (w : World) : (convert 118 22 (.float .f64 (fl n))).run Try.prog w = .ok (.int .u64 n) w :=
  run_convert_float_int w 118 22 .f64 .u64 (fl n) n (by rw [Try.underlying118]; rfl) Try.underlying22 (back (by simp only [Most] at h; omega) .u64 ⟨by show (0 : Int) ≤ _; omega, by simp only [Most] at h; show _ ≤ (18446744073709551615 : Int); omega⟩)

theorem of_any (a b : Nat) (w : World) : Calls Try.prog 62 #[.int .u64 a, .int .u64 b] w fun e w' => e = .returned (.complex .f64 (fl a) (fl b)) ∧ w = w' := by
  have e1 := floatOfInt_fl a
  have e2 := floatOfInt_fl b
  go_enter Try.func62, Try.ntmps62
  go_wp2
  go_ret
  exact ⟨rfl, rfl⟩
theorem acct_granted (a b : Nat) (h : a ≤ Most) (w : World) : Calls Try.prog 64 #[.complex .f64 (fl a) (fl b)] w fun e w' => e = .returned (.int .u64 a) ∧ w = w' := by
  have c1 := fun w => conv_u64 a h w
  go_enter Try.func64, Try.ntmps64
  go_wp2
  go_ret
  exact ⟨rfl, rfl⟩
theorem acct_other (a b : Nat) (h : b ≤ Most) (w : World) : Calls Try.prog 65 #[.complex .f64 (fl a) (fl b)] w fun e w' => e = .returned (.int .u64 b) ∧ w = w' := by
  have c1 := fun w => conv_u64 b h w
  go_enter Try.func65, Try.ntmps65
  go_wp2
  go_ret
  exact ⟨rfl, rfl⟩
theorem count_any (n least : Nat) (w : World) : Calls Try.prog 59 #[.int .u64 n, .int .u64 least] w fun e w' => e = .returned (.bool (decide (least ≤ n ∧ n ≤ Most))) ∧ w = w' := by
  go_enter Try.func59, Try.ntmps59
  by_cases h1 : least ≤ n
  · have h1' : (least : Int) ≤ (n : Int) := by omega
    by_cases h2 : n ≤ Most
    · have h2' : (n : Int) ≤ 1125899906842624 := by simp only [Most] at h2; omega
      go_wp2
      go_ret
      exact ⟨by simp [h1, h2], rfl⟩
    · have h2' : ¬ (n : Int) ≤ 1125899906842624 := by simp only [Most] at h2; omega
      go_wp2
      go_ret
      exact ⟨by simp [h1, h2], rfl⟩
  · have h1' : ¬ (least : Int) ≤ (n : Int) := by omega
    go_wp2
    go_ret
    exact ⟨by simp [h1], rfl⟩

/-- A sender's block. -/
def SenderAt (w : World) (s own peer gr used : Nat) : Prop :=
  (∃ ty, w.heap[s]? = some (.cells #[.int .u64 own, .int .u64 peer, .complex .f64 (fl gr) (fl used)] ty (0, 0))) ∧ 1 ≤ own ∧ own ≤ Most ∧ peer ≤ Most ∧ gr ≤ Most ∧ used ≤ Most
/-- A receiver's. -/
def ReceiverAt (w : World) (r places peer gr seen : Nat) : Prop :=
  (∃ ty, w.heap[r]? = some (.cells #[.int .i64 places, .int .u64 peer, .complex .f64 (fl gr) (fl seen)] ty (0, 0))) ∧ 1 ≤ places ∧ places ≤ 64 ∧ peer ≤ Most ∧ gr ≤ Most ∧ seen ≤ Most

theorem sender_none (w : World) (s own peer gr used : Nat) (h : SenderAt w s own peer gr used) :
    Calls Try.prog 60 #[.pointer (some ⟨s, 0, none⟩)] w fun e w' => e = .returned (.bool false) ∧ w = w' := by
  obtain ⟨⟨ty, hh⟩, h1, _⟩ := h
  have c0 := cell_of_heap hh 0
  have hne : ((own : Int) == 0) = false := by simp; omega
  simp at c0
  go_enter Try.func60, Try.ntmps60
  go_wp2
  go_ret
  exact ⟨rfl, rfl⟩
theorem sent_any (w : World) (s own peer gr used : Nat) (h : SenderAt w s own peer gr used) :
    Calls Try.prog 44 #[.pointer (some ⟨s, 0, none⟩)] w fun e w' => e = .returned (.int .u64 used) ∧ w = w' := by
  have hn := sender_none w s own peer gr used h
  obtain ⟨⟨ty, hh⟩, h1, _, _, _, h5⟩ := h
  have c0 := cell_of_heap hh 2
  simp at c0
  go_enter Try.func44, Try.ntmps44
  go_wp2_with fail
  refine hn.mono ?_
  rintro e w' ⟨rfl, rfl⟩
  go_wp2_with fail
  refine (acct_other gr used h5 _).mono ?_
  rintro e w' ⟨rfl, rfl⟩
  go_wp2
  go_ret
  exact ⟨rfl, rfl⟩

end Go.Proofs.Ytpkaddpennafcaa
