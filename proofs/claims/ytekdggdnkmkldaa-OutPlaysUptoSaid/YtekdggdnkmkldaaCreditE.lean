/- credit: Grant; none; what is not. -/
import Derived.Test.YtekdggdnkmkldaaCreditD
namespace Go.Proofs.Ytekdggdnkmkldaa
set_option linter.unusedVariables false
set_option linter.unusedSimpArgs false
set_option maxRecDepth 1500
open Go.RowKit
attribute [local go_sem] run_store_complex

theorem of_int (x : Int) (n b : Nat) (hx : x = (n : Int)) (w : World) : Calls Try.prog 70 #[.int .u64 x, .int .u64 b] w fun e w' => e = .returned (.complex .f64 (fl n) (fl b)) ∧ w = w' := by
  subst hx
  exact of_any n b w

theorem grant_arg (w : World) (r places peer gr seen : Nat) (free : Int) (h : ReceiverAt w r places peer gr seen) (hb : free < 0 ∨ (places : Int) < free) :
    Calls Try.prog 51 #[.pointer (some ⟨r, 0, none⟩), .int .i64 free] w fun e w' => e = .returned (.tuple #[.int .u64 0, .int .i64 1]) ∧ w = w' := by
  have hn := receiver_none w r places peer gr seen h
  obtain ⟨⟨ty, hh⟩, h1, _, _, _, h5⟩ := h
  have c0 := cell_of_heap hh 0
  simp at c0
  go_enter Try.func51, Try.ntmps51
  go_wp2_with fail
  refine hn.mono ?_
  rintro e w' ⟨rfl, rfl⟩
  by_cases hf : free < 0
  · go_wp2
    go_ret2
    exact ⟨rfl, rfl⟩
  · have hf2 : (places : Int) < free := by omega
    go_wp2
    go_ret2
    exact ⟨rfl, rfl⟩

set_option maxHeartbeats 2000000 in
theorem grant_ok (w : World) (r places peer gr seen free : Nat) (h : ReceiverAt w r places peer gr seen) (hb : free ≤ places) :
    Calls Try.prog 51 #[.pointer (some ⟨r, 0, none⟩), .int .i64 free] w fun e w' => e = .returned (.tuple #[.int .u64 ((max gr (min (seen + free) Most) : Nat) : Int), .int .i64 0]) ∧
      ReceiverAt w' r places peer (max gr (min (seen + free) Most)) seen ∧ Ext (fun k => k = r) w w' := by
  have hn := receiver_none w r places peer gr seen h
  obtain ⟨⟨ty, hh⟩, h1, h2, h3, h4, h5⟩ := h
  have c0 := cell_of_heap hh 0
  have c2 := cell_of_heap hh 2
  have f2 := frozen_of_heap hh 2
  simp at c0 c2
  have i1 : ¬ (free : Int) < 0 := by omega
  have i2 : ¬ (places : Int) < (free : Int) := by omega
  have i3 : (seen : Int) ≤ 1125899906842624 := by simp only [Most] at h5; omega
  have i4 : (free : Int) ≤ 64 := by omega
  obtain ⟨n, hn2⟩ : ∃ n, n = max gr (min (seen + free) Most) := ⟨_, rfl⟩
  have hn3 : n ≤ Most := by rw [hn2]; exact Nat.max_le.2 ⟨h4, Nat.min_le_right _ _⟩
  rw [← hn2]
  have hcs : (1125899906842624 < (seen : Int) + (free : Int) ∧ (gr : Int) < 1125899906842624 ∧ n = 1125899906842624) ∨ (1125899906842624 < (seen : Int) + (free : Int) ∧ ¬ (gr : Int) < 1125899906842624 ∧ n = gr) ∨
      (¬ 1125899906842624 < (seen : Int) + (free : Int) ∧ (gr : Int) < (seen : Int) + (free : Int) ∧ n = seen + free) ∨ (¬ 1125899906842624 < (seen : Int) + (free : Int) ∧ ¬ (gr : Int) < (seen : Int) + (free : Int) ∧ n = gr) := by
    simp only [Most] at hn2
    omega
  clear hn2
  have HC := Lib.hid hcs
  clear hcs
  go_enter Try.func51, Try.ntmps51
  go_wp2_with fail
  refine hn.mono ?_
  rintro e w' ⟨rfl, rfl⟩
  go_wp2_with fail
  refine (acct_other gr seen h5 _).mono ?_
  rintro e w' ⟨rfl, rfl⟩
  go_wp2_with fail
  refine (acct_granted gr seen h4 _).mono ?_
  rintro e w' ⟨rfl, rfl⟩
  rcases HC.out with ⟨q1, q2, q3⟩ | ⟨q1, q2, q3⟩ | ⟨q1, q2, q3⟩ | ⟨q1, q2, q3⟩
  all_goals
    have Q := Lib.hid q3
    clear q3
    go_wp2_with fail
    refine (of_int _ n seen (by first | (rw [Q.out]; done) | (rw [Q.out]; rfl) | (rw [Q.out]; omega)) _).mono ?_
    rintro e w' ⟨rfl, rfl⟩
    go_wp2_with fail
    refine (acct_granted n seen hn3 _).mono ?_
    rintro e w' ⟨rfl, rfl⟩
    go_wp2
    go_ret2
    have hh2 := setCell_heap hh 2 (.complex .f64 (fl n) (fl seen))
    exact ⟨rfl, ⟨⟨ty, by simpa using hh2⟩, h1, h2, h3, hn3, h5⟩, Ext.setCell (S := fun k => k = r) (Ext.refl _ _) ⟨r, 2, none⟩ (Or.inr rfl) _⟩

/-- No sender, no receiver. -/
theorem snone_nil (w : World) : Calls Try.prog 68 #[.pointer none] w fun e w' => e = .returned (.bool true) ∧ w = w' := by
  go_enter Try.func68, Try.ntmps68
  go_wp2
  go_ret
  exact ⟨rfl, rfl⟩
theorem sent_nil (w : World) : Calls Try.prog 57 #[.pointer none] w fun e w' => e = .returned (.int .u64 0) ∧ w = w' := by
  go_enter Try.func57, Try.ntmps57
  go_wp2_with (go_at_call 68; refine (snone_nil _).mono ?_; rintro e w' ⟨rfl, rfl⟩)
  go_ret
  exact ⟨rfl, rfl⟩
theorem granted_nil (w : World) : Calls Try.prog 58 #[.pointer none] w fun e w' => e = .returned (.int .u64 0) ∧ w = w' := by
  go_enter Try.func58, Try.ntmps58
  go_wp2_with (go_at_call 68; refine (snone_nil _).mono ?_; rintro e w' ⟨rfl, rfl⟩)
  go_ret
  exact ⟨rfl, rfl⟩
theorem may_nil (w : World) : Calls Try.prog 43 #[.pointer none] w fun e w' => e = .returned (.bool false) ∧ w = w' := by
  go_enter Try.func43, Try.ntmps43
  go_wp2_with (first | (go_at_call 57; refine (sent_nil _).mono ?_; rintro e w' ⟨rfl, rfl⟩) | (go_at_call 58; refine (granted_nil _).mono ?_; rintro e w' ⟨rfl, rfl⟩))
  go_ret
  exact ⟨rfl, rfl⟩
theorem use_nil (w : World) : Calls Try.prog 44 #[.pointer none] w fun e w' => e = .returned (.tuple #[.int .u64 0, .int .i64 2]) ∧ w = w' := by
  go_enter Try.func44, Try.ntmps44
  go_wp2_with (go_at_call 68; refine (snone_nil _).mono ?_; rintro e w' ⟨rfl, rfl⟩)
  go_ret2
  exact ⟨rfl, rfl⟩
theorem take_nil (a b c : Int) (w : World) : Calls Try.prog 38 #[.pointer none, .int .u64 a, .int .u64 b, .int .u64 c] w fun e w' => e = .returned (.int .i64 2) ∧ Grows w w' := by
  go_enter Try.func38, Try.ntmps38
  go_wp2_with (go_at_call 68; refine (snone_nil _).mono ?_; rintro e w' ⟨rfl, rfl⟩)
  go_ret
  exact ⟨rfl, (Ext.refl _ _).alloc _⟩

/-- The zero receiver. -/
theorem rnone_zero (r : Nat) (w : World) (h : w.cell? ⟨r, 0, none⟩ = some (.int .i64 0)) : Calls Try.prog 80 #[.pointer (some ⟨r, 0, none⟩)] w fun e w' => e = .returned (.bool true) ∧ w = w' := by
  go_enter Try.func80, Try.ntmps80
  go_wp2
  go_ret
  exact ⟨rfl, rfl⟩
theorem life_zero (r : Nat) (w : World) (h : w.cell? ⟨r, 0, none⟩ = some (.int .i64 0)) : Calls Try.prog 48 #[.pointer (some ⟨r, 0, none⟩)] w fun e w' => e = .returned (.int .u64 0) ∧ w = w' := by
  go_enter Try.func48, Try.ntmps48
  go_wp2_with (go_at_call 80; refine (rnone_zero r _ h).mono ?_; rintro e w' ⟨rfl, rfl⟩)
  go_ret
  exact ⟨rfl, rfl⟩
theorem grant_zero (r : Nat) (f : Int) (w : World) (h : w.cell? ⟨r, 0, none⟩ = some (.int .i64 0)) : Calls Try.prog 51 #[.pointer (some ⟨r, 0, none⟩), .int .i64 f] w fun e w' => e = .returned (.tuple #[.int .u64 0, .int .i64 2]) ∧ w = w' := by
  go_enter Try.func51, Try.ntmps51
  go_wp2_with (go_at_call 80; refine (rnone_zero r _ h).mono ?_; rintro e w' ⟨rfl, rfl⟩)
  go_ret2
  exact ⟨rfl, rfl⟩
theorem saw_zero (r : Nat) (a b : Int) (w : World) (h : w.cell? ⟨r, 0, none⟩ = some (.int .i64 0)) (hr : r < w.heap.size) : Calls Try.prog 50 #[.pointer (some ⟨r, 0, none⟩), .int .u64 a, .int .u64 b] w fun e w' => e = .returned (.int .i64 2) ∧ Grows w w' := by
  have h' : (w.alloc (.cells #[.int .u64 b] 27)).cell? ⟨r, 0, none⟩ = some (.int .i64 0) := (((Ext.refl (fun _ => False) w).alloc _).cell hr (fun h => h)).trans h
  go_enter Try.func50, Try.ntmps50
  go_wp2_with (go_at_call 80; refine (rnone_zero r _ h').mono ?_; rintro e w' ⟨rfl, rfl⟩)
  go_ret
  exact ⟨rfl, (Ext.refl _ _).alloc _⟩

end Go.Proofs.Ytekdggdnkmkldaa
