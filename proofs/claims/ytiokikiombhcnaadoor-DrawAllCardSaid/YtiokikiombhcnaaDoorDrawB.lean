/- The draw layer: where the first byte stands that is not nought. -/
import Derived.Test.YtiokikiombhcnaaDoorDrawA
import Derived.Test.YtiokikiombhcnaaDoorBase
namespace Go.Proofs.YtiokikiombhcnaaDoor
set_option linter.unusedVariables false
set_option linter.unusedSimpArgs false
open Go.RowKit

theorem lead_step {xs : List Int} {k : Nat} (hk : k < xs.length) (hf : k ≤ xs.findIdx (· != 0)) (h : (xs[k] != 0) = false) : k + 1 ≤ xs.findIdx (· != 0) := by
  rcases Nat.lt_or_eq_of_le hf with h1 | h1
  · exact h1
  · exfalso
    have h2 : xs.findIdx (· != 0) < xs.length := by omega
    have h3 := List.findIdx_getElem (w := h2)
    subst h1
    rw [h] at h3
    cases h3
theorem lead_here {xs : List Int} {k : Nat} (hk : k < xs.length) (hf : k ≤ xs.findIdx (· != 0)) (h : (xs[k] != 0) = true) : (k : Int) = leadOf xs := by
  have h1 : xs.findIdx (· != 0) = k := by
    rcases Nat.lt_or_eq_of_le hf with h1 | h1
    · have := List.not_of_lt_findIdx h1
      exact absurd h (by simpa using this)
    · exact h1.symm
  unfold leadOf
  rw [h1, if_pos hk]
theorem lead_none {xs : List Int} (hf : xs.length ≤ xs.findIdx (· != 0)) : (-1 : Int) = leadOf xs := by
  unfold leadOf
  rw [if_neg (by omega)]

set_option maxHeartbeats 400000 in
theorem index_nz (v : Value) (xs : List Int) (w : World) (h : Bytes w v xs) :
    Calls Tryd.prog 17 #[v, .func (.func 18) #[] #[]] w fun e w' => e = .returned (.int .i64 (leadOf xs)) ∧ w = w' := by
  have hbig := h.2.2
  rcases h.cases with ⟨a, cap, rfl, rfl⟩ | ⟨b, off, cap, rfl, hcap, hmax, hlt, hcell⟩
  · go_enter Tryd.func17, Tryd.ntmps17
    go_wp2
    refine wp_loop_once ?_
    go_wp2
    go_ret
    exact ⟨ret_int (by simp [leadOf]), rfl⟩
  · have HC := Lib.hid hcell
    clear hcell
    go_enter Tryd.func17, Tryd.ntmps17
    go_wp2
    go_loop [8] (fun i => ∃ k : Nat, k ≤ xs.length ∧ k ≤ xs.findIdx (· != 0) ∧ i = .int .i64 k) (fun i => xs.length - (intOf i).toNat)
    case atStart => exact ⟨0, by omega, by omega, rfl⟩
    case round =>
      obtain ⟨k, hk, hf, rfl⟩ := hrel
      by_cases hlt : k < xs.length
      · have hc := HC.out k hlt
        have HF := Lib.hid hf
        clear hf
        go_wp2_with (go_at_call 18; refine (nz_any _ _).mono ?_; rintro e w' ⟨rfl, rfl⟩)
        · go_ret
          exact ⟨ret_int (lead_here hlt HF.out (by assumption)), rfl⟩
        · go_round
          case rel => exact ⟨k + 1, by omega, lead_step hlt HF.out (by assumption), by go_num⟩
          case measure => simp [intOf]; omega
      · go_wp2
        go_ret
        exact ⟨ret_int (lead_none (by omega)), rfl⟩

theorem lead_any (v : Value) (xs : List Int) (w : World) (h : Bytes w v xs) :
    Calls Tryd.prog 12 #[v] w fun e w' => e = .returned (.int .i64 (leadOf xs)) ∧ w = w' := by
  go_enter Tryd.func12, Tryd.ntmps12
  go_wp2_with (go_at_call 17; refine (index_nz _ xs _ h).mono ?_; rintro e w' ⟨rfl, rfl⟩)
  go_ret
  exact ⟨rfl, rfl⟩

theorem isZero_any (v : Value) (xs : List Int) (w : World) (h : Bytes w v xs) :
    Calls Tryd.prog 6 #[v] w fun e w' => e = .returned (.bool (decide (leadOf xs < 0))) ∧ w = w' := by
  go_enter Tryd.func6, Tryd.ntmps6
  go_wp2_with (go_at_call 12; refine (lead_any _ xs _ h).mono ?_; rintro e w' ⟨rfl, rfl⟩)
  go_ret
  exact ⟨rfl, rfl⟩
end Go.Proofs.YtiokikiombhcnaaDoor
