/- credit: the chapter's rows. -/
import Derived.Test.YtpkaddpennafcaaCreditS
namespace Go.Proofs.Ytpkaddpennafcaa
set_option linter.unusedVariables false
set_option linter.unusedSimpArgs false
open Go.RowKit

set_option maxHeartbeats 4000000 in
theorem credit_wakes (w : World) : Calls Try.prog 33 #[] w fun e w' => e = .returned (.bool true) ∧ Grows w w' := by
  obtain ⟨s, hs⟩ : ∃ s, w.heap.size = s := ⟨_, rfl⟩
  have HZ := Lib.hid hs
  clear hs
  go_enter Try.func33, Try.ntmps33
  go_wp2_with fail
  refine (sn_new 5 (Nat.le_of_eq HZ.out) (Ext.refl _ _) HZ.out (by omega) (by decide)).mono ?_
  rintro e w' ⟨rfl, H'⟩
  have HH := Lib.hid H'
  clear H'
  go_wp2_with fail
  refine (sn_take HH.out 1 5 2 0 1 2 (by decide) (by decide) (by decide)).mono ?_
  rintro e w' ⟨rfl, H'⟩
  clear HH
  have HH := Lib.hid H'
  clear H'
  go_wp2_with fail
  refine (sn_use_ok HH.out (by omega) 1 rfl).mono ?_
  rintro e w' ⟨rfl, H'⟩
  clear HH
  have HH := Lib.hid H'
  clear H'
  go_wp2_with fail
  refine (sn_use_ok HH.out (by omega) 2 rfl).mono ?_
  rintro e w' ⟨rfl, H'⟩
  clear HH
  have HH := Lib.hid H'
  clear H'
  go_wp2_with fail
  refine (sn_use_no HH.out (by omega)).mono ?_
  rintro e w9 ⟨rfl, rfl⟩
  go_wp2_with fail
  refine (sn_take HH.out 1 4 9 22 1 2 (by decide) (by decide) (by decide)).mono ?_
  rintro e w' ⟨rfl, H'⟩
  clear HH
  have HH := Lib.hid H'
  clear H'
  go_wp2_with fail
  refine (sn_take HH.out 2 5 1 0 2 1 (by decide) (by decide) (by decide)).mono ?_
  rintro e w' ⟨rfl, H'⟩
  clear HH
  have HH := Lib.hid H'
  clear H'
  go_wp2_with fail
  refine (sn_may HH.out false (by decide)).mono ?_
  rintro e w9 ⟨rfl, rfl⟩
  go_wp2_with fail
  refine (sn_take HH.out 2 5 3 0 2 3 (by decide) (by decide) (by decide)).mono ?_
  rintro e w' ⟨rfl, H'⟩
  clear HH
  have HH := Lib.hid H'
  clear H'
  go_wp2_with fail
  refine (sn_use_ok HH.out (by omega) 3 rfl).mono ?_
  rintro e w' ⟨rfl, H'⟩
  clear HH
  have HH := Lib.hid H'
  clear H'
  go_wp2_with fail
  obtain ⟨r, hr⟩ : ∃ r, w'.heap.size = r := ⟨_, rfl⟩
  refine (sr_join HH.out hr 4 (by omega) (by omega)).mono ?_
  rintro e w' ⟨rfl, H'⟩
  clear HH
  clear hr
  have HH := Lib.hid H'
  clear H'
  go_wp2_with fail
  refine (sr_take HH.out 1 5 9 22 2 3 (by decide) (by decide) (by decide)).mono ?_
  rintro e w' ⟨rfl, H'⟩
  clear HH
  have HH := Lib.hid H'
  clear H'
  go_wp2_with fail
  refine (sr_saw HH.out 3 7 0 3 0 7 (by decide) (by decide) (by decide) (by decide)).mono ?_
  rintro e w' ⟨rfl, H'⟩
  clear HH
  have HH := Lib.hid H'
  clear H'
  go_wp2_with fail
  refine (sr_grant HH.out 2 (by omega) 9 (by decide)).mono ?_
  rintro e w' ⟨rfl, H'⟩
  clear HH
  have HH := Lib.hid H'
  clear H'
  go_wp2_with fail
  refine (sr_grant HH.out 0 (by omega) 9 (by decide)).mono ?_
  rintro e w' ⟨rfl, H'⟩
  clear HH
  have HH := Lib.hid H'
  clear H'
  go_wp2_with fail
  refine (sr_saw HH.out 3 6 0 3 9 7 (by decide) (by decide) (by decide) (by decide)).mono ?_
  rintro e w' ⟨rfl, H'⟩
  clear HH
  have HH := Lib.hid H'
  clear H'
  go_wp2_with fail
  refine (sr_saw HH.out 2 9 22 3 9 7 (by decide) (by decide) (by decide) (by decide)).mono ?_
  rintro e w' ⟨rfl, H'⟩
  clear HH
  have HH := Lib.hid H'
  clear H'
  go_wp2_with fail
  refine (sr_saw HH.out 4 1 0 4 0 1 (by decide) (by decide) (by decide) (by decide)).mono ?_
  rintro e w' ⟨rfl, H'⟩
  clear HH
  have HH := Lib.hid H'
  clear H'
  go_wp2_with fail
  refine (sr_grant HH.out 1 (by omega) 2 (by decide)).mono ?_
  rintro e w' ⟨rfl, H'⟩
  clear HH
  have HH := Lib.hid H'
  clear H'
  go_wp2_with fail
  refine (sr_life HH.out).mono ?_
  rintro e w9 ⟨rfl, rfl⟩
  go_wp2_with fail
  refine (sr_seen HH.out).mono ?_
  rintro e w9 ⟨rfl, rfl⟩
  go_wp2
  go_ret
  exact ⟨rfl, HH.out.grows⟩
end Go.Proofs.Ytpkaddpennafcaa
