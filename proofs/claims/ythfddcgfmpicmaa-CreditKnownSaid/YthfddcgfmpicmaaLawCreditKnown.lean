/- CreditKnown: a closed statement. -/
import Derived.Test.YthfddcgfmpicmaaCreditW
import Derived.Test.YthfddcgfmpicmaaJoined
namespace Go.Proofs.Ythfddcgfmpicmaa
set_option linter.unusedVariables false
set_option linter.unusedSimpArgs false
open Go.ChangeShapes Go.WideShapes Go.ChangeAt Go.RowKit

set_option maxRecDepth 4000 in
set_option maxHeartbeats 4000000 in
theorem CreditKnown_walk (w : World) : Calls Try.prog 13 #[] w fun e w' => e = .returned (.bool true) ∧ Below w.heap.size w w' := by
  obtain ⟨z, hz⟩ : ∃ z, w.heap.size = z := ⟨_, rfl⟩
  have HS := Lib.hid hz
  clear hz
  go_enter Try.func13, Try.ntmps13
  go_wp2_with fail
  have hc0 : (w.alloc (.cells #[.int .i64 0, .int .u64 0, .complex .f64 0 0] 126)).cell? ⟨z, 0, none⟩ = some (.int .i64 0) := by rw [← HS.out]; simp
  have hl0 : z < (w.alloc (.cells #[.int .i64 0, .int .u64 0, .complex .f64 0 0] 126)).heap.size := by rw [← HS.out]; simp
  have hg0 : Grows w (w.alloc (.cells #[.int .i64 0, .int .u64 0, .complex .f64 0 0] 126)) := (Ext.refl _ _).alloc _
  rw [HS.out]
  generalize w.alloc (.cells #[.int .i64 0, .int .u64 0, .complex .f64 0 0] 126) = w' at hc0 hl0 hg0 ⊢
  have HZ := Lib.hid hc0
  have HL := Lib.hid hl0
  have HG := Lib.hid hg0
  clear hc0 hl0 hg0
  refine (use_nil _).mono ?_
  rintro e w9 ⟨rfl, rfl⟩
  go_wp2_with fail
  refine (grant_zero z 0 _ HZ.out).mono ?_
  rintro e w9 ⟨rfl, rfl⟩
  go_wp2_with fail
  refine (newSender_no 0 _ (by omega)).mono ?_
  rintro e w9 ⟨rfl, rfl⟩
  go_wp2_with fail
  refine (newSender_no 1125899906842625 _ (by simp [Most])).mono ?_
  rintro e w9 ⟨rfl, rfl⟩
  go_wp2_with fail
  refine (newReceiver_no 65 _ (by omega)).mono ?_
  rintro e w9 ⟨rfl, rfl⟩
  go_wp2_with fail
  refine (newReceiver_no 0 _ (by omega)).mono ?_
  rintro e w9 ⟨rfl, rfl⟩
  go_wp2_with fail
  refine (take_nil 1 1 1 _).mono ?_
  rintro e w' ⟨rfl, hg⟩
  have hz := (hg.cell HL.out (fun h => h)).trans HZ.out
  have hl := Nat.lt_of_lt_of_le HL.out hg.size
  have hg1 := HG.out.trans hg
  clear hg HZ HL HG
  have HZ := Lib.hid hz
  have HL := Lib.hid hl
  have HG := Lib.hid hg1
  clear hz hl hg1
  go_wp2_with fail
  refine (saw_zero z 1 1 _ HZ.out HL.out).mono ?_
  rintro e w' ⟨rfl, hg⟩
  have hz := (hg.cell HL.out (fun h => h)).trans HZ.out
  have hl := Nat.lt_of_lt_of_le HL.out hg.size
  have hg1 := HG.out.trans hg
  clear hg HZ HL HG
  have HZ := Lib.hid hz
  have HL := Lib.hid hl
  have HG := Lib.hid hg1
  clear hz hl hg1
  go_wp2_with fail
  refine (may_nil _).mono ?_
  rintro e w9 ⟨rfl, rfl⟩
  go_wp2_with fail
  refine (sent_nil _).mono ?_
  rintro e w9 ⟨rfl, rfl⟩
  go_wp2_with fail
  refine (granted_nil _).mono ?_
  rintro e w9 ⟨rfl, rfl⟩
  go_wp2_with fail
  refine (life_zero z _ HZ.out).mono ?_
  rintro e w9 ⟨rfl, rfl⟩
  go_wp2_with fail
  refine (seen_zero z _ HZ.out).mono ?_
  rintro e w9 ⟨rfl, rfl⟩
  go_wp2_with fail
  obtain ⟨s, hs⟩ : ∃ s, w'.heap.size = s := ⟨_, rfl⟩
  have hsb : w.heap.size ≤ s := by have := HG.out.size; omega
  refine (sn_new 1125899906842624 hsb HG.out hs (by omega) (by decide)).mono ?_
  rintro e w' ⟨rfl, H'⟩
  clear hs
  have HH := Lib.hid H'
  clear H'
  go_wp2_with fail
  obtain ⟨r, hr⟩ : ∃ r, w'.heap.size = r := ⟨_, rfl⟩
  refine (sr_join HH.out hr 64 (by omega) (by omega)).mono ?_
  rintro e w' ⟨rfl, H'⟩
  clear HH
  clear hr
  have HH := Lib.hid H'
  clear H'
  go_wp2_with fail
  refine (sr_take HH.out 1125899906842624 1125899906842624 1125899906842624 0 1125899906842624 1125899906842624 (by decide) (by decide) (by decide)).mono ?_
  rintro e w' ⟨rfl, H'⟩
  clear HH
  have HH := Lib.hid H'
  clear H'
  go_wp2_with fail
  refine (sr_take HH.out 0 1125899906842624 1 1 1125899906842624 1125899906842624 (by decide) (by decide) (by decide)).mono ?_
  rintro e w' ⟨rfl, H'⟩
  clear HH
  have HH := Lib.hid H'
  clear H'
  go_wp2_with fail
  refine (sr_take HH.out 1 1125899906842624 1125899906842625 1 1125899906842624 1125899906842624 (by decide) (by decide) (by decide)).mono ?_
  rintro e w' ⟨rfl, H'⟩
  clear HH
  have HH := Lib.hid H'
  clear H'
  go_wp2_with fail
  refine (sr_saw HH.out 1 1125899906842624 0 1 0 1125899906842624 (by decide) (by decide) (by decide) (by decide)).mono ?_
  rintro e w' ⟨rfl, H'⟩
  clear HH
  have HH := Lib.hid H'
  clear H'
  go_wp2_with fail
  refine (sr_grant HH.out 64 (by omega) 1125899906842624 (by decide)).mono ?_
  rintro e w' ⟨rfl, H'⟩
  clear HH
  have HH := Lib.hid H'
  clear H'
  go_wp2_with fail
  refine (sr_grant_arg HH.out 65 (by omega)).mono ?_
  rintro e w9 ⟨rfl, rfl⟩
  go_wp2_with fail
  refine (sr_grant_arg HH.out (-1) (by omega)).mono ?_
  rintro e w9 ⟨rfl, rfl⟩
  go_wp2_with fail
  refine (sr_granted HH.out).mono ?_
  rintro e w9 ⟨rfl, rfl⟩
  go_wp2_with fail
  refine (sr_saw HH.out 0 1 1 1 1125899906842624 1125899906842624 (by decide) (by decide) (by decide) (by decide)).mono ?_
  rintro e w' ⟨rfl, H'⟩
  clear HH
  have HH := Lib.hid H'
  clear H'
  go_wp2_with fail
  refine (credit_wakes _).mono ?_
  rintro e w' ⟨rfl, hg⟩
  have HE := Lib.hid (HH.out.grows.trans hg)
  clear hg
  go_wp2
  go_ret
  exact ⟨rfl, Ext.to_below HE.out⟩
namespace CreditKnownShell
theorem own : ownKnob Try.prog.godebug = none := by kernel_rfl
theorem laidOut : laidOutB Try.prog = true := j1
set_option maxRecDepth 100000 in
theorem lifted (os : Os) (started : os.Started) (H : Type) (enc : TypeId × Value → H) :
    ReturnsInHanded {} Try.checked os 13 .any (Rows.creditKnownSpec.pre6 enc Try.prog Try.f13 Rows.creditKnownRow.domain false) (Rows.creditKnownSpec.post enc Try.prog Try.f13 false true false false) := by
  refine returnsInHanded_of_change_sized (C := Try.checked) own started (by kernel_rfl) Try.func13
    (ChangeSpec.witness6 (enc := enc) (C := Try.checked) false ⟨#[], #[], []⟩ 8 (by kernel_rfl) (by kernel_rfl) (by kernel_rfl) (by kernel_rfl)) ?_
  intro W base args ds gs before hval0 hW hcnd hsz0 _
  have hval : ∀ (j : Nat) t v, Try.f13.params[j]? = some t → args[j]? = some v → Value.okWide Try.prog W .any base t v := hval0
  have hsz : (DataW.weightsEach Try.prog (Try.f13.params.toList ++ Rows.creditKnownSpec.plain.varTypes Try.prog) (ds ++ gs)).all (· ≤ reachBytes) = true := hsz0
  have hW' := hW
  obtain ⟨p, q, hA0, hV, rfl, hfz, hnd⟩ := hW
  have hA : DataW.TrodAll enc Try.prog W 0 (fun _ => true) true Try.f13.params.toList args.toList ds p := hA0
  rw [Try.params13] at hA hval hsz
  obtain ⟨hargs, rfl, rfl⟩ := trodAll_nil hA
  obtain rfl : args = #[] := by cases args; simp_all
  obtain ⟨rfl, rfl⟩ := trodVars_none hV
  clear hA0 hval0 hsz0
  refine (CreditKnown_walk  W ).mono fun e W' ⟨he, bel⟩ => ?_
  subst he
  exact ⟨_, rfl, _, _, _, [], _, [], hW', trodAll_mk1 (shut_bool Try.underlying4 _), trodAll_mk0, rfl, bel.frame _, fun h => by cases h⟩
theorem joined : joinedFacts Try.prog 13 Try.f13 Rows.creditKnownSpec Rows.creditKnownRow = true := by
  unfold joinedFacts
  refine and_mk (and_mk (and_mk (and_mk (and_mk (and_mk (and_mk (and_mk (and_mk (and_mk (and_mk (and_mk (and_mk (and_mk (and_mk (and_mk (and_mk (and_mk (and_mk (and_mk (and_mk (and_mk (and_mk (and_mk (and_mk (and_mk (and_mk (and_mk (and_mk (and_mk (and_mk ?_ ?_) ?_) ?_) ?_) ?_) ?_) ?_) ?_) ?_) ?_) ?_) ?_) ?_) ?_) ?_) ?_) ?_) ?_) ?_) ?_) ?_) ?_) ?_) ?_) ?_) ?_) ?_) ?_) ?_) ?_) ?_
  · as_aux_lemma => kernel_rfl
  · exact j1
  · exact j2
  · as_aux_lemma => kernel_rfl
  · as_aux_lemma => kernel_rfl
  · as_aux_lemma => kernel_rfl
  · as_aux_lemma => kernel_rfl
  · as_aux_lemma => kernel_rfl
  · as_aux_lemma => kernel_rfl
  · as_aux_lemma => kernel_rfl
  · as_aux_lemma => kernel_rfl
  · as_aux_lemma => kernel_rfl
  · as_aux_lemma => kernel_rfl
  · as_aux_lemma => kernel_rfl
  · as_aux_lemma => kernel_rfl
  · as_aux_lemma => kernel_rfl
  · as_aux_lemma => kernel_rfl
  · as_aux_lemma => kernel_rfl
  · as_aux_lemma => kernel_rfl
  · as_aux_lemma => kernel_rfl
  · as_aux_lemma => kernel_rfl
  · as_aux_lemma => kernel_rfl
  · exact j22
  · as_aux_lemma => kernel_rfl
  · exact j24
  · exact j25
  · exact j26
  · exact j27
  · as_aux_lemma => kernel_rfl
  · as_aux_lemma => kernel_rfl
  · as_aux_lemma => kernel_rfl
  · as_aux_lemma => kernel_rfl
theorem over : Rows.creditKnownRow.holds Try.pinned (OpenSpec.ofChange Rows.creditKnownSpec) :=
  OpenClaim.holds_of_wide 13 Try.f13 rfl rfl rfl rfl rfl rfl rfl ⟨rfl, rfl, rfl, rfl, rfl⟩ rfl rfl rfl rfl rfl (by kernel_rfl) Try.func13 joined
    (of_decide_eq_true (by kernel_rfl)) (by unfold Func.isWrapper; first | (rw [if_pos (by decide +kernel)]; kernel_rfl) | (rw [if_neg (by decide +kernel)]; exact ⟨rfl, rfl⟩))
    (fun os started H enc _ => lifted os started H enc)
end CreditKnownShell
theorem CreditKnown_holds : Rows.CreditKnownSaid := CreditKnownShell.over
#print axioms CreditKnown_holds
end Go.Proofs.Ythfddcgfmpicmaa
