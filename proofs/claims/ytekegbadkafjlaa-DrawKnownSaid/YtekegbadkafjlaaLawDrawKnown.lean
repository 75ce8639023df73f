/- DrawKnown: the document's examples and ends; a closed statement. -/
import Derived.Test.YtekegbadkafjlaaDrawD
import Derived.Test.YtekegbadkafjlaaOpen
namespace Go.Proofs.Ytekegbadkafjlaa
set_option linter.unusedVariables false
set_option linter.unusedSimpArgs false
open Go.ChangeShapes Go.WideShapes Go.ChangeAt Go.RowKit

set_option maxHeartbeats 2000000 in
theorem DrawKnown_walk (w : World) : Calls Try.prog 5 #[] w fun e w' => e = .returned (.bool true) ∧ Below w.heap.size w w' := by
  go_enter Try.func5, Try.ntmps5
  go_wp2_with fail
  have L0 : Bytes (w.alloc (.cells #[.int .u8 7] 5)) (.slice (some ⟨w.heap.size, 0, none⟩) 1 1) [7] := Bytes.lit w _ _ _ rfl rfl (by decide) (by decide)
  refine (coefs_int _ _ 3 0 _ L0 (by omega) (by omega) (by omega) (by omega)).mono ?_
  rintro e w1 hd
  obtain ⟨b1, hb1, rfl, hh1, B1, hg1⟩ := hd.out (ys := [7, 0, 0]) (m := 3) (by decide) (by omega) (by omega) rfl (by decide)
  have G1 := Ext.trans (Ext.alloc (Ext.refl _ w) _) hg1
  clear hd hb1 hh1 hg1 L0
  go_wp2_with fail
  refine (coefs_int _ _ 2 1 _ (Bytes.nil _) (by omega) (by omega) (by omega) (by omega)).mono ?_
  rintro e w2 hd
  obtain ⟨b2, hb2, rfl, hh2, B2, hg2⟩ := hd.out (ys := [0, 1]) (m := 2) (by simp) (by omega) (by omega) rfl (by decide)
  have G2 := G1.trans hg2
  have C1 := B1.grows hg2
  clear hd hb2 hh2 hg2 B1 G1
  go_wp2_with fail
  refine (coefs_no _ _ _ _ (by omega)).mono ?_
  rintro e w3 ⟨rfl, hg3⟩
  go_wp2_with fail
  refine (coefs_no _ _ _ _ (by omega)).mono ?_
  rintro e w4 ⟨rfl, hg4⟩
  go_wp2_with fail
  refine (coefs_no _ _ _ _ (by omega)).mono ?_
  rintro e w5 ⟨rfl, hg5⟩
  go_wp2_with fail
  refine (coefs_no _ _ _ _ (by omega)).mono ?_
  rintro e w6 ⟨rfl, hg6⟩
  have G6 : Grows w2 w6 := ((hg3.trans hg4).trans hg5).trans (Ext.trans (Ext.alloc (Ext.refl _ _) _) hg6)
  have D1 := C1.grows G6
  have D2 := B2.grows G6
  have G7 := G2.trans G6
  clear G2 G6 hg3 hg4 hg5 hg6 C1 B2
  go_wp2_with fail
  refine (turn_yes _ _ _ (by omega) (by omega) (by omega)).mono ?_
  rintro e w7 ⟨rfl, rfl⟩
  go_wp2_with fail
  refine (turn_no _ _ _ (by omega)).mono ?_
  rintro e w7 ⟨rfl, rfl⟩
  go_wp2_with fail
  refine (turn_yes _ _ _ (by omega) (by omega) (by omega)).mono ?_
  rintro e w7 ⟨rfl, rfl⟩
  go_wp2_with fail
  refine (awake_true _).mono ?_
  rintro e w7 ⟨rfl, hg7⟩
  have E1 := D1.grows hg7
  have E2 := D2.grows hg7
  have G8 := G7.trans hg7
  clear D1 D2 hg7 G7
  go_wp2_with fail
  have L1 : Bytes (w7.alloc (.cells #[.int .u8 7, .int .u8 0, .int .u8 0] 5)) (.slice (some ⟨w7.heap.size, 0, none⟩) 3 3) [7, 0, 0] := Bytes.lit w7 _ _ _ rfl rfl (by decide) (by decide)
  have G9 : Grows w (w7.alloc (.cells #[.int .u8 7, .int .u8 0, .int .u8 0] 5)) := G8.alloc _
  have F2 := E2.grows (Ext.alloc (Ext.refl _ _) (.cells #[.int .u8 7, .int .u8 0, .int .u8 0] 5))
  refine (equal_any _ _ _ _ _ (E1.grows (Ext.alloc (Ext.refl _ _) _)) L1).mono ?_
  rintro e w8 ⟨rfl, rfl⟩
  generalize w7.alloc (.cells #[.int .u8 7, .int .u8 0, .int .u8 0] 5) = w8 at G9 F2 ⊢
  clear L1 E1 E2 G8
  go_wp2_with fail
  have L2 : Bytes (w8.alloc (.cells #[.int .u8 0, .int .u8 1] 5)) (.slice (some ⟨w8.heap.size, 0, none⟩) 2 2) [0, 1] := Bytes.lit w8 _ _ _ rfl rfl (by decide) (by decide)
  refine (equal_any _ _ _ _ _ (F2.grows (Ext.alloc (Ext.refl _ _) _)) L2).mono ?_
  rintro e w9 ⟨rfl, rfl⟩
  go_wp2_with fail
  refine (sys_any _ _ _).mono ?_
  rintro e w9 ⟨rfl, rfl⟩
  go_wp2_with fail
  refine (sys_any _ _ _).mono ?_
  rintro e w9 ⟨rfl, rfl⟩
  go_wp2
  go_ret
  exact ⟨ret_bool (by simp), Ext.to_below (G9.alloc _)⟩

namespace DrawKnownShell
theorem own : ownKnob Try.prog.godebug = none := by kernel_rfl
theorem laidOut : laidOutB Try.prog = true := by kernel_rfl
set_option maxRecDepth 100000 in
theorem lifted (os : Os) (started : os.Started) (H : Type) (enc : TypeId × Value → H) :
    ReturnsInHanded {} Try.checked os 5 .any (Rows.drawKnownSpec.pre6 enc Try.prog Try.f5 Rows.drawKnownRow.domain false) (Rows.drawKnownSpec.post enc Try.prog Try.f5 false true false false) := by
  refine returnsInHanded_of_change_sized (C := Try.checked) own started (by kernel_rfl) Try.func5
    (ChangeSpec.witness6 (enc := enc) (C := Try.checked) false ⟨#[], #[], []⟩ 8 (by kernel_rfl) (by kernel_rfl) (by kernel_rfl) (by kernel_rfl)) ?_
  intro W base args ds gs before hval0 hW hcnd hsz0 _
  have hval : ∀ (j : Nat) t v, Try.f5.params[j]? = some t → args[j]? = some v → Value.okWide Try.prog W .any base t v := hval0
  have hsz : (DataW.weightsEach Try.prog (Try.f5.params.toList ++ Rows.drawKnownSpec.plain.varTypes Try.prog) (ds ++ gs)).all (· ≤ reachBytes) = true := hsz0
  have hW' := hW
  obtain ⟨p, q, hA0, hV, rfl, hfz, hnd⟩ := hW
  have hA : DataW.TrodAll enc Try.prog W 0 (fun _ => true) true Try.f5.params.toList args.toList ds p := hA0
  rw [Try.params5] at hA hval hsz
  obtain ⟨hargs, rfl, rfl⟩ := trodAll_nil hA
  obtain rfl : args = #[] := by cases args; simp_all
  obtain ⟨rfl, rfl⟩ := trodVars_none hV
  clear hA0 hval0 hsz0
  refine (DrawKnown_walk  W ).mono fun e W' ⟨he, bel⟩ => ?_
  subst he
  exact ⟨_, rfl, _, _, _, [], _, [], hW', trodAll_mk1 (shut_bool Try.underlying4 _), trodAll_mk0, rfl, bel.frame _, fun h => by cases h⟩
theorem over : Rows.drawKnownRow.holds Try.pinned (OpenSpec.ofChange Rows.drawKnownSpec) :=
  OpenClaim.holds_of_wide 5 Try.f5 rfl rfl rfl rfl rfl rfl rfl ⟨rfl, rfl, rfl, rfl, rfl⟩ rfl rfl rfl rfl rfl (by kernel_rfl) Try.func5 (by kernel_rfl)
    (of_decide_eq_true (by kernel_rfl)) (by unfold Func.isWrapper; first | (rw [if_pos (by decide +kernel)]; kernel_rfl) | (rw [if_neg (by decide +kernel)]; exact ⟨rfl, rfl⟩))
    (fun os started H enc _ => lifted os started H enc)
end DrawKnownShell
theorem DrawKnown_holds : Rows.DrawKnownSaid := DrawKnownShell.over
#print axioms DrawKnown_holds
end Go.Proofs.Ytekegbadkafjlaa
