/- DrawTurns: whose turn it is is what the document says, at any numbers; no condition. -/
import Derived.Test.YtekegbadkafjlaaDrawD
import Derived.Test.YtekegbadkafjlaaOpen
namespace Go.Proofs.Ytekegbadkafjlaa
set_option linter.unusedVariables false
set_option linter.unusedSimpArgs false
open Go.ChangeShapes Go.WideShapes Go.ChangeAt Go.RowKit

theorem DrawTurns_walk (s n t : Int) (w : World) (h1 : (Lit.int .u64 s).wf = true) (h2 : (Lit.int .i64 n).wf = true) (h3 : (Lit.int .i64 t).wf = true) :
    Calls Try.prog 4 #[.int .u64 s, .int .i64 n, .int .i64 t] w fun e w' => e = .returned (.bool true) ∧ Below w.heap.size w w' := by
  have hs : 0 ≤ s := by
    have k1 : IntKind.u64.min = 0 := rfl
    simp only [Lit.wf, Bool.and_eq_true, decide_eq_true_eq] at h1
    omega
  clear h1 h2 h3
  have hc : (n < 1 ∨ 255 < n) ∨ (1 ≤ n ∧ n ≤ 255) := by omega
  rcases hc with hn | ⟨n1, n2⟩
  · have ht : t < 0 ∨ (0 ≤ t ∧ t < n) ∨ (0 ≤ t ∧ n ≤ t) := by omega
    rcases ht with t1 | ⟨t1, t2⟩ | ⟨t1, t2⟩
    all_goals
      go_enter Try.func4, Try.ntmps4
      go_wp2_with (
        first
        | (go_at_call 15; refine (turn_no _ _ _ hn).mono ?_; rintro e w' ⟨rfl, rfl⟩)
        | (go_at_call 16; refine (refTurn_no _ _ _ hn).mono ?_; rintro e w' ⟨rfl, rfl⟩)
        | (go_at_call 14; refine (awake_true _).mono ?_; rintro e w' ⟨rfl, hg⟩)
        | (go_at_call 17; refine (sys_any _ _ _).mono ?_; rintro e w' ⟨rfl, rfl⟩))
      go_ret
      refine ⟨ret_bool ?_, Ext.to_below (by assumption)⟩
      simp
      try omega
  · have ht : t < 0 ∨ (0 ≤ t ∧ t < n) ∨ (0 ≤ t ∧ n ≤ t) := by omega
    rcases ht with t1 | ⟨t1, t2⟩ | ⟨t1, t2⟩
    all_goals
      go_enter Try.func4, Try.ntmps4
      go_wp2_with (
        first
        | (go_at_call 15; refine (turn_yes _ _ _ hs n1 n2).mono ?_; rintro e w' ⟨rfl, rfl⟩)
        | (go_at_call 16; refine (refTurn_yes _ _ _ hs n1 n2).mono ?_; rintro e w' ⟨rfl, rfl⟩)
        | (go_at_call 14; refine (awake_true _).mono ?_; rintro e w' ⟨rfl, hg⟩)
        | (go_at_call 17; refine (sys_any _ _ _).mono ?_; rintro e w' ⟨rfl, rfl⟩))
      go_ret
      refine ⟨ret_bool ?_, Ext.to_below (by assumption)⟩
      simp
      try omega

namespace DrawTurnsShell
theorem own : ownKnob Try.prog.godebug = none := by kernel_rfl
theorem laidOut : laidOutB Try.prog = true := by kernel_rfl
set_option maxRecDepth 100000 in
theorem lifted (os : Os) (started : os.Started) (H : Type) (enc : TypeId × Value → H) :
    ReturnsInHanded {} Try.checked os 4 .any (Rows.drawTurnsSpec.pre6 enc Try.prog Try.f4 Rows.drawTurnsRow.domain false) (Rows.drawTurnsSpec.post enc Try.prog Try.f4 false true false false) := by
  refine returnsInHanded_of_change_sized (C := Try.checked) own started (by kernel_rfl) Try.func4
    (ChangeSpec.witness6 (enc := enc) (C := Try.checked) false ⟨#[], #[.int .u64 0, .int .i64 0, .int .i64 0], []⟩ 8 (by kernel_rfl) (by kernel_rfl) (by kernel_rfl) (by kernel_rfl)) ?_
  intro W base args ds gs before hval0 hW hcnd hsz0 _
  have hval : ∀ (j : Nat) t v, Try.f4.params[j]? = some t → args[j]? = some v → Value.okWide Try.prog W .any base t v := hval0
  have hsz : (DataW.weightsEach Try.prog (Try.f4.params.toList ++ Rows.drawTurnsSpec.plain.varTypes Try.prog) (ds ++ gs)).all (· ≤ reachBytes) = true := hsz0
  have hW' := hW
  obtain ⟨p, q, hA0, hV, rfl, hfz, hnd⟩ := hW
  have hA : DataW.TrodAll enc Try.prog W 0 (fun _ => true) true Try.f4.params.toList args.toList ds p := hA0
  rw [Try.params4] at hA hval hsz
  obtain ⟨v0, vs0, d0, ds0, p0, q0, hargs, rfl, rfl, h0, r0⟩ := trodAll_cons hA
  obtain ⟨v1, vs1, d1, ds1, p1, q1, rfl, rfl, rfl, h1, r1⟩ := trodAll_cons r0
  obtain ⟨v2, vs2, d2, ds2, p2, q2, rfl, rfl, rfl, h2, r2⟩ := trodAll_cons r1
  obtain ⟨rfl, rfl, rfl⟩ := trodAll_nil r2
  obtain rfl : args = #[v0, v1, v2] := by cases args; simp_all
  obtain ⟨rfl, rfl⟩ := trodVars_none hV
  have k0 := h0
  have lt0 : ∀ x ∈ p0, x.block < W.heap.size := by obtain ⟨m, hm⟩ := k0; exact DataW.trod_lt m _ _ _ hm
  have k1 := h1
  have lt1 : ∀ x ∈ p1, x.block < W.heap.size := by obtain ⟨m, hm⟩ := k1; exact DataW.trod_lt m _ _ _ hm
  have k2 := h2
  have lt2 : ∀ x ∈ p2, x.block < W.heap.size := by obtain ⟨m, hm⟩ := k2; exact DataW.trod_lt m _ _ _ hm
  obtain ⟨a0, rfl, rfl, rfl, w0⟩ := open_int Try.underlying31 (hval 0 31 v0 rfl rfl) h0
  obtain ⟨a1, rfl, rfl, rfl, w1⟩ := open_int Try.underlying3 (hval 1 3 v1 rfl rfl) h1
  obtain ⟨a2, rfl, rfl, rfl, w2⟩ := open_int Try.underlying3 (hval 2 3 v2 rfl rfl) h2
  clear hA0 hval0 hsz0
  refine (DrawTurns_walk a0 a1 a2 W w0 w1 w2).mono fun e W' ⟨he, bel⟩ => ?_
  subst he
  exact ⟨_, rfl, _, _, _, [], _, [], hW', trodAll_mk1 (shut_bool Try.underlying4 _), (trodAll_cons_mk (Below.trod laidOut (by kernel_rfl) (of_decide_eq_true (by kernel_rfl)) k0 bel lt0) (trodAll_cons_mk (Below.trod laidOut (by kernel_rfl) (of_decide_eq_true (by kernel_rfl)) k1 bel lt1) (trodAll_cons_mk (Below.trod laidOut (by kernel_rfl) (of_decide_eq_true (by kernel_rfl)) k2 bel lt2) trodAll_mk0))), rfl, bel.frame _, fun h => by cases h⟩
theorem over : Rows.drawTurnsRow.holds Try.pinned (OpenSpec.ofChange Rows.drawTurnsSpec) :=
  OpenClaim.holds_of_wide 4 Try.f4 rfl rfl rfl rfl rfl rfl rfl ⟨rfl, rfl, rfl, rfl, rfl⟩ rfl rfl rfl rfl rfl (by kernel_rfl) Try.func4 (by kernel_rfl)
    (of_decide_eq_true (by kernel_rfl)) (by unfold Func.isWrapper; first | (rw [if_pos (by decide +kernel)]; kernel_rfl) | (rw [if_neg (by decide +kernel)]; exact ⟨rfl, rfl⟩))
    (fun os started H enc _ => lifted os started H enc)
end DrawTurnsShell
theorem DrawTurns_holds : Rows.DrawTurnsSaid := DrawTurnsShell.over
#print axioms DrawTurns_holds
end Go.Proofs.Ytekegbadkafjlaa
