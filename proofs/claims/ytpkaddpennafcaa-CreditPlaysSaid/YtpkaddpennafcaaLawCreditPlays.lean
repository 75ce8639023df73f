/- CreditPlays: accounts under any calls tell what the document's tell. -/
import Derived.Test.YtpkaddpennafcaaCreditPlay
namespace Go.Proofs.Ytpkaddpennafcaa
set_option linter.unusedVariables false
set_option linter.unusedSimpArgs false
open Go.ChangeShapes Go.WideShapes Go.ChangeAt Go.RowKit

set_option maxRecDepth 4000 in
set_option maxHeartbeats 4000000 in
theorem plays_no (life : Nat) (places : Int) (v : Value) (w : World) (hb : ¬ ((1 ≤ life ∧ life ≤ Most) ∧ (1 ≤ places ∧ places ≤ 64))) :
    Calls Try.prog 7 #[.int .u64 life, .int .i64 places, v] w fun e w' => e = .returned (.bool true) ∧ Below w.heap.size w w' := by
  have HBB := Lib.hid hb
  clear hb
  go_enter Try.func7, Try.ntmps7
  have hb := HBB.out
  by_cases hl : 1 ≤ life ∧ life ≤ Most
  · have hp : places < 1 ∨ 64 < places := by omega
    have L := Lib.hid hl
    have HP := Lib.hid hp
    clear hb hl hp
    go_wp2_with fail
    refine (newSender_ok life w L.out.1 L.out.2).mono ?_
    rintro e w1 ⟨rfl, H1, g1⟩
    have A1 := Lib.hid g1
    clear H1 g1
    go_wp2_with fail
    refine (ref_newS_ok life w1 L.out.1 L.out.2).mono ?_
    rintro e w2 ⟨rfl, H2, g2⟩
    have A2 := Lib.hid (A1.out.trans g2)
    clear H2 g2 A1
    go_wp2_with fail
    refine (newReceiver_no places w2 HP.out).mono ?_
    rintro e w3 ⟨rfl, rfl⟩
    go_wp2_with fail
    refine (ref_newR_no places w2 HP.out).mono ?_
    rintro e w3 ⟨rfl, rfl⟩
    go_wp2_with fail
    refine (credit_wakes _).mono ?_
    rintro e w5 ⟨rfl, hg⟩
    have A3 := Lib.hid (A2.out.trans hg)
    clear A2 hg
    go_wp2
    go_ret
    exact ⟨rfl, Ext.to_below A3.out⟩
  · have L := Lib.hid hl
    by_cases hp : 1 ≤ places ∧ places ≤ 64
    · obtain ⟨p, rfl⟩ := Int.eq_ofNat_of_zero_le (show 0 ≤ places by omega)
      have HP := Lib.hid (show 1 ≤ p ∧ p ≤ 64 by omega)
      clear hb hl hp
      go_wp2_with fail
      refine (newSender_no life w L.out).mono ?_
      rintro e w1 ⟨rfl, rfl⟩
      go_wp2_with fail
      refine (ref_newS_no life w L.out).mono ?_
      rintro e w2 ⟨rfl, rfl⟩
      go_wp2_with fail
      refine (newReceiver_ok p w HP.out.1 HP.out.2).mono ?_
      rintro e w3 ⟨rfl, H1, g1⟩
      have A1 := Lib.hid g1
      clear H1 g1
      go_wp2_with fail
      refine (ref_newR_ok p w3 HP.out.1 HP.out.2).mono ?_
      rintro e w4 ⟨rfl, H2, g2⟩
      have A2 := Lib.hid (A1.out.trans g2)
      clear H2 g2 A1
      go_wp2_with fail
      refine (credit_wakes _).mono ?_
      rintro e w5 ⟨rfl, hg⟩
      have A3 := Lib.hid (A2.out.trans hg)
      clear A2 hg
      go_wp2
      go_ret
      exact ⟨rfl, Ext.to_below A3.out⟩
    · have HP := Lib.hid (show places < 1 ∨ 64 < places by omega)
      clear hb hl hp
      go_wp2_with fail
      refine (newSender_no life w L.out).mono ?_
      rintro e w1 ⟨rfl, rfl⟩
      go_wp2_with fail
      refine (ref_newS_no life w L.out).mono ?_
      rintro e w2 ⟨rfl, rfl⟩
      go_wp2_with fail
      refine (newReceiver_no places w HP.out).mono ?_
      rintro e w3 ⟨rfl, rfl⟩
      go_wp2_with fail
      refine (ref_newR_no places w HP.out).mono ?_
      rintro e w3 ⟨rfl, rfl⟩
      go_wp2_with fail
      refine (credit_wakes _).mono ?_
      rintro e w5 ⟨rfl, hg⟩
      have A3 := Lib.hid hg
      clear hg
      go_wp2
      go_ret
      exact ⟨rfl, Ext.to_below A3.out⟩

theorem CreditPlays_walk (life places : Int) (v : Value) (xs : List OpV) (w : World) (h0 : (Lit.int .u64 life).wf = true) (h1 : (Lit.int .i64 places).wf = true) (h2 : Ops w v xs) :
    Calls Try.prog 7 #[.int .u64 life, .int .i64 places, v] w fun e w' => e = .returned (.bool true) ∧ Below w.heap.size w w' := by
  obtain ⟨a1, a2⟩ := wf64' h0
  obtain ⟨life, rfl⟩ := Int.eq_ofNat_of_zero_le a1
  by_cases hb : (1 ≤ life ∧ life ≤ Most) ∧ (1 ≤ places ∧ places ≤ 64)
  · obtain ⟨p, rfl⟩ := Int.eq_ofNat_of_zero_le (show 0 ≤ places by omega)
    exact play_loop life p v xs w h2 hb.1.1 hb.1.2 (by omega) (by omega)
  · exact plays_no life places v w hb
namespace CreditPlaysShell
theorem own : ownKnob Try.prog.godebug = none := by kernel_rfl
theorem laidOut : laidOutB Try.prog = true := by kernel_rfl
set_option maxRecDepth 100000 in
theorem lifted (os : Os) (started : os.Started) (H : Type) (enc : TypeId × Value → H) :
    ReturnsInHanded {} Try.checked os 7 .any (Rows.creditPlaysSpec.pre6 enc Try.prog Try.f7 Rows.creditPlaysRow.domain false) (Rows.creditPlaysSpec.post enc Try.prog Try.f7 false true false false) := by
  refine returnsInHanded_of_change_sized (C := Try.checked) own started (by kernel_rfl) Try.func7
    (ChangeSpec.witness6 (enc := enc) (C := Try.checked) false ⟨#[], #[.int .u64 0, .int .i64 0, .slice none 0 0], []⟩ 8 (by kernel_rfl) (by kernel_rfl) (by kernel_rfl) (by kernel_rfl)) ?_
  intro W base args ds gs before hval0 hW hcnd hsz0 _
  have hval : ∀ (j : Nat) t v, Try.f7.params[j]? = some t → args[j]? = some v → Value.okWide Try.prog W .any base t v := hval0
  have hsz : (DataW.weightsEach Try.prog (Try.f7.params.toList ++ Rows.creditPlaysSpec.plain.varTypes Try.prog) (ds ++ gs)).all (· ≤ reachBytes) = true := hsz0
  have hW' := hW
  obtain ⟨p, q, hA0, hV, rfl, hfz, hnd⟩ := hW
  have hA : DataW.TrodAll enc Try.prog W 0 (fun _ => true) true Try.f7.params.toList args.toList ds p := hA0
  rw [Try.params7] at hA hval hsz
  obtain ⟨v0, vs0, d0, ds0, p0, q0, hargs, rfl, rfl, h0, r0⟩ := trodAll_cons hA
  obtain ⟨v1, vs1, d1, ds1, p1, q1, rfl, rfl, rfl, h1, r1⟩ := trodAll_cons r0
  obtain ⟨v2, vs2, d2, ds2, p2, q2, rfl, rfl, rfl, h2, r2⟩ := trodAll_cons r1
  obtain ⟨rfl, rfl, rfl⟩ := trodAll_nil r2
  obtain rfl : args = #[v0, v1, v2] := by cases args; simp_all
  obtain ⟨rfl, rfl⟩ := trodVars_none hV
  have k0 := h0
  have lt0 : ∀ x ∈ p0, x.block < W.heap.size := by obtain ⟨m, hm⟩ := k0; exact DataW.trod_lt m _ _ _ hm
  have k1 := h1
  have lt1 : ∀ x ∈ p1, x.block < W.heap.size := by obtain ⟨m, hm⟩ := k1; exact DataW.trod_lt m _ _ _ hm
  have k2 := h2
  have lt2 : ∀ x ∈ p2, x.block < W.heap.size := by obtain ⟨m, hm⟩ := k2; exact DataW.trod_lt m _ _ _ hm
  obtain ⟨a0, rfl, rfl, rfl, w0⟩ := open_int Try.underlying22 (hval 0 22 v0 rfl rfl) h0
  obtain ⟨a1, rfl, rfl, rfl, w1⟩ := open_int Try.underlying3 (hval 1 3 v1 rfl rfl) h1
  obtain ⟨a2, w2⟩ := open_ops (hval 2 56 v2 rfl rfl) h2 hsz (j := 2) rfl rfl
  clear hA0 hval0 hsz0
  refine (CreditPlays_walk a0 a1 v2 a2 W w0 w1 w2).mono fun e W' ⟨he, bel⟩ => ?_
  subst he
  exact ⟨_, rfl, _, _, _, [], _, [], hW', trodAll_mk1 (shut_bool Try.underlying4 _), (trodAll_cons_mk (Below.trod laidOut (by kernel_rfl) (of_decide_eq_true (by kernel_rfl)) k0 bel lt0) (trodAll_cons_mk (Below.trod laidOut (by kernel_rfl) (of_decide_eq_true (by kernel_rfl)) k1 bel lt1) (trodAll_cons_mk (Below.trod laidOut (by kernel_rfl) (of_decide_eq_true (by kernel_rfl)) k2 bel lt2) trodAll_mk0))), rfl, bel.frame _, fun h => by cases h⟩
theorem over : Rows.creditPlaysRow.holds Try.pinned (OpenSpec.ofChange Rows.creditPlaysSpec) :=
  OpenClaim.holds_of_wide 7 Try.f7 rfl rfl rfl rfl rfl rfl rfl ⟨rfl, rfl, rfl, rfl, rfl⟩ rfl rfl rfl rfl rfl (by kernel_rfl) Try.func7 (by kernel_rfl)
    (of_decide_eq_true (by kernel_rfl)) (by unfold Func.isWrapper; first | (rw [if_pos (by decide +kernel)]; kernel_rfl) | (rw [if_neg (by decide +kernel)]; exact ⟨rfl, rfl⟩))
    (fun os started H enc _ => lifted os started H enc)
end CreditPlaysShell
theorem CreditPlays_holds : Rows.CreditPlaysSaid := CreditPlaysShell.over
#print axioms CreditPlays_holds
end Go.Proofs.Ytpkaddpennafcaa
