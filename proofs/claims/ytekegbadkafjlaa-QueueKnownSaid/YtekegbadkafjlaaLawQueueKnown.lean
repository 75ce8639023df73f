/- QueueKnown: the document's examples, the ends, and what a queue that no call made answers; a closed statement. -/
import Derived.Test.YtekegbadkafjlaaQueueE
import Derived.Test.YtekegbadkafjlaaOpen
namespace Go.Proofs.Ytekegbadkafjlaa
set_option linter.unusedVariables false
set_option linter.unusedSimpArgs false
open Go.ChangeShapes Go.WideShapes Go.ChangeAt Go.RowKit

theorem all_nil (w : World) : Calls Try.prog 28 #[.pointer none] w fun e w' => e = .returned (.slice none 0 0) ∧ w = w' := by
  go_enter Try.func28, Try.ntmps28
  go_wp2_with (go_at_call 24; refine (len_nil _).mono ?_; rintro e w' ⟨rfl, rfl⟩)
  refine wp_loop_once ?_
  go_wp2
  go_ret
  exact ⟨rfl, rfl⟩

theorem zeros_small (n : Nat) : ∀ x ∈ zeros n, 0 ≤ x ∧ x < 256 := by
  intro x hx
  have := List.eq_of_mem_replicate hx
  omega
theorem made_bytes (w : World) (n : Nat) (h : n ≤ 140737488351232) : Bytes (w.alloc (.cells (u8s (zeros n)) 5)) (.slice (some ⟨w.heap.size, 0, none⟩) n n) (zeros n) :=
  Bytes.of_heap (heap_alloc_new w _) (zeros_length n).symm (Nat.le_refl _) (by unfold maxLen; omega) (zeros_small n) (by rw [zeros_length]; exact h)

set_option maxRecDepth 4000000 in
set_option maxHeartbeats 4000000 in
theorem QueueKnown_walk (w : World) : Calls Try.prog 8 #[] w fun e w' => e = .returned (.bool true) ∧ Below w.heap.size w w' := by
  have hm1 : ∀ w : World, (Instr.makeSlice 22 (.int .i64 70001) (.int .i64 70001)).run Try.prog w = .ok (.slice (some ⟨w.heap.size, 0, none⟩) 70001 70001) (w.alloc (.cells (u8s (zeros 70001)) 5)) := make_bytes 70001 (by omega)
  have hm2 : ∀ w : World, (Instr.makeSlice 22 (.int .i64 70000) (.int .i64 70000)).run Try.prog w = .ok (.slice (some ⟨w.heap.size, 0, none⟩) 70000 70000) (w.alloc (.cells (u8s (zeros 70000)) 5)) := make_bytes 70000 (by omega)
  go_enter Try.func8, Try.ntmps8
  go_wp2_with fail
  refine (new_no _ _ (by omega)).mono ?_
  rintro e w1 ⟨rfl, rfl⟩
  go_wp2_with fail
  refine (new_no _ _ (by omega)).mono ?_
  rintro e w1 ⟨rfl, rfl⟩
  go_wp2_with fail
  refine (new_yes 64 w (by omega) (by omega)).mono ?_
  rintro e w1 ⟨rfl, hq, hg⟩
  generalize hqq : w.heap.size = q at hq ⊢
  have HQ := Lib.hid hqq
  clear hqq
  go_wp2_with fail
  have b1 := made_bytes w1 70001 (by omega)
  refine (push_any q 64 _ [] _ (zeros 70001) _ (hq.grows (Ext.alloc (Ext.refl _ _) _)) b1).mono ?_
  rintro e w2 (⟨_, rfl, hg2⟩ | ⟨hl, _⟩ | ⟨hl, _⟩)
  rotate_left
  · rw [zeros_length] at hl; omega
  · rw [zeros_length] at hl; omega
  have hq2 := (hq.grows (Ext.alloc (Ext.refl _ _) _)).grows hg2
  have g2 : Grows w w2 := (hg.alloc _).trans hg2
  clear hq hg hg2 b1 hm1
  go_wp2_with fail
  have b2 := made_bytes w2 70000 (by omega)
  refine (push_ok q 64 _ [] _ (zeros 70000) _ (hq2.grows (Ext.alloc (Ext.refl _ _) _)) b2 (by rw [zeros_length]; omega) (by simp)).mono ?_
  rintro e w3 ⟨rfl, hq3, he3⟩
  have g3 : Grows w w3 := Ext.eq_lift (g2.alloc _) he3 (by rw [HQ.out]; exact Nat.le_refl _)
  clear hq2 he3 b2 hm2 g2
  generalize hf : zeros 70000 = big at hq3
  have HF := Lib.hid hf
  clear hf
  generalize grownTo (fun k => k = q) _ _ = S3 at hq3
  simp only [List.nil_append] at hq3
  have Q3 := Lib.hid hq3
  have G3 := Lib.hid g3
  clear hq3 g3
  go_wp2
  go_loopg [36] 63 (fun k c wr => ∃ j : Nat, j ≤ 63 ∧ k = 63 - j ∧ c = .int .i64 (j : Nat) ∧ (∃ S, QueueAt wr q S 64 (big :: List.replicate j [])) ∧ Grows w wr)
  case atStart => exact ⟨0, by omega, by omega, rfl, ⟨S3, Q3.out⟩, G3.out⟩
  case round =>
    obtain ⟨j, hj, hk, rfl, ⟨S, hq⟩, hg⟩ := hrel
    have HK := Lib.hid hk
    have HG := Lib.hid hg
    clear hk hg
    by_cases hlt : j < 63
    · go_wp2_with fail
      refine (push_ok q 64 S _ _ [] _ hq (Bytes.nil _) (by simp) (by simp; omega)).mono ?_
      rintro e w4 ⟨rfl, hq4, he4⟩
      have g4 : Grows w w4 := Ext.eq_lift HG.out he4 (by rw [HQ.out]; exact Nat.le_refl _)
      have A := Lib.hid (And.intro hq4 g4)
      clear hq4 g4 he4 hq
      go_wp2
      go_roundg (63 - (j + 1))
      case measure => have := HK.out; omega
      case rel =>
        obtain ⟨a1, a2⟩ := A.out
        rw [List.cons_append, ← List.replicate_succ'] at a1
        exact ⟨j + 1, by omega, rfl, by go_num, ⟨_, a1⟩, a2⟩
    · obtain rfl : j = 63 := by omega
      go_wp2_with fail
      refine (push_no q 64 S _ _ [] _ hq (Bytes.nil _) (by simp) (by simp)).mono ?_
      rintro e w4 ⟨rfl, hg4⟩
      have hq4 := hq.grows hg4
      have g4 := HG.out.trans hg4
      clear hq hg4
      go_wp2_with fail
      refine (peek_any q 64 S _ _ hq4).mono ?_
      rintro e w5 (⟨h0, _⟩ | ⟨f, rest, hc, ⟨b, hb, rfl, hh⟩, hg5, _⟩)
      · cases h0
      obtain ⟨hbf, _⟩ := List.cons.inj hc
      have hlen : f.length = 70000 := by rw [← hbf, ← HF.out, zeros_length]
      rw [hlen]
      have hq5 := hq4.grows hg5
      have g5 := g4.trans hg5
      clear hq4 g4 hg5 hh hb hc hbf hlen
      go_wp2_with fail
      refine (qlen_int q 64 S _ 64 _ hq5 (by simp)).mono ?_
      rintro e w6 ⟨rfl, rfl⟩
      go_wp2_with fail
      refine (clear_any q 64 S _ _ hq5).mono ?_
      rintro e w6 ⟨rfl, hq6, he6⟩
      have g6 : Grows w w6 := Ext.eq_lift g5 he6 (by rw [HQ.out]; exact Nat.le_refl _)
      clear hq5 g5 he6
      go_wp2_with fail
      refine (clear_nil _).mono ?_
      rintro e w7 ⟨rfl, rfl⟩
      go_wp2_with fail
      refine (pop_nil _).mono ?_
      rintro e w7 ⟨rfl, rfl⟩
      go_wp2_with fail
      refine (peek_nil _).mono ?_
      rintro e w7 ⟨rfl, rfl⟩
      go_wp2_with fail
      refine (queueAwake _).mono ?_
      rintro e w7 ⟨rfl, hg7⟩
      have hq7 := hq6.grows hg7
      have g7 := g6.trans hg7
      clear hq6 g6 hg7
      go_wp2_with fail
      refine (qlen_int q 64 S _ 0 _ hq7 (by simp)).mono ?_
      rintro e w8 ⟨rfl, rfl⟩
      go_wp2_with fail
      refine (qfree_any q 64 S _ _ hq7).mono ?_
      rintro e w8 ⟨rfl, hg8⟩
      have g8 := g7.trans hg8
      clear hq7 g7 hg8
      go_wp2_with fail
      refine (push_nil _ _).mono ?_
      rintro e w9 ⟨rfl, rfl⟩
      have hz := zeroQueue
      go_wp2_with fail
      refine (push_zero w8.heap.size _ _ (cell_heap (heap_alloc_new w8 _) rfl)).mono ?_
      rintro e w9 ⟨rfl, rfl⟩
      have g9 := g8.alloc (.cells #[.slice none 0 0, .slice none 0 0, .slice none 0 0, .slice none 0 0, .slice none 0 0, .slice none 0 0, .slice none 0 0, .slice none 0 0, .slice none 0 0, .slice none 0 0, .slice none 0 0, .slice none 0 0, .slice none 0 0, .slice none 0 0, .slice none 0 0, .slice none 0 0, .slice none 0 0, .slice none 0 0, .slice none 0 0, .slice none 0 0, .slice none 0 0, .slice none 0 0, .slice none 0 0, .slice none 0 0, .slice none 0 0, .slice none 0 0, .slice none 0 0, .slice none 0 0, .slice none 0 0, .slice none 0 0, .slice none 0 0, .slice none 0 0, .slice none 0 0, .slice none 0 0, .slice none 0 0, .slice none 0 0, .slice none 0 0, .slice none 0 0, .slice none 0 0, .slice none 0 0, .slice none 0 0, .slice none 0 0, .slice none 0 0, .slice none 0 0, .slice none 0 0, .slice none 0 0, .slice none 0 0, .slice none 0 0, .slice none 0 0, .slice none 0 0, .slice none 0 0, .slice none 0 0, .slice none 0 0, .slice none 0 0, .slice none 0 0, .slice none 0 0, .slice none 0 0, .slice none 0 0, .slice none 0 0, .slice none 0 0, .slice none 0 0, .slice none 0 0, .slice none 0 0, .slice none 0 0, .int .i64 0, .int .i64 0, .int .i64 0] 55)
      generalize w8.alloc (.cells #[.slice none 0 0, .slice none 0 0, .slice none 0 0, .slice none 0 0, .slice none 0 0, .slice none 0 0, .slice none 0 0, .slice none 0 0, .slice none 0 0, .slice none 0 0, .slice none 0 0, .slice none 0 0, .slice none 0 0, .slice none 0 0, .slice none 0 0, .slice none 0 0, .slice none 0 0, .slice none 0 0, .slice none 0 0, .slice none 0 0, .slice none 0 0, .slice none 0 0, .slice none 0 0, .slice none 0 0, .slice none 0 0, .slice none 0 0, .slice none 0 0, .slice none 0 0, .slice none 0 0, .slice none 0 0, .slice none 0 0, .slice none 0 0, .slice none 0 0, .slice none 0 0, .slice none 0 0, .slice none 0 0, .slice none 0 0, .slice none 0 0, .slice none 0 0, .slice none 0 0, .slice none 0 0, .slice none 0 0, .slice none 0 0, .slice none 0 0, .slice none 0 0, .slice none 0 0, .slice none 0 0, .slice none 0 0, .slice none 0 0, .slice none 0 0, .slice none 0 0, .slice none 0 0, .slice none 0 0, .slice none 0 0, .slice none 0 0, .slice none 0 0, .slice none 0 0, .slice none 0 0, .slice none 0 0, .slice none 0 0, .slice none 0 0, .slice none 0 0, .slice none 0 0, .slice none 0 0, .int .i64 0, .int .i64 0, .int .i64 0] 55) = w9 at g9 ⊢
      clear hz g8
      go_wp2_with fail
      refine (len_nil _).mono ?_
      rintro e w10 ⟨rfl, rfl⟩
      go_wp2_with fail
      refine (free_nil _).mono ?_
      rintro e w10 ⟨rfl, rfl⟩
      go_wp2_with fail
      refine (all_nil _).mono ?_
      rintro e w10 ⟨rfl, rfl⟩
      go_wp2
      go_ret
      exact ⟨ret_bool (by simp), Ext.to_below g9⟩

namespace QueueKnownShell
theorem own : ownKnob Try.prog.godebug = none := by kernel_rfl
theorem laidOut : laidOutB Try.prog = true := by kernel_rfl
set_option maxRecDepth 100000 in
theorem lifted (os : Os) (started : os.Started) (H : Type) (enc : TypeId × Value → H) :
    ReturnsInHanded {} Try.checked os 8 .any (Rows.queueKnownSpec.pre6 enc Try.prog Try.f8 Rows.queueKnownRow.domain false) (Rows.queueKnownSpec.post enc Try.prog Try.f8 false true false false) := by
  refine returnsInHanded_of_change_sized (C := Try.checked) own started (by kernel_rfl) Try.func8
    (ChangeSpec.witness6 (enc := enc) (C := Try.checked) false ⟨#[], #[], []⟩ 8 (by kernel_rfl) (by kernel_rfl) (by kernel_rfl) (by kernel_rfl)) ?_
  intro W base args ds gs before hval0 hW hcnd hsz0 _
  have hval : ∀ (j : Nat) t v, Try.f8.params[j]? = some t → args[j]? = some v → Value.okWide Try.prog W .any base t v := hval0
  have hsz : (DataW.weightsEach Try.prog (Try.f8.params.toList ++ Rows.queueKnownSpec.plain.varTypes Try.prog) (ds ++ gs)).all (· ≤ reachBytes) = true := hsz0
  have hW' := hW
  obtain ⟨p, q, hA0, hV, rfl, hfz, hnd⟩ := hW
  have hA : DataW.TrodAll enc Try.prog W 0 (fun _ => true) true Try.f8.params.toList args.toList ds p := hA0
  rw [Try.params8] at hA hval hsz
  obtain ⟨hargs, rfl, rfl⟩ := trodAll_nil hA
  obtain rfl : args = #[] := by cases args; simp_all
  obtain ⟨rfl, rfl⟩ := trodVars_none hV
  clear hA0 hval0 hsz0
  refine (QueueKnown_walk  W ).mono fun e W' ⟨he, bel⟩ => ?_
  subst he
  exact ⟨_, rfl, _, _, _, [], _, [], hW', trodAll_mk1 (shut_bool Try.underlying4 _), trodAll_mk0, rfl, bel.frame _, fun h => by cases h⟩
theorem over : Rows.queueKnownRow.holds Try.pinned (OpenSpec.ofChange Rows.queueKnownSpec) :=
  OpenClaim.holds_of_wide 8 Try.f8 rfl rfl rfl rfl rfl rfl rfl ⟨rfl, rfl, rfl, rfl, rfl⟩ rfl rfl rfl rfl rfl (by kernel_rfl) Try.func8 (by kernel_rfl)
    (of_decide_eq_true (by kernel_rfl)) (by unfold Func.isWrapper; first | (rw [if_pos (by decide +kernel)]; kernel_rfl) | (rw [if_neg (by decide +kernel)]; exact ⟨rfl, rfl⟩))
    (fun os started H enc _ => lifted os started H enc)
end QueueKnownShell
theorem QueueKnown_holds : Rows.QueueKnownSaid := QueueKnownShell.over
#print axioms QueueKnown_holds
end Go.Proofs.Ytekegbadkafjlaa
