/- The queue: the examples that the statements ask first. -/
import Derived.Test.YtekegbadkafjlaaQueueD
import Derived.Test.YtekegbadkafjlaaEqual
import Derived.Lib.SlBytesConst
namespace Go.Proofs.Ytekegbadkafjlaa
set_option linter.unusedVariables false
set_option linter.unusedSimpArgs false
open Go.RowKit

theorem QueueAt.grows {w w' : World} {q : Nat} {S : Nat → Prop} {places : Nat} {fs : List (List Int)} (h : QueueAt w q S places fs) (e : Grows w w') : QueueAt w' q S places fs := h.keeps e (fun _ _ h => h)

theorem push_ok (q p : Nat) (S : Nat → Prop) (fs : List (List Int)) (v : Value) (xs : List Int) (w : World) (h : QueueAt w q S p fs) (hb : Bytes w v xs) (h1 : xs.length ≤ 70000) (h2 : fs.length < p) :
    Calls Try.prog 22 #[.pointer (some ⟨q, 0, none⟩), v] w fun e w' => e = .returned (.int .i64 0) ∧ QueueAt w' q (grownTo S w w') p (fs ++ [xs]) ∧ Ext (fun k => k = q) w w' := by
  refine (push_any q p S fs v xs w h hb).mono ?_
  rintro e w' (⟨h3, _⟩ | ⟨_, h3, _⟩ | ⟨_, _, h3, h4, h5⟩)
  · omega
  · omega
  · exact ⟨h3, h4, h5⟩
theorem push_no (q p : Nat) (S : Nat → Prop) (fs : List (List Int)) (v : Value) (xs : List Int) (w : World) (h : QueueAt w q S p fs) (hb : Bytes w v xs) (h1 : xs.length ≤ 70000) (h2 : fs.length = p) :
    Calls Try.prog 22 #[.pointer (some ⟨q, 0, none⟩), v] w fun e w' => e = .returned (.int .i64 7) ∧ Grows w w' := by
  refine (push_any q p S fs v xs w h hb).mono ?_
  rintro e w' (⟨h3, _⟩ | ⟨_, h3, h4, h5⟩ | ⟨_, h3, _⟩)
  · omega
  · exact ⟨h4, h5⟩
  · omega
theorem pop_ok (q p : Nat) (S : Nat → Prop) (f : List Int) (rest : List (List Int)) (w : World) (h : QueueAt w q S p (f :: rest)) :
    Calls Try.prog 23 #[.pointer (some ⟨q, 0, none⟩)] w fun e w' => ∃ b, w.heap.size ≤ b ∧ e = .returned (.tuple #[.slice (some ⟨b, 0, none⟩) f.length f.length, .bool true]) ∧
      Bytes w' (.slice (some ⟨b, 0, none⟩) f.length f.length) f ∧ QueueAt w' q S p rest ∧ Ext (fun k => k = q) w w' := by
  refine (pop_any q p S _ w h).mono ?_
  rintro e w' (⟨h3, _⟩ | ⟨f', rest', hc, ⟨b, hb, rfl, hh⟩, hq, he, hx, hl⟩)
  · cases h3
  · obtain ⟨rfl, rfl⟩ := List.cons.inj hc
    exact ⟨b, hb, rfl, Bytes.of_heap hh rfl (Nat.le_refl _) (by unfold maxLen; omega) hx hl, hq, he⟩
theorem pop_empty (q p : Nat) (S : Nat → Prop) (w : World) (h : QueueAt w q S p []) :
    Calls Try.prog 23 #[.pointer (some ⟨q, 0, none⟩)] w fun e w' => e = .returned (.tuple #[.slice none 0 0, .bool false]) ∧ w = w' := by
  refine (pop_any q p S _ w h).mono ?_
  rintro e w' (⟨_, h3, h4⟩ | ⟨f', rest', hc, _⟩)
  · exact ⟨h3, h4⟩
  · cases hc

theorem Ext.eq_lift {q : Nat} {w0 w w' : World} (g : Grows w0 w) (h : Ext (fun k => k = q) w w') (hq : w0.heap.size ≤ q) : Grows w0 w' :=
  (g.lift.trans h).mono (fun k hk hh => by omega)

theorem lit1 (w : World) (x : Int) (hx : 0 ≤ x ∧ x < 256) : Bytes (w.alloc (.cells #[.int .u8 x] 5 (1, 2))) (.slice (some ⟨w.heap.size, 0, none⟩) 1 1) [x] :=
  Bytes.of_heap (heap_alloc_new w _) rfl (Nat.le_refl _) (by unfold maxLen; omega) (by simpa using hx) (by simp)

set_option maxHeartbeats 1600000 in
theorem queueAwake (w : World) : Calls Try.prog 21 #[] w fun e w' => e = .returned (.bool true) ∧ Grows w w' := by
  have kc := fun (w : World) (C : Array Value) (n c : Nat) => Lib.run_convert_bytes_const (P := Try.prog) w 22 5 C n c Try.underlying22 Try.underlying5
  go_enter Try.func21, Try.ntmps21
  go_wp2_with fail
  refine (new_yes 2 w (by omega) (by omega)).mono ?_
  rintro e w1 ⟨rfl, hq, hg⟩
  have hq0 : w.heap.size ≤ w.heap.size := Nat.le_refl _
  generalize hqq : w.heap.size = q at hq hq0 ⊢
  have HQ := Lib.hid hqq
  clear hqq
  go_wp2_with fail
  refine (push_ok q 2 _ [] _ [97] _ (hq.grows (Ext.alloc (Ext.refl _ _) _)) (lit1 w1 97 (by omega)) (by simp) (by simp)).mono ?_
  rintro e w2 ⟨rfl, hq2, he2⟩
  have g2 : Grows w w2 := Ext.eq_lift (hg.alloc _) he2 (by rw [HQ.out]; exact Nat.le_refl _)
  clear hq hg he2
  go_wp2_with fail
  refine (push_ok q 2 _ _ _ [98] _ (hq2.grows (Ext.alloc (Ext.refl _ _) _)) (lit1 w2 98 (by omega)) (by simp) (by simp)).mono ?_
  rintro e w3 ⟨rfl, hq3, he3⟩
  have g3 : Grows w w3 := Ext.eq_lift (g2.alloc _) he3 (by rw [HQ.out]; exact Nat.le_refl _)
  clear hq2 g2 he3
  go_wp2_with fail
  refine (push_no q 2 _ _ _ [99] _ (hq3.grows (Ext.alloc (Ext.refl _ _) _)) (lit1 w3 99 (by omega)) (by simp) (by simp)).mono ?_
  rintro e w4 ⟨rfl, hg4⟩
  have g4 : Grows w w4 := (g3.alloc _).trans hg4
  have hq4 := (hq3.grows (Ext.alloc (Ext.refl _ _) _)).grows hg4
  clear hq3 g3 hg4
  go_wp2_with fail
  refine (pop_ok q 2 _ [97] [[98]] _ hq4).mono ?_
  rintro e w5 ⟨b, hb, rfl, hbb, hq5, he5⟩
  have hbq : q < b := Nat.lt_of_lt_of_le hq4.lt hb
  have g5 : Grows w w5 := Ext.eq_lift g4 he5 (by rw [HQ.out]; exact Nat.le_refl _)
  clear hq4 g4 he5 hb
  go_wp2_with fail
  refine (push_ok q 2 _ _ _ [99] _ (hq5.grows (Ext.alloc (Ext.refl _ _) _)) (lit1 w5 99 (by omega)) (by simp) (by simp)).mono ?_
  rintro e w6 ⟨rfl, hq6, he6⟩
  have g6 : Grows w w6 := Ext.eq_lift (g5.alloc _) he6 (by rw [HQ.out]; exact Nat.le_refl _)
  have B6 : Bytes w6 (.slice (some ⟨b, 0, none⟩) 1 1) [97] := by
    refine (hbb.grows (Ext.alloc (Ext.refl _ _) _)).ext he6 (fun k hk _ hh => ?_)
    simp only [Value.ownBlock, Option.some.injEq] at hk
    omega
  have hcv := conv_bytes B6
  have hstr : ((strOfNums [97]).toList == [97]) = true := by rw [ByteArray.toList_eq]; decide
  clear hbb hq5 he6 g5
  go_wp2_with fail
  refine (qlen_int q 2 _ _ 2 _ hq6 rfl).mono ?_
  rintro e w7 ⟨rfl, rfl⟩
  go_wp2_with fail
  refine (qfree_any q 2 _ _ _ hq6).mono ?_
  rintro e w7 ⟨rfl, hg7⟩
  go_wp2
  go_ret
  exact ⟨ret_bool (by simp), g6.trans hg7⟩
end Go.Proofs.Ytekegbadkafjlaa
