/- credit: the receiver's calls. -/
import Derived.Test.YtekdggdnkmkldaaCreditC
namespace Go.Proofs.Ytekdggdnkmkldaa
set_option linter.unusedVariables false
set_option linter.unusedSimpArgs false
set_option maxRecDepth 1500
open Go.RowKit
attribute [local go_sem] run_store_complex

theorem ReceiverAt.lt {w : World} {r places peer gr seen : Nat} (h : ReceiverAt w r places peer gr seen) : r < w.heap.size := by
  obtain ⟨⟨ty, hh⟩, _⟩ := h
  exact heap_lt hh
theorem ReceiverAt.ext {S : Nat → Prop} {w w' : World} {r places peer gr seen : Nat} (h : ReceiverAt w r places peer gr seen) (g : Ext S w w') (hs : ¬ S r) : ReceiverAt w' r places peer gr seen := by
  have hl := h.lt
  obtain ⟨⟨ty, hh⟩, rest⟩ := h
  exact ⟨⟨ty, (g.block r hl hs).trans hh⟩, rest⟩

theorem receiver_none (w : World) (r places peer gr seen : Nat) (h : ReceiverAt w r places peer gr seen) :
    Calls Try.prog 80 #[.pointer (some ⟨r, 0, none⟩)] w fun e w' => e = .returned (.bool false) ∧ w = w' := by
  obtain ⟨⟨ty, hh⟩, h1, _⟩ := h
  have c0 := cell_of_heap hh 0
  have hne : ((places : Int) == 0) = false := by simp; omega
  simp at c0
  go_enter Try.func80, Try.ntmps80
  go_wp2
  go_ret
  exact ⟨rfl, rfl⟩
theorem life_any (w : World) (r places peer gr seen : Nat) (h : ReceiverAt w r places peer gr seen) :
    Calls Try.prog 48 #[.pointer (some ⟨r, 0, none⟩)] w fun e w' => e = .returned (.int .u64 peer) ∧ w = w' := by
  have hn := receiver_none w r places peer gr seen h
  obtain ⟨⟨ty, hh⟩, h1, _, _, _, h5⟩ := h
  have c0 := cell_of_heap hh 1
  simp at c0
  go_enter Try.func48, Try.ntmps48
  go_wp2_with fail
  refine hn.mono ?_
  rintro e w' ⟨rfl, rfl⟩
  go_wp2
  go_ret
  exact ⟨rfl, rfl⟩

theorem newReceiver_ok (places : Nat) (w : World) (h1 : 1 ≤ places) (h2 : places ≤ 64) :
    Calls Try.prog 46 #[.int .i64 places] w fun e w' => e = .returned (.tuple #[.pointer (some ⟨w.heap.size, 0, none⟩), .int .i64 0]) ∧ ReceiverAt w' w.heap.size places 0 0 0 ∧ Grows w w' := by
  go_enter Try.func46, Try.ntmps46
  have i1 : ¬ (places : Int) < 1 := by omega
  have i2 : ¬ (64 : Int) < (places : Int) := by omega
  go_wp2
  go_ret2
  refine ⟨rfl, ⟨⟨158, ?_⟩, h1, h2, by simp [Most], by simp [Most], by simp [Most]⟩, (Ext.refl _ _).alloc _⟩
  rw [fl_zero]
  exact heap_alloc_new w _
theorem newReceiver_no (places : Int) (w : World) (h1 : places < 1 ∨ 64 < places) :
    Calls Try.prog 46 #[.int .i64 places] w fun e w' => e = .returned (.tuple #[.pointer none, .int .i64 1]) ∧ w = w' := by
  go_enter Try.func46, Try.ntmps46
  by_cases i1 : places < 1
  · go_wp2
    go_ret2
    exact ⟨rfl, rfl⟩
  · have i2 : 64 < places := by omega
    go_wp2
    go_ret2
    exact ⟨rfl, rfl⟩

theorem saw1_any (c a b g : Nat) (w : World) (hg : w.cell? ⟨c, 0, none⟩ = some (.int .u64 g)) (ha : a ≤ Most) (hb : b ≤ Most) :
    Calls Try.prog 83 #[.complex .f64 (fl a) (fl b), .pointer (some ⟨c, 0, none⟩)] w fun e w' => e = .returned (.complex .f64 (fl a) (fl (max g b))) ∧ ∃ m, w' = w.drewN m := by
  go_enter Try.func83, Try.ntmps83
  rcases Nat.lt_or_ge g b with h | h
  · rw [Nat.max_eq_right (Nat.le_of_lt h)]
    go_wp2
    go_quiet (first | (go_at_call 72; exact quiet_same (acct_granted a b ha _)) | (go_at_call 73; exact quiet_same (acct_other a b hb _)) | (go_at_call 70; (try simp only [if_pos h]); exact quiet_same (of_any a b _)))
    go_wp2
    go_ret
    exact ⟨rfl, _, rfl⟩
  · rw [Nat.max_eq_left h]
    have h' : ¬ g < b := by omega
    clear h
    go_wp2
    go_quiet (first | (go_at_call 72; exact quiet_same (acct_granted a b ha _)) | (go_at_call 73; exact quiet_same (acct_other a b hb _)) | (go_at_call 70; (try simp only [if_neg h']); exact quiet_same (of_any a g _)))
    go_wp2
    go_ret
    exact ⟨rfl, _, rfl⟩

theorem saw_arg (w : World) (r places peer gr seen life seq : Nat) (h : ReceiverAt w r places peer gr seen) (hb : ¬ (1 ≤ life ∧ life ≤ Most) ∨ ¬ seq ≤ Most) :
    Calls Try.prog 50 #[.pointer (some ⟨r, 0, none⟩), .int .u64 life, .int .u64 seq] w fun e w' => e = .returned (.int .i64 1) ∧ Grows w w' := by
  go_enter Try.func50, Try.ntmps50
  have hS := (h.ext ((Ext.refl (fun _ => False) w).alloc (.cells #[.int .u64 seq] 27)) (fun h => h))
  go_wp2_with fail
  refine (receiver_none _ _ _ _ _ _ hS).mono ?_
  rintro e w' ⟨rfl, rfl⟩
  go_wp2_with fail
  refine (count_any life 1 _).mono ?_
  rintro e w' ⟨rfl, rfl⟩
  by_cases h1 : 1 ≤ life ∧ life ≤ Most
  · rw [show decide (1 ≤ life ∧ life ≤ Most) = true by simpa using h1]
    go_wp2_with fail
    refine (count_any seq 0 _).mono ?_
    rintro e w' ⟨rfl, rfl⟩
    have h3 : ¬ seq ≤ Most := by omega
    rw [show decide (0 ≤ seq ∧ seq ≤ Most) = false by simpa using h3]
    go_wp2
    go_ret
    exact ⟨rfl, (Ext.refl _ _).alloc _⟩
  · rw [show decide (1 ≤ life ∧ life ≤ Most) = false by simpa using h1]
    go_wp2
    go_ret
    exact ⟨rfl, (Ext.refl _ _).alloc _⟩

set_option maxHeartbeats 2000000 in
theorem saw_less (w : World) (r places peer gr seen life seq : Nat) (h : ReceiverAt w r places peer gr seen) (h1 : 1 ≤ life ∧ life ≤ Most) (h3 : seq ≤ Most) (hlt : life < peer) :
    Calls Try.prog 50 #[.pointer (some ⟨r, 0, none⟩), .int .u64 life, .int .u64 seq] w fun e w' => e = .returned (.int .i64 22) ∧ Grows w w' := by
  go_enter Try.func50, Try.ntmps50
  have hS := (h.ext ((Ext.refl (fun _ => False) w).alloc (.cells #[.int .u64 seq] 27)) (fun h => h))
  go_wp2_with fail
  refine (receiver_none _ _ _ _ _ _ hS).mono ?_
  rintro e w' ⟨rfl, rfl⟩
  go_wp2_with fail
  refine (count_any life 1 _).mono ?_
  rintro e w' ⟨rfl, rfl⟩
  rw [show decide (1 ≤ life ∧ life ≤ Most) = true by simpa using h1]
  go_wp2_with fail
  refine (count_any seq 0 _).mono ?_
  rintro e w' ⟨rfl, rfl⟩
  rw [show decide (0 ≤ seq ∧ seq ≤ Most) = true by simpa using h3]
  obtain ⟨⟨ty, hh⟩, hr⟩ := hS
  go_wp2_with fail
  have hgc : (w.alloc (.cells #[.int .u64 seq] 27)).cell? ⟨w.heap.size, 0, none⟩ = some (.int .u64 seq) := by simp
  have hG : Grows w (w.alloc (.cells #[.int .u64 seq] 27)) := (Ext.refl _ _).alloc _
  have hsl := h.lt
  have hcl : w.heap.size < (w.alloc (.cells #[.int .u64 seq] 27)).heap.size := by simp
  clear h
  generalize w.alloc (.cells #[.int .u64 seq] 27) = w1 at hG hgc hh hcl ⊢
  generalize w.heap.size = c at hsl hgc hcl ⊢
  obtain ⟨r1, r2, r3, r4, r5⟩ := hr
  go_quiet (first | (go_at_call 70; exact quiet_same (of_any 0 seq _)) | (go_at_call 69; exact quiet_same (heard_less r _ peer life gr seen 0 seq _ ty _ hh hlt)))
  go_wp2
  go_ret
  exact ⟨rfl, ⟨hG.os, hG.tape, hG.output, hG.size, hG.block⟩⟩
set_option maxHeartbeats 2000000 in
theorem saw_more (w : World) (r places peer gr seen life seq : Nat) (h : ReceiverAt w r places peer gr seen) (h1 : 1 ≤ life ∧ life ≤ Most) (h3 : seq ≤ Most) (hlt : peer < life) :
    Calls Try.prog 50 #[.pointer (some ⟨r, 0, none⟩), .int .u64 life, .int .u64 seq] w fun e w' => e = .returned (.int .i64 0) ∧ ReceiverAt w' r places life 0 seq ∧ Ext (fun k => k = r) w w' := by
  go_enter Try.func50, Try.ntmps50
  have hS := (h.ext ((Ext.refl (fun _ => False) w).alloc (.cells #[.int .u64 seq] 27)) (fun h => h))
  go_wp2_with fail
  refine (receiver_none _ _ _ _ _ _ hS).mono ?_
  rintro e w' ⟨rfl, rfl⟩
  go_wp2_with fail
  refine (count_any life 1 _).mono ?_
  rintro e w' ⟨rfl, rfl⟩
  rw [show decide (1 ≤ life ∧ life ≤ Most) = true by simpa using h1]
  go_wp2_with fail
  refine (count_any seq 0 _).mono ?_
  rintro e w' ⟨rfl, rfl⟩
  rw [show decide (0 ≤ seq ∧ seq ≤ Most) = true by simpa using h3]
  obtain ⟨⟨ty, hh⟩, hr⟩ := hS
  go_wp2_with fail
  have hgc : (w.alloc (.cells #[.int .u64 seq] 27)).cell? ⟨w.heap.size, 0, none⟩ = some (.int .u64 seq) := by simp
  have hG : Grows w (w.alloc (.cells #[.int .u64 seq] 27)) := (Ext.refl _ _).alloc _
  have hsl := h.lt
  have hcl : w.heap.size < (w.alloc (.cells #[.int .u64 seq] 27)).heap.size := by simp
  clear h
  generalize w.alloc (.cells #[.int .u64 seq] 27) = w1 at hG hgc hh hcl ⊢
  generalize w.heap.size = c at hsl hgc hcl ⊢
  obtain ⟨r1, r2, r3, r4, r5⟩ := hr
  go_region_held3 (fun w' => w'.cell? ⟨c, 0, none⟩ = some (.int .u64 seq))
    (first
      | go_keep
      | (refine (he.cell hcl (Nat.ne_of_gt hsl)).trans ?_; assumption))
    (first
      | (go_at_call 70; refine (of_any 0 seq _).mono ?_; rintro e w' ⟨rfl, rfl⟩)
      | (go_at_call 69; refine (heard_more r _ peer life gr seen 0 seq _ ty w1.drew hh hlt).mono ?_; rintro e w' ⟨rfl, hb, he⟩))
  all_goals go_wp2
  all_goals go_ret
  all_goals exact ⟨rfl, ⟨⟨ty, hb⟩, r1, r2, h1.2, by simp [Most], h3⟩, Ext.eq_lift0 hG ⟨he.os, he.tape, he.output, he.size, he.block⟩⟩
set_option maxHeartbeats 2000000 in
theorem saw_same (w : World) (r places peer gr seen life seq : Nat) (h : ReceiverAt w r places peer gr seen) (h1 : 1 ≤ life ∧ life ≤ Most) (h3 : seq ≤ Most) (hlt : life = peer) :
    Calls Try.prog 50 #[.pointer (some ⟨r, 0, none⟩), .int .u64 life, .int .u64 seq] w fun e w' => e = .returned (.int .i64 0) ∧ ReceiverAt w' r places life gr (max seq seen) ∧ Ext (fun k => k = r) w w' := by
  subst hlt
  go_enter Try.func50, Try.ntmps50
  have hS := (h.ext ((Ext.refl (fun _ => False) w).alloc (.cells #[.int .u64 seq] 27)) (fun h => h))
  go_wp2_with fail
  refine (receiver_none _ _ _ _ _ _ hS).mono ?_
  rintro e w' ⟨rfl, rfl⟩
  go_wp2_with fail
  refine (count_any life 1 _).mono ?_
  rintro e w' ⟨rfl, rfl⟩
  rw [show decide (1 ≤ life ∧ life ≤ Most) = true by simpa using h1]
  go_wp2_with fail
  refine (count_any seq 0 _).mono ?_
  rintro e w' ⟨rfl, rfl⟩
  rw [show decide (0 ≤ seq ∧ seq ≤ Most) = true by simpa using h3]
  obtain ⟨⟨ty, hh⟩, hr⟩ := hS
  go_wp2_with fail
  have hgc : (w.alloc (.cells #[.int .u64 seq] 27)).cell? ⟨w.heap.size, 0, none⟩ = some (.int .u64 seq) := by simp
  have hG : Grows w (w.alloc (.cells #[.int .u64 seq] 27)) := (Ext.refl _ _).alloc _
  have hsl := h.lt
  have hcl : w.heap.size < (w.alloc (.cells #[.int .u64 seq] 27)).heap.size := by simp
  clear h
  generalize w.alloc (.cells #[.int .u64 seq] 27) = w1 at hG hgc hh hcl ⊢
  generalize w.heap.size = c at hsl hgc hcl ⊢
  obtain ⟨r1, r2, r3, r4, r5⟩ := hr
  go_region_held3 (fun w' => w'.cell? ⟨c, 0, none⟩ = some (.int .u64 seq))
    (first
      | go_keep
      | (refine (he.cell hcl (Nat.ne_of_gt hsl)).trans ?_; assumption))
    (first
      | (go_at_call 70; refine (of_any 0 seq _).mono ?_; rintro e w' ⟨rfl, rfl⟩)
      | (go_at_call 69; refine (heard_sameR r c _ life gr seen 0 seq _ _ ty w1.drew hh (saw1_any c gr seen seq w1.drew hgc r4 r5)).mono ?_; rintro e w' ⟨rfl, hb, he⟩))
  all_goals go_wp2
  all_goals go_ret
  all_goals exact ⟨rfl, ⟨⟨ty, hb⟩, r1, r2, h1.2, r4, Nat.max_le.2 ⟨h3, r5⟩⟩, Ext.eq_lift0 hG ⟨he.os, he.tape, he.output, he.size, he.block⟩⟩

end Go.Proofs.Ytekdggdnkmkldaa
