/- credit: Take. -/
import Derived.Test.YtekdggdnkmkldaaCreditB
import Derived.Deep.RegionHeld3
namespace Go.Proofs.Ytekdggdnkmkldaa
set_option linter.unusedVariables false
set_option linter.unusedSimpArgs false
set_option maxRecDepth 1500
open Go.RowKit

theorem Ext.eq_lift0 {s : Nat} {w w1 w' : World} (g : Grows w w1) (e : Ext (fun k => k = s) w1 w') : Ext (fun k => k = s) w w' := g.lift.trans e

theorem take_arg (w : World) (s own peer gr used life to g : Nat) (h : SenderAt w s own peer gr used) (hb : ¬ (1 ≤ life ∧ life ≤ Most) ∨ ¬ to ≤ Most ∨ ¬ g ≤ Most) :
    Calls Try.prog 38 #[.pointer (some ⟨s, 0, none⟩), .int .u64 life, .int .u64 to, .int .u64 g] w fun e w' => e = .returned (.int .i64 1) ∧ Grows w w' := by
  go_enter Try.func38, Try.ntmps38
  have hS := (h.ext ((Ext.refl (fun _ => False) w).alloc (.cells #[.int .u64 g] 27)) (fun h => h))
  go_wp2_with fail
  refine (sender_none _ s own peer gr used hS).mono ?_
  rintro e w' ⟨rfl, rfl⟩
  go_wp2_with fail
  refine (count_any life 1 _).mono ?_
  rintro e w' ⟨rfl, rfl⟩
  by_cases h1 : 1 ≤ life ∧ life ≤ Most
  · rw [show decide (1 ≤ life ∧ life ≤ Most) = true by simpa using h1]
    go_wp2_with fail
    refine (count_any to 0 _).mono ?_
    rintro e w' ⟨rfl, rfl⟩
    by_cases h2 : to ≤ Most
    · rw [show decide (0 ≤ to ∧ to ≤ Most) = true by simpa using h2]
      go_wp2_with fail
      refine (count_any g 0 _).mono ?_
      rintro e w' ⟨rfl, rfl⟩
      have h3 : ¬ g ≤ Most := by omega
      rw [show decide (0 ≤ g ∧ g ≤ Most) = false by simpa using h3]
      go_wp2
      go_ret
      exact ⟨rfl, (Ext.refl _ _).alloc _⟩
    · rw [show decide (0 ≤ to ∧ to ≤ Most) = false by simpa using h2]
      go_wp2
      go_ret
      exact ⟨rfl, (Ext.refl _ _).alloc _⟩
  · rw [show decide (1 ≤ life ∧ life ≤ Most) = false by simpa using h1]
    go_wp2
    go_ret
    exact ⟨rfl, (Ext.refl _ _).alloc _⟩

theorem take_other (w : World) (s own peer gr used life to g : Nat) (h : SenderAt w s own peer gr used) (h1 : 1 ≤ life ∧ life ≤ Most) (h2 : to ≤ Most) (h3 : g ≤ Most) (hne : to ≠ own) :
    Calls Try.prog 38 #[.pointer (some ⟨s, 0, none⟩), .int .u64 life, .int .u64 to, .int .u64 g] w fun e w' => e = .returned (.int .i64 22) ∧ Grows w w' := by
  go_enter Try.func38, Try.ntmps38
  have hS := (h.ext ((Ext.refl (fun _ => False) w).alloc (.cells #[.int .u64 g] 27)) (fun h => h))
  go_wp2_with fail
  refine (sender_none _ _ _ _ _ _ hS).mono ?_
  rintro e w' ⟨rfl, rfl⟩
  go_wp2_with fail
  refine (count_any life 1 _).mono ?_
  rintro e w' ⟨rfl, rfl⟩
  rw [show decide (1 ≤ life ∧ life ≤ Most) = true by simpa using h1]
  go_wp2_with fail
  refine (count_any to 0 _).mono ?_
  rintro e w' ⟨rfl, rfl⟩
  rw [show decide (0 ≤ to ∧ to ≤ Most) = true by simpa using h2]
  go_wp2_with fail
  refine (count_any g 0 _).mono ?_
  rintro e w' ⟨rfl, rfl⟩
  rw [show decide (0 ≤ g ∧ g ≤ Most) = true by simpa using h3]
  obtain ⟨⟨ty, hh⟩, hr⟩ := hS
  have c0 := cell_of_heap hh 0
  simp only [List.getElem?_toArray, List.getElem?_cons_zero] at c0
  have hneb : ((to : Int) != (own : Int)) = true := by simp; omega
  go_wp2
  go_ret
  exact ⟨rfl, (Ext.refl _ _).alloc _⟩

set_option maxHeartbeats 2000000 in
theorem take_less (w : World) (s own peer gr used life to g : Nat) (h : SenderAt w s own peer gr used) (h1 : 1 ≤ life ∧ life ≤ Most) (h2 : to ≤ Most) (h3 : g ≤ Most) (hto : to = own) (hlt : life < peer) :
    Calls Try.prog 38 #[.pointer (some ⟨s, 0, none⟩), .int .u64 life, .int .u64 to, .int .u64 g] w fun e w' => e = .returned (.int .i64 22) ∧ Grows w w' := by
  have HT := Lib.hid hto
  clear hto
  go_enter Try.func38, Try.ntmps38
  have hS := (h.ext ((Ext.refl (fun _ => False) w).alloc (.cells #[.int .u64 g] 27)) (fun h => h))
  go_wp2_with fail
  refine (sender_none _ _ _ _ _ _ hS).mono ?_
  rintro e w' ⟨rfl, rfl⟩
  go_wp2_with fail
  refine (count_any life 1 _).mono ?_
  rintro e w' ⟨rfl, rfl⟩
  rw [show decide (1 ≤ life ∧ life ≤ Most) = true by simpa using h1]
  go_wp2_with fail
  refine (count_any to 0 _).mono ?_
  rintro e w' ⟨rfl, rfl⟩
  rw [show decide (0 ≤ to ∧ to ≤ Most) = true by simpa using h2]
  go_wp2_with fail
  refine (count_any g 0 _).mono ?_
  rintro e w' ⟨rfl, rfl⟩
  rw [show decide (0 ≤ g ∧ g ≤ Most) = true by simpa using h3]
  obtain ⟨⟨ty, hh⟩, hr⟩ := hS
  have c0 := cell_of_heap hh 0
  simp only [List.getElem?_toArray, List.getElem?_cons_zero] at c0
  have hneb : ((to : Int) != (own : Int)) = false := by rw [HT.out]; simp
  go_wp2_with fail
  have hgc : (w.alloc (.cells #[.int .u64 g] 27)).cell? ⟨w.heap.size, 0, none⟩ = some (.int .u64 g) := by simp
  have hG : Grows w (w.alloc (.cells #[.int .u64 g] 27)) := (Ext.refl _ _).alloc _
  have hS : SenderAt (w.alloc (.cells #[.int .u64 g] 27)) s own peer gr used := ⟨⟨ty, hh⟩, hr⟩
  have hsl := h.lt
  have hcl : w.heap.size < (w.alloc (.cells #[.int .u64 g] 27)).heap.size := by simp
  clear h c0
  generalize w.alloc (.cells #[.int .u64 g] 27) = w1 at hS hG hgc hh hcl ⊢
  generalize w.heap.size = c at hsl hgc hcl ⊢
  obtain ⟨r1, r2, r3, r4, r5⟩ := hr
  go_quiet (first | (go_at_call 57; exact quiet_same (sent_any _ s own peer gr used ⟨⟨ty, hh⟩, r1, r2, r3, r4, r5⟩)) | (go_at_call 70; exact quiet_same (of_any g used _)) | (go_at_call 69; exact quiet_same (heard_less s _ peer life gr used g used _ ty _ hh hlt)))
  go_wp2
  go_ret
  exact ⟨rfl, ⟨hG.os, hG.tape, hG.output, hG.size, hG.block⟩⟩
set_option maxHeartbeats 2000000 in
theorem take_more (w : World) (s own peer gr used life to g : Nat) (h : SenderAt w s own peer gr used) (h1 : 1 ≤ life ∧ life ≤ Most) (h2 : to ≤ Most) (h3 : g ≤ Most) (hto : to = own) (hlt : peer < life) :
    Calls Try.prog 38 #[.pointer (some ⟨s, 0, none⟩), .int .u64 life, .int .u64 to, .int .u64 g] w fun e w' => e = .returned (.int .i64 0) ∧ SenderAt w' s own life g used ∧ Ext (fun k => k = s) w w' := by
  have HT := Lib.hid hto
  clear hto
  go_enter Try.func38, Try.ntmps38
  have hS := (h.ext ((Ext.refl (fun _ => False) w).alloc (.cells #[.int .u64 g] 27)) (fun h => h))
  go_wp2_with fail
  refine (sender_none _ _ _ _ _ _ hS).mono ?_
  rintro e w' ⟨rfl, rfl⟩
  go_wp2_with fail
  refine (count_any life 1 _).mono ?_
  rintro e w' ⟨rfl, rfl⟩
  rw [show decide (1 ≤ life ∧ life ≤ Most) = true by simpa using h1]
  go_wp2_with fail
  refine (count_any to 0 _).mono ?_
  rintro e w' ⟨rfl, rfl⟩
  rw [show decide (0 ≤ to ∧ to ≤ Most) = true by simpa using h2]
  go_wp2_with fail
  refine (count_any g 0 _).mono ?_
  rintro e w' ⟨rfl, rfl⟩
  rw [show decide (0 ≤ g ∧ g ≤ Most) = true by simpa using h3]
  obtain ⟨⟨ty, hh⟩, hr⟩ := hS
  have c0 := cell_of_heap hh 0
  simp only [List.getElem?_toArray, List.getElem?_cons_zero] at c0
  have hneb : ((to : Int) != (own : Int)) = false := by rw [HT.out]; simp
  go_wp2_with fail
  have hgc : (w.alloc (.cells #[.int .u64 g] 27)).cell? ⟨w.heap.size, 0, none⟩ = some (.int .u64 g) := by simp
  have hG : Grows w (w.alloc (.cells #[.int .u64 g] 27)) := (Ext.refl _ _).alloc _
  have hS : SenderAt (w.alloc (.cells #[.int .u64 g] 27)) s own peer gr used := ⟨⟨ty, hh⟩, hr⟩
  have hsl := h.lt
  have hcl : w.heap.size < (w.alloc (.cells #[.int .u64 g] 27)).heap.size := by simp
  clear h c0
  generalize w.alloc (.cells #[.int .u64 g] 27) = w1 at hS hG hgc hh hcl ⊢
  generalize w.heap.size = c at hsl hgc hcl ⊢
  obtain ⟨r1, r2, r3, r4, r5⟩ := hr
  go_region_held3 (fun w' => w'.cell? ⟨c, 0, none⟩ = some (.int .u64 g))
    (first
      | go_keep
      | (refine (he.cell hcl (Nat.ne_of_gt hsl)).trans ?_; assumption))
    (first
      | (go_at_call 57; refine (sent_any w1.drew s own peer gr used ⟨⟨ty, hh⟩, r1, r2, r3, r4, r5⟩).mono ?_; rintro e w' ⟨rfl, rfl⟩)
      | (go_at_call 70; refine (of_any g used _).mono ?_; rintro e w' ⟨rfl, rfl⟩)
      | (go_at_call 69; refine (heard_more s _ peer life gr used g used _ ty w1.drew hh hlt).mono ?_; rintro e w' ⟨rfl, hb, he⟩))
  all_goals go_wp2
  all_goals go_ret
  all_goals exact ⟨rfl, ⟨⟨ty, hb⟩, r1, r2, h1.2, h3, r5⟩, Ext.eq_lift0 hG ⟨he.os, he.tape, he.output, he.size, he.block⟩⟩

set_option maxHeartbeats 2000000 in
theorem take_same (w : World) (s own peer gr used life to g : Nat) (h : SenderAt w s own peer gr used) (h1 : 1 ≤ life ∧ life ≤ Most) (h2 : to ≤ Most) (h3 : g ≤ Most) (hto : to = own) (hlt : life = peer) :
    Calls Try.prog 38 #[.pointer (some ⟨s, 0, none⟩), .int .u64 life, .int .u64 to, .int .u64 g] w fun e w' => e = .returned (.int .i64 0) ∧ SenderAt w' s own life (max g gr) used ∧ Ext (fun k => k = s) w w' := by
  have HT := Lib.hid hto
  clear hto
  subst hlt
  go_enter Try.func38, Try.ntmps38
  have hS := (h.ext ((Ext.refl (fun _ => False) w).alloc (.cells #[.int .u64 g] 27)) (fun h => h))
  go_wp2_with fail
  refine (sender_none _ _ _ _ _ _ hS).mono ?_
  rintro e w' ⟨rfl, rfl⟩
  go_wp2_with fail
  refine (count_any life 1 _).mono ?_
  rintro e w' ⟨rfl, rfl⟩
  rw [show decide (1 ≤ life ∧ life ≤ Most) = true by simpa using h1]
  go_wp2_with fail
  refine (count_any to 0 _).mono ?_
  rintro e w' ⟨rfl, rfl⟩
  rw [show decide (0 ≤ to ∧ to ≤ Most) = true by simpa using h2]
  go_wp2_with fail
  refine (count_any g 0 _).mono ?_
  rintro e w' ⟨rfl, rfl⟩
  rw [show decide (0 ≤ g ∧ g ≤ Most) = true by simpa using h3]
  obtain ⟨⟨ty, hh⟩, hr⟩ := hS
  have c0 := cell_of_heap hh 0
  simp only [List.getElem?_toArray, List.getElem?_cons_zero] at c0
  have hneb : ((to : Int) != (own : Int)) = false := by rw [HT.out]; simp
  go_wp2_with fail
  have hgc : (w.alloc (.cells #[.int .u64 g] 27)).cell? ⟨w.heap.size, 0, none⟩ = some (.int .u64 g) := by simp
  have hG : Grows w (w.alloc (.cells #[.int .u64 g] 27)) := (Ext.refl _ _).alloc _
  have hS : SenderAt (w.alloc (.cells #[.int .u64 g] 27)) s own life gr used := ⟨⟨ty, hh⟩, hr⟩
  have hsl := h.lt
  have hcl : w.heap.size < (w.alloc (.cells #[.int .u64 g] 27)).heap.size := by simp
  clear h c0
  generalize w.alloc (.cells #[.int .u64 g] 27) = w1 at hS hG hgc hh hcl ⊢
  generalize w.heap.size = c at hsl hgc hcl ⊢
  obtain ⟨r1, r2, r3, r4, r5⟩ := hr
  go_region_held3 (fun w' => w'.cell? ⟨c, 0, none⟩ = some (.int .u64 g))
    (first
      | go_keep
      | (refine (he.cell hcl (Nat.ne_of_gt hsl)).trans ?_; assumption))
    (first
      | (go_at_call 57; refine (sent_any w1.drew s own life gr used ⟨⟨ty, hh⟩, r1, r2, r3, r4, r5⟩).mono ?_; rintro e w' ⟨rfl, rfl⟩)
      | (go_at_call 70; refine (of_any g used _).mono ?_; rintro e w' ⟨rfl, rfl⟩)
      | (go_at_call 69; refine (heard_sameS s c _ life gr used g used _ _ ty w1.drew hh (take1_any c gr used g w1.drew hgc r4 r5)).mono ?_; rintro e w' ⟨rfl, hb, he⟩))
  all_goals go_wp2
  all_goals go_ret
  all_goals exact ⟨rfl, ⟨⟨ty, hb⟩, r1, r2, h1.2, Nat.max_le.2 ⟨h3, r4⟩, r5⟩, Ext.eq_lift0 hG ⟨he.os, he.tape, he.output, he.size, he.block⟩⟩
end Go.Proofs.Ytekdggdnkmkldaa
