/- The document's answer for layer 16: its functions. -/
import Derived.Test.YtpkaddpennafcaaCreditS
namespace Go.Proofs.Ytpkaddpennafcaa
set_option linter.unusedVariables false
set_option linter.unusedSimpArgs false
open Go.RowKit

def RefS (w : World) (t own peer gr used : Nat) : Prop := ∃ ty, w.heap[t]? = some (.cells #[.int .u64 own, .int .u64 peer, .int .u64 gr, .int .u64 used] ty (0, 0))
def RefR (w : World) (q places peer gr seen : Nat) : Prop := ∃ ty, w.heap[q]? = some (.cells #[.int .i64 places, .int .u64 peer, .int .u64 gr, .int .u64 seen] ty (0, 0))

theorem ref_may (w : World) (t own peer gr used : Nat) (h : RefS w t own peer gr used) (b : Bool) (hb : decide (used < gr) = b) :
    Calls Try.prog 43 #[.pointer (some ⟨t, 0, none⟩)] w fun e w' => e = .returned (.bool b) ∧ ∃ m, w' = w.drewN m := by
  subst hb
  obtain ⟨ty, hh⟩ := h
  have c2 := cell_of_heap hh 2
  have c3 := cell_of_heap hh 3
  simp at c2 c3
  go_enter Try.func43, Try.ntmps43
  go_wp2
  go_quiet (fail)
  go_wp2
  go_ret
  exact ⟨ret_bool (by simp), _, rfl⟩

theorem ref_newS_ok (life : Nat) (w : World) (h1 : 1 ≤ life) (h2 : life ≤ Most) :
    Calls Try.prog 30 #[.int .u64 life] w fun e w' => e = .returned (.tuple #[.pointer (some ⟨w.heap.size, 0, none⟩), .int .i64 0]) ∧ RefS w' w.heap.size life 0 0 0 ∧ Grows w w' := by
  have i1 : ((life : Int) == 0) = false := by simp; omega
  have i2 : ¬ 1125899906842624 < (life : Int) := by simp only [Most] at h2; omega
  go_enter Try.func30, Try.ntmps30
  go_wp2
  go_ret2
  exact ⟨rfl, ⟨82, heap_alloc_new w _⟩, (Ext.refl _ _).alloc _⟩

theorem ref_newR_ok (places : Nat) (w : World) (h1 : 1 ≤ places) (h2 : places ≤ 64) :
    Calls Try.prog 32 #[.int .i64 places] w fun e w' => e = .returned (.tuple #[.pointer (some ⟨w.heap.size, 0, none⟩), .int .i64 0]) ∧ RefR w' w.heap.size places 0 0 0 ∧ Grows w w' := by
  have i1 : ¬ (places : Int) < 1 := by omega
  have i2 : ¬ (64 : Int) < (places : Int) := by omega
  go_enter Try.func32, Try.ntmps32
  go_wp2
  go_ret2
  exact ⟨rfl, ⟨84, heap_alloc_new w _⟩, (Ext.refl _ _).alloc _⟩

theorem ref_use_no (w : World) (t own peer gr used : Nat) (h : RefS w t own peer gr used) (hlt : gr ≤ used) :
    Calls Try.prog 35 #[.pointer (some ⟨t, 0, none⟩)] w fun e w' => e = .returned (.tuple #[.int .u64 0, .int .i64 26]) ∧ Grows w w' := by
  go_enter Try.func35, Try.ntmps35
  go_wp2_with fail
  refine (ref_may w t own peer gr used h false (by simpa using hlt)).mono ?_
  rintro e w' ⟨rfl, m, rfl⟩
  go_wp2
  go_ret2
  exact ⟨rfl, ⟨rfl, rfl, rfl, Nat.le_refl _, fun _ _ _ => rfl⟩⟩

theorem ref_use_ok (w : World) (t own peer gr used : Nat) (h : RefS w t own peer gr used) (hlt : used < gr) (hm : gr ≤ Most) (n : Nat) (hn : used + 1 = n) :
    Calls Try.prog 35 #[.pointer (some ⟨t, 0, none⟩)] w fun e w' => e = .returned (.tuple #[.int .u64 n, .int .i64 0]) ∧ RefS w' t own peer gr n ∧ Ext (fun k => k = t) w w' := by
  have h0 := h
  obtain ⟨ty, hh⟩ := h0
  have c3 := cell_of_heap hh 3
  have f3 := frozen_of_heap hh 3
  simp at c3
  have hb : (used : Int) ≤ 1125899906842624 := by simp only [Most] at hm; omega
  go_enter Try.func35, Try.ntmps35
  go_wp2_with fail
  refine (ref_may w t own peer gr used h true (by simpa using hlt)).mono ?_
  rintro e w' ⟨rfl, m, rfl⟩
  go_wp2
  go_ret2
  subst hn
  have hh2 := setCell_heap (w := w.drewN m) hh 3 (.int .u64 ((used : Int) + 1))
  exact ⟨rfl, ⟨ty, by simpa using hh2⟩, Ext.setCell (S := fun k => k = t) (Ext.drewN m) ⟨t, 3, none⟩ (Or.inr rfl) _⟩

theorem ref_take_arg (w : World) (t : Nat) (life to g : Nat) (hb : ¬ ((1 ≤ life ∧ life ≤ Most) ∧ to ≤ Most ∧ g ≤ Most)) :
    Calls Try.prog 37 #[.pointer (some ⟨t, 0, none⟩), .int .u64 life, .int .u64 to, .int .u64 g] w fun e w' => e = .returned (.int .i64 1) ∧ Grows w w' := by
  go_enter Try.func37, Try.ntmps37
  have hc : life = 0 ∨ (life ≠ 0 ∧ 1125899906842624 < life) ∨ (life ≠ 0 ∧ life ≤ 1125899906842624 ∧ 1125899906842624 < to) ∨ (life ≠ 0 ∧ life ≤ 1125899906842624 ∧ to ≤ 1125899906842624 ∧ 1125899906842624 < g) := by simp only [Most] at hb; omega
  clear hb
  rcases hc with h1 | ⟨h1, h2⟩ | ⟨h1, h2, h3⟩ | ⟨h1, h2, h3, h4⟩
  · have i1 : ((life : Int) == 0) = true := by simp; omega
    go_wp2
    go_ret
    exact ⟨rfl, Ext.refl _ _⟩
  · have i1 : ((life : Int) == 0) = false := by simp; omega
    have i2 : (1125899906842624 : Int) < (life : Int) := by omega
    go_wp2
    go_ret
    exact ⟨rfl, Ext.refl _ _⟩
  · have i1 : ((life : Int) == 0) = false := by simp; omega
    have i2 : ¬ (1125899906842624 : Int) < (life : Int) := by omega
    have i3 : (1125899906842624 : Int) < (to : Int) := by omega
    go_wp2
    go_ret
    exact ⟨rfl, Ext.refl _ _⟩
  · have i1 : ((life : Int) == 0) = false := by simp; omega
    have i2 : ¬ (1125899906842624 : Int) < (life : Int) := by omega
    have i3 : ¬ (1125899906842624 : Int) < (to : Int) := by omega
    have i4 : (1125899906842624 : Int) < (g : Int) := by omega
    go_wp2
    go_ret
    exact ⟨rfl, Ext.refl _ _⟩

end Go.Proofs.Ytpkaddpennafcaa
