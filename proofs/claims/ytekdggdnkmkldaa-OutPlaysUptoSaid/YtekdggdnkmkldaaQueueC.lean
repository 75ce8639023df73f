/- The queue: Peek, Pop. -/
import Derived.Test.YtekdggdnkmkldaaQueueB
namespace Go.Proofs.Ytekdggdnkmkldaa
set_option linter.unusedVariables false
set_option linter.unusedSimpArgs false
set_option maxRecDepth 1500
open Go.RowKit

theorem slot_zero {first : Nat} (h : first < 64) : slot first 0 = first := by unfold slot; omega

theorem peek_nil (w : World) : Calls Try.prog 84 #[.pointer none] w fun e w' => e = .returned (.tuple #[.slice none 0 0, .bool false]) ∧ w = w' := by
  go_enter Try.func84, Try.ntmps84
  go_wp2_with (go_at_call 59; refine (len_nil _).mono ?_; rintro e w' ⟨rfl, rfl⟩)
  go_ret2
  exact ⟨rfl, rfl⟩
theorem peek_none (q : Nat) (w : World) (h : w.cell? ⟨q, 66, none⟩ = some (.int .i64 0)) : Calls Try.prog 84 #[.pointer (some ⟨q, 0, none⟩)] w fun e w' => e = .returned (.tuple #[.slice none 0 0, .bool false]) ∧ w = w' := by
  go_enter Try.func84, Try.ntmps84
  go_wp2_with (go_at_call 59; refine (len_any _ _ _ h).mono ?_; rintro e w' ⟨rfl, rfl⟩)
  go_ret2
  exact ⟨rfl, rfl⟩

/-- A frame that was handed out: in new memory. -/
def Out1 (f : List Int) (w : World) (e : Ending) (w' : World) : Prop :=
  ∃ b, w.heap.size ≤ b ∧ e = .returned (.tuple #[.slice (some ⟨b, 0, none⟩) f.length f.length, .bool true]) ∧ w'.heap[b]? = some (.cells (u8s f) 5 (0, 0))

set_option maxHeartbeats 800000 in
theorem peek_some (q p first n : Nat) (cur : Array Value) (ty : TypeId) (S : Nat → Prop) (v : Value) (f : List Int) (w : World) (h : QCells w q cur ty p first (n + 1)) (hv : cur[slot first 0]? = some v) (hf : Frame1 w q S v f) :
    Calls Try.prog 84 #[.pointer (some ⟨q, 0, none⟩)] w fun e w' => Out1 f w e w' ∧ Grows w w' := by
  obtain ⟨a, cap, rfl, hb, _⟩ := hf
  rw [slot_zero h.lt] at hv
  have h65 := h.c65
  have h66 := h.c66
  have hl := h.lt
  have hn0 : (((n + 1 : Nat) : Int) == 0) = false := by simp; omega
  have hf1 : (0 : Int) ≤ (first : Int) := by omega
  have hf2 : (first : Int) < 64 := by omega
  have hcs := (h.cell first).trans hv
  have hql : q < w.heap.size := heap_lt h.heap
  go_enter Try.func84, Try.ntmps84
  go_wp2_with (go_at_call 59; refine (len_any _ _ _ h66).mono ?_; rintro e w' ⟨rfl, rfl⟩)
  go_region_held3 (fun w' => w'.cell? ⟨q, 65, none⟩ = some (.int .i64 first) ∧ w'.cell? ⟨q, first, none⟩ = some (.slice a f.length cap))
    (first
      | go_keep
      | (refine ⟨?_, ?_⟩
         · (rw [hg.cell (by simpa using hql) (fun h => h)]; assumption)
         · (rw [hg.cell (by simpa using hql) (fun h => h)]; assumption)))
    (first
      | (go_at_call 81; refine (own_any _ f _ ?_).mono ?_; (exact hb.grows ⟨rfl, rfl, rfl, Nat.le_refl _, fun _ _ _ => rfl⟩); rintro e w1 ⟨b, hbb, rfl, hh, hg⟩))
  have hgg : Grows w w1 := ⟨hg.os, hg.tape, hg.output, hg.size, hg.block⟩
  go_wp2
  go_ret2
  exact ⟨⟨b, hbb, rfl, hh⟩, hgg⟩

theorem pop_nil (w : World) : Calls Try.prog 53 #[.pointer none] w fun e w' => e = .returned (.tuple #[.slice none 0 0, .bool false]) ∧ w = w' := by
  go_enter Try.func53, Try.ntmps53
  go_wp2_with (go_at_call 84; refine (peek_nil _).mono ?_; rintro e w' ⟨rfl, rfl⟩)
  go_ret2
  exact ⟨rfl, rfl⟩
theorem pop_none (q : Nat) (w : World) (h : w.cell? ⟨q, 66, none⟩ = some (.int .i64 0)) : Calls Try.prog 53 #[.pointer (some ⟨q, 0, none⟩)] w fun e w' => e = .returned (.tuple #[.slice none 0 0, .bool false]) ∧ w = w' := by
  go_enter Try.func53, Try.ntmps53
  go_wp2_with (go_at_call 84; refine (peek_none _ _ h).mono ?_; rintro e w' ⟨rfl, rfl⟩)
  go_ret2
  exact ⟨rfl, rfl⟩

/-- What Pop leaves: one less waits. -/
def Popped (q p first n : Nat) (cur : Array Value) (ty : TypeId) (w w' : World) : Prop :=
  ∃ cur', QCells w' q cur' ty p (slot first 1) n ∧ (∀ i, i < 64 → i ≠ first → cur'[i]? = cur[i]?) ∧ Ext (fun k => k = q) w w'

theorem popped_fin {q p first n : Nat} {cur : Array Value} {ty : TypeId} {w w1 w2 : World} (h : QCells w q cur ty p first (n + 1)) (hg : Grows w w1) (x y : Int) (hx : x = (slot first 1 : Nat)) (hy : y = (n : Int))
    (h2 : w2 = (((w1.setCell ⟨q, first, none⟩ (.slice none 0 0)).setCell ⟨q, 65, none⟩ (.int .i64 x)).setCell ⟨q, 66, none⟩ (.int .i64 y)).drew) : Popped q p first n cur ty w w2 := by
  subst h2 hx hy
  have hql := heap_lt h.heap
  have hl := h.lt
  have hq1 : w1.heap[q]? = some (.cells cur ty (0, 0)) := (hg.block q hql (fun h => h)).trans h.heap
  have hq2 := setCell_heap hq1 first (.slice none 0 0)
  have hq3 := setCell_heap hq2 65 (.int .i64 (slot first 1 : Nat))
  have hq4 := setCell_heap hq3 66 (.int .i64 (n : Nat))
  refine ⟨_, ⟨hq4, ?_, ?_, ?_, ?_, ?_, slot_lt _ _⟩, ?_, ?_⟩
  · simp [h.size]
  · rw [Array.getElem?_setIfInBounds_ne (by omega), Array.getElem?_setIfInBounds_ne (by omega), Array.getElem?_setIfInBounds_ne (by omega)]; exact h.h64
  · rw [Array.getElem?_setIfInBounds_ne (by omega), Array.getElem?_setIfInBounds_self_of_lt (by simp [h.size])]
  · rw [Array.getElem?_setIfInBounds_self_of_lt (by simp [h.size])]
  · intro i hi
    rw [Array.getElem?_setIfInBounds_ne (by omega), Array.getElem?_setIfInBounds_ne (by omega)]
    by_cases hi2 : first = i
    · subst hi2
      rw [Array.getElem?_setIfInBounds_self_of_lt (by rw [h.size]; omega)]
      exact ⟨_, _, _, rfl⟩
    · rw [Array.getElem?_setIfInBounds_ne hi2]; exact h.ring i hi
  · intro i hi hi2
    rw [Array.getElem?_setIfInBounds_ne (by omega), Array.getElem?_setIfInBounds_ne (by omega), Array.getElem?_setIfInBounds_ne (Ne.symm hi2)]
  · exact (Ext.setCell (S := fun k => k = q) (Ext.setCell (S := fun k => k = q) (Ext.setCell (S := fun k => k = q) hg.lift ⟨q, first, none⟩ (Or.inr rfl) _) ⟨q, 65, none⟩ (Or.inr rfl) _) ⟨q, 66, none⟩ (Or.inr rfl) _).drew

set_option maxHeartbeats 800000 in
theorem pop_some (q p first n : Nat) (cur : Array Value) (ty : TypeId) (S : Nat → Prop) (v : Value) (f : List Int) (w : World) (h : QCells w q cur ty p first (n + 1)) (hv : cur[slot first 0]? = some v) (hf : Frame1 w q S v f) (hn : n < 64) :
    Calls Try.prog 53 #[.pointer (some ⟨q, 0, none⟩)] w fun e w' => Out1 f w e w' ∧ Popped q p first n cur ty w w' := by
  have hl := h.lt
  have hf1 : (0 : Int) ≤ (first : Int) := by omega
  have hf2 : (first : Int) < 64 := by omega
  have hql : q < w.heap.size := heap_lt h.heap
  have HH := Lib.hid h
  go_enter Try.func53, Try.ntmps53
  go_wp2_with fail
  refine (peek_some q p first n cur ty S v f w h hv hf).mono ?_
  rintro e w1 ⟨⟨b, hbb, rfl, hh⟩, hg⟩
  have hq1 : w1.heap[q]? = some (.cells cur ty (0, 0)) := (hg.block q hql (fun h => h)).trans h.heap
  have k65 := (cell_of_heap hq1 65).trans h.h65
  have k66 := (cell_of_heap hq1 66).trans h.h66
  obtain ⟨oa, ol, oc, hold⟩ := h.ring first hl
  have kf := (cell_of_heap hq1 first).trans hold
  have zf := frozen_of_heap hq1 first
  have z65 := frozen_of_heap hq1 65
  have z66 := frozen_of_heap hq1 66
  have HQ := Lib.hid hq1
  clear h hold hv hq1
  go_wp2_with fail
  go_region
  go_wp2_with fail
  refine (at_any q first 1 _ ?_ hl (by omega)).mono ?_
  · show (w1.setCell ⟨q, first, none⟩ (.slice none 0 0)).cell? ⟨q, 65, none⟩ = _
    rw [World.cell?_setCell_other _ _ _ _ (by simp <;> omega)]
    exact k65
  rintro e w2 ⟨rfl, rfl⟩
  have hne65 : first ≠ 65 := by omega
  have hne66 : first ≠ 66 := by omega
  have hgg := Lib.hid hg
  have hne : b ≠ q := by omega
  have HB := Lib.hid hh
  clear hg hf hh
  go_wp2
  go_ret2
  refine ⟨⟨b, hbb, rfl, ?_⟩, popped_fin HH.out hgg.out _ _ rfl (by omega) rfl⟩
  show (((w1.setCell ⟨q, first, none⟩ _).setCell ⟨q, 65, none⟩ _).setCell ⟨q, 66, none⟩ _).heap[b]? = _
  rw [Below.heap_setCell _ _ _ _ hne, Below.heap_setCell _ _ _ _ hne, Below.heap_setCell _ _ _ _ hne]
  exact HB.out

theorem queue_pop {w w' : World} {q p first : Nat} {S : Nat → Prop} {cur : Array Value} {ty : TypeId} {f : List Int} {fs : List (List Int)}
    (hq : S q) (hp : 1 ≤ p) (hp64 : p ≤ 64) (hfull : fs.length + 1 ≤ p) (hfs : ∀ i g, (f :: fs)[i]? = some g → ∃ v, cur[slot first i]? = some v ∧ Frame1 w q S v g) (hl : first < 64)
    (h : Popped q p first fs.length cur ty w w') : QueueAt w' q S p fs := by
  obtain ⟨cur', hc', hold, hext⟩ := h
  refine ⟨cur', ty, slot first 1, hc', hq, hp, hp64, by omega, fun i g hg => ?_⟩
  obtain ⟨u, hu, hfr⟩ := hfs (i + 1) g (by simpa using hg)
  have hi : i < fs.length := (List.getElem?_eq_some_iff.1 hg).1
  have e : slot (slot first 1) i = slot first (i + 1) := by unfold slot; omega
  refine ⟨u, ?_, hfr.keeps hext (fun k _ hk => hk) (fun k hk => hk)⟩
  rw [e, hold _ (slot_lt _ _) (by unfold slot; omega)]
  exact hu

theorem pop_any (q p : Nat) (S : Nat → Prop) (fs : List (List Int)) (w : World) (h : QueueAt w q S p fs) :
    Calls Try.prog 53 #[.pointer (some ⟨q, 0, none⟩)] w fun e w' =>
      (fs = [] ∧ e = .returned (.tuple #[.slice none 0 0, .bool false]) ∧ w = w') ∨
      (∃ f rest, fs = f :: rest ∧ Out1 f w e w' ∧ QueueAt w' q S p rest ∧ Ext (fun k => k = q) w w' ∧ (∀ x ∈ f, 0 ≤ x ∧ x < 256) ∧ f.length ≤ 140737488351232) := by
  obtain ⟨cur, ty, first, hc, hq, h1, h2, h3, h4⟩ := h
  cases fs with
  | nil =>
    refine (pop_none q w hc.c66).mono ?_
    rintro e w' ⟨rfl, rfl⟩
    exact .inl ⟨rfl, rfl, rfl⟩
  | cons f rest =>
    obtain ⟨v, hv, hf⟩ := h4 0 f rfl
    refine (pop_some q p first rest.length cur ty S v f w hc hv hf (by simp at h3; omega)).mono ?_
    rintro e w' ⟨ho, hp⟩
    refine .inr ⟨f, rest, rfl, ho, queue_pop hq h1 h2 (by simpa using h3) h4 hc.lt hp, ?_, ?_, ?_⟩
    · obtain ⟨_, _, _, he⟩ := hp; exact he
    · obtain ⟨_, _, _, hb, _⟩ := hf; exact hb.2.1
    · obtain ⟨_, _, _, hb, _⟩ := hf; exact hb.2.2

theorem peek_any (q p : Nat) (S : Nat → Prop) (fs : List (List Int)) (w : World) (h : QueueAt w q S p fs) :
    Calls Try.prog 84 #[.pointer (some ⟨q, 0, none⟩)] w fun e w' =>
      (fs = [] ∧ e = .returned (.tuple #[.slice none 0 0, .bool false]) ∧ w = w') ∨
      (∃ f rest, fs = f :: rest ∧ Out1 f w e w' ∧ Grows w w' ∧ (∀ x ∈ f, 0 ≤ x ∧ x < 256) ∧ f.length ≤ 140737488351232) := by
  obtain ⟨cur, ty, first, hc, hq, h1, h2, h3, h4⟩ := h
  cases fs with
  | nil =>
    refine (peek_none q w hc.c66).mono ?_
    rintro e w' ⟨rfl, rfl⟩
    exact .inl ⟨rfl, rfl, rfl⟩
  | cons f rest =>
    obtain ⟨v, hv, hf⟩ := h4 0 f rfl
    refine (peek_some q p first rest.length cur ty S v f w hc hv hf).mono ?_
    rintro e w' ⟨ho, hg⟩
    refine .inr ⟨f, rest, rfl, ho, hg, ?_, ?_⟩
    · obtain ⟨_, _, _, hb, _⟩ := hf; exact hb.2.1
    · obtain ⟨_, _, _, hb, _⟩ := hf; exact hb.2.2

theorem qlen_any (q p : Nat) (S : Nat → Prop) (fs : List (List Int)) (w : World) (h : QueueAt w q S p fs) :
    Calls Try.prog 59 #[.pointer (some ⟨q, 0, none⟩)] w fun e w' => e = .returned (.int .i64 (fs.length : Nat)) ∧ w = w' := by
  obtain ⟨cur, ty, first, hc, hq, h1, h2, h3, h4⟩ := h
  exact len_any q _ w hc.c66
theorem qlen_int (q p : Nat) (S : Nat → Prop) (fs : List (List Int)) (n : Int) (w : World) (h : QueueAt w q S p fs) (hn : (fs.length : Int) = n) :
    Calls Try.prog 59 #[.pointer (some ⟨q, 0, none⟩)] w fun e w' => e = .returned (.int .i64 n) ∧ w = w' := by
  subst hn
  exact qlen_any q p S fs w h
theorem qfree_any (q p : Nat) (S : Nat → Prop) (fs : List (List Int)) (w : World) (h : QueueAt w q S p fs) :
    Calls Try.prog 52 #[.pointer (some ⟨q, 0, none⟩)] w fun e w' => e = .returned (.int .i64 ((p : Int) - (fs.length : Int))) ∧ Grows w w' := by
  obtain ⟨cur, ty, first, hc, hq, h1, h2, h3, h4⟩ := h
  exact free_any q _ _ w hc.c64 hc.c66 ⟨by omega, by omega, by omega⟩
end Go.Proofs.Ytekdggdnkmkldaa
