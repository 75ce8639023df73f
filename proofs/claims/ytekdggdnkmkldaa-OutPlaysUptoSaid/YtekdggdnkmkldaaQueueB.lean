/- The queue: what it holds; New; Push. -/
import Derived.Test.YtekdggdnkmkldaaQueueA
namespace Go.Proofs.Ytekdggdnkmkldaa
set_option linter.unusedVariables false
set_option linter.unusedSimpArgs false
set_option maxRecDepth 1500
open Go.RowKit

/-- One frame: bytes that lie in a block of S that is not q. -/
def Frame1 (w : World) (q : Nat) (S : Nat → Prop) (v : Value) (f : List Int) : Prop :=
  ∃ a cap, v = .slice a f.length cap ∧ Bytes w v f ∧ ∀ k, v.ownBlock = some k → S k ∧ k ≠ q ∧ k < w.heap.size

/-- The queue's block: 64 slices, how many places, which is the first, how many wait. -/
structure QCells (w : World) (q : Nat) (cur : Array Value) (ty : TypeId) (places first n : Nat) : Prop where
  heap : w.heap[q]? = some (.cells cur ty (0, 0))
  size : cur.size = 67
  h64 : cur[64]? = some (.int .i64 places)
  h65 : cur[65]? = some (.int .i64 first)
  h66 : cur[66]? = some (.int .i64 n)
  ring : ∀ i, i < 64 → ∃ a l c, cur[i]? = some (.slice a l c)
  lt : first < 64

/-- A queue at block q with these frames; all that it needs lies in S. -/
def QueueAt (w : World) (q : Nat) (S : Nat → Prop) (places : Nat) (fs : List (List Int)) : Prop :=
  ∃ cur ty first, QCells w q cur ty places first fs.length ∧ S q ∧ 1 ≤ places ∧ places ≤ 64 ∧ fs.length ≤ places ∧
    ∀ i f, fs[i]? = some f → ∃ v, cur[slot first i]? = some v ∧ Frame1 w q S v f

theorem QCells.cell {w : World} {q : Nat} {cur : Array Value} {ty : TypeId} {places first n : Nat} (h : QCells w q cur ty places first n) (i : Nat) : w.cell? ⟨q, i, none⟩ = cur[i]? := cell_of_heap h.heap i
theorem QCells.c64 {w : World} {q : Nat} {cur : Array Value} {ty : TypeId} {places first n : Nat} (h : QCells w q cur ty places first n) : w.cell? ⟨q, 64, none⟩ = some (.int .i64 places) := (h.cell 64).trans h.h64
theorem QCells.c65 {w : World} {q : Nat} {cur : Array Value} {ty : TypeId} {places first n : Nat} (h : QCells w q cur ty places first n) : w.cell? ⟨q, 65, none⟩ = some (.int .i64 first) := (h.cell 65).trans h.h65
theorem QCells.c66 {w : World} {q : Nat} {cur : Array Value} {ty : TypeId} {places first n : Nat} (h : QCells w q cur ty places first n) : w.cell? ⟨q, 66, none⟩ = some (.int .i64 n) := (h.cell 66).trans h.h66
theorem QueueAt.lt {w : World} {q : Nat} {S : Nat → Prop} {places : Nat} {fs : List (List Int)} (h : QueueAt w q S places fs) : q < w.heap.size := by
  obtain ⟨cur, ty, first, hc, _⟩ := h
  exact heap_lt hc.heap

theorem Frame1.keeps {w w' : World} {q : Nat} {S S' T : Nat → Prop} {v : Value} {f : List Int} (h : Frame1 w q S v f) (e : Ext T w w') (hT : ∀ k, S k → k ≠ q → ¬ T k) (hS : ∀ k, S k → S' k) : Frame1 w' q S' v f := by
  obtain ⟨a, cap, hv, hb, hk⟩ := h
  exact ⟨a, cap, hv, hb.ext e (fun k h1 _ => hT k (hk k h1).1 (hk k h1).2.1), fun k h1 => ⟨hS k (hk k h1).1, (hk k h1).2.1, Nat.lt_of_lt_of_le (hk k h1).2.2 e.size⟩⟩
theorem QueueAt.keeps {w w' : World} {q : Nat} {S T : Nat → Prop} {places : Nat} {fs : List (List Int)} (h : QueueAt w q S places fs) (e : Ext T w w') (hT : ∀ k, S k → ¬ T k) : QueueAt w' q S places fs := by
  obtain ⟨cur, ty, first, hc, hq, h1, h2, h3, h4⟩ := h
  refine ⟨cur, ty, first, ⟨(e.block q (heap_lt hc.heap) (hT q hq)).trans hc.heap, hc.size, hc.h64, hc.h65, hc.h66, hc.ring, hc.lt⟩, hq, h1, h2, h3, fun i f hf => ?_⟩
  obtain ⟨v, hv, hfr⟩ := h4 i f hf
  exact ⟨v, hv, hfr.keeps e (fun k hk _ => hT k hk) (fun k hk => hk)⟩

theorem zeroQueue (w : World) : (zeroValue 156).run Try.prog w = .ok (.agg #[.slice none 0 0, .slice none 0 0, .slice none 0 0, .slice none 0 0, .slice none 0 0, .slice none 0 0, .slice none 0 0, .slice none 0 0, .slice none 0 0, .slice none 0 0, .slice none 0 0, .slice none 0 0, .slice none 0 0, .slice none 0 0, .slice none 0 0, .slice none 0 0, .slice none 0 0, .slice none 0 0, .slice none 0 0, .slice none 0 0, .slice none 0 0, .slice none 0 0, .slice none 0 0, .slice none 0 0, .slice none 0 0, .slice none 0 0, .slice none 0 0, .slice none 0 0, .slice none 0 0, .slice none 0 0, .slice none 0 0, .slice none 0 0, .slice none 0 0, .slice none 0 0, .slice none 0 0, .slice none 0 0, .slice none 0 0, .slice none 0 0, .slice none 0 0, .slice none 0 0, .slice none 0 0, .slice none 0 0, .slice none 0 0, .slice none 0 0, .slice none 0 0, .slice none 0 0, .slice none 0 0, .slice none 0 0, .slice none 0 0, .slice none 0 0, .slice none 0 0, .slice none 0 0, .slice none 0 0, .slice none 0 0, .slice none 0 0, .slice none 0 0, .slice none 0 0, .slice none 0 0, .slice none 0 0, .slice none 0 0, .slice none 0 0, .slice none 0 0, .slice none 0 0, .slice none 0 0, .int .i64 0, .int .i64 0, .int .i64 0]) w := by kernel_rfl
theorem newCells (p : Nat) : (#[.slice none 0 0, .slice none 0 0, .slice none 0 0, .slice none 0 0, .slice none 0 0, .slice none 0 0, .slice none 0 0, .slice none 0 0, .slice none 0 0, .slice none 0 0, .slice none 0 0, .slice none 0 0, .slice none 0 0, .slice none 0 0, .slice none 0 0, .slice none 0 0, .slice none 0 0, .slice none 0 0, .slice none 0 0, .slice none 0 0, .slice none 0 0, .slice none 0 0, .slice none 0 0, .slice none 0 0, .slice none 0 0, .slice none 0 0, .slice none 0 0, .slice none 0 0, .slice none 0 0, .slice none 0 0, .slice none 0 0, .slice none 0 0, .slice none 0 0, .slice none 0 0, .slice none 0 0, .slice none 0 0, .slice none 0 0, .slice none 0 0, .slice none 0 0, .slice none 0 0, .slice none 0 0, .slice none 0 0, .slice none 0 0, .slice none 0 0, .slice none 0 0, .slice none 0 0, .slice none 0 0, .slice none 0 0, .slice none 0 0, .slice none 0 0, .slice none 0 0, .slice none 0 0, .slice none 0 0, .slice none 0 0, .slice none 0 0, .slice none 0 0, .slice none 0 0, .slice none 0 0, .slice none 0 0, .slice none 0 0, .slice none 0 0, .slice none 0 0, .slice none 0 0, .slice none 0 0, .int .i64 p, .int .i64 0, .int .i64 0] : Array Value) = (List.replicate 64 (Value.slice none 0 0) ++ [Value.int .i64 p, .int .i64 0, .int .i64 0]).toArray := rfl
/-- New, where it may be. -/
theorem new_yes (p : Nat) (w : World) (h1 : 1 ≤ p) (h2 : p ≤ 64) :
    Calls Try.prog 45 #[.int .i64 p] w fun e w' => e = .returned (.tuple #[.pointer (some ⟨w.heap.size, 0, none⟩), .int .i64 0]) ∧
      QueueAt w' w.heap.size (fun k => k = w.heap.size) p [] ∧ Grows w w' := by
  have hz := zeroQueue
  go_enter Try.func45, Try.ntmps45
  go_wp2
  go_ret2
  refine ⟨rfl, ?_, Ext.alloc (Ext.refl _ _) _⟩
  refine ⟨_, _, 0, ⟨heap_alloc_new w _, ?_, ?_, ?_, ?_, ?_, by omega⟩, rfl, h1, h2, Nat.zero_le _, fun i f hf => by simp at hf⟩
  all_goals rw [newCells]
  · simp
  · simp
  · simp
  · simp
  · intro i hi
    refine ⟨none, 0, 0, ?_⟩
    rw [List.getElem?_toArray, List.getElem?_append_left (by simpa using hi), List.getElem?_replicate, if_pos hi]
theorem new_no (p : Int) (w : World) (h : p < 1 ∨ 64 < p) :
    Calls Try.prog 45 #[.int .i64 p] w fun e w' => e = .returned (.tuple #[.pointer none, .int .i64 1]) ∧ w = w' := by
  rcases h with h | h
  · go_enter Try.func45, Try.ntmps45
    go_wp2
    go_ret2
    exact ⟨rfl, rfl⟩
  · have h' : 1 ≤ p := by omega
    go_enter Try.func45, Try.ntmps45
    go_wp2
    go_ret2
    exact ⟨rfl, rfl⟩

theorem push_nil (v : Value) (w : World) : Calls Try.prog 49 #[.pointer none, v] w fun e w' => e = .returned (.int .i64 2) ∧ w = w' := by
  go_enter Try.func49, Try.ntmps49
  go_wp2
  go_ret
  exact ⟨rfl, rfl⟩
theorem push_zero (q : Nat) (v : Value) (w : World) (h : w.cell? ⟨q, 64, none⟩ = some (.int .i64 0)) : Calls Try.prog 49 #[.pointer (some ⟨q, 0, none⟩), v] w fun e w' => e = .returned (.int .i64 2) ∧ w = w' := by
  go_enter Try.func49, Try.ntmps49
  go_wp2
  go_ret
  exact ⟨rfl, rfl⟩
theorem push_long (q p n : Nat) (a : Option Addr) (cap : Nat) (w : World) (h : w.cell? ⟨q, 64, none⟩ = some (.int .i64 p)) (hp : 1 ≤ p) (hn : 70000 < n) (hm : n ≤ 140737488351232) :
    Calls Try.prog 49 #[.pointer (some ⟨q, 0, none⟩), .slice a n cap] w fun e w' => e = .returned (.int .i64 3) ∧ w = w' := by
  have hp0 : ((p : Int) == 0) = false := by simp; omega
  go_enter Try.func49, Try.ntmps49
  go_wp2
  go_ret
  exact ⟨rfl, rfl⟩
theorem push_full (q p n : Nat) (a : Option Addr) (cap : Nat) (w : World) (h : w.cell? ⟨q, 64, none⟩ = some (.int .i64 p)) (h2 : w.cell? ⟨q, 66, none⟩ = some (.int .i64 p)) (hp : 1 ≤ p) (hn : n ≤ 70000) :
    Calls Try.prog 49 #[.pointer (some ⟨q, 0, none⟩), .slice a n cap] w fun e w' => e = .returned (.int .i64 7) ∧ Grows w w' := by
  have hp0 : ((p : Int) == 0) = false := by simp; omega
  go_enter Try.func49, Try.ntmps49
  go_wp2
  go_quiet (fail)
  go_wp2
  go_ret
  exact ⟨rfl, ⟨rfl, rfl, rfl, Nat.le_refl _, fun _ _ _ => rfl⟩⟩

/-- What Push leaves: its frame in a new block, one more waits. -/
def Pushed (q p first n : Nat) (cur : Array Value) (ty : TypeId) (xs : List Int) (w : World) (e : Ending) (w' : World) : Prop :=
  e = .returned (.int .i64 0) ∧ ∃ b cur', w.heap.size ≤ b ∧ w'.heap[b]? = some (.cells (u8s xs) 5 (0, 0)) ∧ QCells w' q cur' ty p first (n + 1) ∧
    cur'[slot first n]? = some (.slice (some ⟨b, 0, none⟩) xs.length xs.length) ∧ (∀ i, i < 64 → i ≠ slot first n → cur'[i]? = cur[i]?) ∧ Ext (fun k => k = q) w w'

theorem pushed_fin {q p first n b : Nat} {cur : Array Value} {ty : TypeId} {xs : List Int} {w w1 : World} (h : QCells w q cur ty p first n) (hbb : w.heap.size ≤ b) (hh : w1.heap[b]? = some (.cells (u8s xs) 5 (0, 0))) (hg : Grows w w1)
    (x : Int) (hx : x = (n : Int) + 1) :
    Pushed q p first n cur ty xs w (.returned (.int .i64 0)) ((w1.setCell ⟨q, slot first n, none⟩ (.slice (some ⟨b, 0, none⟩) xs.length xs.length)).setCell ⟨q, 66, none⟩ (.int .i64 x)) := by
  subst hx
  have hql := heap_lt h.heap
  have hs := slot_lt first n
  have hq1 : w1.heap[q]? = some (.cells cur ty (0, 0)) := (hg.block q hql (fun h => h)).trans h.heap
  have hq2 := setCell_heap hq1 (slot first n) (.slice (some ⟨b, 0, none⟩) xs.length xs.length)
  have hq3 := setCell_heap hq2 66 (.int .i64 ((n : Int) + 1))
  refine ⟨rfl, b, _, hbb, ?_, ⟨hq3, ?_, ?_, ?_, ?_, ?_, h.lt⟩, ?_, ?_, ?_⟩
  · rw [Below.heap_setCell _ _ _ _ (by simp; omega), Below.heap_setCell _ _ _ _ (by simp; omega)]; exact hh
  · simp [h.size]
  · rw [Array.getElem?_setIfInBounds_ne (by omega), Array.getElem?_setIfInBounds_ne (by omega)]; exact h.h64
  · rw [Array.getElem?_setIfInBounds_ne (by omega), Array.getElem?_setIfInBounds_ne (by omega)]; exact h.h65
  · rw [Array.getElem?_setIfInBounds_self_of_lt (by simp [h.size])]; simp
  · intro i hi
    rw [Array.getElem?_setIfInBounds_ne (by omega)]
    by_cases hi2 : slot first n = i
    · subst hi2
      rw [Array.getElem?_setIfInBounds_self_of_lt (by rw [h.size]; omega)]
      exact ⟨_, _, _, rfl⟩
    · rw [Array.getElem?_setIfInBounds_ne hi2]; exact h.ring i hi
  · rw [Array.getElem?_setIfInBounds_ne (by omega), Array.getElem?_setIfInBounds_self_of_lt (by rw [h.size]; omega)]
  · intro i hi hi2
    rw [Array.getElem?_setIfInBounds_ne (by omega), Array.getElem?_setIfInBounds_ne (Ne.symm hi2)]
  · exact Ext.setCell (S := fun k => k = q) (Ext.setCell (S := fun k => k = q) hg.lift ⟨q, slot first n, none⟩ (Or.inr rfl) _) ⟨q, 66, none⟩ (Or.inr rfl) _

set_option maxHeartbeats 800000 in
theorem push_yes (q p first n : Nat) (cur : Array Value) (ty : TypeId) (v : Value) (xs : List Int) (w : World) (h : QCells w q cur ty p first n) (hb : Bytes w v xs) (hp : 1 ≤ p) (hp64 : p ≤ 64) (hn : n < p) (hx : xs.length ≤ 70000) :
    Calls Try.prog 49 #[.pointer (some ⟨q, 0, none⟩), v] w (Pushed q p first n cur ty xs w) := by
  obtain ⟨a, cap, rfl⟩ : ∃ a cap, v = .slice a xs.length cap := by
    rcases hb.cases with ⟨a, cap, rfl, rfl⟩ | ⟨b, off, cap, rfl, _⟩
    · exact ⟨a, cap, rfl⟩
    · exact ⟨_, cap, rfl⟩
  have h64 := h.c64
  have h65 := h.c65
  have h66 := h.c66
  have hp0 : ((p : Int) == 0) = false := by simp; omega
  have hnp : ((n : Int) == (p : Int)) = false := by simp; omega
  have hs := slot_lt first n
  have hf1 : (0 : Int) ≤ (slot first n : Int) := by omega
  have hf2 : (slot first n : Int) < 64 := by omega
  have hfl := h.lt
  obtain ⟨oa, ol, oc, hold⟩ := h.ring _ hs
  have hcs := (h.cell (slot first n)).trans hold
  have hfz := frozen_of_heap h.heap (slot first n)
  go_enter Try.func49, Try.ntmps49
  go_wp2
  go_quiet (fail)
  go_wp2
  have hql : q < w.heap.size := heap_lt h.heap
  go_region_held3 (fun w' => w'.cell? ⟨q, 65, none⟩ = some (.int .i64 first) ∧ w'.cell? ⟨q, 66, none⟩ = some (.int .i64 n))
    (first
      | go_keep
      | (refine ⟨?_, ?_⟩
         · (rw [hg.cell (by simpa using hql) (fun h => h)]; assumption)
         · (rw [hg.cell (by simpa using hql) (fun h => h)]; assumption))
      | (go_split_ands
         refine ⟨?_, ?_⟩
         · (rw [World.cell?_setCell_other _ _ _ _ (by simp <;> omega)]; assumption)
         · (rw [World.cell?_setCell_other _ _ _ _ (by simp <;> omega)]; assumption)))
    (first
      | (go_at_call 82; refine (at_any q first n _ ?_ hfl (by omega)).mono ?_; (simp [*]); rintro e w' ⟨rfl, rfl⟩)
      | (go_at_call 81; refine (own_any _ xs _ ?_).mono ?_; (exact hb.grows ⟨rfl, rfl, rfl, Nat.le_refl _, fun _ _ _ => rfl⟩); rintro e w1 ⟨b, hbb, rfl, hh, hg⟩; have hcs1 := (hg.cell (p := ⟨q, slot first n, none⟩) (by simpa using hql) (fun h => h)).trans hcs; have hfz1 := (World.frozen?_of_block (a := ⟨q, slot first n, none⟩) (hg.block q (by simpa using hql) (fun h => h))).trans hfz))
  rename_i hHeld
  obtain ⟨k65, k66⟩ := hHeld
  have hfz66 : w1.frozen? ⟨q, 66, none⟩ = false := (World.frozen?_of_block (a := ⟨q, 66, none⟩) (hg.block q (by simpa using hql) (fun h => h))).trans (frozen_of_heap h.heap 66)
  have hgg : Grows w w1 := ⟨hg.os, hg.tape, hg.output, hg.size, hg.block⟩
  have HG := Lib.hid hgg
  clear hg hgg
  go_wp2
  go_ret
  exact pushed_fin h hbb hh HG.out _ rfl

/-- The footprint behind a call: what it was, and what is new. -/
def grownTo (S : Nat → Prop) (w w' : World) : Nat → Prop := fun k => S k ∨ (w.heap.size ≤ k ∧ k < w'.heap.size)

theorem queue_push {w w' : World} {q p first : Nat} {S : Nat → Prop} {cur : Array Value} {ty : TypeId} {fs : List (List Int)} {xs : List Int} {v : Value} {e : Ending}
    (hc : QCells w q cur ty p first fs.length) (hq : S q) (hp : 1 ≤ p) (hp64 : p ≤ 64) (hfull : fs.length < p) (hfs : ∀ i f, fs[i]? = some f → ∃ v, cur[slot first i]? = some v ∧ Frame1 w q S v f)
    (hb : Bytes w v xs) (h : Pushed q p first fs.length cur ty xs w e w') : QueueAt w' q (grownTo S w w') p (fs ++ [xs]) := by
  obtain ⟨_, b, cur', hbb, hh, hc', hnew, hold, hext⟩ := h
  refine ⟨cur', ty, first, by simpa using hc', .inl hq, hp, hp64, by simp; omega, fun i f hf => ?_⟩
  rcases Nat.lt_or_ge i fs.length with hi | hi
  · rw [List.getElem?_append_left hi] at hf
    obtain ⟨u, hu, hfr⟩ := hfs i f hf
    refine ⟨u, (hold _ (slot_lt _ _) (slot_ne hi (by omega))).trans hu, hfr.keeps hext (fun k _ hk => hk) (fun k hk => .inl hk)⟩
  · rw [List.getElem?_append_right hi] at hf
    obtain rfl : i = fs.length := by
      rcases Nat.lt_or_ge 0 (i - fs.length) with h1 | h1
      · rw [List.getElem?_eq_none (by simp; omega)] at hf; cases hf
      · omega
    simp at hf
    subst hf
    have hlt := heap_lt hh
    have hqlt := heap_lt hc.heap
    refine ⟨_, hnew, _, _, rfl, Bytes.of_heap hh rfl (Nat.le_refl _) (by have := hb.2.2; unfold maxLen; omega) hb.2.1 hb.2.2, fun k hk => ?_⟩
    simp only [Value.ownBlock, Option.some.injEq] at hk
    subst hk
    exact ⟨.inr ⟨hbb, hlt⟩, by omega, hlt⟩

/-- Push on a queue: what is answered, what it holds behind it. -/
theorem push_any (q p : Nat) (S : Nat → Prop) (fs : List (List Int)) (v : Value) (xs : List Int) (w : World) (h : QueueAt w q S p fs) (hb : Bytes w v xs) :
    Calls Try.prog 49 #[.pointer (some ⟨q, 0, none⟩), v] w fun e w' =>
      (70000 < xs.length ∧ e = .returned (.int .i64 3) ∧ Grows w w') ∨ (xs.length ≤ 70000 ∧ fs.length = p ∧ e = .returned (.int .i64 7) ∧ Grows w w') ∨
      (xs.length ≤ 70000 ∧ fs.length < p ∧ e = .returned (.int .i64 0) ∧ QueueAt w' q (grownTo S w w') p (fs ++ [xs]) ∧ Ext (fun k => k = q) w w') := by
  obtain ⟨cur, ty, first, hc, hq, h1, h2, h3, h4⟩ := h
  by_cases hx : xs.length ≤ 70000
  · by_cases hf : fs.length = p
    · obtain ⟨a, cap, rfl⟩ : ∃ a cap, v = .slice a xs.length cap := by
        rcases hb.cases with ⟨a, cap, rfl, rfl⟩ | ⟨b, off, cap, rfl, _⟩
        · exact ⟨a, cap, rfl⟩
        · exact ⟨_, cap, rfl⟩
      refine (push_full q p xs.length a cap w hc.c64 (by rw [hc.c66, hf]) h1 hx).mono ?_
      rintro e w' ⟨rfl, hg⟩
      exact .inr (.inl ⟨hx, hf, rfl, hg⟩)
    · refine (push_yes q p first fs.length cur ty v xs w hc hb h1 h2 (by omega) hx).mono ?_
      intro e w' hp
      have he := hp.1
      have hext : Ext (fun k => k = q) w w' := by obtain ⟨_, _, _, _, _, _, _, _, he⟩ := hp; exact he
      exact .inr (.inr ⟨hx, by omega, he, queue_push hc hq h1 h2 (by omega) h4 hb hp, hext⟩)
  · obtain ⟨a, cap, rfl⟩ : ∃ a cap, v = .slice a xs.length cap := by
      rcases hb.cases with ⟨a, cap, rfl, rfl⟩ | ⟨b, off, cap, rfl, _⟩
      · exact ⟨a, cap, rfl⟩
      · exact ⟨_, cap, rfl⟩
    refine (push_long q p xs.length a cap w hc.c64 h1 (by omega) hb.2.2).mono ?_
    rintro e w' ⟨rfl, rfl⟩
    exact .inl ⟨by omega, rfl, Ext.refl _ _⟩
end Go.Proofs.Ytekdggdnkmkldaa
