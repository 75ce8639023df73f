/- The draw layer: the coefficients of a draw. -/
import Derived.Test.YtiokikiombhcnaaDoorDrawB
import Derived.Test.YtiokikiombhcnaaDoorFacts
namespace Go.Proofs.YtiokikiombhcnaaDoor
set_option linter.unusedVariables false
set_option linter.unusedSimpArgs false
open Go.RowKit

/-- The bytes in their place, noughts behind them. -/
def fillOf (xs : List Int) (n : Nat) : List Int := xs.take n ++ List.replicate (n - xs.length) 0
/-- What chapter 11 says. -/
def coefsOf (xs : List Int) (n t : Nat) : List Int := if leadOf (fillOf xs n) < 0 then (fillOf xs n).set t 1 else fillOf xs n

theorem fillOf_length (xs : List Int) (n : Nat) : (fillOf xs n).length = n := by
  simp [fillOf]; omega
theorem coefsOf_length (xs : List Int) (n t : Nat) : (coefsOf xs n t).length = n := by
  unfold coefsOf; split <;> simp [fillOf_length]

set_option maxHeartbeats 400000 in
theorem fill_zero (p q b t : Nat) (ys : List Int) (cap : Nat) (w : World) (hy : Bytes w (.slice (some ⟨b, 0, none⟩) ys.length cap) ys)
    (hp : w.cell? ⟨p, 0, none⟩ = some (.slice (some ⟨b, 0, none⟩) ys.length cap)) (hq : w.cell? ⟨q, 0, none⟩ = some (.int .i64 t)) (ht : t < ys.length) (x : Value)
    (hc : w.cell? ⟨b, t, none⟩ = some x) (hz : w.frozen? ⟨b, t, none⟩ = false) (h : leadOf ys < 0) :
    Calls Tryd.prog 10 #[.pointer (some ⟨p, 0, none⟩), .pointer (some ⟨q, 0, none⟩)] w fun e w' => e = .returned (.tuple #[]) ∧ w' = w.setCell ⟨b, t, none⟩ (.int .u8 1) := by
  have hd : decide (leadOf ys < 0) = true := by simp [h]
  have hbig := hy.2.2
  clear h
  go_enter Tryd.func10, Tryd.ntmps10
  go_wp2_with (go_at_call 6; refine (isZero_any _ ys _ hy).mono ?_; rintro e w' ⟨rfl, rfl⟩)
  go_end0
  exact ⟨rfl, rfl⟩

set_option maxHeartbeats 400000 in
theorem fill_not (p q b t : Nat) (ys : List Int) (cap : Nat) (w : World) (hy : Bytes w (.slice (some ⟨b, 0, none⟩) ys.length cap) ys)
    (hp : w.cell? ⟨p, 0, none⟩ = some (.slice (some ⟨b, 0, none⟩) ys.length cap)) (h : ¬ leadOf ys < 0) :
    Calls Tryd.prog 10 #[.pointer (some ⟨p, 0, none⟩), .pointer (some ⟨q, 0, none⟩)] w fun e w' => e = .returned (.tuple #[]) ∧ w' = w := by
  have hd : decide (leadOf ys < 0) = false := by simp [h]
  clear h
  go_enter Tryd.func10, Tryd.ntmps10
  go_wp2_with (go_at_call 6; refine (isZero_any _ ys _ hy).mono ?_; rintro e w' ⟨rfl, rfl⟩)
  go_end0
  exact ⟨rfl, rfl⟩

theorem fill_any (p q b t : Nat) (ys : List Int) (cap : Nat) (ty : TypeId) (w : World) (hb : w.heap[b]? = some (.cells (u8s ys) ty (0, 0))) (hx : ∀ x ∈ ys, 0 ≤ x ∧ x < 256) (hl : ys.length ≤ 140737488351232)
    (hc : ys.length ≤ cap) (hm : cap ≤ maxLen)
    (hp : w.cell? ⟨p, 0, none⟩ = some (.slice (some ⟨b, 0, none⟩) ys.length cap)) (hq : w.cell? ⟨q, 0, none⟩ = some (.int .i64 t)) (ht : t < ys.length) :
    Calls Tryd.prog 10 #[.pointer (some ⟨p, 0, none⟩), .pointer (some ⟨q, 0, none⟩)] w fun e w' => e = .returned (.tuple #[]) ∧
      w'.heap[b]? = some (.cells (u8s (if leadOf ys < 0 then ys.set t 1 else ys)) ty (0, 0)) ∧ Ext (fun k => k = b) w w' := by
  have hy : Bytes w (.slice (some ⟨b, 0, none⟩) ys.length cap) ys := Bytes.of_heap hb rfl hc hm hx hl
  by_cases h : leadOf ys < 0
  · refine (fill_zero p q b t ys cap w hy hp hq ht _ ((cell_of_heap hb t).trans (u8s_get ys t ht)) (frozen_of_heap hb t) h).mono ?_
    rintro e w' ⟨rfl, rfl⟩
    refine ⟨rfl, ?_, Ext.setCell (S := fun k => k = b) (Ext.refl _ _) ⟨b, t, none⟩ (Or.inr rfl) _⟩
    rw [setCell_heap hb, u8s_set, if_pos h]
  · refine (fill_not p q b t ys cap w hy hp h).mono ?_
    rintro e w' ⟨rfl, rfl⟩
    rw [if_neg h]
    exact ⟨rfl, hb, Ext.refl _ _⟩

theorem coefs_no (v : Value) (n t : Int) (w : World) (h : (n < 1 ∨ 255 < n) ∨ t < 0 ∨ n ≤ t) :
    Calls Tryd.prog 4 #[v, .int .i64 n, .int .i64 t] w fun e w' => e = .returned (.tuple #[.slice none 0 0, .int .i64 1]) ∧ Grows w w' := by
  by_cases h1 : n < 1 ∨ 255 < n
  · clear h
    go_enter Tryd.func4, Tryd.ntmps4
    go_wp2_with (go_at_call 9; refine (may_no _ _ h1).mono ?_; rintro e w' ⟨rfl, rfl⟩)
    go_ret2
    exact ⟨rfl, (Ext.refl _ _).alloc _⟩
  · have h2 : 1 ≤ n := by omega
    have h3 : n ≤ 255 := by omega
    have h4 : t < 0 ∨ n ≤ t := by omega
    clear h h1
    rcases h4 with h4 | h4
    · go_enter Tryd.func4, Tryd.ntmps4
      go_wp2_with (go_at_call 9; refine (may_yes _ _ h2 h3).mono ?_; rintro e w' ⟨rfl, rfl⟩)
      go_ret2
      exact ⟨rfl, (Ext.refl _ _).alloc _⟩
    · have h5 : 0 ≤ t := by omega
      go_enter Tryd.func4, Tryd.ntmps4
      go_wp2_with (go_at_call 9; refine (may_yes _ _ h2 h3).mono ?_; rintro e w' ⟨rfl, rfl⟩)
      go_ret2
      exact ⟨rfl, (Ext.refl _ _).alloc _⟩

theorem fillOf_over (xs : List Int) (n : Nat) : over (zeros n) xs = fillOf xs n := by
  simp [over, zeros, fillOf]
theorem fillOf_small {xs : List Int} (h : ∀ x ∈ xs, 0 ≤ x ∧ x < 256) (n : Nat) : ∀ x ∈ fillOf xs n, 0 ≤ x ∧ x < 256 := by
  intro x hx
  rcases List.mem_append.1 hx with h1 | h1
  · exact h x (List.mem_of_mem_take h1)
  · have := List.eq_of_mem_replicate h1; omega

set_option maxHeartbeats 400000 in
theorem coefs_yes (v : Value) (xs : List Int) (n t : Nat) (w : World) (h : Bytes w v xs) (h1 : 1 ≤ n) (h2 : n ≤ 255) (h3 : t < n) :
    Calls Tryd.prog 4 #[v, .int .i64 n, .int .i64 t] w fun e w' => ∃ b, w.heap.size ≤ b ∧ e = .returned (.tuple #[.slice (some ⟨b, 0, none⟩) n n, .int .i64 0]) ∧
      w'.heap[b]? = some (.cells (u8s (coefsOf xs n t)) 5 (0, 0)) ∧ Grows w w' := by
  have hmk := make_bytes n (by omega)
  go_enter Tryd.func4, Tryd.ntmps4
  go_wp2_with (
    first
    | (go_at_call 9; refine (may_yes _ _ (by omega) (by omega)).mono ?_; rintro e w' ⟨rfl, rfl⟩)
    | (with_reducible refine wpList_copy_bytes rfl (.tmp 25) (.tmp 26) 22 rfl 5 Tryd.underlying22 sizeU8 (w.heap.size + 1) n n (zeros n) 5 v xs rfl rfl ?hv (zeros_length n) ?hg ?next))
  case hv => exact h.grows ((((Ext.refl _ _).alloc _).alloc _).alloc _)
  case hg => simp only [heap_alloc_get, World.size_alloc, ↓reduceIte]; (repeat (first | rw [if_pos (by omega)] | rw [if_neg (by omega)])); try rfl
  case next =>
    intro w3 hg3 he3
    rw [fillOf_over] at hg3
    have hp : w3.cell? ⟨w.heap.size + 1 + 1, 0, none⟩ = some (.slice (some ⟨w.heap.size + 1, 0, none⟩) n n) := by
      rw [he3.cell (by simp) (by simp)]; exact cell_heap (by simp only [heap_alloc_get, World.size_alloc, ↓reduceIte]; (repeat (first | rw [if_pos (by omega)] | rw [if_neg (by omega)])); try rfl) rfl
    have hq : w3.cell? ⟨w.heap.size, 0, none⟩ = some (.int .i64 t) := by
      rw [he3.cell (by simp; omega) (by simp)]; exact cell_heap (by simp only [heap_alloc_get, World.size_alloc, ↓reduceIte]; (repeat (first | rw [if_pos (by omega)] | rw [if_neg (by omega)])); try rfl) rfl
    have hfin := fill_any (w.heap.size + 1 + 1) w.heap.size (w.heap.size + 1) t (fillOf xs n) n 5 w3 hg3 (fillOf_small h.2.1 n) (by rw [fillOf_length]; omega) (by rw [fillOf_length]; omega) (by unfold maxLen; omega)
      (by rw [fillOf_length]; exact hp) hq (by rw [fillOf_length]; exact h3)
    have HF := Lib.hid hfin
    clear hfin
    have HG := Lib.hid he3
    clear he3 hmk
    go_wp2_with (go_at_call 10; refine HF.out.mono ?_; rintro e w4 ⟨rfl, hb4, he4⟩; have hp4 := (he4.cell (World.block_lt_of_cell? _ _ hp) (by simp)).trans hp)
    go_ret2
    refine ⟨w.heap.size + 1, by omega, rfl, ?_, ?_⟩
    · rw [hb4]; rfl
    · have := (((((Ext.refl (fun k => k = w.heap.size + 1) w).alloc _).alloc _).alloc _).trans HG.out).trans he4
      exact this.mono (fun k hk hh => by omega)
end Go.Proofs.YtiokikiombhcnaaDoor
