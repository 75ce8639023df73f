/- The queue: its small functions. -/
import Derived.Test.YtekdggdnkmkldaaFacts
import Derived.Deep.RegionHeld3
import Derived.Deep.QuietTactic
import Derived.BigQuiet
namespace Go.Proofs.Ytekdggdnkmkldaa
set_option linter.unusedVariables false
set_option linter.unusedSimpArgs false
set_option maxRecDepth 1500
open Go.RowKit

/-- own: the same bytes in new memory. -/
theorem own_any (v : Value) (xs : List Int) (w : World) (h : Bytes w v xs) :
    Calls Try.prog 81 #[v] w fun e w' => ∃ b, w.heap.size ≤ b ∧ e = .returned (.slice (some ⟨b, 0, none⟩) xs.length xs.length) ∧
      w'.heap[b]? = some (.cells (u8s xs) 5 (0, 0)) ∧ Grows w w' := by
  have hlen := h.2.2
  have hmk := make_bytes xs.length (by omega)
  have hfin : ∀ w1 : World, w1.heap[w.heap.size]? = some (.cells (u8s (over (zeros xs.length) xs)) 5 (0, 0)) → w1.heap[w.heap.size]? = some (.cells (u8s xs) 5 (0, 0)) := by
    intro w1 h1
    rw [h1]
    simp [over, zeros]
  have HF := Lib.hid hfin
  clear hfin
  rcases h.cases with ⟨a, cap, rfl, rfl⟩ | ⟨b, off, cap, rfl, hcap, hmax, hlt, hcell⟩
  · have hmk0 : ∀ w : World, (Instr.makeSlice 41 (.int .i64 0) (.int .i64 0)).run Try.prog w = .ok (.slice (some ⟨w.heap.size, 0, none⟩) 0 0) (w.alloc (.cells (u8s (zeros 0)) 5)) := make_bytes 0 (by omega)
    clear hmk
    go_enter Try.func81, Try.ntmps81
    go_wp2_with (with_reducible refine wpList_copy_bytes rfl (.tmp 7) (.tmp 8) 41 rfl 5 Try.underlying41 sizeU8 w.heap.size 0 0 (zeros 0) 5 _ [] rfl rfl ?hv (zeros_length 0) ?hg ?next)
    case hv => exact h.grows (Ext.alloc (Ext.refl _ _) _)
    case hg => exact heap_alloc_new w _
    case next =>
      intro w1 hg1 he1
      go_wp2
      go_ret
      exact ⟨w.heap.size, Nat.le_refl _, rfl, HF.out _ hg1, ((Ext.alloc (Ext.refl (fun k => k = w.heap.size) w) _).trans he1).mono (fun k hk hh => by omega)⟩
  · have HC := Lib.hid hcell
    clear hcell
    go_enter Try.func81, Try.ntmps81
    go_wp2_with (with_reducible refine wpList_copy_bytes rfl (.tmp 7) (.tmp 8) 41 rfl 5 Try.underlying41 sizeU8 w.heap.size xs.length xs.length (zeros xs.length) 5 _ xs rfl rfl ?hv (zeros_length _) ?hg ?next)
    case hv => exact h.grows (Ext.alloc (Ext.refl _ _) _)
    case hg => exact heap_alloc_new w _
    case next =>
      intro w1 hg1 he1
      have HG := Lib.hid hg1
      have HE := Lib.hid he1
      clear hg1 he1
      go_wp2
      go_ret
      exact ⟨w.heap.size, Nat.le_refl _, rfl, HF.out _ HG.out, ((Ext.alloc (Ext.refl (fun k => k = w.heap.size) w) _).trans HE.out).mono (fun k hk hh => by omega)⟩

/-- Where the i-th of the waiting frames lies in the ring. -/
def slot (first i : Nat) : Nat := (first + i) % 64
theorem slot_lt (first i : Nat) : slot first i < 64 := Nat.mod_lt _ (by omega)
theorem slot_ne {first i j : Nat} (h : i < j) (hj : j < 64) : slot first i ≠ slot first j := by unfold slot; omega
theorem slot_ne' {first i j : Nat} (h : i < j) (hj : j < i + 64) : slot first i ≠ slot first j := by unfold slot; omega

theorem at_any (q first i : Nat) (w : World) (h : w.cell? ⟨q, 65, none⟩ = some (.int .i64 first)) (h2 : first < 64) (h4 : i ≤ 64) :
    Calls Try.prog 82 #[.pointer (some ⟨q, 0, none⟩), .int .i64 i] w fun e w' => e = .returned (.int .i64 (slot first i : Nat)) ∧ w = w' := by
  go_enter Try.func82, Try.ntmps82
  go_wp2
  go_ret
  exact ⟨ret_int (by simp [slot]), rfl⟩

theorem len_any (q : Nat) (n : Int) (w : World) (h : w.cell? ⟨q, 66, none⟩ = some (.int .i64 n)) :
    Calls Try.prog 59 #[.pointer (some ⟨q, 0, none⟩)] w fun e w' => e = .returned (.int .i64 n) ∧ w = w' := by
  go_enter Try.func59, Try.ntmps59
  go_wp2
  go_ret
  exact ⟨rfl, rfl⟩
theorem len_nil (w : World) : Calls Try.prog 59 #[.pointer none] w fun e w' => e = .returned (.int .i64 0) ∧ w = w' := by
  go_enter Try.func59, Try.ntmps59
  go_wp2
  go_ret
  exact ⟨rfl, rfl⟩

theorem free_any (q : Nat) (p n : Int) (w : World) (h1 : w.cell? ⟨q, 64, none⟩ = some (.int .i64 p)) (h : w.cell? ⟨q, 66, none⟩ = some (.int .i64 n)) (hb : 0 ≤ n ∧ n ≤ p ∧ p ≤ 64) :
    Calls Try.prog 52 #[.pointer (some ⟨q, 0, none⟩)] w fun e w' => e = .returned (.int .i64 (p - n)) ∧ Grows w w' := by
  obtain ⟨b1, b2, b3⟩ := hb
  go_enter Try.func52, Try.ntmps52
  go_wp2
  go_quiet (fail)
  go_wp2
  go_ret
  exact ⟨rfl, ⟨rfl, rfl, rfl, Nat.le_refl _, fun _ _ _ => rfl⟩⟩
theorem free_nil (w : World) : Calls Try.prog 52 #[.pointer none] w fun e w' => e = .returned (.int .i64 0) ∧ w = w' := by
  go_enter Try.func52, Try.ntmps52
  go_wp2
  go_ret
  exact ⟨rfl, rfl⟩

end Go.Proofs.Ytekdggdnkmkldaa
