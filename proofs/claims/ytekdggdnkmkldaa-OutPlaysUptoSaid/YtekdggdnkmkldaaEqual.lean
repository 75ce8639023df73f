/- Equal bytes. -/
import Derived.Test.YtekdggdnkmkldaaFacts
namespace Go.Proofs.Ytekdggdnkmkldaa
set_option linter.unusedVariables false
set_option linter.unusedSimpArgs false
set_option maxRecDepth 1500
open Go.RowKit

theorem conv_bytes {w : World} {v : Value} {xs : List Int} (h : Bytes w v xs) :
    (convert 41 9 v).run Try.prog w = .ok (.string (strOfNums xs)) w := by
  rcases h.cases with ⟨a, cap, rfl, rfl⟩ | ⟨b, off, cap, rfl, hcap, hmax, hlt, hcell⟩
  · cases a with
    | none => exact run_convert_bytes_nil (P := Try.prog) w 41 5 Try.underlying41 Try.underlying5 0 cap 9 Try.underlying9
    | some x =>
      rw [run_convert_bytes_string (P := Try.prog) w 41 9 5 (some x) 0 cap Try.underlying41 Try.underlying5 Try.underlying9]
      exact run_bytesToString w x 0 cap [] (by simpa using run_loadCells_list (P := Try.prog) w x [] (by simp))
  · exact run_convert_bytes_arg (P := Try.prog) w 41 5 Try.underlying41 Try.underlying5 b off xs.length cap xs rfl hcell 9 Try.underlying9

theorem strOfNums_inj {xs ys : List Int} (hx : ∀ x ∈ xs, 0 ≤ x ∧ x < 256) (hy : ∀ x ∈ ys, 0 ≤ x ∧ x < 256) : ((strOfNums xs).toList == (strOfNums ys).toList) = decide (xs = ys) := by
  rw [ByteArray.toList_eq, ByteArray.toList_eq, Bool.eq_iff_iff, beq_iff_eq, decide_eq_true_iff]
  constructor
  · intro h
    have h1 := h
    simp only [strOfNums_data] at h1
    have h2 := congrArg (List.map fun u : UInt8 => (u.toNat : Int)) h1
    simp only [List.map_map] at h2
    have key : ∀ l : List Int, (∀ x ∈ l, 0 ≤ x ∧ x < 256) → l.map ((fun u : UInt8 => (u.toNat : Int)) ∘ fun n => UInt8.ofNat n.toNat) = l := by
      intro l hl
      conv => rhs; rw [← List.map_id l]
      apply List.map_congr_left
      intro x hxm
      have := hl x hxm
      simp only [Function.comp, UInt8.toNat_ofNat', id]
      omega
    rw [key xs hx, key ys hy] at h2
    exact h2
  · rintro rfl; rfl

end Go.Proofs.Ytekdggdnkmkldaa
