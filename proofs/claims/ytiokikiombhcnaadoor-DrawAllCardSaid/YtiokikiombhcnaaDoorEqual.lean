/- Equal bytes. -/
import Derived.Test.YtiokikiombhcnaaDoorFacts
namespace Go.Proofs.YtiokikiombhcnaaDoor
set_option linter.unusedVariables false
set_option linter.unusedSimpArgs false
open Go.RowKit

theorem conv_bytes {w : World} {v : Value} {xs : List Int} (h : Bytes w v xs) :
    (convert 22 9 v).run Tryd.prog w = .ok (.string (strOfNums xs)) w := by
  rcases h.cases with ⟨a, cap, rfl, rfl⟩ | ⟨b, off, cap, rfl, hcap, hmax, hlt, hcell⟩
  · cases a with
    | none => exact run_convert_bytes_nil (P := Tryd.prog) w 22 5 Tryd.underlying22 Tryd.underlying5 0 cap 9 Tryd.underlying9
    | some x =>
      rw [run_convert_bytes_string (P := Tryd.prog) w 22 9 5 (some x) 0 cap Tryd.underlying22 Tryd.underlying5 Tryd.underlying9]
      exact run_bytesToString w x 0 cap [] (by simpa using run_loadCells_list (P := Tryd.prog) w x [] (by simp))
  · exact run_convert_bytes_arg (P := Tryd.prog) w 22 5 Tryd.underlying22 Tryd.underlying5 b off xs.length cap xs rfl hcell 9 Tryd.underlying9

theorem strOfNums_inj {xs ys : List Int} (hx : ∀ x ∈ xs, 0 ≤ x ∧ x < 256) (hy : ∀ x ∈ ys, 0 ≤ x ∧ x < 256) : ((strOfNums xs).toList == (strOfNums ys).toList) = decide (xs = ys) := by
  rw [ByteArray.toList_eq, ByteArray.toList_eq, Bool.eq_iff_iff, beq_iff_eq, decide_eq_true_iff]
  constructor
  · intro h
    have h1 := h
    simp only [strOfNums_data] at h1
    have h2 := congrArg (List.map fun u : UInt8 => (u.toNat : Int)) h1
    simp only [List.map_map] at h2
    have key : ∀ l : List Int, (∀ x ∈ l, 0 ≤ x ∧ x < 256) → l.map ((fun u : UInt8 => (u.toNat : Int)) ∘ fun n => UInt8.ofNat n.toNat) = l := by
      intro l hl
      conv => rhs; rw [← List.map_id l]
      apply List.map_congr_left
      intro x hxm
      have := hl x hxm
      simp only [Function.comp, UInt8.toNat_ofNat', id]
      omega
    rw [key xs hx, key ys hy] at h2
    exact h2
  · rintro rfl; rfl

theorem equal_any (v1 v2 : Value) (xs ys : List Int) (w : World) (h1 : Bytes w v1 xs) (h2 : Bytes w v2 ys) :
    Calls Tryd.prog 7 #[v1, v2] w fun e w' => e = .returned (.bool (decide (xs = ys))) ∧ w = w' := by
  have c1 := conv_bytes h1
  have c2 := conv_bytes h2
  have hs := Lib.hid (strOfNums_inj h1.2.1 h2.2.1)
  go_enter Tryd.func7, Tryd.ntmps7
  go_wp2
  go_ret
  exact ⟨ret_bool hs.out, rfl⟩


end Go.Proofs.YtiokikiombhcnaaDoor
