/- A slice of uint64, as an argument. -/
import Derived.Test.YtekdggdnkmkldaaRead
namespace Go.Proofs.Ytekdggdnkmkldaa
set_option linter.unusedVariables false
set_option linter.unusedSimpArgs false
set_option maxRecDepth 1500
open Go.ChangeShapes Go.WideShapes Go.ChangeAt Go.RowKit

/-- A slice of uint64. -/
def Nums (w : World) (v : Value) (xs : List Nat) : Prop := SliceR w v xs.length 1 (fun i cs => ∃ n, xs[i]? = some n ∧ cs = [Value.int .u64 (n : Nat)] ∧ n < 18446744073709551616) ∧ xs.length * 8 ≤ 140737488351232

theorem wf64' {n : Int} (h : (Lit.int .u64 n).wf = true) : 0 ≤ n ∧ n < 18446744073709551616 := by
  have h1 : IntKind.u64.min = 0 := rfl
  have h2 : IntKind.u64.max = 18446744073709551615 := rfl
  simp only [Lit.wf, Bool.and_eq_true, decide_eq_true_eq] at h
  omega
theorem bytesU64 : Try.prog.bytesOf 27 = 8 := by kernel_rfl
theorem cellsU64 : Try.prog.cellsOf 27 = 1 := by kernel_rfl
theorem Nums.form {w : World} {v : Value} {xs : List Nat} (h : Nums w v xs) : ∃ a cap, v = .slice a xs.length cap := by
  rcases h.1 with ⟨a, cap, h1, h2⟩ | ⟨b, off, cap, rfl, _⟩
  · exact ⟨a, cap, by rw [h1, h2]⟩
  · exact ⟨_, _, rfl⟩
theorem Nums.at {w : World} {v : Value} {xs : List Nat} (h : Nums w v xs) (i : Nat) (hi : i < xs.length) :
    ∃ b off cap, v = .slice (some ⟨b, off, none⟩) xs.length cap ∧ b < w.heap.size ∧ w.cell? ⟨b, off + i, none⟩ = some (.int .u64 ((xs[i] : Nat) : Int)) ∧ xs[i] < 18446744073709551616 := by
  rcases h.1 with ⟨a, cap, h1, h2⟩ | ⟨b, off, cap, rfl, _, _, hb, h5⟩
  · omega
  · obtain ⟨cs, _, ⟨n, hn, rfl, hlt⟩, hc⟩ := h5 i hi
    have := hc 0 (by omega)
    rw [Nat.mul_one, Nat.add_zero] at this
    rw [List.getElem?_eq_getElem hi] at hn
    simp at hn
    refine ⟨b, off, cap, rfl, hb, ?_, by rw [hn]; exact hlt⟩
    rw [this]
    simp [hn]

end Go.Proofs.Ytekdggdnkmkldaa
