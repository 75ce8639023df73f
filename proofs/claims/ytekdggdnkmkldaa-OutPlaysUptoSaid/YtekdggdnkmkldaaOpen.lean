/- How arguments read: bytes. -/
import Derived.Test.YtekdggdnkmkldaaFacts
import Derived.ProofKit
import Derived.OpenShut
import Derived.SizedLaws
import Derived.ChangeOld
namespace Go.Proofs.Ytekdggdnkmkldaa
set_option linter.unusedVariables false
set_option linter.unusedSimpArgs false
set_option maxRecDepth 1500
open Go.ChangeShapes Go.WideShapes Go.ChangeAt Go.RowKit

theorem small_u8 {n : Int} (h : (Lit.int .u8 n).wf = true) : 0 ≤ n ∧ n < 256 := by
  have h1 : IntKind.u8.min = 0 := rfl
  have h2 : IntKind.u8.max = 255 := rfl
  simp only [Lit.wf, Bool.and_eq_true, decide_eq_true_eq] at h
  omega

set_option maxRecDepth 100000 in
theorem open_bytes {H : Type} {enc : TypeId × Value → H} {W : World} {base b' : Nat} {v : Value} {d : DataW H} {p : List MemPlace} {ts : List TypeId} {ds : List (DataW H)} {j : Nat}
    (hv : Value.okWide Try.prog W .any b' 41 v) (h : DataW.Trod enc Try.prog W base (fun _ => true) true 41 v d p)
    (hsz : (DataW.weightsEach Try.prog ts ds).all (· ≤ reachBytes) = true) (hj : ts[j]? = some 41) (hd : ds[j]? = some d) : ∃ xs, Bytes W v xs := by
  obtain ⟨a, len, cap, rfl⟩ := okWide_slice Try.underlying41 hv
  have lt0 : ∀ x ∈ p, x.block < W.heap.size := by obtain ⟨m, hm⟩ := h; exact DataW.trod_lt m _ _ _ hm
  obtain ⟨fuel, hf⟩ := h
  rcases open_ints Try.underlying41 Try.underlying5 (by kernel_rfl) hf with ⟨hcs, _⟩ | ⟨x, l, c, zs, hcs, _, hl, hm, hz, hx, hcell, hwz⟩
  · simp [Value.cells] at hcs
    obtain ⟨rfl, rfl, rfl⟩ := hcs
    exact ⟨[], Bytes.nil W⟩
  · simp [Value.cells] at hcs
    obtain ⟨rfl, rfl, rfl⟩ := hcs
    have hz' : zs.length = cap := by simpa using hz
    simp only [Prod.mk.injEq] at hx
    obtain ⟨rfl, rfl⟩ := hx
    have hw := sized_slice hsz hj hd Try.underlying41
    have hb1 : Try.prog.bytesOf 5 = 1 := by kernel_rfl
    rw [hb1] at hw
    simp only [lits, List.length_map, List.length_take, List.length_drop, reachBytes] at hw
    obtain ⟨b, off, spot⟩ := x
    by_cases hc0 : len = 0
    · subst hc0
      exact ⟨[], .inl ⟨some ⟨b, off, spot⟩, cap, rfl, rfl, rfl⟩, by simp, by simp⟩
    · have hc := hcell 0 (by omega)
      have hspot : spot = none := by simpa [Addr.add] using World.cell?_spot hc
      subst hspot
      have hblk := World.block_lt_of_cell? _ _ hc
      refine ⟨zs.take len, .inr ⟨b, off, cap, by rw [List.length_take, hz']; congr; omega, by rw [List.length_take]; omega, hm, by simpa [Addr.add] using hblk, fun i hi => ?_⟩, fun x hx => small_u8 (hwz x (List.mem_of_mem_take hx)), by rw [List.length_take]; omega⟩
      have hi' : i < len := by simp at hi; omega
      have := hcell i (by omega)
      have hplain : (⟨b, off, none⟩ : Addr).add i = ⟨b, off + i, none⟩ := by unfold Addr.add; split <;> simp_all
      rw [hplain] at this
      rw [this]
      simp only [List.getD, List.getElem?_map, List.getElem?_take, if_pos hi', List.getElem?_eq_getElem (show i < zs.length by omega), Option.map_some, Option.getD_some]

end Go.Proofs.Ytekdggdnkmkldaa
