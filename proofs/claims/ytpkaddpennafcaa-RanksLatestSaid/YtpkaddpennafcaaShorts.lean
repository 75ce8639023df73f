/- A slice of uint16, as an argument. -/
import Derived.Test.YtpkaddpennafcaaNums
namespace Go.Proofs.Ytpkaddpennafcaa
set_option linter.unusedVariables false
set_option linter.unusedSimpArgs false
open Go.ChangeShapes Go.WideShapes Go.ChangeAt Go.RowKit

/-- A slice of uint16. -/
def Shorts (w : World) (v : Value) (xs : List Nat) : Prop := SliceR w v xs.length 1 (fun i cs => ∃ n, xs[i]? = some n ∧ cs = [Value.int .u16 (n : Nat)] ∧ n < 65536) ∧ xs.length * 2 ≤ 140737488351232

theorem wfU16' {n : Int} (h : (Lit.int .u16 n).wf = true) : 0 ≤ n ∧ n < 65536 := by
  have h1 : IntKind.u16.min = 0 := rfl
  have h2 : IntKind.u16.max = 65535 := rfl
  simp only [Lit.wf, Bool.and_eq_true, decide_eq_true_eq] at h
  omega
theorem bytesU16' : Try.prog.bytesOf 48 = 2 := by kernel_rfl
theorem cellsU16' : Try.prog.cellsOf 48 = 1 := by kernel_rfl
set_option maxRecDepth 100000 in
theorem open_shorts {H : Type} {enc : TypeId × Value → H} {W : World} {base b' : Nat} {v : Value} {d : DataW H} {p : List MemPlace} {ts : List TypeId} {ds : List (DataW H)} {j : Nat}
    (hv : Value.okWide Try.prog W .any b' 45 v) (h : DataW.Trod enc Try.prog W base (fun _ => true) true 45 v d p)
    (hsz : (DataW.weightsEach Try.prog ts ds).all (· ≤ reachBytes) = true) (hj : ts[j]? = some 45) (hd : ds[j]? = some d) : ∃ xs, Shorts W v xs := by
  obtain ⟨a, len, cap, hvv⟩ := okWide_slice Try.underlying45 hv
  have h := Rd.of_arg h hsz hj hd
  rw [cells_one hvv] at h
  obtain ⟨n, cap, ⟨a, rfl⟩, hl, hw, hs⟩ := h.sliceR Try.underlying45 cellsU16' (by omega)
  rw [bytesU16'] at hw
  have hs2 := hs.mono (R' := fun _ cs => ∃ n : Nat, cs = [Value.int .u16 (n : Nat)] ∧ n < 65536) (fun i cs _ _ hr => by
    obtain ⟨x, h1, h2⟩ := hr.int Try.underlying48
    have h3 := wfU16' h2
    obtain ⟨n, rfl⟩ := Int.eq_ofNat_of_zero_le h3.1
    exact ⟨n, h1, by omega⟩)
  obtain ⟨l, hlen, hs3⟩ := hs2.choose
  subst hlen
  exact ⟨l, hs3, by simp only [reachBytes] at hw; omega⟩

theorem Shorts.form {w : World} {v : Value} {xs : List Nat} (h : Shorts w v xs) : ∃ a cap, v = .slice a xs.length cap := by
  rcases h.1 with ⟨a, cap, h1, h2⟩ | ⟨b, off, cap, rfl, _⟩
  · exact ⟨a, cap, by rw [h1, h2]⟩
  · exact ⟨_, _, rfl⟩
theorem Shorts.at {w : World} {v : Value} {xs : List Nat} (h : Shorts w v xs) (i : Nat) (hi : i < xs.length) :
    ∃ b off cap, v = .slice (some ⟨b, off, none⟩) xs.length cap ∧ b < w.heap.size ∧ w.cell? ⟨b, off + i, none⟩ = some (.int .u16 ((xs[i] : Nat) : Int)) ∧ xs[i] < 65536 := by
  rcases h.1 with ⟨a, cap, h1, h2⟩ | ⟨b, off, cap, rfl, _, _, hb, h5⟩
  · omega
  · obtain ⟨cs, _, ⟨n, hn, rfl, hlt⟩, hc⟩ := h5 i hi
    have := hc 0 (by omega)
    rw [Nat.mul_one, Nat.add_zero] at this
    rw [List.getElem?_eq_getElem hi] at hn
    simp at hn
    refine ⟨b, off, cap, rfl, hb, ?_, by rw [hn]; exact hlt⟩
    rw [this]
    simp [hn]

end Go.Proofs.Ytpkaddpennafcaa
