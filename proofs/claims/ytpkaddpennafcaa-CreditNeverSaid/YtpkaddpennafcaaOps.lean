/- A slice of Op (braidworklaw16), as an argument. -/
import Derived.Test.YtpkaddpennafcaaNums
import Derived.Test.YtpkaddpennafcaaCreditR2
namespace Go.Proofs.Ytpkaddpennafcaa
set_option linter.unusedVariables false
set_option linter.unusedSimpArgs false
open Go.ChangeShapes Go.WideShapes Go.ChangeAt Go.RowKit

structure OpV where
  what : Int
  free : Int
  life : Nat
  to : Nat
  n : Nat
def OpV.cells (o : OpV) : List Value := [.int .i64 o.what, .int .i64 o.free, .int .u64 o.life, .int .u64 o.to, .int .u64 o.n]
def OpV.okay (o : OpV) : Prop := (-9223372036854775808 ≤ o.what ∧ o.what < 9223372036854775808) ∧ (-9223372036854775808 ≤ o.free ∧ o.free < 9223372036854775808) ∧ o.life < 18446744073709551616 ∧ o.to < 18446744073709551616 ∧ o.n < 18446744073709551616
def Ops (w : World) (v : Value) (l : List OpV) : Prop := SliceR w v l.length 5 (fun i cs => ∃ o, l[i]? = some o ∧ cs = o.cells ∧ o.okay) ∧ l.length * 40 ≤ 140737488351232

theorem wfI64 {n : Int} (h : (Lit.int .i64 n).wf = true) : -9223372036854775808 ≤ n ∧ n < 9223372036854775808 := by
  have h1 : IntKind.i64.min = -9223372036854775808 := rfl
  have h2 : IntKind.i64.max = 9223372036854775807 := rfl
  simp only [Lit.wf, Bool.and_eq_true, decide_eq_true_eq] at h
  omega
theorem bytesOp : Try.prog.bytesOf 70 = 40 := by kernel_rfl
theorem cellsOp : Try.prog.cellsOf 70 = 5 := by kernel_rfl
theorem cellsInt' : Try.prog.cellsOf 3 = 1 := by kernel_rfl
set_option maxRecDepth 100000 in
theorem open_ops {H : Type} {enc : TypeId × Value → H} {W : World} {base b' : Nat} {v : Value} {d : DataW H} {p : List MemPlace} {ts : List TypeId} {ds : List (DataW H)} {j : Nat}
    (hv : Value.okWide Try.prog W .any b' 56 v) (h : DataW.Trod enc Try.prog W base (fun _ => true) true 56 v d p)
    (hsz : (DataW.weightsEach Try.prog ts ds).all (· ≤ reachBytes) = true) (hj : ts[j]? = some 56) (hd : ds[j]? = some d) : ∃ xs, Ops W v xs := by
  obtain ⟨a, len, cap, hvv⟩ := okWide_slice Try.underlying56 hv
  have h := Rd.of_arg h hsz hj hd
  rw [cells_one hvv] at h
  obtain ⟨n, cap, ⟨a, rfl⟩, hl, hw, hs⟩ := h.sliceR Try.underlying56 cellsOp (by omega)
  rw [bytesOp] at hw
  have hs2 := hs.mono (R' := fun _ cs => ∃ o : OpV, cs = o.cells ∧ o.okay) (fun i cs _ hc hr => by
    obtain ⟨_, hf⟩ := hr.fields Try.underlying70
    match cs, hc with
    | [c0, c1, c2, c3, c4], _ =>
    have f0 : Rd enc Try.prog W _ 3 ((([c0, c1, c2, c3, c4] : List Value).drop 0).take (Try.prog.cellsOf 3)) := hf 0 _ rfl
    have f1 : Rd enc Try.prog W _ 3 ((([c0, c1, c2, c3, c4] : List Value).drop 1).take (Try.prog.cellsOf 3)) := hf 1 _ rfl
    have f2 : Rd enc Try.prog W _ 22 ((([c0, c1, c2, c3, c4] : List Value).drop 2).take (Try.prog.cellsOf 22)) := hf 2 _ rfl
    have f3 : Rd enc Try.prog W _ 22 ((([c0, c1, c2, c3, c4] : List Value).drop 3).take (Try.prog.cellsOf 22)) := hf 3 _ rfl
    have f4 : Rd enc Try.prog W _ 22 ((([c0, c1, c2, c3, c4] : List Value).drop 4).take (Try.prog.cellsOf 22)) := hf 4 _ rfl
    simp only [cellsInt', cellsU64, List.drop_zero, List.drop_succ_cons, List.take_succ_cons, List.take_zero] at f0 f1 f2 f3 f4
    obtain ⟨x0, h0, w0⟩ := f0.int Try.underlying3
    obtain ⟨x1, h1, w1⟩ := f1.int Try.underlying3
    obtain ⟨x2, h2, w2⟩ := f2.int Try.underlying22
    obtain ⟨x3, h3, w3⟩ := f3.int Try.underlying22
    obtain ⟨x4, h4, w4⟩ := f4.int Try.underlying22
    simp only [List.cons.injEq, and_true] at h0 h1 h2 h3 h4
    subst h0 h1 h2 h3 h4
    have b2 := wf64' w2
    have b3 := wf64' w3
    have b4 := wf64' w4
    obtain ⟨n2, rfl⟩ := Int.eq_ofNat_of_zero_le b2.1
    obtain ⟨n3, rfl⟩ := Int.eq_ofNat_of_zero_le b3.1
    obtain ⟨n4, rfl⟩ := Int.eq_ofNat_of_zero_le b4.1
    exact ⟨⟨x0, x1, n2, n3, n4⟩, rfl, wfI64 w0, wfI64 w1, by have := b2.2; show n2 < _; omega, by have := b3.2; show n3 < _; omega, by have := b4.2; show n4 < _; omega⟩)
  obtain ⟨l, hlen, hs3⟩ := hs2.choose
  subst hlen
  exact ⟨l, hs3, by simp only [reachBytes] at hw; omega⟩

theorem Ops.form {w : World} {v : Value} {xs : List OpV} (h : Ops w v xs) : ∃ a cap, v = .slice a xs.length cap := by
  rcases h.1 with ⟨a, cap, h1, h2⟩ | ⟨b, off, cap, rfl, _⟩
  · exact ⟨a, cap, by rw [h1, h2]⟩
  · exact ⟨_, _, rfl⟩
theorem Ops.at {w : World} {v : Value} {xs : List OpV} (h : Ops w v xs) (i : Nat) (hi : i < xs.length) :
    ∃ b off cap, v = .slice (some ⟨b, off, none⟩) xs.length cap ∧ b < w.heap.size ∧ (∀ j, j < 5 → w.cell? ⟨b, off + i * 5 + j, none⟩ = xs[i].cells[j]?) ∧ xs[i].okay := by
  rcases h.1 with ⟨a, cap, h1, h2⟩ | ⟨b, off, cap, rfl, _, _, hb, h5⟩
  · omega
  · obtain ⟨cs, _, ⟨n, hn, rfl, hlt⟩, hc⟩ := h5 i hi
    rw [List.getElem?_eq_getElem hi] at hn
    simp at hn
    subst hn
    exact ⟨b, off, cap, rfl, hb, hc, hlt⟩

end Go.Proofs.Ytpkaddpennafcaa
