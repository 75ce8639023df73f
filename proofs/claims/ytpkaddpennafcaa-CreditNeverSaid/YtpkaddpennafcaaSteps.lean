/- A slice of Step (braidworklaw16), as an argument. -/
import Derived.Test.YtpkaddpennafcaaOps
namespace Go.Proofs.Ytpkaddpennafcaa
set_option linter.unusedVariables false
set_option linter.unusedSimpArgs false
open Go.ChangeShapes Go.WideShapes Go.ChangeAt Go.RowKit

structure StepV where
  what : Int
  free : Int
  pos : Nat
  stays : Bool
def StepV.cells (o : StepV) : List Value := [.int .i64 o.what, .int .i64 o.free, .int .u16 o.pos, .bool o.stays]
def StepV.okay (o : StepV) : Prop := (-9223372036854775808 ≤ o.what ∧ o.what < 9223372036854775808) ∧ (-9223372036854775808 ≤ o.free ∧ o.free < 9223372036854775808) ∧ o.pos < 65536
def Steps (w : World) (v : Value) (l : List StepV) : Prop := SliceR w v l.length 4 (fun i cs => ∃ o, l[i]? = some o ∧ cs = o.cells ∧ o.okay) ∧ l.length * 24 ≤ 140737488351232

theorem wf16 {n : Int} (h : (Lit.int .u16 n).wf = true) : 0 ≤ n ∧ n < 65536 := by
  have h1 : IntKind.u16.min = 0 := rfl
  have h2 : IntKind.u16.max = 65535 := rfl
  simp only [Lit.wf, Bool.and_eq_true, decide_eq_true_eq] at h
  omega
theorem bytesStep : Try.prog.bytesOf 92 = 24 := by kernel_rfl
theorem cellsStep : Try.prog.cellsOf 92 = 4 := by kernel_rfl
theorem cellsBool' : Try.prog.cellsOf 4 = 1 := by kernel_rfl
theorem cellsU16 : Try.prog.cellsOf 48 = 1 := by kernel_rfl
set_option maxRecDepth 100000 in
theorem open_steps {H : Type} {enc : TypeId × Value → H} {W : World} {base b' : Nat} {v : Value} {d : DataW H} {p : List MemPlace} {ts : List TypeId} {ds : List (DataW H)} {j : Nat}
    (hv : Value.okWide Try.prog W .any b' 86 v) (h : DataW.Trod enc Try.prog W base (fun _ => true) true 86 v d p)
    (hsz : (DataW.weightsEach Try.prog ts ds).all (· ≤ reachBytes) = true) (hj : ts[j]? = some 86) (hd : ds[j]? = some d) : ∃ xs, Steps W v xs := by
  obtain ⟨a, len, cap, hvv⟩ := okWide_slice Try.underlying86 hv
  have h := Rd.of_arg h hsz hj hd
  rw [cells_one hvv] at h
  obtain ⟨n, cap, ⟨a, rfl⟩, hl, hw, hs⟩ := h.sliceR Try.underlying86 cellsStep (by omega)
  rw [bytesStep] at hw
  have hs2 := hs.mono (R' := fun _ cs => ∃ o : StepV, cs = o.cells ∧ o.okay) (fun i cs _ hc hr => by
    obtain ⟨_, hf⟩ := hr.fields Try.underlying92
    match cs, hc with
    | [c0, c1, c2, c3], _ =>
    have f0 : Rd enc Try.prog W _ 3 ((([c0, c1, c2, c3] : List Value).drop 0).take (Try.prog.cellsOf 3)) := hf 0 _ rfl
    have f1 : Rd enc Try.prog W _ 3 ((([c0, c1, c2, c3] : List Value).drop 1).take (Try.prog.cellsOf 3)) := hf 1 _ rfl
    have f2 : Rd enc Try.prog W _ 48 ((([c0, c1, c2, c3] : List Value).drop 2).take (Try.prog.cellsOf 48)) := hf 2 _ rfl
    have f3 : Rd enc Try.prog W _ 4 ((([c0, c1, c2, c3] : List Value).drop 3).take (Try.prog.cellsOf 4)) := hf 3 _ rfl
    simp only [cellsInt', cellsU16, cellsBool', List.drop_zero, List.drop_succ_cons, List.take_succ_cons, List.take_zero] at f0 f1 f2 f3
    obtain ⟨x0, h0, w0⟩ := f0.int Try.underlying3
    obtain ⟨x1, h1, w1⟩ := f1.int Try.underlying3
    obtain ⟨x2, h2, w2⟩ := f2.int Try.underlying48
    obtain ⟨x3, h3⟩ := f3.bool Try.underlying4
    simp only [List.cons.injEq, and_true] at h0 h1 h2 h3
    subst h0 h1 h2 h3
    have b2 := wf16 w2
    obtain ⟨n2, rfl⟩ := Int.eq_ofNat_of_zero_le b2.1
    exact ⟨⟨x0, x1, n2, x3⟩, rfl, wfI64 w0, wfI64 w1, by have := b2.2; show n2 < _; omega⟩)
  obtain ⟨l, hlen, hs3⟩ := hs2.choose
  subst hlen
  exact ⟨l, hs3, by simp only [reachBytes] at hw; omega⟩

theorem Steps.form {w : World} {v : Value} {xs : List StepV} (h : Steps w v xs) : ∃ a cap, v = .slice a xs.length cap := by
  rcases h.1 with ⟨a, cap, h1, h2⟩ | ⟨b, off, cap, rfl, _⟩
  · exact ⟨a, cap, by rw [h1, h2]⟩
  · exact ⟨_, _, rfl⟩
theorem Steps.at {w : World} {v : Value} {xs : List StepV} (h : Steps w v xs) (i : Nat) (hi : i < xs.length) :
    ∃ b off cap, v = .slice (some ⟨b, off, none⟩) xs.length cap ∧ b < w.heap.size ∧ (∀ j, j < 4 → w.cell? ⟨b, off + i * 4 + j, none⟩ = xs[i].cells[j]?) ∧ xs[i].okay := by
  rcases h.1 with ⟨a, cap, h1, h2⟩ | ⟨b, off, cap, rfl, _, _, hb, h5⟩
  · omega
  · obtain ⟨cs, _, ⟨n, hn, rfl, hlt⟩, hc⟩ := h5 i hi
    rw [List.getElem?_eq_getElem hi] at hn
    simp at hn
    subst hn
    exact ⟨b, off, cap, rfl, hb, hc, hlt⟩

end Go.Proofs.Ytpkaddpennafcaa
