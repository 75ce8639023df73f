/- How a Telling, a slice of them, ranks read. -/
import Derived.Test.YtpkaddpennafcaaRanksB
namespace Go.Proofs.Ytpkaddpennafcaa
set_option linter.unusedVariables false
set_option linter.unusedSimpArgs false
open Go.ChangeShapes Go.WideShapes Go.ChangeAt Go.RowKit

theorem wfI64' {n : Int} (h : (Lit.int .i64 n).wf = true) : -9223372036854775808 ≤ n ∧ n < 9223372036854775808 := by
  have h1 : IntKind.i64.min = -9223372036854775808 := rfl
  have h2 : IntKind.i64.max = 9223372036854775807 := rfl
  simp only [Lit.wf, Bool.and_eq_true, decide_eq_true_eq] at h
  omega
theorem bytesRank : Try.prog.bytesOf 39 = 16 := by kernel_rfl
theorem cellsRank : Try.prog.cellsOf 39 = 2 := by kernel_rfl
theorem cellsRanks : Try.prog.cellsOf 23 = 1 := by kernel_rfl
theorem cellsTelling : Try.prog.cellsOf 25 = 4 := by kernel_rfl
theorem bytesTelling : Try.prog.bytesOf 25 = 48 := by kernel_rfl
theorem cellsIntR : Try.prog.cellsOf 3 = 1 := by kernel_rfl

set_option maxRecDepth 100000 in
theorem Rd.rs {H : Type} {enc : TypeId × Value → H} {w : World} {base : Nat} {v : Value} (h : Rd enc Try.prog w base 23 [v]) : ∃ l, Rs w v l := by
  obtain ⟨n, cap, ⟨a, rfl⟩, hl, hw, hs⟩ := h.sliceR Try.underlying23 cellsRank (by omega)
  rw [bytesRank] at hw
  have hs2 := hs.mono (R' := fun _ cs => ∃ r : RankA, cs = r.cells ∧ r.okay) (fun i cs _ hc hr => by
    obtain ⟨_, hf⟩ := hr.fields Try.underlying39
    match cs, hc with
    | [c0, c1], _ =>
    have f0 : Rd enc Try.prog w _ 22 ((([c0, c1] : List Value).drop 0).take (Try.prog.cellsOf 22)) := hf 0 _ rfl
    have f1 : Rd enc Try.prog w _ 3 ((([c0, c1] : List Value).drop 1).take (Try.prog.cellsOf 3)) := hf 1 _ rfl
    simp only [cellsIntR, cellsU64, List.drop_zero, List.drop_succ_cons, List.take_succ_cons, List.take_zero] at f0 f1
    obtain ⟨x0, h0, w0⟩ := f0.int Try.underlying22
    obtain ⟨x1, h1, w1⟩ := f1.int Try.underlying3
    simp only [List.cons.injEq, and_true] at h0 h1
    subst h0 h1
    have b0 := wf64' w0
    have b1 := wfI64' w1
    obtain ⟨n0, rfl⟩ := Int.eq_ofNat_of_zero_le b0.1
    exact ⟨⟨n0, x1⟩, rfl, by have := b0.2; show n0 < _; omega, b1⟩)
  obtain ⟨l, hlen, hs3⟩ := hs2.choose
  subst hlen
  exact ⟨l, hs3, by simp only [reachBytes] at hw; omega⟩

structure TellV where
  life : Nat
  count : Nat
  base : Nat
  l : List RankA
def TellC (w : World) (o : TellV) (cs : List Value) : Prop := ∃ u, cs = [.int .u64 o.life, .int .u64 o.count, .int .u64 o.base, u] ∧ Rs w u o.l ∧ o.life < 18446744073709551616 ∧ o.count < 18446744073709551616 ∧ o.base < 18446744073709551616
set_option maxRecDepth 100000 in
theorem Rd.tell {H : Type} {enc : TypeId × Value → H} {w : World} {base : Nat} {cs : List Value} (h : Rd enc Try.prog w base 25 cs) : ∃ o, TellC w o cs := by
  obtain ⟨hc, hf⟩ := h.fields Try.underlying25
  rw [cellsTelling] at hc
  match cs, hc with
  | [c0, c1, c2, c3], _ =>
  have f0 : Rd enc Try.prog w _ 22 ((([c0, c1, c2, c3] : List Value).drop 0).take (Try.prog.cellsOf 22)) := hf 0 _ rfl
  have f1 : Rd enc Try.prog w _ 22 ((([c0, c1, c2, c3] : List Value).drop 1).take (Try.prog.cellsOf 22)) := hf 1 _ rfl
  have f2 : Rd enc Try.prog w _ 22 ((([c0, c1, c2, c3] : List Value).drop 2).take (Try.prog.cellsOf 22)) := hf 2 _ rfl
  have f3 : Rd enc Try.prog w _ 23 ((([c0, c1, c2, c3] : List Value).drop 3).take (Try.prog.cellsOf 23)) := hf 3 _ rfl
  simp only [cellsU64, cellsRanks, List.drop_zero, List.drop_succ_cons, List.take_succ_cons, List.take_zero] at f0 f1 f2 f3
  obtain ⟨x0, h0, w0⟩ := f0.int Try.underlying22
  obtain ⟨x1, h1, w1⟩ := f1.int Try.underlying22
  obtain ⟨x2, h2, w2⟩ := f2.int Try.underlying22
  obtain ⟨l, hl⟩ := f3.rs
  simp only [List.cons.injEq, and_true] at h0 h1 h2
  subst h0 h1 h2
  have b0 := wf64' w0
  have b1 := wf64' w1
  have b2 := wf64' w2
  obtain ⟨n0, rfl⟩ := Int.eq_ofNat_of_zero_le b0.1
  obtain ⟨n1, rfl⟩ := Int.eq_ofNat_of_zero_le b1.1
  obtain ⟨n2, rfl⟩ := Int.eq_ofNat_of_zero_le b2.1
  exact ⟨⟨n0, n1, n2, l⟩, c3, rfl, hl, by have := b0.2; show n0 < _; omega, by have := b1.2; show n1 < _; omega, by have := b2.2; show n2 < _; omega⟩

/-- A Telling by value. -/
def Tell (w : World) (v : Value) (o : TellV) : Prop := ∃ u, v = .agg #[.int .u64 o.life, .int .u64 o.count, .int .u64 o.base, u] ∧ Rs w u o.l ∧ o.life < 18446744073709551616 ∧ o.count < 18446744073709551616 ∧ o.base < 18446744073709551616
set_option maxRecDepth 100000 in
theorem open_tell {H : Type} {enc : TypeId × Value → H} {W : World} {base b' : Nat} {v : Value} {d : DataW H} {p : List MemPlace} {ts : List TypeId} {ds : List (DataW H)} {j : Nat}
    (hv : Value.okWide Try.prog W .any b' 25 v) (h : DataW.Trod enc Try.prog W base (fun _ => true) true 25 v d p)
    (hsz : (DataW.weightsEach Try.prog ts ds).all (· ≤ reachBytes) = true) (hj : ts[j]? = some 25) (hd : ds[j]? = some d) : ∃ o, Tell W v o := by
  obtain ⟨cs, rfl, hcs⟩ := okWide_struct Try.underlying25 hv
  have h := Rd.of_arg h hsz hj hd
  obtain ⟨o, u, h1, h2⟩ := h.tell
  refine ⟨o, u, ?_, h2⟩
  have h3 : (Value.agg cs).cells = cs := rfl
  rw [h3] at h1
  congr 1
  exact Array.toList_inj.1 h1

/-- A slice of Tellings. -/
def Tells (w : World) (v : Value) (l : List TellV) : Prop := SliceR w v l.length 4 (fun i cs => ∃ o, l[i]? = some o ∧ TellC w o cs) ∧ l.length * 48 ≤ 140737488351232
set_option maxRecDepth 100000 in
theorem open_tells {H : Type} {enc : TypeId × Value → H} {W : World} {base b' : Nat} {v : Value} {d : DataW H} {p : List MemPlace} {ts : List TypeId} {ds : List (DataW H)} {j : Nat}
    (hv : Value.okWide Try.prog W .any b' 34 v) (h : DataW.Trod enc Try.prog W base (fun _ => true) true 34 v d p)
    (hsz : (DataW.weightsEach Try.prog ts ds).all (· ≤ reachBytes) = true) (hj : ts[j]? = some 34) (hd : ds[j]? = some d) : ∃ l, Tells W v l := by
  obtain ⟨a, len, cap, hvv⟩ := okWide_slice Try.underlying34 hv
  have h := Rd.of_arg h hsz hj hd
  rw [cells_one hvv] at h
  obtain ⟨n, cap, ⟨a, rfl⟩, hl, hw, hs⟩ := h.sliceR Try.underlying34 cellsTelling (by omega)
  rw [bytesTelling] at hw
  have hs2 := hs.mono (R' := fun _ cs => ∃ o, TellC W o cs) (fun i cs _ _ hr => hr.tell)
  obtain ⟨l, hlen, hs3⟩ := hs2.choose
  subst hlen
  exact ⟨l, hs3, by simp only [reachBytes] at hw; omega⟩

end Go.Proofs.Ytpkaddpennafcaa
