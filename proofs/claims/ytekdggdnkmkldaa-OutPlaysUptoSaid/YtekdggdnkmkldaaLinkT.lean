/- link: how an Act, a slice of them read. -/
import Derived.Test.YtekdggdnkmkldaaLinkJ
import Derived.Test.YtekdggdnkmkldaaRead
import Derived.Test.YtekdggdnkmkldaaNums
namespace Go.Proofs.Ytekdggdnkmkldaa
set_option linter.unusedVariables false
set_option linter.unusedSimpArgs false
set_option maxRecDepth 1500
open Go.ChangeShapes Go.WideShapes Go.ChangeAt Go.RowKit

theorem wfI64t {n : Int} (h : (Lit.int .i64 n).wf = true) : -9223372036854775808 ≤ n ∧ n < 9223372036854775808 := by
  have h1 : IntKind.i64.min = -9223372036854775808 := rfl
  have h2 : IntKind.i64.max = 9223372036854775807 := rfl
  simp only [Lit.wf, Bool.and_eq_true, decide_eq_true_eq] at h
  omega
theorem bytesRankT : Try.prog.bytesOf 62 = 16 := by kernel_rfl
theorem cellsRankT : Try.prog.cellsOf 62 = 2 := by kernel_rfl
theorem cellsRanksT : Try.prog.cellsOf 60 = 1 := by kernel_rfl
theorem bytesRanksT : Try.prog.bytesOf 60 = 24 := by kernel_rfl
theorem cellsRankssT : Try.prog.cellsOf 34 = 1 := by kernel_rfl
theorem cellsActT : Try.prog.cellsOf 70 = 10 := by kernel_rfl
theorem bytesActT : Try.prog.bytesOf 70 = 128 := by kernel_rfl
theorem cellsIntT : Try.prog.cellsOf 3 = 1 := by kernel_rfl

set_option maxRecDepth 100000 in
theorem Rd.rsT {H : Type} {enc : TypeId × Value → H} {w : World} {base : Nat} {v : Value} (h : Rd enc Try.prog w base 60 [v]) : ∃ l, Rs w v l := by
  obtain ⟨n, cap, ⟨a, rfl⟩, hl, hw, hs⟩ := h.sliceR Try.underlying60 cellsRankT (by omega)
  rw [bytesRankT] at hw
  have hs2 := hs.mono (R' := fun _ cs => ∃ r : RankA, cs = r.cells ∧ r.okay) (fun i cs _ hc hr => by
    obtain ⟨_, hf⟩ := hr.fields Try.underlying62
    match cs, hc with
    | [c0, c1], _ =>
    have f0 : Rd enc Try.prog w _ 27 ((([c0, c1] : List Value).drop 0).take (Try.prog.cellsOf 27)) := hf 0 _ rfl
    have f1 : Rd enc Try.prog w _ 3 ((([c0, c1] : List Value).drop 1).take (Try.prog.cellsOf 3)) := hf 1 _ rfl
    simp only [cellsIntT, cellsU64, List.drop_zero, List.drop_succ_cons, List.take_succ_cons, List.take_zero] at f0 f1
    obtain ⟨x0, h0, w0⟩ := f0.int Try.underlying27
    obtain ⟨x1, h1, w1⟩ := f1.int Try.underlying3
    simp only [List.cons.injEq, and_true] at h0 h1
    subst h0 h1
    have b0 := wf64' w0
    have b1 := wfI64t w1
    obtain ⟨n0, rfl⟩ := Int.eq_ofNat_of_zero_le b0.1
    exact ⟨⟨n0, x1⟩, rfl, by have := b0.2; show n0 < _; omega, b1⟩)
  obtain ⟨l, hlen, hs3⟩ := hs2.choose
  subst hlen
  exact ⟨l, hs3, by simp only [reachBytes] at hw; omega⟩
set_option maxRecDepth 100000 in
theorem Rd.rss {H : Type} {enc : TypeId × Value → H} {w : World} {base : Nat} {v : Value} (h : Rd enc Try.prog w base 34 [v]) : ∃ l, Rss w v l := by
  obtain ⟨n, cap, ⟨a, rfl⟩, hl, hw, hs⟩ := h.sliceR Try.underlying34 cellsRanksT (by omega)
  have hs2 := hs.mono (R' := fun _ cs => ∃ r : List RankA, ∃ u, cs = [u] ∧ Rs w u r) (fun i cs _ hc hr => by
    match cs, hc with
    | [c0], _ =>
    obtain ⟨r, hr⟩ := hr.rsT
    exact ⟨r, c0, rfl, hr⟩)
  obtain ⟨l, hlen, hs3⟩ := hs2.choose
  subst hlen
  refine ⟨l, ⟨a, cap, rfl⟩, fun i hi => ?_⟩
  rcases hs3 with ⟨a, cap, h1, h2⟩ | ⟨b, off, cap, h0, _, _, hb, h5⟩
  · omega
  · obtain ⟨cs, _, ⟨r, hr, u, rfl, hu⟩, hc⟩ := h5 i hi
    rw [List.getElem?_eq_getElem hi] at hr
    obtain rfl := Option.some.inj hr
    have h6 := hc 0 (by omega)
    simp only [Nat.mul_one, Nat.add_zero] at h6
    exact ⟨b, off, cap, u, h0, hb, h6, hu⟩

structure ActL where
  what : Int
  flow : Int
  window : Int
  life : Nat
  tt : Nat
  count : Nat
  n : Nat
  ranks : List RankA
  own : List (List RankA)
  b : List Int
def ActLC (w : World) (o : ActL) (cs : List Value) : Prop := ∃ u1 u2 u3, cs = [.int .i64 o.what, .int .i64 o.flow, .int .i64 o.window, .int .u64 o.life, .int .u64 o.tt, .int .u64 o.count, .int .u64 o.n, u1, u2, u3] ∧ Rs w u1 o.ranks ∧ Rss w u2 o.own ∧ Bytes w u3 o.b ∧
  ((-9223372036854775808 ≤ o.what ∧ o.what < 9223372036854775808) ∧ (-9223372036854775808 ≤ o.flow ∧ o.flow < 9223372036854775808) ∧ (-9223372036854775808 ≤ o.window ∧ o.window < 9223372036854775808)) ∧ o.life < 18446744073709551616 ∧ o.tt < 18446744073709551616 ∧ o.count < 18446744073709551616 ∧ o.n < 18446744073709551616
set_option maxRecDepth 100000 in
set_option maxHeartbeats 1600000 in
theorem Rd.actL {H : Type} {enc : TypeId × Value → H} {w : World} {base : Nat} {cs : List Value} (h : Rd enc Try.prog w base 70 cs) : ∃ o, ActLC w o cs := by
  obtain ⟨hc, hf⟩ := h.fields Try.underlying70
  rw [cellsActT] at hc
  match cs, hc with
  | [c0, c1, c2, c3, c4, c5, c6, c7, c8, c9], _ =>
  have f0 : Rd enc Try.prog w _ 3 ((([c0, c1, c2, c3, c4, c5, c6, c7, c8, c9] : List Value).drop 0).take (Try.prog.cellsOf 3)) := hf 0 _ rfl
  have f1 : Rd enc Try.prog w _ 3 ((([c0, c1, c2, c3, c4, c5, c6, c7, c8, c9] : List Value).drop 1).take (Try.prog.cellsOf 3)) := hf 1 _ rfl
  have f2 : Rd enc Try.prog w _ 3 ((([c0, c1, c2, c3, c4, c5, c6, c7, c8, c9] : List Value).drop 2).take (Try.prog.cellsOf 3)) := hf 2 _ rfl
  have f3 : Rd enc Try.prog w _ 27 ((([c0, c1, c2, c3, c4, c5, c6, c7, c8, c9] : List Value).drop 3).take (Try.prog.cellsOf 27)) := hf 3 _ rfl
  have f4 : Rd enc Try.prog w _ 27 ((([c0, c1, c2, c3, c4, c5, c6, c7, c8, c9] : List Value).drop 4).take (Try.prog.cellsOf 27)) := hf 4 _ rfl
  have f5 : Rd enc Try.prog w _ 27 ((([c0, c1, c2, c3, c4, c5, c6, c7, c8, c9] : List Value).drop 5).take (Try.prog.cellsOf 27)) := hf 5 _ rfl
  have f6 : Rd enc Try.prog w _ 27 ((([c0, c1, c2, c3, c4, c5, c6, c7, c8, c9] : List Value).drop 6).take (Try.prog.cellsOf 27)) := hf 6 _ rfl
  have f7 : Rd enc Try.prog w _ 60 ((([c0, c1, c2, c3, c4, c5, c6, c7, c8, c9] : List Value).drop 7).take (Try.prog.cellsOf 60)) := hf 7 _ rfl
  have f8 : Rd enc Try.prog w _ 34 ((([c0, c1, c2, c3, c4, c5, c6, c7, c8, c9] : List Value).drop 8).take (Try.prog.cellsOf 34)) := hf 8 _ rfl
  have f9 : Rd enc Try.prog w _ 41 ((([c0, c1, c2, c3, c4, c5, c6, c7, c8, c9] : List Value).drop 9).take (Try.prog.cellsOf 41)) := hf 9 _ rfl
  simp only [cellsIntT, cellsU64, cellsRanksT, cellsRankssT, cellsBytes, List.drop_zero, List.drop_succ_cons, List.take_succ_cons, List.take_zero] at f0 f1 f2 f3 f4 f5 f6 f7 f8 f9
  obtain ⟨x0, h0, w0⟩ := f0.int Try.underlying3
  obtain ⟨x1, h1, w1⟩ := f1.int Try.underlying3
  obtain ⟨x2, h2, w2⟩ := f2.int Try.underlying3
  obtain ⟨x3, h3, w3⟩ := f3.int Try.underlying27
  obtain ⟨x4, h4, w4⟩ := f4.int Try.underlying27
  obtain ⟨x5, h5, w5⟩ := f5.int Try.underlying27
  obtain ⟨x6, h6, w6⟩ := f6.int Try.underlying27
  obtain ⟨l7, hl7⟩ := f7.rsT
  obtain ⟨l8, hl8⟩ := f8.rss
  obtain ⟨l9, hl9⟩ := f9.bytes
  simp only [List.cons.injEq, and_true] at h0 h1 h2 h3 h4 h5 h6
  subst h0 h1 h2 h3 h4 h5 h6
  have b3 := wf64' w3
  have b4 := wf64' w4
  have b5 := wf64' w5
  have b6 := wf64' w6
  obtain ⟨n3, rfl⟩ := Int.eq_ofNat_of_zero_le b3.1
  obtain ⟨n4, rfl⟩ := Int.eq_ofNat_of_zero_le b4.1
  obtain ⟨n5, rfl⟩ := Int.eq_ofNat_of_zero_le b5.1
  obtain ⟨n6, rfl⟩ := Int.eq_ofNat_of_zero_le b6.1
  exact ⟨⟨x0, x1, x2, n3, n4, n5, n6, l7, l8, l9⟩, c7, c8, c9, rfl, hl7, hl8, hl9, ⟨wfI64t w0, wfI64t w1, wfI64t w2⟩, by have := b3.2; show n3 < _; omega, by have := b4.2; show n4 < _; omega, by have := b5.2; show n5 < _; omega, by have := b6.2; show n6 < _; omega⟩

/-- A slice of calls. -/
def ActLs (w : World) (v : Value) (l : List ActL) : Prop := SliceR w v l.length 10 (fun i cs => ∃ o, l[i]? = some o ∧ ActLC w o cs) ∧ l.length * 128 ≤ 140737488351232
set_option maxRecDepth 100000 in
theorem open_actLs {H : Type} {enc : TypeId × Value → H} {W : World} {base b' : Nat} {v : Value} {d : DataW H} {p : List MemPlace} {ts : List TypeId} {ds : List (DataW H)} {j : Nat}
    (hv : Value.okWide Try.prog W .any b' 65 v) (h : DataW.Trod enc Try.prog W base (fun _ => true) true 65 v d p)
    (hsz : (DataW.weightsEach Try.prog ts ds).all (· ≤ reachBytes) = true) (hj : ts[j]? = some 65) (hd : ds[j]? = some d) : ∃ l, ActLs W v l := by
  obtain ⟨a, len, cap, hvv⟩ := okWide_slice Try.underlying65 hv
  have h := Rd.of_arg h hsz hj hd
  rw [cells_one hvv] at h
  obtain ⟨n, cap, ⟨a, rfl⟩, hl, hw, hs⟩ := h.sliceR Try.underlying65 cellsActT (by omega)
  rw [bytesActT] at hw
  have hs2 := hs.mono (R' := fun _ cs => ∃ o, ActLC W o cs) (fun i cs _ _ hr => hr.actL)
  obtain ⟨l, hlen, hs3⟩ := hs2.choose
  subst hlen
  exact ⟨l, hs3, by simp only [reachBytes] at hw; omega⟩
theorem ActLs.form {w : World} {v : Value} {xs : List ActL} (h : ActLs w v xs) : ∃ a cap, v = .slice a xs.length cap := by
  rcases h.1 with ⟨a, cap, h1, h2⟩ | ⟨b, off, cap, rfl, _⟩
  · exact ⟨a, cap, by rw [h1, h2]⟩
  · exact ⟨_, _, rfl⟩
theorem ActLs.at {w : World} {v : Value} {xs : List ActL} (h : ActLs w v xs) (i : Nat) (hi : i < xs.length) :
    ∃ b off cap cs, v = .slice (some ⟨b, off, none⟩) xs.length cap ∧ b < w.heap.size ∧ ActLC w xs[i] cs ∧ ∀ j, j < 10 → w.cell? ⟨b, off + i * 10 + j, none⟩ = cs[j]? := by
  rcases h.1 with ⟨a, cap, h1, h2⟩ | ⟨b, off, cap, rfl, _, _, hb, h5⟩
  · omega
  · obtain ⟨cs, _, ⟨o, ho, hu⟩, hc⟩ := h5 i hi
    rw [List.getElem?_eq_getElem hi] at ho
    simp at ho
    subst ho
    exact ⟨b, off, cap, cs, rfl, hb, hu, hc⟩
end Go.Proofs.Ytekdggdnkmkldaa
