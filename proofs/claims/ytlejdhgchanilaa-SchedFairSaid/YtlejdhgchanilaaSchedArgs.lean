/- sched: how a place, a slice of places read. -/
import Derived.Test.YtlejdhgchanilaaSchedO
namespace Go.Proofs.Ytlejdhgchanilaa
set_option linter.unusedVariables false
set_option linter.unusedSimpArgs false
open Go.ChangeShapes Go.WideShapes Go.ChangeAt Go.RowKit

theorem cell_grow {w w' : World} (g : Grows w w') {p : Addr} {v : Value} (h : w.cell? p = some v) : w'.cell? p = some v := by
  have hb : p.block < w.heap.size := by
    rcases Nat.lt_or_ge p.block w.heap.size with h1 | h1
    · exact h1
    · unfold World.cell? at h
      rw [Array.getElem?_eq_none h1] at h
      cases h
  exact (g.cell hb (fun h => h)).trans h
theorem wfI64p {n : Int} (h : (Lit.int .i64 n).wf = true) : -9223372036854775808 ≤ n ∧ n < 9223372036854775808 := by
  have h1 : IntKind.i64.min = -9223372036854775808 := rfl
  have h2 : IntKind.i64.max = 9223372036854775807 := rfl
  simp only [Lit.wf, Bool.and_eq_true, decide_eq_true_eq] at h
  omega
theorem wfU64p {n : Int} (h : (Lit.int .u64 n).wf = true) : 0 ≤ n := by
  have h1 : IntKind.u64.min = 0 := rfl
  simp only [Lit.wf, Bool.and_eq_true, decide_eq_true_eq] at h
  omega
theorem bytesPl : Try.prog.bytesOf 25 = 16 := by kernel_rfl
theorem cellsPl : Try.prog.cellsOf 25 = 2 := by kernel_rfl
theorem cellsIntP : Try.prog.cellsOf 3 = 1 := by kernel_rfl
theorem cellsU64P : Try.prog.cellsOf 23 = 1 := by kernel_rfl

set_option maxRecDepth 100000 in
theorem Rd.place {H : Type} {enc : TypeId × Value → H} {w : World} {base : Nat} {cs : List Value} (h : Rd enc Try.prog w base 25 cs) : ∃ p : PlaceV, cs = [.int .i64 p.flow, .int .u64 p.gen] := by
  obtain ⟨hc, hf⟩ := h.fields Try.underlying25
  rw [cellsPl] at hc
  match cs, hc with
  | [c0, c1], _ =>
  have f0 : Rd enc Try.prog w _ 3 ((([c0, c1] : List Value).drop 0).take (Try.prog.cellsOf 3)) := hf 0 _ rfl
  have f1 : Rd enc Try.prog w _ 23 ((([c0, c1] : List Value).drop 1).take (Try.prog.cellsOf 23)) := hf 1 _ rfl
  simp only [cellsIntP, cellsU64P, List.drop_zero, List.drop_succ_cons, List.take_succ_cons, List.take_zero] at f0 f1
  obtain ⟨x0, h0, w0⟩ := f0.int Try.underlying3
  obtain ⟨x1, h1, w1⟩ := f1.int Try.underlying23
  simp only [List.cons.injEq, and_true] at h0 h1
  subst h0 h1
  obtain ⟨n1, rfl⟩ := Int.eq_ofNat_of_zero_le (wfU64p w1)
  exact ⟨⟨x0, n1⟩, rfl⟩

/-- A place by value. -/
def PlaceA (v : Value) (p : PlaceV) : Prop := v = .agg #[.int .i64 p.flow, .int .u64 p.gen]
set_option maxRecDepth 100000 in
theorem open_place {H : Type} {enc : TypeId × Value → H} {W : World} {base b' : Nat} {v : Value} {d : DataW H} {p : List MemPlace} {ts : List TypeId} {ds : List (DataW H)} {j : Nat}
    (hv : Value.okWide Try.prog W .any b' 25 v) (h : DataW.Trod enc Try.prog W base (fun _ => true) true 25 v d p)
    (hsz : (DataW.weightsEach Try.prog ts ds).all (· ≤ reachBytes) = true) (hj : ts[j]? = some 25) (hd : ds[j]? = some d) : ∃ p, PlaceA v p := by
  obtain ⟨cs, rfl, hcs⟩ := okWide_struct Try.underlying25 hv
  have h := Rd.of_arg h hsz hj hd
  obtain ⟨p, h1⟩ := h.place
  refine ⟨p, ?_⟩
  have h3 : (Value.agg cs).cells = cs := rfl
  rw [h3] at h1
  unfold PlaceA
  congr 1
  exact Array.toList_inj.1 h1

/-- A slice of places, as an argument. -/
def Places (w : World) (v : Value) (l : List PlaceV) : Prop := SliceR w v l.length 2 (fun i cs => ∃ p, l[i]? = some p ∧ cs = [.int .i64 p.flow, .int .u64 p.gen]) ∧ l.length * 16 ≤ 140737488351232
set_option maxRecDepth 100000 in
theorem open_places {H : Type} {enc : TypeId × Value → H} {W : World} {base b' : Nat} {v : Value} {d : DataW H} {p : List MemPlace} {ts : List TypeId} {ds : List (DataW H)} {j : Nat}
    (hv : Value.okWide Try.prog W .any b' 22 v) (h : DataW.Trod enc Try.prog W base (fun _ => true) true 22 v d p)
    (hsz : (DataW.weightsEach Try.prog ts ds).all (· ≤ reachBytes) = true) (hj : ts[j]? = some 22) (hd : ds[j]? = some d) : ∃ l, Places W v l := by
  obtain ⟨a, len, cap, hvv⟩ := okWide_slice Try.underlying22 hv
  have h := Rd.of_arg h hsz hj hd
  rw [cells_one hvv] at h
  obtain ⟨n, cap, ⟨a, rfl⟩, hl, hw, hs⟩ := h.sliceR Try.underlying22 cellsPl (by omega)
  rw [bytesPl] at hw
  have hs2 := hs.mono (R' := fun _ cs => ∃ o : PlaceV, cs = [.int .i64 o.flow, .int .u64 o.gen]) (fun i cs _ _ hr => hr.place)
  obtain ⟨l, hlen, hs3⟩ := hs2.choose
  subst hlen
  exact ⟨l, hs3, by simp only [reachBytes] at hw; omega⟩

theorem Places.form {w : World} {v : Value} {l : List PlaceV} (h : Places w v l) : ∃ a cap, v = .slice a l.length cap ∧ l.length ≤ cap := by
  rcases h.1 with ⟨a, cap, h1, h2⟩ | ⟨b, off, cap, rfl, hc, _⟩
  · exact ⟨a, cap, by rw [h1, h2], by rw [h2]; exact Nat.zero_le _⟩
  · exact ⟨_, _, rfl, hc⟩
theorem Places.row {w : World} {a : Option Addr} {k cap : Nat} {l : List PlaceV} (h : Places w (.slice a k cap) l) (n : Nat) (hn : n ≤ l.length) : RowP w (.slice a n cap) (l.take n) := by
  have htl : (l.take n).length = n := by rw [List.length_take]; omega
  refine ⟨⟨a, cap, by rw [htl]⟩, fun i hi => ?_⟩
  rw [htl] at hi
  rcases h.1 with ⟨a', cap', h1, h2⟩ | ⟨b, off, cap', h1, _, _, hb, h5⟩
  · omega
  · injection h1 with e1 e2 e3
    subst e1 e3
    obtain ⟨cs, _, ⟨p, hp, rfl⟩, hc⟩ := h5 i (by omega)
    have c0 := hc 0 (by omega)
    have c1 := hc 1 (by omega)
    rw [List.getElem?_eq_getElem (by omega)] at hp
    simp only [Option.some.injEq] at hp
    refine ⟨b, off, cap, by rw [htl], hb, ?_, ?_⟩
    · rw [List.getElem_take, hp]; exact c0
    · rw [List.getElem_take, hp]; exact c1

end Go.Proofs.Ytlejdhgchanilaa
