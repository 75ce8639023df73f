/- sched: places, compared by ==; lists of them that a call owns. -/
import Derived.Test.YtekdggdnkmkldaaSchedA
import Derived.Laws.StructEq
import Derived.Test.YtekdggdnkmkldaaOwn
import Derived.Lib.SliceRun
import Derived.Laws.IdiomCopy
import Derived.BigQuiet
import Derived.Deep.LoopGhost
namespace Go.Proofs.Ytekdggdnkmkldaa
set_option linter.unusedVariables false
set_option linter.unusedSimpArgs false
set_option maxRecDepth 1500
open Go.RowKit Go.Sort Go.Lib

def PlaceV.val (a : PlaceV) : Value := .agg #[.int .i64 a.flow, .int .u64 a.gen]
theorem eqS (a b : PlaceV) (w : World) : (binOp .eql 31 (.agg #[.int .i64 a.flow, .int .u64 a.gen]) (.agg #[.int .i64 b.flow, .int .u64 b.gen])).run Try.prog w = .ok (.bool (decide (a = b))) w := by
  have hS : Try.prog.underlying 31 = some (.struct (Try.prog.fieldsOf 31)) := by kernel_rfl
  have hp : Try.prog.stoodInHeld 31 = false := by kernel_rfl
  have u3 := Try.underlying3
  have u23 := Try.underlying27
  rw [run_eql_struct, show (10000 : Nat) = 9999 + 1 from rfl, run_equalIn_agg w 9999 31 _ _ hS hp]
  simp only [Program.fieldsOf, Try.underlying31]
  go_simp
  by_cases h1 : a.flow = b.flow <;> by_cases h2 : a.gen = b.gen
  · have e : a = b := PlaceV.ext' h1 h2
    simp [h1, h2, e]
  · have e : ¬ a = b := fun e => h2 (by rw [e])
    have h3 : ¬ (a.gen : Int) = (b.gen : Int) := by omega
    simp [h1, h3, e]
  · have e : ¬ a = b := fun e => h1 (by rw [e])
    simp [h1, h2, e]
  · have e : ¬ a = b := fun e => h1 (by rw [e])
    simp [h1, h2, e]

theorem neS (a b : PlaceV) (w : World) : (binOp .neq 31 (.agg #[.int .i64 a.flow, .int .u64 a.gen]) (.agg #[.int .i64 b.flow, .int .u64 b.gen])).run Try.prog w = .ok (.bool (!decide (a = b))) w := by
  have h := eqS a b w
  rw [run_eql_struct] at h
  rw [run_neq_struct]
  revert h
  cases hr : (Op.equalIn 10000 31 (.agg #[.int .i64 a.flow, .int .u64 a.gen]) (.agg #[.int .i64 b.flow, .int .u64 b.gen])).run Try.prog w with
  | ok x w' => 
    intro h
    simp only [Result.andThen_ok, Result.ok.injEq, Value.bool.injEq] at h ⊢
    exact ⟨by rw [h.1], h.2⟩
  | _ => intro h; simp [Result.andThen] at h

/-- clear, at elements of two cells. -/
theorem run_clear_two {P : Program} (w : World) (t e : TypeId) (z : Value) (x y : Value) (ht : P.underlying t = some (.slice e)) (hv : ∀ w, (zeroValue e).run P w = .ok z w) (hz : z.cells = #[x, y]) (h1 : x.oneCell' = true) (h2 : y.oneCell' = true) (b o n c : Nat) (hn : 0 < n)
    (hc : ∀ j, j < n * 2 → (w.cell? ⟨b, o + j, none⟩).isSome = true) (hf : ∀ j, j < n * 2 → w.frozen? ⟨b, o + j, none⟩ = false) :
    ∃ L : List Value, L.length = n * 2 ∧ ∀ ty, (Builtin.clear_ #[t] ty #[.slice (some ⟨b, o, none⟩) n c]).run P w = .ok (.tuple #[]) (w.setCells b o L) := by
  have hl : (Builtin.zeroCells z.cells n).toList.length = n * 2 := by rw [hz]; simp [Builtin.zeroCells]
  refine ⟨(Builtin.zeroCells z.cells n).toList, hl, fun ty => ?_⟩
  have hst := run_storeCells_cells (P := P) b o (Builtin.zeroCells z.cells n).toList 0 w (by rw [hl]; simpa using hc) (by rw [hl]; simpa using hf) (by
    intro v hv'
    rw [hz] at hv'
    simp only [Builtin.zeroCells, Array.toList_map, List.mem_map] at hv'
    obtain ⟨i, _, rfl⟩ := hv'
    have : i % 2 = 0 ∨ i % 2 = 1 := by omega
    rcases this with h | h
    · simp [h]; exact h1
    · simp [h]; exact h2)
  simp only [Nat.add_zero] at hst
  obtain ⟨m, rfl⟩ : ∃ m, n = m + 1 := ⟨n - 1, by omega⟩
  simp [Builtin.clear_, run_underlying ht, hv, hst]

def plcells : List PlaceV → List Value
  | [] => []
  | a :: r => .int .i64 a.flow :: .int .u64 a.gen :: plcells r
theorem plcells_length : ∀ l : List PlaceV, (plcells l).length = l.length * 2
  | [] => rfl
  | a :: r => by rw [plcells, List.length_cons, List.length_cons, plcells_length r, List.length_cons]; omega
theorem plcells_append : ∀ a b : List PlaceV, plcells (a ++ b) = plcells a ++ plcells b
  | [], b => rfl
  | x :: r, b => by rw [List.cons_append, plcells, plcells_append r b, plcells]; rfl
theorem plcells_get : ∀ (l : List PlaceV) (i : Nat) (hi : i < l.length), (plcells l)[i * 2]? = some (.int .i64 l[i].flow) ∧ (plcells l)[i * 2 + 1]? = some (.int .u64 l[i].gen)
  | a :: r, 0, _ => ⟨rfl, rfl⟩
  | a :: r, i + 1, hi => by
    have h := plcells_get r i (by simpa using hi)
    rw [show (i + 1) * 2 = i * 2 + 1 + 1 by omega]
    simp only [plcells, List.getElem?_cons_succ, List.getElem_cons_succ]
    exact h
theorem plcells_set : ∀ (l : List PlaceV) (i : Nat) (x : PlaceV), i < l.length → plcells (l.set i x) = ((plcells l).set (i * 2) (.int .i64 x.flow)).set (i * 2 + 1) (.int .u64 x.gen)
  | a :: r, 0, x, _ => rfl
  | a :: r, i + 1, x, hi => by
    have h := plcells_set r i x (by simpa using hi)
    rw [show (i + 1) * 2 = i * 2 + 1 + 1 by omega]
    simp only [List.set_cons_succ, plcells, h]

/-- A list of places that the call owns. -/
def OwnP (w : World) (v : Value) (l : List PlaceV) : Prop := OwnS w 31 2 v l.length (plcells l)
theorem OwnP.grows {w w' : World} {v : Value} {l : List PlaceV} (h : OwnP w v l) (e : Grows w w') : OwnP w' v l := OwnS.grows h e
theorem OwnP.at {w : World} {v : Value} {l : List PlaceV} (h : OwnP w v l) (i : Nat) (hi : i < l.length) :
    ∃ g off cap, v = .slice (some ⟨g, off, none⟩) l.length cap ∧ g < w.heap.size ∧ (w.cell? ⟨g, off + i * 2, none⟩ = some (.int .i64 l[i].flow) ∧ w.cell? ⟨g, off + i * 2 + 1, none⟩ = some (.int .u64 l[i].gen)) ∧ w.frozen? ⟨g, off + i * 2, none⟩ = false ∧ w.frozen? ⟨g, off + i * 2 + 1, none⟩ = false := by
  obtain ⟨g, off, cap, hv, hg, hc, hf⟩ := OwnS.cells h (i * 2) (by omega)
  obtain ⟨g', off', cap', hv', _, hc', hf'⟩ := OwnS.cells h (i * 2 + 1) (by omega)
  rw [hv] at hv'
  simp only [Value.slice.injEq, Option.some.injEq, Addr.mk.injEq] at hv'
  obtain ⟨⟨rfl, rfl, _⟩, _, rfl⟩ := hv'
  rw [(plcells_get l i hi).1] at hc
  rw [(plcells_get l i hi).2, ← Nat.add_assoc] at hc'
  rw [← Nat.add_assoc] at hf'
  exact ⟨g, off, cap, hv, hg, ⟨hc, hc'⟩, hf, hf'⟩
theorem OwnS.setS {w : World} {e : TypeId} {k n : Nat} {g off cap : Nat} {xs : List Value} (h : OwnS w e k (.slice (some ⟨g, off, none⟩) n cap) n xs) (i : Nat) (hi : i < n * k) (u : Value) :
    OwnS (w.setCell ⟨g, off + i, none⟩ u) e k (.slice (some ⟨g, off, none⟩) n cap) n (xs.set i u) := by
  rcases h.2 with ⟨h0, _⟩ | ⟨g', off', cap', cur, h0, hg, h1, h2, h3, h4⟩
  · cases h0
  · simp only [Value.slice.injEq, Option.some.injEq, Addr.mk.injEq] at h0
    obtain ⟨⟨rfl, rfl, _⟩, _, rfl⟩ := h0
    have hmul : n * k ≤ cap * k := Nat.mul_le_mul_right _ h1
    refine ⟨by rw [List.length_set]; exact h.1, .inr ⟨g, off, cap, _, rfl, setCell_heap hg (off + i) u, h1, h2, by simp; omega, fun j hj => ?_⟩⟩
    by_cases hji : j = i
    · subst hji
      rw [Array.getElem?_setIfInBounds_self_of_lt (by omega), List.getElem?_set_self (by have := h.1; omega)]
    · rw [Array.getElem?_setIfInBounds_ne (by omega), List.getElem?_set_ne (by omega), h4 j hj]
theorem OwnP.set {w : World} {g off cap n : Nat} {l : List PlaceV} (h : OwnP w (.slice (some ⟨g, off, none⟩) n cap) l) (hn : n = l.length) (i : Nat) (hi : i < l.length) (x : PlaceV) :
    OwnP ((w.setCell ⟨g, off + i * 2, none⟩ (.int .i64 x.flow)).setCell ⟨g, off + i * 2 + 1, none⟩ (.int .u64 x.gen)) (.slice (some ⟨g, off, none⟩) n cap) (l.set i x) := by
  subst hn
  have h1 := OwnS.setS h (i * 2) (by omega) (.int .i64 x.flow)
  have h2 := OwnS.setS h1 (i * 2 + 1) (by omega) (.int .u64 x.gen)
  unfold OwnP
  rw [plcells_set l i x hi, List.length_set, Nat.add_assoc]
  exact h2
/-- The first m of them. -/
theorem OwnP.cut {w : World} {g off cap n : Nat} {l : List PlaceV} (h : OwnP w (.slice (some ⟨g, off, none⟩) n cap) l) (m : Nat) (hm : m ≤ l.length) : OwnP w (.slice (some ⟨g, off, none⟩) m cap) (l.take m) := by
  have hl : (l.take m).length = m := by rw [List.length_take]; omega
  have hp : plcells (l.take m) = (plcells l).take (m * 2) := by
    have e : plcells l = plcells (l.take m) ++ plcells (l.drop m) := by rw [← plcells_append, List.take_append_drop]
    rw [e, List.take_left' (by rw [plcells_length, hl])]
  rcases h.2 with ⟨h0, _⟩ | ⟨g', off', cap', cur, h0, hg, h1, h2, h3, h4⟩
  · cases h0
  · simp only [Value.slice.injEq, Option.some.injEq, Addr.mk.injEq] at h0
    obtain ⟨⟨rfl, rfl, _⟩, _, rfl⟩ := h0
    refine ⟨by rw [plcells_length], .inr ⟨g, off, cap, cur, by rw [hl], hg, by omega, h2, h3, fun i hi => ?_⟩⟩
    rw [hl] at hi
    rw [hp, List.getElem?_take, if_pos hi]
    exact h4 i (by omega)

theorem OwnP.cap {w : World} {g off cap n : Nat} {l : List PlaceV} (h : OwnP w (.slice (some ⟨g, off, none⟩) n cap) l) : l.length ≤ cap ∧ cap ≤ maxLen := by
  rcases h.2 with ⟨h0, _⟩ | ⟨g', off', cap', cur, h0, hg, h1, h2, h3, h4⟩
  · cases h0
  · simp only [Value.slice.injEq, Option.some.injEq, Addr.mk.injEq] at h0
    obtain ⟨_, _, rfl⟩ := h0
    exact ⟨h1, h2⟩
/-- What is behind the first m is written over. -/
theorem OwnP.over {w : World} {g off cap n : Nat} {l : List PlaceV} (h : OwnP w (.slice (some ⟨g, off, none⟩) n cap) l) (m : Nat) (hm : m ≤ l.length) (L : List Value) (hL : L.length = (l.length - m) * 2) :
    OwnP (w.setCells g (off + m * 2) L) (.slice (some ⟨g, off, none⟩) m cap) (l.take m) ∧ Ext (fun k => k = g) w (w.setCells g (off + m * 2) L) := by
  have h5 := h.cut m hm
  have hl : (l.take m).length = m := by rw [List.length_take]; omega
  refine ⟨?_, Ext.of_grown (setCells_grown L _ w) (fun k hk => (Option.some.inj hk).symm)⟩
  rcases h5.2 with ⟨h0, _⟩ | ⟨g', off', cap', cur, h0, hg, h1, h2, h3, h4⟩
  · cases h0
  · simp only [Value.slice.injEq, Option.some.injEq, Addr.mk.injEq] at h0
    obtain ⟨⟨rfl, rfl, _⟩, _, rfl⟩ := h0
    have hcap := h.cap.1
    obtain ⟨cur', k1, k2, k3, _⟩ := setCells_heap L (off + m * 2) cur w hg (by rw [hL]; omega)
    refine ⟨h5.1, .inr ⟨g, off, cap, cur', by rw [hl], k1, h1, h2, by omega, fun i hi => ?_⟩⟩
    rw [hl] at hi
    rw [k3 _ (by omega), h4 i (by rw [hl]; exact hi)]

end Go.Proofs.Ytekdggdnkmkldaa
