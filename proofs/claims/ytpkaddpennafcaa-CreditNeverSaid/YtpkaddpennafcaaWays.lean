/- What is on its way (CreditWindow, CreditNever): a slice of structs of four cells that the call owns. -/
import Derived.Test.YtpkaddpennafcaaOwn
import Derived.Test.YtpkaddpennafcaaSteps
namespace Go.Proofs.Ytpkaddpennafcaa
set_option linter.unusedVariables false
set_option linter.unusedSimpArgs false
open Go.RowKit

structure WayV where
  credit : Bool
  life : Nat
  dest : Nat
  n : Nat
def WayV.cells (o : WayV) : List Value := [.bool o.credit, .int .u64 o.life, .int .u64 o.dest, .int .u64 o.n]
def wcells : List WayV → List Value
  | [] => []
  | o :: r => o.cells ++ wcells r
theorem wcells_length : ∀ l : List WayV, (wcells l).length = l.length * 4
  | [] => rfl
  | o :: r => by rw [wcells, List.length_append, wcells_length r, List.length_cons]; simp [WayV.cells]; omega
theorem wcells_append : ∀ a b : List WayV, wcells (a ++ b) = wcells a ++ wcells b
  | [], b => rfl
  | o :: r, b => by rw [List.cons_append, wcells, wcells_append r b, wcells, List.append_assoc]
theorem wcells_get : ∀ (l : List WayV) (i : Nat) (hi : i < l.length) (j : Nat), j < 4 → (wcells l)[i * 4 + j]? = l[i].cells[j]?
  | o :: r, 0, _, j, hj => by rw [wcells, List.getElem?_append_left (by simp [WayV.cells]; omega)]; simp
  | o :: r, i + 1, hi, j, hj => by
    rw [wcells, List.getElem?_append_right (by simp [WayV.cells]; omega)]
    simp only [List.getElem_cons_succ]
    rw [← wcells_get r i (by simpa using hi) j hj]
    congr 1
    simp [WayV.cells]; omega
theorem wcells_take (l : List WayV) (k : Nat) : (wcells l).take (k * 4) = wcells (l.take k) := by
  by_cases h : k ≤ l.length
  · have : wcells l = wcells (l.take k) ++ wcells (l.drop k) := by rw [← wcells_append, List.take_append_drop]
    rw [this, List.take_left' (by rw [wcells_length, List.length_take]; omega)]
  · rw [List.take_of_length_le (by rw [wcells_length]; omega), List.take_of_length_le (by omega)]
theorem wcells_drop (l : List WayV) (k : Nat) : (wcells l).drop (k * 4) = wcells (l.drop k) := by
  by_cases h : k ≤ l.length
  · have : wcells l = wcells (l.take k) ++ wcells (l.drop k) := by rw [← wcells_append, List.take_append_drop]
    rw [this, List.drop_left' (by rw [wcells_length, List.length_take]; omega)]
  · rw [List.drop_of_length_le (by rw [wcells_length]; omega), List.drop_of_length_le (by omega)]; rfl
theorem wcells_one (l : List WayV) : ∀ u ∈ wcells l, u.oneCell' = true := by
  induction l with
  | nil => intro u hu; simp [wcells] at hu
  | cons o r ih =>
    intro u hu
    rw [wcells, List.mem_append] at hu
    rcases hu with h | h
    · simp only [WayV.cells, List.mem_cons, List.not_mem_nil, or_false] at h
      rcases h with rfl | rfl | rfl | rfl <;> rfl
    · exact ih u h

def Ways (w : World) (v : Value) (l : List WayV) : Prop := OwnS w 94 4 v l.length (wcells l)

theorem infoWay : (Try.prog.info? 94).map (fun i => (i.zero, i.size, i.bytes)) = some (some (.agg #[.bool false, .int .u64 0, .int .u64 0, .int .u64 0]), 4, 32) := by kernel_rfl

theorem Ways.at {w : World} {v : Value} {l : List WayV} (h : Ways w v l) (i : Nat) (hi : i < l.length) :
    ∃ g off cap, v = .slice (some ⟨g, off, none⟩) l.length cap ∧ g < w.heap.size ∧ ∀ j, j < 4 → w.cell? ⟨g, off + i * 4 + j, none⟩ = l[i].cells[j]? := by
  obtain ⟨g, off, cap, hv, hg, _, _⟩ := OwnS.cells h (i * 4) (by omega)
  refine ⟨g, off, cap, hv, hg, fun j hj => ?_⟩
  obtain ⟨g', off', cap', hv', _, hc, _⟩ := OwnS.cells h (i * 4 + j) (by omega)
  rw [hv] at hv'
  simp only [Value.slice.injEq, Option.some.injEq, Addr.mk.injEq] at hv'
  obtain ⟨⟨rfl, rfl, _⟩, _, rfl⟩ := hv'
  rw [Nat.add_assoc, hc, wcells_get l i hi j hj]

/-- One way, laid into a block of its own, as a source of append. -/
theorem src_way {w : World} {b : Nat} {ty : TypeId} {fr : Nat × Nat} (o : WayV) (hb : w.heap[b]? = some (.cells #[.bool o.credit, .int .u64 o.life, .int .u64 o.dest, .int .u64 o.n] ty fr)) :
    Src Try.prog 4 88 (.slice (some ⟨b, 0, none⟩) 1 1) 1 (wcells [o]) w := by
  refine Src.ofSlice w Try.underlying88 ⟨b, 0, none⟩ 1 1 _ rfl (fun j u hj => ?_) (wcells_one _)
  have hplain : (⟨b, 0, none⟩ : Addr).add j = ⟨b, 0 + j, none⟩ := by unfold Addr.add; split <;> simp_all
  have : wcells [o] = [.bool o.credit, .int .u64 o.life, .int .u64 o.dest, .int .u64 o.n] := rfl
  rw [hplain, cell_of_heap hb, ← hj, this, Nat.zero_add]
  simp

/-- The first k of them, with no place behind. -/
theorem Ways.pre {w : World} {g off n cap : Nat} {l : List WayV} (h : Ways w (.slice (some ⟨g, off, none⟩) n cap) l) (k : Nat) (hk : k ≤ l.length) : Ways w (.slice (some ⟨g, off, none⟩) k k) (l.take k) := by
  have hl : (l.take k).length = k := by rw [List.length_take]; omega
  rcases h.2 with ⟨h0, _⟩ | ⟨g', off', cap', cur, h0, hg, h1, h2, h3, h4⟩
  · cases h0
  · simp only [Value.slice.injEq, Option.some.injEq, Addr.mk.injEq] at h0
    obtain ⟨⟨rfl, rfl, _⟩, _, rfl⟩ := h0
    refine ⟨wcells_length _, .inr ⟨g, off, k, cur, by rw [hl], hg, by omega, by omega, ?_, fun i hi => ?_⟩⟩
    · have : k * 4 ≤ cap * 4 := by omega
      omega
    · rw [hl] at hi
      rw [← wcells_take, List.getElem?_take, if_pos (by omega)]
      exact h4 i (by omega)
/-- What is behind the k-th, as a source of append. -/
theorem Ways.suf {w : World} {g off n cap : Nat} {l : List WayV} (h : Ways w (.slice (some ⟨g, off, none⟩) n cap) l) (k : Nat) (hk : k < l.length) {a : Option Addr} {c2 : Nat} (ha : k + 1 < cap → a = some ⟨g, off + (k + 1) * 4, none⟩) (hn : ∃ a', a = some a') :
    Src Try.prog 4 88 (.slice a (l.length - (k + 1)) c2) (l.length - (k + 1)) (wcells (l.drop (k + 1))) w := by
  obtain ⟨a', rfl⟩ := hn
  rcases h.2 with ⟨h0, _⟩ | ⟨g', off', cap', cur, h0, hg, h1, h2, h3, h4⟩
  · cases h0
  · simp only [Value.slice.injEq, Option.some.injEq, Addr.mk.injEq] at h0
    obtain ⟨⟨rfl, rfl, _⟩, _, rfl⟩ := h0
    refine Src.ofSlice w Try.underlying88 a' _ _ _ (by rw [wcells_length, List.length_drop]) (fun j u hj => ?_) (wcells_one _)
    rw [← wcells_drop, List.getElem?_drop] at hj
    have hjl := (List.getElem?_eq_some_iff.1 hj).1
    rw [wcells_length] at hjl
    have := ha (by omega)
    simp only [Option.some.injEq] at this
    subst this
    have hplain : (⟨g, off + (k + 1) * 4, none⟩ : Addr).add j = ⟨g, off + (k + 1) * 4 + j, none⟩ := by unfold Addr.add; split <;> simp_all
    rw [hplain, cell_of_heap hg, Nat.add_assoc, h4 _ (by omega), hj]

end Go.Proofs.Ytpkaddpennafcaa
