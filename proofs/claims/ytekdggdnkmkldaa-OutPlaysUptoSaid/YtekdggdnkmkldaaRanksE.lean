/- ranks: Wants, Ranks, Copy. -/
import Derived.Test.YtekdggdnkmkldaaRanksD
import Derived.Lib.SliceRun
import Derived.Deep.DeepCutAuto
namespace Go.Proofs.Ytekdggdnkmkldaa
set_option linter.unusedVariables false
set_option linter.unusedSimpArgs false
set_option maxRecDepth 1500
open Go.ChangeShapes Go.WideShapes Go.ChangeAt Go.RowKit
attribute [local go_sem] run_store_complex_r

def wantsB (life base : Nat) (l : List RankV) (gen : Nat) (own width : Int) : Bool :=
  decide (0 < life) && (decide (1 ≤ width ∧ width ≤ 16) && decide (base ≤ gen ∧ (gen : Int) < min ((base : Int) + width) 1099511627776 ∧ (rankOf gen l : Int) < own))

theorem OwnS.src {w : World} {e t : TypeId} {v : Value} {n : Nat} {xs : List Value} (h : OwnS w e 1 v n xs) (ht : Try.prog.underlying t = some (.slice e)) (h1 : ∀ u ∈ xs, u.oneCell' = true) : Src Try.prog 1 t v n xs w := by
  have hl := h.1
  rcases h.2 with ⟨rfl, h0⟩ | ⟨g, off, cap, cur, rfl, hg, _, _, _, hc⟩
  · subst h0
    obtain rfl : xs = [] := List.eq_nil_of_length_eq_zero (by omega)
    exact Src.ofNil w ht 0
  · refine Src.ofSlice w ht ⟨g, off, none⟩ n cap xs (by omega) (fun j u hj => ?_) h1
    have hjl := (List.getElem?_eq_some_iff.1 hj).1
    have hplain : (⟨g, off, none⟩ : Addr).add j = ⟨g, off + j, none⟩ := by unfold Addr.add; split <;> simp_all
    rw [hplain, cell_of_heap hg, hc j (by omega), hj]
theorem pcells_one (l : List RankV) : ∀ u ∈ pcells l, u.oneCell' = true := by
  intro u hu
  simp only [pcells, List.mem_map] at hu
  obtain ⟨r, _, rfl⟩ := hu
  rfl

def rcells : List RankV → List Value
  | [] => []
  | r :: rest => .int .u64 r.gen :: .int .i64 r.rank :: rcells rest
theorem rcells_append : ∀ a b : List RankV, rcells (a ++ b) = rcells a ++ rcells b
  | [], _ => rfl
  | r :: rest, b => by rw [List.cons_append, rcells, rcells_append rest b, rcells]; rfl
theorem infoRank : (Try.prog.info? 62).map (fun i => (i.zero, i.size, i.bytes)) = some (some (.agg #[.int .u64 0, .int .i64 0]), 2, 16) := by kernel_rfl
theorem src_two {w : World} {b : Nat} {ty t e : TypeId} {x y : Value} {fr : Nat × Nat} (ht : Try.prog.underlying t = some (.slice e)) (hb : w.heap[b]? = some (.cells #[x, y] ty fr)) (hx : x.oneCell' = true) (hy : y.oneCell' = true) : Src Try.prog 2 t (.slice (some ⟨b, 0, none⟩) 1 1) 1 [x, y] w := by
  refine Src.ofSlice w ht ⟨b, 0, none⟩ 1 1 [x, y] rfl (fun j u hj => ?_) (fun u hu => ?_)
  · have hplain : (⟨b, 0, none⟩ : Addr).add j = ⟨b, 0 + j, none⟩ := by unfold Addr.add; split <;> simp_all
    rw [hplain, cell_of_heap hb, Nat.zero_add, ← hj]
    simp
  · simp only [List.mem_cons, List.not_mem_nil, or_false] at hu
    rcases hu with rfl | rfl
    · exact hx
    · exact hy

end Go.Proofs.Ytekdggdnkmkldaa
