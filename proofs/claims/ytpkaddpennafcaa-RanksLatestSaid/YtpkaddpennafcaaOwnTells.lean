/- A slice of Tellings that the call owns (RanksLatest's own). -/
import Derived.Test.YtpkaddpennafcaaLatest
namespace Go.Proofs.Ytpkaddpennafcaa
set_option linter.unusedVariables false
set_option linter.unusedSimpArgs false
open Go.RowKit

/-- A telling and the slice of its ranks, as it lies there. -/
abbrev TellU := TellV × Value
def TellU.cells (p : TellU) : List Value := [.int .u64 p.1.life, .int .u64 p.1.count, .int .u64 p.1.base, p.2]
def tcells : List TellU → List Value
  | [] => []
  | o :: r => TellU.cells o ++ tcells r
theorem tcells_length : ∀ l : List TellU, (tcells l).length = l.length * 4
  | [] => rfl
  | o :: r => by rw [tcells, List.length_append, tcells_length r, List.length_cons]; simp [TellU.cells]; omega
theorem tcells_append : ∀ a b : List TellU, tcells (a ++ b) = tcells a ++ tcells b
  | [], b => rfl
  | o :: r, b => by rw [List.cons_append, tcells, tcells_append r b, tcells, List.append_assoc]
theorem tcells_get : ∀ (l : List TellU) (i : Nat) (hi : i < l.length) (j : Nat), j < 4 → (tcells l)[i * 4 + j]? = (TellU.cells l[i])[j]?
  | o :: r, 0, _, j, hj => by rw [tcells, List.getElem?_append_left (by simp [TellU.cells]; omega)]; simp
  | o :: r, i + 1, hi, j, hj => by
    rw [tcells, List.getElem?_append_right (by simp [TellU.cells]; omega)]
    simp only [List.getElem_cons_succ]
    rw [← tcells_get r i (by simpa using hi) j hj]
    congr 1
    simp [TellU.cells]; omega

theorem infoTelling : (Try.prog.info? 25).map (fun i => (i.zero, i.size, i.bytes)) = some (some (.agg #[.int .u64 0, .int .u64 0, .int .u64 0, .slice none 0 0]), 4, 48) := by kernel_rfl

/-- The call owns the slice v; base: the ranks' slices lie in memory that was there before the call. -/
structure OwnT (w0 w : World) (v : Value) (l : List TellU) : Prop where
  own : OwnS w 25 4 v l.length (tcells l)
  rs : ∀ p ∈ l, Rs w0 p.2 p.1.l ∧ p.1.base < 18446744073709551616
  grows : Grows w0 w
theorem OwnT.at {w0 w : World} {v : Value} {l : List TellU} (h : OwnT w0 w v l) (i : Nat) (hi : i < l.length) :
    ∃ g off cap, v = .slice (some ⟨g, off, none⟩) l.length cap ∧ g < w.heap.size ∧ (w.cell? ⟨g, off + i * 4, none⟩ = some (.int .u64 l[i].1.life) ∧ w.cell? ⟨g, off + i * 4 + 1, none⟩ = some (.int .u64 l[i].1.count) ∧ w.cell? ⟨g, off + i * 4 + 2, none⟩ = some (.int .u64 l[i].1.base) ∧ w.cell? ⟨g, off + i * 4 + 3, none⟩ = some l[i].2) ∧ Rs w l[i].2 l[i].1.l := by
  obtain ⟨g, off, cap, hv, hg, _, _⟩ := OwnS.cells h.own (i * 4) (by omega)
  have hc : ∀ j, j < 4 → w.cell? ⟨g, off + i * 4 + j, none⟩ = (TellU.cells l[i])[j]? := by
    intro j hj
    obtain ⟨g', off', cap', hv', _, hc, _⟩ := OwnS.cells h.own (i * 4 + j) (by omega)
    rw [hv] at hv'
    simp only [Value.slice.injEq, Option.some.injEq, Addr.mk.injEq] at hv'
    obtain ⟨⟨rfl, rfl, _⟩, _, rfl⟩ := hv'
    rw [Nat.add_assoc, hc, tcells_get l i hi j hj]
  exact ⟨g, off, cap, hv, hg, ⟨hc 0 (by omega), hc 1 (by omega), hc 2 (by omega), hc 3 (by omega)⟩, (h.rs _ (List.getElem_mem _)).1.grows h.grows⟩

end Go.Proofs.Ytpkaddpennafcaa
