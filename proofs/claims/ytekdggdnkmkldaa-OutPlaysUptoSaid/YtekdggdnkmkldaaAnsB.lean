/- link: what a bound on all that comes in says of a slice of calls' own ranks. -/
import Derived.Test.YtekdggdnkmkldaaLinkT
import Derived.Test.YtekdggdnkmkldaaLinkM
import Derived.Test.YtekdggdnkmkldaaRows
namespace Go.Proofs.Ytekdggdnkmkldaa
set_option linter.unusedVariables false
set_option linter.unusedSimpArgs false
set_option maxRecDepth 1500
open Go.ChangeShapes Go.WideShapes Go.ChangeAt Go.RowKit

/-- The cells cs read at type t as d. -/
def RdD {H : Type} (enc : TypeId × Value → H) (P : Program) (w : World) (base : Nat) (t : TypeId) (cs : List Value) (d : DataW H) : Prop :=
  ∃ (fuel : Nat) (ps : List MemPlace), DataW.trod enc P w base (fun _ => true) true fuel t cs = some (d, ps)
section
variable {H : Type} {enc : TypeId × Value → H} {P : Program} {w : World} {base : Nat} {t : TypeId} {cs : List Value} {d : DataW H}
theorem RdD.slice {e : TypeId} (ht : P.underlying t = some (.slice e)) {v : Value} (h : RdD enc P w base t [v] d) :
    v = .slice none 0 0 ∨ ∃ (a : Addr) (len cap : Nat) (elems rest : List (DataW H)), v = .slice (some a) len cap ∧ d = .slice elems rest ∧ elems.length = len ∧
      ∀ i x, elems[i]? = some x → ∃ cs', cs'.length = P.cellsOf e ∧ (∀ j, j < P.cellsOf e → w.cell? ((a.add (i * P.cellsOf e)).add j) = cs'[j]?) ∧ RdD enc P w base e cs' x := by
  obtain ⟨fuel, ps, hf⟩ := h
  rcases DataW.trod_slice ht hf with ⟨h0, _⟩ | ⟨a, len, cap, elems, rest, n, _, hv, hx, _, _, _, hlen, hel, _, _⟩
  · exact .inl (by simpa using h0)
  · right
    simp only [Prod.mk.injEq] at hx
    refine ⟨a, len, cap, elems.map (·.1), rest.map (·.1), by simpa using hv, hx.1, by rw [List.length_map]; exact hlen, fun i x hi => ?_⟩
    rw [List.getElem?_map] at hi
    obtain ⟨y, hy, rfl⟩ := Option.map_eq_some_iff.1 hi
    have hil : i < len := hlen ▸ (List.getElem?_eq_some_iff.1 hy).1
    have h2 := hel i hil
    rw [hy] at h2
    obtain ⟨cs', h1, h2⟩ := Option.bind_eq_some_iff.1 h2
    obtain ⟨_, hlen', hc⟩ := World.cells?_some h1
    exact ⟨cs', hlen', hc, n, _, h2⟩
theorem RdD.part {fs : Array Field} (ht : P.underlying t = some (.struct fs)) (h : RdD enc P w base t cs d) : ∃ parts, d = .agg parts ∧ parts.length = fs.size ∧
    ∀ (i : Nat) (f : Field) x, fs[i]? = some f → parts[i]? = some x → RdD enc P w base f.type ((cs.drop f.offset).take (P.cellsOf f.type)) x := by
  obtain ⟨fuel, ps, hf⟩ := h
  obtain ⟨xs, n, _, hx, hl, hlen, hel⟩ := DataW.trod_struct ht hf
  simp only [Prod.mk.injEq] at hx
  refine ⟨xs.map (·.1), hx.1, by rw [List.length_map]; exact hlen, fun i f x hi hp => ?_⟩
  rw [List.getElem?_map] at hp
  obtain ⟨y, hy, rfl⟩ := Option.map_eq_some_iff.1 hp
  have h2 := hel i f hi
  rw [hy] at h2
  exact ⟨n, _, h2⟩
end
theorem bulk_pos {H : Type} (d : DataW H) : 1 ≤ Rows.uptoBulk d := by
  cases d with
  | lit l => cases l <;> simp [Rows.uptoBulk]
  | nil => simp [Rows.uptoBulk]
  | ptr d => simp [Rows.uptoBulk]
  | slice elems spare => simp [Rows.uptoBulk]
  | agg parts => simp [Rows.uptoBulk]
  | iface t d => simp [Rows.uptoBulk]
  | map entries => simp [Rows.uptoBulk]
  | held h => simp [Rows.uptoBulk]
theorem bulk_len {H : Type} : ∀ l : List (DataW H), l.length ≤ Rows.uptoBulkAll l
  | [] => Nat.zero_le _
  | x :: r => by
    have h1 := bulk_len r
    have h2 := bulk_pos x
    simp only [Rows.uptoBulkAll, List.length_cons]
    omega
theorem bulk_get {H : Type} : ∀ (l : List (DataW H)) (i : Nat) (x : DataW H), l[i]? = some x → Rows.uptoBulk x ≤ Rows.uptoBulkAll l
  | [], i, x, h => by simp at h
  | y :: r, 0, x, h => by
    obtain rfl : y = x := by simpa using h
    simp only [Rows.uptoBulkAll]
    omega
  | y :: r, i + 1, x, h => by
    have := bulk_get r i x (by simpa using h)
    simp only [Rows.uptoBulkAll]
    omega
theorem bulk_sum {H α : Type} : ∀ (own : List (List α)) (l : List (DataW H)), own.length = l.length → (∀ (i : Nat) (row : List α) x, own[i]? = some row → l[i]? = some x → row.length ≤ Rows.uptoBulk x) → (own.map List.length).sum ≤ Rows.uptoBulkAll l
  | [], l, _, _ => by simp
  | row :: own, [], h, _ => by simp at h
  | row :: own, x :: l, h, hp => by
    have h1 := bulk_sum own l (by simpa using h) (fun i r y hr hy => hp (i + 1) r y (by simpa using hr) (by simpa using hy))
    have h2 := hp 0 row x rfl rfl
    simp only [List.map_cons, List.sum_cons, Rows.uptoBulkAll]
    omega
theorem same_cells {w : World} {b off k : Nat} {xs ys : List Value} (hx : xs.length = k) (hy : ys.length = k) (h1 : ∀ j, j < k → w.cell? ⟨b, off + j, none⟩ = xs[j]?) (h2 : ∀ j, j < k → w.cell? ⟨b, off + j, none⟩ = ys[j]?) : xs = ys := by
  apply List.ext_getElem?
  intro j
  by_cases hj : j < k
  · rw [← h1 j hj, h2 j hj]
  · rw [List.getElem?_eq_none (by omega), List.getElem?_eq_none (by omega)]
section
variable {H : Type} {enc : TypeId × Value → H} {w : World} {base : Nat} {v : Value} {d : DataW H}
set_option maxRecDepth 100000
theorem rs_bulk (h : RdD enc Try.prog w base 60 [v] d) {l : List RankA} (hr : Rs w v l) : l.length ≤ Rows.uptoBulk d := by
  obtain ⟨a, cap, rfl⟩ := hr.form
  rcases h.slice Try.underlying60 with h0 | ⟨a', len, cap', elems, rest, h0, rfl, hl, _⟩
  · injection h0 with _ h1 _
    omega
  · injection h0 with _ h1 _
    have := bulk_len elems
    simp only [Rows.uptoBulk]
    omega
theorem rss_bulk (h : RdD enc Try.prog w base 34 [v] d) {own : List (List RankA)} (hr : Rss w v own) : (own.map List.length).sum ≤ Rows.uptoBulk d := by
  obtain ⟨a, cap, rfl⟩ := hr.1
  rcases h.slice Try.underlying34 with h0 | ⟨a', len, cap', elems, rest, h0, rfl, hl, hel⟩
  · injection h0 with _ h1 _
    rw [List.eq_nil_of_length_eq_zero h1]
    simp
  · injection h0 with hae h1 _
    have := bulk_sum own elems (by omega) (fun i row x hi hx => by
      obtain ⟨hil, rfl⟩ := List.getElem?_eq_some_iff.1 hi
      obtain ⟨b, off, cap2, u, e, _, hc, hu⟩ := hr.2 i hil
      rw [hae] at e
      injection e with e1 _ _
      injection e1 with e1
      subst e1
      obtain ⟨cs', hcl, hcc, hrd⟩ := hel i x hx
      rw [cellsRanksT] at hcl hcc
      match cs', hcl with
      | [c0], _ =>
      have h3 := hcc 0 (by omega)
      rw [addr_add, addr_add, Nat.mul_one, Nat.add_zero, hc] at h3
      obtain rfl : u = c0 := by simpa using h3
      exact rs_bulk hrd hu)
    simp only [Rows.uptoBulk]
    omega
theorem actLs_bulk (h : RdD enc Try.prog w base 65 [v] d) {l : List ActL} (hr : ActLs w v l) : ∀ a ∈ l, (a.own.map List.length).sum ≤ Rows.uptoBulk d := by
  intro a ha
  obtain ⟨i, hi, rfl⟩ := List.getElem_of_mem ha
  obtain ⟨b, off, cap, cs, rfl, _, hac, hcs⟩ := hr.at i hi
  obtain ⟨u1, u2, u3, rfl, _, hown, _⟩ := hac
  rcases h.slice Try.underlying65 with h0 | ⟨a', len, cap', elems, rest, h0, rfl, hl, hel⟩
  · injection h0 with h1 _ _
    cases h1
  · injection h0 with e1 e2 _
    injection e1 with e1
    subst e1
    have hie : i < elems.length := by omega
    obtain ⟨cs', hcl, hcc, hrd⟩ := hel i _ (List.getElem?_eq_getElem hie)
    rw [cellsActT] at hcl hcc
    have := same_cells (w := w) (b := b) (off := off + i * 10) hcl rfl (fun j hj => by have := hcc j hj; rwa [addr_add, addr_add] at this) hcs
    subst this
    obtain ⟨parts, hp, hpl, hpp⟩ := hrd.part Try.underlying70
    have h8 : 8 < parts.length := by rw [hpl]; exact Nat.lt_of_sub_eq_succ rfl
    have r8 := hpp 8 _ _ rfl (List.getElem?_eq_getElem h8)
    have h9 := rss_bulk (d := parts[8]) r8 hown
    have h10 := bulk_get parts 8 _ (List.getElem?_eq_getElem h8)
    have h11 := bulk_get elems i _ (List.getElem?_eq_getElem hie)
    rw [hp] at h11
    simp only [Rows.uptoBulk] at h11 ⊢
    omega
end
theorem mayRow_len (x : OutV) (W i : Nat) (l : List RankA) : (mayRow x W i l).length ≤ l.length := by
  unfold mayRow
  rw [List.length_map]
  exact List.length_filter_le _ _
theorem mayZip_le (x : OutV) (W : Nat) : ∀ (own : List (List RankA)) (k : Nat), ((own.zipIdx k).map fun p => mayRow x W p.2 p.1).flatten.length ≤ (own.map List.length).sum
  | [], _ => by simp
  | row :: own, k => by
    have h1 := mayZip_le x W own (k + 1)
    have h2 := mayRow_len x W k row
    simp only [List.zipIdx_cons, List.map_cons, List.flatten_cons, List.length_append, List.sum_cons]
    omega
theorem mayOwn_sum (x : OutV) (W : Nat) (own : List (List RankA)) : (mayOwn x W own).length ≤ (own.map List.length).sum := mayZip_le x W own 0
end Go.Proofs.Ytekdggdnkmkldaa
