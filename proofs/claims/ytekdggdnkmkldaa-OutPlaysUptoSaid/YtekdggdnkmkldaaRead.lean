/- How arguments read, by their types: slices of slices, of structs. -/
import Derived.Test.YtekdggdnkmkldaaFacts
import Derived.ProofKit
import Derived.OpenShut
import Derived.SizedLaws
import Derived.ChangeOld
namespace Go.Proofs.Ytekdggdnkmkldaa
set_option linter.unusedVariables false
set_option linter.unusedSimpArgs false
set_option maxRecDepth 1500
open Go.ChangeShapes Go.WideShapes Go.ChangeAt Go.RowKit

/-- The cells cs read at type t, and nothing in it is too large. -/
def Rd {H : Type} (enc : TypeId × Value → H) (P : Program) (w : World) (base : Nat) (t : TypeId) (cs : List Value) : Prop :=
  ∃ (fuel : Nat) (d : DataW H) (ps : List MemPlace), DataW.trod enc P w base (fun _ => true) true fuel t cs = some (d, ps) ∧ ∀ n ∈ d.weights P t, n ≤ reachBytes

theorem Rd.of_arg {H : Type} {enc : TypeId × Value → H} {P : Program} {w : World} {base : Nat} {v : Value} {d : DataW H} {p : List MemPlace} {ts : List TypeId} {ds : List (DataW H)} {j : Nat} {t : TypeId}
    (h : DataW.Trod enc P w base (fun _ => true) true t v d p) (hsz : (DataW.weightsEach P ts ds).all (· ≤ reachBytes) = true) (hj : ts[j]? = some t) (hd : ds[j]? = some d) : Rd enc P w base t v.cells.toList := by
  obtain ⟨fuel, hf⟩ := h
  refine ⟨fuel, d, p, hf, fun n hn => ?_⟩
  have := List.all_eq_true.1 hsz _ (DataW.weights_mem_each hj hd n hn)
  simpa using this

section
variable {H : Type} {enc : TypeId × Value → H} {P : Program} {w : World} {base : Nat} {t : TypeId} {cs : List Value}

theorem Rd.int {k : IntKind} (ht : P.underlying t = some (.int k)) (h : Rd enc P w base t cs) : ∃ n, cs = [.int k n] ∧ (Lit.int k n).wf = true := by
  obtain ⟨fuel, d, ps, hf, _⟩ := h
  obtain ⟨n, h1, _, h2⟩ := DataW.trod_int ht hf
  exact ⟨n, h1, h2⟩
theorem Rd.bool (ht : P.underlying t = some .bool) (h : Rd enc P w base t cs) : ∃ b, cs = [.bool b] := by
  obtain ⟨fuel, d, ps, hf, _⟩ := h
  obtain ⟨n, h1, _⟩ := DataW.trod_bool ht hf
  exact ⟨n, h1⟩

theorem weightsAll_mem {e : TypeId} : ∀ {l : List (DataW H)} {d : DataW H}, d ∈ l → ∀ n ∈ d.weights P e, n ∈ DataW.weightsAll P e l
  | x :: r, d, hd, n, hn => by
    simp only [DataW.weightsAll, List.mem_append]
    rcases List.mem_cons.1 hd with rfl | h
    · exact .inl hn
    · exact .inr (weightsAll_mem h n hn)

theorem Rd.slice {e : TypeId} (ht : P.underlying t = some (.slice e)) (h : Rd enc P w base t cs) :
    cs = [.slice none 0 0] ∨ ∃ (a : Addr) (len cap : Nat), cs = [.slice (some a) len cap] ∧ len ≤ cap ∧ cap ≤ maxLen ∧ cap * P.bytesOf e ≤ reachBytes ∧
      ∀ i, i < len → ∃ cs', cs'.length = P.cellsOf e ∧ (∀ j, j < P.cellsOf e → w.cell? ((a.add (i * P.cellsOf e)).add j) = cs'[j]?) ∧ Rd enc P w base e cs' := by
  obtain ⟨fuel, d, ps, hf, hw⟩ := h
  rcases DataW.trod_slice ht hf with ⟨h0, _⟩ | ⟨a, len, cap, elems, rest, n, _, rfl, hx, _, hl, hm, hlen, hel, hsp, _⟩
  · exact .inl h0
  right
  simp only [Prod.mk.injEq] at hx
  obtain ⟨rfl, rfl⟩ := hx
  obtain ⟨hr, _⟩ := hsp rfl
  refine ⟨a, len, cap, rfl, hl, hm, ?_, fun i hi => ?_⟩
  · have := hw ((elems.length + rest.length) * P.bytesOf e) (by simp [DataW.weights, ht])
    rw [hlen, hr, show len + (cap - len) = cap by omega] at this
    exact this
  · have hi' := hel i hi
    rw [List.getElem?_eq_getElem (by omega)] at hi'
    obtain ⟨cs', h1, h2⟩ := Option.bind_eq_some_iff.1 hi'
    obtain ⟨_, hlen', hc⟩ := World.cells?_some h1
    refine ⟨cs', hlen', hc, n, _, _, h2, fun k hk => hw k ?_⟩
    simp only [DataW.weights, ht]
    refine List.mem_cons_of_mem _ (List.mem_append.2 (.inl (weightsAll_mem ?_ k hk)))
    exact List.mem_map_of_mem (List.getElem_mem _)

theorem Rd.fields {fs : Array Field} (ht : P.underlying t = some (.struct fs)) (h : Rd enc P w base t cs) :
    cs.length = P.cellsOf t ∧ ∀ (i : Nat) (f : Field), fs[i]? = some f → Rd enc P w base f.type ((cs.drop f.offset).take (P.cellsOf f.type)) := by
  obtain ⟨fuel, d, ps, hf, hw⟩ := h
  obtain ⟨xs, n, _, hx, hl, hlen, hel⟩ := DataW.trod_struct ht hf
  simp only [Prod.mk.injEq] at hx
  obtain ⟨rfl, rfl⟩ := hx
  refine ⟨hl, fun i f hi => ?_⟩
  have hil : i < fs.size := (Array.getElem?_eq_some_iff.1 hi).1
  have h2 := hel i f hi
  rw [List.getElem?_eq_getElem (by omega)] at h2
  refine ⟨n, _, _, h2, fun k hk => hw k ?_⟩
  simp only [DataW.weights, ht]
  refine DataW.weights_mem_each (j := i) (t := f.type) (d := (xs[i]'(by omega)).1) ?_ ?_ k hk
  · rw [List.getElem?_map, Array.getElem?_toList, hi]; rfl
  · rw [List.getElem?_map, List.getElem?_eq_getElem (by omega)]; rfl
end

/-- A slice of n elements, k cells each: R says what the i-th one's cells are. -/
def SliceR (w : World) (v : Value) (n k : Nat) (R : Nat → List Value → Prop) : Prop :=
  (∃ a cap, v = .slice a 0 cap ∧ n = 0) ∨ ∃ b off cap, v = .slice (some ⟨b, off, none⟩) n cap ∧ n ≤ cap ∧ cap ≤ maxLen ∧ b < w.heap.size ∧
    ∀ i, i < n → ∃ cs, cs.length = k ∧ R i cs ∧ ∀ j, j < k → w.cell? ⟨b, off + i * k + j, none⟩ = cs[j]?

theorem addr_add (b off i : Nat) : (⟨b, off, none⟩ : Addr).add i = ⟨b, off + i, none⟩ := by unfold Addr.add; split <;> simp_all

theorem Rd.sliceR {H : Type} {enc : TypeId × Value → H} {P : Program} {w : World} {base : Nat} {t e : TypeId} {v : Value} {k : Nat} (ht : P.underlying t = some (.slice e)) (hk : P.cellsOf e = k) (hk0 : 0 < k)
    (h : Rd enc P w base t [v]) : ∃ n cap, (∃ a, v = .slice a n cap) ∧ n ≤ cap ∧ cap * P.bytesOf e ≤ reachBytes ∧ SliceR w v n k (fun _ cs => Rd enc P w base e cs) := by
  rcases h.slice ht with h0 | ⟨a, len, cap, h0, hl, hm, hw, hel⟩
  · obtain rfl : v = .slice none 0 0 := by simpa using h0
    exact ⟨0, 0, ⟨none, rfl⟩, Nat.le_refl _, by simp, .inl ⟨none, 0, rfl, rfl⟩⟩
  · obtain rfl : v = .slice (some a) len cap := by simpa using h0
    refine ⟨len, cap, ⟨_, rfl⟩, hl, hw, ?_⟩
    by_cases hlen : len = 0
    · subst hlen
      exact .inl ⟨_, _, rfl, rfl⟩
    · obtain ⟨b, off, spot⟩ := a
      obtain ⟨cs0, hc0, hcc0, _⟩ := hel 0 (by omega)
      have h1 := hcc0 0 (by omega)
      rw [List.getElem?_eq_getElem (by omega)] at h1
      have hspot : spot = none := by simpa [Addr.add] using World.cell?_spot h1
      subst hspot
      refine .inr ⟨b, off, cap, rfl, hl, hm, ?_, fun i hi => ?_⟩
      · have := World.block_lt_of_cell? _ _ h1
        simpa [addr_add] using this
      · obtain ⟨cs, hcl, hcc, hrd⟩ := hel i hi
        subst hk
        exact ⟨cs, hcl, hrd, fun j hj => by have := hcc j hj; rwa [addr_add, addr_add] at this⟩

theorem SliceR.mono {w : World} {v : Value} {n k : Nat} {R R' : Nat → List Value → Prop} (h : SliceR w v n k R) (hr : ∀ i cs, i < n → cs.length = k → R i cs → R' i cs) : SliceR w v n k R' := by
  rcases h with h | ⟨b, off, cap, h1, h2, h3, h4, h5⟩
  · exact .inl h
  · refine .inr ⟨b, off, cap, h1, h2, h3, h4, fun i hi => ?_⟩
    obtain ⟨cs, a1, a2, a3⟩ := h5 i hi
    exact ⟨cs, a1, hr i cs hi a1 a2, a3⟩

/-- .. with one value for each element that R speaks of: a list of them. -/
theorem SliceR.choose {α : Type} {w : World} {v : Value} {n k : Nat} {R : α → List Value → Prop} (h : SliceR w v n k (fun _ cs => ∃ a, R a cs)) : ∃ l : List α, l.length = n ∧ SliceR w v n k (fun i cs => ∃ a, l[i]? = some a ∧ R a cs) := by
  rcases h with ⟨a, cap, h1, rfl⟩ | ⟨b, off, cap, h1, h2, h3, h4, h5⟩
  · exact ⟨[], rfl, .inl ⟨a, cap, h1, rfl⟩⟩
  · have : ∀ m, m ≤ n → ∃ l : List α, l.length = m ∧ ∀ i, i < m → ∃ cs, cs.length = k ∧ (∃ a, l[i]? = some a ∧ R a cs) ∧ ∀ j, j < k → w.cell? ⟨b, off + i * k + j, none⟩ = cs[j]? := by
      intro m
      induction m with
      | zero => exact fun _ => ⟨[], rfl, fun i hi => by omega⟩
      | succ m ih =>
        intro hm
        obtain ⟨l, hl, hi⟩ := ih (by omega)
        obtain ⟨cs, a1, ⟨a, a2⟩, a3⟩ := h5 m (by omega)
        refine ⟨l ++ [a], by simp [hl], fun i him => ?_⟩
        rcases Nat.lt_or_ge i m with h6 | h6
        · obtain ⟨cs', b1, ⟨a', b2, b3⟩, b4⟩ := hi i h6
          exact ⟨cs', b1, ⟨a', by rw [List.getElem?_append_left (by omega)]; exact b2, b3⟩, b4⟩
        · obtain rfl : i = m := by omega
          exact ⟨cs, a1, ⟨a, by rw [List.getElem?_append_right (by omega)]; simp [hl], a2⟩, a3⟩
    obtain ⟨l, hl, hi⟩ := this n (Nat.le_refl _)
    exact ⟨l, hl, .inr ⟨b, off, cap, h1, h2, h3, h4, hi⟩⟩

theorem wf_u8' {n : Int} (h : (Lit.int .u8 n).wf = true) : 0 ≤ n ∧ n < 256 := by
  have h1 : IntKind.u8.min = 0 := rfl
  have h2 : IntKind.u8.max = 255 := rfl
  simp only [Lit.wf, Bool.and_eq_true, decide_eq_true_eq] at h
  omega

theorem bytesU8 : Try.prog.bytesOf 5 = 1 := by kernel_rfl
theorem cellsU8 : Try.prog.cellsOf 5 = 1 := by kernel_rfl
theorem cellsBytes : Try.prog.cellsOf 41 = 1 := by kernel_rfl

theorem Rd.bytes {H : Type} {enc : TypeId × Value → H} {w : World} {base : Nat} {v : Value} (h : Rd enc Try.prog w base 41 [v]) : ∃ xs, Bytes w v xs := by
  obtain ⟨n, cap, ⟨a, rfl⟩, hl, hw, hs⟩ := h.sliceR Try.underlying41 cellsU8 (by omega)
  rw [bytesU8] at hw
  have hs2 := hs.mono (R' := fun _ cs => ∃ x : Int, cs = [Value.int .u8 x] ∧ 0 ≤ x ∧ x < 256) (fun i cs _ _ hr => by
    obtain ⟨x, h1, h2⟩ := hr.int Try.underlying5
    exact ⟨x, h1, wf_u8' h2⟩)
  obtain ⟨l, hlen, hs3⟩ := hs2.choose
  subst hlen
  refine ⟨l, ?_, ?_, by simp only [reachBytes] at hw; omega⟩
  · rcases hs3 with ⟨a', cap', h1, h2⟩ | ⟨b, off, cap', h1, h2, h3, h4, h5⟩
    · have hl0 : l = [] := List.eq_nil_of_length_eq_zero h2
      subst hl0
      exact .inl ⟨_, _, rfl, rfl, rfl⟩
    · refine .inr ⟨b, off, cap', h1, h2, h3, h4, fun i hi => ?_⟩
      have hi' : i < l.length := by simpa using hi
      obtain ⟨cs, _, ⟨x, hx, rfl, _⟩, hc⟩ := h5 i hi'
      have := hc 0 (by omega)
      rw [Nat.mul_one, Nat.add_zero] at this
      rw [this]
      simp [List.getD, hx]
  · intro x hx
    obtain ⟨i, hi, rfl⟩ := List.getElem_of_mem hx
    rcases hs3 with ⟨a', cap', h1, h2⟩ | ⟨b, off, cap', h1, h2, h3, h4, h5⟩
    · omega
    · obtain ⟨cs, _, ⟨x, hx, _, h6⟩, _⟩ := h5 i hi
      rw [List.getElem?_eq_getElem hi] at hx
      simp at hx
      subst hx
      exact h6

/-- A slice of byte slices. -/
def Frames (w : World) (v : Value) (fs : List (List Int)) : Prop :=
  SliceR w v fs.length 1 (fun i cs => ∃ f, fs[i]? = some f ∧ ∃ u, cs = [u] ∧ Bytes w u f) ∧ fs.length * 24 ≤ 140737488351232

theorem bytesBytes : Try.prog.bytesOf 41 = 24 := by kernel_rfl
theorem Rd.frames {H : Type} {enc : TypeId × Value → H} {w : World} {base : Nat} {v : Value} (h : Rd enc Try.prog w base 52 [v]) : ∃ fs, Frames w v fs := by
  obtain ⟨n, cap, ⟨a, rfl⟩, hl, hw, hs⟩ := h.sliceR Try.underlying52 cellsBytes (by omega)
  rw [bytesBytes] at hw
  have hs2 := hs.mono (R' := fun _ cs => ∃ f, ∃ u, cs = [u] ∧ Bytes w u f) (fun i cs _ hc hr => by
    obtain ⟨u, rfl⟩ : ∃ u, cs = [u] := by
      match cs, hc with
      | [u], _ => exact ⟨u, rfl⟩
    obtain ⟨f, hf⟩ := hr.bytes
    exact ⟨f, u, rfl, hf⟩)
  obtain ⟨l, hlen, hs3⟩ := hs2.choose
  subst hlen
  exact ⟨l, hs3, by simp only [reachBytes] at hw; omega⟩

/-- A slice of bools. -/
def Bools (w : World) (v : Value) (bs : List Bool) : Prop := SliceR w v bs.length 1 (fun i cs => ∃ b, bs[i]? = some b ∧ cs = [Value.bool b]) ∧ bs.length ≤ 140737488351232

theorem cells_one {v : Value} {a : Option Addr} {n cap : Nat} (h : v = .slice a n cap) : v.cells.toList = [v] := by subst h; rfl

set_option maxRecDepth 100000 in
theorem open_frames {H : Type} {enc : TypeId × Value → H} {W : World} {base b' : Nat} {v : Value} {d : DataW H} {p : List MemPlace} {ts : List TypeId} {ds : List (DataW H)} {j : Nat}
    (hv : Value.okWide Try.prog W .any b' 52 v) (h : DataW.Trod enc Try.prog W base (fun _ => true) true 52 v d p)
    (hsz : (DataW.weightsEach Try.prog ts ds).all (· ≤ reachBytes) = true) (hj : ts[j]? = some 52) (hd : ds[j]? = some d) : ∃ fs, Frames W v fs := by
  obtain ⟨a, len, cap, hvv⟩ := okWide_slice Try.underlying52 hv
  have := Rd.of_arg h hsz hj hd
  rw [cells_one hvv] at this
  exact this.frames


end Go.Proofs.Ytekdggdnkmkldaa
