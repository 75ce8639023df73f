/- Lists of frames that a call owns and cuts at their head. -/
import Derived.Test.YtekdggdnkmkldaaGreatFrames
import Derived.Test.YtekdggdnkmkldaaGreatOwn
namespace Go.Proofs.YtekdggdnkmkldaaGreat
set_option linter.unusedVariables false
set_option linter.unusedSimpArgs false
set_option maxRecDepth 1500
open Go.RowKit

/-- A slice of byte slices that the call appends to and cuts: the frames' blocks lie in F, its own block does not. -/
def OwnF (w : World) (v : Value) (F : Nat → Prop) (fs : List (List Int)) : Prop :=
  ∃ vs : List Value, OwnS w 34 1 v fs.length vs ∧ (∀ (i : Nat) (f : List Int), fs[i]? = some f → ∃ u, vs[i]? = some u ∧ Bytes w u f ∧ ∀ k, u.ownBlock = some k → f ≠ [] → F k) ∧
    ∀ k, v.ownBlock = some k → ¬ F k

theorem row_of_ownS {w : World} {e : TypeId} {v : Value} {n : Nat} {vs : List Value} (h : OwnS w e 1 v n vs) : Row w v n vs := by
  have hn : vs.length = n := by have := h.1; omega
  rcases h.2 with ⟨rfl, h0⟩ | ⟨g, off, cap, cur, rfl, hg, hnc, hcm, hcs, hcell⟩
  · exact .inl ⟨none, 0, rfl, h0, List.eq_nil_of_length_eq_zero (by omega)⟩
  · refine .inr ⟨g, off, cap, rfl, hnc, hcm, heap_lt hg, fun i hi => ?_⟩
    rw [cell_of_heap hg, hcell i (by omega), List.getElem?_eq_getElem hi]
    simp [List.getD, List.getElem?_eq_getElem hi]

theorem OwnF.fr {w : World} {v : Value} {F : Nat → Prop} {fs : List (List Int)} (h : OwnF w v F fs) : Fr w v fs := by
  obtain ⟨vs, h1, h2, h3⟩ := h
  refine ⟨vs, by have := h1.1; omega, row_of_ownS h1, fun i f hf => ?_⟩
  obtain ⟨u, hu, hb, _⟩ := h2 i f hf
  exact ⟨u, hu, hb⟩
theorem OwnF.nil (w : World) (F : Nat → Prop) : OwnF w (.slice none 0 0) F [] :=
  ⟨[], OwnS.nil _ _ _, fun i f hf => by simp at hf, fun k hk => by simp [Value.ownBlock] at hk⟩
theorem OwnF.lt {w : World} {v : Value} {F : Nat → Prop} {fs : List (List Int)} (h : OwnF w v F fs) : ∀ k, v.ownBlock = some k → k < w.heap.size := by
  obtain ⟨vs, h1, _⟩ := h
  exact fun k hk => h1.lt k hk
theorem OwnF.out {w : World} {v : Value} {F : Nat → Prop} {fs : List (List Int)} (h : OwnF w v F fs) : ∀ k, v.ownBlock = some k → ¬ F k := by
  obtain ⟨_, _, _, h3⟩ := h
  exact h3
theorem OwnF.form {w : World} {v : Value} {F : Nat → Prop} {fs : List (List Int)} (h : OwnF w v F fs) : ∃ a cap, v = .slice a fs.length cap := by
  obtain ⟨vs, h1, _⟩ := h
  exact h1.form
theorem OwnF.keeps {w w' : World} {v : Value} {F F' T : Nat → Prop} {fs : List (List Int)} (h : OwnF w v F fs) (e : Ext T w w') (hv : ∀ k, v.ownBlock = some k → ¬ T k ∧ ¬ F' k) (hF : ∀ k, F k → ¬ T k) (hFF : ∀ k, F k → F' k) : OwnF w' v F' fs := by
  obtain ⟨vs, h1, h2, h3⟩ := h
  refine ⟨vs, h1.ext e (fun k hk => (hv k hk).1), fun i f hf => ?_, fun k hk => (hv k hk).2⟩
  obtain ⟨u, hu, hb, hk⟩ := h2 i f hf
  exact ⟨u, hu, hb.ext2 e (fun k h4 h5 => hF k (hk k h4 h5)), fun k h4 h5 => hFF k (hk k h4 h5)⟩
theorem OwnF.grows {w w' : World} {v : Value} {F : Nat → Prop} {fs : List (List Int)} (h : OwnF w v F fs) (e : Grows w w') : OwnF w' v F fs :=
  h.keeps e (fun k hk => ⟨fun h => h, h.out k hk⟩) (fun _ _ h => h) (fun _ h => h)

/-- Behind 'append(in, x)', x bytes in blocks of F'. -/
theorem OwnF.snoc {w w' : World} {v v' u : Value} {F F' : Nat → Prop} {fs : List (List Int)} {f : List Int} {vs : List Value}
    (hfs : ∀ (i : Nat) (g : List Int), fs[i]? = some g → ∃ u, vs[i]? = some u ∧ Bytes w u g ∧ ∀ k, u.ownBlock = some k → g ≠ [] → F k) (hlen : vs.length = fs.length) (hv : ∀ k, v.ownBlock = some k → ¬ F' k)
    (hFF : ∀ k, F k → F' k) (hFs : ∀ k, F' k → k < w.heap.size) (hu : Bytes w u f) (huF : ∀ k, u.ownBlock = some k → f ≠ [] → F' k)
    (hown : OwnS w' 34 1 v' (fs.length + 1) (vs ++ [u])) (hgr : w.grownBy w' v.ownBlock) (hblk : v'.ownBlock = v.ownBlock ∨ v'.ownBlock = some w.heap.size) : OwnF w' v' F' (fs ++ [f]) := by
  have e : Ext (fun k => v.ownBlock = some k) w w' := Ext.of_grown hgr (fun k hk => hk)
  refine ⟨vs ++ [u], by simpa using hown, fun i g hg => ?_, fun k hk hF => ?_⟩
  · rcases Nat.lt_or_ge i fs.length with hi | hi
    · rw [List.getElem?_append_left hi] at hg
      obtain ⟨x, hx, hb, hk⟩ := hfs i g hg
      exact ⟨x, by rw [List.getElem?_append_left (by omega)]; exact hx, hb.ext2 e (fun k h1 h2 h3 => hv k h3 (hFF k (hk k h1 h2))), fun k h1 h2 => hFF k (hk k h1 h2)⟩
    · rw [List.getElem?_append_right hi] at hg
      obtain rfl : i = fs.length := by
        rcases Nat.lt_or_ge 0 (i - fs.length) with h1 | h1
        · rw [List.getElem?_eq_none (by simp; omega)] at hg; cases hg
        · omega
      simp at hg
      subst hg
      exact ⟨u, by rw [List.getElem?_append_right (by omega)]; simp [hlen], hu.ext2 e (fun k h1 h2 h3 => hv k h3 (huF k h1 h2)), huF⟩
  · rcases hblk with h1 | h1
    · rw [h1] at hk; exact hv k hk hF
    · rw [h1] at hk
      simp only [Option.some.injEq] at hk
      have := hFs k hF
      omega

/-- The first frame struck. -/
theorem OwnF.tail {w : World} {g off cap : Nat} {F : Nat → Prop} {f : List Int} {fs : List (List Int)} {n : Nat} (h : OwnF w (.slice (some ⟨g, off, none⟩) n cap) F (f :: fs)) (hn : n = fs.length + 1) {a : Option Addr} (ha : 1 < cap → a = some ⟨g, off + 1, none⟩) (ha1 : cap = 1 → a = some ⟨g, off, none⟩) :
    OwnF w (.slice a (n - 1) (cap - 1)) F fs := by
  subst hn
  obtain ⟨vs, h1, h2, h3⟩ := h
  have hcap : 1 ≤ cap := by
    rcases h1.2 with ⟨h0, _⟩ | ⟨_, _, _, _, h0, _, hnc, _⟩
    · cases h0
    · simp only [Value.slice.injEq] at h0
      simp only [List.length_cons] at hnc
      omega
  refine ⟨vs.drop 1, ?_, fun i g hg => ?_, fun k hk => ?_⟩
  · have := h1.tail (by simp) ha ha1
    simpa using this
  · obtain ⟨u, hu, hb⟩ := h2 (i + 1) g (by simpa using hg)
    exact ⟨u, by rw [List.getElem?_drop, Nat.add_comm]; exact hu, hb⟩
  · rcases Nat.lt_or_ge 1 cap with h4 | h4
    · obtain rfl := ha h4
      exact h3 k hk
    · obtain rfl := ha1 (by omega)
      exact h3 k hk

end Go.Proofs.YtekdggdnkmkldaaGreat
