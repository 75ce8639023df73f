/- Arguments of the queue's statements: lists of frames, of bools. -/
import Derived.Test.YtekegbadkafjlaaFrames
import Derived.Test.YtekegbadkafjlaaRead
namespace Go.Proofs.Ytekegbadkafjlaa
set_option linter.unusedVariables false
set_option linter.unusedSimpArgs false
open Go.ChangeShapes Go.WideShapes Go.ChangeAt Go.RowKit

theorem SliceR.row {w : World} {v : Value} {n : Nat} {R : Nat → Value → Prop} (h : SliceR w v n 1 (fun i cs => ∃ u, cs = [u] ∧ R i u)) : ∃ vs : List Value, vs.length = n ∧ Row w v n vs ∧ ∀ i u, vs[i]? = some u → R i u := by
  rcases h with ⟨a, cap, rfl, rfl⟩ | ⟨b, off, cap, rfl, h2, h3, h4, h5⟩
  · exact ⟨[], rfl, .inl ⟨a, cap, rfl, rfl, rfl⟩, fun i u hi => by simp at hi⟩
  · have : ∀ m, m ≤ n → ∃ vs : List Value, vs.length = m ∧ ∀ i, i < m → ∃ u, vs[i]? = some u ∧ R i u ∧ w.cell? ⟨b, off + i, none⟩ = some u := by
      intro m
      induction m with
      | zero => exact fun _ => ⟨[], rfl, fun i hi => by omega⟩
      | succ m ih =>
        intro hm
        obtain ⟨vs, hl, hi⟩ := ih (by omega)
        obtain ⟨cs, _, ⟨u, rfl, hu⟩, hc⟩ := h5 m (by omega)
        have hc0 := hc 0 (by omega)
        rw [Nat.mul_one, Nat.add_zero] at hc0
        refine ⟨vs ++ [u], by simp [hl], fun i him => ?_⟩
        rcases Nat.lt_or_ge i m with h6 | h6
        · obtain ⟨u', b1, b2, b3⟩ := hi i h6
          exact ⟨u', by rw [List.getElem?_append_left (by omega)]; exact b1, b2, b3⟩
        · obtain rfl : i = m := by omega
          exact ⟨u, by rw [List.getElem?_append_right (by omega)]; simp [hl], hu, hc0⟩
    obtain ⟨vs, hl, hi⟩ := this n (Nat.le_refl _)
    refine ⟨vs, hl, .inr ⟨b, off, cap, rfl, h2, h3, h4, fun i him => ?_⟩, fun i u hiu => ?_⟩
    · obtain ⟨u, b1, _, b3⟩ := hi i (by omega)
      rw [b3]; simp [List.getD, b1]
    · have hil := (List.getElem?_eq_some_iff.1 hiu).1
      obtain ⟨u', b1, b2, _⟩ := hi i (by omega)
      rw [hiu] at b1
      obtain rfl := Option.some.inj b1
      exact b2

theorem Frames.fr {w : World} {v : Value} {fs : List (List Int)} (h : Frames w v fs) : Fr w v fs := by
  have h1 := SliceR.row (h.1.mono (R' := fun i cs => ∃ u, cs = [u] ∧ ∃ f, fs[i]? = some f ∧ Bytes w u f) (fun i cs _ _ ⟨f, hf, u, hu, hb⟩ => ⟨u, hu, f, hf, hb⟩))
  obtain ⟨vs, hl, hr, hi⟩ := h1
  refine ⟨vs, hl, hr, fun i f hf => ?_⟩
  have hil : i < vs.length := by have := (List.getElem?_eq_some_iff.1 hf).1; omega
  obtain ⟨f', hf', hb⟩ := hi i vs[i] (List.getElem?_eq_getElem hil)
  rw [hf] at hf'
  obtain rfl := Option.some.inj hf'
  exact ⟨vs[i], List.getElem?_eq_getElem hil, hb⟩

/-- The i-th frame of an argument. -/
theorem Fr.at {w : World} {v : Value} {fs : List (List Int)} (h : Fr w v fs) (i : Nat) (hi : i < fs.length) :
    ∃ b off cap a c, v = .slice (some ⟨b, off, none⟩) fs.length cap ∧ b < w.heap.size ∧ w.cell? ⟨b, off + i, none⟩ = some (.slice a fs[i].length c) ∧ Bytes w (.slice a fs[i].length c) fs[i] ∧ fs[i].length ≤ c := by
  obtain ⟨vs, hl, hr, hv⟩ := h
  obtain ⟨u, hu, hb⟩ := hv i fs[i] (List.getElem?_eq_getElem hi)
  obtain ⟨b, off, cap, e, hc⟩ := hr.get hl hu
  have hlt := World.block_lt_of_cell? _ _ hc
  rcases hb.cases with ⟨a, c, rfl, h0⟩ | ⟨b2, off2, c, rfl, hle, _⟩
  · rw [h0]
    rw [h0] at hb
    exact ⟨b, off, cap, a, c, e, hlt, by simpa using hc, by simpa using hb, by simp⟩
  · exact ⟨b, off, cap, _, c, e, hlt, hc, hb, hle⟩

theorem Bools.at {w : World} {v : Value} {bs : List Bool} (h : Bools w v bs) (i : Nat) (hi : i < bs.length) :
    ∃ b off cap, v = .slice (some ⟨b, off, none⟩) bs.length cap ∧ b < w.heap.size ∧ w.cell? ⟨b, off + i, none⟩ = some (.bool bs[i]) := by
  obtain ⟨vs, hl, hr, hv⟩ := SliceR.row (h.1.mono (R' := fun i cs => ∃ u, cs = [u] ∧ ∃ b, bs[i]? = some b ∧ u = .bool b) (fun i cs _ _ ⟨b, hb, hc⟩ => ⟨_, hc, b, hb, rfl⟩))
  have hil : i < vs.length := by omega
  obtain ⟨b', hb', hu⟩ := hv i vs[i] (List.getElem?_eq_getElem hil)
  obtain ⟨b, off, cap, e, hc⟩ := hr.get hl (List.getElem?_eq_getElem hil)
  rw [List.getElem?_eq_getElem hi] at hb'
  obtain rfl := Option.some.inj hb'
  rw [hu] at hc
  exact ⟨b, off, cap, e, World.block_lt_of_cell? _ _ hc, hc⟩
theorem Bools.form {w : World} {v : Value} {bs : List Bool} (h : Bools w v bs) : ∃ a cap, v = .slice a bs.length cap := by
  rcases h.1 with ⟨a, cap, rfl, h0⟩ | ⟨b, off, cap, rfl, _⟩
  · exact ⟨a, cap, by rw [h0]⟩
  · exact ⟨_, cap, rfl⟩
theorem Fr.form {w : World} {v : Value} {fs : List (List Int)} (h : Fr w v fs) : ∃ a cap, v = .slice a fs.length cap := by
  obtain ⟨vs, hl, hr, hv⟩ := h
  rcases hr with ⟨a, cap, rfl, h0, _⟩ | ⟨b, off, cap, rfl, _⟩
  · exact ⟨a, cap, by rw [h0]⟩
  · exact ⟨_, cap, rfl⟩

end Go.Proofs.Ytekegbadkafjlaa
