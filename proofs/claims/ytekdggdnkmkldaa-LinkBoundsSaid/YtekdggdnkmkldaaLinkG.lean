/- link: parts of memory that a round needs: a slice, a map of places that are wanted; a part among others; the argument. -/
import Derived.Test.YtekdggdnkmkldaaLinkF
import Derived.Test.YtekdggdnkmkldaaRead
import Derived.Maps.OwnSet
namespace Go.Proofs.Ytekdggdnkmkldaa
set_option linter.unusedVariables false
set_option linter.unusedSimpArgs false
set_option maxRecDepth 1500
open Go.ChangeShapes Go.WideShapes Go.ChangeAt Go.RowKit Go.Maps
open Go.WideMaps (KeyLaw)

/-- S X: X among other things. -/
structure Ctx (S : (Frm → World → Prop) → Frm → World → Prop) : Prop where
  parts : ∀ {X}, Parts X → Parts (S X)
  foc : ∀ {X : Frm → World → Prop} {z : Frm} {w : World}, S X z w → ∃ F : Nat → Prop, X ⟨w, F⟩ w ∧ (∀ k, F k → z.ok k ∧ k < w.heap.size) ∧ ∀ {X' : Frm → World → Prop} (_ : Parts X') {w' : World}, X' ⟨w, F⟩ w' → S X' z w'
theorem Ctx.left {B : Frm → World → Prop} (pb : Parts B) : Ctx (fun X => Star X B) where
  parts := fun p => parts_star p pb
  foc := fun {X z w} h => by
    obtain ⟨F, G, h1, h2, h3, h4, h5⟩ := h
    exact ⟨F, h1, fun k hk => h4 k (.inl hk), fun p w' h' => Star.stepL p pb h2 h3 h4 h5 h'⟩
theorem Ctx.right {A : Frm → World → Prop} (pa : Parts A) : Ctx (fun X => Star A X) where
  parts := fun p => parts_star pa p
  foc := fun {X z w} h => by
    obtain ⟨F, h1, h2, h3⟩ := (Ctx.left pa).foc h.comm
    exact ⟨F, h1, h2, fun p w' h' => (h3 p h').comm⟩
theorem Ctx.comp {S T : (Frm → World → Prop) → Frm → World → Prop} (s : Ctx S) (t : Ctx T) : Ctx (fun X => S (T X)) where
  parts := fun p => s.parts (t.parts p)
  foc := fun {X z w} h => by
    obtain ⟨F, h1, h2, h3⟩ := s.foc h
    obtain ⟨G, g1, g2, g3⟩ := t.foc h1
    refine ⟨G, g1, fun k hk => ?_, fun p w' h' => h3 (t.parts p) (g3 p h')⟩
    obtain ⟨g4, g5⟩ := g2 k hk
    exact ⟨g4.elim (fun h => absurd g5 (Nat.not_lt.2 h)) (fun h => (h2 k h).1), g5⟩

/-- A slice that the call owns. -/
def SlO (E : TypeId) (k : Nat) (v : Value) (n : Nat) (cs : List Value) : Frm → World → Prop := fun z w => OwnS w E k v n cs ∧ (∀ b, v.ownBlock = some b → z.ok b) ∧ Ext z.F z.wd w
theorem parts_sl (E : TypeId) (k : Nat) (v : Value) (n : Nat) (cs : List Value) : Parts (SlO E k v n cs) where
  base := fun {z w} h => ⟨fun b => v.ownBlock = some b, ⟨h.1, fun b hb => .inr hb, Ext.refl _ _⟩, fun b hb => ⟨h.2.1 b hb, h.1.lt b hb⟩⟩
  gw := fun h => h.2.2
  kept := fun {w w' F T} h e hT => by
    have hf : ∀ b, v.ownBlock = some b → F b := fun b hb => (h.2.1 b hb).elim (fun g => absurd (h.1.lt b hb) (Nat.not_lt.2 g)) id
    exact ⟨h.1.ext e (fun b hb => hT b (hf b hb)), fun b hb => .inr (hf b hb), Ext.refl _ _⟩
  lift := fun h hF g => ⟨h.1, fun b hb => Frm.okOf (h.2.1 b hb) hF g, Frm.step g h.2.2 hF⟩
theorem SlO.nil (E : TypeId) (k : Nat) (z : Frm) (w : World) (g : Ext z.F z.wd w) : SlO E k (.slice none 0 0) 0 [] z w := ⟨OwnS.nil _ _ _, fun b hb => by simp [Value.ownBlock] at hb, g⟩
theorem SlO.append {E : TypeId} {k : Nat} {v v' : Value} {n m : Nat} {cs news : List Value} {F : Nat → Prop} {w w1 w3 : World} (h : SlO E k v n cs ⟨w, F⟩ w) (g : Grows w w1) (ho : OwnS w3 E k v' (n + m) (cs ++ news)) (hg : w1.grownBy w3 v.ownBlock) (hb : v'.ownBlock = v.ownBlock ∨ v'.ownBlock = some w1.heap.size) : SlO E k v' (n + m) (cs ++ news) ⟨w, F⟩ w3 := by
  have e : Ext (fun b => v.ownBlock = some b) w1 w3 := Ext.of_grown hg (fun k hk => hk)
  refine ⟨ho, fun b hb' => ?_, Frm.step (z := ⟨w, F⟩) (Frm.step (z := ⟨w, F⟩) (Ext.refl _ _) g (fun _ h => h.elim)) e (fun b hb' => h.2.1 b hb')⟩
  rcases hb with hb | hb
  · exact h.2.1 b (hb ▸ hb')
  · rw [hb] at hb'
    exact .inl (by simp only [Option.some.injEq] at hb'; have := g.size; show w.heap.size ≤ b; omega)

/-- The map of the places of L, each with a 1. -/
def MapW (b : Nat) (L : List PlaceV) : Frm → World → Prop := fun z w => (∃ D : DataW Unit, w.ownsMap Try.prog 31 (plainElem Try.prog 3) b L.length D ∧ Tidy D ∧ size D = L.length ∧
    ∀ p : PlaceV, p.okay → ∀ kl, keyOf Try.prog 31 (.agg #[.int .i64 p.flow, .int .u64 p.gen]) = some kl → has D kl = decide (p ∈ L) ∧ D.atKey kl (.lit (.int .i64 0)) = .lit (.int .i64 (if p ∈ L then 1 else 0))) ∧ z.ok b ∧ Ext z.F z.wd w
theorem MapW.lt {b : Nat} {L : List PlaceV} {z : Frm} {w : World} (h : MapW b L z w) : b < w.heap.size := by
  obtain ⟨⟨D, h1, _⟩, _⟩ := h
  exact h1.lt
theorem parts_mapw (b : Nat) (L : List PlaceV) : Parts (MapW b L) where
  base := fun {z w} h => ⟨fun k => k = b, ⟨h.1, .inr rfl, Ext.refl _ _⟩, fun k hk => by subst hk; exact ⟨h.2.1, h.lt⟩⟩
  gw := fun h => h.2.2
  kept := fun {w w' F T} h e hT => by
    have hf : F b := h.2.1.elim (fun g => absurd h.lt (Nat.not_lt.2 g)) id
    obtain ⟨⟨D, h1, h2⟩, _⟩ := h
    exact ⟨⟨D, e.ownsMapP h1 (hT b hf), h2⟩, .inr hf, Ext.refl _ _⟩
  lift := fun h hF g => ⟨h.1, Frm.okOf h.2.1 hF g, Frm.step g h.2.2 hF⟩
theorem MapW.made (w : World) : MapW w.heap.size [] (Frm.of w) (w.alloc (.map #[] 0)) :=
  ⟨⟨_, World.ownsMap_made w _ _ _, tidy_empty, rfl, fun p _ kl _ => ⟨by simp [has], by simp; rfl⟩⟩, .inl (Nat.le_refl _), (Ext.refl _ _).alloc _⟩
theorem MapW.put {b : Nat} {L : List PlaceV} {F : Nat → Prop} {w w' : World} {D : DataW Unit} (h2 : Tidy D) (h4 : size D = L.length) (h3 : ∀ p : PlaceV, p.okay → ∀ kl, keyOf Try.prog 31 (.agg #[.int .i64 p.flow, .int .u64 p.gen]) = some kl → has D kl = decide (p ∈ L) ∧ D.atKey kl (.lit (.int .i64 0)) = .lit (.int .i64 (if p ∈ L then 1 else 0)))
    (p : PlaceV) (hp : p.okay) (hn : p ∉ L) {kl : Lit} (hkl : keyOf Try.prog 31 (.agg #[.int .i64 p.flow, .int .u64 p.gen]) = some kl) (h1 : w'.ownsMap Try.prog 31 (plainElem Try.prog 3) b (L.length + 1) (D.put kl (.lit (.int .i64 1)))) (hg : w.grownBy w' (some b)) (hF : F b) : MapW b (L ++ [p]) ⟨w, F⟩ w' := by
  have hk := keyedPl.key hkl
  have hh : has D kl = false := by rw [(h3 p hp kl hkl).1]; simpa using hn
  refine ⟨⟨_, by rw [List.length_append]; exact h1, h2.put hk _, by rw [size_put h2, hh, List.length_append, h4]; rfl, fun z hz kl' hkl' => ?_⟩, .inr hF, Frm.step (z := ⟨w, F⟩) (Ext.refl _ _) (Ext.of_grown (S := fun k => k = b) hg (fun k hk => (Option.some.inj hk).symm)) (fun k hk => .inr (hk ▸ hF))⟩
  by_cases e : z = p
  · subst e
    rw [hkl] at hkl'
    cases hkl'
    rw [has_put_same h2.isMap hk, atKey_put_same h2.isMap hk, if_pos (by simp)]
    exact ⟨by simp, rfl⟩
  · have hne : kl' ≠ kl := by
      rintro rfl
      have h9 := keyedPl.inj hkl' hkl
      simp only [Value.agg.injEq, Array.mk.injEq, List.cons.injEq, Value.int.injEq, true_and, and_true] at h9
      exact e (PlaceV.ext' h9.1 (by have := h9.2; omega))
    have hm : z ∈ L ++ [p] ↔ z ∈ L := by simp [e]
    rw [has_put_other hne, atKey_put_other hne, (h3 z hz kl' hkl').1, (h3 z hz kl' hkl').2]
    simp only [hm, and_self]
theorem mapTi : MapT 59 3 .i64 := ⟨Try.underlying59, Try.underlying3, fun w => by kernel_rfl⟩
theorem MapW.look {b : Nat} {L : List PlaceV} {z : Frm} {w : World} (h : MapW b L z w) (p : PlaceV) (hp : p.okay) (hm : p ∈ L) : (Instr.lookup 59 (.map (some b)) (.agg #[.int .i64 p.flow, .int .u64 p.gen]) false).run Try.prog w = .ok (.int .i64 1) w := by
  obtain ⟨⟨D, h1, h2, _, h3⟩, _⟩ := h
  have h4 : MapQ 3 .i64 w b L.length (fun p => if p ∈ L then 1 else 0) := ⟨D, h1, h2.isMap, fun p hp kl hk => (h3 p hp kl hk).2⟩
  rw [h4.look mapTi p hp, if_pos hm]
theorem MapW.len {b : Nat} {L : List PlaceV} {z : Frm} {w : World} (h : MapW b L z w) (ty : TypeId) : (Builtin.len_ #[59] ty #[.map (some b)]).run Try.prog w = .ok (.int .i64 (L.length : Nat)) w := by
  obtain ⟨⟨D, h1, _, h4, _⟩, _⟩ := h
  rw [h1.len Try.underlying59 ty, h4]

/-- Cells of ranks. -/
def acells (l : List RankA) : List Value := l.flatMap RankA.cells
theorem acells_append (a b : List RankA) : acells (a ++ b) = acells a ++ acells b := List.flatMap_append
theorem acells_at : ∀ (l : List RankA) (i : Nat) (hi : i < l.length) (j : Nat), j < 2 → (acells l)[i * 2 + j]? = l[i].cells[j]?
  | r :: rest, 0, _, j, hj => by
    show (r.cells ++ acells rest)[0 * 2 + j]? = _
    rw [List.getElem?_append_left (by simp [RankA.cells]; omega)]
    simp
  | r :: rest, i + 1, hi, j, hj => by
    show (r.cells ++ acells rest)[(i + 1) * 2 + j]? = _
    have h2 : r.cells.length = 2 := rfl
    rw [List.getElem?_append_right (by omega), h2, show (i + 1) * 2 + j - 2 = i * 2 + j by omega]
    exact acells_at rest i (by simpa using hi) j hj
theorem rs_of_sl {v : Value} {l : List RankA} {w : World} {n : Nat} (h : OwnS w 62 2 v n (acells l)) (hn : n = l.length) (hok : ∀ r ∈ l, r.okay) (hl : l.length ≤ 1000) : Rs w v l := by
  subst hn
  refine ⟨?_, by omega⟩
  rcases h.2 with ⟨rfl, h0⟩ | ⟨g, off, cap, cur, rfl, hg, h1, h2, h3, h4⟩
  · exact .inl ⟨none, 0, rfl, h0⟩
  · refine .inr ⟨g, off, cap, rfl, h1, h2, heap_lt hg, fun i hi => ⟨l[i].cells, rfl, ⟨l[i], List.getElem?_eq_getElem hi, rfl, hok _ (List.getElem_mem hi)⟩, fun j hj => ?_⟩⟩
    rw [cell_of_heap hg, show off + i * 2 + j = off + (i * 2 + j) by omega, h4 _ (by omega)]
    exact acells_at l i hi j hj
theorem rss_two {w : World} {g : Nat} {v0 v1 : Value} {ty : TypeId} {l0 l1 : List RankA} (hb : w.heap[g]? = some (.cells #[v0, v1] ty (0, 0))) (h0 : Rs w v0 l0) (h1 : Rs w v1 l1) : Rss w (.slice (some ⟨g, 0, none⟩) 2 2) [l0, l1] := by
  refine ⟨⟨_, _, rfl⟩, fun i hi => ?_⟩
  have hi2 : i = 0 ∨ i = 1 := by simp at hi; omega
  rcases hi2 with rfl | rfl
  · exact ⟨g, 0, 2, v0, rfl, heap_lt hb, by rw [cell_of_heap hb]; rfl, h0⟩
  · exact ⟨g, 0, 2, v1, rfl, heap_lt hb, by rw [cell_of_heap hb]; rfl, h1⟩

/-- The argument. -/
def RoundIs (_ : World) (v : Value) (rv : RoundV) : Prop := ∃ cs : Array Value, v = .agg cs ∧ (∀ f i, f < 2 → i < 20 → cs[f * 20 + i]? = some (.int .u8 (rv.own f i : Nat))) ∧ (∀ f i, f < 2 → i < 20 → cs[40 + (f * 20 + i)]? = some (.int .u8 (rv.told f i : Nat))) ∧ (∀ f, f < 2 → cs[80 + f]? = some (.int .u8 (rv.base f : Nat))) ∧ cs[82]? = some (.int .u8 (rv.window : Nat)) ∧ rv.window < 256 ∧ rv.okay
def Rt {H : Type} (enc : TypeId × Value → H) (w : World) (base : Nat) (t : TypeId) (cs : List Value) : Prop := ∃ fuel x, DataW.trod enc Try.prog w base (fun _ => true) true fuel t cs = some x
theorem drop_take_get {cs : List Value} {a n i : Nat} {v : Value} (h : ((cs.drop a).take n)[i]? = some v) : cs[a + i]? = some v := by
  rw [List.getElem?_take] at h
  split at h
  · rw [List.getElem?_drop] at h
    exact h
  · cases h
section
variable {H : Type} {enc : TypeId × Value → H} {w : World} {base : Nat} {t : TypeId} {cs : List Value}
theorem Rt.array {n : Nat} {e : TypeId} (ht : Try.prog.underlying t = some (.array n e)) (h : Rt enc w base t cs) (i : Nat) (hi : i < n) : Rt enc w base e ((cs.drop (i * Try.prog.cellsOf e)).take (Try.prog.cellsOf e)) := by
  obtain ⟨fuel, x, hf⟩ := h
  obtain ⟨xs, m, _, _, _, hl, hel⟩ := DataW.trod_array ht hf
  exact ⟨m, xs[i]'(by omega), by rw [hel i hi, List.getElem?_eq_getElem (by omega)]⟩
theorem Rt.fields {fs : Array Field} (ht : Try.prog.underlying t = some (.struct fs)) (h : Rt enc w base t cs) (i : Nat) (f : Field) (hf : fs[i]? = some f) : Rt enc w base f.type ((cs.drop f.offset).take (Try.prog.cellsOf f.type)) := by
  obtain ⟨fuel, x, hf0⟩ := h
  obtain ⟨xs, n, _, hx, hl, hlen, hel⟩ := DataW.trod_struct ht hf0
  have hil : i < fs.size := (Array.getElem?_eq_some_iff.1 hf).1
  exact ⟨n, xs[i]'(by omega), by rw [hel i f hf, List.getElem?_eq_getElem (by omega)]⟩
theorem Rt.u8 (h : Rt enc w base 5 cs) : ∃ n : Nat, cs[0]? = some (.int .u8 (n : Nat)) ∧ n < 256 := by
  obtain ⟨fuel, x, hf⟩ := h
  obtain ⟨n, h1, _, h2⟩ := DataW.trod_int Try.underlying5 hf
  obtain ⟨b1, b2⟩ := wf_u8' h2
  obtain ⟨m, rfl⟩ := Int.eq_ofNat_of_zero_le b1
  exact ⟨m, by rw [h1]; rfl, by omega⟩
end
theorem cells8 : Try.prog.cellsOf 5 = 1 := by kernel_rfl
theorem cells20 : Try.prog.cellsOf 54 = 20 := by kernel_rfl
theorem cells40 : Try.prog.cellsOf 55 = 40 := by kernel_rfl
theorem cells2 : Try.prog.cellsOf 56 = 2 := by kernel_rfl
theorem grid {H : Type} {enc : TypeId × Value → H} {w : World} {base : Nat} {cs : List Value} (h : Rt enc w base 55 cs) : ∃ u : Nat → Nat → Nat, (∀ f i, f < 2 → i < 20 → cs[f * 20 + i]? = some (.int .u8 (u f i : Nat))) ∧ ∀ f i, u f i < 256 := by
  have h1 : ∀ f i, ∃ n : Nat, (f < 2 → i < 20 → cs[f * 20 + i]? = some (.int .u8 (n : Nat))) ∧ n < 256 := fun f i => by
    by_cases hf : f < 2
    · by_cases hi : i < 20
      · have h2 := h.array Try.underlying55 f hf
        rw [cells20] at h2
        have h3 := h2.array Try.underlying54 i hi
        rw [cells8] at h3
        obtain ⟨n, h4, h5⟩ := h3.u8
        refine ⟨n, fun _ _ => ?_, h5⟩
        have h6 := drop_take_get (drop_take_get h4)
        rwa [show f * 20 + (i * 1 + 0) = f * 20 + i by omega] at h6
      · exact ⟨0, fun _ h => absurd h hi, by omega⟩
    · exact ⟨0, fun h => absurd h hf, by omega⟩
  exact ⟨fun f i => (h1 f i).choose, fun f i hf hi => (h1 f i).choose_spec.1 hf hi, fun f i => (h1 f i).choose_spec.2⟩
set_option maxRecDepth 100000 in
theorem open_round {H : Type} {enc : TypeId × Value → H} {W : World} {base b' : Nat} {v : Value} {d : DataW H} {p : List MemPlace} {ts : List TypeId} {ds : List (DataW H)} {j : Nat}
    (hv : Value.okWide Try.prog W .any b' 58 v) (h : DataW.Trod enc Try.prog W base (fun _ => true) true 58 v d p)
    (_hsz : (DataW.weightsEach Try.prog ts ds).all (· ≤ reachBytes) = true) (_hj : ts[j]? = some 58) (_hd : ds[j]? = some d) : ∃ rv, RoundIs W v rv := by
  obtain ⟨cs, rfl, _⟩ := okWide_struct Try.underlying58 hv
  obtain ⟨fuel, hf⟩ := h
  have hr : Rt enc W base 58 cs.toList := ⟨fuel, _, hf⟩
  have f0 : Rt enc W base 55 ((cs.toList.drop 0).take (Try.prog.cellsOf 55)) := hr.fields Try.underlying58 0 _ rfl
  have f1 : Rt enc W base 55 ((cs.toList.drop 40).take (Try.prog.cellsOf 55)) := hr.fields Try.underlying58 1 _ rfl
  have f2 : Rt enc W base 56 ((cs.toList.drop 80).take (Try.prog.cellsOf 56)) := hr.fields Try.underlying58 2 _ rfl
  have f3 : Rt enc W base 5 ((cs.toList.drop 82).take (Try.prog.cellsOf 5)) := hr.fields Try.underlying58 3 _ rfl
  obtain ⟨u, hu, hub⟩ := grid f0
  obtain ⟨u2, hu2, hub2⟩ := grid f1
  have hb : ∀ f, ∃ n : Nat, (f < 2 → cs[80 + f]? = some (.int .u8 (n : Nat))) ∧ n < 256 := fun f => by
    by_cases hf : f < 2
    · have h3 := f2.array Try.underlying56 f hf
      rw [cells8] at h3
      obtain ⟨n, h4, h5⟩ := h3.u8
      refine ⟨n, fun _ => ?_, h5⟩
      have h6 := drop_take_get (drop_take_get h4)
      rwa [show 80 + (f * 1 + 0) = 80 + f by omega, Array.getElem?_toList] at h6
    · exact ⟨0, fun h => absurd h hf, by omega⟩
  obtain ⟨wd, hw, hwb⟩ := f3.u8
  have hw2 := drop_take_get hw
  refine ⟨⟨u, u2, fun f => (hb f).choose, wd⟩, cs, rfl, fun f i h1 h2 => ?_, fun f i h1 h2 => ?_, fun f h1 => ?_, ?_, hwb, ⟨hub, hub2, fun f => (hb f).choose_spec.2⟩⟩
  · have := drop_take_get (hu f i h1 h2)
    rw [Nat.zero_add, Array.getElem?_toList] at this
    exact this
  · have := drop_take_get (hu2 f i h1 h2)
    rw [Array.getElem?_toList] at this
    exact this
  · exact (hb f).choose_spec.1 h1
  · rw [Array.getElem?_toList] at hw2
    exact hw2
end Go.Proofs.Ytekdggdnkmkldaa
