/- Slices that a call owns, wherever in their block they begin: append, both arms. -/
import Derived.Test.YtekdggdnkmkldaaBase
namespace Go.Proofs.Ytekdggdnkmkldaa
set_option linter.unusedVariables false
set_option linter.unusedSimpArgs false
set_option maxRecDepth 1500
open Go.RowKit

/-- The call owns the slice v of n elements, k cells each: they are xs. -/
def OwnS (w : World) (e : TypeId) (k : Nat) (v : Value) (n : Nat) (xs : List Value) : Prop :=
  xs.length = n * k ∧ ((v = .slice none 0 0 ∧ n = 0) ∨
  ∃ g off cap cur, v = .slice (some ⟨g, off, none⟩) n cap ∧ w.heap[g]? = some (.cells cur e (0, 0)) ∧ n ≤ cap ∧ cap ≤ maxLen ∧ off + cap * k ≤ cur.size ∧
    ∀ i, i < n * k → cur[off + i]? = xs[i]?)

theorem OwnS.nil (w : World) (e : TypeId) (k : Nat) : OwnS w e k (.slice none 0 0) 0 [] := ⟨by simp, .inl ⟨rfl, rfl⟩⟩
theorem OwnS.of_owns {w : World} {e : TypeId} {k : Nat} {v : Value} {n : Nat} {xs : List Value} (h : w.ownsRow 0 e k v n xs) : OwnS w e k v n xs := by
  refine ⟨h.1, ?_⟩
  rcases h.2 with h0 | ⟨g, cap, cur, rfl, _, hg, hnc, hcm, hcs, htake⟩
  · exact .inl h0
  · refine .inr ⟨g, 0, cap, cur, rfl, hg, hnc, hcm, by omega, fun i hi => ?_⟩
    rw [← htake, List.getElem?_take, if_pos hi, Array.getElem?_toList, Nat.zero_add]
theorem OwnS.lt {w : World} {e : TypeId} {k : Nat} {v : Value} {n : Nat} {xs : List Value} (h : OwnS w e k v n xs) : ∀ b, v.ownBlock = some b → b < w.heap.size := by
  intro b hb
  rcases h.2 with ⟨rfl, _⟩ | ⟨g, off, cap, cur, rfl, hg, _⟩
  · simp [Value.ownBlock] at hb
  · simp only [Value.ownBlock, Option.some.injEq] at hb
    subst hb
    exact heap_lt hg
theorem OwnS.form {w : World} {e : TypeId} {k : Nat} {v : Value} {n : Nat} {xs : List Value} (h : OwnS w e k v n xs) : ∃ a cap, v = .slice a n cap := by
  rcases h.2 with ⟨rfl, h0⟩ | ⟨g, off, cap, cur, rfl, _⟩
  · exact ⟨none, 0, by rw [h0]⟩
  · exact ⟨_, cap, rfl⟩
theorem OwnS.ext {S : Nat → Prop} {w w' : World} {e : TypeId} {k : Nat} {v : Value} {n : Nat} {xs : List Value} (h : OwnS w e k v n xs) (g : Ext S w w') (hs : ∀ b, v.ownBlock = some b → ¬ S b) : OwnS w' e k v n xs := by
  refine ⟨h.1, ?_⟩
  rcases h.2 with h0 | ⟨b, off, cap, cur, rfl, hg, rest⟩
  · exact .inl h0
  · exact .inr ⟨b, off, cap, cur, rfl, (g.block b (heap_lt hg) (hs b rfl)).trans hg, rest⟩
theorem OwnS.grows {w w' : World} {e : TypeId} {k : Nat} {v : Value} {n : Nat} {xs : List Value} (h : OwnS w e k v n xs) (g : Grows w w') : OwnS w' e k v n xs := h.ext g (fun _ _ h => h)

/-- The cells of the elements. -/
theorem OwnS.cells {w : World} {e : TypeId} {k : Nat} {v : Value} {n : Nat} {xs : List Value} (h : OwnS w e k v n xs) (i : Nat) (hi : i < n * k) :
    ∃ g off cap, v = .slice (some ⟨g, off, none⟩) n cap ∧ g < w.heap.size ∧ w.cell? ⟨g, off + i, none⟩ = xs[i]? ∧ w.frozen? ⟨g, off + i, none⟩ = false := by
  rcases h.2 with ⟨rfl, h0⟩ | ⟨g, off, cap, cur, rfl, hg, h1, h2, h3, h4⟩
  · subst h0; omega
  · exact ⟨g, off, cap, rfl, heap_lt hg, by rw [cell_of_heap hg]; exact h4 i hi, frozen_of_heap hg _⟩

theorem setCells_heap {b : Nat} {e : TypeId} : ∀ (vs : List Value) (o : Nat) (cur : Array Value) (w : World), w.heap[b]? = some (.cells cur e (0, 0)) → o + vs.length ≤ cur.size →
    ∃ cur' : Array Value, (w.setCells b o vs).heap[b]? = some (.cells cur' e (0, 0)) ∧ cur'.size = cur.size ∧ (∀ j, (j < o ∨ o + vs.length ≤ j) → cur'[j]? = cur[j]?) ∧ ∀ i, i < vs.length → cur'[o + i]? = vs[i]?
  | [], o, cur, w, h, _ => ⟨cur, h, rfl, fun _ _ => rfl, fun i hi => by simp at hi⟩
  | v :: r, o, cur, w, h, hs => by
    simp only [List.length_cons] at hs
    obtain ⟨cur', h1, h2, h3, h4⟩ := setCells_heap r (o + 1) (cur.setIfInBounds o v) (w.setCell ⟨b, o, none⟩ v) (setCell_heap h o v) (by simp; omega)
    refine ⟨cur', h1, by rw [h2]; simp, fun j hj => ?_, fun i hi => ?_⟩
    · simp only [List.length_cons] at hj
      rw [h3 j (by omega), Array.getElem?_setIfInBounds_ne (by omega)]
    · cases i with
      | zero =>
        rw [Nat.add_zero, h3 o (by omega), Array.getElem?_setIfInBounds_self_of_lt (by omega)]
        rfl
      | succ i =>
        simp only [List.length_cons] at hi
        rw [show o + (i + 1) = o + 1 + i by omega, h4 i (by omega)]
        rfl
theorem setCells_grown {b : Nat} : ∀ (vs : List Value) (o : Nat) (w : World), w.grownBy (w.setCells b o vs) (some b)
  | [], _, w => ⟨rfl, rfl, rfl, Nat.le_refl _, fun _ _ _ => rfl⟩
  | v :: r, o, w => by
    have h := setCells_grown (b := b) r (o + 1) (w.setCell ⟨b, o, none⟩ v)
    exact ⟨h.os, h.tape, h.output, by have := h.size; simpa [World.setCells] using this, fun k hk hne => by
      rw [World.setCells, h.block k (by simpa using hk) hne, Below.heap_setCell _ _ _ _ (by simpa using hne)]⟩

/-- append, whatever the source, onto a slice that the call owns: both arms. -/
theorem run_append_ownS {P : Program} (w : World) (t tx ty e : TypeId) (i : TypeInfo) (z : Value) (size bytes : Nat) (ht : P.underlying t = some (.slice e)) (hi : P.info? e = some i) (hz : i.zero = some z)
    (hsize : i.size = size) (hby : i.bytes = bytes) (hzs : z.cells.size = size) (v : Value) (n : Nat) (xs : List Value) (hown : OwnS w e size v n xs)
    (x : Value) (m : Nat) (news : List Value) (hs : Src P size tx x m news w) (h63 : n + m ≤ maxLen) (hbytes : (n + m) * bytes ≤ 140737488355328) :
    ∃ v' w', (Builtin.append_ #[t, tx] ty #[v, x]).run P w = .ok v' w' ∧ OwnS w' e size v' (n + m) (xs ++ news) ∧ w.grownBy w' v.ownBlock ∧
      (v'.ownBlock = v.ownBlock ∨ v'.ownBlock = some w.heap.size) := by
  subst hsize hby
  have hl : news.length = m * i.size := hs.newsLen
  have hlen : (xs ++ news).length = (n + m) * i.size := by rw [List.length_append, hown.1, hl, Nat.add_mul]
  rcases hown.2 with ⟨rfl, rfl⟩ | ⟨g, off, cap, cur, rfl, hg, hnc, hcm, hcs, hcell⟩
  · have hx : xs = [] := List.eq_nil_of_length_eq_zero (by simpa using hown.1)
    subst hx
    obtain ⟨v', w', h1, h2, h3, h4⟩ := run_append_src w t tx ty e i z i.size i.bytes ht hi hz rfl rfl hzs (.slice none 0 0) 0 [] (World.ownsRow_nil w 0 e i.size) x m news hs h63 hbytes
    exact ⟨v', w', h1, OwnS.of_owns h2, h3, h4⟩
  · by_cases hroom : n + m ≤ cap
    · have hmul : (n + m) * i.size ≤ cap * i.size := Nat.mul_le_mul_right _ hroom
      have hfit : off + n * i.size + news.length ≤ cur.size := by rw [hl, Nat.add_assoc, ← Nat.add_mul]; omega
      have hr := run_append_room_src (P := P) w t tx ty e i ht hi g off n cap x m news hs hroom (fun j hj => by
          rw [cell_of_heap hg, Array.getElem?_eq_getElem (by omega)]; rfl) (fun j hj => frozen_of_heap hg _)
      obtain ⟨cur', h1, h2, h3, h4⟩ := setCells_heap news (off + n * i.size) cur w hg hfit
      refine ⟨_, _, hr, ⟨hlen, .inr ⟨g, off, cap, cur', rfl, h1, hroom, hcm, by omega, fun j hj => ?_⟩⟩, setCells_grown news _ w, .inl rfl⟩
      rcases Nat.lt_or_ge j (n * i.size) with h5 | h5
      · rw [h3 _ (by omega), hcell j h5, List.getElem?_append_left (by have := hown.1; omega)]
      · rw [Nat.add_mul] at hj
        rw [List.getElem?_append_right (by have := hown.1; omega), hown.1, ← h4 (j - n * i.size) (by omega)]
        congr 1
        omega
    · have holds : ∀ j u, xs[j]? = some u → w.cell? ((⟨g, off, none⟩ : Addr).add j) = some u := by
        intro j u hj
        have hjl : j < xs.length := (List.getElem?_eq_some_iff.1 hj).1
        have hplain : (⟨g, off, none⟩ : Addr).add j = ⟨g, off + j, none⟩ := by unfold Addr.add; split <;> simp_all
        rw [hplain, cell_of_heap hg, hcell j (by have := hown.1; omega), hj]
      have hold : (Builtin.firstCells i.size n (.slice (some ⟨g, off, none⟩) n cap)).run P w.drew = .ok xs.toArray w.drew :=
        run_firstCells_some w.drew i.size n ⟨g, off, none⟩ n cap xs hown.1 (by simpa using holds)
      have h63' : ((n + m : Nat) : Int) ≤ 9223372036854775807 := by simp only [maxLen] at h63; omega
      have hr := run_append_grow_src (P := P) w t tx ty e i z ht hi hz (some ⟨g, off, none⟩) n cap xs hold x m news hs (by omega) h63' (growslice_fits (by omega) hbytes)
      have hge := grownCap_ge w (n + m) cap e
      have hcm : grownCap w (n + m) cap e ≤ maxLen := grownCap_le_maxLen w (n + m) cap e h63
      refine ⟨_, _, hr, ⟨hlen, .inr ⟨w.heap.size, 0, _, _, rfl, heap_alloc_new w.drew _, hge, hcm, ?_, fun j hj => ?_⟩⟩, ⟨rfl, rfl, rfl, by simp, fun k hk _ => Below.heap_alloc w.drew _ k hk⟩, .inr rfl⟩
      · rw [Array.size_append, size_zeroCells, hzs]
        simp only [List.size_toArray]
        rw [hlen, ← Nat.add_mul, Nat.zero_add]
        apply Nat.mul_le_mul_right
        omega
      · rw [Nat.zero_add, Array.getElem?_append_left (by simp only [List.size_toArray]; omega), List.getElem?_toArray]

theorem wpList_append_ownS {P : Program} {w : World} {ops : Array Oper} {rest : List Oper} {o : Oper} {a : Act} {Q : Exit → Act → World → Prop} (hgd : o.guard = none) (s x : Operand) (t tx : TypeId)
    (ho : o.op = .call { callee := .builtin .append, args := #[s, x], argTypes := #[t, tx] }) (e : TypeId) (z : Value) (size bytes : Nat) (ht : P.underlying t = some (.slice e))
    (hinfo : (P.info? e).map (fun i => (i.zero, i.size, i.bytes)) = some (some z, size, bytes)) (hzs : z.cells.size = size)
    (v xv : Value) (hv : a.eval s = v) (hxv : a.eval x = xv) (n : Nat) (xs : List Value) (hown : OwnS w e size v n xs) (m : Nat) (news : List Value) (hs : Src P size tx xv m news w)
    (h63 : n + m ≤ maxLen) (hbytes : (n + m) * bytes ≤ 140737488355328)
    (h : ∀ v' w', OwnS w' e size v' (n + m) (xs ++ news) → w.grownBy w' v.ownBlock → (v'.ownBlock = v.ownBlock ∨ v'.ownBlock = some w.heap.size) → wpList P ops Q rest (a.put o.dst v') w') :
    wpList P ops Q (o :: rest) a w := by
  refine wpList_plain hgd fun K hK => ?_
  obtain ⟨i, hi, hz0, hz1, hz2⟩ := info_parts hinfo
  obtain ⟨v', w', hr, h2, h3, h4⟩ := run_append_ownS (P := P) w t tx o.type e i z size bytes ht hi hz0 hz1 hz2 hzs v n xs hown xv m news hs h63 hbytes
  unfold Oper.wp execOp
  simp only [ho, resolve, invoke, builtin, Sem.run_bind, Sem.run_pure, Result.andThen_ok, List.map_toArray, List.map_cons, List.map_nil, hv, hxv, hr]
  exact hK _ _ (h v' w' h2 h3 h4)

/-- .. at a step of a region that draws its order. -/
theorem step_append_ownS {P : Program} {ops : Array Oper} {o : Oper} {a : Act} {w : World} {K : Act → World → Prop} {Q : Exit → Act → World → Prop} {E : Prop} (hgd : o.guard = none) (s x : Operand) (t tx : TypeId)
    (ho : o.op = .call { callee := .builtin .append, args := #[s, x], argTypes := #[t, tx] }) (e : TypeId) (z : Value) (size bytes : Nat) (ht : P.underlying t = some (.slice e))
    (hinfo : (P.info? e).map (fun i => (i.zero, i.size, i.bytes)) = some (some z, size, bytes)) (hzs : z.cells.size = size)
    (v xv : Value) (hv : a.eval s = v) (hxv : a.eval x = xv) (n : Nat) (xs : List Value) (hown : OwnS w e size v n xs) (m : Nat) (news : List Value) (hs : Src P size tx xv m news w)
    (h63 : n + m ≤ maxLen) (hbytes : (n + m) * bytes ≤ 140737488355328)
    (h : ∀ v' w', OwnS w' e size v' (n + m) (xs ++ news) → w.grownBy w' v.ownBlock → (v'.ownBlock = v.ownBlock ∨ v'.ownBlock = some w.heap.size) → K (a.put o.dst v') w') :
    if Region.wanted o (yielded ops a.tmps) = true then Oper.wp P o a w K Q else E := by
  have hw : Region.wanted o (yielded ops a.tmps) = true := by simp [Region.wanted, hgd]
  rw [if_pos hw]
  obtain ⟨i, hi, hz0, hz1, hz2⟩ := info_parts hinfo
  obtain ⟨v', w', hr, h2, h3, h4⟩ := run_append_ownS (P := P) w t tx o.type e i z size bytes ht hi hz0 hz1 hz2 hzs v n xs hown xv m news hs h63 hbytes
  unfold Oper.wp execOp
  simp only [ho, resolve, invoke, builtin, Sem.run_bind, Sem.run_pure, Result.andThen_ok, List.map_toArray, List.map_cons, List.map_nil, hv, hxv, hr]
  exact h v' w' h2 h3 h4

/-- The first element struck, as the walk spells it. -/
theorem OwnS.tail {w : World} {e : TypeId} {k g off n cap : Nat} {xs : List Value} (h : OwnS w e k (.slice (some ⟨g, off, none⟩) n cap) n xs) (hn : 0 < n) {a : Option Addr} (ha : 1 < cap → a = some ⟨g, off + k, none⟩) (ha1 : cap = 1 → a = some ⟨g, off, none⟩) :
    OwnS w e k (.slice a (n - 1) (cap - 1)) (n - 1) (xs.drop k) := by
  rcases h.2 with ⟨h0, _⟩ | ⟨g', off', cap', cur, h0, hg, h1, h2, h3, h4⟩
  · cases h0
  · simp only [Value.slice.injEq, Option.some.injEq, Addr.mk.injEq] at h0
    obtain ⟨⟨rfl, rfl, _⟩, _, rfl⟩ := h0
    have hk : n * k = (n - 1) * k + k := by rw [← Nat.succ_mul]; congr 1; omega
    have hck : cap * k = (cap - 1) * k + k := by rw [← Nat.succ_mul]; congr 1; omega
    refine ⟨by rw [List.length_drop, h.1]; omega, .inr ?_⟩
    by_cases hc : cap = 1
    · obtain rfl := ha1 hc
      obtain rfl : n = 1 := by omega
      subst hc
      exact ⟨g, off, 0, cur, rfl, hg, by omega, by omega, by omega, fun i hi => by simp at hi⟩
    · obtain rfl := ha (by omega)
      refine ⟨g, off + k, cap - 1, cur, rfl, hg, by omega, by omega, by omega, fun i hi => ?_⟩
      rw [List.getElem?_drop, Nat.add_assoc]
      exact h4 (k + i) (by omega)

end Go.Proofs.Ytekdggdnkmkldaa
