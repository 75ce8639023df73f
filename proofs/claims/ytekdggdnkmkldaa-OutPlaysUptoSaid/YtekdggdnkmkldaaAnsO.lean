/- link: the answer's Out: what it holds; Known, Rank, Take, Feedback, New. -/
import Derived.Test.YtekdggdnkmkldaaLinkB
import Derived.Test.YtekdggdnkmkldaaAnsR
import Derived.Test.YtekdggdnkmkldaaAnsS
import Derived.Deep.LoopGhost
import Derived.Test.YtekdggdnkmkldaaLinkM
namespace Go.Proofs.Ytekdggdnkmkldaa
set_option linter.unusedVariables false
set_option linter.unusedSimpArgs false
set_option maxRecDepth 1500
open Go.RowKit

/-- How many of a place were sent, by a list. -/
def look : List (PlaceV × Nat) → PlaceV → Int
  | [], _ => 0
  | e :: r, p => if e.1 = p then e.2 else look r p
theorem look_none : ∀ (es : List (PlaceV × Nat)) (p : PlaceV), (∀ j (hj : j < es.length), es[j].1 ≠ p) → look es p = 0
  | [], _, _ => rfl
  | e :: r, p, h => by
    show (if e.1 = p then (e.2 : Int) else look r p) = 0
    have h0 : e.1 ≠ p := h 0 (by simp)
    rw [if_neg h0, look_none r p (fun j hj => by have := h (j + 1) (by simpa using hj); simpa using this)]
theorem look_hit : ∀ (es : List (PlaceV × Nat)) (p : PlaceV) (i : Nat) (hi : i < es.length), (∀ j (hj : j < es.length), j < i → es[j].1 ≠ p) → es[i].1 = p → look es p = es[i].2
  | e :: r, p, 0, _, _, h => by
    show (if e.1 = p then (e.2 : Int) else look r p) = _
    rw [if_pos (by simpa using h)]; rfl
  | e :: r, p, i + 1, hi, hn, h => by
    show (if e.1 = p then (e.2 : Int) else look r p) = _
    have h0 : e.1 ≠ p := hn 0 (by simp) (by omega)
    rw [if_neg h0, look_hit r p i (by simpa using hi) (fun j hj hji => by have := hn (j + 1) (by simpa using hj) (by omega); simpa using this) (by simpa using h)]
    simp
theorem look_set : ∀ (es : List (PlaceV × Nat)) (p : PlaceV) (i m : Nat) (hi : i < es.length), (∀ j (hj : j < es.length), j < i → es[j].1 ≠ p) → es[i].1 = p → ∀ q, look (es.set i (p, m)) q = if q = p then (m : Int) else look es q
  | e :: r, p, 0, m, _, _, h, q => by
    obtain rfl : e.1 = p := by simpa using h
    show (if e.1 = q then (m : Int) else look r q) = if q = e.1 then (m : Int) else (if e.1 = q then (e.2 : Int) else look r q)
    by_cases hq : e.1 = q
    · rw [if_pos hq, if_pos hq.symm]
    · rw [if_neg hq, if_neg (fun hh => hq hh.symm), if_neg hq]
  | e :: r, p, i + 1, m, hi, hn, h, q => by
    have h1 := look_set r p i m (by simpa using hi) (fun j hj hji => by have := hn (j + 1) (by simpa using hj) (by omega); simpa using this) (by simpa using h) q
    have h2 : e.1 ≠ p := hn 0 (by simp) (by omega)
    show (if e.1 = q then (e.2 : Int) else look (r.set i (p, m)) q) = if q = p then (m : Int) else (if e.1 = q then (e.2 : Int) else look r q)
    rw [h1]
    by_cases hq : e.1 = q
    · rw [if_pos hq, if_pos hq, if_neg (fun hh => h2 (hq.trans hh))]
    · rw [if_neg hq, if_neg hq]
theorem look_add : ∀ (es : List (PlaceV × Nat)) (p : PlaceV), (∀ j (hj : j < es.length), es[j].1 ≠ p) → ∀ q, look (es ++ [(p, 1)]) q = if q = p then (1 : Int) else look es q
  | [], p, _, q => by
    show (if p = q then ((1 : Nat) : Int) else 0) = if q = p then 1 else 0
    by_cases hq : q = p
    · rw [if_pos hq, if_pos hq.symm]; rfl
    · rw [if_neg hq, if_neg (fun hh => hq hh.symm)]
  | e :: r, p, hn, q => by
    have h1 := look_add r p (fun j hj => by have := hn (j + 1) (by simpa using hj); simpa using this) q
    have h2 : e.1 ≠ p := hn 0 (by simp)
    show (if e.1 = q then (e.2 : Int) else look (r ++ [(p, 1)]) q) = if q = p then (1 : Int) else (if e.1 = q then (e.2 : Int) else look r q)
    rw [h1]
    by_cases hq : e.1 = q
    · rw [if_pos hq, if_pos hq, if_neg (fun hh => h2 (hq.trans hh))]
    · rw [if_neg hq, if_neg hq]
def sncells : List (PlaceV × Nat) → List Value
  | [] => []
  | e :: r => .int .i64 e.1.flow :: .int .u64 e.1.gen :: .int .u64 e.2 :: sncells r
theorem sncells_length : ∀ l : List (PlaceV × Nat), (sncells l).length = l.length * 3
  | [] => rfl
  | a :: r => by rw [sncells, List.length_cons, List.length_cons, List.length_cons, sncells_length r, List.length_cons]; omega
theorem sncells_append : ∀ a b : List (PlaceV × Nat), sncells (a ++ b) = sncells a ++ sncells b
  | [], b => rfl
  | x :: r, b => by rw [List.cons_append, sncells, sncells_append r b, sncells]; rfl
theorem sncells_get : ∀ (l : List (PlaceV × Nat)) (i : Nat) (hi : i < l.length), (sncells l)[i * 3]? = some (.int .i64 l[i].1.flow) ∧ (sncells l)[i * 3 + 1]? = some (.int .u64 l[i].1.gen) ∧ (sncells l)[i * 3 + 2]? = some (.int .u64 l[i].2)
  | a :: r, 0, _ => ⟨rfl, rfl, rfl⟩
  | a :: r, i + 1, hi => by
    have h := sncells_get r i (by simpa using hi)
    rw [show (i + 1) * 3 = i * 3 + 1 + 1 + 1 by omega]
    simp only [sncells, List.getElem?_cons_succ, List.getElem_cons_succ]
    exact h
theorem sncells_set : ∀ (l : List (PlaceV × Nat)) (i m : Nat) (hi : i < l.length), sncells (l.set i (l[i].1, m)) = (sncells l).set (i * 3 + 2) (.int .u64 (m : Nat))
  | a :: r, 0, m, _ => rfl
  | a :: r, i + 1, m, hi => by
    have h := sncells_set r i m (by simpa using hi)
    rw [show (i + 1) * 3 + 2 = (i * 3 + 2) + 1 + 1 + 1 by omega]
    simp only [List.set_cons_succ, sncells, List.getElem_cons_succ, h]

/-- What the answer was told of a flow. -/
def RefTV (w : World) (t : Nat) (S : Nat → Prop) (v : ToldV) : Prop := ∃ l, RefT w t S v.life v.count v.base l ∧ kept l = v.l ∧ l.length ≤ 16 ∧ ∀ r ∈ l, 1 ≤ r.rank
theorem RefTV.ext {w w' : World} {t : Nat} {S T : Nat → Prop} {v : ToldV} (h : RefTV w t S v) (g : Ext T w w') (hd : ∀ k, S k → ¬ T k) : RefTV w' t S v := by
  obtain ⟨l, h1, h2⟩ := h
  exact ⟨l, h1.ext g hd, h2⟩
theorem RefTV.sharp {w : World} {t : Nat} {S : Nat → Prop} {v : ToldV} (h : RefTV w t S v) : RefTV w t (fun k => S k ∧ k < w.heap.size) v := by
  obtain ⟨l, h1, h2⟩ := h
  have hl := h1.lt
  obtain ⟨ty, vs, hh, ho, hb⟩ := h1.blk
  exact ⟨l, ⟨⟨ty, vs, hh, ho, fun b hbb => ⟨⟨(hb b hbb).1, ho.lt b hbb⟩, (hb b hbb).2⟩⟩, ⟨h1.own, hl⟩⟩, h2⟩
theorem RefTV.wide {w : World} {t : Nat} {S T : Nat → Prop} {v : ToldV} (h : RefTV w t S v) (hs : ∀ k, S k → T k) : RefTV w t T v := by
  obtain ⟨l, h1, h2⟩ := h
  obtain ⟨ty, vs, hh, ho, hb⟩ := h1.blk
  exact ⟨l, ⟨⟨ty, vs, hh, ho, fun b hbb => ⟨hs b (hb b hbb).1, (hb b hbb).2⟩⟩, hs t h1.own⟩, h2⟩
theorem RefTV.own {w : World} {t : Nat} {S : Nat → Prop} {v : ToldV} (h : RefTV w t S v) : S t := by
  obtain ⟨l, h1, h2⟩ := h
  exact h1.own
theorem RefTV.cells {w : World} {t : Nat} {S : Nat → Prop} {v : ToldV} (h : RefTV w t S v) : w.cell? ⟨t, 0, none⟩ = some (.int .u64 v.life) ∧ w.cell? ⟨t, 2, none⟩ = some (.int .u64 v.base) := by
  obtain ⟨l, h1, h2⟩ := h
  obtain ⟨ty, vs, hh, _⟩ := h1.blk
  exact ⟨by rw [cell_of_heap hh]; rfl, by rw [cell_of_heap hh]; rfl⟩
/-- Ranks lie in no block of a telling. -/
theorem rs_ne_told {w : World} {v : Value} {l : List RankA} {t : Nat} {a b c : Int} {vs : Value} {ty : TypeId} (hr : Rs w v l) (hh : w.heap[t]? = some (.cells #[.int .u64 a, .int .u64 b, .int .u64 c, vs] ty (0, 0))) (hvs : ∃ s n k, vs = .slice s n k) : ∀ b, v.ownBlock = some b → l ≠ [] → b ≠ t := by
  intro b hb hl he
  subst he
  obtain ⟨b', off, cap, hv, _, hc0, hc1, _⟩ := hr.at 0 (Nat.pos_of_ne_zero (fun h => hl (List.eq_nil_of_length_eq_zero h)))
  rw [hv] at hb
  simp only [Value.ownBlock, Option.some.injEq] at hb
  subst hb
  rw [cell_of_heap hh] at hc1
  obtain ⟨s, n, k, rfl⟩ := hvs
  match hq : off + 0 * 2 + 1, hc1 with
  | 0, h => simp at h
  | 1, h => simp at h
  | 2, h => simp at h
  | 3, h => simp at h
  | m + 4, h => simp at h

/-- The answer's line at block o: its parts lie apart, by colours: 1 itself, 2 its sender, 3 what was sent, 4 its row, 5 + i what was told of flow i. -/
structure ROutC (w0 : Frm) (w : World) (o s : Nat) (vt vl : Value) (ts : List Nat) (es : List (PlaceV × Nat)) (c : Nat → Nat) (x : OutV) : Prop where
  blk : ∃ ty, w.heap[o]? = some (.cells #[.pointer (some ⟨s, 0, none⟩), vt, vl, .int .i64 x.last.flow, .int .u64 x.last.gen, .bool x.begun] ty (0, 0))
  co : c o = 1
  snd : RefS w s x.own x.peer x.gr x.used
  cs : c s = 2
  ls : OwnS w 134 3 vl es.length (sncells es)
  cl : ∀ k, vl.ownBlock = some k → c k = 3
  row : OwnS w 124 1 vt x.told.length (ptrs ts)
  ct : ∀ k, vt.ownBlock = some k → c k = 4
  tl : ts.length = x.told.length
  told : ∀ (i t : Nat) (v : ToldV), ts[i]? = some t → x.told[i]? = some v → RefTV w t (fun k => c k = 5 + i) v
  lo : ∀ k, c k ≠ 0 → w0.ok k ∧ k < w.heap.size
  few : x.told.length ≤ 4
  gw : Ext w0.F w0.wd w
  snt : ∀ p, x.sent p = look es p
def ROutAt (w0 : Frm) (w : World) (o s n : Nat) (x : OutV) : Prop := ∃ vt vl ts es c, ROutC w0 w o s vt vl ts es c x ∧ es.length ≤ n ∧ ∀ e ∈ es, e.2 ≤ n

section
variable {w0 : Frm} {w w' : World} {o s n : Nat} {vt vl : Value} {ts : List Nat} {es : List (PlaceV × Nat)} {c : Nat → Nat} {x : OutV}
theorem ROutC.ext {T : Nat → Prop} (h : ROutC w0 w o s vt vl ts es c x) (e : Ext T w w') (hT : ∀ k, c k ≠ 0 → ¬ T k) (hw : ∀ k, T k → w0.ok k) : ROutC w0 w' o s vt vl ts es c x := by
  obtain ⟨ty, hb⟩ := h.blk
  exact ⟨⟨ty, (e.block o (heap_lt hb) (hT o (by rw [h.co]; omega))).trans hb⟩, h.co, h.snd.ext e (hT s (by rw [h.cs]; omega)), h.cs, h.ls.ext e (fun k hk => hT k (by rw [h.cl k hk]; omega)), h.cl, h.row.ext e (fun k hk => hT k (by rw [h.ct k hk]; omega)), h.ct, h.tl,
    fun i t v h1 h2 => (h.told i t v h1 h2).ext e (fun k hk => hT k (by rw [hk]; omega)), fun k hk => ⟨(h.lo k hk).1, Nat.lt_of_lt_of_le (h.lo k hk).2 e.size⟩, h.few, Frm.step h.gw e hw, h.snt⟩
theorem ROutC.more (h : ROutC w0 w o s vt vl ts es c x) (g : Grows w w') : ROutC w0 w' o s vt vl ts es c x := h.ext g (fun _ _ h => h) (fun _ h => h.elim)
theorem ROutAt.more (h : ROutAt w0 w o s n x) (g : Grows w w') : ROutAt w0 w' o s n x := by
  obtain ⟨vt, vl, ts, es, c, h, h1⟩ := h
  exact ⟨vt, vl, ts, es, c, h.more g, h1⟩
theorem ROutC.cells (h : ROutC w0 w o s vt vl ts es c x) : (w.cell? ⟨o, 0, none⟩ = some (.pointer (some ⟨s, 0, none⟩)) ∧ w.cell? ⟨o, 1, none⟩ = some vt) ∧ w.cell? ⟨o, 2, none⟩ = some vl ∧ (w.cell? ⟨o, 3, none⟩ = some (.int .i64 x.last.flow) ∧ w.cell? ⟨o, 4, none⟩ = some (.int .u64 x.last.gen)) ∧ w.cell? ⟨o, 5, none⟩ = some (.bool x.begun) := by
  obtain ⟨ty, hb⟩ := h.blk
  refine ⟨⟨?_, ?_⟩, ?_, ⟨?_, ?_⟩, ?_⟩ <;> (rw [cell_of_heap hb]; rfl)
/-- The row of what was told, at a flow. -/
theorem ROutC.at (h : ROutC w0 w o s vt vl ts es c x) (i : Nat) (hi : i < x.told.length) : ∃ g off cap t, vt = .slice (some ⟨g, off, none⟩) x.told.length cap ∧ w.cell? ⟨g, off + i, none⟩ = some (.pointer (some ⟨t, 0, none⟩)) ∧ ts[i]? = some t ∧ RefTV w t (fun k => c k = 5 + i) x.told[i] := by
  obtain ⟨g, off, cap, hv, hg, hc, _⟩ := h.row.cells i (by omega)
  have hti : i < ts.length := by rw [h.tl]; exact hi
  refine ⟨g, off, cap, ts[i], hv, ?_, List.getElem?_eq_getElem hti, h.told i _ _ (List.getElem?_eq_getElem hti) (List.getElem?_eq_getElem hi)⟩
  rw [hc]
  unfold ptrs
  rw [List.getElem?_map, List.getElem?_eq_getElem hti]
  rfl
theorem parts_rout (o s n : Nat) (x : OutV) : Parts (fun z w => ROutAt z w o s n x) where
  base := fun h => by
    obtain ⟨vt, vl, ts, es, c, h, h1⟩ := h
    exact ⟨fun k => c k ≠ 0, ⟨vt, vl, ts, es, c, ⟨h.blk, h.co, h.snd, h.cs, h.ls, h.cl, h.row, h.ct, h.tl, h.told, fun k hk => ⟨.inr hk, (h.lo k hk).2⟩, h.few, Ext.refl _ _, h.snt⟩, h1⟩, fun k hk => h.lo k hk⟩
  gw := fun h => by
    obtain ⟨vt, vl, ts, es, c, h, h1⟩ := h
    exact h.gw
  kept := fun {w w' F T} h e hT => by
    obtain ⟨vt, vl, ts, es, c, h, h1⟩ := h
    have hf : ∀ k, c k ≠ 0 → F k := fun k hk => (h.lo k hk).1.elim (fun g => absurd (h.lo k hk).2 (Nat.not_lt.2 g)) id
    have hT' : ∀ k, c k ≠ 0 → ¬ T k := fun k hk => hT k (hf k hk)
    obtain ⟨ty, hb⟩ := h.blk
    exact ⟨vt, vl, ts, es, c, ⟨⟨ty, (e.block o (heap_lt hb) (hT' o (by rw [h.co]; omega))).trans hb⟩, h.co, h.snd.ext e (hT' s (by rw [h.cs]; omega)), h.cs, h.ls.ext e (fun k hk => hT' k (by rw [h.cl k hk]; omega)), h.cl, h.row.ext e (fun k hk => hT' k (by rw [h.ct k hk]; omega)), h.ct, h.tl,
      fun i t v h1 h2 => (h.told i t v h1 h2).ext e (fun k hk => hT' k (by rw [hk]; omega)), fun k hk => ⟨.inr (hf k hk), Nat.lt_of_lt_of_le (h.lo k hk).2 e.size⟩, h.few, Ext.refl _ _, h.snt⟩, h1⟩
  lift := fun {z w w' F} h hF g => by
    obtain ⟨vt, vl, ts, es, c, h, h1⟩ := h
    exact ⟨vt, vl, ts, es, c, ⟨h.blk, h.co, h.snd, h.cs, h.ls, h.cl, h.row, h.ct, h.tl, h.told, fun k hk => ⟨Frm.okOf (h.lo k hk).1 hF g, (h.lo k hk).2⟩, h.few, Frm.step g h.gw hF, h.snt⟩, h1⟩

theorem rout_known (h : ROutC w0 w o s vt vl ts es c x) (f : Int) (B : Nat) (b : Bool) (hk : x.known f = (B, b)) : Calls Try.prog 30 #[.pointer (some ⟨o, 0, none⟩), .int .i64 f] w fun e w' => e = .returned (.tuple #[.int .u64 B, .bool b]) ∧ w = w' := by
  have c1 := h.cells.1.2
  cases ha : x.at f with
  | none =>
    obtain ⟨va, vc, rfl⟩ := h.row.form
    unfold OutV.known at hk
    rw [ha] at hk
    obtain ⟨rfl, rfl⟩ := Prod.mk.inj hk
    have hf := OutV.at_none ha
    clear h ha hk
    rcases hf with hf | hf
    · go_enter Try.func30, Try.ntmps30
      go_wp2
      go_ret2
      exact ⟨rfl, rfl⟩
    · have i0 : ¬ f < 0 := by omega
      go_enter Try.func30, Try.ntmps30
      go_wp2
      go_ret2
      exact ⟨rfl, rfl⟩
  | some v =>
    obtain ⟨i, rfl, hi, hv⟩ := OutV.at_some ha
    obtain ⟨g, off, cap, t, rfl, hc, ht, hT⟩ := h.at i hi
    rw [hv] at hT
    obtain ⟨d0, d2⟩ := hT.cells
    unfold OutV.known at hk
    rw [ha] at hk
    simp only at hk
    have i0 : ¬ (i : Int) < 0 := by omega
    have i1 : ¬ (x.told.length : Int) ≤ (i : Int) := by omega
    have i2 : (0 : Int) ≤ (i : Int) := by omega
    have i3 : (i : Int) < (x.told.length : Int) := by omega
    clear h ha hv hT ht
    by_cases hl : 0 < v.life
    · rw [if_pos hl] at hk
      obtain ⟨rfl, rfl⟩ := Prod.mk.inj hk
      have i4 : ((v.life : Int) == 0) = false := by simp; omega
      clear hk hl
      go_enter Try.func30, Try.ntmps30
      go_wp2
      go_ret2
      exact ⟨rfl, rfl⟩
    · rw [if_neg hl] at hk
      obtain ⟨rfl, rfl⟩ := Prod.mk.inj hk
      have i4 : ((v.life : Int) == 0) = true := by simp; omega
      clear hk hl
      go_enter Try.func30, Try.ntmps30
      go_wp2
      go_ret2
      exact ⟨rfl, rfl⟩
theorem rout_rank (h : ROutC w0 w o s vt vl ts es c x) (f : Int) (gen : Nat) (r : Nat) (hr : x.rank f gen = r) : Calls Try.prog 31 #[.pointer (some ⟨o, 0, none⟩), .int .i64 f, .int .u64 gen] w fun e w' => e = .returned (.int .i64 (r : Nat)) ∧ w = w' := by
  have c1 := h.cells.1.2
  cases ha : x.at f with
  | none =>
    obtain ⟨va, vc, rfl⟩ := h.row.form
    unfold OutV.rank at hr
    rw [ha] at hr
    subst hr
    have hf := OutV.at_none ha
    clear h ha
    rcases hf with hf | hf
    · go_enter Try.func31, Try.ntmps31
      go_wp2
      go_ret
      exact ⟨rfl, rfl⟩
    · have i0 : ¬ f < 0 := by omega
      go_enter Try.func31, Try.ntmps31
      go_wp2
      go_ret
      exact ⟨rfl, rfl⟩
  | some v =>
    obtain ⟨i, rfl, hi, hv⟩ := OutV.at_some ha
    obtain ⟨g, off, cap, t, rfl, hc, ht, hT⟩ := h.at i hi
    rw [hv] at hT
    obtain ⟨l, hT1, hT2, hT3, hT4⟩ := hT
    unfold OutV.rank at hr
    rw [ha] at hr
    simp only at hr
    have i0 : ¬ (i : Int) < 0 := by omega
    have i1 : ¬ (x.told.length : Int) ≤ (i : Int) := by omega
    have i2 : (0 : Int) ≤ (i : Int) := by omega
    have i3 : (i : Int) < (x.told.length : Int) := by omega
    have HR := Lib.hid (refrank_any hT1 hT3 gen hT4)
    rw [hT2, hr] at HR
    clear h ha hv hT1 hT2 hT3 hT4 ht hr
    go_enter Try.func31, Try.ntmps31
    go_wp2_with fail
    refine HR.out.mono ?_
    rintro e w' ⟨rfl, rfl⟩
    go_wp2
    go_ret
    exact ⟨rfl, rfl⟩
end
section
variable {w0 : Frm} {w w' : World} {o s n : Nat} {vt vl : Value} {ts : List Nat} {es : List (PlaceV × Nat)} {c : Nat → Nat} {x : OutV}
theorem ROutC.sender {peer gr used : Nat} (h : ROutC w0 w o s vt vl ts es c x) (h1 : RefS w' s x.own peer gr used) (e : Ext (fun k => k = s) w w') :
    ROutC w0 w' o s vt vl ts es c { x with peer := peer, gr := gr, used := used } := by
  have hd : ∀ k d, c k = d → d ≠ 2 → ¬ k = s := fun k d hk h2 hh => by rw [hh, h.cs] at hk; omega
  obtain ⟨ty, hb⟩ := h.blk
  exact ⟨⟨ty, (e.block o (heap_lt hb) (hd o 1 h.co (by omega))).trans hb⟩, h.co, h1, h.cs, h.ls.ext e (fun k hk => hd k 3 (h.cl k hk) (by omega)), h.cl, h.row.ext e (fun k hk => hd k 4 (h.ct k hk) (by omega)), h.ct, h.tl,
    fun i t v h3 h4 => (h.told i t v h3 h4).ext e (fun k hk => hd k (5 + i) hk (by omega)), fun k hk => ⟨(h.lo k hk).1, Nat.lt_of_lt_of_le (h.lo k hk).2 e.size⟩, h.few, Frm.step h.gw e (fun k hh => hh ▸ (h.lo s (by rw [h.cs]; omega)).1), h.snt⟩
theorem rout_take (h : ROutAt w0 w o s n x) (life tt g : Nat) (E : Int) (hE : takeE x.own x.peer life tt g = E) :
    Calls Try.prog 27 #[.pointer (some ⟨s, 0, none⟩), .int .u64 life, .int .u64 tt, .int .u64 g] w fun e w' => e = .returned (.int .i64 E) ∧ ROutAt w0 w' o s n (x.credit life tt g) := by
  obtain ⟨vt, vl, ts, es, c, h, h2⟩ := h
  subst hE
  refine (ref_take w s _ _ _ _ life tt g h.snd).mono ?_
  rintro e w' ⟨rfl, h1, e1⟩
  exact ⟨rfl, vt, vl, ts, es, c, h.sender h1 e1, h2⟩
theorem ROutC.retold (h : ROutC w0 w o s vt vl ts es c x) {i t : Nat} (hi : i < x.told.length) (ht : ts[i]? = some t) (hc : c t = 5 + i) {v : ToldV} (h1 : RefTV w' t (fun k => c k = 5 + i ∨ w.heap.size ≤ k) v) (e : Ext (fun k => k = t) w w') :
    ∃ c', ROutC w0 w' o s vt vl ts es c' (x.tell i v) := by
  refine ⟨fun k => if k < w.heap.size then c k else if k < w'.heap.size then 5 + i else 0, ?_⟩
  have hd : ∀ k d, c k = d → d ≠ 5 + i → ¬ k = t := fun k d hk h2 hh => by rw [hh, hc] at hk; omega
  have hlt : ∀ k, c k ≠ 0 → k < w.heap.size := fun k hk => (h.lo k hk).2
  have hold : ∀ k, c k ≠ 0 → (if k < w.heap.size then c k else if k < w'.heap.size then 5 + i else 0) = c k := fun k hk => if_pos (hlt k hk)
  obtain ⟨ty, hb⟩ := h.blk
  refine ⟨⟨ty, (e.block o (heap_lt hb) (hd o 1 h.co (by omega))).trans hb⟩, by rw [hold o (by rw [h.co]; omega)]; exact h.co, h.snd.ext e (hd s 2 h.cs (by omega)), by rw [hold s (by rw [h.cs]; omega)]; exact h.cs, h.ls.ext e (fun k hk => hd k 3 (h.cl k hk) (by omega)), fun k hk => by rw [hold k (by rw [h.cl k hk]; omega)]; exact h.cl k hk, ?_, fun k hk => by rw [hold k (by rw [h.ct k hk]; omega)]; exact h.ct k hk, by show ts.length = (x.told.set i v).length; rw [List.length_set]; exact h.tl, fun j u y h3 h4 => ?_, fun k hk => ?_, by show (x.told.set i v).length ≤ 4; rw [List.length_set]; exact h.few, Frm.step h.gw e (fun k hh => hh ▸ (h.lo t (by rw [hc]; omega)).1), h.snt⟩
  · show OwnS w' _ 1 vt (x.told.set i v).length _
    rw [List.length_set]
    exact h.row.ext e (fun k hk => hd k 4 (h.ct k hk) (by omega))
  · by_cases hij : j = i
    · subst hij
      rw [ht] at h3
      obtain rfl := Option.some.inj h3
      have h5 : y = v := by
        have h6 : (x.told.set j v)[j]? = some y := h4
        rw [List.getElem?_set_self hi] at h6
        exact (Option.some.inj h6).symm
      subst h5
      refine h1.sharp.wide (fun k hk => ?_)
      rcases hk.1 with h6 | h6
      · show (if k < w.heap.size then c k else _) = _
        rw [if_pos (hlt k (by rw [h6]; omega))]; exact h6
      · show (if k < w.heap.size then c k else if k < w'.heap.size then 5 + j else 0) = _
        rw [if_neg (by omega), if_pos hk.2]
    · have h6 : (x.told.set i v)[j]? = some y := h4
      rw [List.getElem?_set_ne (fun h => hij h.symm)] at h6
      refine ((h.told j u y h3 h6).ext e (fun k hk => hd k (5 + j) hk (by omega))).wide (fun k hk => ?_)
      show (if k < w.heap.size then c k else _) = _
      rw [if_pos (hlt k (by rw [hk]; omega))]; exact hk
  · by_cases hk2 : k < w.heap.size
    · simp only [hk2, if_true] at hk
      exact ⟨(h.lo k hk).1, Nat.lt_of_lt_of_le hk2 e.size⟩
    · simp only [hk2, if_false] at hk
      have hk3 : k < w'.heap.size := by
        rcases Nat.lt_or_ge k w'.heap.size with h | h
        · exact h
        · rw [if_neg (by omega)] at hk; exact absurd rfl hk
      exact ⟨.inl (by have := h.gw.size; omega), hk3⟩
theorem mayB_split {life count base : Nat} {l : List RankA} (hm : mayB life count base l = true) : mayL (finOf base) base l = true := by
  unfold mayB at hm
  simp only [Bool.and_eq_true] at hm
  exact hm.2.2
theorem rtake_all {t : Nat} {S : Nat → Prop} {v0 : ToldV} (h : RefTV w t S v0) (life count base : Nat) (v : Value) (l : List RankA) (hr : Rs w v l) :
    Calls Try.prog 62 #[.pointer (some ⟨t, 0, none⟩), .int .u64 life, .int .u64 count, .int .u64 base, v] w fun e w' => e = .returned (.int .i64 (takeRE v0.life v0.count life count base l)) ∧
      ((takeRE v0.life v0.count life count base l = 0 ∧ RefTV w' t (fun k => S k ∨ w.heap.size ≤ k) ⟨life, count, base, kept l⟩ ∧ Ext (fun k => k = t) w w') ∨ (takeRE v0.life v0.count life count base l ≠ 0 ∧ Grows w w')) := by
  obtain ⟨l0, h, h9⟩ := h
  by_cases hm : mayB life count base l = true
  · by_cases hl : laterB life count v0.life v0.count = true
    · have hE : takeRE v0.life v0.count life count base l = 0 := by rw [takeRE, if_pos hm, if_pos hl]
      rw [hE]
      have hv : ∀ b, v.ownBlock = some b → l ≠ [] → b ≠ t := by
        obtain ⟨ty, vs, hh, ho, _⟩ := h.blk
        obtain ⟨va, vc, rfl⟩ := OwnS.form ho
        exact rs_ne_told hr hh ⟨_, _, _, rfl⟩
      refine (reftake_ok h life count base v l hr hv hm hl).mono ?_
      rintro e w' ⟨rfl, h1, e1⟩
      have hq := mayL_mem l base (mayB_split hm)
      refine ⟨rfl, .inl ⟨rfl, ⟨l, h1, rfl, ?_, fun r hr1 => (hq.1 r hr1).2.2.1⟩, e1⟩⟩
      have h2 := hq.2
      unfold finOf at h2
      omega
    · have hl' : laterB life count v0.life v0.count = false := by simpa using hl
      have hE : takeRE v0.life v0.count life count base l = 22 := by rw [takeRE, if_pos hm, if_neg hl]
      rw [hE]
      refine (reftake_old h life count base v l hr hm hl').mono ?_
      rintro e w' ⟨rfl, g⟩
      exact ⟨rfl, .inr ⟨by omega, g⟩⟩
  · have hm' : mayB life count base l = false := by simpa using hm
    have hE : takeRE v0.life v0.count life count base l = 1 := by rw [takeRE, if_neg hm]
    rw [hE]
    refine (reftake_arg life count base v l hr hm').mono ?_
    rintro e w' ⟨rfl, g⟩
    exact ⟨rfl, .inr ⟨by omega, g⟩⟩
theorem rout_feed (h : ROutAt w0 w o s n x) (f : Int) (life count base : Nat) (v : Value) (l : List RankA) (hr : Rs w v l) (E : Int) (hE : feedE x f life count base l = E) :
    Calls Try.prog 28 #[.pointer (some ⟨o, 0, none⟩), .int .i64 f, .int .u64 life, .int .u64 count, .int .u64 base, v] w fun e w' => e = .returned (.int .i64 E) ∧ ROutAt w0 w' o s n (x.feed f life count base l) := by
  obtain ⟨vt, vl, ts, es, c, h, h2⟩ := h
  obtain ⟨va, vc, rfl⟩ := hr.form
  have c1 := h.cells.1.2
  cases ha : x.at f with
  | none =>
    obtain ⟨ta, tc, rfl⟩ := h.row.form
    have hf := OutV.at_none ha
    have hE1 : feedE x f life count base l = 1 := by unfold feedE; rw [ha]
    obtain rfl : E = 1 := by rw [← hE, hE1]
    have hxx : x.feed f life count base l = x := by unfold OutV.feed; rw [hE1, if_neg (by omega)]
    have HH := Lib.hid (And.intro h h2)
    rw [hxx]
    clear h ha hE hE1 hr hxx h2
    rcases hf with hf | hf
    · go_enter Try.func28, Try.ntmps28
      go_wp2
      go_ret
      exact ⟨rfl, _, vl, ts, es, c, HH.out⟩
    · have i0 : ¬ f < 0 := by omega
      go_enter Try.func28, Try.ntmps28
      go_wp2
      go_ret
      exact ⟨rfl, _, vl, ts, es, c, HH.out⟩
  | some y =>
    obtain ⟨i, rfl, hi, hv⟩ := OutV.at_some ha
    obtain ⟨g, off, cap, t, rfl, hc, ht, hT⟩ := h.at i hi
    rw [hv] at hT
    have hE1 : feedE x i life count base l = takeRE y.life y.count life count base l := by unfold feedE; rw [ha]
    have i0 : ¬ (i : Int) < 0 := by omega
    have i1 : ¬ (x.told.length : Int) ≤ (i : Int) := by omega
    have i2 : (0 : Int) ≤ (i : Int) := by omega
    have i3 : (i : Int) < (x.told.length : Int) := by omega
    have HT := Lib.hid (rtake_all hT life count base _ l hr)
    have HH := Lib.hid (And.intro h (And.intro hE1 (And.intro hE (And.intro hi (And.intro ht (And.intro hT.own h2))))))
    clear h ha hv hE hE1 hr hi hT ht h2
    go_enter Try.func28, Try.ntmps28
    go_wp2_with fail
    refine HT.out.mono ?_
    rintro e w' ⟨rfl, hc⟩
    have hres : ROutAt w0 w' o s n (x.feed i life count base l) := by
      unfold OutV.feed
      rw [HH.out.2.1]
      rcases hc with ⟨h0, h1, e1⟩ | ⟨h0, g⟩
      · rw [if_pos h0]
        obtain ⟨c', h2⟩ := HH.out.1.retold HH.out.2.2.2.1 HH.out.2.2.2.2.1 HH.out.2.2.2.2.2.1 (v := ⟨life, count, base, kept l⟩) h1 e1
        exact ⟨_, vl, ts, es, c', h2, HH.out.2.2.2.2.2.2⟩
      · rw [if_neg h0]
        exact ⟨_, vl, ts, es, c, HH.out.1.more g, HH.out.2.2.2.2.2.2⟩
    have HR := Lib.hid hres
    rw [← HH.out.2.1, HH.out.2.2.1]
    clear hc hres
    go_wp2
    go_ret
    exact ⟨rfl, HR.out⟩
end
theorem ROutC.addTold {w0 : Frm} {w w1 w4 w5 : World} {o s t : Nat} {vt vt' vl : Value} {ts : List Nat} {es : List (PlaceV × Nat)} {c : Nat → Nat} {x : OutV} (h : ROutC w0 w o s vt vl ts es c x) (hlen : x.told.length < 4) (ht : RefTV w1 t (fun k => k = t) ⟨0, 0, 0, []⟩) (htl : t < w1.heap.size) (htb : w.heap.size ≤ t) (g1 : Grows w w1) (g4 : Grows w1 w4)
    (hown : OwnS w5 124 1 vt' (x.told.length + 1) (ptrs ts ++ [.pointer (some ⟨t, 0, none⟩)])) (hgr : w4.grownBy w5 vt.ownBlock) (hblk : vt'.ownBlock = vt.ownBlock ∨ vt'.ownBlock = some w4.heap.size) :
    ∃ c', ROutC w0 (w5.setCell ⟨o, 1, none⟩ vt') o s vt' vl (ts ++ [t]) es c' x.more1 := by
  have s1 := g1.size
  have s4 := g4.size
  have e45 : Ext (fun k => vt.ownBlock = some k) w4 w5 := Ext.of_grown hgr (fun k hk => hk)
  have s5 := e45.size
  have e5o : Ext (fun k => k = o) w5 (w5.setCell ⟨o, 1, none⟩ vt') := Ext.setCell (S := fun k => k = o) (Ext.refl _ _) ⟨o, 1, none⟩ (Or.inr rfl) _
  have e0 : Ext (fun k => vt.ownBlock = some k) w w5 := (g1.trans g4).lift.trans e45
  have ea : Ext (fun k => vt.ownBlock = some k ∨ k = o) w (w5.setCell ⟨o, 1, none⟩ vt') := (e0.mono (fun _ _ h => .inl h)).trans (e5o.mono (fun _ _ h => .inr h))
  have hlt : ∀ k, c k ≠ 0 → k < w.heap.size := fun k hk => (h.lo k hk).2
  have hnew : ∀ k, vt'.ownBlock = some k → (c k = 4 ∧ k < w.heap.size) ∨ (k = w4.heap.size) := fun k hk => by
    rcases hblk with hb | hb
    · rw [hb] at hk
      exact .inl ⟨h.ct k hk, hlt k (by rw [h.ct k hk]; omega)⟩
    · rw [hb] at hk
      simp only [Option.some.injEq] at hk
      exact .inr hk.symm
  have hvlt : ∀ k, vt'.ownBlock = some k → k < w5.heap.size := fun k hk => hown.lt k hk
  have hd : ∀ k d, c k = d → d ≠ 4 → d ≠ 1 → ¬ (vt.ownBlock = some k ∨ k = o) := fun k d hk h2 h3 hh => by
    rcases hh with hh | hh
    · have := h.ct k hh; omega
    · rw [hh, h.co] at hk; omega
  refine ⟨fun k => if k < w.heap.size then c k else if k = t then 5 + x.told.length else if vt'.ownBlock = some k then 4 else 0, ?_⟩
  have hold : ∀ k, c k ≠ 0 → (if k < w.heap.size then c k else if k = t then 5 + x.told.length else if vt'.ownBlock = some k then 4 else 0) = c k := fun k hk => if_pos (hlt k hk)
  obtain ⟨ty, hb⟩ := h.blk
  have hb5 := (e0.block o (heap_lt hb) (fun hh => by have := h.ct o hh; rw [h.co] at this; omega)).trans hb
  have hsz : (w5.setCell ⟨o, 1, none⟩ vt').heap.size = w5.heap.size := by simp
  have hml : x.more1.told.length = x.told.length + 1 := by show (x.told ++ [_]).length = _; rw [List.length_append]; rfl
  refine ⟨⟨ty, setCell_heap hb5 1 vt'⟩, by rw [hold o (by rw [h.co]; omega)]; exact h.co, h.snd.ext ea (hd s 2 h.cs (by omega) (by omega)), by rw [hold s (by rw [h.cs]; omega)]; exact h.cs, h.ls.ext ea (fun k hk => hd k 3 (h.cl k hk) (by omega) (by omega)), fun k hk => by rw [hold k (by rw [h.cl k hk]; omega)]; exact h.cl k hk, ?_, fun k hk => ?_, by rw [hml, List.length_append, h.tl]; rfl, fun i u y h3 h4 => ?_, fun k hk => ?_, by rw [hml]; omega, ?_, h.snt⟩
  · rw [hml]
    have : ptrs (ts ++ [t]) = ptrs ts ++ [.pointer (some ⟨t, 0, none⟩)] := by unfold ptrs; rw [List.map_append]; rfl
    rw [this]
    refine hown.ext e5o (fun k hk hh => ?_)
    rw [hh] at hk
    rcases hnew o hk with h9 | h9
    · rw [h.co] at h9; omega
    · have := heap_lt hb; omega
  · rcases hnew k hk with h9 | h9
    · rw [hold k (by rw [h9.1]; omega)]; exact h9.1
    · show (if k < w.heap.size then c k else if k = t then 5 + x.told.length else if vt'.ownBlock = some k then 4 else 0) = 4
      rw [if_neg (by omega), if_neg (by omega), if_pos hk]
  · rcases Nat.lt_or_ge i x.told.length with hi | hi
    · rw [List.getElem?_append_left (by rw [h.tl]; exact hi)] at h3
      have h4' : (x.told ++ [(⟨0, 0, 0, []⟩ : ToldV)])[i]? = some y := h4
      rw [List.getElem?_append_left hi] at h4'
      refine ((h.told i u y h3 h4').ext ea (fun k hk => hd k (5 + i) hk (by omega) (by omega))).wide (fun k hk => ?_)
      rw [hold k (by rw [hk]; omega)]; exact hk
    · have hi2 : i = x.told.length := by
        have := (List.getElem?_eq_some_iff.1 h4).1
        rw [hml] at this
        omega
      subst hi2
      rw [List.getElem?_append_right (by rw [h.tl]; exact Nat.le_refl _), h.tl] at h3
      have h4' : (x.told ++ [(⟨0, 0, 0, []⟩ : ToldV)])[x.told.length]? = some y := h4
      rw [List.getElem?_append_right (Nat.le_refl _)] at h4'
      simp only [Nat.sub_self, List.getElem?_cons_zero, Option.some.injEq] at h3 h4'
      subst h3 h4'
      have hto : ¬ t = o := by have := heap_lt hb; omega
      refine ((ht.ext g4 (fun _ _ h => h)).ext ((e45.mono (T := fun k => vt.ownBlock = some k ∨ k = o) (fun _ _ h => .inl h)).trans (e5o.mono (fun _ _ h => .inr h))) (fun k hk hh => ?_)).wide (fun k hk => ?_)
      · subst hk
        rcases hh with hh | hh
        · have := h.ct k hh
          have := hlt k (by omega)
          omega
        · exact hto hh
      · subst hk
        show (if k < w.heap.size then c k else if k = k then 5 + x.told.length else _) = _
        rw [if_neg (by omega), if_pos rfl]
  · rw [hsz]
    by_cases hk1 : k < w.heap.size
    · simp only [hk1, if_true] at hk
      exact ⟨(h.lo k hk).1, by omega⟩
    · simp only [hk1, if_false] at hk
      have hk2 := h.gw.size
      by_cases hk3 : k = t
      · exact ⟨.inl (by omega), by omega⟩
      · rw [if_neg hk3] at hk
        by_cases hk4 : vt'.ownBlock = some k
        · exact ⟨.inl (by omega), hvlt k hk4⟩
        · rw [if_neg hk4] at hk; exact absurd rfl hk
  · exact Frm.step h.gw ea (fun k hh => by
      rcases hh with hh | hh
      · exact (h.lo k (by rw [h.ct k hh]; omega)).1
      · exact hh ▸ (h.lo o (by rw [h.co]; omega)).1)
theorem infoRTP : (Try.prog.info? 124).map (fun i => (i.zero, i.size, i.bytes)) = some (some (.pointer none), 1, 8) := by kernel_rfl
theorem zeroSent : ∀ w, (zeroValue 126).run Try.prog w = .ok (.agg #[.int .u64 0, .int .u64 0, .int .u64 0, .slice none 0 0]) w := fun w => by kernel_rfl
theorem ROutC.first {w w2 : World} {s life : Nat} (h1 : RefS w2 s life 0 0 0) (hs : w.heap.size ≤ s) (g : Grows w w2) (ty : TypeId) :
    ROutC (Frm.of w) (w2.alloc (.cells #[.pointer (some ⟨s, 0, none⟩), .slice none 0 0, .slice none 0 0, .int .i64 0, .int .u64 0, .bool false] ty)) w2.heap.size s (.slice none 0 0) (.slice none 0 0) [] [] (fun k => if k = w2.heap.size then 1 else if k = s then 2 else 0) (newV life 0) := by
  have hl := h1.lt
  have hg := g.size
  have hb := heap_alloc_new w2 (.cells #[.pointer (some ⟨s, 0, none⟩), .slice none 0 0, .slice none 0 0, .int .i64 0, .int .u64 0, .bool false] ty (0, 0))
  have ga : Grows w2 (w2.alloc (.cells #[.pointer (some ⟨s, 0, none⟩), .slice none 0 0, .slice none 0 0, .int .i64 0, .int .u64 0, .bool false] ty)) := (Ext.refl _ _).alloc _
  refine ⟨⟨ty, hb⟩, if_pos rfl, h1.ext ga (fun h => h), ?_, OwnS.nil _ _ _, fun k hk => by simp [Value.ownBlock] at hk, OwnS.nil _ _ _, fun k hk => by simp [Value.ownBlock] at hk, rfl, fun i t v h3 => by simp at h3, fun k hk => ?_, by show (0 : Nat) ≤ 4; omega, g.trans ga, fun p => rfl⟩
  · show (if s = w2.heap.size then 1 else if s = s then 2 else 0) = 2
    rw [if_neg (by omega), if_pos rfl]
  · have hsz : (w2.alloc (.cells #[.pointer (some ⟨s, 0, none⟩), .slice none 0 0, .slice none 0 0, .int .i64 0, .int .u64 0, .bool false] ty)).heap.size = w2.heap.size + 1 := by simp
    rw [hsz]
    split at hk
    · exact ⟨.inl (show w.heap.size ≤ k by omega), by omega⟩
    · split at hk
      · exact ⟨.inl (show w.heap.size ≤ k by omega), by omega⟩
      · exact absurd rfl hk
theorem refT_new (w : World) : RefTV (w.alloc (.cells #[.int .u64 0, .int .u64 0, .int .u64 0, .slice none 0 0] 126)) w.heap.size (fun k => k = w.heap.size) ⟨0, 0, 0, []⟩ :=
  ⟨[], ⟨⟨_, _, heap_alloc_new w _, OwnS.nil _ _ _, fun b hb => by simp [Value.ownBlock] at hb⟩, rfl⟩, rfl, by simp, fun r hr => by simp at hr⟩
set_option maxHeartbeats 4000000 in
theorem rout_new (life flows : Nat) (w : World) (h1 : 1 ≤ life) (h2 : life ≤ Most) (h3 : 1 ≤ flows) (h4 : flows ≤ 4) :
    Calls Try.prog 26 #[.int .u64 life, .int .i64 flows] w fun e w' => ∃ o s, e = .returned (.tuple #[.pointer (some ⟨o, 0, none⟩), .int .i64 0]) ∧ ROutAt (Frm.of w) w' o s 0 (newV life flows) := by
  have i1 : ¬ (flows : Int) < 1 := by omega
  have i2 : ¬ (4 : Int) < (flows : Int) := by omega
  have HL := Lib.hid (And.intro h1 h2)
  clear h1 h2
  go_enter Try.func26, Try.ntmps26
  go_wp2_with fail
  obtain ⟨s, hs⟩ : ∃ s, w.heap.size = s := ⟨_, rfl⟩
  refine (ref_newS_ok life w HL.out.1 HL.out.2).mono ?_
  rintro e w2 ⟨rfl, hsn, hg⟩
  rw [hs] at hsn ⊢
  have HF := Lib.hid (ROutC.first hsn (Nat.le_of_eq hs) hg)
  clear hsn hs hg
  go_wp2
  have HF2 := Lib.hid (HF.out 76)
  clear HF
  generalize w2.alloc (.cells #[.pointer (some ⟨s, 0, none⟩), .slice none 0 0, .slice none 0 0, .int .i64 0, .int .u64 0, .bool false] 76) = w3 at HF2 ⊢
  generalize w2.heap.size = o at HF2 ⊢
  go_loopg [9] flows (fun k c wr => ∃ (j : Nat) (vt : Value) (ts : List Nat) (cc : Nat → Nat), j ≤ flows ∧ k = flows - j ∧ c = .int .i64 (j : Nat) ∧ ROutC (Frm.of w) wr o s vt (.slice none 0 0) ts [] cc (newV life j))
  case atStart => exact ⟨0, _, _, _, by omega, by omega, rfl, HF2.out⟩
  case round =>
    obtain ⟨j, vt, ts, cc, hj, hk, rfl, hO⟩ := hrel
    have HK := Lib.hid hk
    clear hk HF2
    by_cases hlt : j < flows
    · have j1 : (j : Int) < (flows : Int) := by omega
      have hjl : (newV life j).told.length = j := by show (List.replicate j _).length = j; rw [List.length_replicate]
      have c1 := hO.cells.1.2
      obtain ⟨ty, hb⟩ := hO.blk
      have ho := heap_lt hb
      have hov : ∀ k, vt.ownBlock = some k → k ≠ o := fun k hk hh => by have h1 := hO.ct k hk; have h2 := hO.co; rw [hh] at h1; omega
      obtain ⟨w4, hw4⟩ : ∃ w4, wr.alloc (.cells #[.int .u64 0, .int .u64 0, .int .u64 0, .slice none 0 0] 126) = w4 := ⟨_, rfl⟩
      obtain ⟨w5, hw5⟩ : ∃ w5, w4.alloc (.cells #[.pointer (some ⟨wr.heap.size, 0, none⟩)] 124) = w5 := ⟨_, rfl⟩
      have hT := refT_new wr
      rw [hw4] at hT
      have g4 : Grows wr w4 := hw4 ▸ (Ext.refl _ _).alloc _
      have g5 : Grows w4 w5 := hw5 ▸ (Ext.refl _ _).alloc _
      have hsrc := src_one (w := w5) Try.underlying72 (hw5 ▸ heap_alloc_new w4 _) (x := .pointer (some ⟨wr.heap.size, 0, none⟩)) rfl
      have hrow := (hO.row.grows g4).grows g5
      rw [hjl] at hrow
      have HO := Lib.hid (And.intro hO (And.intro hjl (And.intro hT (And.intro g4 (And.intro g5 (And.intro ho (And.intro hov (by have := hw4 ▸ alloc_size1 wr (.cells #[.int .u64 0, .int .u64 0, .int .u64 0, .slice none 0 0] 126); exact this : w4.heap.size = wr.heap.size + 1))))))))
      rw [← hw5, ← hw4] at hsrc hrow
      rw [alloc_size1] at hsrc
      have HE := Lib.hid (And.intro hw4 hw5)
      clear hO hb ho hov hT g4 g5 hw4 hw5
      go_wp2_with (at_builtin; refine wpList_append_ownS rfl (.tmp 37) (.tmp 40) 72 72 rfl 124 (.pointer none) 1 8 Try.underlying72 infoRTP rfl _ _ rfl rfl j (ptrs ts) hrow 1 [.pointer (some ⟨wr.heap.size, 0, none⟩)] hsrc (by unfold maxLen; omega) (by omega) ?_)
      intro v' w6 hown6 hgr6 hblk6
      have hsz := HO.out.2.2.2.2.2.2.2
      have hs5 : w5.heap.size = wr.heap.size + 1 + 1 := by rw [← HE.out.2, alloc_size1, hsz]
      rw [HE.out.1, HE.out.2] at hgr6
      rw [← hs5] at hblk6
      have hsz5 := HO.out.2.2.2.2.1.size
      have b6 := (hgr6.block o (by have := HO.out.2.2.2.2.2.1; omega) (fun hh => HO.out.2.2.2.2.2.2.1 o hh.symm rfl)).trans ((HO.out.2.2.2.2.1.block o (by have := HO.out.2.2.2.2.2.1; omega) (fun h => h)).trans (HO.out.2.2.2.1.block o HO.out.2.2.2.2.2.1 (fun h => h)))
      obtain ⟨ty, hb⟩ := HO.out.1.blk
      have c6 := cell_of_heap (b6.trans hb) 1
      have f6 := frozen_of_heap (b6.trans hb) 1
      simp at c6
      have hO9 := HO.out.1
      obtain ⟨c', hA⟩ := hO9.addTold (t := wr.heap.size) (by rw [hjl]; omega) HO.out.2.2.1 (by omega) (Nat.le_refl _) HO.out.2.2.2.1 HO.out.2.2.2.2.1 (by rw [hjl]; exact hown6) hgr6 hblk6
      rw [newV_more] at hA
      obtain ⟨qa, qc, rfl⟩ := OwnS.form hown6
      have A := Lib.hid hA
      clear hA hO9 hown6 hgr6 hblk6 b6 hb hrow hsrc hsz hsz5 c1
      go_wp2
      go_roundg (flows - (j + 1))
      case measure => have := HK.out; omega
      case rel => exact ⟨j + 1, _, _, _, by omega, rfl, by go_num, A.out⟩
    · have j1 : ¬ (j : Int) < (flows : Int) := by omega
      obtain rfl : j = flows := by omega
      have HO := Lib.hid hO
      clear hO
      go_wp2
      go_ret2
      exact ⟨o, rfl, s, _, _, ts, [], cc, HO.out, by simp, fun e he => by simp at he⟩
theorem rout_new_no (life : Nat) (flows : Int) (w : World) (h : ¬ (1 ≤ life ∧ life ≤ Most) ∨ flows < 1 ∨ 4 < flows) :
    Calls Try.prog 26 #[.int .u64 life, .int .i64 flows] w fun e w' => e = .returned (.tuple #[.pointer none, .int .i64 1]) ∧ Grows w w' := by
  by_cases hl : 1 ≤ life ∧ life ≤ Most
  · have hf : flows < 1 ∨ 4 < flows := h.resolve_left (fun hh => hh hl)
    have HL := Lib.hid hl
    clear h hl
    by_cases hf1 : flows < 1
    · clear hf
      go_enter Try.func26, Try.ntmps26
      go_wp2_with fail
      refine (ref_newS_ok life w HL.out.1 HL.out.2).mono ?_
      rintro e w2 ⟨rfl, hsn, hg⟩
      have HG := Lib.hid hg
      clear hsn hg
      go_wp2
      go_ret2
      exact ⟨rfl, HG.out⟩
    · have hf2 : 4 < flows := hf.resolve_left hf1
      clear hf
      go_enter Try.func26, Try.ntmps26
      go_wp2_with fail
      refine (ref_newS_ok life w HL.out.1 HL.out.2).mono ?_
      rintro e w2 ⟨rfl, hsn, hg⟩
      have HG := Lib.hid hg
      clear hsn hg
      go_wp2
      go_ret2
      exact ⟨rfl, HG.out⟩
  · have HL := Lib.hid hl
    clear h hl
    go_enter Try.func26, Try.ntmps26
    go_wp2_with fail
    refine (ref_newS_no life w HL.out).mono ?_
    rintro e w2 ⟨rfl, rfl⟩
    go_wp2
    go_ret2
    exact ⟨rfl, Ext.refl _ _⟩
end Go.Proofs.Ytekdggdnkmkldaa
