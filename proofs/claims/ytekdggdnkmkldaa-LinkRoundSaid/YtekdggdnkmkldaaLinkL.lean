/- link: a round's picks, one by one. -/
import Derived.Test.YtekdggdnkmkldaaLinkH
namespace Go.Proofs.Ytekdggdnkmkldaa
set_option linter.unusedVariables false
set_option linter.unusedSimpArgs false
set_option maxRecDepth 1500
open Go.ChangeShapes Go.WideShapes Go.ChangeAt Go.RowKit Go.Maps

def rr (m k : Nat) : Nat := if k < m then k else k - m
def sn (m k j : Nat) : Nat := (if j < k then 1 else 0) + (if m + j < k then 1 else 0)
theorem rr_lt {m k : Nat} (hk : k < 2 * m) : rr m k < m := by unfold rr; split <;> omega
theorem sn_rr {m k : Nat} (hk : k < 2 * m) : sn m k (rr m k) = if k < m then 0 else 1 := by
  unfold sn rr
  by_cases h : k < m
  · rw [if_pos h, if_pos h, if_neg (by omega), if_neg (by omega)]
  · rw [if_neg h, if_neg h, if_pos (by omega), if_neg (by omega)]
theorem sn_succ {m k j : Nat} (hk : k < 2 * m) (hj : j < m) : sn m (k + 1) j = if j = rr m k then sn m k j + 1 else sn m k j := by
  unfold sn rr
  by_cases h : k < m
  · rw [if_pos h]
    by_cases h2 : j = k
    · rw [if_pos h2, if_pos (by omega), if_neg (by omega), if_neg (by omega), if_neg (by omega)]
    · rw [if_neg h2]
      by_cases h3 : j < k
      · rw [if_pos h3, if_pos (by omega), if_neg (by omega), if_neg (by omega)]
      · rw [if_neg h3, if_neg (by omega), if_neg (by omega), if_neg (by omega)]
  · rw [if_neg h]
    by_cases h2 : j = k - m
    · rw [if_pos h2, if_pos (by omega), if_pos (by omega), if_pos (by omega), if_neg (by omega)]
    · rw [if_neg h2, if_pos (by omega), if_pos (by omega : j < k)]
      by_cases h3 : m + j < k
      · rw [if_pos h3, if_pos (by omega)]
      · rw [if_neg h3, if_neg (by omega)]
/-- The out behind k picks and uses. -/
structure PkV (rv : RoundV) (k : Nat) (x : OutV) : Prop where
  used : x.used = k
  gr : x.gr = 1000
  told : x.told = (rv.x 2).told
  beg : x.begun = decide (0 < k)
  last : ∀ j, k = j + 1 → ∀ (h : rr rv.WL.length j < rv.WL.length), x.last = rv.WL[rr rv.WL.length j]
  sent : ∀ (j : Nat) (hj : j < rv.WL.length), x.sent rv.WL[j] = (sn rv.WL.length k j : Nat)
theorem PkV.start (rv : RoundV) : PkV rv 0 (rv.x 2) := ⟨rfl, rfl, rfl, rfl, fun j h => by omega, fun j hj => by
  show (0 : Int) = _
  unfold sn
  rw [if_neg (by omega), if_neg (by omega)]
  rfl⟩
section
variable {rv : RoundV} {k : Nat} {x : OutV}
theorem PkV.head (h : PkV rv k x) (hk : k < 2 * rv.WL.length) : (roundP rv.WL x.last x.begun).head? = some (rv.WL[rr rv.WL.length k]'(rr_lt hk)) := by
  rw [h.beg]
  cases k with
  | zero =>
    have h0 : rr rv.WL.length 0 = 0 := by unfold rr; rw [if_pos (by omega)]
    show rv.WL.head? = _
    simp only [h0]
    rw [List.head?_eq_getElem?, List.getElem?_eq_getElem (by omega)]
  | succ j =>
    have hj : rr rv.WL.length j < rv.WL.length := rr_lt (by omega)
    rw [h.last j rfl hj, show decide (0 < j + 1) = true by simp, next_at rv.sorted _ hj]
    have h1 : (rr rv.WL.length j + 1) % rv.WL.length = rr rv.WL.length (j + 1) := by
      unfold rr
      by_cases h2 : j + 1 < rv.WL.length
      · rw [if_pos (by omega), if_pos h2, Nat.mod_eq_of_lt h2]
      · rw [if_neg h2]
        by_cases h3 : j < rv.WL.length
        · rw [if_pos h3]
          have : j + 1 = rv.WL.length := by omega
          rw [this, Nat.mod_self, Nat.sub_self]
        · rw [if_neg h3, Nat.mod_eq_of_lt (by omega)]
          omega
    rw [h1, List.getElem?_eq_getElem (rr_lt hk)]
theorem PkV.use (h : PkV rv k x) (hk : k < 2 * rv.WL.length) : PkV rv (k + 1) (x.use (rv.WL[rr rv.WL.length k]'(rr_lt hk))) := by
  refine ⟨by show x.used + 1 = k + 1; rw [h.used], h.gr, h.told, by show true = _; simp, fun j hj hl => ?_, fun j hj => ?_⟩
  · obtain rfl : j = k := by omega
    rfl
  · show setQ x.sent _ _ _ = _
    unfold setQ
    rw [sn_succ hk hj]
    by_cases e : j = rr rv.WL.length k
    · subst e
      rw [if_pos rfl, if_pos rfl, h.sent _ (rr_lt hk)]
      rfl
    · rw [if_neg e, if_neg (fun hh => e ?_), h.sent j hj]
      exact (List.getElem_inj (sorted_nodup rv.sorted)).1 hh
theorem PkV.may (h : PkV rv k x) : InOrder rv.WL (mayOwn x rv.W [rv.ownR 0 20, rv.ownR 1 20]) ∧ (mayOwn x rv.W [rv.ownR 0 20, rv.ownR 1 20]).length ≤ 1048576 := by
  have h1 : mayOwn x rv.W [rv.ownR 0 20, rv.ownR 1 20] = rv.WL := rv.may_own x (by rw [h.told]; rfl) (by rw [h.told]; rfl)
  rw [h1]
  have := rv.len
  exact ⟨⟨rv.sorted, fun _ => Iff.rfl⟩, by omega⟩
theorem PkV.len (h : PkV rv k x) : x.told.length = 2 := by rw [h.told]; rfl
end
/-- Cells of places. -/
def qcells (l : List PlaceV) : List Value := l.flatMap fun p => [.int .i64 p.flow, .int .u64 (p.gen : Nat)]
theorem qcells_append (a b : List PlaceV) : qcells (a ++ b) = qcells a ++ qcells b := List.flatMap_append
theorem qcells_at : ∀ (l : List PlaceV) (i : Nat) (hi : i < l.length), (qcells l)[i * 2]? = some (.int .i64 l[i].flow) ∧ (qcells l)[i * 2 + 1]? = some (.int .u64 (l[i].gen : Nat))
  | p :: rest, 0, _ => ⟨rfl, rfl⟩
  | p :: rest, i + 1, hi => by
    have h := qcells_at rest i (by simpa using hi)
    have e : qcells (p :: rest) = [.int .i64 p.flow, .int .u64 (p.gen : Nat)] ++ qcells rest := rfl
    rw [e]
    refine ⟨?_, ?_⟩
    · rw [List.getElem?_append_right (by simp; omega), show (i + 1) * 2 - [Value.int .i64 p.flow, .int .u64 (p.gen : Nat)].length = i * 2 by simp; omega]
      exact h.1
    · rw [List.getElem?_append_right (by simp; omega), show (i + 1) * 2 + 1 - [Value.int .i64 p.flow, .int .u64 (p.gen : Nat)].length = i * 2 + 1 by simp; omega]
      exact h.2
def SlP (v : Value) (l : List PlaceV) : Frm → World → Prop := SlO 31 2 v l.length (qcells l)
theorem parts_slp (v : Value) (l : List PlaceV) : Parts (SlP v l) := parts_sl _ _ _ _ _
theorem Ctx.slp {S : (Frm → World → Prop) → Frm → World → Prop} (c : Ctx S) {z : Frm} {w w1 w3 : World} {v v' : Value} {l : List PlaceV} (p : PlaceV) (h : S (SlP v l) z w) (g : Grows w w1) (ho : OwnS w3 31 2 v' (l.length + 1) (qcells l ++ [.int .i64 p.flow, .int .u64 (p.gen : Nat)])) (hg : w1.grownBy w3 v.ownBlock) (hb : v'.ownBlock = v.ownBlock ∨ v'.ownBlock = some w1.heap.size) : S (SlP v' (l ++ [p])) z w3 := by
  obtain ⟨F, h1, _, h3⟩ := c.foc h
  refine h3 (parts_slp _ _) ?_
  have h4 := SlO.append (m := 1) h1 g ho hg hb
  unfold SlP
  rw [List.length_append, qcells_append]
  exact h4
theorem Ctx.ownp {S : (Frm → World → Prop) → Frm → World → Prop} (c : Ctx S) {z : Frm} {w : World} {v : Value} {l : List PlaceV} (h : S (SlP v l) z w) : OwnS w 31 2 v l.length (qcells l) := by
  obtain ⟨F, h1, _⟩ := c.foc h
  exact h1.1
theorem ownp_at {w : World} {v : Value} {l : List PlaceV} (h : OwnS w 31 2 v l.length (qcells l)) (i : Nat) (hi : i < l.length) : ∃ g off cap, v = .slice (some ⟨g, off, none⟩) l.length cap ∧ w.cell? ⟨g, off + i * 2, none⟩ = some (.int .i64 l[i].flow) ∧ w.cell? ⟨g, off + i * 2 + 1, none⟩ = some (.int .u64 (l[i].gen : Nat)) := by
  obtain ⟨g, off, cap, h1, _, h3, _⟩ := h.cells (i * 2) (by omega)
  obtain ⟨g', off', cap', h1', _, h3', _⟩ := h.cells (i * 2 + 1) (by omega)
  rw [h1] at h1'
  injection h1' with e1 e2 e3
  injection e1 with e1
  injection e1 with e4 e5
  subst e4 e5
  exact ⟨g, off, cap, h1, h3.trans (qcells_at l i hi).1, (by rw [Nat.add_assoc]; exact h3'.trans (qcells_at l i hi).2)⟩
/-- Behind k picks. -/
def PK (rv : RoundV) (b1 : Nat) (cs : Array Value) (o g bm : Nat) (v0 v1 : Value) (k : Nat) (x : OutV) (vt : Value) (l : List PlaceV) : Frm → World → Prop := RS (BO b1 cs) (OutO o k x) (GO g v0 v1) (MapW bm rv.WL) (SlR v0 (rv.ownR 0 20)) (SlR v1 (rv.ownR 1 20)) (SlP vt l)
section
variable {rv : RoundV} {b1 : Nat} {cs : Array Value} {o g bm : Nat} {v0 v1 : Value} {k : Nat} {x : OutV} {vt : Value} {l : List PlaceV} {z : Frm} {w w' : World}
theorem parts_pk : Parts (PK rv b1 cs o g bm v0 v1 k x vt l) := parts_rs (parts_bo _ _) (parts_outo _ _ _) (parts_go _ _ _) (parts_mapw _ _) (parts_slr _ _) (parts_slr _ _) (parts_slp _ _)
theorem PK.out (h : PK rv b1 cs o g bm v0 v1 k x vt l z w) : ∃ F : Nat → Prop, OutAt ⟨w, F⟩ w o k x := (ctx_O (parts_bo _ _) (parts_go _ _ _) (parts_mapw _ _) (parts_slr _ _) (parts_slr _ _) (parts_slp _ _)).get h
theorem PK.map (h : PK rv b1 cs o g bm v0 v1 k x vt l z w) : ∃ F : Nat → Prop, MapW bm rv.WL ⟨w, F⟩ w := (ctx_M (parts_bo _ _) (parts_outo _ _ _) (parts_go _ _ _) (parts_slr _ _) (parts_slr _ _) (parts_slp _ _)).get h
theorem PK.own (h : PK rv b1 cs o g bm v0 v1 k x vt l z w) : OwnS w 31 2 vt l.length (qcells l) := (ctx_T (parts_bo _ _) (parts_outo _ _ _) (parts_go _ _ _) (parts_mapw _ _) (parts_slr _ _) (parts_slr _ _)).ownp h
theorem PK.rss (ok : rv.okay) (h : PK rv b1 cs o g bm v0 v1 k x vt l z w) : Rss w (.slice (some ⟨g, 0, none⟩) 2 2) [rv.ownR 0 20, rv.ownR 1 20] := by
  have h0 := (ctx_0 (parts_bo _ _) (parts_outo _ _ _) (parts_go _ _ _) (parts_mapw _ _) (parts_slr _ _) (parts_slp _ _)).own h
  have h1 := (ctx_1 (parts_bo _ _) (parts_outo _ _ _) (parts_go _ _ _) (parts_mapw _ _) (parts_slr _ _) (parts_slp _ _)).own h
  have hb := (ctx_G (parts_bo _ _) (parts_outo _ _ _) (parts_mapw _ _) (parts_slr _ _) (parts_slr _ _) (parts_slp _ _)).blk h
  exact rss_two hb (rs_of_sl h0 rfl (rv.own_ok ok 0 20 (Nat.le_refl _)) (Nat.le_trans (rv.own_len 0 20) (by omega))) (rs_of_sl h1 rfl (rv.own_ok ok 1 20 (Nat.le_refl _)) (Nat.le_trans (rv.own_len 1 20) (by omega)))
theorem PK.use (h : PK rv b1 cs o g bm v0 v1 k x vt l z w) {k' : Nat} {x' : OutV} {P : Program} {f : Nat} {args : Array Value} {Q : Ending → World → Prop} (op : ∀ z, OutAt z w o k x → Calls P f args w fun e w' => Q e w' ∧ OutAt z w' o k' x') : Calls P f args w fun e w' => Q e w' ∧ PK rv b1 cs o g bm v0 v1 k' x' vt l z w' :=
  (ctx_O (parts_bo _ _) (parts_go _ _ _) (parts_mapw _ _) (parts_slr _ _) (parts_slr _ _) (parts_slp _ _)).calls (parts_outo o k' x') h op
theorem PK.push {w1 w3 : World} {v' : Value} (p : PlaceV) (h : PK rv b1 cs o g bm v0 v1 k x vt l z w) (gr : Grows w w1) (ho : OwnS w3 31 2 v' (l.length + 1) (qcells l ++ [.int .i64 p.flow, .int .u64 (p.gen : Nat)])) (hg : w1.grownBy w3 vt.ownBlock) (hb : v'.ownBlock = vt.ownBlock ∨ v'.ownBlock = some w1.heap.size) : PK rv b1 cs o g bm v0 v1 k x v' (l ++ [p]) z w3 :=
  (ctx_T (parts_bo _ _) (parts_outo _ _ _) (parts_go _ _ _) (parts_mapw _ _) (parts_slr _ _) (parts_slr _ _)).slp p h gr ho hg hb
end
end Go.Proofs.Ytekdggdnkmkldaa
