/- link: a line to a next hop: what it holds; none, of, Credit, Sent, Granted, Known, Rank. -/
import Derived.Test.YtekdggdnkmkldaaCreditS
import Derived.Test.YtekdggdnkmkldaaRanksT
import Derived.Test.YtekdggdnkmkldaaSchedG
import Derived.Test.YtekdggdnkmkldaaMapPl
import Derived.Deep.DeepCutAuto
namespace Go.Proofs.Ytekdggdnkmkldaa
set_option linter.unusedVariables false
set_option linter.unusedSimpArgs false
set_option maxRecDepth 1500
open Go.RowKit

/-- What the proofs let a part of memory be: behind world wd only the blocks of F, and new ones, have changed. -/
structure Frm where
  wd : World
  F : Nat → Prop
def Frm.ok (z : Frm) (k : Nat) : Prop := z.wd.heap.size ≤ k ∨ z.F k
def Frm.of (w : World) : Frm := ⟨w, fun _ => False⟩
theorem Frm.step {z : Frm} {T : Nat → Prop} {w w' : World} (g : Ext z.F z.wd w) (e : Ext T w w') (hT : ∀ k, T k → z.ok k) : Ext z.F z.wd w' :=
  ((g.mono (T := fun k => z.F k ∨ T k) (fun _ _ h => .inl h)).trans (e.mono (fun _ _ h => .inr h))).mono (fun k hk h => h.elim id (fun t => (hT k t).resolve_left (by omega)))
structure ToldV where
  life : Nat
  count : Nat
  base : Nat
  l : List RankV
structure OutV where
  own : Nat
  peer : Nat
  gr : Nat
  used : Nat
  told : List ToldV
  sent : PlaceV → Int
  last : PlaceV
  begun : Bool
def ptrs (ts : List Nat) : List Value := ts.map fun t => .pointer (some ⟨t, 0, none⟩)
/-- A line at block o: its parts lie apart, by colours: 1 itself, 2 its sender, 3 its map, 4 its row, 5 + i what was told of flow i. -/
structure OutC (w0 : Frm) (w : World) (o s bm n : Nat) (vt : Value) (ts : List Nat) (c : Nat → Nat) (x : OutV) : Prop where
  blk : ∃ ty, w.heap[o]? = some (.cells #[.pointer (some ⟨s, 0, none⟩), vt, .map (some bm), .int .i64 x.last.flow, .int .u64 x.last.gen, .bool x.begun] ty (0, 0))
  co : c o = 1
  snd : SenderAt w s x.own x.peer x.gr x.used
  cs : c s = 2
  mq : MapQ 27 .u64 w bm n x.sent
  cm : c bm = 3
  row : OwnS w 104 1 vt x.told.length (ptrs ts)
  ct : ∀ k, vt.ownBlock = some k → c k = 4
  tl : ts.length = x.told.length
  told : ∀ (i t : Nat) (v : ToldV), ts[i]? = some t → x.told[i]? = some v → ToldAt w t (fun k => c k = 5 + i) v.life v.count v.base v.l
  lo : ∀ k, c k ≠ 0 → w0.ok k ∧ k < w.heap.size
  few : x.told.length ≤ 4
  gw : Ext w0.F w0.wd w
def OutAt (w0 : Frm) (w : World) (o n : Nat) (x : OutV) : Prop := ∃ s bm vt ts c, OutC w0 w o s bm n vt ts c x

section
variable {w0 : Frm} {w w' : World} {o s bm n : Nat} {vt : Value} {ts : List Nat} {c : Nat → Nat} {x : OutV}
theorem OutC.ext {T : Nat → Prop} (h : OutC w0 w o s bm n vt ts c x) (e : Ext T w w') (hT : ∀ k, c k ≠ 0 → ¬ T k) (hw : ∀ k, T k → w0.ok k) : OutC w0 w' o s bm n vt ts c x := by
  obtain ⟨ty, hb⟩ := h.blk
  exact ⟨⟨ty, (e.block o (heap_lt hb) (hT o (by rw [h.co]; omega))).trans hb⟩, h.co, h.snd.ext e (hT s (by rw [h.cs]; omega)), h.cs, h.mq.ext e (hT bm (by rw [h.cm]; omega)), h.cm, h.row.ext e (fun k hk => hT k (by rw [h.ct k hk]; omega)), h.ct, h.tl,
    fun i t v h1 h2 => (h.told i t v h1 h2).ext e (fun k hk => hT k (by rw [hk]; omega)), fun k hk => ⟨(h.lo k hk).1, Nat.lt_of_lt_of_le (h.lo k hk).2 e.size⟩, h.few, Frm.step h.gw e hw⟩
theorem OutC.more (h : OutC w0 w o s bm n vt ts c x) (g : Grows w w') : OutC w0 w' o s bm n vt ts c x := h.ext g (fun _ _ h => h) (fun _ h => h.elim)
theorem OutAt.more (h : OutAt w0 w o n x) (g : Grows w w') : OutAt w0 w' o n x := by
  obtain ⟨s, bm, vt, ts, c, h⟩ := h
  exact ⟨s, bm, vt, ts, c, h.more g⟩
theorem OutAt.ext {T : Nat → Prop} (h : OutAt w0 w o n x) (e : Ext T w w') (hT : ∀ k, T k → w.heap.size ≤ k) : OutAt w0 w' o n x := by
  obtain ⟨s, bm, vt, ts, c, h⟩ := h
  exact ⟨s, bm, vt, ts, c, h.ext e (fun k hk hh => by have := hT k hh; have := (h.lo k hk).2; omega) (fun k hk => .inl (by have := hT k hk; have := h.gw.size; omega))⟩
theorem OutAt.grows (h : OutAt w0 w o n x) : Ext w0.F w0.wd w := by
  obtain ⟨s, bm, vt, ts, c, h⟩ := h
  exact h.gw
theorem OutAt.lt (h : OutAt w0 w o n x) : o < w.heap.size ∧ w0.ok o := by
  obtain ⟨s, bm, vt, ts, c, h⟩ := h
  have := h.lo o (by rw [h.co]; omega)
  exact ⟨this.2, this.1⟩
theorem OutC.cells (h : OutC w0 w o s bm n vt ts c x) : (w.cell? ⟨o, 0, none⟩ = some (.pointer (some ⟨s, 0, none⟩)) ∧ w.cell? ⟨o, 1, none⟩ = some vt) ∧ w.cell? ⟨o, 2, none⟩ = some (.map (some bm)) ∧ (w.cell? ⟨o, 3, none⟩ = some (.int .i64 x.last.flow) ∧ w.cell? ⟨o, 4, none⟩ = some (.int .u64 x.last.gen)) ∧ w.cell? ⟨o, 5, none⟩ = some (.bool x.begun) := by
  obtain ⟨ty, hb⟩ := h.blk
  refine ⟨⟨?_, ?_⟩, ?_, ⟨?_, ?_⟩, ?_⟩ <;> (rw [cell_of_heap hb]; rfl)
/-- The row of what was told, at a flow. -/
theorem OutC.at (h : OutC w0 w o s bm n vt ts c x) (i : Nat) (hi : i < x.told.length) : ∃ g off cap t, vt = .slice (some ⟨g, off, none⟩) x.told.length cap ∧ g < w.heap.size ∧ w.cell? ⟨g, off + i, none⟩ = some (.pointer (some ⟨t, 0, none⟩)) ∧ ts[i]? = some t ∧ ToldAt w t (fun k => c k = 5 + i) x.told[i].life x.told[i].count x.told[i].base x.told[i].l := by
  obtain ⟨g, off, cap, hv, hg, hc, _⟩ := h.row.cells i (by omega)
  have hti : i < ts.length := by rw [h.tl]; exact hi
  refine ⟨g, off, cap, ts[i], hv, hg, ?_, List.getElem?_eq_getElem hti, h.told i _ _ (List.getElem?_eq_getElem hti) (List.getElem?_eq_getElem hi)⟩
  rw [hc]
  unfold ptrs
  rw [List.getElem?_map, List.getElem?_eq_getElem hti]
  rfl

theorem onone_nil (w : World) : Calls Try.prog 37 #[.pointer none] w fun e w' => e = .returned (.bool true) ∧ w = w' := by
  go_enter Try.func37, Try.ntmps37
  go_wp2
  go_ret
  exact ⟨rfl, rfl⟩
theorem out_none (h : OutC w0 w o s bm n vt ts c x) : Calls Try.prog 37 #[.pointer (some ⟨o, 0, none⟩)] w fun e w' => e = .returned (.bool false) ∧ w = w' := by
  have c0 := h.cells.1.1
  clear h
  go_enter Try.func37, Try.ntmps37
  go_wp2
  go_ret
  exact ⟨rfl, rfl⟩
theorem oof_nil (f : Int) (w : World) : Calls Try.prog 39 #[.pointer none, .int .i64 f] w fun e w' => e = .returned (.pointer none) ∧ w = w' := by
  go_enter Try.func39, Try.ntmps39
  go_wp2_with fail
  refine (onone_nil _).mono ?_
  rintro e w' ⟨rfl, rfl⟩
  go_wp2
  go_ret
  exact ⟨rfl, rfl⟩
theorem out_of_no (h : OutC w0 w o s bm n vt ts c x) (f : Int) (hf : f < 0 ∨ (x.told.length : Int) ≤ f) : Calls Try.prog 39 #[.pointer (some ⟨o, 0, none⟩), .int .i64 f] w fun e w' => e = .returned (.pointer none) ∧ w = w' := by
  obtain ⟨va, vc, rfl⟩ := h.row.form
  have c1 := h.cells.1.2
  have HN := Lib.hid (out_none h)
  clear h
  by_cases hf0 : f < 0
  · clear hf
    go_enter Try.func39, Try.ntmps39
    go_wp2_with fail
    refine HN.out.mono ?_
    rintro e w' ⟨rfl, rfl⟩
    go_wp2
    go_ret
    exact ⟨rfl, rfl⟩
  · have hf1 : (x.told.length : Int) ≤ f := by omega
    clear hf
    go_enter Try.func39, Try.ntmps39
    go_wp2_with fail
    refine HN.out.mono ?_
    rintro e w' ⟨rfl, rfl⟩
    go_wp2
    go_ret
    exact ⟨rfl, rfl⟩
theorem out_of (h : OutC w0 w o s bm n vt ts c x) (i : Nat) (hi : i < x.told.length) : Calls Try.prog 39 #[.pointer (some ⟨o, 0, none⟩), .int .i64 i] w fun e w' => ∃ t, e = .returned (.pointer (some ⟨t, 0, none⟩)) ∧ ts[i]? = some t ∧ w = w' := by
  obtain ⟨g, off, cap, t, hv, _, hc, hti, _⟩ := h.at i hi
  have c1 := h.cells.1.2
  have HN := Lib.hid (out_none h)
  subst hv
  have HT := Lib.hid hti
  have i0 : ¬ (i : Int) < 0 := by omega
  have i1 : ¬ (x.told.length : Int) ≤ (i : Int) := by omega
  have i2 : (0 : Int) ≤ (i : Int) := by omega
  have i3 : (i : Int) < (x.told.length : Int) := by omega
  clear h hti
  go_enter Try.func39, Try.ntmps39
  go_wp2_with fail
  refine HN.out.mono ?_
  rintro e w' ⟨rfl, rfl⟩
  go_wp2
  go_ret
  exact ⟨_, rfl, HT.out, rfl⟩
end
end Go.Proofs.Ytekdggdnkmkldaa
