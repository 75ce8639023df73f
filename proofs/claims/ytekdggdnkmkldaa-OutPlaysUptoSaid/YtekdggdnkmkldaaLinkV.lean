/- link: Use, when it may. -/
import Derived.Test.YtekdggdnkmkldaaLinkU
namespace Go.Proofs.Ytekdggdnkmkldaa
set_option linter.unusedVariables false
set_option linter.unusedSimpArgs false
set_option maxRecDepth 1500
open Go.RowKit

theorem mapTu : MapT 100 27 .u64 := ⟨Try.underlying100, Try.underlying27, fun w => by kernel_rfl⟩

section
variable {w0 : Frm} {w w' : World} {o n : Nat} {x : OutV}
set_option maxHeartbeats 4000000 in
theorem ouse_ok (h : OutAt w0 w o n x) (i : Nat) (hi : i < x.told.length) (g : Nat) (hg : (⟨i, g⟩ : PlaceV).okay) (hu : x.used < x.gr) (hn : n < maxLen) (cnt : Nat) (hc : x.sent ⟨i, g⟩ = cnt) (hcm : cnt + 1 < 18446744073709551616) :
    Calls Try.prog 13 #[.pointer (some ⟨o, 0, none⟩), .agg #[.int .i64 i, .int .u64 g]] w fun e w' => e = .returned (.tuple #[.int .u64 ((x.used : Int) + 1), .int .u64 cnt, .int .i64 0]) ∧ OutAt w0 w' o (n + 1) { x with used := x.used + 1, sent := setQ x.sent ⟨i, g⟩ ((cnt : Int) + 1), last := ⟨i, g⟩, begun := true } := by
  obtain ⟨s, bm, vt, ts, c, h⟩ := h
  have gb : Grows w (w.alloc (.cells #[.int .i64 i, .int .u64 g] 31)) := (Ext.refl _ _).alloc _
  have HN := Lib.hid (out_none (h.more gb))
  have HO := Lib.hid (out_of (h.more gb) i hi)
  have HU := Lib.hid (use_ok _ s _ _ _ _ (h.more gb).snd hu)
  have c0 := (h.more gb).cells.1.1
  have hb := heap_alloc_new w (.cells #[.int .i64 i, .int .u64 g] 31)
  have hlt := h.lo
  have HG := Lib.hid (And.intro (h.more gb) (And.intro hb (And.intro gb (And.intro hg (And.intro hc (And.intro hn (And.intro hcm hlt)))))))
  clear h gb hu hb hlt hg hc hn hcm
  go_enter Try.func13, Try.ntmps13
  go_wp2_with fail
  refine HN.out.mono ?_
  rintro e w' ⟨rfl, rfl⟩
  go_wp2_with fail
  refine HO.out.mono ?_
  rintro e w' ⟨t, rfl, _, rfl⟩
  go_wp2_with fail
  refine HU.out.mono ?_
  rintro e w2 ⟨rfl, h1, e1⟩
  have hx := HG.out.1.sender h1 e1
  have hgb : (w.heap.size : Nat) ≠ s := fun h => by have := HG.out.2.2.2.2.2.2.2 s (by rw [HG.out.1.cs]; omega); omega
  have hb2 := (e1.block _ (heap_lt HG.out.2.1) hgb).trans HG.out.2.1
  have hcb : ∀ k, c k ≠ 0 → k ≠ w.heap.size := fun k hk => by have := (HG.out.2.2.2.2.2.2.2 k hk).2; omega
  have HX := Lib.hid (And.intro hx (And.intro hb2 (And.intro hgb (And.intro (heap_lt hb2) hcb))))
  clear h1 e1 hx hb2 hgb hcb c0 HU HO HN
  generalize w.heap.size = b3 at HX ⊢
  have c2 := HX.out.1.cells.2.1
  have p0 := cell_of_heap HX.out.2.1 0
  have p1 := cell_of_heap HX.out.2.1 1
  simp at p0 p1
  have L : ∀ m, (Instr.lookup 100 (.map (some bm)) (.agg #[.int .i64 i, .int .u64 g]) false).run Try.prog (w2.drewN m) = .ok (.int .u64 cnt) (w2.drewN m) := fun m => by
    rw [MapQ.look mapTu (HX.out.1.mq.ext (S := fun _ => False) (Ext.drewN_r m) (fun h => h)) ⟨i, g⟩ HG.out.2.2.2.1]
    simp only [HG.out.2.2.2.2.1]
  go_upto_region 8 with fail
  go_quiet (fail)
  go_upto_region 9 with fail
  clear L c2 p0 p1
  have hx3 := HX.out.1.more (Ext.drewN_r nq)
  have hb3 : (w2.drewN nq).heap[b3]? = some (.cells #[.int .i64 i, .int .u64 g] 31 (0, 0)) := HX.out.2.1
  obtain ⟨w3, hw3⟩ : ∃ w3, w2.drewN nq = w3 := ⟨_, rfl⟩
  rw [hw3] at hx3 hb3 ⊢
  clear hw3
  have hok := HG.out.2.2.2.1
  have hn := HG.out.2.2.2.2.2.1
  have hcm := HG.out.2.2.2.2.2.2.1
  obtain ⟨v0, st, wb1, rb, eb, qb, tb⟩ := MapQ.entry (w := w3.drew) mapTu (hx3.mq.ext (S := fun _ => False) (Ext.drewN_r 1) (fun h => h)) hn ⟨i, g⟩ hok
  have hwf : (Lit.int .u64 ((cnt : Int) + 1)).wf = true := wfPl2 (n := cnt + 1) hcm
  obtain ⟨wb3, rs, qs, es⟩ := tb wb1 ((cnt : Int) + 1) rfl hwf
  have e01 : Ext (fun k => k = bm) w3 wb1 := ((Ext.refl _ w3).drew).trans eb
  have e13 : Ext (fun k => k = bm) w3 wb3 := e01.trans es
  have hob : ¬ o = bm := fun h => by have h1 := hx3.co; have h2 := hx3.cm; rw [h, h2] at h1; omega
  have hbb : ¬ b3 = bm := fun h => HX.out.2.2.2.2 bm (by rw [hx3.cm]; omega) h.symm
  obtain ⟨ty, ho⟩ := hx3.blk
  have ho1 := (e01.block o (heap_lt ho) hob).trans ho
  have ho3 := (e13.block o (heap_lt ho) hob).trans ho
  have hb31 := (e01.block b3 (heap_lt hb3) hbb).trans hb3
  have hb33 := (e13.block b3 (heap_lt hb3) hbb).trans hb3
  have hw1 : IntKind.u64.wrap ((cnt : Int) + 1) = (cnt : Int) + 1 := by rw [IntKind.wrap_u64]; omega
  simp only [goInt] at rb rs
  have SS : ∀ w' : World, (∃ a b d ty, w'.heap[o]? = some (.cells #[.pointer (some ⟨s, 0, none⟩), vt, .map (some bm), a, b, d] ty (0, 0))) → w'.heap[b3]? = some (.cells #[.int .i64 i, .int .u64 g] 31 (0, 0)) → w'.cell? ⟨o, 2, none⟩ = some (.map (some bm)) ∧ w'.cell? ⟨b3, 0, none⟩ = some (.int .i64 i) ∧ w'.cell? ⟨b3, 1, none⟩ = some (.int .u64 g) := fun w' ⟨a, b, d, ty, h1⟩ h2 => ⟨by rw [cell_of_heap h1]; rfl, by rw [cell_of_heap h2]; rfl, by rw [cell_of_heap h2]; rfl⟩
  have S0 := SS w3 ⟨_, _, _, _, ho⟩ hb3
  have S1 := SS wb1 ⟨_, _, _, _, ho1⟩ hb31
  have S3 := SS wb3 ⟨_, _, _, _, ho3⟩ hb33
  have d3 := cell_of_heap ho3 3
  have d4 := cell_of_heap ho3 4
  have d5 := cell_of_heap ho3 5
  have f3 := frozen_of_heap ho3 3
  have f4 := frozen_of_heap ho3 4
  have f5 := frozen_of_heap ho3 5
  simp at d3 d4 d5
  have hbo : ¬ b3 = o := fun h => HX.out.2.2.2.2 o (by rw [hx3.co]; omega) h.symm
  obtain ⟨W1, hW1⟩ : ∃ W1, (wb3.setCell ⟨o, 3, none⟩ (.int .i64 i)).setCell ⟨o, 4, none⟩ (.int .u64 g) = W1 := ⟨_, rfl⟩
  obtain ⟨W2, hW2⟩ : ∃ W2, W1.setCell ⟨o, 5, none⟩ (.bool true) = W2 := ⟨_, rfl⟩
  have hoW1 : W1.heap[o]? = some (.cells #[.pointer (some ⟨s, 0, none⟩), vt, .map (some bm), .int .i64 i, .int .u64 g, .bool x.begun] ty (0, 0)) := hW1 ▸ setCell_heap (setCell_heap ho3 3 _) 4 _
  have hoW2 : W2.heap[o]? = some (.cells #[.pointer (some ⟨s, 0, none⟩), vt, .map (some bm), .int .i64 i, .int .u64 g, .bool true] ty (0, 0)) := hW2 ▸ setCell_heap hoW1 5 _
  have eW1 : Ext (fun k => k = o) wb3 W1 := hW1 ▸ Ext.setCell (S := fun k => k = o) (Ext.setCell (S := fun k => k = o) (Ext.refl _ _) ⟨o, 3, none⟩ (.inr rfl) _) ⟨o, 4, none⟩ (.inr rfl) _
  have eW2 : Ext (fun k => k = o) wb3 W2 := hW2 ▸ Ext.setCell (S := fun k => k = o) eW1 ⟨o, 5, none⟩ (.inr rfl) _
  have SW1 := SS W1 ⟨_, _, _, _, hoW1⟩ ((eW1.block b3 (heap_lt hb33) hbo).trans hb33)
  have SW2 := SS W2 ⟨_, _, _, _, hoW2⟩ ((eW2.block b3 (heap_lt hb33) hbo).trans hb33)
  have eA : Ext (fun k => k = bm ∨ k = o) w3 W2 := Ext.trans (e13.mono (fun k _ hk => .inl hk)) (eW2.mono (fun k _ hk => .inr hk))
  have hfin : OutC w0 W2 o s bm (n + 1) vt ts c { x with used := x.used + 1, sent := setQ x.sent ⟨i, g⟩ ((cnt : Int) + 1), last := ⟨i, g⟩, begun := true } := by
    have hd : ∀ k d, c k = d → d ≠ 1 → d ≠ 3 → ¬ (k = bm ∨ k = o) := fun k d hk h1 h3 hh => by
      rcases hh with hh | hh
      · rw [hh, hx3.cm] at hk; omega
      · rw [hh, hx3.co] at hk; omega
    exact ⟨⟨ty, hoW2⟩, hx3.co, hx3.snd.ext eA (hd s 2 hx3.cs (by omega) (by omega)), hx3.cs, qs.ext eW2 (fun h => hob h.symm), hx3.cm, hx3.row.ext eA (fun k hk => hd k 4 (hx3.ct k hk) (by omega) (by omega)), hx3.ct, hx3.tl,
      fun j t v h3 h4 => (hx3.told j t v h3 h4).ext eA (fun k hk => hd k (5 + j) hk (by omega) (by omega)), fun k hk => ⟨(hx3.lo k hk).1, Nat.lt_of_lt_of_le (hx3.lo k hk).2 eA.size⟩, hx3.few, Frm.step hx3.gw eA (fun k hh => by
        rcases hh with hh | hh
        · exact hh ▸ (hx3.lo bm (by rw [hx3.cm]; omega)).1
        · exact hh ▸ (hx3.lo o (by rw [hx3.co]; omega)).1)⟩
  have HF := Lib.hid (And.intro hfin (And.intro hW1 hW2))
  have HSS := Lib.hid (And.intro S1 (And.intro S3 (And.intro SW1 SW2)))
  have HQ := Lib.hid S0
  clear hfin eA SS hcm hok hn qb tb qs es eb hwf e01 e13 hoW1 hoW2 eW1 eW2 SW1 SW2 hx3 hb3 hb31 hb33 ho ho1 ho3 hW1 hW2 S1 S3
  obtain ⟨p2, p0, p1⟩ := S0
  go_region_held3 (fun w' => w'.cell? ⟨o, 2, none⟩ = some (.map (some bm)) ∧ w'.cell? ⟨b3, 0, none⟩ = some (.int .i64 i) ∧ w'.cell? ⟨b3, 1, none⟩ = some (.int .u64 g))
    (first
      | go_keep
      | exact HSS.out.1
      | exact HSS.out.2.1
      | (rw [HF.out.2.1]; exact HSS.out.2.2.1)
      | (rw [HF.out.2.1, HF.out.2.2]; exact HSS.out.2.2.2))
    (fail)
  all_goals
    clear HSS HQ p0 p1 p2 d3 d4 d5 f3 f4 f5
    go_wp2
    go_ret3
    exact ⟨rfl, s, bm, vt, ts, c, by rw [HF.out.2.1, HF.out.2.2]; exact HF.out.1⟩
end
end Go.Proofs.Ytekdggdnkmkldaa
