/- link: the answer's Out: Use, Pick; what both pick, beside a call's row. -/
import Derived.Test.YtekdggdnkmkldaaAnsO
import Derived.Test.YtekdggdnkmkldaaLinkA
import Derived.Deep.RegionLaw
import Derived.Test.YtekdggdnkmkldaaLinkT
namespace Go.Proofs.Ytekdggdnkmkldaa
set_option linter.unusedVariables false
set_option linter.unusedSimpArgs false
set_option maxRecDepth 1500
open Go.RowKit

theorem infoSent : (Try.prog.info? 134).map (fun i => (i.zero, i.size, i.bytes)) = some (some (.agg #[.int .i64 0, .int .u64 0, .int .u64 0]), 3, 24) := by kernel_rfl
theorem sncells_one (l : List (PlaceV × Nat)) : ∀ u ∈ sncells l, u.oneCell' = true := by
  induction l with
  | nil => intro u hu; simp [sncells] at hu
  | cons a r ih =>
    intro u hu
    simp only [sncells, List.mem_cons] at hu
    rcases hu with rfl | rfl | rfl | hu
    · rfl
    · rfl
    · rfl
    · exact ih u hu
theorem src_sent {w : World} {b : Nat} {ty : TypeId} {fr : Nat × Nat} (p : PlaceV) (n : Nat) (hb : w.heap[b]? = some (.cells #[.int .i64 p.flow, .int .u64 p.gen, .int .u64 n] ty fr)) : Src Try.prog 3 73 (.slice (some ⟨b, 0, none⟩) 1 1) 1 (sncells [(p, n)]) w := by
  refine Src.ofSlice w Try.underlying73 ⟨b, 0, none⟩ 1 1 _ rfl (fun j u hj => ?_) (sncells_one _)
  have hplain : (⟨b, 0, none⟩ : Addr).add j = ⟨b, 0 + j, none⟩ := by unfold Addr.add; split <;> simp_all
  have : sncells [(p, n)] = [.int .i64 p.flow, .int .u64 p.gen, .int .u64 n] := rfl
  rw [hplain, cell_of_heap hb, ← hj, this, Nat.zero_add]
  simp
theorem src_sent1 {w : World} {b : Nat} {ty : TypeId} {fr : Nat × Nat} (p : PlaceV) (hb : w.heap[b]? = some (.cells #[.int .i64 p.flow, .int .u64 p.gen, .int .u64 1] ty fr)) : Src Try.prog 3 73 (.slice (some ⟨b, 0, none⟩) 1 1) 1 (sncells [(p, 1)]) w := src_sent p 1 hb

section
variable {w0 : Frm} {w w' : World} {o s n : Nat} {vt vl : Value} {ts : List Nat} {es : List (PlaceV × Nat)} {c : Nat → Nat} {x : OutV}
/-- One of those that were sent. -/
theorem ROutC.sentAt (h : ROutC w0 w o s vt vl ts es c x) (i : Nat) (hi : i < es.length) : ∃ g off cap, vl = .slice (some ⟨g, off, none⟩) es.length cap ∧ (w.cell? ⟨g, off + i * 3, none⟩ = some (.int .i64 es[i].1.flow) ∧ w.cell? ⟨g, off + i * 3 + 1, none⟩ = some (.int .u64 es[i].1.gen) ∧ w.cell? ⟨g, off + i * 3 + 2, none⟩ = some (.int .u64 es[i].2)) ∧ w.frozen? ⟨g, off + i * 3 + 2, none⟩ = false ∧ c g = 3 := by
  obtain ⟨g, off, cap, hv, hg, hc, hf⟩ := h.ls.cells (i * 3) (by omega)
  obtain ⟨g1, off1, cap1, hv1, _, hc1, _⟩ := h.ls.cells (i * 3 + 1) (by omega)
  obtain ⟨g2, off2, cap2, hv2, _, hc2, hf2⟩ := h.ls.cells (i * 3 + 2) (by omega)
  rw [hv] at hv1 hv2
  simp only [Value.slice.injEq, Option.some.injEq, Addr.mk.injEq] at hv1 hv2
  obtain ⟨⟨rfl, rfl, _⟩, _, rfl⟩ := hv1
  obtain ⟨⟨rfl, rfl, _⟩, _, rfl⟩ := hv2
  obtain ⟨k1, k2, k3⟩ := sncells_get es i hi
  rw [k1] at hc
  rw [k2, ← Nat.add_assoc] at hc1
  rw [k3, ← Nat.add_assoc] at hc2
  rw [← Nat.add_assoc] at hf2
  exact ⟨g, off, cap, hv, ⟨hc, hc1, hc2⟩, hf2, h.cl g (by rw [hv]; rfl)⟩
/-- One more of a place that was sent before. -/
theorem ROutC.again {g off cap : Nat} (h : ROutC w0 w o s vt (.slice (some ⟨g, off, none⟩) es.length cap) ts es c x) (i : Nat) (hi : i < es.length) (m : Nat) (p : PlaceV) (hp : es[i].1 = p) (hn : ∀ j (hj : j < es.length), j < i → es[j].1 ≠ p) :
    ROutC w0 (w.setCell ⟨g, off + i * 3 + 2, none⟩ (.int .u64 m)) o s vt (.slice (some ⟨g, off, none⟩) es.length cap) ts (es.set i (p, m)) c { x with sent := setQ x.sent p (m : Int) } := by
  have hcg : c g = 3 := h.cl g rfl
  have e : Ext (fun k => k = g) w (w.setCell ⟨g, off + i * 3 + 2, none⟩ (.int .u64 m)) := Ext.setCell (S := fun k => k = g) (Ext.refl _ _) ⟨g, off + i * 3 + 2, none⟩ (Or.inr rfl) _
  have hd : ∀ k d, c k = d → d ≠ 3 → ¬ k = g := fun k d hk h2 hh => by rw [hh, hcg] at hk; omega
  obtain ⟨ty, hb⟩ := h.blk
  refine ⟨⟨ty, (e.block o (heap_lt hb) (hd o 1 h.co (by omega))).trans hb⟩, h.co, h.snd.ext e (hd s 2 h.cs (by omega)), h.cs, ?_, h.cl, h.row.ext e (fun k hk => hd k 4 (h.ct k hk) (by omega)), h.ct, h.tl,
    fun i t v h3 h4 => (h.told i t v h3 h4).ext e (fun k hk => hd k (5 + i) hk (by omega)), fun k hk => ⟨(h.lo k hk).1, Nat.lt_of_lt_of_le (h.lo k hk).2 e.size⟩, h.few, Frm.step h.gw e (fun k hh => hh ▸ (h.lo g (by rw [hcg]; omega)).1), fun q => ?_⟩
  · have h1 := OwnS.setS h.ls (i * 3 + 2) (by omega) (.int .u64 m)
    have h2 := sncells_set es i m hi
    rw [hp] at h2
    rw [List.length_set, h2, Nat.add_assoc]
    exact h1
  · show setQ x.sent p (m : Int) q = look (es.set i (p, m)) q
    rw [look_set es p i m hi hn hp q]
    unfold setQ
    rw [h.snt q]
/-- A place that was not sent before. -/
theorem ROutC.push (h : ROutC w0 w o s vt vl ts es c x) (p : PlaceV) {w1 w3 : World} {v' : Value} (gr : Grows w w1) (ho : OwnS w3 134 3 v' (es.length + 1) (sncells es ++ sncells [(p, 1)])) (hg : w1.grownBy w3 vl.ownBlock) (hb : v'.ownBlock = vl.ownBlock ∨ v'.ownBlock = some w1.heap.size) (hn : ∀ j (hj : j < es.length), es[j].1 ≠ p) :
    (∃ c', ROutC w0 (w3.setCell ⟨o, 2, none⟩ v') o s vt v' ts (es ++ [(p, 1)]) c' { x with sent := setQ x.sent p 1 }) ∧ w3.cell? ⟨o, 2, none⟩ = some vl ∧ w3.frozen? ⟨o, 2, none⟩ = false := by
  have s1 := gr.size
  have e13 : Ext (fun k => vl.ownBlock = some k) w1 w3 := Ext.of_grown hg (fun k hk => hk)
  have s3 := e13.size
  have e3o : Ext (fun k => k = o) w3 (w3.setCell ⟨o, 2, none⟩ v') := Ext.setCell (S := fun k => k = o) (Ext.refl _ _) ⟨o, 2, none⟩ (Or.inr rfl) _
  have e0 : Ext (fun k => vl.ownBlock = some k) w w3 := gr.lift.trans e13
  have ea : Ext (fun k => vl.ownBlock = some k ∨ k = o) w (w3.setCell ⟨o, 2, none⟩ v') := (e0.mono (fun _ _ h => .inl h)).trans (e3o.mono (fun _ _ h => .inr h))
  have hlt : ∀ k, c k ≠ 0 → k < w.heap.size := fun k hk => (h.lo k hk).2
  have hnew : ∀ k, v'.ownBlock = some k → (c k = 3 ∧ k < w.heap.size) ∨ (k = w1.heap.size) := fun k hk => by
    rcases hb with hb | hb
    · rw [hb] at hk
      exact .inl ⟨h.cl k hk, hlt k (by rw [h.cl k hk]; omega)⟩
    · rw [hb] at hk
      simp only [Option.some.injEq] at hk
      exact .inr hk.symm
  have hvlt : ∀ k, v'.ownBlock = some k → k < w3.heap.size := fun k hk => ho.lt k hk
  have hd : ∀ k d, c k = d → d ≠ 3 → d ≠ 1 → ¬ (vl.ownBlock = some k ∨ k = o) := fun k d hk h2 h3 hh => by
    rcases hh with hh | hh
    · have := h.cl k hh; omega
    · rw [hh, h.co] at hk; omega
  have hold : ∀ k, c k ≠ 0 → (if k < w.heap.size then c k else if v'.ownBlock = some k then 3 else 0) = c k := fun k hk => if_pos (hlt k hk)
  obtain ⟨ty, hbo⟩ := h.blk
  have hb3 := (e0.block o (heap_lt hbo) (fun hh => by have := h.cl o hh; rw [h.co] at this; omega)).trans hbo
  have hsz : (w3.setCell ⟨o, 2, none⟩ v').heap.size = w3.heap.size := by simp
  refine ⟨⟨fun k => if k < w.heap.size then c k else if v'.ownBlock = some k then 3 else 0, ⟨ty, setCell_heap hb3 2 v'⟩, by rw [hold o (by rw [h.co]; omega)]; exact h.co, h.snd.ext ea (hd s 2 h.cs (by omega) (by omega)), by rw [hold s (by rw [h.cs]; omega)]; exact h.cs, ?_, fun k hk => ?_, h.row.ext ea (fun k hk => hd k 4 (h.ct k hk) (by omega) (by omega)), fun k hk => by rw [hold k (by rw [h.ct k hk]; omega)]; exact h.ct k hk, h.tl, fun i u y h3 h4 => ?_, fun k hk => ?_, h.few, ?_, fun q => ?_⟩, by rw [cell_of_heap hb3]; rfl, frozen_of_heap hb3 2⟩
  · rw [List.length_append, sncells_append]
    refine ho.ext e3o (fun k hk hh => ?_)
    rw [hh] at hk
    rcases hnew o hk with h9 | h9
    · rw [h.co] at h9; omega
    · have := heap_lt hbo; omega
  · rcases hnew k hk with h9 | h9
    · rw [hold k (by rw [h9.1]; omega)]; exact h9.1
    · show (if k < w.heap.size then c k else if v'.ownBlock = some k then 3 else 0) = 3
      rw [if_neg (by omega), if_pos hk]
  · refine ((h.told i u y h3 h4).ext ea (fun k hk => hd k (5 + i) hk (by omega) (by omega))).wide (fun k hk => ?_)
    rw [hold k (by rw [hk]; omega)]; exact hk
  · rw [hsz]
    by_cases hk1 : k < w.heap.size
    · simp only [hk1, if_true] at hk
      exact ⟨(h.lo k hk).1, by omega⟩
    · simp only [hk1, if_false] at hk
      have hk2 := h.gw.size
      by_cases hk4 : v'.ownBlock = some k
      · exact ⟨.inl (by omega), hvlt k hk4⟩
      · rw [if_neg hk4] at hk; exact absurd rfl hk
  · exact Frm.step h.gw ea (fun k hh => by
      rcases hh with hh | hh
      · exact (h.lo k (by rw [h.cl k hh]; omega)).1
      · exact hh ▸ (h.lo o (by rw [h.co]; omega)).1)
  · show setQ x.sent p 1 q = look (es ++ [(p, 1)]) q
    rw [look_add es p hn q]
    unfold setQ
    rw [h.snt q]
theorem ROutC.lasts (h : ROutC w0 w o s vt vl ts es c x) (p : PlaceV) : ROutC w0 (((w.setCell ⟨o, 3, none⟩ (.int .i64 p.flow)).setCell ⟨o, 4, none⟩ (.int .u64 p.gen)).setCell ⟨o, 5, none⟩ (.bool true)) o s vt vl ts es c { x with last := p, begun := true } := by
  have e : Ext (fun k => k = o) w (((w.setCell ⟨o, 3, none⟩ (.int .i64 p.flow)).setCell ⟨o, 4, none⟩ (.int .u64 p.gen)).setCell ⟨o, 5, none⟩ (.bool true)) := (((Ext.refl _ _).setT 3 _).setT 4 _).setT 5 _
  have hd : ∀ k d, c k = d → d ≠ 1 → ¬ k = o := fun k d hk h2 hh => by rw [hh, h.co] at hk; omega
  obtain ⟨ty, hb⟩ := h.blk
  exact ⟨⟨ty, setCell_heap (setCell_heap (setCell_heap hb 3 _) 4 _) 5 _⟩, h.co, h.snd.ext e (hd s 2 h.cs (by omega)), h.cs, h.ls.ext e (fun k hk => hd k 3 (h.cl k hk) (by omega)), h.cl, h.row.ext e (fun k hk => hd k 4 (h.ct k hk) (by omega)), h.ct, h.tl,
    fun i t v h3 h4 => (h.told i t v h3 h4).ext e (fun k hk => hd k (5 + i) hk (by omega)), fun k hk => ⟨(h.lo k hk).1, Nat.lt_of_lt_of_le (h.lo k hk).2 e.size⟩, h.few, Frm.step h.gw e (fun k hh => hh ▸ (h.lo o (by rw [h.co]; omega)).1), h.snt⟩
theorem rout_use_arg (h : ROutAt w0 w o s n x) (p : PlaceV) (hp : p.flow < 0 ∨ (x.told.length : Int) ≤ p.flow) :
    Calls Try.prog 32 #[.pointer (some ⟨o, 0, none⟩), .agg #[.int .i64 p.flow, .int .u64 p.gen]] w fun e w' => e = .returned (.tuple #[.int .u64 0, .int .u64 0, .int .i64 1]) ∧ Grows w w' := by
  obtain ⟨vt, vl, ts, es, c, h, _⟩ := h
  obtain ⟨ta, tc, rfl⟩ := h.row.form
  have gb : Grows w (w.alloc (.cells #[.int .i64 p.flow, .int .u64 p.gen] 74)) := (Ext.refl _ _).alloc _
  have hn := heap_alloc_new w (.cells #[.int .i64 p.flow, .int .u64 p.gen] 74)
  have c1 := (h.more gb).cells.1.2
  have p0 : (w.alloc (.cells #[.int .i64 p.flow, .int .u64 p.gen] 74)).cell? ⟨w.heap.size, 0, none⟩ = some (.int .i64 p.flow) := by rw [cell_of_heap hn]; rfl
  have HG := Lib.hid gb
  clear h gb hn
  go_enter Try.func32, Try.ntmps32
  go_upto_region 1 with fail
  generalize w.alloc (.cells #[.int .i64 p.flow, .int .u64 p.gen] 74) = w1 at HG c1 p0 ⊢
  generalize w.heap.size = b3 at p0 ⊢
  obtain ⟨f, hf⟩ : ∃ f, p.flow = f := ⟨_, rfl⟩
  rw [hf] at hp p0
  clear hf
  have hp' : f < 0 ∨ (¬ f < 0 ∧ (x.told.length : Int) ≤ f) := by omega
  clear hp
  rcases hp' with h1 | ⟨h1, h2⟩
  · have h1' : (f < 0) = True := eq_true h1
    go_quiet (fail)
    go_wp2
    go_ret3
    exact ⟨rfl, HG.out.trans (Ext.drewN_r _)⟩
  · have h1' : (f < 0) = False := eq_false h1
    have h2' : ((x.told.length : Int) ≤ f) = True := eq_true h2
    go_quiet (fail)
    go_wp2
    go_ret3
    exact ⟨rfl, HG.out.trans (Ext.drewN_r _)⟩
theorem rout_use_no (h : ROutAt w0 w o s n x) (i : Nat) (hi : i < x.told.length) (g : Nat) (hu : x.gr ≤ x.used) :
    Calls Try.prog 32 #[.pointer (some ⟨o, 0, none⟩), .agg #[.int .i64 i, .int .u64 g]] w fun e w' => e = .returned (.tuple #[.int .u64 0, .int .u64 0, .int .i64 26]) ∧ Grows w w' := by
  obtain ⟨vt, vl, ts, es, c, h, _⟩ := h
  obtain ⟨ta, tc, rfl⟩ := h.row.form
  have gb : Grows w (w.alloc (.cells #[.int .i64 i, .int .u64 g] 74)) := (Ext.refl _ _).alloc _
  have hnb := heap_alloc_new w (.cells #[.int .i64 i, .int .u64 g] 74)
  have c1 := (h.more gb).cells.1.2
  have p0 : (w.alloc (.cells #[.int .i64 i, .int .u64 g] 74)).cell? ⟨w.heap.size, 0, none⟩ = some (.int .i64 i) := by rw [cell_of_heap hnb]; rfl
  have hbc : ∀ k, c k ≠ 0 → k ≠ w.heap.size := fun k hk => by have := (h.lo k hk).2; omega
  have HG := Lib.hid (And.intro gb (And.intro hnb (And.intro (h.more gb) hbc)))
  have i0 : ((i : Int) < 0) = False := eq_false (by omega)
  have i1 : ((x.told.length : Int) ≤ (i : Int)) = False := eq_false (by omega)
  have HU := Lib.hid hu
  clear h gb hnb hu hi hbc
  go_enter Try.func32, Try.ntmps32
  go_upto_region 1 with fail
  generalize w.alloc (.cells #[.int .i64 i, .int .u64 g] 74) = w1 at HG c1 p0 ⊢
  generalize w.heap.size = b3 at HG p0 ⊢
  go_quiet (fail)
  have hc0 := (HG.out.2.2.1.more (Ext.drewN_r nq)).cells.1.1
  have HD := Lib.hid (And.intro (HG.out.1.trans (Ext.drewN_r nq)) (And.intro (show (w1.drewN nq).heap[b3]? = _ from HG.out.2.1) (And.intro (HG.out.2.2.1.more (Ext.drewN_r nq)) HG.out.2.2.2)))
  generalize w1.drewN nq = w2 at HD hc0 ⊢
  clear c1 p0 HG i0 i1
  go_wp2_with fail
  refine (ref_use_no w2 s _ _ _ _ HD.out.2.2.1.snd HU.out).mono ?_
  rintro e w3 ⟨rfl, g3⟩
  have HX := Lib.hid (HD.out.1.trans g3)
  clear g3 hc0
  go_wp2
  go_ret3
  exact ⟨rfl, HX.out⟩
set_option maxHeartbeats 4000000 in
theorem rout_use_ok (h : ROutAt w0 w o s n x) (i : Nat) (hi : i < x.told.length) (g : Nat) (hu : x.used < x.gr) (hm : x.gr ≤ Most) (hn : n ≤ 1000) (cnt : Nat) (hc : x.sent ⟨i, g⟩ = cnt) :
    Calls Try.prog 32 #[.pointer (some ⟨o, 0, none⟩), .agg #[.int .i64 i, .int .u64 g]] w fun e w' => e = .returned (.tuple #[.int .u64 ((x.used : Int) + 1), .int .u64 cnt, .int .i64 0]) ∧ ROutAt w0 w' o s (n + 1) (x.use ⟨i, g⟩) := by
  obtain ⟨vt, vl, ts, es, c, h, hel, hee⟩ := h
  obtain ⟨ta, tc, rfl⟩ := h.row.form
  have gb : Grows w (w.alloc (.cells #[.int .i64 i, .int .u64 g] 74)) := (Ext.refl _ _).alloc _
  have hnb := heap_alloc_new w (.cells #[.int .i64 i, .int .u64 g] 74)
  have c1 := (h.more gb).cells.1.2
  have p0 : (w.alloc (.cells #[.int .i64 i, .int .u64 g] 74)).cell? ⟨w.heap.size, 0, none⟩ = some (.int .i64 i) := by rw [cell_of_heap hnb]; rfl
  have hbc : ∀ k, c k ≠ 0 → k ≠ w.heap.size := fun k hk => by have := (h.lo k hk).2; omega
  have HG := Lib.hid (And.intro gb (And.intro hnb (And.intro (h.more gb) hbc)))
  have i0 : ((i : Int) < 0) = False := eq_false (by omega)
  have i1 : ((x.told.length : Int) ≤ (i : Int)) = False := eq_false (by omega)
  have HU := Lib.hid (And.intro hu (And.intro hm (And.intro hel (And.intro hee (And.intro hc hn)))))
  clear h gb hnb hu hi hbc hm hel hee hc hn
  go_enter Try.func32, Try.ntmps32
  go_upto_region 1 with fail
  generalize w.alloc (.cells #[.int .i64 i, .int .u64 g] 74) = w1 at HG c1 p0 ⊢
  generalize w.heap.size = b3 at HG p0 ⊢
  go_quiet (fail)
  have hc0 := (HG.out.2.2.1.more (Ext.drewN_r nq)).cells.1.1
  have HD := Lib.hid (And.intro (HG.out.1.trans (Ext.drewN_r nq)) (And.intro (show (w1.drewN nq).heap[b3]? = _ from HG.out.2.1) (And.intro (HG.out.2.2.1.more (Ext.drewN_r nq)) HG.out.2.2.2)))
  generalize w1.drewN nq = w2 at HD hc0 ⊢
  clear c1 p0 HG i0 i1
  go_wp2_with fail
  refine (ref_use_ok w2 s _ _ _ _ HD.out.2.2.1.snd HU.out.1 HU.out.2.1 _ rfl).mono ?_
  rintro e w3 ⟨rfl, hs3, e3⟩
  have h3 := HD.out.2.2.1.sender hs3 e3
  have hb3 := (e3.block b3 (heap_lt HD.out.2.1) (fun hh => HD.out.2.2.2 s (by rw [HD.out.2.2.1.cs]; omega) hh.symm)).trans HD.out.2.1
  have hbo : b3 ≠ o := fun hh => HD.out.2.2.2 o (by rw [HD.out.2.2.1.co]; omega) hh.symm
  have h4 := h3.lasts ⟨i, g⟩
  have hb4 : ((((w3.setCell ⟨o, 3, none⟩ (.int .i64 i)).setCell ⟨o, 4, none⟩ (.int .u64 g)).setCell ⟨o, 5, none⟩ (.bool true))).heap[b3]? = _ := ((show Ext (fun k => k = o) w3 _ from (((Ext.refl _ w3).setT 3 _).setT 4 _).setT 5 _).block b3 (heap_lt hb3) hbo).trans hb3
  have H4 := Lib.hid (And.intro h4 hb4)
  obtain ⟨ty, hbk⟩ := h3.blk
  have d3 := cell_of_heap hbk 3
  have d4 := cell_of_heap hbk 4
  have d5 := cell_of_heap hbk 5
  have f3 := frozen_of_heap hbk 3
  have f4 := frozen_of_heap hbk 4
  have f5 := frozen_of_heap hbk 5
  have p0 := cell_of_heap hb3 0
  have p1 := cell_of_heap hb3 1
  simp at d3 d4 d5 p0 p1
  clear h4 hb4 hbk hb3 h3 hs3 e3 hc0
  go_wp2
  clear d3 d4 d5 f3 f4 f5 p0 p1 HD
  generalize ((w3.setCell ⟨o, 3, none⟩ (.int .i64 i)).setCell ⟨o, 4, none⟩ (.int .u64 g)).setCell ⟨o, 5, none⟩ (.bool true) = w4 at H4 ⊢
  clear w3 w2 w1
  go_loopg [9] es.length (fun k cc wr => ∃ j : Nat, j ≤ es.length ∧ k = es.length - j ∧ cc = .int .i64 (j : Nat) ∧ Grows w4 wr ∧ ∀ q (hq : q < es.length), q < j → es[q].1 ≠ (⟨i, g⟩ : PlaceV))
  case atStart => exact ⟨0, by omega, by omega, rfl, Ext.refl _ _, fun q _ h => by omega⟩
  case round =>
    obtain ⟨j, hj, hk, rfl, hg, hno⟩ := hrel
    have HR := Lib.hid (And.intro (H4.out.1.more hg) (And.intro ((hg.block b3 (heap_lt H4.out.2) (fun h => h)).trans H4.out.2) (And.intro hno (And.intro hk (And.intro hg hj)))))
    clear hno hk hg
    have c2 := HR.out.1.cells.2.1
    obtain ⟨la, lc, rfl⟩ := HR.out.1.ls.form
    have p0 := cell_of_heap HR.out.2.1 0
    have p1 := cell_of_heap HR.out.2.1 1
    simp at p0 p1
    by_cases hlt : j < es.length
    · have j0 : (0 : Int) ≤ (j : Int) := by omega
      have j1 : (j : Int) < (es.length : Int) := by omega
      have hes : es.length ≤ 1000 := by have h1 := HU.out.2.2.1; have h2 := HU.out.2.2.2.2.2; omega
      obtain ⟨gl, off, cap, hv, ⟨e0, e1, e2⟩, f2, hcg⟩ := HR.out.1.sentAt j hlt
      injection hv with v1 v2 v3
      subst v1 v3
      clear v2
      obtain ⟨q, hq⟩ : ∃ q, es[j] = q := ⟨_, rfl⟩
      rw [hq] at e0 e1 e2
      obtain ⟨qp, qn⟩ := q
      simp only at e0 e1 e2
      have heq := eqR qp ⟨i, g⟩
      simp only at heq
      have HQ := Lib.hid (And.intro hq hcg)
      clear hq hcg hj
      by_cases hqp : qp = ⟨i, g⟩
      · rw [decide_eq_true hqp] at heq
        obtain rfl : qn = cnt := by
          have h1 := HR.out.1.snt ⟨i, g⟩
          rw [look_hit es ⟨i, g⟩ j hlt (fun a ha hb => HR.out.2.2.1 a ha hb) (by rw [HQ.out.1]; exact hqp), HQ.out.1] at h1
          have h2 := HU.out.2.2.2.2.1
          have h3 : x.sent ⟨i, g⟩ = (qn : Int) := h1
          omega
        subst hqp
        have hqn : qn ≤ 1000 := by
          have h1 := HU.out.2.2.2.1 (⟨i, g⟩, qn) (by rw [← HQ.out.1]; exact List.getElem_mem _)
          have h2 := HU.out.2.2.2.2.2
          simp only at h1
          omega
        have hw1 : IntKind.u64.wrap ((qn : Int) + 1) = (qn : Int) + 1 := by rw [IntKind.wrap_u64]; omega
        have hw2 : IntKind.u64.wrap (qn : Int) = (qn : Int) := by rw [IntKind.wrap_u64]; omega
        go_upto_region 11 with fail
        go_quiet (fail)
        have g5 : Grows wr (wr.drewN nq) := Ext.drewN_r nq
        have H5 := Lib.hid (And.intro (HR.out.1.more g5) ((g5.block b3 (heap_lt HR.out.2.1) (fun h => h)).trans HR.out.2.1))
        clear c2 p0 p1 e0 e1 e2 f2
        generalize wr.drewN nq = w5 at g5 H5 ⊢
        have c2 := H5.out.1.cells.2.1
        obtain ⟨gl', off', cap', hv, ⟨e0, e1, e2⟩, f2, _⟩ := H5.out.1.sentAt j hlt
        injection hv with v1 v2 v3
        injection v1 with v1
        injection v1 with v4 v5 v6
        subst v4 v5 v3
        clear v2 e0 e1
        rw [HQ.out.1] at e2
        simp only at e2
        have h6 := H5.out.1.again j hlt (qn + 1) ⟨i, g⟩ (by rw [HQ.out.1]) HR.out.2.2.1
        rw [show ((qn + 1 : Nat) : Int) = (qn : Int) + 1 by omega] at h6
        have H6 := Lib.hid h6
        clear h6
        go_upto_region 13 with fail
        generalize w5.setCell ⟨gl, off + j * 3 + 2, none⟩ (.int .u64 ((qn : Int) + 1)) = w6 at H6 ⊢
        clear c2 e2 f2
        have c2 := H6.out.cells.2.1
        obtain ⟨gl', off', cap', hv, ⟨_, _, e2⟩, _, _⟩ := H6.out.sentAt j (by rw [List.length_set]; exact hlt)
        injection hv with v1 v2 v3
        injection v1 with v1
        injection v1 with v4 v5 v6
        subst v4 v5 v3
        clear v2
        rw [List.getElem_set_self] at e2
        simp only at e2
        rw [show ((qn + 1 : Nat) : Int) = (qn : Int) + 1 by omega] at e2
        go_quiet (fail)
        have H7 := Lib.hid (H6.out.more (Ext.drewN_r nq))
        clear c2 e2 H6
        go_wp2
        go_ret3
        have hc := HU.out.2.2.2.2.1
        refine ⟨rfl, _, _, ts, _, c, (by unfold OutV.use; rw [hc]; exact H7.out), by rw [List.length_set]; have := HU.out.2.2.1; omega, fun e he => ?_⟩
        rcases List.mem_or_eq_of_mem_set he with h1 | h1
        · have := HU.out.2.2.2.1 e h1; omega
        · subst h1
          have h1 := HU.out.2.2.2.1 (⟨i, g⟩, qn) (by rw [← HQ.out.1]; exact List.getElem_mem _)
          simp only at h1 ⊢
          omega
      · rw [decide_eq_false hqp] at heq
        have HP := Lib.hid hqp
        clear hqp
        go_upto_region 11 with fail
        go_quiet (fail)
        have g5 : Grows wr (wr.drewN nq) := Ext.drewN_r nq
        clear c2 p0 p1 e0 e1 e2 f2 heq
        generalize wr.drewN nq = w5 at g5 ⊢
        go_wp2
        go_roundg (es.length - (j + 1))
        case measure => have := HR.out.2.2.2.1; omega
        case rel =>
          refine ⟨j + 1, by omega, rfl, by go_num, HR.out.2.2.2.2.1.trans g5, fun a ha hb => ?_⟩
          by_cases hab : a < j
          · exact HR.out.2.2.1 a ha hab
          · obtain rfl : a = j := by omega
            rw [HQ.out.1]; exact HP.out
    · have j1 : ¬ (j : Int) < (es.length : Int) := by omega
      have hes : es.length ≤ 1000 := by have h1 := HU.out.2.2.1; have h2 := HU.out.2.2.2.2.2; omega
      have hno : ∀ a (ha : a < es.length), es[a].1 ≠ (⟨i, g⟩ : PlaceV) := fun a ha => HR.out.2.2.1 a ha (by omega)
      obtain rfl : cnt = 0 := by
        have h1 := HR.out.1.snt ⟨i, g⟩
        rw [look_none es _ hno] at h1
        have h2 := HU.out.2.2.2.2.1
        have h3 : x.sent ⟨i, g⟩ = 0 := h1
        omega
      have ga : Grows wr (wr.alloc (.cells #[.int .i64 i, .int .u64 g, .int .u64 1] 134)) := (Ext.refl _ _).alloc _
      have c2a := keepc ga c2
      have p0a := keepc ga p0
      have p1a := keepc ga p1
      have HN := Lib.hid hno
      clear hno ga
      go_upto_region 14 with fail
      go_region_law (first
        | (refine step_append_ownS (by rfl) (.tmp 85) (.tmp 88) 73 73 (by rfl) 134 (.agg #[.int .i64 0, .int .u64 0, .int .u64 0]) 3 24 Try.underlying73 infoSent rfl _ _ (by rfl) (by rfl) es.length (sncells es) (OwnS.grows HR.out.1.ls (by first | exact (Ext.refl _ _).alloc _ | exact ((Ext.refl _ _).alloc _).drew | exact ((Ext.refl _ _).drew).alloc _)) 1 (sncells [((⟨i, g⟩ : PlaceV), 1)]) (src_sent1 (⟨i, g⟩ : PlaceV) (heap_alloc_new _ _)) (by unfold maxLen; omega) (by omega) ?_; intro v' w5 hown5 hgr5 hblk5; obtain ⟨hN5, c5, f5⟩ := HR.out.1.push (⟨i, g⟩ : PlaceV) (by first | exact (Ext.refl _ _).alloc _ | exact ((Ext.refl _ _).alloc _).drew | exact ((Ext.refl _ _).drew).alloc _) hown5 hgr5 hblk5 HN.out; obtain ⟨qa, qc, rfl⟩ := OwnS.form hown5))
      all_goals
        have A := Lib.hid hN5
        clear hN5 hown5 hgr5 hblk5 c5 f5 c2 c2a p0 p0a p1 p1a
        go_wp2
        go_ret3
        obtain ⟨c', hA⟩ := A.out
        have hc := HU.out.2.2.2.2.1
        refine ⟨rfl, _, _, ts, _, c', (by unfold OutV.use; rw [hc]; exact hA), by rw [List.length_append]; have := HU.out.2.2.1; show es.length + 1 ≤ n + 1; omega, fun e he => ?_⟩
        rcases List.mem_append.1 he with h1 | h1
        · have := HU.out.2.2.2.1 e h1; omega
        · obtain rfl := List.mem_singleton.1 h1
          show 1 ≤ n + 1
          omega
end
def OwnR (w : World) (v : Value) (l : List PlaceV) : Prop := OwnS w 74 2 v l.length (plcells l)
theorem OwnR.grows {w w' : World} {v : Value} {l : List PlaceV} (h : OwnR w v l) (e : Grows w w') : OwnR w' v l := OwnS.grows h e
theorem OwnR.at {w : World} {v : Value} {l : List PlaceV} (h : OwnR w v l) (i : Nat) (hi : i < l.length) :
    ∃ g off cap, v = .slice (some ⟨g, off, none⟩) l.length cap ∧ g < w.heap.size ∧ w.cell? ⟨g, off + i * 2, none⟩ = some (.int .i64 l[i].flow) ∧ w.cell? ⟨g, off + i * 2 + 1, none⟩ = some (.int .u64 l[i].gen) := by
  obtain ⟨g, off, cap, hv, hg, hc, hf⟩ := OwnS.cells h (i * 2) (by omega)
  obtain ⟨g', off', cap', hv', _, hc', hf'⟩ := OwnS.cells h (i * 2 + 1) (by omega)
  rw [hv] at hv'
  simp only [Value.slice.injEq, Option.some.injEq, Addr.mk.injEq] at hv'
  obtain ⟨⟨rfl, rfl, _⟩, _, rfl⟩ := hv'
  rw [(plcells_get l i hi).1] at hc
  rw [(plcells_get l i hi).2, ← Nat.add_assoc] at hc'
  exact ⟨g, off, cap, hv, hg, hc, hc'⟩
theorem OwnR.row {w : World} {v : Value} {xs : List PlaceV} (h : OwnR w v xs) : RowP w v xs := ⟨OwnS.form h, fun i hi => OwnR.at h i hi⟩
theorem infoPlR : (Try.prog.info? 74).map (fun i => (i.zero, i.size, i.bytes)) = some (some (.agg #[.int .i64 0, .int .u64 0]), 2, 16) := by kernel_rfl
theorem zeroPR : ∀ w, (zeroValue 74).run Try.prog w = .ok (.agg #[.int .i64 0, .int .u64 0]) w := fun w => by kernel_rfl
theorem src_plR {w : World} {b : Nat} {ty : TypeId} {fr : Nat × Nat} (x : PlaceV) (hb : w.heap[b]? = some (.cells #[.int .i64 x.flow, .int .u64 x.gen] ty fr)) : Src Try.prog 2 128 (.slice (some ⟨b, 0, none⟩) 1 1) 1 (plcells [x]) w := by
  refine Src.ofSlice w Try.underlying128 ⟨b, 0, none⟩ 1 1 _ rfl (fun j u hj => ?_) (plcells_one _)
  have hplain : (⟨b, 0, none⟩ : Addr).add j = ⟨b, 0 + j, none⟩ := by unfold Addr.add; split <;> simp_all
  have : plcells [x] = [.int .i64 x.flow, .int .u64 x.gen] := rfl
  rw [hplain, cell_of_heap hb, ← hj, this, Nat.zero_add]
  simp
theorem refnext_T (v : Value) (l S : List PlaceV) (hS : InOrder S l) (last : PlaceV) (begun : Bool) (w : World) (h : OwnR w v l) (hl : l.length ≤ 1048576) (o : Option PlaceV) (ho : (roundP S last begun).head? = o) (a : Int) (g : Nat) (b : Bool) (hv : nextV o = .tuple #[.agg #[.int .i64 a, .int .u64 g], .bool b]) :
    Calls Try.prog 63 #[v, .agg #[.int .i64 last.flow, .int .u64 last.gen], .bool begun] w fun e w' => e = .returned (.tuple #[.agg #[.int .i64 a, .int .u64 g], .bool b]) ∧ Grows w w' := hv ▸ refnext_S v l S hS last begun w h.row hl o ho

section
variable {w0 : Frm} {w w' : World} {o s n : Nat} {vt vl : Value} {ts : List Nat} {es : List (PlaceV × Nat)} {c : Nat → Nat} {x : OutV}
set_option maxHeartbeats 4000000 in
theorem rpick_arg (h : ROutAt w0 w o s n x) (W : Int) (a : Option Addr) (cap k : Nat) (hb : W < 1 ∨ 16 < W ∨ x.told.length < k) :
    Calls Try.prog 29 #[.pointer (some ⟨o, 0, none⟩), .int .i64 W, .slice a k cap] w fun e w' => e = .returned (.tuple #[.agg #[.int .i64 0, .int .u64 0], .int .i64 1]) ∧ Grows w w' := by
  obtain ⟨vt, vl, ts, es, c, h, _⟩ := h
  have gb : Grows w (w.alloc (.cells #[.int .i64 0, .int .u64 0] 74)) := (Ext.refl _ _).alloc _
  have hn := heap_alloc_new w (.cells #[.int .i64 0, .int .u64 0] 74)
  obtain ⟨va, vc, rfl⟩ := h.row.form
  have c1 := (h.more gb).cells.1.2
  have hz := zeroPR
  have HG := Lib.hid (And.intro gb hn)
  clear h gb hn
  have hb' : W < 1 ∨ (¬ W < 1 ∧ 16 < W) ∨ (¬ W < 1 ∧ ¬ 16 < W ∧ (x.told.length : Int) < (k : Int)) := by omega
  clear hb
  go_enter Try.func29, Try.ntmps29
  go_upto_region 1 with fail
  obtain ⟨w1, hw1⟩ : ∃ w1, w.alloc (.cells #[.int .i64 0, .int .u64 0] 74) = w1 := ⟨_, rfl⟩
  rw [hw1] at HG c1 ⊢
  clear hw1
  have hgs : ∀ x y : Value, Grows w ((w1.setCell ⟨w.heap.size, 0, none⟩ x).setCell ⟨w.heap.size, 1, none⟩ y) := fun x y =>
    Ext.setCell (Ext.setCell HG.out.1 ⟨w.heap.size, 0, none⟩ (.inl (Nat.le_refl _)) x) ⟨w.heap.size, 1, none⟩ (.inl (Nat.le_refl _)) y
  have d0 := cell_of_heap HG.out.2 0
  have d1 := cell_of_heap HG.out.2 1
  have f0 := frozen_of_heap HG.out.2 0
  have f1 := frozen_of_heap HG.out.2 1
  simp at d0 d1
  have HS := Lib.hid hgs
  clear hgs HG
  rcases hb' with h1 | ⟨h1, h2⟩ | ⟨h1, h2, h3⟩
  all_goals
    go_wp2
    refine bodyPost_ret (v := .tuple #[.agg #[.int .i64 0, .int .u64 0], .int .i64 1]) ?_ rfl ⟨rfl, HS.out _ _⟩
    rw [results_cell_tmp rfl]
    go_simp
    try rfl
set_option maxHeartbeats 4000000 in
theorem rpick_ok (h : ROutAt w0 w o s n x) (W : Nat) (hW0 : 1 ≤ W) (hW : W ≤ 16) (v : Value) (own : List (List RankA)) (hr : Rss w v own) (hol : own.length ≤ x.told.length) (hl : (mayOwn x W own).length ≤ 1048576) (S : List PlaceV) (hS : InOrder S (mayOwn x W own)) (q : Option PlaceV) (hq : (roundP S x.last x.begun).head? = q) :
    Calls Try.prog 29 #[.pointer (some ⟨o, 0, none⟩), .int .i64 W, v] w fun e w' => e = .returned (pickV x q) ∧ Grows w w' := by
  obtain ⟨va, vc, rfl⟩ := hr.1
  obtain ⟨vt, vl, ts, es, c, h, _⟩ := h
  have gb : Grows w (w.alloc (.cells #[.int .i64 0, .int .u64 0] 74)) := (Ext.refl _ _).alloc _
  have hn := heap_alloc_new w (.cells #[.int .i64 0, .int .u64 0] 74)
  obtain ⟨ta, tc, rfl⟩ := h.row.form
  have hc := h.more gb
  have c1 := hc.cells.1.2
  have hz := zeroPR
  have hfew := hc.few
  have HG := Lib.hid (And.intro gb (And.intro hn (And.intro hc (hr.grows gb))))
  have HP := Lib.hid (And.intro hfew (And.intro hl (And.intro hS hq)))
  have hol4 : own.length ≤ 4 := Nat.le_trans hol hfew
  clear h gb hn hc hr hl hS hq hfew
  have i1 : ¬ (W : Int) < 1 := by omega
  have i2 : ¬ (16 : Int) < (W : Int) := by omega
  have i3 : ¬ (x.told.length : Int) < (own.length : Int) := by omega
  go_enter Try.func29, Try.ntmps29
  go_upto_region 4 with fail
  obtain ⟨w1, hw1⟩ : ∃ w1, w.alloc (.cells #[.int .i64 0, .int .u64 0] 74) = w1 := ⟨_, rfl⟩
  rw [hw1] at HG ⊢
  clear hw1 c1 i1 i2 i3
  go_wp2
  go_loopg [8, 9] own.length (fun k vo cc wr => ∃ j : Nat, j ≤ own.length ∧ k = own.length - j ∧ cc = .int .i64 (j : Nat) ∧ OwnR wr vo (mayOwn x W (own.take j)) ∧ Grows w1 wr ∧ ∀ b, vo.ownBlock = some b → w1.heap.size ≤ b)
  case atStart => exact ⟨0, by omega, by omega, rfl, OwnS.nil _ _ _, Ext.refl _ _, fun k hk => by simp [Value.ownBlock] at hk⟩
  case round =>
    obtain ⟨j, hj, hk, rfl, ho, hg, hf⟩ := hrel
    obtain ⟨wo, hwo⟩ : ∃ wo, wo = wr := ⟨_, rfl⟩
    subst hwo
    obtain ⟨vo, hvo⟩ : ∃ vo, vo = u8 := ⟨_, rfl⟩
    subst hvo
    have HK := Lib.hid (And.intro hk hj)
    have HI := Lib.hid (And.intro ho (And.intro hg hf))
    clear hk ho hf hj
    by_cases hlt : j < own.length
    · have j0 : (0 : Int) ≤ (j : Int) := by omega
      have j1 : (j : Int) < (own.length : Int) := by omega
      obtain ⟨gg, off, cap, u, e, hgl, hcell, hru⟩ := HG.out.2.2.2.2 j hlt
      have hcell2 := keepc hg hcell
      injection e with e1 e2 e3
      subst e1 e3
      clear e2 hgl
      obtain ⟨row, hrow⟩ : ∃ row, own[j] = row := ⟨_, rfl⟩
      rw [hrow] at hru
      obtain ⟨ua, uc, rfl⟩ := hru.form
      obtain ⟨⟨B, K⟩, hkn⟩ : ∃ p, x.known j = p := ⟨_, rfl⟩
      have HN := Lib.hid (rout_known (HG.out.2.2.1.more hg) j B K hkn)
      have HW := Lib.hid (And.intro hrow (And.intro hkn (And.intro hru hcell)))
      clear hrow hkn hru hg hcell hcell2
      go_wp2_with fail
      refine HN.out.mono ?_
      rintro e w' ⟨rfl, rfl⟩
      clear HN
      go_upto_region 8 with fail
      go_wp2
      go_loopg [8, 12] row.length (fun k vi cc wr => ∃ m : Nat, m ≤ row.length ∧ k = row.length - m ∧ cc = .int .i64 (m : Nat) ∧ OwnR wr vi (mayOwn x W (own.take j) ++ mayRow x W j (row.take m)) ∧ Grows w1 wr ∧ ∀ b, vi.ownBlock = some b → w1.heap.size ≤ b)
      case atStart =>
        refine ⟨0, by omega, by omega, rfl, ?_, HI.out.2.1, HI.out.2.2⟩
        have e : mayRow x W j (row.take 0) = [] := by simp [mayRow]
        rw [e, List.append_nil]
        exact HI.out.1
      case round =>
        obtain ⟨m, hm, hk, rfl, ho, hg, hf⟩ := hrel
        obtain ⟨wc, hwc⟩ : ∃ wc, wc = wr := ⟨_, rfl⟩
        subst hwc
        obtain ⟨vi, hvi⟩ : ∃ vi, vi = u8 := ⟨_, rfl⟩
        subst hvi
        have HK2 := Lib.hid (And.intro hk hm)
        have hcell := keepc hg HW.out.2.2.2
        by_cases hlt2 : m < row.length
        · have m0 : (0 : Int) ≤ (m : Int) := by omega
          have m1 : (m : Int) < (row.length : Int) := by omega
          have hbd : row.length ≤ 8796093022208 := by have := HW.out.2.2.1.2; omega
          obtain ⟨gr, offr, capr, e, hgr, c0, c1, hok⟩ := HW.out.2.2.1.at m hlt2
          injection e with e1 e2 e3
          subst e1 e3
          clear e2
          obtain ⟨⟨gen, rank⟩, hr2⟩ : ∃ r, row[m] = r := ⟨_, rfl⟩
          rw [hr2] at c0 c1 hok
          replace c0 := keepc hg c0
          replace c1 := keepc hg c1
          simp only at c0 c1
          have gn : Grows wc (wc.alloc (.cells #[.int .u64 gen, .int .i64 rank] 62)) := (Ext.refl _ _).alloc _
          have hn := heap_alloc_new wc (.cells #[.int .u64 gen, .int .i64 rank] 62)
          have z0 : (wc.alloc (.cells #[.int .u64 gen, .int .i64 rank] 62)).cell? ⟨wc.heap.size, 0, none⟩ = some (.int .u64 gen) := by rw [cell_of_heap hn]; rfl
          have z1 : (wc.alloc (.cells #[.int .u64 gen, .int .i64 rank] 62)).cell? ⟨wc.heap.size, 1, none⟩ = some (.int .i64 rank) := by rw [cell_of_heap hn]; rfl
          have HI2 := Lib.hid (And.intro ho (And.intro (hg.trans gn) (And.intro hf (And.intro gn (And.intro hr2 hok)))))
          clear hk ho hf hm hok hgr gn hn hr2
          go_upto_region 12 with fail
          clear c0 c1 hcell hg
          generalize wc.alloc (.cells #[.int .u64 gen, .int .i64 rank] 62) = wd at HI2 z0 z1 ⊢
          generalize wc.heap.size = b13 at z0 z1 ⊢
          have hm0 : mayPl x W j ⟨gen, rank⟩ = (K && (decide (B ≤ gen) && (decide (gen - B < W) && decide ((x.rank j gen : Int) < rank)))) := by unfold mayPl; rw [HW.out.2.1]
          cases K with
          | false =>
            have HM := Lib.hid (show mayPl x W j ⟨gen, rank⟩ = false by rw [hm0]; rfl)
            clear hm0
            go_quiet (fail)
            have hmr := mayRow_succ x W j row m hlt2
            rw [HI2.out.2.2.2.2.1, HM.out, if_neg (by simp), List.append_nil] at hmr
            have A := Lib.hid (And.intro (show OwnR (wd.drewN nq) vi (mayOwn x W (own.take j) ++ mayRow x W j (row.take (m + 1))) by rw [hmr]; exact HI2.out.1.grows (HI2.out.2.2.2.1.trans (Ext.drewN_r nq))) (And.intro (HI2.out.2.1.trans (Ext.drewN_r nq)) HI2.out.2.2.1))
            clear z0 z1 hmr
            generalize wd.drewN nq = we at A ⊢
            go_wp2
            go_roundg (row.length - (m + 1))
            case measure => have := HK2.out; omega
            case rel => exact ⟨m + 1, by omega, rfl, by go_num, A.out⟩
          | true =>
            by_cases h1 : B ≤ gen
            · obtain ⟨d, hd⟩ : ∃ d, gen - B = d := ⟨_, rfl⟩
              rw [hd] at hm0
              have h3 : ((B : Int) ≤ (gen : Int)) = True := eq_true (by omega)
              have q1 : (gen : Int) - (B : Int) = (d : Int) := by omega
              have hgb := HI2.out.2.2.2.2.2.1
              simp only at hgb
              have q2 : IntKind.u64.wrap (d : Int) = (d : Int) := by rw [IntKind.wrap_u64]; omega
              have q3 : IntKind.u64.wrap (W : Int) = (W : Int) := by rw [IntKind.wrap_u64]; omega
              have H1 := Lib.hid h1
              clear hgb h1 hd
              by_cases h2 : d < W
              · have h2' : ((d : Int) < (W : Int)) = True := eq_true (by omega)
                have H2 := Lib.hid h2
                clear h2
                obtain ⟨r, hr⟩ : ∃ r, x.rank j gen = r := ⟨_, rfl⟩
                rw [hr] at hm0
                have HR := Lib.hid (fun (u : World) (g : Grows wd u) => rout_rank (HG.out.2.2.1.more (HI2.out.2.1.trans g)) j gen r hr)
                clear hr
                by_cases h4 : (r : Int) < rank
                · have h4' : ((r : Int) < rank) = True := eq_true h4
                  have HM := Lib.hid (show mayPl x W j ⟨gen, rank⟩ = true by rw [hm0, decide_eq_true H1.out, decide_eq_true H2.out, decide_eq_true h4]; rfl)
                  clear hm0 h4
                  go_quiet (first | (go_at_call 31; exact quiet_same (HR.out _ (Ext.drewN_r _))))
                  have g5 : Grows wd (wd.drewN nq) := Ext.drewN_r nq
                  replace z0 := keepc g5 z0
                  replace z1 := keepc g5 z1
                  clear h3 q1 q2 q3 h2' h4' HR
                  generalize wd.drewN nq = we at g5 z0 z1 ⊢
                  have hmr := mayRow_succ x W j row m hlt2
                  rw [HI2.out.2.2.2.2.1, HM.out, if_pos rfl] at hmr
                  have hle1 := mayRow_le x W j row (m + 1)
                  have hle2 := mayOwn_le x W own (j + 1)
                  rw [mayOwn_succ x W own j hlt, HW.out.1, List.length_append] at hle2
                  rw [hmr, List.length_append, List.length_singleton] at hle1
                  have hle3 := HP.out.2.1
                  obtain ⟨ls, hls⟩ : ∃ ls, mayOwn x W (own.take j) ++ mayRow x W j (row.take m) = ls := ⟨_, rfl⟩
                  have hll : ls.length + 1 ≤ 1048576 := by rw [← hls, List.length_append]; omega
                  have o1 := HI2.out.1.grows (HI2.out.2.2.2.1.trans g5)
                  rw [hls] at o1
                  have HN2 := Lib.hid (And.intro hmr (And.intro hls g5))
                  clear hmr hls hle1 hle2 hle3 g5
                  have own5 := OwnS.grows o1 ((Ext.refl (fun _ => False) we).alloc (.cells #[.int .i64 j, .int .u64 gen] 74))
                  go_wp2_with (at_builtin; refine wpList_append_ownS rfl (.tmp 87) (.tmp 92) 128 128 rfl 74 (.agg #[.int .i64 0, .int .u64 0]) 2 16 Try.underlying128 infoPlR rfl _ _ rfl rfl ls.length (plcells ls) own5 1 (plcells [⟨j, gen⟩]) (src_plR ⟨j, gen⟩ (heap_alloc_new we _)) (by unfold maxLen; omega) (by omega) ?_)
                  intro v' w4 hown4 hgr4 hblk4
                  have g6 : Grows we (we.alloc (.cells #[.int .i64 j, .int .u64 gen] 74)) := (Ext.refl _ _).alloc _
                  have e4 : Ext (fun k => vi.ownBlock = some k) (we.alloc (.cells #[.int .i64 j, .int .u64 gen] 74)) w4 := Ext.of_grown hgr4 (fun k hk => hk)
                  have g0 : Grows w1 we := HI2.out.2.1.trans HN2.out.2.2
                  have g4 : Grows w1 w4 := ((g0.trans g6).lift.trans e4).mono (fun k hk hh => by have := HI2.out.2.2.1 k hh; omega)
                  have b4' : ∀ b, v'.ownBlock = some b → w1.heap.size ≤ b := fun b hb => by
                    rcases hblk4 with h | h
                    · exact HI2.out.2.2.1 b (h ▸ hb)
                    · rw [h] at hb
                      simp only [Option.some.injEq] at hb
                      have h4 := g0.size
                      omega
                  have o4 : OwnR w4 v' (mayOwn x W (own.take j) ++ mayRow x W j (row.take (m + 1))) := by
                    unfold OwnR
                    rw [HN2.out.1, ← List.append_assoc, HN2.out.2.1, plcells_append, List.length_append]
                    exact hown4
                  have A := Lib.hid (And.intro o4 (And.intro g4 b4'))
                  clear o4 g4 b4' g0 g6 e4 hown4 hgr4 hblk4 own5 o1 z0 z1
                  go_wp2
                  go_roundg (row.length - (m + 1))
                  case measure => have := HK2.out; omega
                  case rel => exact ⟨m + 1, by omega, rfl, by go_num, A.out⟩
                · have h4' : ((r : Int) < rank) = False := eq_false h4
                  have HM := Lib.hid (show mayPl x W j ⟨gen, rank⟩ = false by rw [hm0, decide_eq_false h4]; simp)
                  clear hm0 h4
                  go_quiet (first | (go_at_call 31; exact quiet_same (HR.out _ (Ext.drewN_r _))))
                  clear HR
                  have hmr := mayRow_succ x W j row m hlt2
                  rw [HI2.out.2.2.2.2.1, HM.out, if_neg (by simp), List.append_nil] at hmr
                  have A := Lib.hid (And.intro (show OwnR (wd.drewN nq) vi (mayOwn x W (own.take j) ++ mayRow x W j (row.take (m + 1))) by rw [hmr]; exact HI2.out.1.grows (HI2.out.2.2.2.1.trans (Ext.drewN_r nq))) (And.intro (HI2.out.2.1.trans (Ext.drewN_r nq)) HI2.out.2.2.1))
                  clear z0 z1 hmr
                  generalize wd.drewN nq = we at A ⊢
                  go_wp2
                  go_roundg (row.length - (m + 1))
                  case measure => have := HK2.out; omega
                  case rel => exact ⟨m + 1, by omega, rfl, by go_num, A.out⟩
              · have h2' : ((d : Int) < (W : Int)) = False := eq_false (by omega)
                have HM := Lib.hid (show mayPl x W j ⟨gen, rank⟩ = false by rw [hm0, decide_eq_false h2]; simp)
                clear hm0 h2
                go_quiet (fail)
                have hmr := mayRow_succ x W j row m hlt2
                rw [HI2.out.2.2.2.2.1, HM.out, if_neg (by simp), List.append_nil] at hmr
                have A := Lib.hid (And.intro (show OwnR (wd.drewN nq) vi (mayOwn x W (own.take j) ++ mayRow x W j (row.take (m + 1))) by rw [hmr]; exact HI2.out.1.grows (HI2.out.2.2.2.1.trans (Ext.drewN_r nq))) (And.intro (HI2.out.2.1.trans (Ext.drewN_r nq)) HI2.out.2.2.1))
                clear z0 z1 hmr
                generalize wd.drewN nq = we at A ⊢
                go_wp2
                go_roundg (row.length - (m + 1))
                case measure => have := HK2.out; omega
                case rel => exact ⟨m + 1, by omega, rfl, by go_num, A.out⟩
            · have h3 : ((B : Int) ≤ (gen : Int)) = False := eq_false (by omega)
              have HM := Lib.hid (show mayPl x W j ⟨gen, rank⟩ = false by rw [hm0, decide_eq_false h1]; rfl)
              clear hm0 h1
              go_quiet (fail)
              have hmr := mayRow_succ x W j row m hlt2
              rw [HI2.out.2.2.2.2.1, HM.out, if_neg (by simp), List.append_nil] at hmr
              have A := Lib.hid (And.intro (show OwnR (wd.drewN nq) vi (mayOwn x W (own.take j) ++ mayRow x W j (row.take (m + 1))) by rw [hmr]; exact HI2.out.1.grows (HI2.out.2.2.2.1.trans (Ext.drewN_r nq))) (And.intro (HI2.out.2.1.trans (Ext.drewN_r nq)) HI2.out.2.2.1))
              clear z0 z1 hmr
              generalize wd.drewN nq = we at A ⊢
              go_wp2
              go_roundg (row.length - (m + 1))
              case measure => have := HK2.out; omega
              case rel => exact ⟨m + 1, by omega, rfl, by go_num, A.out⟩
        · have j1 : ¬ (m : Int) < (row.length : Int) := by omega
          have hh : OwnR wc vi (mayOwn x W (own.take (j + 1))) := by
            rw [mayOwn_succ x W own j hlt, HW.out.1, ← List.take_of_length_le (i := m) (l := row) (by omega)]
            exact ho
          have HF := Lib.hid (And.intro hh (And.intro hg hf))
          have HK3 := Lib.hid hlt
          clear hh hg hf ho
          go_wp2
          go_roundg (own.length - (j + 1))
          case measure => have := HK.out; have := HK3.out; omega
          case rel => exact ⟨j + 1, by have := HK3.out; omega, rfl, by go_num, HF.out⟩
    · have j1 : ¬ (j : Int) < (own.length : Int) := by omega
      have e : own.take j = own := List.take_of_length_le (by omega)
      have HE := Lib.hid (show OwnR wo vo (mayOwn x W own) from e ▸ HI.out.1)
      have hx := HG.out.2.2.1.more HI.out.2.1
      obtain ⟨_, _, ⟨c3, c4⟩, c5⟩ := hx.cells
      have HC := Lib.hid (And.intro c3 (And.intro c4 c5))
      obtain ⟨pf, pg, pb, hv, hvq⟩ := nextV_form q
      have HV := Lib.hid (And.intro hv hvq)
      clear hv hvq hx e
      go_upto_region 14 with fail
      go_region_held3 (fun w' => w'.cell? ⟨o, 3, none⟩ = some (.int .i64 x.last.flow) ∧ w'.cell? ⟨o, 4, none⟩ = some (.int .u64 x.last.gen) ∧ w'.cell? ⟨o, 5, none⟩ = some (.bool x.begun))
        (first
          | go_keep
          | exact keep3 he2 HC.out
          | exact keep3 (he2.alloc _) HC.out
          | exact keep3 ((Ext.drewN_r 1).trans he2) HC.out
          | exact keep3 (((Ext.refl (fun _ => False) wo).alloc _).trans (Ext.drewN_r 1)) HC.out
          | exact keep3 ((((Ext.refl (fun _ => False) wo).alloc _).trans (Ext.drewN_r 1)).trans he2) HC.out
          | exact keep3 (Ext.setCell (Ext.setCell ((((Ext.refl (fun _ => False) wo).alloc _).trans (Ext.drewN_r 1)).trans he2) ⟨_, 0, none⟩ (.inl (Nat.le_refl _)) _) ⟨_, 1, none⟩ (.inl (Nat.le_refl _)) _) HC.out)
        (first
          | (go_at_call 63; with_reducible refine (refnext_T vo _ S HP.out.2.2.1 x.last x.begun (wo.alloc (.cells #[.int .i64 0, .int .u64 0] 74)).drew (HE.out.grows (((Ext.refl (fun _ => False) wo).alloc _).trans (Ext.drewN_r 1))) HP.out.2.1 q HP.out.2.2.2 pf pg pb HV.out.1).mono ?_; rintro e w'' ⟨rfl, he2⟩; have hb := (he2.block _ (heap_lt (heap_alloc_new wo (.cells #[.int .i64 0, .int .u64 0] 74))) (fun h => h)).trans (heap_alloc_new wo (.cells #[.int .i64 0, .int .u64 0] 74)); have d0 := cell_of_heap hb 0; have d1 := cell_of_heap hb 1; have f0 := frozen_of_heap hb 0; have f1 := frozen_of_heap hb 1; simp at d0 d1)
          | (go_at_call 63; with_reducible refine (refnext_T vo _ S HP.out.2.2.1 x.last x.begun wo.drew (HE.out.grows (Ext.drewN_r 1)) HP.out.2.1 q HP.out.2.2.2 pf pg pb HV.out.1).mono ?_; rintro e w'' ⟨rfl, he2⟩))
      · have hG : Grows w1 (w''.alloc (.cells #[.int .i64 pf, .int .u64 pg] 74)) := HI.out.2.1.trans (Ext.trans (S := fun _ => False) (Ext.drewN_r 1) (he2.alloc _))
        have hb8 : (w''.alloc (.cells #[.int .i64 pf, .int .u64 pg] 74)).heap[w''.heap.size]? = some (.cells #[.int .i64 pf, .int .u64 pg] 74 (0, 0)) := heap_alloc_new w'' _
        have HT := Lib.hid (And.intro hG hb8)
        clear hG hb8 he2 c3 c4 c5
        generalize (w''.alloc (.cells #[.int .i64 pf, .int .u64 pg] 74)) = wf at HT ⊢
        generalize w''.heap.size = b8 at HT ⊢
        have hbr := (HT.out.1.block _ (heap_lt HG.out.2.1) (fun h => h)).trans HG.out.2.1
        have d0 := cell_of_heap hbr 0
        have d1 := cell_of_heap hbr 1
        have f0 := frozen_of_heap hbr 0
        have f1 := frozen_of_heap hbr 1
        have e0 := cell_of_heap HT.out.2 0
        have e1 := cell_of_heap HT.out.2 1
        simp at d0 d1 e0 e1
        have c0 := keepc HT.out.1 HG.out.2.2.1.cells.1.1
        have hgs : ∀ u, Grows wf u → ∀ x y : Value, Grows w ((u.setCell ⟨w.heap.size, 0, none⟩ x).setCell ⟨w.heap.size, 1, none⟩ y) := fun u hu x y =>
          Ext.setCell (Ext.setCell ((HG.out.1.trans HT.out.1).trans hu) ⟨w.heap.size, 0, none⟩ (.inl (Nat.le_refl _)) x) ⟨w.heap.size, 1, none⟩ (.inl (Nat.le_refl _)) y
        have HS := Lib.hid (And.intro hgs hbr)
        have HY := Lib.hid (ref_may wf s _ _ _ _ (HG.out.2.2.1.more HT.out.1).snd)
        clear hgs hbr
        rcases HV.out.2 with ⟨hq, rfl, rfl, rfl⟩ | ⟨hq, rfl⟩
        · go_wp2
          refine bodyPost_ret (v := pickV x none) ?_ rfl ⟨by rfl, HS.out.1 _ (Ext.refl _ _) _ _⟩
          rw [results_cell_tmp rfl]
          go_simp
          try rfl
        · by_cases hu : x.used < x.gr
          · go_wp2_with fail
            refine (HY.out true (decide_eq_true hu)).mono ?_
            rintro e w' ⟨rfl, m, rfl⟩
            have HU := Lib.hid hu
            clear hu
            have hgm := HS.out.1 _ (Ext.drewN_r m)
            go_wp2
            refine bodyPost_ret (v := pickV x q) ?_ rfl ⟨rfl, hgm _ _⟩
            rw [results_cell_tmp rfl, hq, pickV, if_pos HU.out]
            go_simp
            try rfl
          · go_wp2_with fail
            refine (HY.out false (decide_eq_false hu)).mono ?_
            rintro e w' ⟨rfl, m, rfl⟩
            have HU := Lib.hid hu
            clear hu
            have hgm := HS.out.1 _ (Ext.drewN_r m)
            go_wp2
            refine bodyPost_ret (v := pickV x q) ?_ rfl ⟨rfl, hgm _ _⟩
            rw [results_cell_tmp rfl, hq, pickV, if_neg HU.out]
            go_simp
            try rfl
      · have hG : Grows w1 ((w''.setCell ⟨wo.heap.size, 0, none⟩ (.int .i64 pf)).setCell ⟨wo.heap.size, 1, none⟩ (.int .u64 pg)) := HI.out.2.1.trans (Ext.setCell (Ext.setCell ((((Ext.refl (fun _ => False) wo).alloc _).trans (Ext.drewN_r 1)).trans he2) ⟨_, 0, none⟩ (.inl (Nat.le_refl _)) _) ⟨_, 1, none⟩ (.inl (Nat.le_refl _)) _)
        have hb8 : ((w''.setCell ⟨wo.heap.size, 0, none⟩ (.int .i64 pf)).setCell ⟨wo.heap.size, 1, none⟩ (.int .u64 pg)).heap[wo.heap.size]? = some (.cells #[.int .i64 pf, .int .u64 pg] 74 (0, 0)) := setCell_heap (setCell_heap hb 0 _) 1 _
        have HT := Lib.hid (And.intro hG hb8)
        clear hG hb8 he2 d0 d1 f0 f1 hb c3 c4 c5
        generalize ((w''.setCell ⟨wo.heap.size, 0, none⟩ (.int .i64 pf)).setCell ⟨wo.heap.size, 1, none⟩ (.int .u64 pg)) = wf at HT ⊢
        generalize wo.heap.size = b8 at HT ⊢
        have hbr := (HT.out.1.block _ (heap_lt HG.out.2.1) (fun h => h)).trans HG.out.2.1
        have d0 := cell_of_heap hbr 0
        have d1 := cell_of_heap hbr 1
        have f0 := frozen_of_heap hbr 0
        have f1 := frozen_of_heap hbr 1
        have e0 := cell_of_heap HT.out.2 0
        have e1 := cell_of_heap HT.out.2 1
        simp at d0 d1 e0 e1
        have c0 := keepc HT.out.1 HG.out.2.2.1.cells.1.1
        have hgs : ∀ u, Grows wf u → ∀ x y : Value, Grows w ((u.setCell ⟨w.heap.size, 0, none⟩ x).setCell ⟨w.heap.size, 1, none⟩ y) := fun u hu x y =>
          Ext.setCell (Ext.setCell ((HG.out.1.trans HT.out.1).trans hu) ⟨w.heap.size, 0, none⟩ (.inl (Nat.le_refl _)) x) ⟨w.heap.size, 1, none⟩ (.inl (Nat.le_refl _)) y
        have HS := Lib.hid (And.intro hgs hbr)
        have HY := Lib.hid (ref_may wf s _ _ _ _ (HG.out.2.2.1.more HT.out.1).snd)
        clear hgs hbr
        rcases HV.out.2 with ⟨hq, rfl, rfl, rfl⟩ | ⟨hq, rfl⟩
        · go_wp2
          refine bodyPost_ret (v := pickV x none) ?_ rfl ⟨by rfl, HS.out.1 _ (Ext.refl _ _) _ _⟩
          rw [results_cell_tmp rfl]
          go_simp
          try rfl
        · by_cases hu : x.used < x.gr
          · go_wp2_with fail
            refine (HY.out true (decide_eq_true hu)).mono ?_
            rintro e w' ⟨rfl, m, rfl⟩
            have HU := Lib.hid hu
            clear hu
            have hgm := HS.out.1 _ (Ext.drewN_r m)
            go_wp2
            refine bodyPost_ret (v := pickV x q) ?_ rfl ⟨rfl, hgm _ _⟩
            rw [results_cell_tmp rfl, hq, pickV, if_pos HU.out]
            go_simp
            try rfl
          · go_wp2_with fail
            refine (HY.out false (decide_eq_false hu)).mono ?_
            rintro e w' ⟨rfl, m, rfl⟩
            have HU := Lib.hid hu
            clear hu
            have hgm := HS.out.1 _ (Ext.drewN_r m)
            go_wp2
            refine bodyPost_ret (v := pickV x q) ?_ rfl ⟨rfl, hgm _ _⟩
            rw [results_cell_tmp rfl, hq, pickV, if_neg HU.out]
            go_simp
            try rfl
end
def OutO (o n : Nat) (x : OutV) : Frm → World → Prop := fun z w => OutAt z w o n x
def ROutO (r s n : Nat) (x : OutV) : Frm → World → Prop := fun z w => ROutAt z w r s n x
theorem parts_outo (o n : Nat) (x : OutV) : Parts (OutO o n x) := parts_out o n x
theorem parts_routo (r s n : Nat) (x : OutV) : Parts (ROutO r s n x) := parts_rout r s n x
/-- Two things and a block. -/
def PPq (A B : Frm → World → Prop) (b : Nat) (o : Obj) (w wr : World) : Prop := Star (Star A B) (Blk b o) (Frm.of w) wr
section
variable {A B A' B' : Frm → World → Prop} {z : Frm} {w w' wr : World} {b : Nat} {o : Obj}
theorem PPq.more (pa : Parts A) (pb : Parts B) (h : PPq A B b o w wr) (g : Grows wr w') : PPq A B b o w w' := (parts_star (parts_star pa pb) (parts_blk b o)).more h g
theorem PPq.blk (h : PPq A B b o w wr) : wr.heap[b]? = some o := (Star.r (parts_blk b o) h).1
theorem PPq.both (pa : Parts A) (pb : Parts B) (h : PPq A B b o w wr) : Star A B (Frm.of w) wr := Star.l (parts_star pa pb) h
theorem PPq.fst (pa : Parts A) (pb : Parts B) (h : PPq A B b o w wr) : A (Frm.of w) wr := Star.l pa (h.both pa pb)
theorem PPq.snd (pa : Parts A) (pb : Parts B) (h : PPq A B b o w wr) : B (Frm.of w) wr := Star.r pb (h.both pa pb)
theorem PPq.grows (pa : Parts A) (pb : Parts B) (h : PPq A B b o w wr) : Grows w wr := pa.gw (h.fst pa pb)
theorem PPq.opA (h : PPq A B b o w wr) (pa' : Parts A') (pb : Parts B) {P : Program} {f : Nat} {args : Array Value} {Q : Ending → World → Prop} (op : ∀ z, A z wr → Calls P f args wr fun e w' => Q e w' ∧ A' z w') : Calls P f args wr fun e w' => Q e w' ∧ PPq A' B b o w w' :=
  Star.opL (A' := Star A' B) h (parts_star pa' pb) (parts_blk b o) (fun _ h => h.opL pa' pb op)
theorem PPq.opB (h : PPq A B b o w wr) (pa : Parts A) (pb' : Parts B') {P : Program} {f : Nat} {args : Array Value} {Q : Ending → World → Prop} (op : ∀ z, B z wr → Calls P f args wr fun e w' => Q e w' ∧ B' z w') : Calls P f args wr fun e w' => Q e w' ∧ PPq A B' b o w w' :=
  Star.opL (A' := Star A B') h (parts_star pa pb') (parts_blk b o) (fun _ h => h.opR pa pb' op)
/-- The block's cells are written. -/
theorem PPq.set (pa : Parts A) (pb : Parts B) {cs : Array Value} {ty : TypeId} (h : PPq A B b (.cells cs ty (0, 0)) w wr) (i : Nat) (v : Value) : PPq A B b (.cells (cs.setIfInBounds i v) ty (0, 0)) w (wr.setCell ⟨b, i, none⟩ v) := by
  obtain ⟨F, G, h1, h2, h3, h4, h5⟩ := h
  have e : Ext (fun k => k = b) wr (wr.setCell ⟨b, i, none⟩ v) := Ext.setCell (S := fun k => k = b) (Ext.refl _ _) ⟨b, i, none⟩ (Or.inr rfl) _
  have hbG : G b := h2.2.1.elim (fun g => absurd (heap_lt h2.1) (Nat.not_lt.2 g)) id
  refine ⟨F, G, (parts_star pa pb).kept h1 e (fun k hk hh => h3 k hk (hh ▸ hbG)), ⟨setCell_heap h2.1 i v, .inr hbG, Ext.refl _ _⟩, h3, fun k hk => ⟨(h4 k hk).1, Nat.lt_of_lt_of_le (h4 k hk).2 e.size⟩, Frm.step h5 e (fun k hk => hk ▸ (h4 b (.inr hbG)).1)⟩
end
section
variable {w wr : World} {b p r s n : Nat} {o : Obj} {x : OutV} {B : Frm → World → Prop} {A : Frm → World → Prop}
theorem pq_credit (h : PPq (OutO p n x) B b o w wr) (pb : Parts B) (life tt g : Nat) (E : Int) (hE : takeE x.own x.peer life tt g = E) : Calls Try.prog 10 #[.pointer (some ⟨p, 0, none⟩), .int .u64 life, .int .u64 tt, .int .u64 g] wr fun e w' => e = .returned (.int .i64 E) ∧ PPq (OutO p n (x.credit life tt g)) B b o w w' :=
  h.opA (parts_outo _ _ _) pb (fun _ h => out_credit h life tt g E hE)
theorem pq_rtake (h : PPq A (ROutO r s n x) b o w wr) (pa : Parts A) (life tt g : Nat) (E : Int) (hE : takeE x.own x.peer life tt g = E) : Calls Try.prog 27 #[.pointer (some ⟨s, 0, none⟩), .int .u64 life, .int .u64 tt, .int .u64 g] wr fun e w' => e = .returned (.int .i64 E) ∧ PPq A (ROutO r s n (x.credit life tt g)) b o w w' :=
  h.opB pa (parts_routo _ _ _ _) (fun _ h => rout_take h life tt g E hE)
theorem pq_feed (h : PPq (OutO p n x) B b o w wr) (pb : Parts B) (f : Int) (life count base : Nat) (v : Value) (l : List RankA) (hr : Rs wr v l) (hbb : base < 18446744073709551616) (E : Int) (hE : feedE x f life count base l = E) : Calls Try.prog 11 #[.pointer (some ⟨p, 0, none⟩), .int .i64 f, .int .u64 life, .int .u64 count, .int .u64 base, v] wr fun e w' => e = .returned (.int .i64 E) ∧ PPq (OutO p n (x.feed f life count base l)) B b o w w' :=
  h.opA (parts_outo _ _ _) pb (fun _ h => out_feed h f life count base v l hr hbb E hE)
theorem pq_rfeed (h : PPq A (ROutO r s n x) b o w wr) (pa : Parts A) (f : Int) (life count base : Nat) (v : Value) (l : List RankA) (hr : Rs wr v l) (E : Int) (hE : feedE x f life count base l = E) : Calls Try.prog 28 #[.pointer (some ⟨r, 0, none⟩), .int .i64 f, .int .u64 life, .int .u64 count, .int .u64 base, v] wr fun e w' => e = .returned (.int .i64 E) ∧ PPq A (ROutO r s n (x.feed f life count base l)) b o w w' :=
  h.opB pa (parts_routo _ _ _ _) (fun _ h => rout_feed h f life count base v l hr E hE)
theorem pq_use (h : PPq (OutO p n x) B b o w wr) (pb : Parts B) (q : PlaceV) (h0 : 0 ≤ q.flow) (h1 : q.flow < x.told.length) (hg : q.gen < 18446744073709551616) (hu : x.used < x.gr) (hn : n ≤ 1000) (cnt : Nat) (hc : x.sent q = cnt) (hcm : cnt ≤ n) (F G U V : Int) (hF : q.flow = F) (hG : (q.gen : Int) = G) (hU : ((x.used + 1 : Nat) : Int) = U) (hV : (cnt : Int) = V) :
    Calls Try.prog 13 #[.pointer (some ⟨p, 0, none⟩), .agg #[.int .i64 F, .int .u64 G]] wr fun e w' => e = .returned (.tuple #[.int .u64 U, .int .u64 V, .int .i64 0]) ∧ PPq (OutO p (n + 1) (x.use q)) B b o w w' :=
  h.opA (parts_outo _ _ _) pb (fun _ h => use_T h q h0 h1 hg hu (by unfold maxLen; omega) cnt hc (by omega) F G U V hF hG hU hV)
theorem pq_ruse (h : PPq A (ROutO r s n x) b o w wr) (pa : Parts A) (q : PlaceV) (h0 : 0 ≤ q.flow) (h1 : q.flow < x.told.length) (hu : x.used < x.gr) (hm : x.gr ≤ Most) (hn : n ≤ 1000) (cnt : Nat) (hc : x.sent q = cnt) (F G U V : Int) (hF : q.flow = F) (hG : (q.gen : Int) = G) (hU : ((x.used + 1 : Nat) : Int) = U) (hV : (cnt : Int) = V) :
    Calls Try.prog 32 #[.pointer (some ⟨r, 0, none⟩), .agg #[.int .i64 F, .int .u64 G]] wr fun e w' => e = .returned (.tuple #[.int .u64 U, .int .u64 V, .int .i64 0]) ∧ PPq A (ROutO r s (n + 1) (x.use q)) b o w w' :=
  h.opB pa (parts_routo _ _ _ _) (fun z h => by
    obtain ⟨f, g⟩ := q
    obtain ⟨i, rfl⟩ := Int.eq_ofNat_of_zero_le h0
    simp only at h1 hF hG
    subst hF hG hU hV
    refine (rout_use_ok h i (by omega) g hu hm hn cnt hc).mono ?_
    rintro e w' ⟨rfl, h2⟩
    exact ⟨by rw [Int.natCast_add]; rfl, h2⟩)
theorem OutAt.facts {z : Frm} (h : OutAt z wr p n x) : x.gr ≤ Most ∧ x.told.length ≤ 4 := by
  obtain ⟨s, bm, vt, ts, c, h⟩ := h
  exact ⟨h.snd.2.2.2.2.1, h.few⟩
theorem look_nat : ∀ (es : List (PlaceV × Nat)) (q : PlaceV) (n : Nat), (∀ e ∈ es, e.2 ≤ n) → ∃ cnt : Nat, look es q = cnt ∧ cnt ≤ n
  | [], q, n, _ => ⟨0, rfl, Nat.zero_le _⟩
  | e :: r, q, n, h => by
    by_cases hq : e.1 = q
    · exact ⟨e.2, by show (if e.1 = q then (e.2 : Int) else look r q) = _; rw [if_pos hq], h e (List.mem_cons_self ..)⟩
    · obtain ⟨cnt, h1, h2⟩ := look_nat r q n (fun e he => h e (List.mem_cons_of_mem _ he))
      exact ⟨cnt, by show (if e.1 = q then (e.2 : Int) else look r q) = _; rw [if_neg hq]; exact h1, h2⟩
theorem ROutAt.sent {z : Frm} (h : ROutAt z wr r s n x) (q : PlaceV) : ∃ cnt : Nat, x.sent q = cnt ∧ cnt ≤ n := by
  obtain ⟨vt, vl, ts, es, c, h, _, h2⟩ := h
  obtain ⟨cnt, h3, h4⟩ := look_nat es q n h2
  exact ⟨cnt, (h.snt q).trans h3, h4⟩
theorem ROutAt.cells {z : Frm} (h : ROutAt z wr r s n x) : wr.cell? ⟨r, 0, none⟩ = some (.pointer (some ⟨s, 0, none⟩)) ∧ wr.cell? ⟨s, 2, none⟩ = some (.int .u64 x.gr) ∧ wr.cell? ⟨s, 3, none⟩ = some (.int .u64 x.used) := by
  obtain ⟨vt, vl, ts, es, c, h, _⟩ := h
  obtain ⟨ty, hs⟩ := h.snd
  exact ⟨h.cells.1.1, by rw [cell_of_heap hs]; rfl, by rw [cell_of_heap hs]; rfl⟩
theorem mayOwn_gen {x : OutV} {W : Nat} {own : List (List RankA)} (hok : ∀ l ∈ own, ∀ r ∈ l, r.okay) {q : PlaceV} (h : q ∈ mayOwn x W own) : q.gen < 18446744073709551616 := by
  unfold mayOwn at h
  obtain ⟨l, hl, hq⟩ := List.mem_flatten.1 h
  obtain ⟨⟨row, i⟩, hp, rfl⟩ := List.mem_map.1 hl
  unfold mayRow at hq
  obtain ⟨rk, hr, rfl⟩ := List.mem_map.1 hq
  have h1 : row ∈ own := by
    have := List.mem_zipIdx hp
    rw [this.2.2]
    exact List.getElem_mem _
  exact (hok row h1 rk (List.mem_filter.1 hr).1).1
theorem Rss.okay {v : Value} {l : List (List RankA)} (h : Rss w v l) : ∀ row ∈ l, ∀ rk ∈ row, rk.okay := by
  intro row hr rk hk
  obtain ⟨i, hi, rfl⟩ := List.getElem_of_mem hr
  obtain ⟨_, _, _, _, _, _, _, h1⟩ := h.2 i hi
  obtain ⟨j, hj, rfl⟩ := List.getElem_of_mem hk
  obtain ⟨_, _, _, _, _, _, _, h2⟩ := Rs.at h1 j hj
  exact h2
/-- What both answer to Pick. -/
theorem picks (x : OutV) (W : Int) (own : List (List RankA)) (hb : ∀ W' : Nat, (mayOwn x W' own).length ≤ 1048576) (hok : ∀ l ∈ own, ∀ r ∈ l, r.okay) : ∃ (F E : Int) (G : Nat), G < 18446744073709551616 ∧
    (∀ z wr p n v, OutAt z wr p n x → Rss wr v own → Calls Try.prog 12 #[.pointer (some ⟨p, 0, none⟩), .int .i64 W, v] wr fun e w' => e = .returned (.tuple #[.agg #[.int .i64 F, .int .u64 G], .int .i64 E]) ∧ Grows wr w') ∧
    (∀ z wr r s n v, ROutAt z wr r s n x → Rss wr v own → Calls Try.prog 29 #[.pointer (some ⟨r, 0, none⟩), .int .i64 W, v] wr fun e w' => e = .returned (.tuple #[.agg #[.int .i64 F, .int .u64 G], .int .i64 E]) ∧ Grows wr w') := by
  by_cases hbad : W < 1 ∨ 16 < W ∨ x.told.length < own.length
  · refine ⟨0, 1, 0, by omega, fun z wr p n v h hr => ?_, fun z wr r s n v h hr => ?_⟩
    · obtain ⟨a, cap, rfl⟩ := hr.1
      exact pick_arg h W a cap own.length hbad
    · obtain ⟨a, cap, rfl⟩ := hr.1
      exact rpick_arg h W a cap own.length hbad
  · obtain ⟨W', rfl⟩ := Int.eq_ofNat_of_zero_le (show 0 ≤ W by omega)
    obtain ⟨S, hS⟩ := exists_sorted (mayOwn x W' own)
    obtain ⟨q, hq⟩ : ∃ q, (roundP S x.last x.begun).head? = q := ⟨_, rfl⟩
    have key : ∃ (F E : Int) (G : Nat), G < 18446744073709551616 ∧ pickV x q = .tuple #[.agg #[.int .i64 F, .int .u64 G], .int .i64 E] := by
      cases q with
      | none => exact ⟨0, 25, 0, by omega, rfl⟩
      | some c =>
        have hc : c ∈ mayOwn x W' own := (hS.2 c).1 ((mem_roundP S x.last x.begun c).1 (List.mem_of_mem_head? (by rw [hq]; rfl)))
        by_cases hu : x.used < x.gr
        · exact ⟨c.flow, 0, c.gen, mayOwn_gen hok hc, by unfold pickV; simp only; rw [if_pos hu]⟩
        · exact ⟨0, 26, 0, by omega, by unfold pickV; simp only; rw [if_neg hu]; rfl⟩
    obtain ⟨F, E, G, hG, hv⟩ := key
    refine ⟨F, E, G, hG, fun z wr p n v h hr => ?_, fun z wr r s n v h hr => ?_⟩
    · rw [← hv]
      exact pick_ok h W' (by omega) (by omega) v own hr (by omega) (hb W') S hS q hq
    · rw [← hv]
      exact rpick_ok h W' (by omega) (by omega) v own hr (by omega) (hb W') S hS q hq
end
end Go.Proofs.Ytekdggdnkmkldaa
