/- link: Pick. -/
import Derived.Test.YtekdggdnkmkldaaLinkM
namespace Go.Proofs.Ytekdggdnkmkldaa
set_option linter.unusedVariables false
set_option linter.unusedSimpArgs false
set_option maxRecDepth 1500
open Go.RowKit

/-- What a pick tells, if the round's first is q. -/
def pickV (x : OutV) : Option PlaceV → Value
  | some p => if x.used < x.gr then .tuple #[.agg #[.int .i64 p.flow, .int .u64 p.gen], .int .i64 0] else .tuple #[.agg #[.int .i64 0, .int .u64 0], .int .i64 26]
  | none => .tuple #[.agg #[.int .i64 0, .int .u64 0], .int .i64 25]

theorem keep3 {w w' : World} {b : Nat} {v1 v2 v3 : Value} (he : Grows w w') (h : w.cell? ⟨b, 3, none⟩ = some v1 ∧ w.cell? ⟨b, 4, none⟩ = some v2 ∧ w.cell? ⟨b, 5, none⟩ = some v3) : w'.cell? ⟨b, 3, none⟩ = some v1 ∧ w'.cell? ⟨b, 4, none⟩ = some v2 ∧ w'.cell? ⟨b, 5, none⟩ = some v3 := ⟨keepc he h.1, keepc he h.2.1, keepc he h.2.2⟩
theorem next_T (v : Value) (l S : List PlaceV) (hS : InOrder S l) (last : PlaceV) (begun : Bool) (w : World) (h : OwnP w v l) (hl : l.length ≤ 1048576) (o : Option PlaceV) (ho : (roundP S last begun).head? = o) (a : Int) (g : Nat) (b : Bool) (hv : nextV o = .tuple #[.agg #[.int .i64 a, .int .u64 g], .bool b]) :
    Calls Try.prog 41 #[v, .agg #[.int .i64 last.flow, .int .u64 last.gen], .bool begun] w fun e w' => e = .returned (.tuple #[.agg #[.int .i64 a, .int .u64 g], .bool b]) ∧ Grows w w' := hv ▸ next_S v l S hS last begun w h hl o ho
theorem nextV_form (q : Option PlaceV) : ∃ (a : Int) (g : Nat) (b : Bool), nextV q = .tuple #[.agg #[.int .i64 a, .int .u64 g], .bool b] ∧ ((q = none ∧ a = 0 ∧ g = 0 ∧ b = false) ∨ (q = some ⟨a, g⟩ ∧ b = true)) := by
  cases q with
  | none => exact ⟨0, 0, false, rfl, .inl ⟨rfl, rfl, rfl, rfl⟩⟩
  | some p => exact ⟨p.flow, p.gen, true, rfl, .inr ⟨rfl, rfl⟩⟩
section
variable {w0 : Frm} {w w' : World} {o n : Nat} {x : OutV}
set_option maxHeartbeats 4000000 in
theorem pick_arg (h : OutAt w0 w o n x) (W : Int) (a : Option Addr) (cap k : Nat) (hb : W < 1 ∨ 16 < W ∨ x.told.length < k) :
    Calls Try.prog 12 #[.pointer (some ⟨o, 0, none⟩), .int .i64 W, .slice a k cap] w fun e w' => e = .returned (.tuple #[.agg #[.int .i64 0, .int .u64 0], .int .i64 1]) ∧ Grows w w' := by
  obtain ⟨s, bm, vt, ts, c, h⟩ := h
  have gb : Grows w (w.alloc (.cells #[.int .i64 0, .int .u64 0] 31)) := (Ext.refl _ _).alloc _
  have hn := heap_alloc_new w (.cells #[.int .i64 0, .int .u64 0] 31)
  have HN := Lib.hid (out_none (h.more gb))
  obtain ⟨va, vc, rfl⟩ := h.row.form
  have c1 := (h.more gb).cells.1.2
  have hz := zeroP
  have HG := Lib.hid (And.intro gb hn)
  clear h gb hn
  have hb' : W < 1 ∨ (¬ W < 1 ∧ 16 < W) ∨ (¬ W < 1 ∧ ¬ 16 < W ∧ (x.told.length : Int) < (k : Int)) := by omega
  clear hb
  go_enter Try.func12, Try.ntmps12
  go_wp2_with fail
  refine HN.out.mono ?_
  rintro e w' ⟨rfl, rfl⟩
  obtain ⟨w1, hw1⟩ : ∃ w1, w.alloc (.cells #[.int .i64 0, .int .u64 0] 31) = w1 := ⟨_, rfl⟩
  rw [hw1] at HG c1 ⊢
  clear HN hw1
  have hgs : ∀ x y : Value, Grows w ((w1.setCell ⟨w.heap.size, 0, none⟩ x).setCell ⟨w.heap.size, 1, none⟩ y) := fun x y =>
    Ext.setCell (Ext.setCell HG.out.1 ⟨w.heap.size, 0, none⟩ (.inl (Nat.le_refl _)) x) ⟨w.heap.size, 1, none⟩ (.inl (Nat.le_refl _)) y
  have d0 := cell_of_heap HG.out.2 0
  have d1 := cell_of_heap HG.out.2 1
  have f0 := frozen_of_heap HG.out.2 0
  have f1 := frozen_of_heap HG.out.2 1
  simp at d0 d1
  have HS := Lib.hid hgs
  clear hgs HG
  rcases hb' with h1 | ⟨h1, h2⟩ | ⟨h1, h2, h3⟩
  all_goals
    go_wp2
    refine bodyPost_ret (v := .tuple #[.agg #[.int .i64 0, .int .u64 0], .int .i64 1]) ?_ rfl ⟨rfl, HS.out _ _⟩
    rw [results_cell_tmp rfl]
    go_simp
    try rfl
set_option maxHeartbeats 4000000 in
theorem pick_ok (h : OutAt w0 w o n x) (W : Nat) (hW0 : 1 ≤ W) (hW : W ≤ 16) (v : Value) (own : List (List RankA)) (hr : Rss w v own) (hol : own.length ≤ x.told.length) (hl : (mayOwn x W own).length ≤ 1048576) (S : List PlaceV) (hS : InOrder S (mayOwn x W own)) (q : Option PlaceV) (hq : (roundP S x.last x.begun).head? = q) :
    Calls Try.prog 12 #[.pointer (some ⟨o, 0, none⟩), .int .i64 W, v] w fun e w' => e = .returned (pickV x q) ∧ Grows w w' := by
  obtain ⟨va, vc, rfl⟩ := hr.1
  have gb : Grows w (w.alloc (.cells #[.int .i64 0, .int .u64 0] 31)) := (Ext.refl _ _).alloc _
  have hn := heap_alloc_new w (.cells #[.int .i64 0, .int .u64 0] 31)
  have ho := h.more gb
  have hlt := h.lt.1
  obtain ⟨s, bm, vt, ts, c, hc⟩ := ho
  have HN := Lib.hid (out_none hc)
  obtain ⟨ta, tc, rfl⟩ := hc.row.form
  have c1 := hc.cells.1.2
  have hz := zeroP
  have hfew := hc.few
  have HG := Lib.hid (And.intro gb (And.intro hn (And.intro hc (And.intro (h.more gb) (hr.grows gb)))))
  have HP := Lib.hid (And.intro hfew (And.intro hl (And.intro hS hq)))
  clear h gb hn hc hr hl hS hq hfew
  have i1 : ¬ (W : Int) < 1 := by omega
  have i2 : ¬ (16 : Int) < (W : Int) := by omega
  have i3 : ¬ (x.told.length : Int) < (own.length : Int) := by omega
  go_enter Try.func12, Try.ntmps12
  go_wp2_with fail
  refine HN.out.mono ?_
  rintro e w' ⟨rfl, rfl⟩
  obtain ⟨w1, hw1⟩ : ∃ w1, w.alloc (.cells #[.int .i64 0, .int .u64 0] 31) = w1 := ⟨_, rfl⟩
  rw [hw1] at HG c1 ⊢
  clear HN hw1
  go_upto_region 5 with fail
  have HI := Lib.hid (And.intro i1 (And.intro i2 i3))
  have HM := Lib.hid (omay_any (w := w1.drew) (HG.out.2.2.2.1.more (Ext.drewN_r 1)) W hW _ own (HG.out.2.2.2.2.grows (Ext.drewN_r 1)) (Nat.le_trans hol HP.out.1) HP.out.2.1)
  have HM2 := Lib.hid (omay_any (w := (w1.alloc (.cells #[.int .i64 0, .int .u64 0] 31)).drew) (HG.out.2.2.2.1.more (((Ext.refl (fun _ => False) _).alloc _).trans (Ext.drewN_r 1))) W hW _ own (HG.out.2.2.2.2.grows (((Ext.refl (fun _ => False) _).alloc _).trans (Ext.drewN_r 1))) (Nat.le_trans hol HP.out.1) HP.out.2.1)
  clear i1 i2 i3 c1
  obtain ⟨_, _, ⟨c3, c4⟩, c5⟩ := HG.out.2.2.1.cells
  have HC := Lib.hid (And.intro c3 (And.intro c4 c5))
  obtain ⟨pf, pg, pb, hv, hvq⟩ := nextV_form q
  have HV := Lib.hid (And.intro hv hvq)
  clear hv hvq
  go_region_held3 (fun w' => w'.cell? ⟨o, 3, none⟩ = some (.int .i64 x.last.flow) ∧ w'.cell? ⟨o, 4, none⟩ = some (.int .u64 x.last.gen) ∧ w'.cell? ⟨o, 5, none⟩ = some (.bool x.begun))
    (first
      | go_keep
      | exact ⟨keepc (he.trans he2) HC.out.1, keepc (he.trans he2) HC.out.2.1, keepc (he.trans he2) HC.out.2.2⟩
      | exact ⟨keepc he HC.out.1, keepc he HC.out.2.1, keepc he HC.out.2.2⟩
      | exact ⟨keepc ((he.trans he2).alloc _) HC.out.1, keepc ((he.trans he2).alloc _) HC.out.2.1, keepc ((he.trans he2).alloc _) HC.out.2.2⟩
      | exact keep3 (he.alloc _) HC.out
      | exact keep3 ((he.alloc _).trans he2) HC.out
      | exact keep3 (Ext.setCell (Ext.setCell ((he.alloc _).trans he2) ⟨_, 0, none⟩ (.inl he.size) _) ⟨_, 1, none⟩ (.inl he.size) _) HC.out
      | exact keep3 (((Ext.refl (fun _ => False) w1).alloc _).trans (Ext.drewN_r 1)) HC.out
      | exact keep3 ((((Ext.refl (fun _ => False) w1).alloc _).trans (Ext.drewN_r 1)).trans he) HC.out
      | exact keep3 (((((Ext.refl (fun _ => False) w1).alloc _).trans (Ext.drewN_r 1)).trans he).trans he2) HC.out
      | exact keep3 (Ext.setCell (Ext.setCell (((((Ext.refl (fun _ => False) w1).alloc _).trans (Ext.drewN_r 1)).trans he).trans he2) ⟨_, 0, none⟩ (.inl (Nat.le_refl _)) _) ⟨_, 1, none⟩ (.inl (Nat.le_refl _)) _) HC.out)
    (first
      | (go_at_call 42; with_reducible refine HM.out.mono ?_; rintro e w' ⟨vp, rfl, hp, he⟩)
      | (go_at_call 42; with_reducible refine HM2.out.mono ?_; rintro e w' ⟨vp, rfl, hp, he⟩)
      | (go_at_call 41; with_reducible refine (next_T vp _ S HP.out.2.2.1 x.last x.begun (w'.alloc (.cells #[.int .i64 0, .int .u64 0] 31)) (hp.grows ((Ext.refl _ _).alloc _)) HP.out.2.1 q HP.out.2.2.2 pf pg pb HV.out.1).mono ?_; rintro e w'' ⟨rfl, he2⟩; have hb := (he2.block _ (heap_lt (heap_alloc_new w' (.cells #[.int .i64 0, .int .u64 0] 31))) (fun h => h)).trans (heap_alloc_new w' (.cells #[.int .i64 0, .int .u64 0] 31)); have d0 := cell_of_heap hb 0; have d1 := cell_of_heap hb 1; have f0 := frozen_of_heap hb 0; have f1 := frozen_of_heap hb 1; simp at d0 d1)
      | (go_at_call 41; with_reducible refine (next_T vp _ S HP.out.2.2.1 x.last x.begun _ hp HP.out.2.1 q HP.out.2.2.2 pf pg pb HV.out.1).mono ?_; rintro e w'' ⟨rfl, he2⟩; have hb := ((Ext.trans (S := fun _ => False) (show Grows (w1.alloc (.cells #[.int .i64 0, .int .u64 0] 31)).drew w' from he) he2).block _ (heap_lt (heap_alloc_new w1 (.cells #[.int .i64 0, .int .u64 0] 31))) (fun h => h)).trans (heap_alloc_new w1 (.cells #[.int .i64 0, .int .u64 0] 31)); have d0 := cell_of_heap hb 0; have d1 := cell_of_heap hb 1; have f0 := frozen_of_heap hb 0; have f1 := frozen_of_heap hb 1; simp at d0 d1)
      | (go_at_call 41; with_reducible refine (next_T vp _ S HP.out.2.2.1 x.last x.begun _ hp HP.out.2.1 q HP.out.2.2.2 pf pg pb HV.out.1).mono ?_; rintro e w'' ⟨rfl, he2⟩))
  · have hG : Grows w1 (w''.alloc (.cells #[.int .i64 pf, .int .u64 pg] 31)) := (Ext.drewN_r 1).trans ((he.trans he2).alloc _)
    have hb8 : (w''.alloc (.cells #[.int .i64 pf, .int .u64 pg] 31)).heap[w''.heap.size]? = some (.cells #[.int .i64 pf, .int .u64 pg] 31 (0, 0)) := heap_alloc_new w'' _
    have HT := Lib.hid (And.intro hG hb8)
    clear hG hb8 he he2 hp HM HM2
    try clear d0 d1 f0 f1 hb
    generalize (w''.alloc (.cells #[.int .i64 pf, .int .u64 pg] 31)) = wf at HT ⊢
    generalize w''.heap.size = b8 at HT ⊢
    have hbr := (HT.out.1.block _ (heap_lt HG.out.2.1) (fun h => h)).trans HG.out.2.1
    have d0 := cell_of_heap hbr 0
    have d1 := cell_of_heap hbr 1
    have f0 := frozen_of_heap hbr 0
    have f1 := frozen_of_heap hbr 1
    have e0 := cell_of_heap HT.out.2 0
    have e1 := cell_of_heap HT.out.2 1
    simp at d0 d1 e0 e1
    have c0 := keepc HT.out.1 HG.out.2.2.1.cells.1.1
    have hgs : ∀ x y : Value, Grows w ((wf.setCell ⟨w.heap.size, 0, none⟩ x).setCell ⟨w.heap.size, 1, none⟩ y) := fun x y =>
      Ext.setCell (Ext.setCell (HG.out.1.trans HT.out.1) ⟨w.heap.size, 0, none⟩ (.inl (Nat.le_refl _)) x) ⟨w.heap.size, 1, none⟩ (.inl (Nat.le_refl _)) y
    have HS := Lib.hid (And.intro hgs hbr)
    have HY := Lib.hid (may_any wf s _ _ _ _ (HG.out.2.2.1.snd.ext HT.out.1 (fun h => h)))
    clear hgs hbr c3 c4 c5
    rcases HV.out.2 with ⟨hq, rfl, rfl, rfl⟩ | ⟨hq, rfl⟩
    · go_wp2
      refine bodyPost_ret (v := pickV x none) ?_ rfl ⟨by rfl, HS.out.1 _ _⟩
      rw [results_cell_tmp rfl]
      go_simp
      try rfl
    · by_cases hu : x.used < x.gr
      · go_wp2_with fail
        refine HY.out.mono ?_
        rintro e w' ⟨rfl, rfl⟩
        rw [decide_eq_true hu]
        have HU := Lib.hid hu
        clear hu
        go_wp2
        refine bodyPost_ret (v := pickV x q) ?_ rfl ⟨rfl, HS.out.1 _ _⟩
        rw [results_cell_tmp rfl, hq, pickV, if_pos HU.out]
        go_simp
        try rfl
      · go_wp2_with fail
        refine HY.out.mono ?_
        rintro e w' ⟨rfl, rfl⟩
        rw [decide_eq_false hu]
        have HU := Lib.hid hu
        clear hu
        go_wp2
        refine bodyPost_ret (v := pickV x q) ?_ rfl ⟨rfl, HS.out.1 _ _⟩
        rw [results_cell_tmp rfl, hq, pickV, if_neg HU.out]
        go_simp
        try rfl
  · have hG : Grows w1 ((w''.setCell ⟨w'.heap.size, 0, none⟩ (.int .i64 pf)).setCell ⟨w'.heap.size, 1, none⟩ (.int .u64 pg)) := (Ext.drewN_r 1).trans (Ext.setCell (Ext.setCell ((he.alloc _).trans he2) ⟨_, 0, none⟩ (.inl he.size) _) ⟨_, 1, none⟩ (.inl he.size) _)
    have hb8 : ((w''.setCell ⟨w'.heap.size, 0, none⟩ (.int .i64 pf)).setCell ⟨w'.heap.size, 1, none⟩ (.int .u64 pg)).heap[w'.heap.size]? = some (.cells #[.int .i64 pf, .int .u64 pg] 31 (0, 0)) := setCell_heap (setCell_heap hb 0 _) 1 _
    have HT := Lib.hid (And.intro hG hb8)
    clear hG hb8 he he2 hp HM HM2
    try clear d0 d1 f0 f1 hb
    generalize ((w''.setCell ⟨w'.heap.size, 0, none⟩ (.int .i64 pf)).setCell ⟨w'.heap.size, 1, none⟩ (.int .u64 pg)) = wf at HT ⊢
    generalize w'.heap.size = b8 at HT ⊢
    have hbr := (HT.out.1.block _ (heap_lt HG.out.2.1) (fun h => h)).trans HG.out.2.1
    have d0 := cell_of_heap hbr 0
    have d1 := cell_of_heap hbr 1
    have f0 := frozen_of_heap hbr 0
    have f1 := frozen_of_heap hbr 1
    have e0 := cell_of_heap HT.out.2 0
    have e1 := cell_of_heap HT.out.2 1
    simp at d0 d1 e0 e1
    have c0 := keepc HT.out.1 HG.out.2.2.1.cells.1.1
    have hgs : ∀ x y : Value, Grows w ((wf.setCell ⟨w.heap.size, 0, none⟩ x).setCell ⟨w.heap.size, 1, none⟩ y) := fun x y =>
      Ext.setCell (Ext.setCell (HG.out.1.trans HT.out.1) ⟨w.heap.size, 0, none⟩ (.inl (Nat.le_refl _)) x) ⟨w.heap.size, 1, none⟩ (.inl (Nat.le_refl _)) y
    have HS := Lib.hid (And.intro hgs hbr)
    have HY := Lib.hid (may_any wf s _ _ _ _ (HG.out.2.2.1.snd.ext HT.out.1 (fun h => h)))
    clear hgs hbr c3 c4 c5
    rcases HV.out.2 with ⟨hq, rfl, rfl, rfl⟩ | ⟨hq, rfl⟩
    · go_wp2
      refine bodyPost_ret (v := pickV x none) ?_ rfl ⟨by rfl, HS.out.1 _ _⟩
      rw [results_cell_tmp rfl]
      go_simp
      try rfl
    · by_cases hu : x.used < x.gr
      · go_wp2_with fail
        refine HY.out.mono ?_
        rintro e w' ⟨rfl, rfl⟩
        rw [decide_eq_true hu]
        have HU := Lib.hid hu
        clear hu
        go_wp2
        refine bodyPost_ret (v := pickV x q) ?_ rfl ⟨rfl, HS.out.1 _ _⟩
        rw [results_cell_tmp rfl, hq, pickV, if_pos HU.out]
        go_simp
        try rfl
      · go_wp2_with fail
        refine HY.out.mono ?_
        rintro e w' ⟨rfl, rfl⟩
        rw [decide_eq_false hu]
        have HU := Lib.hid hu
        clear hu
        go_wp2
        refine bodyPost_ret (v := pickV x q) ?_ rfl ⟨rfl, HS.out.1 _ _⟩
        rw [results_cell_tmp rfl, hq, pickV, if_neg HU.out]
        go_simp
        try rfl
  · have hG : Grows w1 ((w''.setCell ⟨w1.heap.size, 0, none⟩ (.int .i64 pf)).setCell ⟨w1.heap.size, 1, none⟩ (.int .u64 pg)) := Ext.setCell (Ext.setCell (((((Ext.refl (fun _ => False) w1).alloc _).trans (Ext.drewN_r 1)).trans he).trans he2) ⟨_, 0, none⟩ (.inl (Nat.le_refl _)) _) ⟨_, 1, none⟩ (.inl (Nat.le_refl _)) _
    have hb8 : ((w''.setCell ⟨w1.heap.size, 0, none⟩ (.int .i64 pf)).setCell ⟨w1.heap.size, 1, none⟩ (.int .u64 pg)).heap[w1.heap.size]? = some (.cells #[.int .i64 pf, .int .u64 pg] 31 (0, 0)) := setCell_heap (setCell_heap hb 0 _) 1 _
    have HT := Lib.hid (And.intro hG hb8)
    clear hG hb8 he he2 hp HM HM2
    try clear d0 d1 f0 f1 hb
    generalize ((w''.setCell ⟨w1.heap.size, 0, none⟩ (.int .i64 pf)).setCell ⟨w1.heap.size, 1, none⟩ (.int .u64 pg)) = wf at HT ⊢
    generalize w1.heap.size = b8 at HT ⊢
    have hbr := (HT.out.1.block _ (heap_lt HG.out.2.1) (fun h => h)).trans HG.out.2.1
    have d0 := cell_of_heap hbr 0
    have d1 := cell_of_heap hbr 1
    have f0 := frozen_of_heap hbr 0
    have f1 := frozen_of_heap hbr 1
    have e0 := cell_of_heap HT.out.2 0
    have e1 := cell_of_heap HT.out.2 1
    simp at d0 d1 e0 e1
    have c0 := keepc HT.out.1 HG.out.2.2.1.cells.1.1
    have hgs : ∀ x y : Value, Grows w ((wf.setCell ⟨w.heap.size, 0, none⟩ x).setCell ⟨w.heap.size, 1, none⟩ y) := fun x y =>
      Ext.setCell (Ext.setCell (HG.out.1.trans HT.out.1) ⟨w.heap.size, 0, none⟩ (.inl (Nat.le_refl _)) x) ⟨w.heap.size, 1, none⟩ (.inl (Nat.le_refl _)) y
    have HS := Lib.hid (And.intro hgs hbr)
    have HY := Lib.hid (may_any wf s _ _ _ _ (HG.out.2.2.1.snd.ext HT.out.1 (fun h => h)))
    clear hgs hbr c3 c4 c5
    rcases HV.out.2 with ⟨hq, rfl, rfl, rfl⟩ | ⟨hq, rfl⟩
    · go_wp2
      refine bodyPost_ret (v := pickV x none) ?_ rfl ⟨by rfl, HS.out.1 _ _⟩
      rw [results_cell_tmp rfl]
      go_simp
      try rfl
    · by_cases hu : x.used < x.gr
      · go_wp2_with fail
        refine HY.out.mono ?_
        rintro e w' ⟨rfl, rfl⟩
        rw [decide_eq_true hu]
        have HU := Lib.hid hu
        clear hu
        go_wp2
        refine bodyPost_ret (v := pickV x q) ?_ rfl ⟨rfl, HS.out.1 _ _⟩
        rw [results_cell_tmp rfl, hq, pickV, if_pos HU.out]
        go_simp
        try rfl
      · go_wp2_with fail
        refine HY.out.mono ?_
        rintro e w' ⟨rfl, rfl⟩
        rw [decide_eq_false hu]
        have HU := Lib.hid hu
        clear hu
        go_wp2
        refine bodyPost_ret (v := pickV x q) ?_ rfl ⟨rfl, HS.out.1 _ _⟩
        rw [results_cell_tmp rfl, hq, pickV, if_neg HU.out]
        go_simp
        try rfl
end
end Go.Proofs.Ytekdggdnkmkldaa
