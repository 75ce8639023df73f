/- link: may. -/
import Derived.Test.YtekdggdnkmkldaaLinkN
namespace Go.Proofs.Ytekdggdnkmkldaa
set_option linter.unusedVariables false
set_option linter.unusedSimpArgs false
set_option maxRecDepth 1500
open Go.RowKit

/-- Whether a rank of its own is greater than what the next hop told, at a place of the window. -/
def mayPl (x : OutV) (W i : Nat) (r : RankA) : Bool := (x.known i).2 && (decide ((x.known i).1 ≤ r.gen) && (decide (r.gen - (x.known i).1 < W) && decide ((x.rank i r.gen : Int) < r.rank)))
def mayRow (x : OutV) (W i : Nat) (l : List RankA) : List PlaceV := (l.filter (mayPl x W i)).map fun r => ⟨i, r.gen⟩
def mayOwn (x : OutV) (W : Nat) (own : List (List RankA)) : List PlaceV := (own.zipIdx.map fun p => mayRow x W p.2 p.1).flatten
theorem mayRow_succ (x : OutV) (W i : Nat) (l : List RankA) (j : Nat) (hj : j < l.length) : mayRow x W i (l.take (j + 1)) = mayRow x W i (l.take j) ++ if mayPl x W i l[j] then [⟨i, l[j].gen⟩] else [] := by
  unfold mayRow
  rw [List.take_succ_eq_append_getElem hj, List.filter_append, List.map_append]
  congr 1
  by_cases h : mayPl x W i l[j] = true
  · simp [h]
  · simp [h]
theorem mayOwn_succ (x : OutV) (W : Nat) (own : List (List RankA)) (j : Nat) (hj : j < own.length) : mayOwn x W (own.take (j + 1)) = mayOwn x W (own.take j) ++ mayRow x W j own[j] := by
  unfold mayOwn
  rw [List.take_succ_eq_append_getElem hj, List.zipIdx_append, List.map_append, List.flatten_append]
  congr 1
  simp [List.length_take, Nat.min_eq_left (Nat.le_of_lt hj)]

/-- A row of rows of ranks. -/
def Rss (w : World) (v : Value) (l : List (List RankA)) : Prop := (∃ a cap, v = .slice a l.length cap) ∧ ∀ i (hi : i < l.length), ∃ g off cap u, v = .slice (some ⟨g, off, none⟩) l.length cap ∧ g < w.heap.size ∧ w.cell? ⟨g, off + i, none⟩ = some u ∧ Rs w u l[i]
theorem Rss.grows {w w' : World} {v : Value} {l : List (List RankA)} (h : Rss w v l) (e : Grows w w') : Rss w' v l := ⟨h.1, fun i hi => by
  obtain ⟨g, off, cap, u, h1, h2, h3, h4⟩ := h.2 i hi
  exact ⟨g, off, cap, u, h1, Nat.lt_of_lt_of_le h2 e.size, (e.cell h2 (fun h => h)).trans h3, h4.grows e⟩⟩

theorem cell_lt {w : World} {b i : Nat} {v : Value} (h : w.cell? ⟨b, i, none⟩ = some v) : b < w.heap.size := by
  unfold World.cell? at h
  simp only at h
  rcases Nat.lt_or_ge b w.heap.size with h1 | h1
  · exact h1
  · rw [Array.getElem?_eq_none h1] at h
    simp at h
theorem new_cell (w : World) (v : Value) (ty : TypeId) (fr : Nat × Nat := (0, 0)) : (w.alloc (.cells #[v] ty fr)).cell? ⟨w.heap.size, 0, none⟩ = some v := by rw [cell_of_heap (heap_alloc_new w _)]; rfl
theorem alloc_size1 (w : World) (b : Obj) : (w.alloc b).heap.size = w.heap.size + 1 := by show (w.heap.push b).size = _; rw [Array.size_push]
theorem keepc {w w' : World} {b i : Nat} {v : Value} (he : Grows w w') (h : w.cell? ⟨b, i, none⟩ = some v) : w'.cell? ⟨b, i, none⟩ = some v := (he.cell (cell_lt h) (fun h => h)).trans h
section
variable {w0 : Frm} {w w' : World} {o n : Nat} {x : OutV}
theorem may1_any (h : OutAt w0 w o n x) (gen : Nat) (hgb : gen < 18446744073709551616) (rank : Int) (W i : Nat) (hW : W ≤ 16) (B : Nat) (K : Bool) (hk : x.known i = (B, K)) (ck cb cw co cf : Nat)
    (c1 : w.cell? ⟨ck, 0, none⟩ = some (.bool K)) (c2 : w.cell? ⟨cb, 0, none⟩ = some (.int .u64 B)) (c3 : w.cell? ⟨cw, 0, none⟩ = some (.int .i64 W)) (c4 : w.cell? ⟨co, 0, none⟩ = some (.pointer (some ⟨o, 0, none⟩))) (c5 : w.cell? ⟨cf, 0, none⟩ = some (.int .i64 i)) :
    Calls Try.prog 79 #[.agg #[.int .u64 gen, .int .i64 rank], .pointer (some ⟨ck, 0, none⟩), .pointer (some ⟨cb, 0, none⟩), .pointer (some ⟨cw, 0, none⟩), .pointer (some ⟨co, 0, none⟩), .pointer (some ⟨cf, 0, none⟩)] w fun e w' => e = .returned (.bool (mayPl x W i ⟨gen, rank⟩)) ∧ Grows w w' := by
  have l1 := cell_lt c1
  have l2 := cell_lt c2
  have l3 := cell_lt c3
  have l4 := cell_lt c4
  have l5 := cell_lt c5
  have hm : mayPl x W i ⟨gen, rank⟩ = (K && (decide (B ≤ gen) && (decide (gen - B < W) && decide ((x.rank i gen : Int) < rank)))) := by unfold mayPl; rw [hk]
  have HM := Lib.hid hm
  have HO := Lib.hid h
  clear hm h hk
  have gb : Grows w (w.alloc (.cells #[.int .u64 gen, .int .i64 rank] 62)) := (Ext.refl _ _).alloc _
  have HG := Lib.hid gb
  have d1 := (gb.cell l1 (fun h => h)).trans c1
  have d2 := (gb.cell l2 (fun h => h)).trans c2
  have d3 := (gb.cell l3 (fun h => h)).trans c3
  have d4 := (gb.cell l4 (fun h => h)).trans c4
  have d5 := (gb.cell l5 (fun h => h)).trans c5
  have hn := heap_alloc_new w (.cells #[.int .u64 gen, .int .i64 rank] 62)
  have d6 : (w.alloc (.cells #[.int .u64 gen, .int .i64 rank] 62)).cell? ⟨w.heap.size, 0, none⟩ = some (.int .u64 gen) := by rw [cell_of_heap hn]; rfl
  have d7 : (w.alloc (.cells #[.int .u64 gen, .int .i64 rank] 62)).cell? ⟨w.heap.size, 1, none⟩ = some (.int .i64 rank) := by rw [cell_of_heap hn]; rfl
  clear gb hn c1 c2 c3 c4 c5 l1 l2 l3 l4 l5
  have D := Lib.hid (And.intro d6 d7)
  clear d6 d7
  go_enter Try.func79, Try.ntmps79
  go_upto_region 1 with fail
  obtain ⟨d6, d7⟩ := D.out
  clear D
  generalize w.alloc (.cells #[.int .u64 gen, .int .i64 rank] 62) = w1 at *
  generalize w.heap.size = bb at *
  have gq : ∀ m, Grows w (w1.drewN m) := fun m => HG.out.trans (Ext.drewN_r m)
  have HQ := Lib.hid gq
  clear gq
  cases K with
  | false =>
    go_quiet (fail)
    go_wp2
    go_ret
    exact ⟨ret_bool (by rw [HM.out]; rfl), HQ.out _⟩
  | true =>
    by_cases h1 : B ≤ gen
    · obtain ⟨d, hd⟩ : ∃ d, gen - B = d := ⟨_, rfl⟩
      rw [hd] at HM
      have h3 : ((B : Int) ≤ (gen : Int)) = True := by simp; omega
      have q1 : (gen : Int) - (B : Int) = (d : Int) := by omega
      have q2 : IntKind.u64.wrap (d : Int) = (d : Int) := by rw [IntKind.wrap_u64]; omega
      have q3 : IntKind.u64.wrap (W : Int) = (W : Int) := by rw [IntKind.wrap_u64]; omega
      clear hgb h1 hd
      by_cases h2 : d < W
      · have HB := Lib.hid h2
        have h2' : ((d : Int) < (W : Int)) = True := by simp; omega
        clear h2
        obtain ⟨r, hr⟩ : ∃ r, x.rank i gen = r := ⟨_, rfl⟩
        rw [hr] at HM
        have HR := Lib.hid (out_rank (w := w1.drew) (HO.out.more (HG.out.trans (Ext.drewN_r 1))) i gen r hr)
        have HL := Lib.hid (And.intro d1 (And.intro d2 (And.intro d3 (And.intro d4 (And.intro d5 (And.intro d6 d7))))))
        clear hr
        have HF := Lib.hid (And.intro HG.out (Ext.drewN_r (w := w1) (S := fun _ => False) 1))
        go_region_held3 (fun w' => w'.cell? ⟨ck, 0, none⟩ = some (.bool true) ∧ w'.cell? ⟨cb, 0, none⟩ = some (.int .u64 B) ∧ w'.cell? ⟨cw, 0, none⟩ = some (.int .i64 W) ∧ w'.cell? ⟨co, 0, none⟩ = some (.pointer (some ⟨o, 0, none⟩)) ∧ w'.cell? ⟨cf, 0, none⟩ = some (.int .i64 i) ∧ w'.cell? ⟨bb, 0, none⟩ = some (.int .u64 gen) ∧ w'.cell? ⟨bb, 1, none⟩ = some (.int .i64 rank))
          (first
            | go_keep
            | exact ⟨keepc he HL.out.1, keepc he HL.out.2.1, keepc he HL.out.2.2.1, keepc he HL.out.2.2.2.1, keepc he HL.out.2.2.2.2.1, keepc he HL.out.2.2.2.2.2.1, keepc he HL.out.2.2.2.2.2.2⟩)
          (first
            | (go_at_call 20; refine HR.out.mono ?_; rintro e w' ⟨rfl, he⟩))
        all_goals
          have A := Lib.hid (HF.out.1.trans (Ext.trans (S := fun _ => False) (Ext.drewN_r 1) he))
          clear he HR HF
          go_wp2
          go_ret
          refine ⟨ret_bool ?_, A.out⟩
          rw [HM.out, decide_eq_true HB.out, decide_eq_true (show B ≤ gen by have := of_eq_true h3; omega)]
          simp
      · have h2' : ((d : Int) < (W : Int)) = False := by simp; omega
        have HB := Lib.hid h2
        clear h2
        go_quiet (fail)
        go_wp2
        go_ret
        exact ⟨ret_bool (by rw [HM.out, decide_eq_false HB.out]; simp), HQ.out _⟩
    · have h3 : ((B : Int) ≤ (gen : Int)) = False := by simp; omega
      go_quiet (fail)
      go_wp2
      go_ret
      exact ⟨ret_bool (by rw [HM.out, decide_eq_false h1]; rfl), HQ.out _⟩
theorem mayRow_le (x : OutV) (W i : Nat) (l : List RankA) (j : Nat) : (mayRow x W i (l.take j)).length ≤ (mayRow x W i l).length := by
  have e : mayRow x W i l = mayRow x W i (l.take j) ++ mayRow x W i (l.drop j) := by
    unfold mayRow
    rw [← List.map_append, ← List.filter_append, List.take_append_drop]
  rw [e, List.length_append]
  omega
theorem mayOwn_le (x : OutV) (W : Nat) (own : List (List RankA)) (j : Nat) : (mayOwn x W (own.take j)).length ≤ (mayOwn x W own).length := by
  have e : own.zipIdx = (own.take j).zipIdx ++ (own.drop j).zipIdx (own.take j).length := by
    have := List.zipIdx_append (xs := own.take j) (ys := own.drop j) (k := 0)
    rw [List.take_append_drop, Nat.zero_add] at this
    exact this
  have e2 : mayOwn x W own = mayOwn x W (own.take j) ++ (((own.drop j).zipIdx (own.take j).length).map fun p => mayRow x W p.2 p.1).flatten := by
    unfold mayOwn
    rw [e, List.map_append, List.flatten_append]
  rw [e2, List.length_append]
  omega

set_option maxHeartbeats 4000000 in
theorem omay_any (h : OutAt w0 w o n x) (W : Nat) (hW : W ≤ 16) (v : Value) (own : List (List RankA)) (hr : Rss w v own) (hol : own.length ≤ 4) (hl : (mayOwn x W own).length ≤ 1048576) :
    Calls Try.prog 42 #[.pointer (some ⟨o, 0, none⟩), .int .i64 W, v] w fun e w' => ∃ v', e = .returned v' ∧ OwnP w' v' (mayOwn x W own) ∧ Grows w w' := by
  obtain ⟨va, vc, rfl⟩ := hr.1
  have HR := Lib.hid hr
  have HO := Lib.hid h
  have HL := Lib.hid hl
  clear hr h hl
  obtain ⟨w1, hw1⟩ : ∃ w1, w.alloc (.cells #[.pointer (some ⟨o, 0, none⟩)] 23) = w1 := ⟨_, rfl⟩
  obtain ⟨w2, hw2⟩ : ∃ w2, w1.alloc (.cells #[.int .i64 W] 3) = w2 := ⟨_, rfl⟩
  have n1 := heap_alloc_new w (.cells #[.pointer (some ⟨o, 0, none⟩)] 23)
  have n2 := heap_alloc_new w1 (.cells #[.int .i64 W] 3)
  rw [hw1] at n1
  rw [hw2] at n2
  have g1 : Grows w w1 := hw1 ▸ (Ext.refl _ _).alloc _
  have g2 : Grows w1 w2 := hw2 ▸ (Ext.refl _ _).alloc _
  have x3 : w2.cell? ⟨w.heap.size, 0, none⟩ = some (.pointer (some ⟨o, 0, none⟩)) := keepc g2 (by rw [cell_of_heap n1]; rfl)
  have x4 : w2.cell? ⟨w1.heap.size, 0, none⟩ = some (.int .i64 W) := by rw [cell_of_heap n2]; rfl
  have HX := Lib.hid (And.intro x3 (And.intro x4 (And.intro (g1.trans g2) (And.intro n1 n2))))
  clear x3 x4 g1 g2 n1 n2
  go_enter Try.func42, Try.ntmps42
  go_upto_region 2 with fail
  clear hw1 hw2
  generalize w.heap.size = b3 at HX ⊢
  generalize w1.heap.size = b4 at HX ⊢
  go_wp2
  go_loopg [7, 17] own.length (fun k vo c wr => ∃ j : Nat, j ≤ own.length ∧ k = own.length - j ∧ c = .int .i64 (j : Nat) ∧ OwnP wr vo (mayOwn x W (own.take j)) ∧ Grows w2 wr ∧ ∀ b, vo.ownBlock = some b → w2.heap.size ≤ b)
  case atStart => exact ⟨0, by omega, by omega, rfl, OwnS.nil _ _ _, Ext.refl _ _, fun k hk => by simp [Value.ownBlock] at hk⟩
  case round =>
    obtain ⟨j, hj, hk, rfl, ho, hg, hf⟩ := hrel
    obtain ⟨wo, hwo⟩ : ∃ wo, wo = wr := ⟨_, rfl⟩
    subst hwo
    obtain ⟨vo, hvo⟩ : ∃ vo, vo = u7 := ⟨_, rfl⟩
    subst hvo
    have HK := Lib.hid (And.intro hk hj)
    have HI := Lib.hid (And.intro ho (And.intro hg hf))
    have x3 := keepc hg HX.out.1
    have x4 := keepc hg HX.out.2.1
    clear hk ho hf hj
    by_cases hlt : j < own.length
    · have j0 : (0 : Int) ≤ (j : Int) := by omega
      have j1 : (j : Int) < (own.length : Int) := by omega
      obtain ⟨g, off, cap, u, e, hgl, hcell, hru⟩ := HR.out.2 j hlt
      replace hcell := keepc (HX.out.2.2.1.trans hg) hcell
      injection e with e1 e2 e3
      subst e1 e3
      clear e2 hg hgl
      obtain ⟨row, hrow⟩ : ∃ row, own[j] = row := ⟨_, rfl⟩
      rw [hrow] at hru
      obtain ⟨ua, uc, rfl⟩ := hru.form
      obtain ⟨⟨B, K⟩, hkn⟩ : ∃ p, x.known j = p := ⟨_, rfl⟩
      have gj : Grows wo (wo.alloc (.cells #[.int .i64 j] 3)) := (Ext.refl _ _).alloc _
      have HN := Lib.hid (out_known (HO.out.more ((HX.out.2.2.1.trans HI.out.2.1).trans gj)) j B K hkn)
      have y3 := keepc gj x3
      have HW := Lib.hid (And.intro hrow (And.intro hkn hru))
      clear hrow hkn hru gj
      go_wp2_with fail
      refine HN.out.mono ?_
      rintro e w' ⟨rfl, rfl⟩
      clear HN
      go_upto_region 7 with fail
      obtain ⟨w3, hw3⟩ : ∃ w3, ((wo.alloc (.cells #[.int .i64 j] 3)).alloc (.cells #[.int .u64 B] 27)).alloc (.cells #[.bool K] 4) = w3 := ⟨_, rfl⟩
      rw [hw3]
      have g3 : Grows wo w3 := hw3 ▸ (((Ext.refl (fun _ => False) wo).alloc _).alloc _).alloc _
      have f8 : w3.cell? ⟨wo.heap.size, 0, none⟩ = some (.int .i64 j) := hw3 ▸ keepc (((Ext.refl (fun _ => False) _).alloc _).alloc _) (new_cell wo _ _)
      have f10 : w3.cell? ⟨wo.heap.size + 1, 0, none⟩ = some (.int .u64 B) := hw3 ▸ keepc ((Ext.refl (fun _ => False) _).alloc _) (alloc_size1 wo (.cells #[.int .i64 j] 3) ▸ new_cell (wo.alloc (.cells #[.int .i64 j] 3)) (.int .u64 B) 27)
      have f11 : w3.cell? ⟨wo.heap.size + 1 + 1, 0, none⟩ = some (.bool K) := hw3 ▸ (alloc_size1 wo (.cells #[.int .i64 j] 3) ▸ alloc_size1 (wo.alloc (.cells #[.int .i64 j] 3)) (.cells #[.int .u64 B] 27) ▸ new_cell _ (.bool K) 4)
      clear hw3 y3 x3 x4 hcell
      obtain ⟨b8, hb8⟩ : ∃ b8, wo.heap.size = b8 := ⟨_, rfl⟩
      rw [hb8] at f8 f10 f11 ⊢
      have H8 := Lib.hid (And.intro hb8 (And.intro g3 (And.intro f8 (And.intro f10 f11))))
      clear hb8 g3 f8 f10 f11
      go_wp2
      go_loopg [7, 31] row.length (fun k vi c wr => ∃ m : Nat, m ≤ row.length ∧ k = row.length - m ∧ c = .int .i64 (m : Nat) ∧ OwnP wr vi (mayOwn x W (own.take j) ++ mayRow x W j (row.take m)) ∧ Grows w2 wr ∧ (∀ b, vi.ownBlock = some b → w2.heap.size ≤ b ∧ b ≠ b8 ∧ b ≠ b8 + 1 ∧ b ≠ b8 + 1 + 1) ∧ wr.cell? ⟨b8, 0, none⟩ = some (.int .i64 j) ∧ wr.cell? ⟨b8 + 1, 0, none⟩ = some (.int .u64 B) ∧ wr.cell? ⟨b8 + 1 + 1, 0, none⟩ = some (.bool K))
      case atStart =>
        refine ⟨0, by omega, by omega, rfl, ?_, HI.out.2.1.trans H8.out.2.1, fun b hb => ⟨HI.out.2.2 b hb, ?_⟩, H8.out.2.2⟩
        · have e : mayRow x W j (row.take 0) = [] := by simp [mayRow]
          rw [e, List.append_nil]
          exact HI.out.1.grows H8.out.2.1
        · have h1 := OwnS.lt HI.out.1 b hb
          have h2 := H8.out.1
          omega
      case round =>
        obtain ⟨m, hm, hk, rfl, ho, hg, hf, f8, f10, f11⟩ := hrel
        obtain ⟨wc, hwc⟩ : ∃ wc, wc = wr := ⟨_, rfl⟩
        subst hwc
        obtain ⟨vi, hvi⟩ : ∃ vi, vi = u7 := ⟨_, rfl⟩
        subst hvi
        have HK2 := Lib.hid (And.intro hk hm)
        by_cases hlt2 : m < row.length
        · have m0 : (0 : Int) ≤ (m : Int) := by omega
          have m1 : (m : Int) < (row.length : Int) := by omega
          have hbd : row.length ≤ 8796093022208 := by have := HW.out.2.2.2; omega
          obtain ⟨gr, offr, capr, e, hgr, c0, c1, hok⟩ := HW.out.2.2.at m hlt2
          injection e with e1 e2 e3
          subst e1 e3
          clear e2
          obtain ⟨⟨gen, rank⟩, hr2⟩ : ∃ r, row[m] = r := ⟨_, rfl⟩
          rw [hr2] at c0 c1 hok
          replace c0 := keepc (HX.out.2.2.1.trans hg) c0
          replace c1 := keepc (HX.out.2.2.1.trans hg) c1
          simp only at c0 c1
          have gn : Grows wc (wc.alloc (.cells #[.int .u64 gen, .int .i64 rank] 62)) := (Ext.refl _ _).alloc _
          have HC := Lib.hid (may1_any (HO.out.more ((HX.out.2.2.1.trans hg).trans gn)) gen hok.1 rank W j hW B K HW.out.2.1 _ _ _ _ _ (keepc gn f11) (keepc gn f10) (keepc gn (keepc hg HX.out.2.1)) (keepc gn (keepc hg HX.out.1)) (keepc gn f8))
          have HI2 := Lib.hid (And.intro ho (And.intro hg (And.intro hf (And.intro f8 (And.intro f10 (And.intro f11 (And.intro gn hr2)))))))
          clear hk ho hf hm hok hgr gn hg f8 f10 f11 j0 j1
          go_wp2_with fail
          refine HC.out.mono ?_
          rintro e w' ⟨rfl, he⟩
          have gw := HI2.out.2.1.trans (HI2.out.2.2.2.2.2.2.1.trans he)
          obtain ⟨bm, hbm⟩ : ∃ bm, mayPl x W j ⟨gen, rank⟩ = bm := ⟨_, rfl⟩
          rw [hbm]
          have y8 := keepc (HI2.out.2.2.2.2.2.2.1.trans he) HI2.out.2.2.2.1
          have y10 := keepc (HI2.out.2.2.2.2.2.2.1.trans he) HI2.out.2.2.2.2.1
          have y11 := keepc (HI2.out.2.2.2.2.2.2.1.trans he) HI2.out.2.2.2.2.2.1
          have o1 := HI2.out.1.grows (HI2.out.2.2.2.2.2.2.1.trans he)
          have z0 : w'.cell? ⟨wc.heap.size, 0, none⟩ = some (.int .u64 gen) := keepc he (by rw [cell_of_heap (heap_alloc_new wc _)]; rfl)
          have hmr := mayRow_succ x W j row m hlt2
          rw [HI2.out.2.2.2.2.2.2.2, hbm] at hmr
          clear hbm c0 c1 HC
          cases bm with
          | false =>
            rw [if_neg (by simp), List.append_nil] at hmr
            rw [← hmr] at o1
            have A := Lib.hid (And.intro o1 (And.intro gw (And.intro HI2.out.2.2.1 (And.intro y8 (And.intro y10 y11)))))
            clear o1 gw y8 y10 y11 he z0 hmr HI2
            go_wp2
            go_roundg (row.length - (m + 1))
            case measure => have := HK2.out; omega
            case rel => exact ⟨m + 1, by omega, rfl, by go_num, A.out⟩
          | true =>
            rw [if_pos rfl] at hmr
            have hle1 := mayRow_le x W j row (m + 1)
            have hle2 := mayOwn_le x W own (j + 1)
            rw [mayOwn_succ x W own j hlt, HW.out.1, List.length_append] at hle2
            rw [hmr, List.length_append, List.length_singleton] at hle1
            have hle3 := HL.out
            obtain ⟨ls, hls⟩ : ∃ ls, mayOwn x W (own.take j) ++ mayRow x W j (row.take m) = ls := ⟨_, rfl⟩
            have hll : ls.length + 1 ≤ 1048576 := by rw [← hls, List.length_append]; omega
            rw [hls] at o1
            have HM := Lib.hid (And.intro hmr hls)
            clear hmr hls hle1 hle2 hle3
            have own5 := OwnS.grows o1 ((Ext.refl (fun _ => False) w').alloc (.cells #[.int .i64 j, .int .u64 gen] 31))
            have HB := Lib.hid (And.intro o1 (And.intro gw (And.intro y10 y11)))
            clear o1 gw y10 y11
            go_wp2_with (at_builtin; refine wpList_append_ownS rfl (.tmp 38) (.tmp 43) 63 63 rfl 31 (.agg #[.int .i64 0, .int .u64 0]) 2 16 Try.underlying63 infoPl rfl _ _ rfl rfl ls.length (plcells ls) own5 1 (plcells [⟨j, gen⟩]) (src_pl ⟨j, gen⟩ (heap_alloc_new w' _)) (by unfold maxLen; omega) (by omega) ?_)
            intro v' w4 hown4 hgr4 hblk4
            have g5 : Grows w' (w'.alloc (.cells #[.int .i64 j, .int .u64 gen] 31)) := (Ext.refl _ _).alloc _
            have e4 : Ext (fun k => vi.ownBlock = some k) (w'.alloc (.cells #[.int .i64 j, .int .u64 gen] 31)) w4 := Ext.of_grown hgr4 (fun k hk => hk)
            have g4 : Grows w2 w4 := ((HB.out.2.1.trans g5).lift.trans e4).mono (fun k hk hh => by have := (HI2.out.2.2.1 k hh).1; omega)
            have hk5 : ∀ b v, w'.cell? ⟨b, 0, none⟩ = some v → (∀ k, vi.ownBlock = some k → k ≠ b) → w4.cell? ⟨b, 0, none⟩ = some v := fun b v hc hn => by
              have h1 := keepc g5 hc
              exact (e4.cell (cell_lt h1) (fun h => hn b h rfl)).trans h1
            have k8 := hk5 _ _ y8 (fun k hk => (HI2.out.2.2.1 k hk).2.1)
            have k10 := hk5 _ _ HB.out.2.2.1 (fun k hk => (HI2.out.2.2.1 k hk).2.2.1)
            have k11 := hk5 _ _ HB.out.2.2.2 (fun k hk => (HI2.out.2.2.1 k hk).2.2.2)
            have b4' : ∀ b, v'.ownBlock = some b → w2.heap.size ≤ b ∧ b ≠ b8 ∧ b ≠ b8 + 1 ∧ b ≠ b8 + 1 + 1 := fun b hb => by
              rcases hblk4 with h | h
              · exact HI2.out.2.2.1 b (h ▸ hb)
              · rw [h] at hb
                simp only [Option.some.injEq] at hb
                have h1 := cell_lt y8
                have h2 := cell_lt HB.out.2.2.1
                have h3 := cell_lt HB.out.2.2.2
                have h4 := HB.out.2.1.size
                omega
            have o4 : OwnP w4 v' (mayOwn x W (own.take j) ++ mayRow x W j (row.take (m + 1))) := by
              unfold OwnP
              rw [HM.out.1, ← List.append_assoc, HM.out.2, plcells_append, List.length_append]
              exact hown4
            have A := Lib.hid (And.intro o4 (And.intro g4 (And.intro b4' (And.intro k8 (And.intro k10 k11)))))
            clear o4 g4 b4' k8 k10 k11 hk5 e4 g5 hown4 hgr4 hblk4 own5 y8 z0
            go_wp2
            go_roundg (row.length - (m + 1))
            case measure => have := HK2.out; omega
            case rel => exact ⟨m + 1, by omega, rfl, by go_num, A.out⟩
        · have j1 : ¬ (m : Int) < (row.length : Int) := by omega
          have hh : OwnP wc vi (mayOwn x W (own.take (j + 1))) := by
            rw [mayOwn_succ x W own j hlt, HW.out.1, ← List.take_of_length_le (i := m) (l := row) (by omega)]
            exact ho
          have HF := Lib.hid (And.intro hh (And.intro hg fun b hb => (hf b hb).1))
          have HK3 := Lib.hid hlt
          clear hh hg hf ho f8 f10 f11
          go_wp2
          go_roundg (own.length - (j + 1))
          case measure => have := HK.out; have := HK3.out; omega
          case rel => exact ⟨j + 1, by have := HK3.out; omega, rfl, by go_num, HF.out⟩
    · have j1 : ¬ (j : Int) < (own.length : Int) := by omega
      have e : own.take j = own := List.take_of_length_le (by omega)
      have HE := Lib.hid e
      clear e
      go_wp2
      go_ret
      exact ⟨_, rfl, HE.out ▸ HI.out.1, HX.out.2.2.1.trans HI.out.2.1⟩
end
end Go.Proofs.Ytekdggdnkmkldaa
