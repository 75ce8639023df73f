/- sched: Clone, IndexFunc, Round. -/
import Derived.Test.YtlejdhgchanilaaSchedE
namespace Go.Proofs.Ytlejdhgchanilaa
set_option linter.unusedVariables false
set_option linter.unusedSimpArgs false
open Go.Shelf Go.RowKit Go.Lib Go.Sort

theorem pclone_any (v : Value) (l : List PlaceV) (w : World) (h : OwnP w v l) (hl : l.length ≤ 2097152) :
    Calls Try.prog 17 #[v] w fun e w' => ∃ v', e = .returned v' ∧ OwnP w' v' l ∧ Grows w w' ∧ ∀ k, v'.ownBlock = some k → w.heap.size ≤ k := by
  have h' := h
  rcases h'.2 with ⟨rfl, h0⟩ | ⟨g, off, cap, cur, rfl, hg, h1, h2, h3, h4⟩
  · obtain rfl := List.eq_nil_of_length_eq_zero h0
    have hcon := AnyE.slices_Clone_nil clonePl 0 0 w
    change Calls Try.prog 17 _ _ _ at hcon
    refine hcon.mono ?_
    rintro e w' ⟨rfl, rfl⟩
    exact ⟨_, rfl, h, Ext.refl _ _, fun k hk => by simp [Value.ownBlock] at hk⟩
  · obtain ⟨i, hi, hz0, hz1, hz2⟩ := info_parts infoPl
    have hcon := AnyE.slices_Clone clonePl i _ 2 16 hi hz0 hz1 hz2 rfl (by omega) Try.sizeOf28 g off l.length cap (plcells l) w (plcells_length l) (by unfold maxLen; omega) (by omega)
      (fun j u hj => by
        have hjl := (List.getElem?_eq_some_iff.1 hj).1
        rw [plcells_length] at hjl
        rw [cell_of_heap hg, h4 j hjl, hj]) (plcells_one l)
    change Calls Try.prog 17 _ _ _ at hcon
    refine hcon.mono ?_
    rintro e w' ⟨v', rfl, ho, _, hb⟩
    refine ⟨v', rfl, ?_, Ext.of_below hb, fun k hk => ?_⟩
    · refine ⟨plcells_length l, ?_⟩
      rcases ho.2 with h0 | ⟨g', cap', cur', rfl, _, hg', k1, k2, k3, k4⟩
      · exact .inl h0
      · refine .inr ⟨g', 0, cap', cur', rfl, hg', k1, k2, by omega, fun i hi => ?_⟩
        rw [← k4, List.getElem?_take, if_pos hi, Array.getElem?_toList, Nat.zero_add]
    · rcases ho.2 with ⟨rfl, _⟩ | ⟨g', cap', cur', rfl, hg', _⟩
      · simp [Value.ownBlock] at hk
      · simp only [Value.ownBlock, Option.some.injEq] at hk
        omega

theorem idx_app (p : PlaceV → Bool) (d : PlaceV) : ∀ (B A : List PlaceV) (i : Nat), (∀ x ∈ B, p x = false) → idxByFrom (fun _ y => p y) d (B ++ A) i = idxByFrom (fun _ y => p y) d A (i + B.length)
  | [], A, i, _ => rfl
  | b :: B, A, i, h => by
    rw [List.cons_append, idxByFrom, if_neg (by simp [h b (by simp)]), idx_app p d B A (i + 1) (fun x hx => h x (by simp [hx]))]
    congr 1
    simp; omega
/-- Where the first one behind last stands. -/
theorem idx_round {R : List PlaceV} (hR : Sorted R) (last : PlaceV) : (R.filter (fun x => decide (ltP last x)) = [] ∧ idxBy (fun _ y => decide (ltP last y)) R default = -1) ∨
    (R.filter (fun x => decide (ltP last x)) ≠ [] ∧ idxBy (fun _ y => decide (ltP last y)) R default = ((R.filter (fun x => !decide (ltP last x))).length : Nat)) := by
  have e := sorted_split R hR last
  have hB : ∀ x ∈ R.filter (fun x => !decide (ltP last x)), decide (ltP last x) = false := fun x hx => by simpa using (List.mem_filter.1 hx).2
  have hA : ∀ x ∈ R.filter (fun x => decide (ltP last x)), decide (ltP last x) = true := fun x hx => (List.mem_filter.1 hx).2
  generalize R.filter (fun x => !decide (ltP last x)) = B at *
  generalize R.filter (fun x => decide (ltP last x)) = A at *
  subst e
  unfold idxBy
  rw [idx_app (fun y => decide (ltP last y)) default B A 0 hB]
  cases A with
  | nil => exact .inl ⟨rfl, rfl⟩
  | cons a r =>
    refine .inr ⟨by simp, ?_⟩
    rw [idxByFrom, if_pos (hA a (by simp))]
    simp

set_option maxHeartbeats 4000000 in
theorem behind_pred (last : PlaceV) (B : Nat) (w : World) (hB : B < w.heap.size) (c0 : w.cell? ⟨B, 0, none⟩ = some (.int .i64 last.flow)) (c1 : w.cell? ⟨B, 1, none⟩ = some (.int .u64 last.gen)) :
    PredBelow Try.prog 20 #[.pointer (some ⟨B, 0, none⟩)] (fun x => .agg (encPl x).toArray) (fun x => decide (ltP last x)) w := fun W x hb => by
  have d0 : W.cell? ⟨B, 0, none⟩ = some (.int .i64 last.flow) := (hb.cell (p := ⟨B, 0, none⟩) hB).trans c0
  have d1 : W.cell? ⟨B, 1, none⟩ = some (.int .u64 last.gen) := (hb.cell (p := ⟨B, 1, none⟩) hB).trans c1
  have hBW : B < W.heap.size := Nat.lt_of_lt_of_le hB hb.size
  have hg : Grows W (W.alloc (.cells #[.int .i64 x.flow, .int .u64 x.gen] 28)) := (Ext.refl _ _).alloc _
  have e0 := (hg.cell (p := ⟨B, 0, none⟩) hBW (fun h => h)).trans d0
  have e1 := (hg.cell (p := ⟨B, 1, none⟩) hBW (fun h => h)).trans d1
  have q0 := new20 W (.int .i64 x.flow) (.int .u64 x.gen) 28
  have q1 := new21 W (.int .i64 x.flow) (.int .u64 x.gen) 28
  obtain ⟨c, hc⟩ : ∃ c, cmpP x last = c := ⟨_, rfl⟩
  have hcmp : ∀ W', Calls Try.prog 13 #[.agg #[.int .i64 x.flow, .int .u64 x.gen], .agg #[.int .i64 last.flow, .int .u64 last.gen]] W' fun e w' => e = .returned (.int .i64 c) ∧ ∃ q os, w' = grow (W'.drewN q) os := fun W' => hc ▸ compare_any x last W'
  have hpc : (decide ((0 : Int) < c)) = decide (ltP last x) := by rw [← hc]; simp only [cmpP_gt]
  have H := Lib.hid (And.intro hcmp (And.intro hpc (And.intro hg hb)))
  clear hcmp hpc hg hb d0 d1 hc
  show Calls Try.prog 20 #[.agg #[.int .i64 x.flow, .int .u64 x.gen], .pointer (some ⟨B, 0, none⟩)] W _
  go_enter Try.func20, Try.ntmps20
  go_wp2_with fail
  generalize W.alloc (.cells #[.int .i64 x.flow, .int .u64 x.gen] 28) = W2 at *
  refine (H.out.1 _).mono ?_
  rintro e w' ⟨rfl, q, os, rfl⟩
  go_wp2
  go_ret
  refine ⟨ret_bool H.out.2.1, ?_⟩
  have g2 : Grows W (grow (W2.drewN q) os) := H.out.2.2.1.trans (grow_grows W2 q os)
  exact H.out.2.2.2.trans (Ext.below g2 H.out.2.2.2.size (fun _ h => h.elim))


theorem index_any (v : Value) (R : List PlaceV) (last : PlaceV) (B : Nat) (w : World) (h : OwnP w v R) (hl : R.length ≤ 2097152) (hB : B < w.heap.size) (c0 : w.cell? ⟨B, 0, none⟩ = some (.int .i64 last.flow)) (c1 : w.cell? ⟨B, 1, none⟩ = some (.int .u64 last.gen)) :
    Calls Try.prog 21 #[v, .func (.func 20) #[] #[.pointer (some ⟨B, 0, none⟩)]] w fun e w' => e = .returned (.int .i64 (idxBy (fun _ y => decide (ltP last y)) R default)) ∧ Grows w w' := by
  have h' := h
  rcases h'.2 with ⟨rfl, h0⟩ | ⟨g, off, cap, cur, rfl, hg, h1, h2, h3, h4⟩
  · obtain rfl := List.eq_nil_of_length_eq_zero h0
    clear h' h
    go_enter Try.func21, Try.ntmps21
    go_wp2
    refine wp_loop_rounds 1 ?_
    rw [rounds_succ]
    go_wp2
    go_ret
    exact ⟨rfl, Ext.refl _ _⟩
  · have eg : ∀ args w, (callFunc 20 args).run Try.prog w = .ok (.enter 20 args) w := enters_of Try.func20 (by kernel_rfl) rfl
    have hcon := AnyQ.slices_IndexFunc indexPl 2 Try.isAgg28 Try.sizeOf28 encPl (fun _ => rfl) (fun x => decide (ltP last x)) 20 #[.pointer (some ⟨B, 0, none⟩)] eg g off R.length cap R w (behind_pred last B w hB c0 c1) (Nat.le_refl _) (by omega) (heap_lt hg) (fun j hj i u hi => by
      have e1 : R[j]! = R[j] := getElem!_pos R j hj
      rw [e1] at hi
      obtain ⟨p1, p2⟩ := plcells_get R j hj
      match i, hi with
      | 0, hi =>
        simp [encPl] at hi
        rw [Nat.add_zero, cell_of_heap hg, h4 _ (by omega), p1, hi]
      | 1, hi =>
        simp [encPl] at hi
        rw [Nat.add_assoc, cell_of_heap hg, h4 _ (by omega), p2, hi]
      | i + 2, hi => simp [encPl] at hi)
    change Calls Try.prog 21 _ _ _ at hcon
    rw [List.take_of_length_le (Nat.le_refl _)] at hcon
    refine hcon.mono ?_
    rintro e w' ⟨rfl, hb⟩
    exact ⟨rfl, Ext.of_below hb⟩

set_option maxHeartbeats 16000000 in
theorem round_any (v : Value) (l : List PlaceV) (last : PlaceV) (begun : Bool) (w : World) (h : OwnP w v l) (hl : l.length ≤ 1048576) :
    Calls Try.prog 10 #[v, .agg #[.int .i64 last.flow, .int .u64 last.gen], .bool begun] w fun e w' => ∃ v' S, e = .returned v' ∧ Sorted S ∧ (∀ x, x ∈ S ↔ x ∈ l) ∧ OwnP w' v' (roundP S last begun) ∧ Grows w w' ∧ ∀ k, v'.ownBlock = some k → w.heap.size ≤ k := by
  have c0 := new20 w (.int .i64 last.flow) (.int .u64 last.gen) 28
  have c1 := new21 w (.int .i64 last.flow) (.int .u64 last.gen) 28
  have hg : Grows w (w.alloc (.cells #[.int .i64 last.flow, .int .u64 last.gen] 28)) := (Ext.refl _ w).alloc _
  have hlt : w.heap.size < (w.alloc (.cells #[.int .i64 last.flow, .int .u64 last.gen] 28)).heap.size := by simp
  have H := Lib.hid (And.intro (h.grows hg) (And.intro hg (And.intro hlt (And.intro c0 c1))))
  clear h hg hlt c0 c1
  go_enter Try.func10, Try.ntmps10
  go_wp2_with fail
  generalize w.alloc (.cells #[.int .i64 last.flow, .int .u64 last.gen] 28) = w1 at H ⊢
  refine (pclone_any v l w1 H.out.1 (by omega)).mono ?_
  rintro e w2 ⟨v2, rfl, ho, hg, hf⟩
  have H2 := Lib.hid (And.intro ho (And.intro hg hf))
  clear ho hg hf
  go_wp2_with fail
  refine (sort_any v2 l w2 H2.out.1 (by omega)).mono ?_
  rintro e w3 ⟨rfl, d, hp, hw, ho, he⟩
  have H3 := Lib.hid (And.intro hp (And.intro hw (And.intro ho he)))
  have hdl : d.length = l.length := hp.length_eq
  clear hp hw ho he
  go_wp2_with fail
  refine (compact_any v2 d w3 H3.out.2.2.1 H3.out.2.1 (by omega)).mono ?_
  rintro e w4 ⟨v4, rfl, S, ho, hs, hm, he, hb⟩
  have hx4 : Ext (fun k => w1.heap.size ≤ k) w2 w4 := (H3.out.2.2.2.trans he).mono (fun k _ hk => H2.out.2.2 k hk)
  have hg4 : Grows w1 w4 := (H2.out.2.1.lift.trans hx4).mono (fun k hk hh => by omega)
  have hSl : S.length ≤ 1048576 := by
    have := nodup_short S d (sorted_nodup hs) (fun x hx => (hm x).1 hx)
    omega
  have q0 := (hg4.cell (p := ⟨w.heap.size, 0, none⟩) H.out.2.2.1 (fun h => h)).trans H.out.2.2.2.1
  have q1 := (hg4.cell (p := ⟨w.heap.size, 1, none⟩) H.out.2.2.1 (fun h => h)).trans H.out.2.2.2.2
  have hB : w.heap.size < w4.heap.size := Nat.lt_of_lt_of_le H.out.2.2.1 hg4.size
  have H4 := Lib.hid (And.intro ho (And.intro hs (And.intro (fun x => (hm x).trans H3.out.1.mem_iff : ∀ x, x ∈ S ↔ x ∈ l) (And.intro (H.out.2.1.trans hg4) (And.intro (fun k (hk : v4.ownBlock = some k) => Nat.le_trans H.out.2.1.size (H2.out.2.2 k (hb ▸ hk))) (And.intro hB (And.intro q0 q1)))))))
  clear ho hs hm he hb hx4 hg4 hB H3 H2 H q0 q1
  go_wp2_with fail
  refine (index_any v4 S last w.heap.size w4 H4.out.1 (by omega) H4.out.2.2.2.2.2.1 H4.out.2.2.2.2.2.2.1 H4.out.2.2.2.2.2.2.2).mono ?_
  rintro e w5 ⟨rfl, hg5⟩
  have H5 := Lib.hid (And.intro (H4.out.1.grows hg5) (H4.out.2.2.2.1.trans hg5))
  clear hg5
  have hidx := idx_round H4.out.2.1 last
  generalize idxBy (fun _ y => decide (ltP last y)) S default = at_ at hidx ⊢
  cases begun with
  | false =>
    go_wp2
    go_ret
    exact ⟨_, S, rfl, H4.out.2.1, H4.out.2.2.1, by unfold roundP; rw [if_neg (by simp)]; exact H5.out.1, H5.out.2, H4.out.2.2.2.2.1⟩
  | true =>
    rcases hidx with ⟨hA, rfl⟩ | ⟨hA, rfl⟩
    · go_wp2
      go_ret
      refine ⟨_, S, rfl, H4.out.2.1, H4.out.2.2.1, ?_, H5.out.2, H4.out.2.2.2.2.1⟩
      have e := sorted_split S H4.out.2.1 last
      unfold roundP
      rw [if_pos rfl, hA]
      rw [hA, List.append_nil] at e
      rw [List.nil_append, ← e]
      exact H5.out.1
    · obtain ⟨m, hm⟩ : ∃ m, (S.filter (fun x => !decide (ltP last x))).length = m := ⟨_, rfl⟩
      have hsp := sorted_split S H4.out.2.1 last
      have hlen : m + (S.filter (fun x => decide (ltP last x))).length = S.length := by
        have := congrArg List.length hsp
        rw [List.length_append, hm] at this
        exact this.symm
      have hAl : 0 < (S.filter (fun x => decide (ltP last x))).length := List.length_pos_iff.2 hA
      have hdrop : S.drop m = S.filter (fun x => decide (ltP last x)) := by
        have := congrArg (List.drop m) hsp
        rwa [List.drop_left' hm] at this
      have htake : S.take m = S.filter (fun x => !decide (ltP last x)) := by
        have := congrArg (List.take m) hsp
        rwa [List.take_left' hm] at this
      have hms : m < S.length := by omega
      have hrp : roundP S last true = S.drop m ++ S.take m := by
        unfold roundP
        rw [if_pos rfl, hdrop, htake]
      rw [hm]
      obtain ⟨g, off, cap, hv, _⟩ := H5.out.1.at m hms
      subst hv
      obtain ⟨hc1, hc2⟩ := H5.out.1.cap
      have HR := Lib.hid hrp
      clear hm hsp hlen hAl hdrop htake hrp hA
      have m0 : (0 : Int) ≤ (m : Int) := by omega
      have m1 : (m : Int) ≤ (S.length : Int) := by omega
      have m2 : (m : Int) ≤ (cap : Int) := by omega
      have m3 : ¬ cap = m := by omega
      have m4 : (m : Int) < (cap : Int) := by omega
      have m5 : (S.length : Int) ≤ (cap : Int) := by omega
      have hal : Grows w5 (w5.alloc (.cells #[.slice (some ⟨g, off + m * 2, none⟩) (S.length - m) (cap - m), .slice (some ⟨g, off, none⟩) m cap] 26)).drew := ((Ext.refl _ w5).alloc _).drew
      have o1 := (H5.out.1.drop m hms).grows hal
      have o2 := (H5.out.1.cut m (by omega)).grows hal
      have z1 := new20 w5 (.slice (some ⟨g, off + m * 2, none⟩) (S.length - m) (cap - m)) (.slice (some ⟨g, off, none⟩) m cap) 26
      have z2 := new21 w5 (.slice (some ⟨g, off + m * 2, none⟩) (S.length - m) (cap - m)) (.slice (some ⟨g, off, none⟩) m cap) 26
      have hlt : w5.heap.size < (w5.alloc (.cells #[.slice (some ⟨g, off + m * 2, none⟩) (S.length - m) (cap - m), .slice (some ⟨g, off, none⟩) m cap] 26)).drew.heap.size := by show _ < (w5.alloc _).heap.size; simp
      have HC := Lib.hid (concat_two w5.heap.size _ _ _ _ (w5.alloc (.cells #[.slice (some ⟨g, off + m * 2, none⟩) (S.length - m) (cap - m), .slice (some ⟨g, off, none⟩) m cap] 26)).drew o1 o2 z1 z2 hlt (by rw [List.length_drop, List.length_take]; omega) (by rw [List.length_drop, List.length_take]; omega))
      have HAL := Lib.hid (And.intro hal hlt)
      clear o1 o2 z1 z2 hal hlt
      go_wp2_with fail
      go_region_held3 (fun w' => True)
        (trivial)
        (first
          | (go_at_call 22; refine HC.out.mono ?_; rintro e w6 ⟨v6, rfl, ho6, hg6, hf6⟩))
      all_goals
        have H6 := Lib.hid (And.intro ho6 (And.intro hg6 hf6))
        clear ho6 hg6 hf6
        go_wp2
        go_ret
        refine ⟨_, S, rfl, H4.out.2.1, H4.out.2.2.1, HR.out ▸ H6.out.1, (H5.out.2.trans HAL.out.1).trans H6.out.2.1, fun k hk => ?_⟩
        have h1 := H6.out.2.2 k hk
        have h2 := H5.out.2.size
        have h3 := HAL.out.2
        omega

end Go.Proofs.Ytlejdhgchanilaa
