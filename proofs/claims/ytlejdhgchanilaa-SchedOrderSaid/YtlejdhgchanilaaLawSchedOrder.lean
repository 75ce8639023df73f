/- SchedOrder: Compare is an order; Round is all places, each once, turned; Next is its first one. -/
import Derived.Test.YtlejdhgchanilaaSchedArgs
import Derived.Test.YtlejdhgchanilaaSchedW
import Derived.Deep.RegionHeld3
import Derived.Deep.DeepCutAuto
namespace Go.Proofs.Ytlejdhgchanilaa
set_option linter.unusedVariables false
set_option linter.unusedSimpArgs false
open Go.ChangeShapes Go.WideShapes Go.ChangeAt Go.RowKit Go.Sort Go.Lib

/-- A statement at which the walk is to stand still. -/
def HeldO (p : Prop) : Prop := p
theorem held_o {n : Nat} {P : Program} {ops : Array Oper} {b : Bool} {d rest : Code} {Q : Exit → Act → World → Prop} {a : Act} {w : World} (h : HeldO ((Code.seq (Code.seq (Code.region n ops b) d) rest).wp P Q a w)) :
    (Code.seq (Code.seq (Code.region n ops b) d) rest).wp P Q a w := h
theorem inOrder_turned {S l : List PlaceV} (hS : InOrder S l) (k : Nat) : InOrder S (l.drop k ++ l) := ⟨hS.1, fun x => by
  rw [hS.2 x, List.mem_append]
  exact ⟨.inr, fun h => h.elim List.mem_of_mem_drop id⟩⟩
theorem cmpP_three (a b : PlaceV) : (cmpP a b = -1 ∧ cmpP b a = 1 ∧ ¬ a = b) ∨ (cmpP a b = 0 ∧ cmpP b a = 0 ∧ a = b) ∨ (cmpP a b = 1 ∧ cmpP b a = -1 ∧ ¬ a = b) := by
  have h := cmpP_anti b a
  by_cases e : a = b
  · have h0 := (cmpP_eq a b).2 e
    exact .inr (.inl ⟨h0, by omega, e⟩)
  · have h0 : ¬ cmpP a b = 0 := fun h => e ((cmpP_eq a b).1 h)
    have h1 : cmpP a b = -1 ∨ cmpP a b = 0 ∨ cmpP a b = 1 := by
      clear h h0 e
      unfold cmpP
      repeat' split
      all_goals omega
    rcases h1 with h1 | h1 | h1
    · exact .inl ⟨h1, by omega, e⟩
    · exact absurd h1 h0
    · exact .inr (.inr ⟨h1, by omega, e⟩)
theorem count_step (R : List PlaceV) (y : PlaceV) (i : Nat) (hi : i < R.length) : (R.take (i + 1)).count y = (R.take i).count y + if R[i] = y then 1 else 0 := by
  rw [List.take_succ_eq_append_getElem hi, List.count_append]
  congr 1
  simp [List.count_cons]
theorem mem_step (l : List PlaceV) (x : PlaceV) (j : Nat) (hj : j < l.length) : decide (x ∈ l.take (j + 1)) = (decide (x ∈ l.take j) || decide (l[j] = x)) := by
  rw [List.take_succ_eq_append_getElem hj, Bool.eq_iff_iff, Bool.or_eq_true, decide_eq_true_eq, decide_eq_true_eq, decide_eq_true_eq, List.mem_append, List.mem_singleton]
  exact or_congr Iff.rfl ⟨Eq.symm, Eq.symm⟩

set_option maxRecDepth 4000 in
set_option maxHeartbeats 64000000 in
theorem SchedOrder_walk (v0 : Value) (l0 : List PlaceV) (v1 : Value) (last : PlaceV) (at0 : Int) (w : World) (h0 : Places w v0 l0) (h1 : PlaceA v1 last) (h2 : (Lit.int .u8 at0).wf = true) :
    Calls Try.prog 5 #[v0, v1, .int .u8 at0] w fun e w' => e = .returned (.bool true) ∧ Below w.heap.size w w' := by
  unfold PlaceA at h1
  subst h1
  obtain ⟨p1, p2⟩ := wf_u8' h2
  clear h2
  obtain ⟨at1, rfl⟩ := Int.eq_ofNat_of_zero_le p1
  have P2 := Lib.hid p2
  clear p1 p2
  obtain ⟨va, vc, rfl, hcap⟩ := h0.form
  obtain ⟨n, hn⟩ : ∃ n, min l0.length 30 = n := ⟨_, rfl⟩
  have hl0 := h0.2
  have n0 : (0 : Int) ≤ (n : Int) := by omega
  have n1 : (n : Int) ≤ (vc : Int) := by omega
  have n30 : n ≤ 30 := by omega
  have hif : min (l0.length : Int) 30 = (n : Int) := by omega
  have hrow := h0.row n (by omega)
  obtain ⟨l, hl⟩ : ∃ l, l0.take n = l := ⟨_, rfl⟩
  have hll : l.length = n := by rw [← hl, List.length_take]; omega
  rw [hl] at hrow
  obtain ⟨S, hS⟩ := exists_sorted l
  obtain ⟨R, hR⟩ : ∃ R, roundP S last true = R := ⟨_, rfl⟩
  have hg : Grows w (w.alloc (.cells #[.int .i64 last.flow, .int .u64 last.gen] 25)) := (Ext.refl _ w).alloc _
  have k4 := heap_alloc_new w (.cells #[.int .i64 last.flow, .int .u64 last.gen] 25 (0, 0))
  have H := Lib.hid (And.intro hrow (And.intro hg (And.intro k4 (And.intro hR (And.intro (show InOrder S l from hS) hll)))))
  clear hrow hg k4 hR hS hl hll h0
  go_enter Try.func5, Try.ntmps5
  go_wp2_with fail
  clear hif hl0 hcap hn n1
  have h2 := H.out.2.1
  have k4 := H.out.2.2.1
  generalize w.alloc (.cells #[.int .i64 last.flow, .int .u64 last.gen] 25) = w1 at h2 k4 ⊢
  generalize hb4 : w.heap.size = b4 at k4 ⊢
  refine (ours_any _ l w1 (H.out.1.grows h2) (by have := H.out.2.2.2.2.2; omega)).mono ?_
  rintro e w2 ⟨mv, rfl, hown, hg2, _⟩
  have k4 := (hg2.block _ (heap_lt k4) (fun h => h)).trans k4
  have A := Lib.hid (And.intro hown (And.intro (h2.trans hg2) k4))
  have c0 := cell_of_heap k4 0
  have c1 := cell_of_heap k4 1
  simp at c0 c1
  clear h2 k4 hown hg2
  go_wp2_with fail
  clear c0 c1
  refine (round_S mv l S H.out.2.2.2.2.1 last true w2 A.out.1 (by have := H.out.2.2.2.2.2; omega)).mono ?_
  rintro e w3 ⟨rv, rfl, hr, hg3, _⟩
  rw [H.out.2.2.2.1] at hr
  have k4 := (hg3.block _ (heap_lt A.out.2.2) (fun h => h)).trans A.out.2.2
  have C := Lib.hid (And.intro (A.out.1.grows hg3) (And.intro (A.out.2.1.trans hg3) (And.intro k4 hr)))
  clear A k4 hg3 hr
  obtain ⟨k, hk⟩ : ∃ k, at1 % (n + 1) = k := ⟨_, rfl⟩
  have hkn : k ≤ n := by have := Nat.mod_lt at1 (show 0 < n + 1 by omega); omega
  have hmod : (wrap64 (at1 : Int)).tmod ((n : Int) + 1) = (k : Int) := by
    have h9 : wrap64 (at1 : Int) = (at1 : Int) := by have := P2.out; unfold wrap64; omega
    rw [h9, ← hk]; rfl
  clear hk
  have hll := H.out.2.2.2.2.2
  obtain ⟨ma, mc, rfl⟩ := C.out.1.row.1
  rw [hll] at C
  go_upto_region 5 with fail
  go_cut [10] (fun v w' => OwnP w' v (l.drop k ++ l) ∧ Grows w3 w')
  case first =>
    as_aux_lemma =>
      have hC := C.out.1
      rcases hC.2 with ⟨hv0, h0⟩ | ⟨g, off, cap, cur, hv0, hg, h1, h2, h3, h4⟩
      · injection hv0 with e1 e2 e3
        subst e1 e2 e3
        obtain rfl : k = 0 := by omega
        obtain rfl := List.eq_nil_of_length_eq_zero hll
        go_wp2
        go_meet
        case rel => exact ⟨hC, Ext.refl _ _⟩
      · injection hv0 with e1 e2 e3
        subst e1 e3
        clear e2
        have HC9 := Lib.hid (And.intro hC h1)
        have j0 : (0 : Int) ≤ (k : Int) := by omega
        have j1 : (k : Int) ≤ (n : Int) := by omega
        have j2 : (k : Int) ≤ (mc : Int) := by omega
        have j5 : (n : Int) ≤ (mc : Int) := by omega
        by_cases hck : mc = k
        · have hnk : k = n := by omega
          subst hnk
          subst hck
          have hd : l.drop mc = [] := List.drop_of_length_le (by omega)
          have hsrc : Src Try.prog 2 26 (.slice (some ⟨g, off, none⟩) 0 0) 0 (plcells (l.drop mc)) w3 := by
            rw [hd]
            exact Src.ofSlice w3 Try.underlying26 ⟨g, off, none⟩ 0 0 [] rfl (fun j u hj => by simp at hj) (by simp)
          clear hg h1 h2 h3 h4 hC hd
          go_wp2_with (at_builtin; refine wpList_append_ownS rfl (.const (.slice none 0 0)) (.tmp 39) 26 26 rfl 28 (.agg #[.int .i64 0, .int .u64 0]) 2 16 Try.underlying26 infoPl rfl _ _ rfl rfl 0 [] (OwnS.nil _ _ _) 0 (plcells (l.drop mc)) hsrc (by unfold maxLen; omega) (by omega) ?_)
          intro v1 w4 hown4 hgr4 hblk4
          have e4 : Grows w3 w4 := (Ext.of_grown (S := fun _ => False) hgr4 (fun k hk => by simp [Value.ownBlock] at hk))
          have hm4 := HC9.out.1.grows e4
          have HM4 := Lib.hid (And.intro e4 hm4)
          have hown4' : OwnS w4 28 2 v1 (l.drop mc).length (plcells (l.drop mc)) := by rw [show (l.drop mc).length = 0 by rw [List.length_drop]; omega]; simpa only [List.nil_append, Nat.zero_add] using hown4
          have hb4 : ∀ b, v1.ownBlock = some b → w3.heap.size ≤ b := fun b hb => by
            rcases hblk4 with h | h
            · rw [h] at hb; simp [Value.ownBlock] at hb
            · rw [h] at hb; simp only [Option.some.injEq] at hb; omega
          clear hown4 hgr4 hblk4 e4 hm4
          go_wp2_with (at_builtin; refine wpList_append_ownS rfl (.tmp 40) (.tmp 41) 26 26 rfl 28 (.agg #[.int .i64 0, .int .u64 0]) 2 16 Try.underlying26 infoPl rfl _ _ rfl rfl (l.drop mc).length (plcells (l.drop mc)) hown4' l.length (plcells l) (by have h9 := OwnP.src (l := l) HM4.out.2; exact h9) (by rw [List.length_drop]; unfold maxLen; omega) (by rw [List.length_drop]; omega) ?_)
          intro v2 w5 hown5 hgr5 hblk5
          have e5 : Ext (fun k => v1.ownBlock = some k) w4 w5 := Ext.of_grown hgr5 (fun k hk => hk)
          have g5 : Grows w3 w5 := (HM4.out.1.lift.trans e5).mono (fun k hk hh => by have := hb4 k hh; omega)
          have o5 : OwnP w5 v2 (l.drop mc ++ l) := by unfold OwnP; rw [plcells_append, show (l.drop mc ++ l).length = 0 + mc by rw [List.length_append, List.length_drop]; omega]; simpa only [Nat.zero_add] using hown5
          have HO5 := Lib.hid (And.intro o5 g5)
          clear hown5 hgr5 hblk5 e5 g5 o5 HM4 hown4' hb4
          go_wp2
          go_meet
          case rel => exact HO5.out
        · have m3 : ¬ mc = k := hck
          have m4 : (k : Int) < (mc : Int) := by omega
          have hsrc : Src Try.prog 2 26 (.slice (some ⟨g, off + k * 2, none⟩) (n - k) (mc - k)) (n - k) (plcells (l.drop k)) w3 := by
            have e : plcells l = plcells (l.take k) ++ plcells (l.drop k) := by rw [← plcells_append, List.take_append_drop]
            refine Src.ofSlice w3 Try.underlying26 ⟨g, off + k * 2, none⟩ (n - k) (mc - k) _ (by rw [plcells_length, List.length_drop, hll]) (fun j u hj => ?_) (plcells_one _)
            have hj2 := (List.getElem?_eq_some_iff.1 hj).1
            rw [plcells_length, List.length_drop, hll] at hj2
            rw [addr_add, cell_of_heap hg, Nat.add_assoc, h4 (k * 2 + j) (by omega), e, List.getElem?_append_right (by rw [plcells_length, List.length_take]; omega), plcells_length, List.length_take, hll, Nat.min_eq_left hkn, Nat.add_sub_cancel_left, hj]
          clear hg h1 h2 h3 h4 hC hck
          go_wp2_with (at_builtin; refine wpList_append_ownS rfl (.const (.slice none 0 0)) (.tmp 39) 26 26 rfl 28 (.agg #[.int .i64 0, .int .u64 0]) 2 16 Try.underlying26 infoPl rfl _ _ rfl rfl 0 [] (OwnS.nil _ _ _) (n - k) (plcells (l.drop k)) hsrc (by unfold maxLen; omega) (by omega) ?_)
          intro v1 w4 hown4 hgr4 hblk4
          have e4 : Grows w3 w4 := (Ext.of_grown (S := fun _ => False) hgr4 (fun k hk => by simp [Value.ownBlock] at hk))
          have hm4 := HC9.out.1.grows e4
          have HM4 := Lib.hid (And.intro e4 hm4)
          have hown4' : OwnS w4 28 2 v1 (l.drop k).length (plcells (l.drop k)) := by rw [show (l.drop k).length = (n - k) by rw [List.length_drop]; omega]; simpa only [List.nil_append, Nat.zero_add] using hown4
          have hb4 : ∀ b, v1.ownBlock = some b → w3.heap.size ≤ b := fun b hb => by
            rcases hblk4 with h | h
            · rw [h] at hb; simp [Value.ownBlock] at hb
            · rw [h] at hb; simp only [Option.some.injEq] at hb; omega
          clear hown4 hgr4 hblk4 e4 hm4
          go_wp2_with (at_builtin; refine wpList_append_ownS rfl (.tmp 40) (.tmp 41) 26 26 rfl 28 (.agg #[.int .i64 0, .int .u64 0]) 2 16 Try.underlying26 infoPl rfl _ _ rfl rfl (l.drop k).length (plcells (l.drop k)) hown4' l.length (plcells l) (by have h9 := OwnP.src (l := l) HM4.out.2; exact h9) (by rw [List.length_drop]; unfold maxLen; omega) (by rw [List.length_drop]; omega) ?_)
          intro v2 w5 hown5 hgr5 hblk5
          have e5 : Ext (fun k => v1.ownBlock = some k) w4 w5 := Ext.of_grown hgr5 (fun k hk => hk)
          have g5 : Grows w3 w5 := (HM4.out.1.lift.trans e5).mono (fun k hk hh => by have := hb4 k hh; omega)
          have o5 : OwnP w5 v2 (l.drop k ++ l) := by unfold OwnP; rw [plcells_append, show (l.drop k ++ l).length = (n - k) + n by rw [List.length_append, List.length_drop]; omega]; simpa only [Nat.zero_add] using hown5
          have HO5 := Lib.hid (And.intro o5 g5)
          clear hown5 hgr5 hblk5 e5 g5 o5 HM4 hown4' hb4
          go_wp2
          go_meet
          case rel => exact HO5.out
  case rest =>
  obtain ⟨hot, hgt⟩ := hcut
  have k4 := (hgt.block _ (heap_lt C.out.2.2.1) (fun h => h)).trans C.out.2.2.1
  have hT := inOrder_turned H.out.2.2.2.2.1 k
  have hTl : (l.drop k ++ l).length ≤ 1048576 := by rw [List.length_append, List.length_drop]; omega
  have D := Lib.hid (And.intro (C.out.1.grows hgt) (And.intro (C.out.2.1.trans hgt) (And.intro (C.out.2.2.2.grows hgt) (And.intro k4 (And.intro hot (And.intro hT hTl))))))
  have c0 := cell_of_heap k4 0
  have c1 := cell_of_heap k4 1
  simp at c0 c1
  clear hot hgt k4 hT hTl C hmod hkn P2
  go_wp2_with fail
  clear c0 c1
  refine (round_S _ _ S D.out.2.2.2.2.2.1 last true wc D.out.2.2.2.2.1 D.out.2.2.2.2.2.2).mono ?_
  rintro e w5 ⟨sv, rfl, hs, hg5, _⟩
  rw [H.out.2.2.2.1] at hs
  have k4 := (hg5.block _ (heap_lt D.out.2.2.2.1) (fun h => h)).trans D.out.2.2.2.1
  have E := Lib.hid (And.intro (D.out.1.grows hg5) (And.intro (D.out.2.1.trans hg5) (And.intro (D.out.2.2.1.grows hg5) (And.intro k4 (And.intro (D.out.2.2.2.2.1.grows hg5) (And.intro D.out.2.2.2.2.2 hs))))))
  have c0 := cell_of_heap k4 0
  have c1 := cell_of_heap k4 1
  simp at c0 c1
  clear hg5 k4 hs D
  go_wp2_with fail
  clear c0 c1
  obtain ⟨p, is, hN⟩ : ∃ (p : PlaceV) (is : Bool), nextV (R.head?) = .tuple #[.agg #[.int .i64 p.flow, .int .u64 p.gen], .bool is] ∧ ((R = [] ∧ is = false) ∨ (∃ r, R = p :: r) ∧ is = true) := by
    cases R with
    | nil => exact ⟨⟨0, 0⟩, false, rfl, .inl ⟨rfl, rfl⟩⟩
    | cons c r => exact ⟨c, true, rfl, .inr ⟨⟨r, rfl⟩, rfl⟩⟩
  refine (next_S _ _ S E.out.2.2.2.2.2.1.1 last true w5 E.out.2.2.2.2.1 E.out.2.2.2.2.2.1.2 (R.head?) (by rw [H.out.2.2.2.1])).mono ?_
  rintro e w6 ⟨rfl, hg6⟩
  rw [hN.1]
  have ga : Grows w6 (w6.alloc (.cells #[.int .i64 p.flow, .int .u64 p.gen] 28)) := (Ext.refl _ _).alloc _
  have kp : (w6.alloc (.cells #[.int .i64 p.flow, .int .u64 p.gen] 28)).heap[w6.heap.size]? = some (.cells #[.int .i64 p.flow, .int .u64 p.gen] 28 (0, 0)) := heap_alloc_new w6 _
  have k4 := ((hg6.trans ga).block _ (heap_lt E.out.2.2.2.1) (fun h => h)).trans E.out.2.2.2.1
  have F := Lib.hid (And.intro (E.out.1.grows (hg6.trans ga)) (And.intro (E.out.2.1.trans (hg6.trans ga)) (And.intro (E.out.2.2.1.grows (hg6.trans ga)) (And.intro k4 (And.intro (E.out.2.2.2.2.2.2.grows (hg6.trans ga)) kp)))))
  have HN := Lib.hid hN.2
  clear E k4 kp hg6 ga hN
  go_upto_region 8 with fail
  generalize w6.alloc (.cells #[.int .i64 p.flow, .int .u64 p.gen] 28) = w7 at F ⊢
  generalize w6.heap.size = bp at F ⊢
  obtain ⟨ra, rc, rfl⟩ := F.out.2.2.1.row.1
  obtain ⟨sa, sc, rfl⟩ := F.out.2.2.2.2.1.row.1
  have hmem : ∀ x, x ∈ R ↔ x ∈ l := fun x => by rw [← H.out.2.2.2.1]; exact (mem_roundP S last true x).trans (H.out.2.2.2.2.1.2 x)
  have hnd : R.Nodup := H.out.2.2.2.1 ▸ roundP_nodup H.out.2.2.2.2.1.1 last true
  obtain ⟨rl, hrl⟩ : ∃ rl, R.length = rl := ⟨_, rfl⟩
  have hRl : rl ≤ 30 := by have := nodup_short R l hnd (fun x hx => (hmem x).1 hx); omega
  rw [hrl] at F ⊢
  have HM := Lib.hid (And.intro hmem hnd)
  clear hmem hnd
  go_cut [73] (fun v w' => v = .bool false ∧ Grows w7 w')
  case first =>
    as_aux_lemma =>
      rcases HN.out with ⟨rfl, rfl⟩ | ⟨⟨r, rfl⟩, rfl⟩
      · obtain rfl : rl = 0 := by simpa using hrl.symm
        have hn0 : n = 0 := by
          cases l with
          | nil => simpa using hll.symm
          | cons a t => have := (HM.out.1 a).2 (by simp); simp at this
        subst hn0
        go_quiet (fail)
        go_wp2
        go_meet
        case rel => exact ⟨rfl, ⟨rfl, rfl, rfl, Nat.le_refl _, fun _ _ _ => rfl⟩⟩
      · have hn0 : (0 : Int) < (n : Int) := by
          cases l with
          | nil => have := (HM.out.1 p).1 (by simp); simp at this
          | cons a t => simp at hll; omega
        obtain ⟨g, off, cap, e, _, ⟨x0, x1⟩, _⟩ := OwnP.at F.out.2.2.1 0 (by simp)
        injection e with e1 e2 e3
        subst e1 e3
        clear e2
        simp only [List.getElem_cons_zero, Nat.zero_mul, Nat.add_zero] at x0 x1
        have p0 := cell_of_heap F.out.2.2.2.2.2 0
        have p1 := cell_of_heap F.out.2.2.2.2.2 1
        simp at p0 p1
        have hne := neS p p
        rw [show (!decide (p = p)) = false by simp] at hne
        have hgd := eqGuardP
        have n1 : (0 : Int) < (rl : Int) := by rw [← hrl, List.length_cons]; omega
        have n2 : 0 < rl := by omega
        have n3 : 0 < n := by omega
        clear hrl hRl
        go_quiet (fail)
        go_wp2
        go_meet
        case rel => exact ⟨rfl, ⟨rfl, rfl, rfl, Nat.le_refl _, fun _ _ _ => rfl⟩⟩
  case rest =>
  obtain ⟨rfl, hg8⟩ := hcut
  clear HN
  have k4 := (hg8.block _ (heap_lt F.out.2.2.2.1) (fun h => h)).trans F.out.2.2.2.1
  obtain ⟨kf, hkf, hfall⟩ := round_falls H.out.2.2.2.2.1.1 last H.out.2.2.2.1
  have D := Lib.hid (And.intro (F.out.1.grows hg8) (And.intro (F.out.2.1.trans hg8) (And.intro (F.out.2.2.1.grows hg8) (And.intro k4 (F.out.2.2.2.2.1.grows hg8)))))
  have HF := Lib.hid (And.intro hkf hfall)
  clear F k4 hg8 hkf hfall
  generalize hw8 : wc = w8 at D ⊢
  clear hw8
  go_wp2
  go_loopg [14, 15] rl (fun m vf c wr => ∃ (i f : Nat), i ≤ rl ∧ m = rl - i ∧ c = .int .i64 (i : Nat) ∧ vf = .int .i64 (f : Nat) ∧ (f ≤ 1 ∧ (i ≤ kf → f = 0)) ∧ Grows w8 wr)
  case atStart => exact ⟨0, 0, by omega, by omega, rfl, rfl, ⟨by omega, fun _ => rfl⟩, Ext.refl _ _⟩
  case round =>
    as_aux_lemma =>
      obtain ⟨i, f, hi, hk, rfl, rfl, hff, hg⟩ := hrel
      have HK := Lib.hid hk
      have HW := Lib.hid hg
      have HI := Lib.hid hff
      clear hk hg hff
      by_cases hlt : i < rl
      · have i0 : (0 : Int) ≤ (i : Int) := by omega
        have i1 : (i : Int) < (rl : Int) := by omega
        obtain ⟨g, off, cap, e, _, ⟨x0, x1⟩, _⟩ := OwnP.at (D.out.2.2.1.grows HW.out) i (by omega)
        injection e with e1 e2 e3
        subst e1 e3
        clear e2
        obtain ⟨g2, off2, cap2, e, _, ⟨z0, z1⟩, _⟩ := OwnP.at (D.out.2.2.2.2.grows HW.out) i (by omega)
        injection e with e1 e2 e3
        subst e1 e3
        clear e2
        obtain ⟨x, hx⟩ : ∃ x, R[i]'(by omega) = x := ⟨_, rfl⟩
        rw [hx] at x0 x1 z0 z1
        have hne := neS x x
        rw [show (!decide (x = x)) = false by simp] at hne
        have hgd := eqGuardP
        have HX := Lib.hid hx
        clear hx
        go_upto_region 14 with fail
        go_quiet (fail)
        have gq : Grows wr (wr.drewN nq) := ⟨rfl, rfl, rfl, Nat.le_refl _, fun _ _ _ => rfl⟩
        have x0 := cell_grow gq x0
        have x1 := cell_grow gq x1
        have HY := Lib.hid (HW.out.trans gq)
        clear z0 z1 hne gq HW
        generalize wr.drewN nq = wy at x0 x1 HY ⊢
        go_upto_region 16 with (with_reducible refine held_o (n := 16) ?_)
        unfold HeldO
        go_step
        go_cut [14] (fun s w' => ∃ f' : Nat, s = .int .i64 (f' : Nat) ∧ f' ≤ 1 ∧ (i + 1 ≤ kf → f' = 0) ∧ Grows w8 w')
        case first =>
          as_aux_lemma =>
            by_cases hi0 : i = 0
            · subst hi0
              clear x0 x1
              go_upto_region 16 with fail
              go_quiet (fail)
              go_wp2
              go_meet
              case rel => exact ⟨f, rfl, HI.out.1, fun h => HI.out.2 (by omega), HY.out.trans ⟨rfl, rfl, rfl, Nat.le_refl _, fun _ _ _ => rfl⟩⟩
            · obtain ⟨m, hm⟩ : ∃ m, i = m + 1 := ⟨i - 1, by omega⟩
              have m0 : (0 : Int) < (i : Int) := by omega
              have m8 : 0 < i := by omega
              have m3 : (0 : Int) ≤ (m : Int) := by omega
              have m4 : (m : Int) < (rl : Int) := by omega
              have m5 : IntKind.i64.wrap ((i : Int) - 1) = (m : Int) := by rw [IntKind.wrap_i64]; omega
              have m6 : wrap64 ((i : Int) - 1) = (m : Int) := by unfold wrap64; omega
              have HM2 := Lib.hid hm
              obtain ⟨g', off', cap', e, _, ⟨y0, y1⟩, _⟩ := OwnP.at (D.out.2.2.1.grows HY.out) m (by omega)
              injection e with e1 e2 e3
              injection e1 with e1
              injection e1 with e4 e5 e6
              subst e4 e5 e3
              clear e2 e6
              have hf := HF.out.2 m (by omega)
              clear hi0
              obtain ⟨y, hy⟩ : ∃ y, R[m]'(by omega) = y := ⟨_, rfl⟩
              rw [hy] at y0 y1 hf
              simp only [← hm] at hf
              rw [HX.out] at hf
              obtain ⟨q, hq⟩ : ∃ q, cmpP y x = q := ⟨_, rfl⟩
              obtain ⟨q1, hq1⟩ : ∃ q, cmpP x last = q := ⟨_, rfl⟩
              obtain ⟨q2, hq2⟩ : ∃ q, cmpP y last = q := ⟨_, rfl⟩
              have HQ := Lib.hid (And.intro hq (And.intro hq1 (And.intro hq2 hf)))
              clear hy hq hf hq1 hq2 hm
              have k4 := (HY.out.block _ (heap_lt D.out.2.2.2.1) (fun h => h)).trans D.out.2.2.2.1
              have l0 := cell_of_heap k4 0
              have l1 := cell_of_heap k4 1
              simp at l0 l1
              clear k4
              by_cases hq0 : 0 ≤ q
              · have hkf : i = kf := by
                  rcases Nat.decEq i kf with h | h
                  · have h9 := (cmpP_lt y x).2 (HQ.out.2.2.2.1 h)
                    rw [HQ.out.1] at h9
                    omega
                  · exact h
                obtain rfl : f = 0 := HI.out.2 (by omega)
                have h8 := HQ.out.2.2.2.2 hkf
                have r1 : ((0 : Int) < q1) = False := eq_false fun h => h8.2 ((cmpP_gt x last).1 (by rw [HQ.out.2.1]; exact h))
                have r2 : (q2 ≤ 0) = False := eq_false (by
                  have h9 := (cmpP_gt y last).2 h8.1
                  rw [HQ.out.2.2.1] at h9
                  omega)
                have HKF := Lib.hid hkf
                clear h8 hkf
                go_upto_region 16 with fail
                go_region_held3 (fun w' => w'.cell? ⟨g, off + i * 2, none⟩ = some (.int .i64 x.flow) ∧ w'.cell? ⟨g, off + i * 2 + 1, none⟩ = some (.int .u64 x.gen) ∧ w'.cell? ⟨g, off + m * 2, none⟩ = some (.int .i64 y.flow) ∧ w'.cell? ⟨g, off + m * 2 + 1, none⟩ = some (.int .u64 y.gen) ∧ w'.cell? ⟨b4, 0, none⟩ = some (.int .i64 last.flow) ∧ w'.cell? ⟨b4, 1, none⟩ = some (.int .u64 last.gen))
                  (first
                    | go_keep
                    | (go_split_ands; refine ⟨cell_grow hg11 ?_, cell_grow hg11 ?_, cell_grow hg11 ?_, cell_grow hg11 ?_, cell_grow hg11 ?_, cell_grow hg11 ?_⟩ <;> assumption))
                  (first
                    | (go_at_call 13; with_reducible refine (compare_g y x q HQ.out.1 _).mono ?_; rintro e w11 ⟨rfl, hg11⟩))
                all_goals
                  have hY2 := HY.out.trans (((Ext.refl (fun _ => False) _).drew).trans hg11)
                  have e0 := cell_grow (((Ext.refl (fun _ => False) wy).drew).trans hg11) x0
                  have e1 := cell_grow (((Ext.refl (fun _ => False) wy).drew).trans hg11) x1
                  have e2 := cell_grow (((Ext.refl (fun _ => False) wy).drew).trans hg11) y0
                  have e3 := cell_grow (((Ext.refl (fun _ => False) wy).drew).trans hg11) y1
                  have e4 := cell_grow (((Ext.refl (fun _ => False) wy).drew).trans hg11) l0
                  have e5 := cell_grow (((Ext.refl (fun _ => False) wy).drew).trans hg11) l1
                  have HY2 := Lib.hid hY2
                  clear hY2 x0 x1 y0 y1 l0 l1 hg11
                  go_upto_region 18 with fail
                  generalize w11 = wv at HY2 e0 e1 e2 e3 e4 e5 ⊢
                  go_region_held3 (fun w' => w'.cell? ⟨g, off + i * 2, none⟩ = some (.int .i64 x.flow) ∧ w'.cell? ⟨g, off + i * 2 + 1, none⟩ = some (.int .u64 x.gen) ∧ w'.cell? ⟨g, off + m * 2, none⟩ = some (.int .i64 y.flow) ∧ w'.cell? ⟨g, off + m * 2 + 1, none⟩ = some (.int .u64 y.gen) ∧ w'.cell? ⟨b4, 0, none⟩ = some (.int .i64 last.flow) ∧ w'.cell? ⟨b4, 1, none⟩ = some (.int .u64 last.gen))
                    (first
                      | go_keep
                      | (go_split_ands; refine ⟨cell_grow hg21 ?_, cell_grow hg21 ?_, cell_grow hg21 ?_, cell_grow hg21 ?_, cell_grow hg21 ?_, cell_grow hg21 ?_⟩ <;> assumption)
                      | (go_split_ands; refine ⟨cell_grow hg22 ?_, cell_grow hg22 ?_, cell_grow hg22 ?_, cell_grow hg22 ?_, cell_grow hg22 ?_, cell_grow hg22 ?_⟩ <;> assumption))
                    (first
                      | (go_at_call 13; with_reducible refine (compare_g x last q1 HQ.out.2.1 _).mono ?_; rintro e w21 ⟨rfl, hg21⟩)
                      | (go_at_call 13; with_reducible refine (compare_g y last q2 HQ.out.2.2.1 _).mono ?_; rintro e w22 ⟨rfl, hg22⟩))
                  all_goals
                    first
                      | (have hY3 := HY2.out.trans (((Ext.refl (fun _ => False) wv).drew).trans (hg21.trans hg22)); have HY3 := Lib.hid hY3; clear hY3 hg21 hg22 e0 e1 e2 e3 e4 e5; go_wp2; go_meet; (case rel => exact ⟨1, rfl, Nat.le_refl _, fun h => by have := HKF.out; omega, HY3.out⟩))
                      | (have hY3 := HY2.out.trans (((Ext.refl (fun _ => False) wv).drew).trans (hg22.trans hg21)); have HY3 := Lib.hid hY3; clear hY3 hg21 hg22 e0 e1 e2 e3 e4 e5; go_wp2; go_meet; (case rel => exact ⟨1, rfl, Nat.le_refl _, fun h => by have := HKF.out; omega, HY3.out⟩))
              · go_upto_region 16 with fail
                go_region_held3 (fun w' => w'.cell? ⟨g, off + i * 2, none⟩ = some (.int .i64 x.flow) ∧ w'.cell? ⟨g, off + i * 2 + 1, none⟩ = some (.int .u64 x.gen) ∧ w'.cell? ⟨g, off + m * 2, none⟩ = some (.int .i64 y.flow) ∧ w'.cell? ⟨g, off + m * 2 + 1, none⟩ = some (.int .u64 y.gen) ∧ w'.cell? ⟨b4, 0, none⟩ = some (.int .i64 last.flow) ∧ w'.cell? ⟨b4, 1, none⟩ = some (.int .u64 last.gen))
                  (first
                    | go_keep
                    | (go_split_ands; refine ⟨cell_grow hg11 ?_, cell_grow hg11 ?_, cell_grow hg11 ?_, cell_grow hg11 ?_, cell_grow hg11 ?_, cell_grow hg11 ?_⟩ <;> assumption))
                  (first
                    | (go_at_call 13; with_reducible refine (compare_g y x q HQ.out.1 _).mono ?_; rintro e w11 ⟨rfl, hg11⟩))
                all_goals
                  have hY2 := HY.out.trans (((Ext.refl (fun _ => False) _).drew).trans hg11)
                  have HY2 := Lib.hid hY2
                  clear hY2 x0 x1 y0 y1 l0 l1 hg11
                  go_wp2
                  go_meet
                  case rel => exact ⟨f, rfl, HI.out.1, fun h => HI.out.2 (by omega), HY2.out⟩
        case rest =>
        obtain ⟨f', rfl, hf1, hf2, hgw⟩ := hcut
        have HF2 := Lib.hid (And.intro hf1 (And.intro hf2 hgw))
        clear hf1 hf2 hgw HY x0 x1 HI
        go_wp2
        go_loopg [16, 17] n (fun k vb c wr => ∃ (j : Nat) (b : Bool), j ≤ n ∧ k = n - j ∧ c = .int .i64 (j : Nat) ∧ vb = .bool b ∧ decide (x ∈ l.take j) = b ∧ Grows w8 wr)
        case atStart => exact ⟨0, false, by omega, by omega, rfl, rfl, by simp, HF2.out.2.2⟩
        case round =>
          as_aux_lemma =>
            obtain ⟨j, b, hj, hk2, rfl, rfl, hb, hg⟩ := hrel
            have HJ := Lib.hid (And.intro hk2 (And.intro hb hg))
            clear hk2 hb hg
            by_cases hjl : j < n
            · have j0 : (0 : Int) ≤ (j : Int) := by omega
              have j1 : (j : Int) < (n : Int) := by omega
              obtain ⟨g', off', cap', e, _, ⟨x0, x1⟩, _⟩ := OwnP.at (D.out.2.2.1.grows HJ.out.2.2) i (by omega)
              injection e with e1 e2 e3
              injection e1 with e1
              injection e1 with e4 e5 e6
              subst e4 e5 e3
              clear e2 e6
              obtain ⟨g3, off3, cap3, e, _, ⟨y0, y1⟩, _⟩ := OwnP.at (D.out.1.grows HJ.out.2.2) j (by omega)
              injection e with e1 e2 e3
              subst e1 e3
              clear e2
              obtain ⟨y, hy⟩ : ∃ y, l[j]'(by omega) = y := ⟨_, rfl⟩
              rw [hy] at y0 y1
              rw [HX.out] at x0 x1
              have hms := mem_step l x j (by omega)
              rw [hy, HJ.out.2.1] at hms
              have HMS := Lib.hid hms
              have heq := eqS y x
              clear hy hms
              go_upto_region 24 with fail
              go_cut [16] (fun s w' => ∃ b' : Bool, s = .bool b' ∧ decide (x ∈ l.take (j + 1)) = b' ∧ Grows wr w')
              case first =>
                as_aux_lemma =>
                  cases b with
                  | true =>
                    clear x0 x1 y0 y1 heq
                    go_quiet (fail)
                    go_wp2
                    go_meet
                    case rel => exact ⟨true, rfl, by rw [HMS.out]; simp, ⟨rfl, rfl, rfl, Nat.le_refl _, fun _ _ _ => rfl⟩⟩
                  | false =>
                    obtain ⟨bb, hbb⟩ : ∃ bb, decide (y = x) = bb := ⟨_, rfl⟩
                    rw [hbb] at heq
                    have HBB := Lib.hid hbb
                    clear hbb
                    go_quiet (fail)
                    go_wp2
                    go_meet
                    case rel => exact ⟨bb, rfl, by rw [HMS.out, HBB.out]; simp, ⟨rfl, rfl, rfl, Nat.le_refl _, fun _ _ _ => rfl⟩⟩
              case rest =>
              obtain ⟨b', rfl, hb', hgc⟩ := hcut
              have x0 := cell_grow hgc x0
              have x1 := cell_grow hgc x1
              have y0 := cell_grow hgc y0
              have y1 := cell_grow hgc y1
              have HB2 := Lib.hid (And.intro hb' (HJ.out.2.2.trans hgc))
              clear hb' hgc heq
              go_upto_region 25 with fail
              obtain ⟨q1, q2, bb, hq1, hq2, hneg, hneg', hz, hbb⟩ : ∃ (q1 q2 : Int) (bb : Bool), cmpP y x = q1 ∧ cmpP x y = q2 ∧ IntKind.i64.wrap (-q2) = q1 ∧ wrap64 (-q2) = q1 ∧ (q1 == 0) = bb ∧ decide (y = x) = bb := by
                rcases cmpP_three y x with ⟨h1, h2, h3⟩ | ⟨h1, h2, h3⟩ | ⟨h1, h2, h3⟩
                · exact ⟨-1, 1, false, h1, h2, by rw [IntKind.wrap_i64]; omega, by unfold wrap64; omega, rfl, by simp [h3]⟩
                · exact ⟨0, 0, true, h1, h2, by rw [IntKind.wrap_i64]; omega, by unfold wrap64; omega, rfl, by simp [h3]⟩
                · exact ⟨1, -1, false, h1, h2, by rw [IntKind.wrap_i64]; omega, by unfold wrap64; omega, rfl, by simp [h3]⟩
              have heq := eqS y x
              rw [hbb] at heq
              have HQ := Lib.hid (And.intro hq1 hq2)
              clear hq1 hq2 hbb
              go_region_held3 (fun w' => w'.cell? ⟨g, off + i * 2, none⟩ = some (.int .i64 x.flow) ∧ w'.cell? ⟨g, off + i * 2 + 1, none⟩ = some (.int .u64 x.gen) ∧ w'.cell? ⟨g3, off3 + j * 2, none⟩ = some (.int .i64 y.flow) ∧ w'.cell? ⟨g3, off3 + j * 2 + 1, none⟩ = some (.int .u64 y.gen))
                  (first
                    | go_keep
                    | (go_split_ands; refine ⟨cell_grow hg31 ?_, cell_grow hg31 ?_, cell_grow hg31 ?_, cell_grow hg31 ?_⟩ <;> assumption)
                    | (go_split_ands; refine ⟨cell_grow hg32 ?_, cell_grow hg32 ?_, cell_grow hg32 ?_, cell_grow hg32 ?_⟩ <;> assumption)
                    | (go_split_ands; refine ⟨cell_grow hg33 ?_, cell_grow hg33 ?_, cell_grow hg33 ?_, cell_grow hg33 ?_⟩ <;> assumption))
                  (first
                    | (go_at_call 13; with_reducible refine (compare_g x y _ HQ.out.2 _).mono ?_; rintro e w32 ⟨rfl, hg32⟩)
                    | (go_at_call 13; with_reducible refine (compare_g y x _ HQ.out.1 _).mono ?_; first | (have hx9 := hg31; rintro e w33 ⟨rfl, hg33⟩) | (rintro e w31 ⟨rfl, hg31⟩)))
              have hY := HB2.out.2.trans (((Ext.refl (fun _ => False) wc).drew).trans ((hg31.trans hg32).trans hg33))
              have HY := Lib.hid hY
              clear hY hg31 hg32 hg33 x0 x1 y0 y1 hx9
              go_wp2
              go_roundg (n - (j + 1))
              case measure => have := HJ.out.1; omega
              case rel => exact ⟨j + 1, b', by omega, rfl, by go_num, rfl, HB2.out.1, HY.out⟩
            · have j1 : ¬ (j : Int) < (n : Int) := by omega
              have hbt : b = true := by
                rw [← HJ.out.2.1, List.take_of_length_le (by omega), decide_eq_true_eq, ← HX.out]
                exact (HM.out.1 _).1 (List.getElem_mem _)
              subst hbt
              go_wp2
              go_roundg (rl - (i + 1))
              case measure => have := HK.out; omega
              case rel => exact ⟨i + 1, f', by omega, rfl, by go_num, rfl, ⟨HF2.out.1, HF2.out.2.1⟩, HJ.out.2.2⟩
      · have i1 : ¬ (i : Int) < (rl : Int) := by omega
        have hf1 := HI.out.1
        clear HI HK hlt
        go_wp2
        go_loopg [18] n (fun k c wx => ∃ j : Nat, j ≤ n ∧ k = n - j ∧ c = .int .i64 (j : Nat) ∧ Grows w8 wx)
        case atStart => exact ⟨0, by omega, by omega, rfl, HW.out⟩
        case round =>
          as_aux_lemma =>
            obtain ⟨j, hj, hk2, rfl, hg⟩ := hrel
            have HJ := Lib.hid (And.intro hk2 hg)
            clear hk2 hg
            by_cases hjl : j < n
            · have j0 : (0 : Int) ≤ (j : Int) := by omega
              have j1 : (j : Int) < (n : Int) := by omega
              obtain ⟨y, hy⟩ : ∃ y, l[j]'(by omega) = y := ⟨_, rfl⟩
              have HYY := Lib.hid hy
              clear hy
              go_wp2
              go_loopg [19, 20] rl (fun k vm c wz => ∃ (i m : Nat), i ≤ rl ∧ k = rl - i ∧ c = .int .i64 (i : Nat) ∧ vm = .int .i64 (m : Nat) ∧ (R.take i).count y = m ∧ Grows w8 wz)
              case atStart => exact ⟨0, 0, by omega, by omega, rfl, rfl, by simp, HJ.out.2⟩
              case round =>
                as_aux_lemma =>
                  obtain ⟨i, m, hi, hk3, rfl, rfl, hm, hg⟩ := hrel
                  have HI := Lib.hid (And.intro hk3 (And.intro hm hg))
                  clear hk3 hm hg
                  by_cases hil : i < rl
                  · have i0 : (0 : Int) ≤ (i : Int) := by omega
                    have i1 : (i : Int) < (rl : Int) := by omega
                    have hmi : m ≤ 30 := by
                      have := List.count_le_length (a := y) (l := R.take i)
                      rw [HI.out.2.1, List.length_take] at this
                      omega
                    obtain ⟨g, off, cap, e, _, ⟨x0, x1⟩, _⟩ := OwnP.at (D.out.2.2.1.grows HI.out.2.2) i (by omega)
                    injection e with e1 e2 e3
                    subst e1 e3
                    clear e2
                    obtain ⟨g3, off3, cap3, e, _, ⟨y0, y1⟩, _⟩ := OwnP.at (D.out.1.grows HI.out.2.2) j (by omega)
                    injection e with e1 e2 e3
                    subst e1 e3
                    clear e2
                    obtain ⟨x, hx⟩ : ∃ x, R[i]'(by omega) = x := ⟨_, rfl⟩
                    have hcs := count_step R y i (by omega)
                    rw [hx, HI.out.2.1] at hcs
                    rw [hx] at x0 x1
                    rw [HYY.out] at y0 y1
                    have hgd := eqGuardP
                    have HCS := Lib.hid hcs
                    clear hx hcs
                    by_cases hxy : x = y
                    · have heq := eqS x y
                      rw [decide_eq_true hxy] at heq
                      have HXY := Lib.hid hxy
                      clear hxy
                      go_upto_region 36 with fail
                      go_quiet (fail)
                      clear x0 x1 y0 y1 heq
                      go_wp2
                      go_roundg (rl - (i + 1))
                      case measure => have := HI.out.1; omega
                      case rel => exact ⟨i + 1, m + 1, by omega, rfl, by go_num, by go_num, by rw [HCS.out, if_pos HXY.out], HI.out.2.2.trans ⟨rfl, rfl, rfl, Nat.le_refl _, fun _ _ _ => rfl⟩⟩
                    · have heq := eqS x y
                      rw [decide_eq_false hxy] at heq
                      have HXY := Lib.hid hxy
                      clear hxy
                      go_upto_region 36 with fail
                      go_quiet (fail)
                      clear x0 x1 y0 y1 heq
                      go_wp2
                      go_roundg (rl - (i + 1))
                      case measure => have := HI.out.1; omega
                      case rel => exact ⟨i + 1, m, by omega, rfl, by go_num, rfl, by rw [HCS.out, if_neg HXY.out]; rfl, HI.out.2.2.trans ⟨rfl, rfl, rfl, Nat.le_refl _, fun _ _ _ => rfl⟩⟩
                  · have i1 : ¬ (i : Int) < (rl : Int) := by omega
                    have hm1 : m = 1 := by
                      rw [← HI.out.2.1, List.take_of_length_le (by omega)]
                      refine count_one HM.out.2 ((HM.out.1 y).2 ?_)
                      rw [← HYY.out]
                      exact List.getElem_mem _
                    subst hm1
                    go_wp2
                    go_roundg (n - (j + 1))
                    case measure => have := HJ.out.1; omega
                    case rel => exact ⟨j + 1, by omega, rfl, by go_num, HI.out.2.2⟩
            · have j1 : ¬ (j : Int) < (n : Int) := by omega
              have hf2 : (f : Int) ≤ 1 := by omega
              go_wp2_with fail
              refine (sched_wakes _).mono ?_
              rintro e w11 ⟨rfl, hg11⟩
              have HG := Lib.hid ((D.out.2.1.trans HJ.out.2).trans hg11)
              clear hg11
              go_wp2
              go_ret
              exact ⟨rfl, Ext.to_below HG.out⟩
namespace SchedOrderShell
theorem own : ownKnob Try.prog.godebug = none := by kernel_rfl
theorem laidOut : laidOutB Try.prog = true := by kernel_rfl
set_option maxRecDepth 100000 in
theorem lifted (os : Os) (started : os.Started) (H : Type) (enc : TypeId × Value → H) :
    ReturnsInHanded {} Try.checked os 5 .any (Rows.schedOrderSpec.pre6 enc Try.prog Try.f5 Rows.schedOrderRow.domain false) (Rows.schedOrderSpec.post enc Try.prog Try.f5 false true false false) := by
  refine returnsInHanded_of_change_sized (C := Try.checked) own started (by kernel_rfl) Try.func5
    (ChangeSpec.witness6 (enc := enc) (C := Try.checked) false ⟨#[], #[.slice none 0 0, .agg #[.int .i64 0, .int .u64 0], .int .u8 0], []⟩ 8 (by kernel_rfl) (by kernel_rfl) (by kernel_rfl) (by kernel_rfl)) ?_
  intro W base args ds gs before hval0 hW hcnd hsz0 _
  have hval : ∀ (j : Nat) t v, Try.f5.params[j]? = some t → args[j]? = some v → Value.okWide Try.prog W .any base t v := hval0
  have hsz : (DataW.weightsEach Try.prog (Try.f5.params.toList ++ Rows.schedOrderSpec.plain.varTypes Try.prog) (ds ++ gs)).all (· ≤ reachBytes) = true := hsz0
  have hW' := hW
  obtain ⟨p, q, hA0, hV, rfl, hfz, hnd⟩ := hW
  have hA : DataW.TrodAll enc Try.prog W 0 (fun _ => true) true Try.f5.params.toList args.toList ds p := hA0
  rw [Try.params5] at hA hval hsz
  obtain ⟨v0, vs0, d0, ds0, p0, q0, hargs, rfl, rfl, h0, r0⟩ := trodAll_cons hA
  obtain ⟨v1, vs1, d1, ds1, p1, q1, rfl, rfl, rfl, h1, r1⟩ := trodAll_cons r0
  obtain ⟨v2, vs2, d2, ds2, p2, q2, rfl, rfl, rfl, h2, r2⟩ := trodAll_cons r1
  obtain ⟨rfl, rfl, rfl⟩ := trodAll_nil r2
  obtain rfl : args = #[v0, v1, v2] := by cases args; simp_all
  obtain ⟨rfl, rfl⟩ := trodVars_none hV
  have k0 := h0
  have lt0 : ∀ x ∈ p0, x.block < W.heap.size := by obtain ⟨m, hm⟩ := k0; exact DataW.trod_lt m _ _ _ hm
  have k1 := h1
  have lt1 : ∀ x ∈ p1, x.block < W.heap.size := by obtain ⟨m, hm⟩ := k1; exact DataW.trod_lt m _ _ _ hm
  have k2 := h2
  have lt2 : ∀ x ∈ p2, x.block < W.heap.size := by obtain ⟨m, hm⟩ := k2; exact DataW.trod_lt m _ _ _ hm
  obtain ⟨a0, w0⟩ := open_places (hval 0 22 v0 rfl rfl) h0 hsz (j := 0) rfl rfl
  obtain ⟨a1, w1⟩ := open_place (hval 1 25 v1 rfl rfl) h1 hsz (j := 1) rfl rfl
  obtain ⟨a2, rfl, rfl, rfl, w2⟩ := open_int Try.underlying5 (hval 2 5 v2 rfl rfl) h2
  clear hA0 hval0 hsz0
  refine (SchedOrder_walk v0 a0 v1 a1 a2 W w0 w1 w2).mono fun e W' ⟨he, bel⟩ => ?_
  subst he
  exact ⟨_, rfl, _, _, _, [], _, [], hW', trodAll_mk1 (shut_bool Try.underlying4 _), (trodAll_cons_mk (Below.trod laidOut (by kernel_rfl) (of_decide_eq_true (by kernel_rfl)) k0 bel lt0) (trodAll_cons_mk (Below.trod laidOut (by kernel_rfl) (of_decide_eq_true (by kernel_rfl)) k1 bel lt1) (trodAll_cons_mk (Below.trod laidOut (by kernel_rfl) (of_decide_eq_true (by kernel_rfl)) k2 bel lt2) trodAll_mk0))), rfl, bel.frame _, fun h => by cases h⟩
theorem over : Rows.schedOrderRow.holds Try.pinned (OpenSpec.ofChange Rows.schedOrderSpec) :=
  OpenClaim.holds_of_wide 5 Try.f5 rfl rfl rfl rfl rfl rfl rfl ⟨rfl, rfl, rfl, rfl, rfl⟩ rfl rfl rfl rfl rfl (by kernel_rfl) Try.func5 (by kernel_rfl)
    (of_decide_eq_true (by kernel_rfl)) (by unfold Func.isWrapper; first | (rw [if_pos (by decide +kernel)]; kernel_rfl) | (rw [if_neg (by decide +kernel)]; exact ⟨rfl, rfl⟩))
    (fun os started H enc _ => lifted os started H enc)
end SchedOrderShell
theorem SchedOrder_holds : Rows.SchedOrderSaid := SchedOrderShell.over
#print axioms SchedOrder_holds
end Go.Proofs.Ytlejdhgchanilaa
