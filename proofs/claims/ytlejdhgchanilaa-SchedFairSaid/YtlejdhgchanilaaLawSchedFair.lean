/- SchedFair: of places that stay, each has its turn once, before one has it again, whatever comes and goes beside. -/
import Derived.Test.YtlejdhgchanilaaSchedK
import Derived.Test.YtlejdhgchanilaaSchedW
import Derived.Deep.RegionHeld3
import Derived.Deep.DeepCutAuto
import Derived.Deep.LoopGhost
namespace Go.Proofs.Ytlejdhgchanilaa
set_option linter.unusedVariables false
set_option linter.unusedSimpArgs false
open Go.ChangeShapes Go.WideShapes Go.ChangeAt Go.RowKit Go.Sort Go.Lib Go.Maps

/-- A statement at which the walk is to stand still. -/
def HeldF (p : Prop) : Prop := p
theorem held_f {n : Nat} {P : Program} {ops : Array Oper} {b : Bool} {d rest : Code} {Q : Exit → Act → World → Prop} {a : Act} {w : World} (h : HeldF ((Code.seq (Code.seq (Code.region n ops b) d) rest).wp P Q a w)) :
    (Code.seq (Code.seq (Code.region n ops b) d) rest).wp P Q a w := h
theorem mapT : MapT 41 3 .i64 := ⟨Try.underlying41, Try.underlying3, fun w => by kernel_rfl⟩

set_option maxRecDepth 4000 in
set_option maxHeartbeats 64000000 in
theorem SchedFair_walk (v0 : Value) (l0 : List PlaceV) (v1 : Value) (m0 : List PlaceV) (v2 : Value) (bs : List Int) (v3 : Value) (last : PlaceV) (begun : Bool) (w : World) (h0 : PlacesK w v0 l0) (h1 : PlacesK w v1 m0) (h2 : Bytes w v2 bs) (h3 : PlaceK v3 last) :
    Calls Try.prog 4 #[v0, v1, v2, v3, .bool begun] w fun e w' => e = .returned (.bool true) ∧ Below w.heap.size w w' := by
  obtain ⟨h3, lok⟩ := h3
  unfold PlaceA at h3
  subst h3
  obtain ⟨va, vc, rfl, hcap⟩ := h0.1.form
  obtain ⟨ua, uc, rfl, hcap2⟩ := h1.1.form
  obtain ⟨ba, bc, rfl⟩ : ∃ a cap, v2 = .slice a bs.length cap := by
    rcases h2.cases with ⟨a, cap, rfl, h0⟩ | ⟨b, off, cap, rfl, _⟩
    · exact ⟨a, cap, by rw [h0]; rfl⟩
    · exact ⟨_, cap, rfl⟩
  obtain ⟨n, hn⟩ : ∃ n, min l0.length 12 = n := ⟨_, rfl⟩
  obtain ⟨m, hm⟩ : ∃ m, min m0.length 8 = m := ⟨_, rfl⟩
  have hl0 := h0.1.2
  have hl1 := h1.1.2
  have hrow := h0.1.row n (by omega)
  have hrow2 := h1.1.row m (by omega)
  obtain ⟨l, hl⟩ : ∃ l, l0.take n = l := ⟨_, rfl⟩
  obtain ⟨o, ho⟩ : ∃ o, m0.take m = o := ⟨_, rfl⟩
  have hll : l.length = n := by rw [← hl, List.length_take]; omega
  have hol : o.length = m := by rw [← ho, List.length_take]; omega
  have hlk : ∀ x ∈ l, x.okay := fun x hx => h0.2 x (List.mem_of_mem_take (hl ▸ hx))
  have hok : ∀ x ∈ o, x.okay := fun x hx => h1.2 x (List.mem_of_mem_take (ho ▸ hx))
  rw [hl] at hrow
  rw [ho] at hrow2
  have n0 : (0 : Int) ≤ (n : Int) := by omega
  have n1 : (n : Int) ≤ (vc : Int) := by omega
  have n12 : n ≤ 12 := by omega
  have o0 : (0 : Int) ≤ (m : Int) := by omega
  have o1 : (m : Int) ≤ (uc : Int) := by omega
  have o8 : m ≤ 8 := by omega
  have hif : min (l0.length : Int) 12 = (n : Int) := by omega
  have hif2 : min (m0.length : Int) 8 = (m : Int) := by omega
  have hg : Grows w (w.alloc (.cells #[.int .i64 last.flow, .int .u64 last.gen] 25)) := (Ext.refl _ w).alloc _
  have k8 := heap_alloc_new w (.cells #[.int .i64 last.flow, .int .u64 last.gen] 25 (0, 0))
  have H := Lib.hid (And.intro hrow (And.intro hrow2 (And.intro h2 (And.intro hll (And.intro hol (And.intro hlk (And.intro hok lok)))))))
  have HG := Lib.hid (And.intro hg k8)
  clear hrow hrow2 h2 hll hol hlk hok lok hg k8 hl ho h0 h1 hl0 hl1 hcap hcap2
  have hmm := @run_makeMap Try.prog
  go_enter Try.func4, Try.ntmps4
  go_upto_region 1 with fail
  go_quiet (fail)
  have gq : Grows (w.alloc (.cells #[.int .i64 last.flow, .int .u64 last.gen] 25)) ((w.alloc (.cells #[.int .i64 last.flow, .int .u64 last.gen] 25)).drewN nq) := ⟨rfl, rfl, rfl, Nat.le_refl _, fun _ _ _ => rfl⟩
  have HG1 := Lib.hid (And.intro (HG.out.1.trans gq) ((gq.block _ (heap_lt HG.out.2) (fun h => h)).trans HG.out.2))
  clear hif hif2 n1 o1 hn hm HG gq
  generalize (w.alloc (.cells #[.int .i64 last.flow, .int .u64 last.gen] 25)).drewN nq = w1 at HG1 ⊢
  generalize hb8 : w.heap.size = b8 at HG1 ⊢
  by_cases hn0 : n = 0
  · subst hn0
    go_wp2_with fail
    refine (sched_wakes _).mono ?_
    rintro e w2 ⟨rfl, hg2⟩
    have HE := Lib.hid (HG1.out.1.trans hg2)
    clear hg2
    go_wp2
    go_ret
    exact ⟨rfl, Ext.to_below HE.out⟩
  · have nn0 : ((n : Int) == 0) = false := by simp; omega
    have k8 := HG1.out.2
    have hga : Grows w1 (w1.alloc (.map #[] 0)) := (Ext.refl _ _).alloc _
    have hgb : Grows w1 ((w1.alloc (.map #[] 0)).alloc (.cells #[.int .i64 last.flow, .int .u64 last.gen] 28)) := hga.alloc _
    have k8m := (hga.block _ (heap_lt k8) (fun h => h)).trans k8
    have c0 := cell_of_heap k8m 0
    have c1 := cell_of_heap k8m 1
    simp at c0 c1
    have k12 := heap_alloc_new (w1.alloc (.map #[] 0)) (.cells #[.int .i64 last.flow, .int .u64 last.gen] 28 (0, 0))
    rw [show (w1.alloc (.map #[] 0)).heap.size = w1.heap.size + 1 by simp] at k12
    have hmq : MapQ 3 .i64 ((w1.alloc (.map #[] 0)).alloc (.cells #[.int .i64 last.flow, .int .u64 last.gen] 28)) w1.heap.size 0 (fun _ => 0) := (mapQ_made (E := 3) (q := .i64) w1).ext (S := fun _ => False) ((Ext.refl _ _).alloc _) (fun h => h)
    have HM := Lib.hid (And.intro (HG1.out.1.trans hgb) (And.intro k12 (And.intro hmq (And.intro (show w.heap.size ≤ w1.heap.size from HG1.out.1.size) (show w1.heap.size ≠ w1.heap.size + 1 ∧ w.heap.size ≤ w1.heap.size + 1 from ⟨by omega, by have := HG1.out.1.size; omega⟩)))))
    clear k8 hga hgb k8m k12 hmq
    go_wp2
    clear c0 c1
    generalize (w1.alloc (.map #[] 0)).alloc (.cells #[.int .i64 last.flow, .int .u64 last.gen] 28) = w3 at HM ⊢
    generalize w1.heap.size + 1 = b12 at HM ⊢
    generalize w1.heap.size = bm at HM ⊢
    clear HG1 hmm
    go_loopg [14] (2 * (n + m)) (fun k c wr => ∃ (i : Nat) (ps : List PlaceV) (pos : PlaceV), i ≤ 2 * (n + m) ∧ k = 2 * (n + m) - i ∧ c = .int .i64 (i : Nat) ∧ FS l (l ++ o) begun last i ps pos ∧ pos.okay ∧ wr.heap[b12]? = some (.cells #[.int .i64 pos.flow, .int .u64 pos.gen] 28 (0, 0)) ∧ MapQ 3 .i64 wr bm i (fun p => (countOf ps p : Nat)) ∧ Grows w wr)
    case atStart => exact ⟨0, [], last, by omega, by omega, rfl, FS.start _ _ _ _, H.out.2.2.2.2.2.2.2, HM.out.2.1, HM.out.2.2.1, HM.out.1⟩
    case round =>
      obtain ⟨i, ps, pos, hi, hk, rfl, hfs, hpok, hk12, hmq, hg⟩ := hrel
      obtain ⟨wo, hwo⟩ : ∃ wo, wo = wr := ⟨_, rfl⟩
      subst hwo
      have HK := Lib.hid (And.intro hk (And.intro hfs (And.intro hpok (And.intro hk12 (And.intro hmq hg)))))
      clear hk hfs hpok hk12 hmq hg
      by_cases hlt : i < 2 * (n + m)
      · have i1 : (i : Int) < 2 * ((n : Int) + (m : Int)) := by omega
        have i0 : (0 : Int) ≤ (i : Int) := by omega
        go_wp2_with fail
        refine (ours_any _ l wo (H.out.1.grows HK.out.2.2.2.2.2) (by have := H.out.2.2.2.1; omega)).mono ?_
        rintro e wa ⟨lv, rfl, hown, hga, hfa⟩
        have HA := Lib.hid (And.intro hown (And.intro hga hfa))
        clear hown hga hfa
        go_wp2
        go_loopg [15, 16] m (fun k vl c wx => ∃ (j : Nat) (ls : List PlaceV), j ≤ m ∧ k = m - j ∧ c = .int .i64 (j : Nat) ∧ OwnP wx vl ls ∧ ((∀ x ∈ l, x ∈ ls) ∧ (∀ x ∈ ls, x ∈ l ++ o) ∧ ls.length ≤ n + j) ∧ (∀ k, vl.ownBlock = some k → wo.heap.size ≤ k) ∧ Grows wo wx)
        case atStart => exact ⟨0, l, by omega, by omega, rfl, HA.out.1, ⟨fun _ h => h, fun _ h => List.mem_append_left _ h, by have := H.out.2.2.2.1; omega⟩, HA.out.2.2, HA.out.2.1⟩
        case round =>
          obtain ⟨j, ls, hj, hkj, rfl, hol, hls, hfl, hgl⟩ := hrel
          obtain ⟨la, lc, rfl⟩ := hol.row.1
          have HJ := Lib.hid (And.intro hkj (And.intro hol (And.intro hls (And.intro hfl hgl))))
          clear hkj hol hls hfl hgl
          by_cases hjl : j < m
          · have j1 : (j : Int) < (m : Int) := by omega
            have j0 : (0 : Int) ≤ (j : Int) := by omega
            go_upto_region 14 with fail
            go_cut [74] (fun s w' => ∃ c : Bool, s = .bool c ∧ w' = wr)
            case first =>
              by_cases hib : i < bs.length
              · have b1 : (i : Int) < (bs.length : Int) := by omega
                rcases H.out.2.2.1.cases with ⟨_, _, _, h0⟩ | ⟨bb, boff, bcap, hbv, hbc, hbcap, hbb, hbcell⟩
                · rw [h0] at hib; simp at hib
                · injection hbv with e1 e2 e3
                  subst e1 e3
                  clear e2
                  have hx := (((HK.out.2.2.2.2.2.trans HJ.out.2.2.2.2).cell (p := ⟨bb, boff + i, none⟩) hbb (fun h => h)).trans (hbcell i hib))
                  generalize bs.getD i 0 = x at hx
                  clear hbcell hbb
                  go_wp2
                  go_meet
                  case rel => exact ⟨_, rfl, rfl⟩
              · have b1 : ¬ (i : Int) < (bs.length : Int) := by omega
                go_wp2
                go_meet
                case rel => exact ⟨false, rfl, rfl⟩
            case rest =>
            obtain ⟨c, rfl, rfl⟩ := hcut
            cases c with
            | false =>
              go_wp2
              go_roundg (m - (j + 1))
              case measure => have := HJ.out.1; omega
              case rel => exact ⟨j + 1, ls, by omega, rfl, by go_num, HJ.out.2.1, ⟨HJ.out.2.2.1.1, HJ.out.2.2.1.2.1, by have := HJ.out.2.2.1.2.2; omega⟩, HJ.out.2.2.2.1, HJ.out.2.2.2.2⟩
            | true =>
              obtain ⟨b, off, cap, e, hb, x0, x1⟩ := (H.out.2.1.grows (HK.out.2.2.2.2.2.trans HJ.out.2.2.2.2)).2 j (by have := H.out.2.2.2.2.1; omega)
              injection e with e1 e2 e3
              subst e1 e3
              clear e2
              obtain ⟨x, hx⟩ : ∃ x, o[j]'(by have := H.out.2.2.2.2.1; omega) = x := ⟨_, rfl⟩
              rw [hx] at x0 x1
              have hxo : x ∈ o := by rw [← hx]; exact List.getElem_mem _
              have HXO := Lib.hid hxo
              have hlsl := HJ.out.2.2.1.2.2
              have own5 := OwnS.grows HJ.out.2.1 ((Ext.refl (fun _ => False) wc).alloc (.cells #[.int .i64 x.flow, .int .u64 x.gen] 28))
              clear hx hxo
              go_wp2_with (at_builtin; refine wpList_append_ownS rfl (.tmp 75) (.tmp 80) 26 26 rfl 28 (.agg #[.int .i64 0, .int .u64 0]) 2 16 Try.underlying26 infoPl rfl _ _ rfl rfl ls.length (plcells ls) own5 1 (plcells [x]) (src_pl x (heap_alloc_new wc _)) (by unfold maxLen; omega) (by omega) ?_)
              intro v' w4 hown4 hgr4 hblk4
              have g5 : Grows wc (wc.alloc (.cells #[.int .i64 x.flow, .int .u64 x.gen] 28)) := (Ext.refl _ _).alloc _
              have e4 : Ext (fun k => (Value.slice la ls.length lc).ownBlock = some k) (wc.alloc (.cells #[.int .i64 x.flow, .int .u64 x.gen] 28)) w4 := Ext.of_grown hgr4 (fun k hk => hk)
              have g4 : Grows wo w4 := ((HJ.out.2.2.2.2.trans g5).lift.trans e4).mono (fun k hk hh => by have := HJ.out.2.2.2.1 k hh; omega)
              have b4 : ∀ k, v'.ownBlock = some k → wo.heap.size ≤ k := fun k hk => by
                have := HJ.out.2.2.2.2.size
                rcases hblk4 with h | h
                · exact HJ.out.2.2.2.1 k (h ▸ hk)
                · rw [h] at hk
                  simp only [Option.some.injEq] at hk
                  have := g5.size
                  omega
              have o4 : OwnP w4 v' (ls ++ [x]) := by
                unfold OwnP
                rw [plcells_append, List.length_append]
                exact hown4
              have A := Lib.hid (And.intro o4 (And.intro g4 b4))
              clear o4 g4 b4 e4 g5 hown4 hgr4 hblk4 own5 x0 x1
              go_wp2
              go_roundg (m - (j + 1))
              case measure => have := HJ.out.1; omega
              case rel => exact ⟨j + 1, ls ++ [x], by omega, rfl, by go_num, A.out.1, ⟨fun y hy => List.mem_append_left _ (HJ.out.2.2.1.1 y hy), fun y hy => by
                rcases List.mem_append.1 hy with h | h
                · exact HJ.out.2.2.1.2.1 y h
                · obtain rfl := List.mem_singleton.1 h
                  exact List.mem_append_right _ HXO.out, by rw [List.length_append, List.length_singleton]; omega⟩, A.out.2.2, A.out.2.1⟩
          · have j1 : ¬ (j : Int) < (m : Int) := by omega
            go_upto_region 16 with fail
            have hll := HJ.out.2.2.1.2.2
            have hk12 := (HJ.out.2.2.2.2.block _ (heap_lt HK.out.2.2.2.1) (fun h => h)).trans HK.out.2.2.2.1
            have hmq := HK.out.2.2.2.2.1.ext HJ.out.2.2.2.2 (fun h => h)
            obtain ⟨S, hS⟩ := exists_sorted ls
            have hSl : InOrder S ls := hS
            obtain ⟨p, hp⟩ : ∃ p, (roundP S pos (begun || decide (0 < i))).head? = some p := by
              cases he : roundP S pos (begun || decide (0 < i)) with
              | nil =>
                exfalso
                have hl1 := H.out.2.2.2.1
                have hx : l[0]'(by omega) ∈ S := (hSl.2 _).2 (HJ.out.2.2.1.1 _ (List.getElem_mem _))
                have := (mem_roundP S pos (begun || decide (0 < i)) _).2 hx
                rw [he] at this
                cases this
              | cons a t => exact ⟨a, rfl⟩
            obtain ⟨hfs', hpls⟩ := HK.out.2.1.step hSl HJ.out.2.2.1.1 HJ.out.2.2.1.2.1 hp
            have hpk : p.okay := by
              rcases List.mem_append.1 (HJ.out.2.2.1.2.1 p hpls) with h | h
              · exact H.out.2.2.2.2.2.1 p h
              · exact H.out.2.2.2.2.2.2.1 p h
            have HP := Lib.hid (And.intro hSl (And.intro hp (And.intro hfs' (And.intro hpls (And.intro hpk (And.intro hk12 hmq))))))
            have c0 := cell_of_heap hk12 0
            have c1 := cell_of_heap hk12 1
            simp at c0 c1
            clear hS hSl hp hfs' hpls hpk hk12 hmq
            go_cut [17, 18] (fun v17 v18 w' => ∃ b17 : Nat, v17 = .pointer (some ⟨b17, 0, none⟩) ∧ v18 = .bool true ∧ w'.heap[b17]? = some (.cells #[.int .i64 p.flow, .int .u64 p.gen] 28 (0, 0)) ∧ wr.heap.size ≤ b17 ∧ Grows wr w')
            case first =>
              obtain ⟨bb, hbb⟩ : ∃ bb, (begun || decide (0 < i)) = bb := ⟨_, rfl⟩
              have hcase : (begun = true ∧ bb = true) ∨ (begun = false ∧ i = 0 ∧ bb = false) ∨ (begun = false ∧ (0 : Int) < (i : Int) ∧ bb = true) := by
                cases begun with
                | true => exact .inl ⟨rfl, by simpa using hbb.symm⟩
                | false =>
                  rcases Nat.eq_zero_or_pos i with h | h
                  · exact .inr (.inl ⟨rfl, h, by rw [← hbb, h]; rfl⟩)
                  · exact .inr (.inr ⟨rfl, by omega, by rw [← hbb]; simp [h]⟩)
              have HBB := Lib.hid hbb
              clear hbb
              rcases hcase with ⟨rfl, rfl⟩ | ⟨rfl, rfl, rfl⟩ | ⟨rfl, hi9, rfl⟩
              all_goals
                go_wp2_with fail
                refine (next_some HP.out.1 pos _ HJ.out.2.1 (by omega) p (by first | exact HBB.out ▸ HP.out.2.1 | simpa using HP.out.2.1)).mono ?_
                rintro e w5 ⟨rfl, hg5⟩
                have hb5 : (w5.alloc (.cells #[.int .i64 p.flow, .int .u64 p.gen] 28)).heap[w5.heap.size]? = some (.cells #[.int .i64 p.flow, .int .u64 p.gen] 28 (0, 0)) := heap_alloc_new w5 _
                have H5 := Lib.hid (And.intro hb5 (And.intro hg5.size (hg5.alloc (.cells #[.int .i64 p.flow, .int .u64 p.gen] 28))))
                clear hb5 hg5 c0 c1
                go_wp2
                go_meet
                case rel => exact ⟨w5.heap.size, rfl, rfl, H5.out.1, H5.out.2.1, H5.out.2.2⟩
            case rest =>
            obtain ⟨b17, rfl, rfl, hb17, hn17, hgc⟩ := hcut
            have HC := Lib.hid (And.intro hb17 (And.intro hn17 hgc))
            clear hb17 hn17 hgc c0 c1
            go_wp2
            go_loopg [19, 20] ls.length (fun k vb c wx => ∃ (j : Nat) (b : Bool), j ≤ ls.length ∧ k = ls.length - j ∧ c = .int .i64 (j : Nat) ∧ vb = .bool b ∧ decide (p ∈ ls.take j) = b ∧ Grows wc wx)
            case atStart => exact ⟨0, false, by omega, by omega, rfl, rfl, by simp, Ext.refl _ _⟩
            case round =>
              obtain ⟨j, b, hj2, hkj, rfl, rfl, hdb, hgx⟩ := hrel
              have HX := Lib.hid (And.intro hkj (And.intro hdb hgx))
              clear hkj hdb hgx
              have k17 := (HX.out.2.2.block _ (heap_lt HC.out.1) (fun h => h)).trans HC.out.1
              have p0 := cell_of_heap k17 0
              have p1 := cell_of_heap k17 1
              simp at p0 p1
              by_cases hjl2 : j < ls.length
              · have j2 : (j : Int) < (ls.length : Int) := by omega
                have j0 : (0 : Int) ≤ (j : Int) := by omega
                obtain ⟨g, off, cap, e, _, ⟨y0, y1⟩, _⟩ := OwnP.at (HJ.out.2.1.grows (HC.out.2.2.trans HX.out.2.2)) j hjl2
                injection e with e1 e2 e3
                subst e1 e3
                clear e2
                obtain ⟨y, hy⟩ : ∃ y, ls[j] = y := ⟨_, rfl⟩
                rw [hy] at y0 y1
                have hms : decide (p ∈ ls.take (j + 1)) = (b || decide (y = p)) := by
                  rw [← HX.out.2.1, List.take_succ_eq_append_getElem hjl2, Bool.eq_iff_iff, Bool.or_eq_true, decide_eq_true_eq, decide_eq_true_eq, decide_eq_true_eq, List.mem_append, List.mem_singleton, hy]
                  exact or_congr Iff.rfl ⟨Eq.symm, Eq.symm⟩
                have HMS := Lib.hid hms
                have hgd := eqGuardP
                clear hy hms k17
                cases b with
                | true =>
                  clear p0 p1 y0 y1
                  go_upto_region 23 with fail
                  go_quiet (fail)
                  go_wp2
                  go_roundg (ls.length - (j + 1))
                  case measure => have := HX.out.1; omega
                  case rel => exact ⟨j + 1, true, by omega, rfl, by go_num, rfl, by rw [HMS.out]; simp, HX.out.2.2.trans ⟨rfl, rfl, rfl, Nat.le_refl _, fun _ _ _ => rfl⟩⟩
                | false =>
                  have heq := eqS y p
                  obtain ⟨bb, hbb⟩ : ∃ bb, decide (y = p) = bb := ⟨_, rfl⟩
                  rw [hbb] at heq
                  have HBB := Lib.hid hbb
                  clear hbb
                  go_upto_region 23 with fail
                  go_quiet (fail)
                  clear p0 p1 y0 y1 heq
                  go_wp2
                  go_roundg (ls.length - (j + 1))
                  case measure => have := HX.out.1; omega
                  case rel => exact ⟨j + 1, bb, by omega, rfl, by go_num, rfl, by rw [HMS.out, HBB.out]; simp, HX.out.2.2.trans ⟨rfl, rfl, rfl, Nat.le_refl _, fun _ _ _ => rfl⟩⟩
              · have j2 : ¬ (j : Int) < (ls.length : Int) := by omega
                have hbt : b = true := by
                  rw [← HX.out.2.1, List.take_of_length_le (by omega), decide_eq_true_eq]
                  exact HP.out.2.2.2.1
                subst hbt
                obtain ⟨c, hc⟩ : ∃ c, countOf ps p = c := ⟨_, rfl⟩
                have hci : c ≤ i := by rw [← hc, ← HK.out.2.1.len]; exact List.count_le_length
                have look : ∀ (w' : World) (k : Nat), MapQ 3 .i64 w' bm k (fun p => (countOf ps p : Nat)) → (Instr.lookup 41 (.map (some bm)) (.agg #[.int .i64 p.flow, .int .u64 p.gen]) false).run Try.prog w' = .ok (.int .i64 (c : Nat)) w' := fun w' k h => by
                  have h9 := MapQ.look mapT h p HP.out.2.2.2.2.1
                  rw [h9]
                  simp only [hc]
                have hq0 : MapQ 3 .i64 wr bm i (fun p => (countOf ps p : Nat)) := HP.out.2.2.2.2.2.2.ext (HC.out.2.2.trans HX.out.2.2) (fun h => h)
                obtain ⟨vb0, sb, wb1, rb, eb, qb, tb⟩ := MapQ.entry (w := wr.drew) mapT hq0 (by unfold maxLen; omega) p HP.out.2.2.2.2.1
                have hwf : (Lit.int .i64 ((c : Int) + 1)).wf = true := wfPl1 (by omega)
                obtain ⟨wb3, rs, qs, es⟩ := tb wb1 ((c : Int) + 1) rfl hwf
                have L0 := look wr.drew i hq0
                have L1 := look wb1 (i + 1) qb
                have hbm : b17 ≠ bm := by have := HC.out.2.1; have := HP.out.2.2.2.2.2.2.lt; omega
                have hbl := heap_lt k17
                have P1 : wb1.cell? ⟨b17, 0, none⟩ = some (.int .i64 p.flow) ∧ wb1.cell? ⟨b17, 1, none⟩ = some (.int .u64 p.gen) := ⟨(eb.cell (p := ⟨b17, 0, none⟩) hbl hbm).trans p0, (eb.cell (p := ⟨b17, 1, none⟩) hbl hbm).trans p1⟩
                have e13 : Ext (fun k => k = bm) wr wb3 := ((Ext.refl _ wr).drew).trans (eb.trans es)
                have P3 : wb3.cell? ⟨b17, 0, none⟩ = some (.int .i64 p.flow) ∧ wb3.cell? ⟨b17, 1, none⟩ = some (.int .u64 p.gen) := ⟨(e13.cell (p := ⟨b17, 0, none⟩) hbl hbm).trans p0, (e13.cell (p := ⟨b17, 1, none⟩) hbl hbm).trans p1⟩
                have hu : setQ (fun p => ((countOf ps p : Nat) : Int)) p ((c : Int) + 1) = fun x => ((countOf (ps ++ [p]) x : Nat) : Int) := by
                  funext x
                  rw [countOf_snoc]
                  unfold setQ upd
                  by_cases hx : x = p
                  · subst hx; rw [if_pos rfl, if_pos rfl, hc]; push_cast; rfl
                  · rw [if_neg hx, if_neg hx]; simp
                rw [hu] at qs
                simp only [goInt] at rb rs
                have hw1 : IntKind.i64.wrap ((c : Int) + 1) = (c : Int) + 1 := by rw [IntKind.wrap_i64]; omega
                have hw2 : wrap64 ((c : Int) + 1) = (c : Int) + 1 := by unfold wrap64; omega
                have HQ := Lib.hid (And.intro qs (And.intro e13 (And.intro P1 (And.intro P3 hbm))))
                clear look hq0 eb qb tb hc hwf k17 es qs hu e13 P1 P3 hbm hbl
                go_upto_region 26 with fail
                go_cut [] (fun w' => w' = wb3)
                case first =>
                  go_region_held3 (fun w' => w'.cell? ⟨b17, 0, none⟩ = some (.int .i64 p.flow) ∧ w'.cell? ⟨b17, 1, none⟩ = some (.int .u64 p.gen))
                    (first
                      | go_keep
                      | exact HQ.out.2.2.1
                      | exact HQ.out.2.2.2.1)
                    (fail)
                  all_goals
                    go_wp2
                    go_meet
                    case rel => rfl
                case rest =>
                obtain rfl := hcut
                obtain ⟨p0, p1⟩ := HQ.out.2.2.2.1
                have hb12 : b12 ≠ bm := HM.out.2.2.2.2.1.symm
                have e0 : Ext (fun k => k = bm) wo wc := ((HJ.out.2.2.2.2.trans (HC.out.2.2.trans HX.out.2.2)).lift).trans HQ.out.2.1
                have hk12 := (e0.block _ (heap_lt HK.out.2.2.2.1) hb12).trans HK.out.2.2.2.1
                have c0 := cell_of_heap hk12 0
                have c1 := cell_of_heap hk12 1
                have f0 := frozen_of_heap hk12 0
                have f1 := frozen_of_heap hk12 1
                simp at c0 c1
                have hset : Ext (fun k => k = b12) wc ((wc.setCell ⟨b12, 0, none⟩ (.int .i64 p.flow)).setCell ⟨b12, 1, none⟩ (.int .u64 p.gen)) := Ext.setCell (S := fun k => k = b12) (Ext.setCell (S := fun k => k = b12) (Ext.refl _ _) ⟨b12, 0, none⟩ (Or.inr rfl) _) ⟨b12, 1, none⟩ (Or.inr rfl) _
                have hk5 := setCell_heap (setCell_heap hk12 0 (.int .i64 p.flow)) 1 (.int .u64 p.gen)
                have hq5 : MapQ 3 .i64 ((wc.setCell ⟨b12, 0, none⟩ (.int .i64 p.flow)).setCell ⟨b12, 1, none⟩ (.int .u64 p.gen)) bm (i + 1) (fun x => ((countOf (ps ++ [p]) x : Nat) : Int)) := HQ.out.1.ext hset (fun h => hb12 h.symm)
                have e05 : Ext (fun k => k = bm ∨ k = b12) wo ((wc.setCell ⟨b12, 0, none⟩ (.int .i64 p.flow)).setCell ⟨b12, 1, none⟩ (.int .u64 p.gen)) := (e0.mono (fun _ _ h => .inl h)).trans (hset.mono (fun _ _ h => .inr h))
                obtain ⟨D, hown, hDm, hDa⟩ := hq5
                have HD := Lib.hid (And.intro hDm (And.intro hDa (And.intro hk5 (And.intro e05 (And.intro hown hb12)))))
                clear hk12 hset hk5 e05 e0 hDm hDa hb12 L0 L1 rb rs HQ
                go_wp2_with (at_range; refine wpList_range_own _ rfl _ 41 rfl 28 3 keyedPl Try.underlying41 _ bm (i + 1) D rfl hown ?_; intro w6 hrg0 hg0 hs0)
                have hsz : ((wc.setCell ⟨b12, 0, none⟩ (.int .i64 p.flow)).setCell ⟨b12, 1, none⟩ (.int .u64 p.gen)).heap.size = wc.heap.size := by simp
                rw [hsz] at hrg0
                generalize hw5 : (wc.setCell ⟨b12, 0, none⟩ (.int .i64 p.flow)).setCell ⟨b12, 1, none⟩ (.int .u64 p.gen) = w5 at HD hown hrg0 hg0 hs0 hsz ⊢
                clear hw5 hown p0 p1 c0 c1 f0 f1
                have HR := Lib.hid (show Grows w5 w6 from Ext.of_grown (S := fun _ => False) hg0 (fun k hk => by simp at hk))
                generalize hrr : wc.heap.size = r at hrg0 hsz ⊢
                have hr := hsz
                have HRG := Lib.hid hrg0
                have HR5 := Lib.hid hr
                clear hg0 hs0 hrg0 hr hsz hrr
                go_loopg [21] (Maps.size D) (fun k vm wz => ∃ (mo : Nat) (left : Lit → Bool), vm = .int .i64 (mo : Nat) ∧ wz.ranges Try.prog 28 (plainElem Try.prog 3) bm r (i + 1) D left k ∧ (mo = 0 ∨ ∃ x : PlaceV, countOf (ps ++ [p]) x = mo) ∧ Grows w5 wz)
                case atStart => exact ⟨0, _, rfl, HRG.out, .inl rfl, HR.out⟩
                case round =>
                  obtain ⟨mo, left, rfl, hrg, hmo, hgz⟩ := hrel
                  have HZ := Lib.hid (And.intro hmo hgz)
                  have HRZ := Lib.hid hrg
                  clear hmo hgz
                  go_wp2_with (at_next; refine wpList_next_ranges _ rfl _ rfl 28 keyedPl (plainElem Try.prog 3) (fun x : PlaceV => .agg #[.int .i64 x.flow, .int .u64 x.gen]) (Value.int .i64) (fun key kl hkey => by obtain ⟨x, _, rfl⟩ := keyPl_inv hkey; exact ⟨x, rfl⟩) (fun v y hv => by obtain ⟨c, rfl, _⟩ := plainElem_int_inv Try.underlying3 hv; exact ⟨c, rfl⟩) bm r (i + 1) D left _ rfl hrg ?_ ?_)
                  · intro _ _
                    have hmqz : MapQ 3 .i64 wr bm (i + 1) (fun x => ((countOf (ps ++ [p]) x : Nat) : Int)) := ⟨D, hrg.owns, HD.out.1, HD.out.2.1⟩
                    have g5 : Grows w w5 := (HK.out.2.2.2.2.2.lift.trans HD.out.2.2.2.1).mono (fun k hk hh => by
                      have h1 := HM.out.2.2.2.1
                      have h2 := HM.out.2.2.2.2.2
                      rcases hh with h | h <;> omega)
                    have hmb : mo ≤ i + 1 := by
                      rcases HZ.out.1 with h | ⟨x, h⟩
                      · omega
                      · rw [← h, ← HP.out.2.2.1.len]; exact List.count_le_length
                    have hnear : ∀ y ∈ l, mo ≤ countOf (ps ++ [p]) y + 1 := fun y hy => by
                      rcases HZ.out.1 with h | ⟨x, h⟩
                      · omega
                      · rw [← h]; exact HP.out.2.2.1.near (Nat.succ_pos _) hy x
                    have HE := Lib.hid (And.intro hmqz (And.intro (g5.trans HZ.out.2) (And.intro hnear ((HZ.out.2.block _ (heap_lt HD.out.2.2.1) (fun h => h)).trans HD.out.2.2.1))))
                    have hw1 : IntKind.i64.wrap ((mo : Int) - 1) = (mo : Int) - 1 := by rw [IntKind.wrap_i64]; omega
                    have hw2 : wrap64 ((mo : Int) - 1) = (mo : Int) - 1 := by unfold wrap64; omega
                    clear hmqz g5 hmb hnear hrg HRZ
                    go_wp2
                    go_loopg [24] n (fun k c wy => ∃ j : Nat, j ≤ n ∧ k = n - j ∧ c = .int .i64 (j : Nat) ∧ Grows wr wy)
                    case atStart => exact ⟨0, by omega, by omega, rfl, Ext.refl _ _⟩
                    case round =>
                      obtain ⟨j, hj3, hk3, rfl, hgy⟩ := hrel
                      have HY := Lib.hid (And.intro hk3 hgy)
                      clear hk3 hgy
                      by_cases hjn : j < n
                      · have j1 : (j : Int) < (n : Int) := by omega
                        have j0 : (0 : Int) ≤ (j : Int) := by omega
                        have hll9 := H.out.2.2.2.1
                        obtain ⟨b, off, cap, e, hb, x0, x1⟩ := (H.out.1.grows (HE.out.2.1.trans HY.out.2)).2 j (by omega)
                        injection e with e1 e2 e3
                        subst e1 e3
                        clear e2
                        obtain ⟨y, hy⟩ : ∃ y, l[j]'(by omega) = y := ⟨_, rfl⟩
                        rw [hy] at x0 x1
                        have hyl : y ∈ l := by rw [← hy]; exact List.getElem_mem _
                        obtain ⟨h, hh⟩ : ∃ h, countOf (ps ++ [p]) y = h := ⟨_, rfl⟩
                        have hcmp : ¬ ((h : Int) < (mo : Int) - 1) := by have := HE.out.2.2.1 y hyl; omega
                        have lk := MapQ.look mapT (HE.out.1.ext HY.out.2 (fun h => h)) y (H.out.2.2.2.2.2.1 y hyl)
                        simp only [hh] at lk
                        clear hy hyl hh hll9 hb
                        go_wp2
                        clear x0 x1 lk hcmp
                        go_roundg (n - (j + 1))
                        case measure => have := HY.out.1; omega
                        case rel => exact ⟨j + 1, by omega, rfl, by go_num, HY.out.2⟩
                      · have j1 : ¬ (j : Int) < (n : Int) := by omega
                        go_wp2
                        go_roundg (2 * (n + m) - (i + 1))
                        case measure => have := HK.out.1; omega
                        case rel => exact ⟨i + 1, ps ++ [p], p, by omega, rfl, by go_num, HP.out.2.2.1, HP.out.2.2.2.2.1, (HY.out.2.block _ (heap_lt HE.out.2.2.2) (fun h => h)).trans HE.out.2.2.2, HE.out.1.ext HY.out.2 (fun h => h), HE.out.2.1.trans HY.out.2⟩
                  · intro x cx kl y1 y2 w7 cnt' hkey hlk hv hat hrg1 hlt9 hg1 hs1 hen
                    obtain ⟨cx', e1, e2, _⟩ := plainElem_int_inv Try.underlying3 hv
                    injection e1 with _ e1
                    subst e1
                    obtain ⟨e2, _⟩ := Prod.mk.inj e2
                    have hxk : x.okay := by
                      obtain ⟨x', hx', e3⟩ := keyPl_inv hkey
                      simp only [Value.agg.injEq, Array.mk.injEq, List.cons.injEq, Value.int.injEq, true_and, and_true] at e3
                      obtain rfl : x = x' := PlaceV.ext' e3.1 (by have := e3.2; omega)
                      exact hx'
                    have h9 := HD.out.2.1 x hxk kl hkey
                    rw [hat, e2] at h9
                    have h8 : cx = ((countOf (ps ++ [p]) x : Nat) : Int) := (Lit.int.inj (DataW.lit.inj h9)).2
                    obtain ⟨cc, hcc⟩ : ∃ cc, countOf (ps ++ [p]) x = cc := ⟨_, rfl⟩
                    rw [hcc] at h8
                    subst h8
                    have hmx : max (mo : Int) (cc : Int) = ((max mo cc : Nat) : Int) := by omega
                    have hmy : (max mo cc = 0 ∨ ∃ x : PlaceV, countOf (ps ++ [p]) x = max mo cc) := by
                      rcases Nat.le_total mo cc with h | h
                      · rw [Nat.max_eq_right h]; exact .inr ⟨x, hcc⟩
                      · rw [Nat.max_eq_left h]; exact HZ.out.1
                    have g7 : Grows w5 w7 := (HZ.out.2.lift.trans (Ext.of_grown (S := fun k => k = r) hg1 (fun k hk => (Option.some.inj hk).symm))).mono (fun k hk hh => by have := HR5.out; omega)
                    have H7 := Lib.hid (And.intro hrg1 (And.intro hlt9 (And.intro hmy g7)))
                    clear hkey hlk hv hat hrg1 hlt9 hg1 hs1 e2 hxk h9 hcc hmy g7 hrg
                    go_wp2
                    go_roundg cnt'
                    case measure => exact H7.out.2.1
                    case rel => exact ⟨max mo cc, _, rfl, H7.out.1, H7.out.2.2.1, H7.out.2.2.2⟩
      · have i1 : ¬ (i : Int) < 2 * ((n : Int) + (m : Int)) := by omega
        have hmq := HK.out.2.2.2.2.1
        have hg := HK.out.2.2.2.2.2
        have hall : ∀ y ∈ l, 0 < countOf ps y := fun y hy => HK.out.2.1.all (by rw [List.length_append]; have := H.out.2.2.2.1; have := H.out.2.2.2.2.1; omega) hy
        have HE := Lib.hid (And.intro hmq (And.intro hg hall))
        clear hmq hg hall
        go_wp2
        go_loopg [25] n (fun k c wy => ∃ j : Nat, j ≤ n ∧ k = n - j ∧ c = .int .i64 (j : Nat) ∧ Grows wo wy)
        case atStart => exact ⟨0, by omega, by omega, rfl, Ext.refl _ _⟩
        case round =>
          obtain ⟨j, hj3, hk3, rfl, hgy⟩ := hrel
          have HY := Lib.hid (And.intro hk3 hgy)
          clear hk3 hgy
          by_cases hjn : j < n
          · have j1 : (j : Int) < (n : Int) := by omega
            have j0 : (0 : Int) ≤ (j : Int) := by omega
            have hll9 := H.out.2.2.2.1
            obtain ⟨b, off, cap, e, hb, x0, x1⟩ := (H.out.1.grows (HE.out.2.1.trans HY.out.2)).2 j (by omega)
            injection e with e1 e2 e3
            subst e1 e3
            clear e2
            obtain ⟨y, hy⟩ : ∃ y, l[j]'(by omega) = y := ⟨_, rfl⟩
            rw [hy] at x0 x1
            have hyl : y ∈ l := by rw [← hy]; exact List.getElem_mem _
            obtain ⟨h, hh⟩ : ∃ h, countOf ps y = h := ⟨_, rfl⟩
            have hcmp : ((h : Int) == 0) = false := by have := HE.out.2.2 y hyl; simp; omega
            have lk := MapQ.look mapT (HE.out.1.ext HY.out.2 (fun h => h)) y (H.out.2.2.2.2.2.1 y hyl)
            simp only [hh] at lk
            clear hy hyl hh hll9 hb
            go_wp2
            clear x0 x1 lk hcmp
            go_roundg (n - (j + 1))
            case measure => have := HY.out.1; omega
            case rel => exact ⟨j + 1, by omega, rfl, by go_num, HY.out.2⟩
          · have j1 : ¬ (j : Int) < (n : Int) := by omega
            go_wp2_with fail
            refine (sched_wakes _).mono ?_
            rintro e w9 ⟨rfl, hg9⟩
            have HZ := Lib.hid ((HE.out.2.1.trans HY.out.2).trans hg9)
            clear hg9
            go_wp2
            go_ret
            exact ⟨rfl, Ext.to_below HZ.out⟩
namespace SchedFairShell
theorem own : ownKnob Try.prog.godebug = none := by kernel_rfl
theorem laidOut : laidOutB Try.prog = true := by kernel_rfl
set_option maxRecDepth 100000 in
theorem lifted (os : Os) (started : os.Started) (H : Type) (enc : TypeId × Value → H) :
    ReturnsInHanded {} Try.checked os 4 .any (Rows.schedFairSpec.pre6 enc Try.prog Try.f4 Rows.schedFairRow.domain false) (Rows.schedFairSpec.post enc Try.prog Try.f4 false true false false) := by
  refine returnsInHanded_of_change_sized (C := Try.checked) own started (by kernel_rfl) Try.func4
    (ChangeSpec.witness6 (enc := enc) (C := Try.checked) false ⟨#[], #[.slice none 0 0, .slice none 0 0, .slice none 0 0, .agg #[.int .i64 0, .int .u64 0], .bool false], []⟩ 8 (by kernel_rfl) (by kernel_rfl) (by kernel_rfl) (by kernel_rfl)) ?_
  intro W base args ds gs before hval0 hW hcnd hsz0 _
  have hval : ∀ (j : Nat) t v, Try.f4.params[j]? = some t → args[j]? = some v → Value.okWide Try.prog W .any base t v := hval0
  have hsz : (DataW.weightsEach Try.prog (Try.f4.params.toList ++ Rows.schedFairSpec.plain.varTypes Try.prog) (ds ++ gs)).all (· ≤ reachBytes) = true := hsz0
  have hW' := hW
  obtain ⟨p, q, hA0, hV, rfl, hfz, hnd⟩ := hW
  have hA : DataW.TrodAll enc Try.prog W 0 (fun _ => true) true Try.f4.params.toList args.toList ds p := hA0
  rw [Try.params4] at hA hval hsz
  obtain ⟨v0, vs0, d0, ds0, p0, q0, hargs, rfl, rfl, h0, r0⟩ := trodAll_cons hA
  obtain ⟨v1, vs1, d1, ds1, p1, q1, rfl, rfl, rfl, h1, r1⟩ := trodAll_cons r0
  obtain ⟨v2, vs2, d2, ds2, p2, q2, rfl, rfl, rfl, h2, r2⟩ := trodAll_cons r1
  obtain ⟨v3, vs3, d3, ds3, p3, q3, rfl, rfl, rfl, h3, r3⟩ := trodAll_cons r2
  obtain ⟨v4, vs4, d4, ds4, p4, q4, rfl, rfl, rfl, h4, r4⟩ := trodAll_cons r3
  obtain ⟨rfl, rfl, rfl⟩ := trodAll_nil r4
  obtain rfl : args = #[v0, v1, v2, v3, v4] := by cases args; simp_all
  obtain ⟨rfl, rfl⟩ := trodVars_none hV
  have k0 := h0
  have lt0 : ∀ x ∈ p0, x.block < W.heap.size := by obtain ⟨m, hm⟩ := k0; exact DataW.trod_lt m _ _ _ hm
  have k1 := h1
  have lt1 : ∀ x ∈ p1, x.block < W.heap.size := by obtain ⟨m, hm⟩ := k1; exact DataW.trod_lt m _ _ _ hm
  have k2 := h2
  have lt2 : ∀ x ∈ p2, x.block < W.heap.size := by obtain ⟨m, hm⟩ := k2; exact DataW.trod_lt m _ _ _ hm
  have k3 := h3
  have lt3 : ∀ x ∈ p3, x.block < W.heap.size := by obtain ⟨m, hm⟩ := k3; exact DataW.trod_lt m _ _ _ hm
  have k4 := h4
  have lt4 : ∀ x ∈ p4, x.block < W.heap.size := by obtain ⟨m, hm⟩ := k4; exact DataW.trod_lt m _ _ _ hm
  obtain ⟨a0, w0⟩ := open_placesk (hval 0 22 v0 rfl rfl) h0 hsz (j := 0) rfl rfl
  obtain ⟨a1, w1⟩ := open_placesk (hval 1 22 v1 rfl rfl) h1 hsz (j := 1) rfl rfl
  obtain ⟨a2, w2⟩ := open_bytesk (hval 2 40 v2 rfl rfl) h2 hsz (j := 2) rfl rfl
  obtain ⟨a3, w3⟩ := open_placek (hval 3 25 v3 rfl rfl) h3 hsz (j := 3) rfl rfl
  obtain ⟨a4, rfl, rfl, rfl⟩ := open_bool Try.underlying4 (hval 4 4 v4 rfl rfl) h4
  clear hA0 hval0 hsz0
  refine (SchedFair_walk v0 a0 v1 a1 v2 a2 v3 a3 a4 W w0 w1 w2 w3).mono fun e W' ⟨he, bel⟩ => ?_
  subst he
  exact ⟨_, rfl, _, _, _, [], _, [], hW', trodAll_mk1 (shut_bool Try.underlying4 _), (trodAll_cons_mk (Below.trod laidOut (by kernel_rfl) (of_decide_eq_true (by kernel_rfl)) k0 bel lt0) (trodAll_cons_mk (Below.trod laidOut (by kernel_rfl) (of_decide_eq_true (by kernel_rfl)) k1 bel lt1) (trodAll_cons_mk (Below.trod laidOut (by kernel_rfl) (of_decide_eq_true (by kernel_rfl)) k2 bel lt2) (trodAll_cons_mk (Below.trod laidOut (by kernel_rfl) (of_decide_eq_true (by kernel_rfl)) k3 bel lt3) (trodAll_cons_mk (Below.trod laidOut (by kernel_rfl) (of_decide_eq_true (by kernel_rfl)) k4 bel lt4) trodAll_mk0))))), rfl, bel.frame _, fun h => by cases h⟩
theorem over : Rows.schedFairRow.holds Try.pinned (OpenSpec.ofChange Rows.schedFairSpec) :=
  OpenClaim.holds_of_wide 4 Try.f4 rfl rfl rfl rfl rfl rfl rfl ⟨rfl, rfl, rfl, rfl, rfl⟩ rfl rfl rfl rfl rfl (by kernel_rfl) Try.func4 (by kernel_rfl)
    (of_decide_eq_true (by kernel_rfl)) (by unfold Func.isWrapper; first | (rw [if_pos (by decide +kernel)]; kernel_rfl) | (rw [if_neg (by decide +kernel)]; exact ⟨rfl, rfl⟩))
    (fun os started H enc _ => lifted os started H enc)
end SchedFairShell
theorem SchedFair_holds : Rows.SchedFairSaid := SchedFairShell.over
#print axioms SchedFair_holds
end Go.Proofs.Ytlejdhgchanilaa
