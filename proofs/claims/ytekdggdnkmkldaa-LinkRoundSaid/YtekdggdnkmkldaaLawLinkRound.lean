/- LinkRound: as long as a next hop tells the same, picks and uses go through all places that may be sent, one by one, round; any ranks, bases, window; no condition. -/
import Derived.Test.YtekdggdnkmkldaaLinkL
import Derived.Test.YtekdggdnkmkldaaOpen
import Derived.Deep.DeepCutAuto
import Derived.Deep.RegionHeld3
namespace Go.Proofs.Ytekdggdnkmkldaa
set_option linter.unusedVariables false
set_option linter.unusedSimpArgs false
set_option maxRecDepth 1500
open Go.ChangeShapes Go.WideShapes Go.ChangeAt Go.RowKit Go.Maps

theorem get_eq {α : Type} {l : List α} {a b : Nat} (h : a = b) (ha : a < l.length) (hb : b < l.length) : l[a] = l[b] := by subst h; rfl
/-- A statement at which the walk is to stand still. -/
def HeldI (p : Prop) : Prop := p
theorem held_i {n : Nat} {P : Program} {ops : Array Oper} {b : Bool} {d rest : Code} {Q : Exit → Act → World → Prop} {a : Act} {w : World} (h : HeldI ((Code.seq (Code.seq (Code.region n ops b) d) rest).wp P Q a w)) :
    (Code.seq (Code.seq (Code.region n ops b) d) rest).wp P Q a w := h
set_option maxHeartbeats 16000000 in
theorem LinkRound_walk (v : Value) (rv : RoundV) (w : World) (h : RoundIs w v rv) :
    Calls Try.prog 4 #[v] w fun e w' => e = .returned (.bool true) ∧ Below w.heap.size w w' := by
  obtain ⟨cs, rfl, ho, ht, hb, hw, hw2, hok⟩ := h
  have HR := Lib.hid (And.intro ho (And.intro ht (And.intro hb hok)))
  have HW := Lib.hid hw
  clear ho ht hb hw hok
  have hm2 : ∀ w : World, (Instr.makeSlice 34 (.int .i64 2) (.int .i64 2)).run Try.prog w = .ok (.slice (some ⟨w.heap.size, 0, none⟩) 2 2) (w.alloc (.cells #[.slice none 0 0, .slice none 0 0] 60)) := fun w => by kernel_rfl
  have hmm := @run_makeMap Try.prog
  go_enter Try.func4, Try.ntmps4
  go_wp2_with fail
  refine (out_new 1 2 _ (by omega) (by unfold Most; omega) (by omega) (by omega)).mono ?_
  rintro e w1 ⟨o, rfl, h1⟩
  have H1 := Lib.hid (Star.mkR (parts_blk w.heap.size (.cells cs 58 (0, 0))) (parts_outo o 0 (newV 1 2)) (Blk.new w _) h1)
  clear h1
  generalize w.heap.size = b1 at H1 ⊢
  go_wp2_with fail
  refine (awake22 _).mono ?_
  rintro e w2 ⟨rfl, g2⟩
  have H2 := Lib.hid ((parts_star (parts_blk _ _) (parts_outo _ _ _)).more H1.out g2)
  clear H1 g2
  go_wp2_with fail
  refine (Star.opR (Q := fun e _ => e = .returned (.int .i64 0)) H2.out (parts_blk _ _) (parts_outo o 0 (rv.x 0)) (fun _ h => out_credit h 1 1 1000 0 kr1)).mono ?_
  rintro e w3 ⟨rfl, h3⟩
  have H3 := Lib.hid h3
  clear h3 H2
  have kw : w3.cell? ⟨b1, 82, none⟩ = some (.int .u8 rv.window) := by
    have hb := (Star.l (parts_blk _ _) H3.out).1
    rw [cell_of_heap hb]
    exact HW.out
  have hWv : (1 + (rv.window : Int) % 16) = (rv.W : Int) := by unfold RoundV.W; omega
  go_wp2_with fail
  clear hWv kw hm2 hmm
  have h4 := Star.mkR (parts_star (parts_blk _ _) (parts_outo _ _ _)) (parts_blk _ _) H3.out (Blk.new w3 (.cells #[.slice none 0 0, .slice none 0 0] 60 (0, 0)))
  have h5 := Star.mkR (parts_star (parts_star (parts_blk _ _) (parts_outo _ _ _)) (parts_blk _ _)) (parts_mapw _ _) h4 (MapW.made (w3.alloc (.cells #[.slice none 0 0, .slice none 0 0] 60)))
  have hs5 : (w3.alloc (.cells #[.slice none 0 0, .slice none 0 0] 60)).heap.size = w3.heap.size + 1 := alloc_size1 _ _
  rw [hs5] at h5
  have h6 := Star.mkR (parts_star (parts_star (parts_star (parts_blk _ _) (parts_outo _ _ _)) (parts_blk _ _)) (parts_mapw _ _)) (parts_slr (.slice none 0 0) []) h5 (SlO.nil _ _ (Frm.of _) _ (Ext.refl _ _))
  have h7 := Star.mkR (parts_star (parts_star (parts_star (parts_star (parts_blk _ _) (parts_outo _ _ _)) (parts_blk _ _)) (parts_mapw _ _)) (parts_slr (.slice none 0 0) [])) (parts_slr (.slice none 0 0) []) h6 (SlO.nil _ _ (Frm.of _) _ (Ext.refl _ _))
  have HS := Lib.hid (show FL rv b1 cs o w3.heap.size (w3.heap.size + 1) 0 (Frm.of w) ((w3.alloc (.cells #[.slice none 0 0, .slice none 0 0] 60)).alloc (.map #[] 0)) from h7)
  clear h4 h5 h6 h7 hs5 H3
  generalize (w3.alloc (.cells #[.slice none 0 0, .slice none 0 0] 60)).alloc (.map #[] 0) = w5 at HS ⊢
  generalize w3.heap.size + 1 = bm at HS ⊢
  generalize w3.heap.size = g at HS ⊢
  go_loopg [48] 2 (fun k c wr => ∃ f : Nat, f ≤ 2 ∧ k = 2 - f ∧ c = .int .i64 (f : Nat) ∧ FL rv b1 cs o g bm f (Frm.of w) wr)
  case atStart => exact ⟨0, by omega, by omega, rfl, HS.out⟩
  case round =>
    obtain ⟨f, hf, hkf, rfl, hS⟩ := hrel
    have HK := Lib.hid hkf
    clear hkf HS
    by_cases hf2 : f < 2
    · obtain ⟨S, va0, inn, hS0⟩ := flow_in HR.out.2.2.2 hf2 hS
      have I := Lib.hid inn
      have HS0 := Lib.hid hS0
      clear inn hS0 hS
      have f0 : (0 : Int) ≤ (f : Int) := by omega
      have f1 : (f : Int) < 2 := by omega
      have kb : wr.cell? ⟨b1, 80 + f, none⟩ = some (.int .u8 (rv.base f)) := by
        rw [cell_of_heap (I.out.bo HS0.out)]
        exact HR.out.2.2.1 f hf2
      have hbv : ((rv.base f : Nat) : Int) % 100 = (rv.b f : Int) := by unfold RoundV.b; omega
      have hb0 : rv.base f < 256 := HR.out.2.2.2.base f
      go_wp2_with fail
      rw [hbv]
      clear kb hbv hb0
      obtain ⟨wo, hwo⟩ : ∃ wo, wo = wr := ⟨_, rfl⟩
      subst hwo
      go_loopg [10, 57] 20 (fun k vt c wr => ∃ (i : Nat) (va : Value), i ≤ 20 ∧ k = 20 - i ∧ c = .int .i64 (i : Nat) ∧ S i i i va vt (Frm.of w) wr)
      case atStart => exact ⟨0, va0, by omega, by omega, rfl, HS0.out⟩
      case round =>
        obtain ⟨i, va, hi, hki, rfl, hS⟩ := hrel
        have HKI := Lib.hid hki
        have HI := Lib.hid hS
        clear hki hS HS0
        by_cases hlt : i < 20
        · have i0 : (0 : Int) ≤ (i : Int) := by omega
          have i1 : (i : Int) < 20 := by omega
          have hbl := rv.b_lt f
          obtain ⟨gn, hgn⟩ : ∃ gn, rv.b f + i = gn := ⟨_, rfl⟩
          have hgi : (rv.b f : Int) + (i : Int) = (gn : Int) := by omega
          obtain ⟨on, hon⟩ : ∃ on, rv.own f i = on := ⟨_, rfl⟩
          obtain ⟨tn, htn⟩ : ∃ tn, rv.told f i = tn := ⟨_, rfl⟩
          have ho2 : on < 256 := by rw [← hon]; exact HR.out.2.2.2.own _ _
          have ht2 : tn < 256 := by rw [← htn]; exact HR.out.2.2.2.told _ _
          have hbb := I.out.bo HI.out
          have ka : wr.cell? ⟨b1, f * 20 + i, none⟩ = some (.int .u8 on) := by
            rw [cell_of_heap hbb, ← hon]
            exact HR.out.1 f i hf2 hlt
          have kt : wr.cell? ⟨b1, 40 + f * 20 + i, none⟩ = some (.int .u8 tn) := by
            rw [cell_of_heap hbb, ← htn, Nat.add_assoc]
            exact HR.out.2.1 f i hf2 hlt
          clear hbb
          have HN := Lib.hid (And.intro hgn (And.intro hon htn))
          clear hgn hon htn
          go_upto_region 16 with fail
          go_quiet (fail)
          have HI2 := Lib.hid (I.out.more HI.out (Ext.drewN_r nq))
          clear ka kt HI
          generalize wr.drewN nq = wb at HI2 ⊢
          obtain ⟨ta, tc, rfl⟩ := (I.out.told HI2.out).form
          go_upto_if 79 with fail
          go_cut [] (fun w' => ∃ va' : Value, S (i + 1) i i va' (.slice ta (rv.toldR f i).length tc) (Frm.of w) w')
          case first =>
            have hlo := rv.own_len f i
            by_cases hp : 0 < on
            · have x1 : (0 : Int) < (on : Int) := by omega
              have hpo : rv.pOwn f i = true := by unfold RoundV.pOwn; rw [HN.out.2.1]; exact decide_eq_true hp
              obtain ⟨xa, xc, rfl⟩ := (I.out.own HI2.out).form
              obtain ⟨kg, _⟩ := I.out.go HI2.out
              have own5 := (I.out.own HI2.out).grows ((Ext.refl (fun _ => False) wb).alloc (.cells #[.int .u64 gn, .int .i64 on] 62))
              have HP := Lib.hid hpo
              clear hpo
              go_wp2_with (at_builtin; refine wpList_append_ownS rfl (.tmp 85) (.tmp 89) 60 60 rfl 62 (.agg #[.int .u64 0, .int .i64 0]) 2 16 Try.underlying60 infoRank rfl _ _ rfl rfl (rv.ownR f i).length (acells (rv.ownR f i)) own5 1 [.int .u64 gn, .int .i64 on] (src_two Try.underlying60 (heap_alloc_new wb _) rfl rfl) (by unfold maxLen; omega) (by omega) ?_)
              intro v' w6 hown6 hgr6 hblk6
              obtain ⟨qa, qc, rfl⟩ := hown6.form
              obtain ⟨hS6, kg6, kf6⟩ := I.out.ownY HI2.out HP.out ((Ext.refl _ wb).alloc _) (by rw [HN.out.1, HN.out.2.1]; exact hown6) hgr6 (by simpa using hblk6)
              have A := Lib.hid hS6
              clear hown6 hgr6 hblk6 hS6 own5 kg
              go_wp2
              go_meet
              exact ⟨_, A.out⟩
            · have x1 : ¬ (0 : Int) < (on : Int) := by omega
              have hpo : ¬ rv.pOwn f i = true := by unfold RoundV.pOwn; rw [HN.out.2.1]; simpa using hp
              have A := Lib.hid (I.out.ownN HI2.out hpo)
              clear hpo
              go_wp2
              go_meet
              exact ⟨va, A.out⟩
          case rest =>
            obtain ⟨vb, hS2⟩ := hcut
            have HI3 := Lib.hid hS2
            clear hS2 HI2
            go_upto_region 19 with (with_reducible refine held_i (n := 19) ?_)
            unfold HeldI
            go_step
            go_cut [10] (fun s w' => S (i + 1) (i + 1) i vb s (Frm.of w) w')
            case first =>
              have hlo := rv.told_len f i
              by_cases hp : 0 < tn ∧ i < 16
              · have x1 : (0 : Int) < (tn : Int) := by omega
                have x2 : (i : Int) < 16 := by omega
                have hpo : rv.pTold f i = true := by unfold RoundV.pTold; rw [HN.out.2.2]; simpa using hp
                have own5 := (I.out.told HI3.out).grows ((Ext.refl (fun _ => False) wc).alloc (.cells #[.int .u64 gn, .int .i64 tn] 62))
                have HP := Lib.hid hpo
                clear hpo hp
                go_wp2_with (at_builtin; refine wpList_append_ownS rfl (.tmp 98) (.tmp 102) 60 60 rfl 62 (.agg #[.int .u64 0, .int .i64 0]) 2 16 Try.underlying60 infoRank rfl _ _ rfl rfl (rv.toldR f i).length (acells (rv.toldR f i)) own5 1 [.int .u64 gn, .int .i64 tn] (src_two Try.underlying60 (heap_alloc_new wc _) rfl rfl) (by unfold maxLen; omega) (by omega) ?_)
                intro v' w6 hown6 hgr6 hblk6
                have A := Lib.hid (I.out.toldY HI3.out HP.out ((Ext.refl _ wc).alloc _) (by rw [HN.out.1, HN.out.2.2]; exact hown6) hgr6 (by simpa using hblk6))
                clear hown6 hgr6 hblk6 own5
                go_wp2
                go_meet
                exact A.out
              · have hpo : ¬ rv.pTold f i = true := by unfold RoundV.pTold; rw [HN.out.2.2]; simpa using hp
                have A := Lib.hid (I.out.toldN HI3.out hpo)
                clear hpo
                by_cases hp1 : 0 < tn
                · have x1 : (0 : Int) < (tn : Int) := by omega
                  have x2 : ¬ (i : Int) < 16 := by omega
                  clear hp
                  go_wp2
                  go_meet
                  exact A.out
                · have x1 : ¬ (0 : Int) < (tn : Int) := by omega
                  clear hp
                  go_wp2
                  go_meet
                  exact A.out
            case rest =>
              have HI4 := Lib.hid hcut
              clear hcut HI3
              go_upto_region 21 with (with_reducible refine held_i (n := 21) ?_)
              unfold HeldI
              go_step
              go_cut [14] (fun s w' => s = .int .i64 (rv.td f i : Nat) ∧ S (i + 1) (i + 1) i vb u10 (Frm.of w) w')
              case first =>
                by_cases h16 : 16 ≤ i
                · have x1 : (16 : Int) ≤ (i : Int) := by omega
                  have htd : rv.td f i = 0 := by unfold RoundV.td; rw [if_pos h16]
                  go_wp2
                  go_meet
                  exact ⟨by rw [htd]; rfl, HI4.out⟩
                · have x1 : ¬ (16 : Int) ≤ (i : Int) := by omega
                  have htd : rv.td f i = tn := by unfold RoundV.td; rw [if_neg h16]; exact HN.out.2.2
                  go_wp2
                  go_meet
                  exact ⟨by rw [htd], HI4.out⟩
              case rest =>
                obtain ⟨rfl, hS5⟩ := hcut
                have HI5 := Lib.hid hS5
                clear hS5 HI4
                by_cases hp1 : i < rv.W
                · have x1 : (i : Int) < (rv.W : Int) := by omega
                  by_cases hp2 : rv.td f i < on
                  · have x2 : (rv.td f i : Int) < (on : Int) := by omega
                    have hpw : rv.pWant f i = true := by unfold RoundV.pWant; rw [HN.out.2.1]; simp [hp1, hp2]
                    obtain ⟨D, n, kl, hn, d1, d2, d3⟩ := I.out.wantY HI5.out hpw hlt
                    rw [HN.out.1] at d2
                    have HD := Lib.hid d3
                    clear hpw d3 hp1 hp2
                    obtain ⟨w6, hr6, hown6, ht6⟩ := d1.store keyedPl Try.underlying59 (by unfold maxLen; omega) d2 (plainElem_int Try.underlying3 (a := 1) rfl)
                    have hg6 := ht6.grown
                    have A := Lib.hid (HD.out w6 hown6 hg6)
                    clear hown6 hg6 ht6 d1 d2
                    go_wp2
                    go_roundg (20 - (i + 1))
                    case measure => have := HKI.out; omega
                    case rel => exact ⟨i + 1, vb, by omega, rfl, by go_num, A.out⟩
                  · have x2 : ¬ (rv.td f i : Int) < (on : Int) := by omega
                    have hpw : ¬ rv.pWant f i = true := by unfold RoundV.pWant; rw [HN.out.2.1]; simp; omega
                    have A := Lib.hid (I.out.wantN HI5.out hpw)
                    clear hpw hp1 hp2
                    go_wp2
                    go_roundg (20 - (i + 1))
                    case measure => have := HKI.out; omega
                    case rel => exact ⟨i + 1, vb, by omega, rfl, by go_num, A.out⟩
                · have x1 : ¬ (i : Int) < (rv.W : Int) := by omega
                  have hpw : ¬ rv.pWant f i = true := by unfold RoundV.pWant; simp; omega
                  have A := Lib.hid (I.out.wantN HI5.out hpw)
                  clear hpw hp1
                  go_wp2
                  go_roundg (20 - (i + 1))
                  case measure => have := HKI.out; omega
                  case rel => exact ⟨i + 1, vb, by omega, rfl, by go_num, A.out⟩
        · obtain rfl : i = 20 := by omega
          go_wp2_with fail
          refine (I.out.feed HI.out).mono ?_
          rintro e w7 ⟨rfl, h7⟩
          have HF := Lib.hid h7
          clear h7 HI
          go_wp2
          go_roundg (2 - (f + 1))
          case measure => have := HK.out; omega
          case rel => exact ⟨f + 1, by omega, rfl, by go_num, HF.out⟩
    · obtain rfl : f = 2 := by omega
      obtain ⟨v0, v1, hS⟩ := hS
      have HS2 := Lib.hid hS
      clear hS
      obtain ⟨m, hm⟩ : ∃ m, rv.WL.length = m := ⟨_, rfl⟩
      have hm40 : m ≤ 40 := hm ▸ rv.len
      have HL : ∀ ty, (Builtin.len_ #[59] ty #[.map (some bm)]).run Try.prog wr = .ok (.int .i64 (m : Nat)) wr := fun ty => by
        obtain ⟨F, hM⟩ := (ctx6_M (parts_bo _ _) (parts_outo _ _ _) (parts_go _ _ _) (parts_slr _ _) (parts_slr _ _)).get HS2.out
        rw [← hm]
        exact hM.len ty
      have HM := Lib.hid hm
      clear hm
      have HP0 := Lib.hid (show PK rv b1 cs o g bm v0 v1 0 (rv.x 2) (.slice none 0 0) (rv.WL.take 0) (Frm.of w) wr from Star.mkR (parts_rs6 (parts_bo _ _) (parts_outo _ _ _) (parts_go _ _ _) (parts_mapw _ _) (parts_slr _ _) (parts_slr _ _)) (parts_slp (.slice none 0 0) []) HS2.out (SlO.nil _ _ (Frm.of _) _ (Ext.refl _ _)))
      clear HS2
      go_wp2_with fail
      clear HL
      obtain ⟨wo, hwo⟩ : ∃ wo, wo = wr := ⟨_, rfl⟩
      subst hwo
      go_loopg [15, 129] (2 * m) (fun k vt c wr => ∃ (j : Nat) (x : OutV), j ≤ 2 * m ∧ k = 2 * m - j ∧ c = .int .i64 (j : Nat) ∧ PkV rv j x ∧ PK rv b1 cs o g bm v0 v1 j x vt (rv.WL.take j) (Frm.of w) wr)
      case atStart => exact ⟨0, _, by omega, by omega, rfl, PkV.start rv, HP0.out⟩
      case round =>
        obtain ⟨j, x, hj, hkj, rfl, hpv, hpk⟩ := hrel
        have HKJ := Lib.hid hkj
        have HP := Lib.hid (And.intro hpv hpk)
        clear hkj hpv hpk HP0
        by_cases hjm : j < 2 * m
        · have j0 : (0 : Int) ≤ (j : Int) := by omega
          have j1 : (j : Int) < 2 * (m : Int) := by omega
          have hjl : j < 2 * rv.WL.length := by rw [HM.out]; exact hjm
          obtain ⟨p, hp⟩ : ∃ p, rv.WL[rr rv.WL.length j]'(rr_lt hjl) = p := ⟨_, rfl⟩
          have hpm : p ∈ rv.WL := hp ▸ List.getElem_mem _
          have hpo := rv.mem_ok hpm
          have hsent : x.sent p = (sn rv.WL.length j (rr rv.WL.length j) : Nat) := by rw [← hp]; exact HP.out.1.sent _ (rr_lt hjl)
          rw [sn_rr hjl, HM.out] at hsent
          have hhd := HP.out.1.head hjl
          rw [hp] at hhd
          have huse := HP.out.1.use hjl
          rw [hp] at huse
          have HX := Lib.hid (And.intro hp (And.intro hpm (And.intro hpo (And.intro hsent (And.intro hhd huse)))))
          clear hpm hpo hsent hhd huse
          go_wp2_with fail
          obtain ⟨F, hO⟩ := HP.out.2.out
          refine (pick_some hO rv.W rv.W_le.1 rv.W_le.2 _ _ (HP.out.2.rss HR.out.2.2.2) (by rw [HP.out.1.len]; exact Nat.le_refl _) rv.WL HP.out.1.may.1 HP.out.1.may.2 p HX.out.2.2.2.2.1 (by rw [HP.out.1.used, HP.out.1.gr]; omega) p.flow p.gen rfl rfl).mono ?_
          rintro e w6 ⟨rfl, g6⟩
          have HB := Lib.hid (Star.mkR parts_pk (parts_blk w6.heap.size (.cells #[.int .i64 p.flow, .int .u64 (p.gen : Nat)] 31 (0, 0))) (parts_pk.more HP.out.2 g6) (Blk.new w6 _))
          clear g6 hO
          go_wp2_with fail
          generalize w6.alloc (.cells #[.int .i64 p.flow, .int .u64 (p.gen : Nat)] 31) = w7 at HB ⊢
          generalize w6.heap.size = b17 at HB ⊢
          obtain ⟨cnt, hcnt⟩ : ∃ cnt : Nat, (if j < m then 0 else 1) = cnt := ⟨_, rfl⟩
          have hc2 := HX.out.2.2.2.1
          rw [hcnt] at hc2
          have hc1 : cnt ≤ 1 := by rw [← hcnt]; split <;> omega
          have hdiv : j / m = cnt := by
            rw [← hcnt]
            split
            · exact Nat.div_eq_of_lt (by omega)
            · exact Nat.div_eq_of_lt_le (by omega) (by omega)
          have hq1 : (j : Int).tdiv (m : Int) = (cnt : Int) := by rw [← hdiv]; rfl
          have hq2 : (j : Int) / (m : Int) = (cnt : Int) := by rw [← hdiv]; rfl
          have hm0 : ((m : Int) == 0) = false := by simp; omega
          have hlen := HP.out.1.len
          refine (Star.opL (A' := PK rv b1 cs o g bm v0 v1 (j + 1) (x.use p) u15 (rv.WL.take j)) (Q := fun e _ => e = .returned (.tuple #[.int .u64 ((j + 1 : Nat) : Int), .int .u64 (cnt : Nat), .int .i64 0])) HB.out parts_pk (parts_blk _ _) (fun z h => h.use (fun z h => use_T h p HX.out.2.2.1.1.1 (by rw [hlen]; exact HX.out.2.2.1.1.2) (by have := HX.out.2.2.1.2; omega) (by rw [HP.out.1.used, HP.out.1.gr]; omega) (by unfold maxLen; omega) cnt hc2 (by omega) p.flow p.gen _ _ rfl rfl (by rw [HP.out.1.used]) rfl))).mono ?_
          rintro e w8 ⟨rfl, h8⟩
          have H8 := Lib.hid h8
          have hbk := (Star.r (parts_blk _ _) h8).1
          obtain ⟨F2, hM⟩ := PK.map (Star.l parts_pk h8)
          have hpok : p.okay := by have := HX.out.2.2.1; exact ⟨by omega, by omega⟩
          have LK := hM.look p hpok HX.out.2.1
          have HL : ∀ ty, (Builtin.len_ #[59] ty #[.map (some bm)]).run Try.prog w8 = .ok (.int .i64 (m : Nat)) w8 := fun ty => by
            rw [← HM.out]
            exact hM.len ty
          have HLd := Lib.hid (show ∀ (ty : TypeId) (n : Nat), (Builtin.len_ #[59] ty #[.map (some bm)]).run Try.prog (w8.drewN n) = .ok (.int .i64 (m : Nat)) (w8.drewN n) from fun ty n => by
            rw [← HM.out]
            exact ((parts_mapw _ _).more hM (Ext.drewN_r n)).len ty)
          have HQ := Lib.hid (And.intro hcnt hpok)
          have k0 := cell_of_heap hbk 0
          have k1 := cell_of_heap hbk 1
          simp at k0 k1
          clear h8 hM hbk hcnt hpok hc2 hdiv hlen HB
          go_upto_if 170 with fail
          clear LK hq1 hq2 hm0
          have hgd := eqGuardP
          by_cases hjm2 : j < m
          · clear HL k0 k1
            have j2 : (j : Int) < (m : Int) := by omega
            have htl : (rv.WL.take j).length = j := by rw [List.length_take, HM.out]; omega
            obtain ⟨fa, fc, hv⟩ := (PK.own (Star.l parts_pk H8.out)).form
            rw [htl] at hv
            subst hv
            have HTL := Lib.hid htl
            clear htl
            go_wp2_with fail
            obtain ⟨wq, hwq⟩ : ∃ wq, wq = wr := ⟨_, rfl⟩
            subst hwq
            go_loopg [173] j (fun k c wx => ∃ i : Nat, i ≤ j ∧ k = j - i ∧ c = .int .i64 (i : Nat) ∧ Star (PK rv b1 cs o g bm v0 v1 (j + 1) (x.use p) (.slice fa j fc) (rv.WL.take j)) (Blk b17 (.cells #[.int .i64 p.flow, .int .u64 (p.gen : Nat)] 31 (0, 0))) (Frm.of w) wx)
            case atStart => exact ⟨0, by omega, by omega, rfl, H8.out⟩
            case round =>
              obtain ⟨i, hi, hki, rfl, hS⟩ := hrel
              have HKI := Lib.hid hki
              have HI := Lib.hid hS
              clear hki hS H8
              have hbk := (Star.r (parts_blk _ _) HI.out).1
              have k0 := cell_of_heap hbk 0
              have k1 := cell_of_heap hbk 1
              simp at k0 k1
              clear hbk
              by_cases hij : i < j
              · have i0 : (0 : Int) ≤ (i : Int) := by omega
                have i1 : (i : Int) < (j : Int) := by omega
                obtain ⟨fg, foff, fcap, hv, c0, c1⟩ := ownp_at (PK.own (Star.l parts_pk HI.out)) i (by rw [HTL.out]; exact hij)
                rw [HTL.out] at hv
                injection hv with e1 e2 e3
                subst e1 e3
                clear e2
                obtain ⟨q, hq⟩ : ∃ q, (rv.WL.take j)[i]'(by rw [HTL.out]; exact hij) = q := ⟨_, rfl⟩
                rw [hq] at c0 c1
                have hqp : q ≠ p := by
                  intro e
                  rw [← hq, ← hp, List.getElem_take] at e
                  have h9 := (List.getElem_inj (sorted_nodup rv.sorted)).1 e
                  unfold rr at h9
                  rw [HM.out, if_pos hjm2] at h9
                  omega
                have heq := eqS q p
                rw [decide_eq_false hqp] at heq
                have hIa := (parts_star parts_pk (parts_blk _ _)).more HI.out ((Ext.refl (fun _ => False) wr).alloc (.cells #[.int .i64 q.flow, .int .u64 (q.gen : Nat)] 31))
                have hba := (Star.r (parts_blk _ _) hIa).1
                have k2 := cell_of_heap hba 0
                have k3 := cell_of_heap hba 1
                simp only [List.getElem?_toArray, List.getElem?_cons_zero, List.getElem?_cons_succ] at k2 k3
                have HIa := Lib.hid hIa
                clear hIa hba k0 k1 hqp
                go_wp2
                go_roundg (j - (i + 1))
                case measure => have := HKI.out; omega
                case rel => exact ⟨i + 1, by omega, rfl, by go_num, HIa.out⟩
              · obtain rfl : i = j := by omega
                have hlo : (rv.WL.take i).length ≤ 80 := by rw [HTL.out]; omega
                have own5 := (PK.own (Star.l parts_pk HI.out)).grows ((Ext.refl (fun _ => False) wr).alloc (.cells #[.int .i64 p.flow, .int .u64 (p.gen : Nat)] 31))
                rw [HTL.out] at own5
                go_wp2_with (at_builtin; refine wpList_append_ownS rfl (.tmp 181) (.tmp 183) 63 63 rfl 31 (.agg #[.int .i64 0, .int .u64 0]) 2 16 Try.underlying63 infoPl rfl _ _ rfl rfl i (qcells (rv.WL.take i)) own5 1 [.int .i64 p.flow, .int .u64 (p.gen : Nat)] (src_pl p (heap_alloc_new wr _)) (by unfold maxLen; omega) (by omega) ?_)
                intro v' w9 hown9 hgr9 hblk9
                have h9 := PK.push p (Star.l parts_pk HI.out) ((Ext.refl _ wr).alloc _) (by rw [HTL.out]; exact hown9) hgr9 (by simpa using hblk9)
                have hrr : rr rv.WL.length i = i := by unfold rr; rw [if_pos (by rw [HM.out]; exact hjm2)]
                have htk : rv.WL.take i ++ [p] = rv.WL.take (i + 1) := by
                  rw [List.take_succ_eq_append_getElem (by rw [HM.out]; exact hjm2), ← hp]
                  exact congrArg (fun y => rv.WL.take i ++ [y]) (get_eq hrr _ _)
                rw [htk] at h9
                have A := Lib.hid (And.intro HX.out.2.2.2.2.2 h9)
                clear own5 hown9 hgr9 hblk9 h9 htk k0 k1
                go_wp2
                go_roundg (2 * m - (i + 1))
                case measure => have := HKJ.out; omega
                case rel => exact ⟨i + 1, _, by omega, rfl, by go_num, A.out.1, A.out.2⟩
          · have j2 : ¬ (j : Int) < (m : Int) := by omega
            obtain ⟨d, hd⟩ : ∃ d, m + d = j := ⟨_, Nat.add_sub_cancel' (by omega)⟩
            have hsub : (j : Int) - (m : Int) = (d : Int) := by omega
            have d0 : (0 : Int) ≤ (d : Int) := by omega
            have d1 : (d : Int) < (m : Int) := by omega
            have htl : (rv.WL.take j).length = m := by rw [List.length_take, HM.out]; omega
            have hown := PK.own (Star.l parts_pk H8.out)
            obtain ⟨fg, foff, fcap, hv, c0, c1⟩ := ownp_at hown d (by rw [htl]; omega)
            rw [htl] at hv
            subst hv
            have hrr : rr rv.WL.length j = d := by unfold rr; rw [if_neg (by rw [HM.out]; exact hjm2), HM.out]; omega
            have hfp : (rv.WL.take j)[d]'(by rw [htl]; omega) = p := by
              rw [List.getElem_take, ← hp]
              exact (get_eq hrr _ _).symm
            rw [hfp] at c0 c1
            have hne := neS p p
            rw [show (!decide (p = p)) = false by simp] at hne
            have htk : rv.WL.take j = rv.WL.take (j + 1) := by rw [List.take_of_length_le (by rw [HM.out]; omega), List.take_of_length_le (by rw [HM.out]; omega)]
            have A := Lib.hid (And.intro HX.out.2.2.2.2.2 (htk ▸ Star.l parts_pk H8.out))
            clear htk hfp hrr htl hown HL
            have HL2 := HLd.out
            go_upto_region 45 with fail
            go_quiet (fail)
            have A2 := Lib.hid (And.intro A.out.1 (parts_pk.more A.out.2 (Ext.drewN_r nq)))
            clear c0 c1 k0 k1 hne HL2 HLd A H8
            go_wp2
            go_roundg (2 * m - (j + 1))
            case measure => have := HKJ.out; omega
            case rel => exact ⟨j + 1, _, by omega, rfl, by go_num, A2.out.1, A2.out.2⟩
        · have j1 : ¬ (j : Int) < 2 * (m : Int) := by omega
          have HL : ∀ ty, (Builtin.len_ #[59] ty #[.map (some bm)]).run Try.prog wr = .ok (.int .i64 (m : Nat)) wr := fun ty => by
            obtain ⟨F, hM⟩ := HP.out.2.map
            rw [← HM.out]
            exact hM.len ty
          by_cases hm0 : m = 0
          · subst hm0
            have hW0 : rv.WL = [] := List.eq_nil_of_length_eq_zero HM.out
            have hhd : (roundP rv.WL x.last x.begun).head? = none := by rw [hW0]; unfold roundP; split <;> rfl
            have HH := Lib.hid hhd
            clear hW0 hhd
            obtain ⟨F, hO⟩ := HP.out.2.out
            have HO := Lib.hid hO
            clear hO
            go_wp2_with fail
            refine (pick_idle HO.out rv.W rv.W_le.1 rv.W_le.2 _ _ (HP.out.2.rss HR.out.2.2.2) (by rw [HP.out.1.len]; exact Nat.le_refl _) rv.WL HP.out.1.may.1 HP.out.1.may.2 HH.out).mono ?_
            rintro e w6 ⟨rfl, g6⟩
            have HG := Lib.hid (((show Grows w wr from parts_pk.gw HP.out.2).trans g6).alloc (.cells #[.int .i64 0, .int .u64 0] 31))
            clear g6 HL
            go_wp2
            go_ret
            exact ⟨rfl, Ext.to_below HG.out⟩
          · have hm1 : ((m : Int) == 0) = false := by simp; omega
            have HG := Lib.hid (show Grows w wr from parts_pk.gw HP.out.2)
            go_wp2
            go_ret
            exact ⟨rfl, Ext.to_below HG.out⟩
namespace LinkRoundShell
theorem own : ownKnob Try.prog.godebug = none := by kernel_rfl
theorem laidOut : laidOutB Try.prog = true := by kernel_rfl
set_option maxRecDepth 100000 in
theorem lifted (os : Os) (started : os.Started) (H : Type) (enc : TypeId × Value → H) :
    ReturnsInHanded {} Try.checked os 4 .any (Rows.linkRoundSpec.pre6 enc Try.prog Try.f4 Rows.linkRoundRow.domain false) (Rows.linkRoundSpec.post enc Try.prog Try.f4 false true false false) := by
  refine returnsInHanded_of_change_sized (C := Try.checked) own started (by kernel_rfl) Try.func4
    (ChangeSpec.witness6 (enc := enc) (C := Try.checked) false ⟨#[], #[.agg #[.int .u8 0, .int .u8 0, .int .u8 0, .int .u8 0, .int .u8 0, .int .u8 0, .int .u8 0, .int .u8 0, .int .u8 0, .int .u8 0, .int .u8 0, .int .u8 0, .int .u8 0, .int .u8 0, .int .u8 0, .int .u8 0, .int .u8 0, .int .u8 0, .int .u8 0, .int .u8 0, .int .u8 0, .int .u8 0, .int .u8 0, .int .u8 0, .int .u8 0, .int .u8 0, .int .u8 0, .int .u8 0, .int .u8 0, .int .u8 0, .int .u8 0, .int .u8 0, .int .u8 0, .int .u8 0, .int .u8 0, .int .u8 0, .int .u8 0, .int .u8 0, .int .u8 0, .int .u8 0, .int .u8 0, .int .u8 0, .int .u8 0, .int .u8 0, .int .u8 0, .int .u8 0, .int .u8 0, .int .u8 0, .int .u8 0, .int .u8 0, .int .u8 0, .int .u8 0, .int .u8 0, .int .u8 0, .int .u8 0, .int .u8 0, .int .u8 0, .int .u8 0, .int .u8 0, .int .u8 0, .int .u8 0, .int .u8 0, .int .u8 0, .int .u8 0, .int .u8 0, .int .u8 0, .int .u8 0, .int .u8 0, .int .u8 0, .int .u8 0, .int .u8 0, .int .u8 0, .int .u8 0, .int .u8 0, .int .u8 0, .int .u8 0, .int .u8 0, .int .u8 0, .int .u8 0, .int .u8 0, .int .u8 0, .int .u8 0, .int .u8 0]], []⟩ 8 (by kernel_rfl) (by kernel_rfl) (by kernel_rfl) (by kernel_rfl)) ?_
  intro W base args ds gs before hval0 hW hcnd hsz0 _
  have hval : ∀ (j : Nat) t v, Try.f4.params[j]? = some t → args[j]? = some v → Value.okWide Try.prog W .any base t v := hval0
  have hsz : (DataW.weightsEach Try.prog (Try.f4.params.toList ++ Rows.linkRoundSpec.plain.varTypes Try.prog) (ds ++ gs)).all (· ≤ reachBytes) = true := hsz0
  have hW' := hW
  obtain ⟨p, q, hA0, hV, rfl, hfz, hnd⟩ := hW
  have hA : DataW.TrodAll enc Try.prog W 0 (fun _ => true) true Try.f4.params.toList args.toList ds p := hA0
  rw [Try.params4] at hA hval hsz
  obtain ⟨v0, vs0, d0, ds0, p0, q0, hargs, rfl, rfl, h0, r0⟩ := trodAll_cons hA
  obtain ⟨rfl, rfl, rfl⟩ := trodAll_nil r0
  obtain rfl : args = #[v0] := by cases args; simp_all
  obtain ⟨rfl, rfl⟩ := trodVars_none hV
  have k0 := h0
  have lt0 : ∀ x ∈ p0, x.block < W.heap.size := by obtain ⟨m, hm⟩ := k0; exact DataW.trod_lt m _ _ _ hm
  obtain ⟨a0, w0⟩ := open_round (hval 0 58 v0 rfl rfl) h0 hsz (j := 0) rfl rfl
  clear hA0 hval0 hsz0
  refine (LinkRound_walk v0 a0 W w0).mono fun e W' ⟨he, bel⟩ => ?_
  subst he
  exact ⟨_, rfl, _, _, _, [], _, [], hW', trodAll_mk1 (shut_bool Try.underlying4 _), (trodAll_cons_mk (Below.trod laidOut (by kernel_rfl) (of_decide_eq_true (by kernel_rfl)) k0 bel lt0) trodAll_mk0), rfl, bel.frame _, fun h => by cases h⟩
theorem over : Rows.linkRoundRow.holds Try.pinned (OpenSpec.ofChange Rows.linkRoundSpec) :=
  OpenClaim.holds_of_wide 4 Try.f4 rfl rfl rfl rfl rfl rfl rfl ⟨rfl, rfl, rfl, rfl, rfl⟩ rfl rfl rfl rfl rfl (by kernel_rfl) Try.func4 (by kernel_rfl)
    (of_decide_eq_true (by kernel_rfl)) (by unfold Func.isWrapper; first | (rw [if_pos (by decide +kernel)]; kernel_rfl) | (rw [if_neg (by decide +kernel)]; exact ⟨rfl, rfl⟩))
    (fun os started H enc _ => lifted os started H enc)
end LinkRoundShell
theorem LinkRound_holds : Rows.LinkRoundSaid := LinkRoundShell.over
#print axioms LinkRound_holds
end Go.Proofs.Ytekdggdnkmkldaa
