/- RanksLatest: in whatever order tellings come, behind all the latest one is what was told. -/
import Derived.Test.YtpkaddpennafcaaLatestW
import Derived.Test.YtpkaddpennafcaaShorts
import Derived.Deep.LoopGhost
import Derived.Deep.DeepCutAuto
import Derived.Deep.RegionLaw
namespace Go.Proofs.Ytpkaddpennafcaa
set_option linter.unusedVariables false
set_option linter.unusedSimpArgs false
open Go.ChangeShapes Go.WideShapes Go.ChangeAt Go.RowKit

set_option maxRecDepth 4000 in
set_option maxHeartbeats 64000000 in
theorem RanksLatest_walk (v0 : Value) (xs : List TellV) (v1 : Value) (ord : List Nat) (w : World) (h0 : Tells w v0 xs) (h1 : Shorts w v1 ord) :
    Calls Try.prog 5 #[v0, v1] w fun e w' => e = .returned (.bool true) ∧ Below w.heap.size w w' := by
  obtain ⟨va, vc, rfl⟩ := h0.form
  obtain ⟨oa, oc, rfl⟩ := h1.form
  have NS := Lib.hid h0
  have OS := Lib.hid h1
  have hl0 := h0.2
  have hcap : xs.length ≤ vc := by
    rcases h0.1 with ⟨a, cap, h1, h2⟩ | ⟨b, off, cap, h1, h2, _⟩
    · rw [h2]; exact Nat.zero_le _
    · injection h1 with _ _ h3; omega
  clear h0 h1
  obtain ⟨n, hn⟩ : ∃ n, min xs.length 40 = n := ⟨_, rfl⟩
  have n0 : (0 : Int) ≤ (n : Int) := by omega
  have n1 : (n : Int) ≤ (vc : Int) := by omega
  have hif : (if (40 : Int) < (xs.length : Int) then (40 : Int) else (xs.length : Int)) = (n : Int) := by split <;> omega
  have HN := Lib.hid hn
  clear hn
  go_enter Try.func5, Try.ntmps5
  go_wp2_with fail
  clear hif n1
  obtain ⟨t, ht⟩ : ∃ t, w.heap.size = t := ⟨_, rfl⟩
  have HW := Lib.hid ht
  refine (told_new w).mono ?_
  rintro e w1 ⟨rfl, hT, hg1⟩
  rw [ht] at hT ⊢
  have HT := Lib.hid (And.intro hT hg1)
  clear hT ht hg1
  go_wp2_with fail
  obtain ⟨p, hp⟩ : ∃ p, w1.heap.size = p := ⟨_, rfl⟩
  refine (told_new w1).mono ?_
  rintro e w2 ⟨rfl, hP, hg⟩
  rw [hp] at hP ⊢
  have HP := Lib.hid (And.intro hP (And.intro hg hp))
  clear hP hg hp
  go_upto_region 4 with fail
  have hRL : RL w ((w2.alloc (.cells #[.pointer (some ⟨t, 0, none⟩)] 26)).alloc (.cells #[.slice none 0 0] 34)) t p w2.heap.size (w2.heap.size + 1) (fun k => k = t) (fun k => k = p) tell0 (.slice none 0 0) [] := by
    obtain ⟨hT, g1⟩ := HT.out
    obtain ⟨hP, g2, hp⟩ := HP.out
    have l1 := hT.lt
    have l2 := hP.lt
    have s1 := g1.size
    have hw := HW.out
    have g3 : Grows w2 ((w2.alloc (.cells #[.pointer (some ⟨t, 0, none⟩)] 26)).alloc (.cells #[.slice none 0 0] 34)) := ((Ext.refl _ _).alloc _).alloc _
    have s3 := g3.size
    have h9 := heap_alloc_new (w2.alloc (.cells #[.pointer (some ⟨t, 0, none⟩)] 26 (0, 0))) (.cells #[.slice none 0 0] 34 (0, 0))
    rw [show (w2.alloc (.cells #[.pointer (some ⟨t, 0, none⟩)] 26)).heap.size = w2.heap.size + 1 by simp] at h9
    refine ⟨⟨(hT.ext g2 (fun _ _ h => h)).ext g3 (fun _ _ h => h), fun k hk => by subst hk; omega, (g1.trans g2).trans g3⟩, ⟨hP.ext g3 (fun _ _ h => h), fun k hk => by subst hk; omega, (g1.trans g2).trans g3⟩, ⟨26, ?_⟩, ⟨34, h9⟩, ⟨OwnS.nil _ _ _, by simp, (g1.trans g2).trans g3⟩, fun k hk => by subst hk; omega, fun k hk => by subst hk; omega, fun k hk => by simp [Value.ownBlock] at hk, by omega, by omega, by omega⟩
    exact (((Ext.refl (fun _ => False) _).alloc _).block _ (by simp) (fun h => h)).trans (heap_alloc_new w2 _)
  have HR := Lib.hid hRL
  clear hRL HP HT HW
  generalize (w2.alloc (.cells #[.pointer (some ⟨t, 0, none⟩)] 26)).alloc (.cells #[.slice none 0 0] 34) = w3 at HR ⊢
  generalize w2.heap.size + 1 = ob at HR ⊢
  generalize w2.heap.size = tb at HR ⊢
  generalize (fun k => k = t) = St at HR
  generalize (fun k => k = p) = Sp at HR
  go_wp2
  go_loopg [8] n (fun k c wr => ∃ (j : Nat) (v : Value) (l : List TellU), j ≤ n ∧ k = n - j ∧ c = .int .i64 (j : Nat) ∧ RL w wr t p tb ob St Sp tell0 v l ∧ l.length ≤ j ∧ Apart l)
  case atStart => exact ⟨0, _, [], by omega, by omega, rfl, HR.out, by simp, fun x hx => by simp at hx⟩
  case round =>
    obtain ⟨j, v, l, hj, hk, rfl, hI, hfew, hap⟩ := hrel
    have HK := Lib.hid hk
    clear HR
    have HR := Lib.hid (And.intro hI (And.intro hfew hap))
    clear hk hI hfew hap
    by_cases hlt : j < n
    · have hj2 : (j : Int) < (n : Int) := by omega
      have hj3 : (0 : Int) ≤ (j : Int) := by omega
      have hxn : j < xs.length := by have := HN.out; omega
      obtain ⟨b, off, cap, u, e, hbl, hcc, hrs, hb0, hb1, hb2⟩ := NS.out.at j hxn
      injection e with e1 e2 e3
      subst e1 e3
      clear e2
      generalize xs[j] = o at hcc hrs hb0 hb1 hb2
      obtain ⟨ua, uc, rfl⟩ := hrs.form
      have HO := Lib.hid (And.intro hrs (And.intro hb2 (And.intro hbl hcc)))
      clear hrs hb0 hb1 hb2 hbl hcc
      go_wp2
      go_loopg [9, 10] l.length (fun k bb c wx => ∃ m : Nat, k = l.length - m ∧ m ≤ l.length ∧ c = .int .i64 (m : Nat) ∧ bb = .bool (thereB l o.life o.count m) ∧ RL w wx t p tb ob St Sp tell0 v l)
      case atStart => exact ⟨0, by omega, by omega, rfl, by simp [thereB], HR.out.1⟩
      case round =>
        obtain ⟨m, hkm, hml, rfl, rfl, hX⟩ := hrel
        have KM := Lib.hid hkm
        have HX := Lib.hid hX
        clear hkm hX
        obtain ⟨va1, vc1, rfl⟩ := OwnS.form HX.out.own.own
        have x0 := HX.out.cells.2.1
        by_cases hm : m < l.length
        · obtain ⟨g, goff, gcap, e, hgl, ⟨d0, d1, d2, d3⟩, _⟩ := HX.out.own.at m hm
          injection e with e1 e2 e3
          subst e1 e3
          clear e2 hgl d2 d3
          have hm1 : (0 : Int) ≤ (m : Int) := by omega
          have hm2 : (m : Int) < (l.length : Int) := by omega
          have hm3 : l.length ≤ 40 := by have := HR.out.2.1; have := HN.out; omega
          have c0 := (HX.out.grows.cell HO.out.2.2.1 (fun h => h)).trans HO.out.2.2.2.1
          have c1 := (HX.out.grows.cell HO.out.2.2.1 (fun h => h)).trans HO.out.2.2.2.2.1
          obtain ⟨q0, hq0⟩ : ∃ q0, l[m].1.life = q0 := ⟨_, rfl⟩
          obtain ⟨q1, hq1⟩ : ∃ q1, l[m].1.count = q1 := ⟨_, rfl⟩
          rw [hq0] at d0
          rw [hq1] at d1
          obtain ⟨o0, ho0⟩ : ∃ o0, o.life = o0 := ⟨_, rfl⟩
          obtain ⟨o1, ho1⟩ : ∃ o1, o.count = o1 := ⟨_, rfl⟩
          rw [ho0] at c0
          rw [ho1] at c1
          obtain ⟨th, hth⟩ : ∃ th, thereB l o.life o.count m = th := ⟨_, rfl⟩
          rw [hth]
          have HTH := Lib.hid hth
          have HQ := Lib.hid (And.intro hq0 (And.intro hq1 (And.intro ho0 ho1)))
          clear hth hq0 hq1 ho0 ho1
          have HD := Lib.hid (And.intro c0 (And.intro c1 (And.intro d0 d1)))
          clear c0 c1 d0 d1
          cases th with
          | true =>
            obtain ⟨c0, c1, d0, d1⟩ := HD.out
            have EQ1 := Lib.hid True.intro
            have EQ2 := Lib.hid True.intro
            go_upto_region 11 with fail
            go_quiet (fail)
            go_wp2
            go_roundg (l.length - (m + 1))
            case measure => have := KM.out; omega
            case rel => exact ⟨m + 1, rfl, by omega, by go_num, by rw [thereB_step l _ _ m hm, HTH.out]; first | rfl | (simp [EQ1.out]; done) | (simp [EQ1.out, EQ2.out]; done), HX.out.more (Ext.drewN_r _)⟩
          | false =>
            by_cases e1 : q0 = o0
            · by_cases e2 : q1 = o1
              · have EQ1 := Lib.hid (show l[m].1.life = o.life by rw [HQ.out.1, HQ.out.2.2.1, e1])
                have EQ2 := Lib.hid (show l[m].1.count = o.count by rw [HQ.out.2.1, HQ.out.2.2.2, e2])
                subst e1 e2
                obtain ⟨c0, c1, d0, d1⟩ := HD.out
                go_upto_region 11 with fail
                go_quiet (fail)
                go_wp2
                go_roundg (l.length - (m + 1))
                case measure => have := KM.out; omega
                case rel => exact ⟨m + 1, rfl, by omega, by go_num, by rw [thereB_step l _ _ m hm, HTH.out]; first | rfl | (simp [EQ1.out]; done) | (simp [EQ1.out, EQ2.out]; done), HX.out.more (Ext.drewN_r _)⟩
              · have EQ1 := Lib.hid (show l[m].1.life = o.life by rw [HQ.out.1, HQ.out.2.2.1, e1])
                have EQ2 := Lib.hid (show ¬ l[m].1.count = o.count by rw [HQ.out.2.1, HQ.out.2.2.2]; exact e2)
                subst e1
                obtain ⟨c0, c1, d0, d1⟩ := HD.out
                go_upto_region 11 with fail
                have f2 : ((q1 : Int) == (o1 : Int)) = false := by rw [beq_eq_false_iff_ne]; omega
                go_quiet (fail)
                go_wp2
                go_roundg (l.length - (m + 1))
                case measure => have := KM.out; omega
                case rel => exact ⟨m + 1, rfl, by omega, by go_num, by rw [thereB_step l _ _ m hm, HTH.out]; first | rfl | (simp [EQ1.out]; done) | (simp [EQ1.out, EQ2.out]; done), HX.out.more (Ext.drewN_r _)⟩
            · have EQ1 := Lib.hid (show ¬ l[m].1.life = o.life by rw [HQ.out.1, HQ.out.2.2.1]; exact e1)
              have EQ2 := Lib.hid True.intro
              obtain ⟨c0, c1, d0, d1⟩ := HD.out
              go_upto_region 11 with fail
              have f1 : ((q0 : Int) == (o0 : Int)) = false := by rw [beq_eq_false_iff_ne]; omega
              go_quiet (fail)
              go_wp2
              go_roundg (l.length - (m + 1))
              case measure => have := KM.out; omega
              case rel => exact ⟨m + 1, rfl, by omega, by go_num, by rw [thereB_step l _ _ m hm, HTH.out]; first | rfl | (simp [EQ1.out]; done) | (simp [EQ1.out, EQ2.out]; done), HX.out.more (Ext.drewN_r _)⟩
        · have hm2 : ¬ (m : Int) < (l.length : Int) := by omega
          obtain rfl : m = l.length := by omega
          obtain ⟨th, hth⟩ : ∃ th, thereB l o.life o.count l.length = th := ⟨_, rfl⟩
          rw [hth]
          have HTH := Lib.hid hth
          clear hth
          cases th with
          | true =>
            go_wp2
            go_roundg (n - (j + 1))
            case measure => have := HK.out; omega
            case rel => exact ⟨j + 1, _, _, by omega, rfl, by go_num, HX.out, by have := HR.out.2.1; omega, HR.out.2.2⟩
          | false =>
            have c0 := (HX.out.grows.cell HO.out.2.2.1 (fun h => h)).trans HO.out.2.2.2.1
            have c1 := (HX.out.grows.cell HO.out.2.2.1 (fun h => h)).trans HO.out.2.2.2.2.1
            have c2 := (HX.out.grows.cell HO.out.2.2.1 (fun h => h)).trans HO.out.2.2.2.2.2.1
            have c3 := (HX.out.grows.cell HO.out.2.2.1 (fun h => h)).trans HO.out.2.2.2.2.2.2
            go_upto_region 13 with fail
            have HC := Lib.hid (And.intro x0 (And.intro c0 (And.intro c1 (And.intro c2 c3))))
            clear c0 c1 c2 c3 x0
            obtain ⟨x0, c0, c1, c2, c3⟩ := HC.out
            have hl40 : l.length ≤ 40 := by have := HR.out.2.1; have := HN.out; omega
            have y0 : (wr.alloc (.cells #[.int .u64 o.life, .int .u64 o.count, .int .u64 o.base, .slice ua o.l.length uc] 25)).cell? ⟨ob, 0, none⟩ = some (.slice va1 l.length vc1) := (((Ext.refl (fun _ => False) wr).alloc _).cell HX.out.lt.2 (fun h => h)).trans x0
            have y1 : (wr.drew.alloc (.cells #[.int .u64 o.life, .int .u64 o.count, .int .u64 o.base, .slice ua o.l.length uc] 25)).cell? ⟨ob, 0, none⟩ = some (.slice va1 l.length vc1) := (((Ext.refl (fun _ => False) wr).drew.alloc _).cell HX.out.lt.2 (fun h => h)).trans x0
            go_region_law (first | (refine step_append_ownS (by rfl) (.tmp 64) (.tmp 69) 34 34 (by rfl) 25 (.agg #[.int .u64 0, .int .u64 0, .int .u64 0, .slice none 0 0]) 4 48 Try.underlying34 infoTelling rfl _ _ (by rfl) (by rfl) l.length (tcells l) (OwnS.grows HX.out.own.own (by first | exact (Ext.refl _ _).alloc _ | exact ((Ext.refl _ _).alloc _).drew | exact ((Ext.refl _ _).drew).alloc _)) 1 (tcells [((o, (.slice ua o.l.length uc)) : TellU)]) (src_tell ((o, (.slice ua o.l.length uc)) : TellU) rfl (by first | exact heap_alloc_new _ _ | (trace_state; fail))) (by unfold maxLen; omega) (by omega) ?_; intro v' w5 hown5 hgr5 hblk5; have hb5 := RL.behind (RL.more HX.out (by first | exact (Ext.refl _ _).alloc _ | exact ((Ext.refl _ _).alloc _).drew | exact ((Ext.refl _ _).drew).alloc _)) hgr5; have hb6 := hb5.1; have hb7 := hb5.2; obtain ⟨na, nc, rfl⟩ := OwnS.form hown5))
            all_goals
              have hRL := RL.push (RL.more HX.out (by first | exact (Ext.refl _ _).alloc _ | exact ((Ext.refl _ _).alloc _).drew | exact ((Ext.refl _ _).drew).alloc _)) ((o, (.slice ua o.l.length uc)) : TellU) ⟨HO.out.1, HO.out.2.1⟩ hown5 hgr5 hblk5
              have A := Lib.hid hRL
              clear hRL hown5 hgr5 hblk5 hb5 hb6 hb7 c0 c1 c2 c3 x0 y0 y1 HC
              go_wp2
              go_roundg (n - (j + 1))
              case measure => have := HK.out; omega
              case rel => exact ⟨j + 1, _, _, by omega, rfl, by go_num, A.out, by simp; have := HR.out.2.1; omega, HR.out.2.2.push _ (thereB_all _ _ _ HTH.out)⟩
    · have hj2 : ¬ (j : Int) < (n : Int) := by omega
      go_upto_region 14 with fail
      have HL := Lib.hid (And.intro HR.out.2.2 (show l.length ≤ 40 by have := HR.out.2.1; have := HN.out; omega))
      have HR0 := Lib.hid HR.out.1
      clear HR
      generalize hjj : j = jj
      clear hj hjj hj2 hlt HK
      obtain ⟨va1, vc1, rfl⟩ := OwnS.form HR0.out.own.own
      go_upto_region 15 with (with_reducible refine held_at ?_)
      unfold Held
      go_step
      go_cut [12] (fun s' w' => ∃ (St' : Nat → Prop) (s : TellV) (g : TellV → Prop), RL w w' t p tb ob St' Sp s (.slice va1 l.length vc1) l ∧ Top s g ∧ ∀ x, g x → among l l.length x)
      case first =>
        go_wp2
        go_loopg [12] ord.length (fun k c wx => ∃ (i : Nat) (St' : Nat → Prop) (s : TellV) (g : TellV → Prop), i ≤ ord.length ∧ k = ord.length - i ∧ i ≤ 60 ∧ c = .int .i64 (i : Nat) ∧ RL w wx t p tb ob St' Sp s (.slice va1 l.length vc1) l ∧ Top s g ∧ ∀ x, g x → among l l.length x)
        case atStart => exact ⟨0, St, tell0, _, by omega, by omega, by omega, rfl, HR0.out, Top.start, fun x hx => hx.elim⟩
        case round =>
          obtain ⟨i, St', s, g, hi, hk, hi60, rfl, hI, htop, hga⟩ := hrel
          have HK := Lib.hid hk
          have HR := Lib.hid (And.intro hI (And.intro htop hga))
          clear HR0 hk hI htop hga
          have x0 := HR.out.1.cells.2.1
          by_cases hlt : i < ord.length
          · have hi2 : (i : Int) < (ord.length : Int) := by omega
            have hi3 : (0 : Int) ≤ (i : Int) := by omega
            by_cases h60 : i < 60
            · have hi4 : (i : Int) < 60 := by omega
              by_cases hl : l.length = 0
              · have hl0 : ¬ (0 : Int) < (l.length : Int) := by omega
                go_wp2
                go_meet
                case rel => exact ⟨_, _, _, HR.out.1, HR.out.2.1, HR.out.2.2⟩
              · have hl0 : (0 : Int) < (l.length : Int) := by omega
                have hl1 : ((l.length : Int) == 0) = false := by rw [beq_eq_false_iff_ne]; omega
                obtain ⟨ob2, ooff, ocap, e, hol, oc0, ox⟩ := OS.out.at i hlt
                injection e with e1 e2 e3
                subst e1 e3
                clear e2
                generalize ord[i] = od at oc0 ox
                have c0 := (HR.out.1.grows.cell hol (fun h => h)).trans oc0
                have oc1 := oc0
                obtain ⟨k, hk⟩ : ∃ k, od % l.length = k := ⟨_, rfl⟩
                have hk1 : k < l.length := by rw [← hk]; exact Nat.mod_lt _ (by omega)
                have hk2 : (IntKind.i64.wrap (od : Int)).tmod (l.length : Int) = (k : Int) := by rw [show IntKind.i64.wrap (od : Int) = (od : Int) by rw [IntKind.wrap_i64]; omega, show (od : Int).tmod (l.length : Int) = ((od % l.length : Nat) : Int) from rfl, hk]
                clear oc0 hk
                go_upto_region 18 with fail
                have HC := Lib.hid (And.intro x0 (And.intro c0 hol))
                clear c0 x0 hol
                obtain ⟨x0, c0, _⟩ := HC.out
                go_region_held3 (fun w' => w'.cell? ⟨ob, 0, none⟩ = some (.slice va1 l.length vc1) ∧ w'.cell? ⟨ob2, ooff + i, none⟩ = some (.int .u16 od))
                  (first
                    | go_keep
                    | exact ⟨h9.cells.2.1, (h9.grows.cell HC.out.2.2 (fun h => h)).trans oc1⟩)
                  (first
                    | (go_at_call 27; refine (rl_give (HR.out.1.more (Ext.drewN_r _)) k hk1).mono ?_; rintro e w9 ⟨rfl, St2, s2, h9, h9t⟩))
                all_goals
                  have A := Lib.hid (And.intro h9 (h9t _ HR.out.2.1))
                  clear h9 h9t x0 c0 HC
                  go_wp2
                  go_roundg (ord.length - (i + 1))
                  case measure => have := HK.out; omega
                  case rel => exact ⟨i + 1, _, _, _, by omega, rfl, by omega, by go_num, A.out.1, A.out.2, fun x hx => by
                    rcases hx with hx | rfl
                    · exact HR.out.2.2 x hx
                    · exact ⟨k, hk1, hk1, rfl⟩⟩
            · have hi4 : ¬ (i : Int) < 60 := by omega
              go_wp2
              go_meet
              case rel => exact ⟨_, _, _, HR.out.1, HR.out.2.1, HR.out.2.2⟩
          · have hi2 : ¬ (i : Int) < (ord.length : Int) := by omega
            go_wp2
            go_meet
            case rel => exact ⟨_, _, _, HR.out.1, HR.out.2.1, HR.out.2.2⟩
      case rest =>
        obtain ⟨St2, s2, g2, hR2, hT2, hG2⟩ := hcut
        have hl40 := HL.out.2
        have HR1 := Lib.hid (And.intro hR2 (And.intro hT2 hG2))
        clear hR2 hT2 hG2 HR0
        generalize u12 = i
        go_wp2
        go_loopg [13] l.length (fun k c wx => ∃ (i : Nat) (St' : Nat → Prop) (s : TellV) (g : TellV → Prop), i ≤ l.length ∧ k = l.length - i ∧ c = .int .i64 (i : Nat) ∧ RL w wx t p tb ob St' Sp s (.slice va1 l.length vc1) l ∧ Top s g ∧ (∀ x, g x → among l l.length x) ∧ ∀ x, among l i x → g x)
        case atStart => exact ⟨0, _, _, _, by omega, by omega, rfl, HR1.out.1, HR1.out.2.1, HR1.out.2.2, fun x hx => by obtain ⟨_, _, h, _⟩ := hx; omega⟩
        case round =>
          obtain ⟨i3, St3, s3, g3, hi3, hk3, rfl, hI3, htop3, hga3, hgb3⟩ := hrel
          have HK3 := Lib.hid hk3
          have HR := Lib.hid (And.intro hI3 (And.intro htop3 (And.intro hga3 hgb3)))
          clear HR1 hk3 hI3 htop3 hga3 hgb3
          have x0 := HR.out.1.cells.2.1
          by_cases hlt3 : i3 < l.length
          · have hi4 : (i3 : Int) < (l.length : Int) := by omega
            go_wp2_with fail
            refine (rl_give HR.out.1 i3 hlt3).mono ?_
            rintro e w9 ⟨rfl, St4, s4, h9, h9t⟩
            have A := Lib.hid (And.intro h9 (h9t _ HR.out.2.1))
            clear h9 h9t x0
            go_wp2
            go_roundg (l.length - (i3 + 1))
            case measure => have := HK3.out; omega
            case rel => exact ⟨i3 + 1, _, _, _, by omega, rfl, by go_num, A.out.1, A.out.2, fun x hx => by
              rcases hx with hx | rfl
              · exact HR.out.2.2.1 x hx
              · exact ⟨i3, hlt3, hlt3, rfl⟩, fun x hx => by
              rcases (among_succ hlt3 x).2 hx with hx | hx
              · exact .inl (HR.out.2.2.2 x hx)
              · exact .inr hx⟩
          · have hi4 : ¬ (i3 : Int) < (l.length : Int) := by omega
            obtain rfl : i3 = l.length := by omega
            have hT3 : Top s3 (among l l.length) := HR.out.2.1.congr (fun x => ⟨HR.out.2.2.1 x, HR.out.2.2.2 x⟩)
            have HR1 := Lib.hid (And.intro HR.out.1 hT3)
            clear HR hT3 hi3 HK3 hlt3
            go_wp2
            clear x0
            go_loopg [14, 15] l.length (fun k av c wx => ∃ (m : Nat) (a : Int) (s2 : TellV), m ≤ l.length ∧ k = l.length - m ∧ c = .int .i64 (m : Nat) ∧ av = .int .i64 a ∧ AtIs l a s2 ∧ Top s2 (among l m) ∧ RL w wx t p tb ob St3 Sp s3 (.slice va1 l.length vc1) l)
            case atStart => exact ⟨0, -1, tell0, by omega, by omega, rfl, rfl, .inl ⟨rfl, rfl⟩, Top.start.congr (fun x => ⟨fun h => h.elim, fun h => by obtain ⟨_, _, h, _⟩ := h; omega⟩), HR1.out.1⟩
            case round =>
              obtain ⟨m4, a4, s4, hm4, hk4, rfl, rfl, hat4, htop4, hI4⟩ := hrel
              have HK4 := Lib.hid hk4
              have HR := Lib.hid (And.intro hI4 (And.intro hat4 htop4))
              have HT3 := Lib.hid HR1.out.2
              clear HR1 hk4 hI4 hat4 htop4
              have x0 := HR.out.1.cells.2.1
              by_cases hlt4 : m4 < l.length
              · have hi4 : (m4 : Int) < (l.length : Int) := by omega
                have hi5 : (0 : Int) ≤ (m4 : Int) := by omega
                obtain ⟨g4, goff, gcap, e, hgl, hdd, hrs4⟩ := HR.out.1.own.at m4 hlt4
                injection e with e1 e2 e3
                subst e1 e3
                clear e2
                have hbb4 := (HR.out.1.own.rs _ (List.getElem_mem hlt4)).2
                obtain ⟨⟨o4, u4⟩, ho4⟩ : ∃ o4 : TellU, l[m4] = o4 := ⟨_, rfl⟩
                rw [ho4] at hdd hrs4 hbb4
                simp only at hdd hrs4 hbb4
                obtain ⟨la, lc, rfl⟩ := hrs4.form
                have HO4 := Lib.hid (And.intro ho4 (And.intro hrs4 (And.intro hbb4 hgl)))
                have HD := Lib.hid (And.intro x0 hdd)
                clear ho4 hrs4 hbb4 hgl hdd
                obtain ⟨E, hE⟩ : ∃ E, takeRE 0 0 o4.life o4.count o4.base o4.l = E := ⟨_, rfl⟩
                have hE1 := take_first_E o4
                rw [hE] at hE1
                have HE := Lib.hid (And.intro hE hE1)
                clear hE hE1
                go_upto_region 29 with fail
                clear x0
                obtain ⟨x0, d0, d1, d2, d3⟩ := HD.out
                go_region_held3 (fun w' => w'.cell? ⟨ob, 0, none⟩ = some (.slice (some ⟨g4, goff, none⟩) l.length vc1) ∧ w'.cell? ⟨g4, goff + m4 * 4, none⟩ = some (.int .u64 o4.life) ∧ w'.cell? ⟨g4, goff + m4 * 4 + 1, none⟩ = some (.int .u64 o4.count) ∧ w'.cell? ⟨g4, goff + m4 * 4 + 2, none⟩ = some (.int .u64 o4.base) ∧ w'.cell? ⟨g4, goff + m4 * 4 + 3, none⟩ = some (.slice la o4.l.length lc))
                  (first
                    | go_keep
                    | exact keep5 ((he8.lift.trans he9)) ⟨HR.out.1.lt.2, Nat.ne_of_lt HR.out.1.lt.2⟩ ⟨HO4.out.2.2.2, Nat.ne_of_lt HO4.out.2.2.2⟩ HD.out
                    | exact keep5 he8 ⟨HR.out.1.lt.2, fun h => h⟩ ⟨HO4.out.2.2.2, fun h => h⟩ HD.out)
                  (first
                    | (go_at_call 13; refine (told_new _).mono ?_; rintro e w8 ⟨rfl, h8, he8⟩)
                    | (go_at_call 14; refine (fresh_take (wr := w8) h8 o4.life o4.count o4.base _ o4.l (HO4.out.2.1.grows (((Ext.refl _ _).drew).trans he8)) HO4.out.2.2.1 E HE.out.1).mono ?_; rintro e w9 ⟨rfl, he9⟩))
                all_goals
                  have he9' : Ext (fun k => k = wr.heap.size) w8 w9 := he9
                  have g9 : Grows wr w9 := ((((Ext.refl (fun k => k = wr.heap.size) wr).drew).trans (he8.lift)).trans he9').mono (fun k hk hh => by omega)
                  have hm : l[m4].1 = o4 := by rw [HO4.out.1]
                  have HM := Lib.hid hm
                  have G9 := Lib.hid (And.intro (HR.out.1.more g9) (keep5 g9 ⟨HR.out.1.lt.2, fun h => h⟩ ⟨HO4.out.2.2.2, fun h => h⟩ HD.out))
                  clear he9 he9' he8 h8 g9 hm x0 d0 d1 d2 d3
                  rcases HE.out.2 with rfl | rfl
                  · have hval : o4.valid := (take_first o4).1 HE.out.1
                    have HV := Lib.hid hval
                    clear hval
                    rcases HR.out.2.1 with ⟨rfl, rfl⟩ | ⟨q, hq, rfl, hs, hqv⟩
                    · obtain ⟨x0, d0, d1, _, _⟩ := G9.out.2
                      go_upto_region 30 with fail
                      go_quiet (fail)
                      clear x0 d0 d1
                      go_wp2
                      go_roundg (l.length - (m4 + 1))
                      case measure => have := HK4.out; omega
                      case rel => exact ⟨m4 + 1, _, o4, by omega, rfl, by go_num, rfl, .inr ⟨m4, hlt4, rfl, HM.out, HV.out⟩, (HR.out.2.2.ok o4 HE.out.1).congr (fun x => by rw [← HM.out]; exact among_succ hlt4 x), G9.out.1.more (Ext.drewN_r _)⟩
                    · have HQ := Lib.hid (And.intro hs hqv)
                      obtain ⟨g5, goff5, gcap5, e, _, ⟨f0, f1, _, _⟩, _⟩ := G9.out.1.own.at q hq
                      injection e with e1 e2 e3
                      injection e1 with e1
                      injection e1 with e4 e5 e6
                      subst e4 e5 e3
                      clear e2
                      rw [hs] at f0 f1
                      have hq1 : (q : Int) < (l.length : Int) := by omega
                      have hq2 : (0 : Int) ≤ (q : Int) := by omega
                      have HF := Lib.hid (And.intro f0 f1)
                      clear f0 f1 hs hqv
                      obtain ⟨sl, hsl⟩ : ∃ sl, s4.life = sl := ⟨_, rfl⟩
                      obtain ⟨sc, hsc⟩ : ∃ sc, s4.count = sc := ⟨_, rfl⟩
                      have HS := Lib.hid (And.intro hsl hsc)
                      obtain ⟨f0, f1⟩ := HF.out
                      obtain ⟨x0, d0, d1, _, _⟩ := G9.out.2
                      rw [hsl] at f0
                      rw [hsc] at f1
                      clear hsl hsc
                      rcases Nat.lt_trichotomy sl o4.life with h | h | h
                      · have hlat : o4.later s4 := by rw [later_iff, HS.out.1]; exact .inl h
                        go_upto_region 30 with fail
                        have k1 : (sl < o4.life) = True := eq_true h
                        have HLT := Lib.hid hlat
                        clear hlat
                        try clear hc
                        try clear h
                        have hq3 : ((q : Int) < 0) = False := eq_false (by omega)
                        go_quiet (fail)
                        clear x0 d0 d1 f0 f1 k1 hq3
                        try clear k2
                        go_wp2
                        go_roundg (l.length - (m4 + 1))
                        case measure => have := HK4.out; omega
                        case rel => exact ⟨m4 + 1, _, o4, by omega, rfl, by go_num, rfl, .inr ⟨m4, hlt4, rfl, HM.out, HV.out⟩, (HR.out.2.2.ok o4 ((take_iff o4 s4).2 ⟨HV.out, HLT.out⟩)).congr (fun x => by rw [← HM.out]; exact among_succ hlt4 x), G9.out.1.more (Ext.drewN_r _)⟩
                      · subst h
                        by_cases hc : sc < o4.count
                        · have hlat : o4.later s4 := by rw [later_iff, HS.out.1, HS.out.2]; exact .inr ⟨rfl, hc⟩
                          go_upto_region 30 with fail
                          have k1 : (o4.life < o4.life) = False := eq_false (by omega)
                          have k2 : (sc < o4.count) = True := eq_true hc
                          have HLT := Lib.hid hlat
                          clear hlat
                          try clear hc
                          try clear h
                          have hq3 : ((q : Int) < 0) = False := eq_false (by omega)
                          go_quiet (fail)
                          clear x0 d0 d1 f0 f1 k1 hq3
                          try clear k2
                          go_wp2
                          go_roundg (l.length - (m4 + 1))
                          case measure => have := HK4.out; omega
                          case rel => exact ⟨m4 + 1, _, o4, by omega, rfl, by go_num, rfl, .inr ⟨m4, hlt4, rfl, HM.out, HV.out⟩, (HR.out.2.2.ok o4 ((take_iff o4 s4).2 ⟨HV.out, HLT.out⟩)).congr (fun x => by rw [← HM.out]; exact among_succ hlt4 x), G9.out.1.more (Ext.drewN_r _)⟩
                        · have hlat : ¬ o4.later s4 := by rw [later_iff, HS.out.1, HS.out.2]; omega
                          go_upto_region 30 with fail
                          have k1 : (o4.life < o4.life) = False := eq_false (by omega)
                          have k2 : (sc < o4.count) = False := eq_false hc
                          have HLT := Lib.hid hlat
                          clear hlat
                          try clear hc
                          try clear h
                          have hq3 : ((q : Int) < 0) = False := eq_false (by omega)
                          go_quiet (fail)
                          clear x0 d0 d1 f0 f1 k1 hq3
                          try clear k2
                          go_wp2
                          go_roundg (l.length - (m4 + 1))
                          case measure => have := HK4.out; omega
                          case rel => exact ⟨m4 + 1, _, s4, by omega, rfl, by go_num, rfl, .inr ⟨q, hq, rfl, HQ.out.1, HQ.out.2⟩, (HR.out.2.2.no o4 (fun h => HLT.out ((take_iff o4 s4).1 h).2)).congr (fun x => by rw [← HM.out]; exact among_succ hlt4 x), G9.out.1.more (Ext.drewN_r _)⟩
                      · have hlat : ¬ o4.later s4 := by rw [later_iff, HS.out.1, HS.out.2]; omega
                        go_upto_region 30 with fail
                        have k1 : (sl < o4.life) = False := eq_false (by omega)
                        have k2 : ((o4.life : Int) == (sl : Int)) = false := by rw [beq_eq_false_iff_ne]; omega
                        have HLT := Lib.hid hlat
                        clear hlat
                        try clear hc
                        try clear h
                        have hq3 : ((q : Int) < 0) = False := eq_false (by omega)
                        go_quiet (fail)
                        clear x0 d0 d1 f0 f1 k1 hq3
                        try clear k2
                        go_wp2
                        go_roundg (l.length - (m4 + 1))
                        case measure => have := HK4.out; omega
                        case rel => exact ⟨m4 + 1, _, s4, by omega, rfl, by go_num, rfl, .inr ⟨q, hq, rfl, HQ.out.1, HQ.out.2⟩, (HR.out.2.2.no o4 (fun h => HLT.out ((take_iff o4 s4).1 h).2)).congr (fun x => by rw [← HM.out]; exact among_succ hlt4 x), G9.out.1.more (Ext.drewN_r _)⟩
                  · go_wp2
                    go_roundg (l.length - (m4 + 1))
                    case measure => have := HK4.out; omega
                    case rel => exact ⟨m4 + 1, _, s4, by omega, rfl, by go_num, rfl, HR.out.2.1, (HR.out.2.2.no o4 (fun h => by have h1 := (take_first o4).2 ((take_iff o4 s4).1 h).1; rw [HE.out.1] at h1; omega)).congr (fun x => by rw [← HM.out]; exact among_succ hlt4 x), G9.out.1⟩
              · have hi4 : ¬ (m4 : Int) < (l.length : Int) := by omega
                obtain rfl : m4 = l.length := by omega
                have hss : s3 = s4 := Top.unique HT3.out HR.out.2.2 (fun x => Iff.rfl) (fun x y hx hy h1 h2 => by
                  obtain ⟨qx, hqx, _, rfl⟩ := hx
                  obtain ⟨qy, hqy, _, rfl⟩ := hy
                  exact HL.out.1 _ (List.getElem_mem hqx) _ (List.getElem_mem hqy) h1 h2)
                subst hss
                go_upto_region 32 with fail
                rcases HR.out.2.1 with ⟨rfl, rfl⟩ | ⟨q, hq, rfl, hs, hqv⟩
                · have tb0 := HR.out.1.cells.1
                  go_wp2_with fail
                  refine (told_same (show ToldAt wr t St3 0 0 0 [] from HR.out.1.tt.told) HR.out.1.pt.told).mono ?_
                  rintro e w9 ⟨rfl, hg⟩
                  have A := Lib.hid (HR.out.1.grows.trans hg)
                  clear hg tb0 x0
                  go_wp2_with fail
                  refine (ranks_wakes _).mono ?_
                  rintro e w10 ⟨rfl, hg⟩
                  have A2 := Lib.hid (A.out.trans hg)
                  clear hg
                  go_wp2
                  go_ret
                  exact ⟨rfl, Ext.to_below A2.out⟩
                · have hq1 : (q : Int) < (l.length : Int) := by omega
                  have hq2 : (0 : Int) ≤ (q : Int) := by omega
                  obtain ⟨g4, goff, gcap, e, hgl, hdd, hrs4⟩ := HR.out.1.own.at q hq
                  injection e with e1 e2 e3
                  subst e1 e3
                  clear e2
                  have hbb4 := (HR.out.1.own.rs _ (List.getElem_mem hq)).2
                  rw [hs] at hdd hrs4 hbb4
                  obtain ⟨la, lc, hla⟩ := hrs4.form
                  rw [hla] at hdd hrs4
                  have HO4 := Lib.hid (And.intro hrs4 (And.intro hbb4 hgl))
                  have HD := Lib.hid (And.intro x0 hdd)
                  have HV := Lib.hid ((take_first s3).2 hqv)
                  clear hrs4 hbb4 hgl hdd hla hs hqv
                  go_upto_region 33 with fail
                  clear x0
                  obtain ⟨x0, d0, d1, d2, d3⟩ := HD.out
                  have hpl : p < wr.heap.size := HR.out.1.pt.told.lt
                  have HPL := Lib.hid hpl
                  clear hpl
                  go_region_held3 (fun w' => w'.cell? ⟨ob, 0, none⟩ = some (.slice (some ⟨g4, goff, none⟩) l.length vc1) ∧ w'.cell? ⟨g4, goff + q * 4, none⟩ = some (.int .u64 s3.life) ∧ w'.cell? ⟨g4, goff + q * 4 + 1, none⟩ = some (.int .u64 s3.count) ∧ w'.cell? ⟨g4, goff + q * 4 + 2, none⟩ = some (.int .u64 s3.base) ∧ w'.cell? ⟨g4, goff + q * 4 + 3, none⟩ = some (.slice la s3.l.length lc))
                    (first
                      | go_keep
                      | exact keep5 he9 ⟨HR.out.1.lt.2, fun h => HR.out.1.ne.2.2.2.2 h.symm⟩ ⟨HO4.out.2.2, fun h => (HR.out.1.vb g4 rfl).2.2.1 (h ▸ HR.out.1.pt.told.own)⟩ HD.out)
                    (first
                      | (go_at_call 14; refine (ts_take_ok (HR.out.1.pt.more (Ext.drewN_r _)) s3.life s3.count s3.base _ s3.l (HO4.out.1.grows (Ext.drewN_r _)) HO4.out.2.1 HV.out).mono ?_; rintro e w9 ⟨rfl, h9, he9⟩))
                  all_goals
                    have he9' : Ext (fun k => k = p) wr w9 := ((Ext.refl (fun k => k = p) wr).drew).trans he9
                    have hh : ToldAt w9 t St3 s3.life s3.count s3.base (kept s3.l) := HR.out.1.tt.told.ext he9' (fun k hk hp => (HR.out.1.tS k hk).1 hp)
                    have htb : w9.cell? ⟨tb, 0, none⟩ = some (.pointer (some ⟨t, 0, none⟩)) := (he9'.cell HR.out.1.lt.1 (fun h => HR.out.1.ne.2.2.2.1 h.symm)).trans HR.out.1.cells.1
                    obtain ⟨S9, h9a, _⟩ := h9
                    have A := Lib.hid (And.intro hh h9a)
                    clear h9a hh he9 he9' x0 d0 d1 d2 d3
                    go_wp2_with fail
                    refine (told_same A.out.1 A.out.2.told).mono ?_
                    rintro e w10 ⟨rfl, hg⟩
                    have A2 := Lib.hid (A.out.2.grows.trans hg)
                    clear hg htb
                    go_wp2_with fail
                    refine (ranks_wakes _).mono ?_
                    rintro e w11 ⟨rfl, hg⟩
                    have A3 := Lib.hid (A2.out.trans hg)
                    clear hg
                    go_wp2
                    go_ret
                    exact ⟨rfl, Ext.to_below A3.out⟩
namespace RanksLatestShell
theorem own : ownKnob Try.prog.godebug = none := by kernel_rfl
theorem laidOut : laidOutB Try.prog = true := by kernel_rfl
set_option maxRecDepth 100000 in
theorem lifted (os : Os) (started : os.Started) (H : Type) (enc : TypeId × Value → H) :
    ReturnsInHanded {} Try.checked os 5 .any (Rows.ranksLatestSpec.pre6 enc Try.prog Try.f5 Rows.ranksLatestRow.domain false) (Rows.ranksLatestSpec.post enc Try.prog Try.f5 false true false false) := by
  refine returnsInHanded_of_change_sized (C := Try.checked) own started (by kernel_rfl) Try.func5
    (ChangeSpec.witness6 (enc := enc) (C := Try.checked) false ⟨#[], #[.slice none 0 0, .slice none 0 0], []⟩ 8 (by kernel_rfl) (by kernel_rfl) (by kernel_rfl) (by kernel_rfl)) ?_
  intro W base args ds gs before hval0 hW hcnd hsz0 _
  have hval : ∀ (j : Nat) t v, Try.f5.params[j]? = some t → args[j]? = some v → Value.okWide Try.prog W .any base t v := hval0
  have hsz : (DataW.weightsEach Try.prog (Try.f5.params.toList ++ Rows.ranksLatestSpec.plain.varTypes Try.prog) (ds ++ gs)).all (· ≤ reachBytes) = true := hsz0
  have hW' := hW
  obtain ⟨p, q, hA0, hV, rfl, hfz, hnd⟩ := hW
  have hA : DataW.TrodAll enc Try.prog W 0 (fun _ => true) true Try.f5.params.toList args.toList ds p := hA0
  rw [Try.params5] at hA hval hsz
  obtain ⟨v0, vs0, d0, ds0, p0, q0, hargs, rfl, rfl, h0, r0⟩ := trodAll_cons hA
  obtain ⟨v1, vs1, d1, ds1, p1, q1, rfl, rfl, rfl, h1, r1⟩ := trodAll_cons r0
  obtain ⟨rfl, rfl, rfl⟩ := trodAll_nil r1
  obtain rfl : args = #[v0, v1] := by cases args; simp_all
  obtain ⟨rfl, rfl⟩ := trodVars_none hV
  have k0 := h0
  have lt0 : ∀ x ∈ p0, x.block < W.heap.size := by obtain ⟨m, hm⟩ := k0; exact DataW.trod_lt m _ _ _ hm
  have k1 := h1
  have lt1 : ∀ x ∈ p1, x.block < W.heap.size := by obtain ⟨m, hm⟩ := k1; exact DataW.trod_lt m _ _ _ hm
  obtain ⟨a0, w0⟩ := open_tells (hval 0 34 v0 rfl rfl) h0 hsz (j := 0) rfl rfl
  obtain ⟨a1, w1⟩ := open_shorts (hval 1 45 v1 rfl rfl) h1 hsz (j := 1) rfl rfl
  clear hA0 hval0 hsz0
  refine (RanksLatest_walk v0 a0 v1 a1 W w0 w1).mono fun e W' ⟨he, bel⟩ => ?_
  subst he
  exact ⟨_, rfl, _, _, _, [], _, [], hW', trodAll_mk1 (shut_bool Try.underlying4 _), (trodAll_cons_mk (Below.trod laidOut (by kernel_rfl) (of_decide_eq_true (by kernel_rfl)) k0 bel lt0) (trodAll_cons_mk (Below.trod laidOut (by kernel_rfl) (of_decide_eq_true (by kernel_rfl)) k1 bel lt1) trodAll_mk0)), rfl, bel.frame _, fun h => by cases h⟩
theorem over : Rows.ranksLatestRow.holds Try.pinned (OpenSpec.ofChange Rows.ranksLatestSpec) :=
  OpenClaim.holds_of_wide 5 Try.f5 rfl rfl rfl rfl rfl rfl rfl ⟨rfl, rfl, rfl, rfl, rfl⟩ rfl rfl rfl rfl rfl (by kernel_rfl) Try.func5 (by kernel_rfl)
    (of_decide_eq_true (by kernel_rfl)) (by unfold Func.isWrapper; first | (rw [if_pos (by decide +kernel)]; kernel_rfl) | (rw [if_neg (by decide +kernel)]; exact ⟨rfl, rfl⟩))
    (fun os started H enc _ => lifted os started H enc)
end RanksLatestShell
theorem RanksLatest_holds : Rows.RanksLatestSaid := RanksLatestShell.over
#print axioms RanksLatest_holds
end Go.Proofs.Ytpkaddpennafcaa
