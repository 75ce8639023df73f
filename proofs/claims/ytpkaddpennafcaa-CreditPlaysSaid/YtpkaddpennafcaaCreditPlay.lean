/- CreditPlays: accounts under any calls tell what the document's tell. -/
import Derived.Test.YtpkaddpennafcaaCreditW
import Derived.Test.YtpkaddpennafcaaQuad
import Derived.Deep.LoopGhost
import Derived.Deep.DeepCutAuto
namespace Go.Proofs.Ytpkaddpennafcaa
set_option linter.unusedVariables false
set_option linter.unusedSimpArgs false
open Go.ChangeShapes Go.WideShapes Go.ChangeAt Go.RowKit

/-- The state at a round's head: both tell the same. -/
structure Play (w wr : World) (s t r q own places P G U rP rG S : Nat) : Prop where
  quad : Quad w wr s t r q own places P G U P G U rP rG S rP rG S

theorem keep3 {s c : Nat} {w w' : World} {x y z : Option Value} (he : Ext (fun k => k = s) w w') (hc : c < w.heap.size) (hs : c ≠ s) (h : w.cell? ⟨c, 2, none⟩ = x ∧ w.cell? ⟨c, 3, none⟩ = y ∧ w.cell? ⟨c, 4, none⟩ = z) :
    w'.cell? ⟨c, 2, none⟩ = x ∧ w'.cell? ⟨c, 3, none⟩ = y ∧ w'.cell? ⟨c, 4, none⟩ = z :=
  ⟨(he.cell hc hs).trans h.1, (he.cell hc hs).trans h.2.1, (he.cell hc hs).trans h.2.2⟩

set_option maxRecDepth 4000 in
set_option maxHeartbeats 8000000 in
theorem play_loop (life places : Nat) (v : Value) (xs : List OpV) (w : World) (h2 : Ops w v xs) (l1 : 1 ≤ life) (l2 : life ≤ Most) (p1 : 1 ≤ places) (p2 : places ≤ 64) :
    Calls Try.prog 7 #[.int .u64 life, .int .i64 places, v] w fun e w' => e = .returned (.bool true) ∧ Below w.heap.size w w' := by
  obtain ⟨va, vc, rfl⟩ := h2.form
  have NS := Lib.hid h2
  have L := Lib.hid (And.intro l1 l2)
  clear h2 l1 l2
  go_enter Try.func7, Try.ntmps7
  go_wp2_with fail
  refine (newSender_ok life w L.out.1 L.out.2).mono ?_
  rintro e w1 ⟨rfl, H1, g1⟩
  have l1 := H1.lt
  have A1 := Lib.hid (And.intro H1 g1)
  clear H1 g1
  go_wp2_with fail
  refine (ref_newS_ok life w1 L.out.1 L.out.2).mono ?_
  rintro e w2 ⟨rfl, H2, g2⟩
  have l2 := H2.lt
  have A2 := Lib.hid (And.intro H2 g2)
  clear H2 g2
  go_wp2_with fail
  refine (newReceiver_ok places w2 p1 p2).mono ?_
  rintro e w3 ⟨rfl, H3, g3⟩
  have l3 := H3.lt
  have A3 := Lib.hid (And.intro H3 g3)
  clear H3 g3
  go_wp2_with fail
  refine (ref_newR_ok places w3 p1 p2).mono ?_
  rintro e w4 ⟨rfl, H4, g4⟩
  have Q4 : Quad w w4 w.heap.size w1.heap.size w2.heap.size w3.heap.size life places 0 0 0 0 0 0 0 0 0 0 0 0 := by
    have s2 := A2.out.2.size
    have s3 := A3.out.2.size
    exact ⟨((A1.out.1.ext A2.out.2 (fun h => h)).ext A3.out.2 (fun h => h)).ext g4 (fun h => h), (A2.out.1.ext A3.out.2 (fun h => h)).ext g4 (fun h => h), A3.out.1.ext g4 (fun h => h), H4, by omega, by omega, by omega, by omega, by omega, by omega, by omega, by omega, by omega, by omega, ((A1.out.2.trans A2.out.2).trans A3.out.2).trans g4⟩
  clear A1 A2 A3 H4 g4
  generalize w.heap.size = s at Q4 ⊢
  generalize w1.heap.size = t at Q4 ⊢
  generalize w2.heap.size = r at Q4 ⊢
  generalize w3.heap.size = q at Q4 ⊢
  clear l1 l2 l3
  have HH := Lib.hid Q4
  clear Q4
  go_wp2_with fail
  refine (credit_wakes _).mono ?_
  rintro e w5 ⟨rfl, hg⟩
  have HI := Lib.hid (HH.out.more hg)
  clear HH hg
  go_wp2
  go_loopg [15] xs.length (fun k c wr => ∃ j P G U rP rG S : Nat, j ≤ xs.length ∧ j ≤ 100 ∧ k = xs.length - j ∧ c = .int .i64 (j : Nat) ∧ Play w wr s t r q life places P G U rP rG S)
  case atStart => exact ⟨0, 0, 0, 0, 0, 0, 0, by omega, by omega, by omega, rfl, ⟨HI.out⟩⟩
  case round =>
    obtain ⟨j, P, G, U, rP, rG, S, hj, hj1, hk, rfl, hI⟩ := hrel
    have HK := Lib.hid hk
    have HH := Lib.hid hI.quad
    clear hk hI HI
    by_cases hlt : j < xs.length
    · by_cases h100 : j < 100
      · have hj0 : (j : Int) < 100 := by omega
        have hj2 : (j : Int) < (xs.length : Int) := by omega
        have hj3 : (0 : Int) ≤ (j : Int) := by omega
        obtain ⟨b, off, cap, e, hbl, hcell, hxb⟩ := NS.out.at j hlt
        injection e with e1 e2 e3
        subst e1 e3
        clear e2
        generalize xs[j] = o at hcell hxb
        obtain ⟨what, free, life', dest, n⟩ := o
        have c0 := (HH.out.grows.cell hbl (fun h => h)).trans (hcell 0 (by omega))
        have c1 := (HH.out.grows.cell hbl (fun h => h)).trans (hcell 1 (by omega))
        have c2 := (HH.out.grows.cell hbl (fun h => h)).trans (hcell 2 (by omega))
        have c3 := (HH.out.grows.cell hbl (fun h => h)).trans (hcell 3 (by omega))
        have c4 := (HH.out.grows.cell hbl (fun h => h)).trans (hcell 4 (by omega))
        simp only [OpV.cells, Nat.add_zero, List.getElem?_cons_zero, List.getElem?_cons_succ] at c0 c1 c2 c3 c4
        have XB := Lib.hid hxb
        clear hbl hcell hxb
        have HA := Lib.hid (HH.out.more ((Ext.refl _ wr).alloc (.cells #[.int .i64 what, .int .i64 free, .int .u64 life', .int .u64 dest, .int .u64 n] 70)))
        have hA0 : (wr.alloc (.cells #[.int .i64 what, .int .i64 free, .int .u64 life', .int .u64 dest, .int .u64 n] 70)).heap[wr.heap.size]? = some (.cells #[.int .i64 what, .int .i64 free, .int .u64 life', .int .u64 dest, .int .u64 n] 70 (0, 0)) := heap_alloc_new wr _
        have A0 := Lib.hid hA0
        have hcs : s < wr.heap.size ∧ t < wr.heap.size ∧ r < wr.heap.size ∧ q < wr.heap.size := ⟨HH.out.snd.lt, HH.out.rs.lt, HH.out.rcv.lt, HH.out.rr.lt⟩
        have CS := Lib.hid hcs
        clear hA0 hcs
        have hw : what = 0 ∨ what = 1 ∨ what = 2 ∨ what = 3 ∨ what = 4 ∨ what = 5 ∨ (((what == 0) = false ∧ (what == 1) = false) ∧ ((what == 2) = false ∧ (what == 3) = false) ∧ ((what == 4) = false ∧ (what == 5) = false)) := by simp; omega
        rcases hw with rfl | rfl | rfl | rfl | rfl | rfl | ⟨⟨k0, k1⟩, ⟨k2, k3⟩, ⟨k4, k5⟩⟩
        ·
          go_wp2_with fail
          generalize wr.alloc (.cells #[.int .i64 0, .int .i64 free, .int .u64 life', .int .u64 dest, .int .u64 n] 70) = wa at HA ⊢
          by_cases hu : U < G
          · obtain ⟨m, hm⟩ : ∃ m, U + 1 = m := ⟨_, rfl⟩
            refine (quad_use_ok HA.out hu m hm).mono ?_
            rintro e wb ⟨rfl, H', _⟩
            have HB := Lib.hid H'
            clear H'
            go_wp2_with fail
            refine (quad_ruse_ok HB.out hu HA.out.snd.2.2.2.2.1 m hm).mono ?_
            rintro e wc ⟨rfl, H', _⟩
            clear HB HA
            have HB := Lib.hid H'
            clear H'
            obtain ⟨d1, d2, d3, d4⟩ := HB.out.cells
            go_wp2_with fail
            obtain ⟨bm, hbm⟩ : ∃ bm, decide (m < G) = bm := ⟨_, rfl⟩
            go_quiet (first
              | (go_at_call 42; exact quad_may_q HB.out bm hbm _)
              | (go_at_call 43; exact quad_rmay_q HB.out bm hbm _)
              | (go_at_call 44; exact quad_sent_q HB.out _)
              | (go_at_call 45; exact quad_granted_q HB.out _)
              | (go_at_call 46; exact quad_life_q HB.out _)
              | (go_at_call 47; exact quad_seen_q HB.out _))
            go_wp2
            go_roundg (xs.length - (j + 1))
            case measure => have := HK.out; omega
            case rel => exact ⟨j + 1, P, G, m, rP, rG, S, by omega, by omega, rfl, by go_num, ⟨HB.out.drewN _⟩⟩
          · refine (quad_use_no HA.out (by omega)).mono ?_
            rintro e wb ⟨rfl, rfl⟩
            go_wp2_with fail
            refine (quad_ruse_no HA.out (by omega)).mono ?_
            rintro e wc ⟨rfl, g⟩
            have HB := Lib.hid (HA.out.more g)
            clear HA g
            obtain ⟨d1, d2, d3, d4⟩ := HB.out.cells
            go_wp2_with fail
            obtain ⟨bm, hbm⟩ : ∃ bm, decide (U < G) = bm := ⟨_, rfl⟩
            go_quiet (first
              | (go_at_call 42; exact quad_may_q HB.out bm hbm _)
              | (go_at_call 43; exact quad_rmay_q HB.out bm hbm _)
              | (go_at_call 44; exact quad_sent_q HB.out _)
              | (go_at_call 45; exact quad_granted_q HB.out _)
              | (go_at_call 46; exact quad_life_q HB.out _)
              | (go_at_call 47; exact quad_seen_q HB.out _))
            go_wp2
            go_roundg (xs.length - (j + 1))
            case measure => have := HK.out; omega
            case rel => exact ⟨j + 1, P, G, U, rP, rG, S, by omega, by omega, rfl, by go_num, ⟨HB.out.drewN _⟩⟩
        ·
          go_wp2_with fail
          generalize wr.alloc (.cells #[.int .i64 1, .int .i64 free, .int .u64 life', .int .u64 dest, .int .u64 n] 70) = wa at HA ⊢
          by_cases hu : U < G
          · obtain ⟨m, hm⟩ : ∃ m, U + 1 = m := ⟨_, rfl⟩
            refine (quad_use_ok HA.out hu m hm).mono ?_
            rintro e wb ⟨rfl, H', _⟩
            have HB := Lib.hid H'
            clear H'
            go_wp2_with fail
            refine (quad_ruse_ok HB.out hu HA.out.snd.2.2.2.2.1 m hm).mono ?_
            rintro e wc ⟨rfl, H', _⟩
            clear HB HA
            have HB := Lib.hid H'
            clear H'
            obtain ⟨d1, d2, d3, d4⟩ := HB.out.cells
            go_wp2_with fail
            obtain ⟨bm, hbm⟩ : ∃ bm, decide (m < G) = bm := ⟨_, rfl⟩
            go_quiet (first
              | (go_at_call 42; exact quad_may_q HB.out bm hbm _)
              | (go_at_call 43; exact quad_rmay_q HB.out bm hbm _)
              | (go_at_call 44; exact quad_sent_q HB.out _)
              | (go_at_call 45; exact quad_granted_q HB.out _)
              | (go_at_call 46; exact quad_life_q HB.out _)
              | (go_at_call 47; exact quad_seen_q HB.out _))
            go_wp2
            go_roundg (xs.length - (j + 1))
            case measure => have := HK.out; omega
            case rel => exact ⟨j + 1, P, G, m, rP, rG, S, by omega, by omega, rfl, by go_num, ⟨HB.out.drewN _⟩⟩
          · refine (quad_use_no HA.out (by omega)).mono ?_
            rintro e wb ⟨rfl, rfl⟩
            go_wp2_with fail
            refine (quad_ruse_no HA.out (by omega)).mono ?_
            rintro e wc ⟨rfl, g⟩
            have HB := Lib.hid (HA.out.more g)
            clear HA g
            obtain ⟨d1, d2, d3, d4⟩ := HB.out.cells
            go_wp2_with fail
            obtain ⟨bm, hbm⟩ : ∃ bm, decide (U < G) = bm := ⟨_, rfl⟩
            go_quiet (first
              | (go_at_call 42; exact quad_may_q HB.out bm hbm _)
              | (go_at_call 43; exact quad_rmay_q HB.out bm hbm _)
              | (go_at_call 44; exact quad_sent_q HB.out _)
              | (go_at_call 45; exact quad_granted_q HB.out _)
              | (go_at_call 46; exact quad_life_q HB.out _)
              | (go_at_call 47; exact quad_seen_q HB.out _))
            go_wp2
            go_roundg (xs.length - (j + 1))
            case measure => have := HK.out; omega
            case rel => exact ⟨j + 1, P, G, U, rP, rG, S, by omega, by omega, rfl, by go_num, ⟨HB.out.drewN _⟩⟩
        ·
          go_wp2_with fail
          obtain ⟨E, hE⟩ : ∃ E, takeE life P life' dest n = E := ⟨_, rfl⟩
          obtain ⟨P2, hP⟩ : ∃ P2, takeP life P life' dest n = P2 := ⟨_, rfl⟩
          obtain ⟨G2, hG⟩ : ∃ G2, takeG life P G life' dest n = G2 := ⟨_, rfl⟩
          have HE := Lib.hid (And.intro hE (And.intro hP hG))
          have HC := Lib.hid (show (wr.alloc (.cells #[.int .i64 2, .int .i64 free, .int .u64 life', .int .u64 dest, .int .u64 n] 70)).cell? ⟨wr.heap.size, 2, none⟩ = some (.int .u64 life') ∧ (wr.alloc (.cells #[.int .i64 2, .int .i64 free, .int .u64 life', .int .u64 dest, .int .u64 n] 70)).cell? ⟨wr.heap.size, 3, none⟩ = some (.int .u64 dest) ∧ (wr.alloc (.cells #[.int .i64 2, .int .i64 free, .int .u64 life', .int .u64 dest, .int .u64 n] 70)).cell? ⟨wr.heap.size, 4, none⟩ = some (.int .u64 n) from ⟨by rw [cell_of_heap A0.out 2]; simp, by rw [cell_of_heap A0.out 3]; simp, by rw [cell_of_heap A0.out 4]; simp⟩)
          have HL := Lib.hid (heap_lt A0.out)
          clear hE hP hG A0 c0 c1 c2 c3 c4
          generalize wr.alloc (.cells #[.int .i64 2, .int .i64 free, .int .u64 life', .int .u64 dest, .int .u64 n] 70) = wa at HA HC HL ⊢
          generalize wr.heap.size = c at HC CS HL ⊢
          obtain ⟨c2, c3, c4⟩ := HC.out
          go_region_held3 (fun w' => w'.cell? ⟨c, 2, none⟩ = some (.int .u64 life') ∧ w'.cell? ⟨c, 3, none⟩ = some (.int .u64 dest) ∧ w'.cell? ⟨c, 4, none⟩ = some (.int .u64 n))
            (first
              | go_keep
              | exact keep3 he2 (Nat.lt_of_lt_of_le HL.out he1.size) (Nat.ne_of_gt CS.out.2.1) (keep3 he1 HL.out (Nat.ne_of_gt CS.out.1) HC.out)
              | exact keep3 he1 HL.out (Nat.ne_of_gt CS.out.1) HC.out)
            (first
              | (go_at_call 36; refine (quad_take (HA.out.drewN _) life' dest n E P2 G2 HE.out.1 HE.out.2.1 HE.out.2.2).mono ?_; rintro e wb ⟨rfl, HB, he1⟩)
              | (go_at_call 37; refine (quad_rtake HB life' dest n E P2 G2 HE.out.1 HE.out.2.1 HE.out.2.2).mono ?_; rintro e wc ⟨rfl, HC2, he2⟩))
          all_goals (clear HA; have HB := Lib.hid HC2; clear HC2 he1 he2 c2 c3 c4 HC)
          obtain ⟨d1, d2, d3, d4⟩ := HB.out.cells
          go_wp2_with fail
          obtain ⟨bm, hbm⟩ : ∃ bm, decide (U < G2) = bm := ⟨_, rfl⟩
          go_quiet (first
            | (go_at_call 42; exact quad_may_q HB.out bm hbm _)
            | (go_at_call 43; exact quad_rmay_q HB.out bm hbm _)
            | (go_at_call 44; exact quad_sent_q HB.out _)
            | (go_at_call 45; exact quad_granted_q HB.out _)
            | (go_at_call 46; exact quad_life_q HB.out _)
            | (go_at_call 47; exact quad_seen_q HB.out _))
          go_wp2
          go_roundg (xs.length - (j + 1))
          case measure => have := HK.out; omega
          case rel => exact ⟨j + 1, P2, G2, U, rP, rG, S, by omega, by omega, rfl, by go_num, ⟨HB.out.drewN _⟩⟩
        ·
          go_wp2_with fail
          obtain ⟨E, hE⟩ : ∃ E, takeE life P life' dest n = E := ⟨_, rfl⟩
          obtain ⟨P2, hP⟩ : ∃ P2, takeP life P life' dest n = P2 := ⟨_, rfl⟩
          obtain ⟨G2, hG⟩ : ∃ G2, takeG life P G life' dest n = G2 := ⟨_, rfl⟩
          have HE := Lib.hid (And.intro hE (And.intro hP hG))
          have HC := Lib.hid (show (wr.alloc (.cells #[.int .i64 3, .int .i64 free, .int .u64 life', .int .u64 dest, .int .u64 n] 70)).cell? ⟨wr.heap.size, 2, none⟩ = some (.int .u64 life') ∧ (wr.alloc (.cells #[.int .i64 3, .int .i64 free, .int .u64 life', .int .u64 dest, .int .u64 n] 70)).cell? ⟨wr.heap.size, 3, none⟩ = some (.int .u64 dest) ∧ (wr.alloc (.cells #[.int .i64 3, .int .i64 free, .int .u64 life', .int .u64 dest, .int .u64 n] 70)).cell? ⟨wr.heap.size, 4, none⟩ = some (.int .u64 n) from ⟨by rw [cell_of_heap A0.out 2]; simp, by rw [cell_of_heap A0.out 3]; simp, by rw [cell_of_heap A0.out 4]; simp⟩)
          have HL := Lib.hid (heap_lt A0.out)
          clear hE hP hG A0 c0 c1 c2 c3 c4
          generalize wr.alloc (.cells #[.int .i64 3, .int .i64 free, .int .u64 life', .int .u64 dest, .int .u64 n] 70) = wa at HA HC HL ⊢
          generalize wr.heap.size = c at HC CS HL ⊢
          obtain ⟨c2, c3, c4⟩ := HC.out
          go_region_held3 (fun w' => w'.cell? ⟨c, 2, none⟩ = some (.int .u64 life') ∧ w'.cell? ⟨c, 3, none⟩ = some (.int .u64 dest) ∧ w'.cell? ⟨c, 4, none⟩ = some (.int .u64 n))
            (first
              | go_keep
              | exact keep3 he2 (Nat.lt_of_lt_of_le HL.out he1.size) (Nat.ne_of_gt CS.out.2.1) (keep3 he1 HL.out (Nat.ne_of_gt CS.out.1) HC.out)
              | exact keep3 he1 HL.out (Nat.ne_of_gt CS.out.1) HC.out)
            (first
              | (go_at_call 36; refine (quad_take (HA.out.drewN _) life' dest n E P2 G2 HE.out.1 HE.out.2.1 HE.out.2.2).mono ?_; rintro e wb ⟨rfl, HB, he1⟩)
              | (go_at_call 37; refine (quad_rtake HB life' dest n E P2 G2 HE.out.1 HE.out.2.1 HE.out.2.2).mono ?_; rintro e wc ⟨rfl, HC2, he2⟩))
          all_goals (clear HA; have HB := Lib.hid HC2; clear HC2 he1 he2 c2 c3 c4 HC)
          obtain ⟨d1, d2, d3, d4⟩ := HB.out.cells
          go_wp2_with fail
          obtain ⟨bm, hbm⟩ : ∃ bm, decide (U < G2) = bm := ⟨_, rfl⟩
          go_quiet (first
            | (go_at_call 42; exact quad_may_q HB.out bm hbm _)
            | (go_at_call 43; exact quad_rmay_q HB.out bm hbm _)
            | (go_at_call 44; exact quad_sent_q HB.out _)
            | (go_at_call 45; exact quad_granted_q HB.out _)
            | (go_at_call 46; exact quad_life_q HB.out _)
            | (go_at_call 47; exact quad_seen_q HB.out _))
          go_wp2
          go_roundg (xs.length - (j + 1))
          case measure => have := HK.out; omega
          case rel => exact ⟨j + 1, P2, G2, U, rP, rG, S, by omega, by omega, rfl, by go_num, ⟨HB.out.drewN _⟩⟩
        ·
          go_wp2_with fail
          obtain ⟨E, hE⟩ : ∃ E, sawE rP life' n = E := ⟨_, rfl⟩
          obtain ⟨P2, hP⟩ : ∃ P2, sawP rP life' n = P2 := ⟨_, rfl⟩
          obtain ⟨G2, hG⟩ : ∃ G2, sawG rP rG life' n = G2 := ⟨_, rfl⟩
          obtain ⟨S2, hS⟩ : ∃ S2, sawS rP S life' n = S2 := ⟨_, rfl⟩
          have HE := Lib.hid (And.intro hE (And.intro hP (And.intro hG hS)))
          have HC := Lib.hid (show (wr.alloc (.cells #[.int .i64 4, .int .i64 free, .int .u64 life', .int .u64 dest, .int .u64 n] 70)).cell? ⟨wr.heap.size, 2, none⟩ = some (.int .u64 life') ∧ (wr.alloc (.cells #[.int .i64 4, .int .i64 free, .int .u64 life', .int .u64 dest, .int .u64 n] 70)).cell? ⟨wr.heap.size, 3, none⟩ = some (.int .u64 dest) ∧ (wr.alloc (.cells #[.int .i64 4, .int .i64 free, .int .u64 life', .int .u64 dest, .int .u64 n] 70)).cell? ⟨wr.heap.size, 4, none⟩ = some (.int .u64 n) from ⟨by rw [cell_of_heap A0.out 2]; simp, by rw [cell_of_heap A0.out 3]; simp, by rw [cell_of_heap A0.out 4]; simp⟩)
          have HL := Lib.hid (heap_lt A0.out)
          clear hE hP hG hS A0 c0 c1 c2 c3 c4
          generalize (wr.alloc (.cells #[.int .i64 4, .int .i64 free, .int .u64 life', .int .u64 dest, .int .u64 n] 70)) = wa at HA HC HL ⊢
          generalize wr.heap.size = c at HC CS HL ⊢
          obtain ⟨c2, c3, c4⟩ := HC.out
          go_region_held3 (fun w' => w'.cell? ⟨c, 2, none⟩ = some (.int .u64 life') ∧ w'.cell? ⟨c, 3, none⟩ = some (.int .u64 dest) ∧ w'.cell? ⟨c, 4, none⟩ = some (.int .u64 n))
            (first
              | go_keep
              | exact keep3 he2 (Nat.lt_of_lt_of_le HL.out he1.size) (Nat.ne_of_gt CS.out.2.2.2) (keep3 he1 HL.out (Nat.ne_of_gt CS.out.2.2.1) HC.out)
              | exact keep3 he1 HL.out (Nat.ne_of_gt CS.out.2.2.1) HC.out)
            (first
              | (go_at_call 38; refine (quad_saw (HA.out.drewN _) life' n E P2 G2 S2 HE.out.1 HE.out.2.1 HE.out.2.2.1 HE.out.2.2.2).mono ?_; rintro e wb ⟨rfl, HB, he1⟩)
              | (go_at_call 39; refine (quad_rsaw HB life' n E P2 G2 S2 HE.out.1 HE.out.2.1 HE.out.2.2.1 HE.out.2.2.2).mono ?_; rintro e wc ⟨rfl, HC2, he2⟩))
          all_goals (clear HA; have HB := Lib.hid HC2; clear HC2 he1 he2 c2 c3 c4 HC)
          obtain ⟨d1, d2, d3, d4⟩ := HB.out.cells
          go_wp2_with fail
          obtain ⟨bm, hbm⟩ : ∃ bm, decide (U < G) = bm := ⟨_, rfl⟩
          go_quiet (first
            | (go_at_call 42; exact quad_may_q HB.out bm hbm _)
            | (go_at_call 43; exact quad_rmay_q HB.out bm hbm _)
            | (go_at_call 44; exact quad_sent_q HB.out _)
            | (go_at_call 45; exact quad_granted_q HB.out _)
            | (go_at_call 46; exact quad_life_q HB.out _)
            | (go_at_call 47; exact quad_seen_q HB.out _))
          go_wp2
          go_roundg (xs.length - (j + 1))
          case measure => have := HK.out; omega
          case rel => exact ⟨j + 1, P, G, U, P2, G2, S2, by omega, by omega, rfl, by go_num, ⟨HB.out.drewN _⟩⟩
        ·
          go_wp2_with fail
          obtain ⟨E, hE⟩ : ∃ E, sawE rP life' n = E := ⟨_, rfl⟩
          obtain ⟨P2, hP⟩ : ∃ P2, sawP rP life' n = P2 := ⟨_, rfl⟩
          obtain ⟨G2, hG⟩ : ∃ G2, sawG rP rG life' n = G2 := ⟨_, rfl⟩
          obtain ⟨S2, hS⟩ : ∃ S2, sawS rP S life' n = S2 := ⟨_, rfl⟩
          have HE := Lib.hid (And.intro hE (And.intro hP (And.intro hG hS)))
          have HC := Lib.hid (show (wr.alloc (.cells #[.int .i64 5, .int .i64 free, .int .u64 life', .int .u64 dest, .int .u64 n] 70)).cell? ⟨wr.heap.size, 2, none⟩ = some (.int .u64 life') ∧ (wr.alloc (.cells #[.int .i64 5, .int .i64 free, .int .u64 life', .int .u64 dest, .int .u64 n] 70)).cell? ⟨wr.heap.size, 3, none⟩ = some (.int .u64 dest) ∧ (wr.alloc (.cells #[.int .i64 5, .int .i64 free, .int .u64 life', .int .u64 dest, .int .u64 n] 70)).cell? ⟨wr.heap.size, 4, none⟩ = some (.int .u64 n) from ⟨by rw [cell_of_heap A0.out 2]; simp, by rw [cell_of_heap A0.out 3]; simp, by rw [cell_of_heap A0.out 4]; simp⟩)
          have HL := Lib.hid (heap_lt A0.out)
          clear hE hP hG hS A0 c0 c1 c2 c3 c4
          generalize (wr.alloc (.cells #[.int .i64 5, .int .i64 free, .int .u64 life', .int .u64 dest, .int .u64 n] 70)) = wa at HA HC HL ⊢
          generalize wr.heap.size = c at HC CS HL ⊢
          obtain ⟨c2, c3, c4⟩ := HC.out
          go_region_held3 (fun w' => w'.cell? ⟨c, 2, none⟩ = some (.int .u64 life') ∧ w'.cell? ⟨c, 3, none⟩ = some (.int .u64 dest) ∧ w'.cell? ⟨c, 4, none⟩ = some (.int .u64 n))
            (first
              | go_keep
              | exact keep3 he2 (Nat.lt_of_lt_of_le HL.out he1.size) (Nat.ne_of_gt CS.out.2.2.2) (keep3 he1 HL.out (Nat.ne_of_gt CS.out.2.2.1) HC.out)
              | exact keep3 he1 HL.out (Nat.ne_of_gt CS.out.2.2.1) HC.out)
            (first
              | (go_at_call 38; refine (quad_saw (HA.out.drewN _) life' n E P2 G2 S2 HE.out.1 HE.out.2.1 HE.out.2.2.1 HE.out.2.2.2).mono ?_; rintro e wb ⟨rfl, HB, he1⟩)
              | (go_at_call 39; refine (quad_rsaw HB life' n E P2 G2 S2 HE.out.1 HE.out.2.1 HE.out.2.2.1 HE.out.2.2.2).mono ?_; rintro e wc ⟨rfl, HC2, he2⟩))
          all_goals (clear HA; have HB := Lib.hid HC2; clear HC2 he1 he2 c2 c3 c4 HC)
          obtain ⟨d1, d2, d3, d4⟩ := HB.out.cells
          go_wp2_with fail
          obtain ⟨bm, hbm⟩ : ∃ bm, decide (U < G) = bm := ⟨_, rfl⟩
          go_quiet (first
            | (go_at_call 42; exact quad_may_q HB.out bm hbm _)
            | (go_at_call 43; exact quad_rmay_q HB.out bm hbm _)
            | (go_at_call 44; exact quad_sent_q HB.out _)
            | (go_at_call 45; exact quad_granted_q HB.out _)
            | (go_at_call 46; exact quad_life_q HB.out _)
            | (go_at_call 47; exact quad_seen_q HB.out _))
          go_wp2
          go_roundg (xs.length - (j + 1))
          case measure => have := HK.out; omega
          case rel => exact ⟨j + 1, P, G, U, P2, G2, S2, by omega, by omega, rfl, by go_num, ⟨HB.out.drewN _⟩⟩
        ·
          go_wp2_with fail
          have HC := Lib.hid (show (wr.alloc (.cells #[.int .i64 what, .int .i64 free, .int .u64 life', .int .u64 dest, .int .u64 n] 70)).cell? ⟨wr.heap.size, 1, none⟩ = some (.int .i64 free) from by rw [cell_of_heap A0.out 1]; simp)
          have HL := Lib.hid (heap_lt A0.out)
          clear A0 c0 c1 c2 c3 c4
          generalize (wr.alloc (.cells #[.int .i64 what, .int .i64 free, .int .u64 life', .int .u64 dest, .int .u64 n] 70)) = wa at HA HC HL ⊢
          generalize wr.heap.size = c at HC CS HL ⊢
          have c1 := HC.out
          by_cases hf : free < 0 ∨ (places : Int) < free
          · refine (quad_grant_arg HA.out free hf).mono ?_
            rintro e wb ⟨rfl, rfl⟩
            go_wp2_with fail
            refine (quad_rgrant_arg HA.out free hf).mono ?_
            rintro e wb ⟨rfl, rfl⟩
            have HB := HA
            clear HA hf c1
            obtain ⟨d1, d2, d3, d4⟩ := HB.out.cells
            go_wp2_with fail
            obtain ⟨bm, hbm⟩ : ∃ bm, decide (U < G) = bm := ⟨_, rfl⟩
            go_quiet (first
              | (go_at_call 42; exact quad_may_q HB.out bm hbm _)
              | (go_at_call 43; exact quad_rmay_q HB.out bm hbm _)
              | (go_at_call 44; exact quad_sent_q HB.out _)
              | (go_at_call 45; exact quad_granted_q HB.out _)
              | (go_at_call 46; exact quad_life_q HB.out _)
              | (go_at_call 47; exact quad_seen_q HB.out _))
            go_wp2
            go_roundg (xs.length - (j + 1))
            case measure => have := HK.out; omega
            case rel => exact ⟨j + 1, P, G, U, rP, rG, S, by omega, by omega, rfl, by go_num, ⟨HB.out.drewN _⟩⟩
          · obtain ⟨f, rfl⟩ := Int.eq_ofNat_of_zero_le (show 0 ≤ free by omega)
            obtain ⟨G2, hG⟩ : ∃ G2, grantG rG S f = G2 := ⟨_, rfl⟩
            have HG := Lib.hid hG
            clear hG
            refine (quad_grant_ok HA.out f (by omega) G2 HG.out).mono ?_
            rintro e wb ⟨rfl, H', he⟩
            have c1 := (he.cell HL.out (Nat.ne_of_gt CS.out.2.2.1)).trans HC.out
            have HB := Lib.hid H'
            clear H' HA he
            go_wp2_with fail
            refine (quad_rgrant_ok HB.out f (by omega) p2 HB.out.rcv.2.2.2.2.2 G2 HG.out).mono ?_
            rintro e wc ⟨rfl, H', he⟩
            clear HB c1 HC he
            have HB := Lib.hid H'
            clear H' hf
            obtain ⟨d1, d2, d3, d4⟩ := HB.out.cells
            go_wp2_with fail
            obtain ⟨bm, hbm⟩ : ∃ bm, decide (U < G) = bm := ⟨_, rfl⟩
            go_quiet (first
              | (go_at_call 42; exact quad_may_q HB.out bm hbm _)
              | (go_at_call 43; exact quad_rmay_q HB.out bm hbm _)
              | (go_at_call 44; exact quad_sent_q HB.out _)
              | (go_at_call 45; exact quad_granted_q HB.out _)
              | (go_at_call 46; exact quad_life_q HB.out _)
              | (go_at_call 47; exact quad_seen_q HB.out _))
            go_wp2
            go_roundg (xs.length - (j + 1))
            case measure => have := HK.out; omega
            case rel => exact ⟨j + 1, P, G, U, rP, G2, S, by omega, by omega, rfl, by go_num, ⟨HB.out.drewN _⟩⟩
      · have h100' : ¬ (j : Int) < 100 := by omega
        have hj2 : (j : Int) < (xs.length : Int) := by omega
        go_wp2
        go_ret
        exact ⟨rfl, Ext.to_below HH.out.grows⟩
    · have hj2 : ¬ (j : Int) < (xs.length : Int) := by omega
      go_wp2
      go_ret
      exact ⟨rfl, Ext.to_below HH.out.grows⟩

end Go.Proofs.Ytpkaddpennafcaa
