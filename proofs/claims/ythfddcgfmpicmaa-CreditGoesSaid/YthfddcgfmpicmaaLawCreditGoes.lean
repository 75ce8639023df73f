/- CreditGoes: it does not stick; whatever the numbers. -/
import Derived.Test.YthfddcgfmpicmaaCreditW
import Derived.Deep.LoopGhost
import Derived.Test.YthfddcgfmpicmaaJoined
namespace Go.Proofs.Ythfddcgfmpicmaa
set_option linter.unusedVariables false
set_option linter.unusedSimpArgs false
open Go.ChangeShapes Go.WideShapes Go.ChangeAt Go.RowKit

theorem wf8 {n : Int} (h : (Lit.int .u8 n).wf = true) : 0 ≤ n ∧ n < 256 := by
  have h1 : IntKind.u8.min = 0 := rfl
  have h2 : IntKind.u8.max = 255 := rfl
  simp only [Lit.wf, Bool.and_eq_true, decide_eq_true_eq] at h
  omega
theorem wf64 {n : Int} (h : (Lit.int .u64 n).wf = true) : 0 ≤ n ∧ n < 18446744073709551616 := by
  have h1 : IntKind.u64.min = 0 := rfl
  have h2 : IntKind.u64.max = 18446744073709551615 := rfl
  simp only [Lit.wf, Bool.and_eq_true, decide_eq_true_eq] at h
  omega
theorem goes_saw {own x : Nat} (h1 : 1 ≤ own) (h2 : own ≤ Most) (hx : x ≤ Most) : sawE 0 own x = 0 ∧ sawP 0 own x = own ∧ sawG 0 0 own x = 0 ∧ sawS 0 0 own x = x := by
  have hE : sawE 0 own x = 0 := by rw [sawE, if_pos ⟨⟨h1, h2⟩, hx⟩, if_neg (by omega)]
  refine ⟨hE, by rw [sawP, hE, if_pos rfl], by rw [sawG, hE, if_pos rfl, if_pos (by omega)], by rw [sawS, hE, if_pos rfl, if_pos (by omega)]⟩
theorem goes_saw2 {own u x : Nat} (h1 : 1 ≤ own) (h2 : own ≤ Most) (hu : u ≤ Most) (hx : x ≤ u) : sawE own own u = 0 ∧ sawP own own u = own ∧ sawG own 0 own u = 0 ∧ sawS own x own u = u := by
  have hE : sawE own own u = 0 := by rw [sawE, if_pos ⟨⟨h1, h2⟩, hu⟩, if_neg (by omega)]
  refine ⟨hE, by rw [sawP, hE, if_pos rfl], by rw [sawG, hE, if_pos rfl, if_neg (by omega)], by rw [sawS, hE, if_pos rfl, if_neg (by omega)]; omega⟩
theorem goes_grant {u k : Nat} (hu : u ≤ 255) (hk : k ≤ 64) : grantG 0 u k = u + k := by
  unfold grantG
  simp only [Most]
  omega
theorem goes_take {own P G peer u n : Nat} (h1 : own ≤ Most) (hP : P ≤ 1) (hn : n ≤ Most) (hu : u < n) (h : 1 ≤ peer ∧ peer ≤ Most) :
    takeE own P peer own n = 0 ∧ u < takeG own P G peer own n := by
  have hE : takeE own P peer own n = 0 := by rw [takeE, if_pos ⟨h, h1, hn⟩, if_neg (by omega)]
  refine ⟨hE, ?_⟩
  rw [takeG, hE, if_pos rfl]
  split <;> omega
theorem goes_take_no {own P peer n : Nat} (h : ¬ (1 ≤ peer ∧ peer ≤ Most)) : takeE own P peer own n = 1 := by
  rw [takeE, if_neg (fun hh => h hh.1)]
theorem goes_first {own g : Nat} (h1 : 1 ≤ own) : takeP own 0 1 own g ≤ 1 := by
  unfold takeP
  split <;> omega

theorem sr_grant_int {w wr : World} {s own peer gr used r places rpeer rgr seen : Nat} (h : SR w wr s own peer gr used r places rpeer rgr seen) (x : Int) (free : Nat) (hx : x = (free : Int)) (hf : free ≤ places) (G : Nat) (hG : grantG rgr seen free = G) :
    Calls Try.prog 67 #[.pointer (some ⟨r, 0, none⟩), .int .i64 x] wr fun e w' => e = .returned (.tuple #[.int .u64 G, .int .i64 0]) ∧ SR w w' s own peer gr used r places rpeer G seen := by
  subst hx
  exact sr_grant h free hf G hG

set_option maxRecDepth 4000 in
set_option maxHeartbeats 8000000 in
theorem CreditGoes_walk (own peer granted use seen free : Int) (w : World) (h0 : (Lit.int .u64 own).wf = true) (h1 : (Lit.int .u64 peer).wf = true) (h2 : (Lit.int .u64 granted).wf = true) (h3 : (Lit.int .u8 use).wf = true) (h4 : (Lit.int .u64 seen).wf = true) (h5 : (Lit.int .u8 free).wf = true) :
    Calls Try.prog 10 #[.int .u64 own, .int .u64 peer, .int .u64 granted, .int .u8 use, .int .u64 seen, .int .u8 free] w fun e w' => e = .returned (.bool true) ∧ Below w.heap.size w w' := by
  obtain ⟨a1, a2⟩ := wf64 h0
  obtain ⟨a3, a4⟩ := wf64 h1
  obtain ⟨a5, a6⟩ := wf64 h2
  obtain ⟨a7, a8⟩ := wf8 h3
  obtain ⟨a9, a10⟩ := wf64 h4
  obtain ⟨a11, a12⟩ := wf8 h5
  clear h0 h1 h2 h3 h4 h5
  obtain ⟨own, rfl⟩ := Int.eq_ofNat_of_zero_le a1
  obtain ⟨peer, rfl⟩ := Int.eq_ofNat_of_zero_le a3
  obtain ⟨granted, rfl⟩ := Int.eq_ofNat_of_zero_le a5
  obtain ⟨use, rfl⟩ := Int.eq_ofNat_of_zero_le a7
  obtain ⟨seen, rfl⟩ := Int.eq_ofNat_of_zero_le a9
  obtain ⟨free, rfl⟩ := Int.eq_ofNat_of_zero_le a11
  clear a1 a2 a3 a4 a5 a6 a9 a10
  obtain ⟨s, hs⟩ : ∃ s, w.heap.size = s := ⟨_, rfl⟩
  have HZ := Lib.hid hs
  clear hs
  go_enter Try.func10, Try.ntmps10
  go_wp2_with fail
  by_cases hown : 1 ≤ own ∧ own ≤ Most
  · refine (sn_new own (Nat.le_of_eq HZ.out) (Ext.refl _ _) HZ.out hown.1 hown.2).mono ?_
    rintro e w' ⟨rfl, H'⟩
    have HH := Lib.hid H'
    clear H'
    go_wp2_with fail
    obtain ⟨r, hr⟩ : ∃ r, w'.heap.size = r := ⟨_, rfl⟩
    refine (sr_join HH.out hr 64 (by omega) (by omega)).mono ?_
    rintro e w' ⟨rfl, H'⟩
    clear HH hr
    have HH := Lib.hid H'
    clear H'
    go_wp2_with fail
    refine (sr_take HH.out 1 own granted _ _ _ rfl rfl rfl).mono ?_
    rintro e w' ⟨rfl, H'⟩
    have hP : takeP own 0 1 own granted ≤ 1 := goes_first hown.1
    generalize takeP own 0 1 own granted = P at H' hP
    generalize takeG own 0 0 1 own granted = G at H'
    generalize takeE own 0 1 own granted = E
    clear HH
    have HH := Lib.hid H'
    clear H'
    go_wp2
    go_loopg [17] use (fun k v wr => ∃ j u : Nat, j ≤ use ∧ u ≤ j ∧ k = use - j ∧ v = .int .i64 (j : Nat) ∧ SR w wr s own P G u r 64 0 0 0)
    case atStart => exact ⟨0, 0, by omega, by omega, by omega, rfl, HH.out⟩
    case round =>
      obtain ⟨j, u, hj, huj, hk, rfl, hI⟩ := hrel
      have HK := Lib.hid hk
      have HI := Lib.hid hI
      clear hk hI HH
      by_cases hju : j < use
      · have hju' : (j : Int) < (use : Int) := by omega
        by_cases hug : u < G
        · go_wp2_with fail
          refine (sr_use_ok HI.out hug _ rfl).mono ?_
          rintro e w' ⟨rfl, H'⟩
          have HI2 := Lib.hid H'
          clear H'
          go_wp2
          go_roundg (use - (j + 1))
          case measure => have := HK.out; omega
          case rel => exact ⟨j + 1, u + 1, by omega, by omega, rfl, by go_num, HI2.out⟩
        · go_wp2_with fail
          refine (sr_use_no HI.out (by omega)).mono ?_
          rintro e w' ⟨rfl, rfl⟩
          go_wp2
          go_roundg (use - (j + 1))
          case measure => have := HK.out; omega
          case rel => exact ⟨j + 1, u, by omega, by omega, rfl, by go_num, HI.out⟩
      · have hju' : ¬ (j : Int) < (use : Int) := by omega
        have hu255 : u ≤ 255 := by omega
        go_wp2_with fail
        refine (sr_sent HI.out).mono ?_
        rintro e w' ⟨rfl, rfl⟩
        by_cases hmin : u < seen
        · have hmin' : (u : Int) < (seen : Int) := by omega
          obtain ⟨e1, e2, e3, e4⟩ := goes_saw (own := own) (x := u) hown.1 hown.2 (by simp only [Most]; omega)
          have HE := Lib.hid (And.intro e1 (And.intro e2 (And.intro e3 e4)))
          clear e1 e2 e3 e4
          go_wp2_with fail
          refine (sr_saw HI.out own u 0 own 0 u HE.out.1 HE.out.2.1 HE.out.2.2.1 HE.out.2.2.2).mono ?_
          rintro e w' ⟨rfl, H'⟩
          clear HI HE
          have HH := Lib.hid H'
          clear H'
          go_wp2_with fail
          refine (sr_sent HH.out).mono ?_
          rintro e w9 ⟨rfl, rfl⟩
          obtain ⟨e1, e2, e3, e4⟩ := goes_saw2 (own := own) (u := u) (x := u) hown.1 hown.2 (by simp only [Most]; omega) (by omega)
          have HE := Lib.hid (And.intro e1 (And.intro e2 (And.intro e3 e4)))
          clear e1 e2 e3 e4
          go_wp2_with fail
          refine (sr_saw HH.out own u 0 own 0 u HE.out.1 HE.out.2.1 HE.out.2.2.1 HE.out.2.2.2).mono ?_
          rintro e w' ⟨rfl, H'⟩
          clear HH HE
          have HH := Lib.hid H'
          clear H'
          go_wp2_with fail
          refine (sr_seen HH.out).mono ?_
          rintro e w9 ⟨rfl, rfl⟩
          go_wp2_with fail
          refine (sr_sent HH.out).mono ?_
          rintro e w9 ⟨rfl, rfl⟩
          go_wp2_with fail
          refine (sr_grant_int HH.out _ (1 + free % 64) (by omega) (by omega) (u + (1 + free % 64)) (goes_grant hu255 (by omega))).mono ?_
          rintro e w' ⟨rfl, H'⟩
          clear HH
          have HH := Lib.hid H'
          clear H'
          have hnm : u + (1 + free % 64) ≤ Most := by simp only [Most]; omega
          have hun : u < u + (1 + free % 64) := by omega
          generalize u + (1 + free % 64) = n at HH hnm hun ⊢
          go_wp2_with fail
          by_cases hpeer : 1 ≤ peer ∧ peer ≤ Most
          · obtain ⟨e1, e2⟩ := goes_take (own := own) (P := P) (G := G) (peer := peer) hown.2 hP hnm hun hpeer
            have q1 : (1 : Int) ≤ (peer : Int) := by omega
            have q2 : (peer : Int) ≤ 1125899906842624 := by have := hpeer.2; simp only [Most] at this; omega
            refine (sr_take HH.out peer own n 0 _ _ e1 rfl rfl).mono ?_
            rintro e w' ⟨rfl, H'⟩
            clear HH
            generalize takeG own P G peer own n = G2 at H' e2
            generalize takeP own P peer own n = P2 at H'
            have HH := Lib.hid H'
            have hd : decide (u < G2) = true := by simpa using e2
            have HD := Lib.hid hd
            clear H' e1 e2 hd
            go_wp2_with fail
            refine (sr_may HH.out true HD.out).mono ?_
            rintro e w9 ⟨rfl, rfl⟩
            go_wp2_with fail
            refine (credit_wakes _).mono ?_
            rintro e w' ⟨rfl, hg⟩
            have HG2 := Lib.hid (HH.out.grows.trans hg)
            clear hg
            go_wp2
            go_ret
            exact ⟨rfl, Ext.to_below HG2.out⟩
          · refine (sr_take HH.out peer own n 1 _ _ (goes_take_no hpeer) rfl rfl).mono ?_
            rintro e w' ⟨rfl, H'⟩
            clear HH
            generalize takeG own P G peer own n = G2 at H'
            generalize takeP own P peer own n = P2 at H'
            have HH := Lib.hid H'
            clear H'
            by_cases q1 : (1 : Int) ≤ (peer : Int)
            · have q2 : ¬ (peer : Int) ≤ 1125899906842624 := by
                intro h
                exact hpeer ⟨by omega, by simp only [Most]; omega⟩
              clear hpeer
              go_wp2_with fail
              refine (credit_wakes _).mono ?_
              rintro e w' ⟨rfl, hg⟩
              have HG2 := Lib.hid (HH.out.grows.trans hg)
              clear hg
              go_wp2
              go_ret
              exact ⟨rfl, Ext.to_below HG2.out⟩
            ·
              clear hpeer
              go_wp2_with fail
              refine (credit_wakes _).mono ?_
              rintro e w' ⟨rfl, hg⟩
              have HG2 := Lib.hid (HH.out.grows.trans hg)
              clear hg
              go_wp2
              go_ret
              exact ⟨rfl, Ext.to_below HG2.out⟩
        · have hmin' : ¬ (u : Int) < (seen : Int) := by omega
          obtain ⟨e1, e2, e3, e4⟩ := goes_saw (own := own) (x := seen) hown.1 hown.2 (by simp only [Most]; omega)
          have HE := Lib.hid (And.intro e1 (And.intro e2 (And.intro e3 e4)))
          clear e1 e2 e3 e4
          go_wp2_with fail
          refine (sr_saw HI.out own seen 0 own 0 seen HE.out.1 HE.out.2.1 HE.out.2.2.1 HE.out.2.2.2).mono ?_
          rintro e w' ⟨rfl, H'⟩
          clear HI HE
          have HH := Lib.hid H'
          clear H'
          go_wp2_with fail
          refine (sr_sent HH.out).mono ?_
          rintro e w9 ⟨rfl, rfl⟩
          obtain ⟨e1, e2, e3, e4⟩ := goes_saw2 (own := own) (u := u) (x := seen) hown.1 hown.2 (by simp only [Most]; omega) (by omega)
          have HE := Lib.hid (And.intro e1 (And.intro e2 (And.intro e3 e4)))
          clear e1 e2 e3 e4
          go_wp2_with fail
          refine (sr_saw HH.out own u 0 own 0 u HE.out.1 HE.out.2.1 HE.out.2.2.1 HE.out.2.2.2).mono ?_
          rintro e w' ⟨rfl, H'⟩
          clear HH HE
          have HH := Lib.hid H'
          clear H'
          go_wp2_with fail
          refine (sr_seen HH.out).mono ?_
          rintro e w9 ⟨rfl, rfl⟩
          go_wp2_with fail
          refine (sr_sent HH.out).mono ?_
          rintro e w9 ⟨rfl, rfl⟩
          go_wp2_with fail
          refine (sr_grant_int HH.out _ (1 + free % 64) (by omega) (by omega) (u + (1 + free % 64)) (goes_grant hu255 (by omega))).mono ?_
          rintro e w' ⟨rfl, H'⟩
          clear HH
          have HH := Lib.hid H'
          clear H'
          have hnm : u + (1 + free % 64) ≤ Most := by simp only [Most]; omega
          have hun : u < u + (1 + free % 64) := by omega
          generalize u + (1 + free % 64) = n at HH hnm hun ⊢
          go_wp2_with fail
          by_cases hpeer : 1 ≤ peer ∧ peer ≤ Most
          · obtain ⟨e1, e2⟩ := goes_take (own := own) (P := P) (G := G) (peer := peer) hown.2 hP hnm hun hpeer
            have q1 : (1 : Int) ≤ (peer : Int) := by omega
            have q2 : (peer : Int) ≤ 1125899906842624 := by have := hpeer.2; simp only [Most] at this; omega
            refine (sr_take HH.out peer own n 0 _ _ e1 rfl rfl).mono ?_
            rintro e w' ⟨rfl, H'⟩
            clear HH
            generalize takeG own P G peer own n = G2 at H' e2
            generalize takeP own P peer own n = P2 at H'
            have HH := Lib.hid H'
            have hd : decide (u < G2) = true := by simpa using e2
            have HD := Lib.hid hd
            clear H' e1 e2 hd
            go_wp2_with fail
            refine (sr_may HH.out true HD.out).mono ?_
            rintro e w9 ⟨rfl, rfl⟩
            go_wp2_with fail
            refine (credit_wakes _).mono ?_
            rintro e w' ⟨rfl, hg⟩
            have HG2 := Lib.hid (HH.out.grows.trans hg)
            clear hg
            go_wp2
            go_ret
            exact ⟨rfl, Ext.to_below HG2.out⟩
          · refine (sr_take HH.out peer own n 1 _ _ (goes_take_no hpeer) rfl rfl).mono ?_
            rintro e w' ⟨rfl, H'⟩
            clear HH
            generalize takeG own P G peer own n = G2 at H'
            generalize takeP own P peer own n = P2 at H'
            have HH := Lib.hid H'
            clear H'
            by_cases q1 : (1 : Int) ≤ (peer : Int)
            · have q2 : ¬ (peer : Int) ≤ 1125899906842624 := by
                intro h
                exact hpeer ⟨by omega, by simp only [Most]; omega⟩
              clear hpeer
              go_wp2_with fail
              refine (credit_wakes _).mono ?_
              rintro e w' ⟨rfl, hg⟩
              have HG2 := Lib.hid (HH.out.grows.trans hg)
              clear hg
              go_wp2
              go_ret
              exact ⟨rfl, Ext.to_below HG2.out⟩
            ·
              clear hpeer
              go_wp2_with fail
              refine (credit_wakes _).mono ?_
              rintro e w' ⟨rfl, hg⟩
              have HG2 := Lib.hid (HH.out.grows.trans hg)
              clear hg
              go_wp2
              go_ret
              exact ⟨rfl, Ext.to_below HG2.out⟩
  · refine (newSender_no own w hown).mono ?_
    rintro e w' ⟨rfl, rfl⟩
    go_wp2_with fail
    refine (newReceiver_ok 64 w (by omega) (by omega)).mono ?_
    rintro e w' ⟨rfl, _, hg⟩
    have HG := Lib.hid hg
    clear hg
    go_wp2_with fail
    refine (credit_wakes _).mono ?_
    rintro e w' ⟨rfl, hg⟩
    have HG2 := Lib.hid hg
    clear hg
    go_wp2
    go_ret
    exact ⟨rfl, Ext.to_below (HG.out.trans HG2.out)⟩
namespace CreditGoesShell
theorem own : ownKnob Try.prog.godebug = none := by kernel_rfl
theorem laidOut : laidOutB Try.prog = true := j1
set_option maxRecDepth 100000 in
theorem lifted (os : Os) (started : os.Started) (H : Type) (enc : TypeId × Value → H) :
    ReturnsInHanded {} Try.checked os 10 .any (Rows.creditGoesSpec.pre6 enc Try.prog Try.f10 Rows.creditGoesRow.domain false) (Rows.creditGoesSpec.post enc Try.prog Try.f10 false true false false) := by
  refine returnsInHanded_of_change_sized (C := Try.checked) own started (by kernel_rfl) Try.func10
    (ChangeSpec.witness6 (enc := enc) (C := Try.checked) false ⟨#[], #[.int .u64 0, .int .u64 0, .int .u64 0, .int .u8 0, .int .u64 0, .int .u8 0], []⟩ 8 (by kernel_rfl) (by kernel_rfl) (by kernel_rfl) (by kernel_rfl)) ?_
  intro W base args ds gs before hval0 hW hcnd hsz0 _
  have hval : ∀ (j : Nat) t v, Try.f10.params[j]? = some t → args[j]? = some v → Value.okWide Try.prog W .any base t v := hval0
  have hsz : (DataW.weightsEach Try.prog (Try.f10.params.toList ++ Rows.creditGoesSpec.plain.varTypes Try.prog) (ds ++ gs)).all (· ≤ reachBytes) = true := hsz0
  have hW' := hW
  obtain ⟨p, q, hA0, hV, rfl, hfz, hnd⟩ := hW
  have hA : DataW.TrodAll enc Try.prog W 0 (fun _ => true) true Try.f10.params.toList args.toList ds p := hA0
  rw [Try.params10] at hA hval hsz
  obtain ⟨v0, vs0, d0, ds0, p0, q0, hargs, rfl, rfl, h0, r0⟩ := trodAll_cons hA
  obtain ⟨v1, vs1, d1, ds1, p1, q1, rfl, rfl, rfl, h1, r1⟩ := trodAll_cons r0
  obtain ⟨v2, vs2, d2, ds2, p2, q2, rfl, rfl, rfl, h2, r2⟩ := trodAll_cons r1
  obtain ⟨v3, vs3, d3, ds3, p3, q3, rfl, rfl, rfl, h3, r3⟩ := trodAll_cons r2
  obtain ⟨v4, vs4, d4, ds4, p4, q4, rfl, rfl, rfl, h4, r4⟩ := trodAll_cons r3
  obtain ⟨v5, vs5, d5, ds5, p5, q5, rfl, rfl, rfl, h5, r5⟩ := trodAll_cons r4
  obtain ⟨rfl, rfl, rfl⟩ := trodAll_nil r5
  obtain rfl : args = #[v0, v1, v2, v3, v4, v5] := by cases args; simp_all
  obtain ⟨rfl, rfl⟩ := trodVars_none hV
  have k0 := h0
  have lt0 : ∀ x ∈ p0, x.block < W.heap.size := by obtain ⟨m, hm⟩ := k0; exact DataW.trod_lt m _ _ _ hm
  have k1 := h1
  have lt1 : ∀ x ∈ p1, x.block < W.heap.size := by obtain ⟨m, hm⟩ := k1; exact DataW.trod_lt m _ _ _ hm
  have k2 := h2
  have lt2 : ∀ x ∈ p2, x.block < W.heap.size := by obtain ⟨m, hm⟩ := k2; exact DataW.trod_lt m _ _ _ hm
  have k3 := h3
  have lt3 : ∀ x ∈ p3, x.block < W.heap.size := by obtain ⟨m, hm⟩ := k3; exact DataW.trod_lt m _ _ _ hm
  have k4 := h4
  have lt4 : ∀ x ∈ p4, x.block < W.heap.size := by obtain ⟨m, hm⟩ := k4; exact DataW.trod_lt m _ _ _ hm
  have k5 := h5
  have lt5 : ∀ x ∈ p5, x.block < W.heap.size := by obtain ⟨m, hm⟩ := k5; exact DataW.trod_lt m _ _ _ hm
  obtain ⟨a0, rfl, rfl, rfl, w0⟩ := open_int Try.underlying22 (hval 0 22 v0 rfl rfl) h0
  obtain ⟨a1, rfl, rfl, rfl, w1⟩ := open_int Try.underlying22 (hval 1 22 v1 rfl rfl) h1
  obtain ⟨a2, rfl, rfl, rfl, w2⟩ := open_int Try.underlying22 (hval 2 22 v2 rfl rfl) h2
  obtain ⟨a3, rfl, rfl, rfl, w3⟩ := open_int Try.underlying5 (hval 3 5 v3 rfl rfl) h3
  obtain ⟨a4, rfl, rfl, rfl, w4⟩ := open_int Try.underlying22 (hval 4 22 v4 rfl rfl) h4
  obtain ⟨a5, rfl, rfl, rfl, w5⟩ := open_int Try.underlying5 (hval 5 5 v5 rfl rfl) h5
  clear hA0 hval0 hsz0
  refine (CreditGoes_walk a0 a1 a2 a3 a4 a5 W w0 w1 w2 w3 w4 w5).mono fun e W' ⟨he, bel⟩ => ?_
  subst he
  exact ⟨_, rfl, _, _, _, [], _, [], hW', trodAll_mk1 (shut_bool Try.underlying4 _), (trodAll_cons_mk (Below.trod laidOut (by kernel_rfl) (of_decide_eq_true (by kernel_rfl)) k0 bel lt0) (trodAll_cons_mk (Below.trod laidOut (by kernel_rfl) (of_decide_eq_true (by kernel_rfl)) k1 bel lt1) (trodAll_cons_mk (Below.trod laidOut (by kernel_rfl) (of_decide_eq_true (by kernel_rfl)) k2 bel lt2) (trodAll_cons_mk (Below.trod laidOut (by kernel_rfl) (of_decide_eq_true (by kernel_rfl)) k3 bel lt3) (trodAll_cons_mk (Below.trod laidOut (by kernel_rfl) (of_decide_eq_true (by kernel_rfl)) k4 bel lt4) (trodAll_cons_mk (Below.trod laidOut (by kernel_rfl) (of_decide_eq_true (by kernel_rfl)) k5 bel lt5) trodAll_mk0)))))), rfl, bel.frame _, fun h => by cases h⟩
theorem joined : joinedFacts Try.prog 10 Try.f10 Rows.creditGoesSpec Rows.creditGoesRow = true := by
  unfold joinedFacts
  refine and_mk (and_mk (and_mk (and_mk (and_mk (and_mk (and_mk (and_mk (and_mk (and_mk (and_mk (and_mk (and_mk (and_mk (and_mk (and_mk (and_mk (and_mk (and_mk (and_mk (and_mk (and_mk (and_mk (and_mk (and_mk (and_mk (and_mk (and_mk (and_mk (and_mk (and_mk ?_ ?_) ?_) ?_) ?_) ?_) ?_) ?_) ?_) ?_) ?_) ?_) ?_) ?_) ?_) ?_) ?_) ?_) ?_) ?_) ?_) ?_) ?_) ?_) ?_) ?_) ?_) ?_) ?_) ?_) ?_) ?_
  · as_aux_lemma => kernel_rfl
  · exact j1
  · exact j2
  · as_aux_lemma => kernel_rfl
  · as_aux_lemma => kernel_rfl
  · as_aux_lemma => kernel_rfl
  · as_aux_lemma => kernel_rfl
  · as_aux_lemma => kernel_rfl
  · as_aux_lemma => kernel_rfl
  · as_aux_lemma => kernel_rfl
  · as_aux_lemma => kernel_rfl
  · as_aux_lemma => kernel_rfl
  · as_aux_lemma => kernel_rfl
  · as_aux_lemma => kernel_rfl
  · as_aux_lemma => kernel_rfl
  · as_aux_lemma => kernel_rfl
  · as_aux_lemma => kernel_rfl
  · as_aux_lemma => kernel_rfl
  · as_aux_lemma => kernel_rfl
  · as_aux_lemma => kernel_rfl
  · as_aux_lemma => kernel_rfl
  · as_aux_lemma => kernel_rfl
  · exact j22
  · as_aux_lemma => kernel_rfl
  · exact j24
  · exact j25
  · exact j26
  · exact j27
  · as_aux_lemma => kernel_rfl
  · as_aux_lemma => kernel_rfl
  · as_aux_lemma => kernel_rfl
  · as_aux_lemma => kernel_rfl
theorem over : Rows.creditGoesRow.holds Try.pinned (OpenSpec.ofChange Rows.creditGoesSpec) :=
  OpenClaim.holds_of_wide 10 Try.f10 rfl rfl rfl rfl rfl rfl rfl ⟨rfl, rfl, rfl, rfl, rfl⟩ rfl rfl rfl rfl rfl (by kernel_rfl) Try.func10 joined
    (of_decide_eq_true (by kernel_rfl)) (by unfold Func.isWrapper; first | (rw [if_pos (by decide +kernel)]; kernel_rfl) | (rw [if_neg (by decide +kernel)]; exact ⟨rfl, rfl⟩))
    (fun os started H enc _ => lifted os started H enc)
end CreditGoesShell
theorem CreditGoes_holds : Rows.CreditGoesSaid := CreditGoesShell.over
#print axioms CreditGoes_holds
end Go.Proofs.Ythfddcgfmpicmaa
