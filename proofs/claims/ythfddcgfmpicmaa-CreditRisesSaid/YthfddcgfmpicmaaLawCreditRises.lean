/- CreditRises: in one life of both nothing falls. -/
import Derived.Test.YthfddcgfmpicmaaCreditW
import Derived.Test.YthfddcgfmpicmaaJoined
import Derived.Test.YthfddcgfmpicmaaNums
import Derived.Deep.LoopGhost
import Derived.Laws.MathBits
namespace Go.Proofs.Ythfddcgfmpicmaa
set_option linter.unusedVariables false
set_option linter.unusedSimpArgs false
open Go.ChangeShapes Go.WideShapes Go.ChangeAt Go.RowKit

theorem and63 (z : Int) (h0 : 0 ≤ z) (h1 : z < 18446744073709551616) : bits .and .u64 z 63 = z % 64 := by go_bits2
theorem and127 (z : Int) (h0 : 0 ≤ z) (h1 : z < 18446744073709551616) : bits .and .u64 z 127 = z % 128 := by go_bits2
theorem and15 (z : Int) (h0 : 0 ≤ z) (h1 : z < 18446744073709551616) : bits .and .u64 z 15 = z % 16 := by go_bits2

/-- The state at a round's head. -/
structure Rise (w wr : World) (s r P gr used rp last seen : Nat) : Prop where
  sr : SR w wr s 7 P gr used r 16 rp last seen
  pp : (P = 0 ∧ gr = 0 ∧ used = 0) ∨ P = 3
  rr : (rp = 0 ∧ last = 0 ∧ seen = 0) ∨ rp = 7
  le : used ≤ gr
  few : gr ≤ 63
  few2 : seen ≤ 127

theorem rise_take {P gr used g : Nat} (hP : (P = 0 ∧ gr = 0 ∧ used = 0) ∨ P = 3) (hg : g ≤ 63) : takeE 7 P 3 7 g = 0 ∧ takeP 7 P 3 7 g = 3 ∧ takeG 7 P gr 3 7 g = max g gr := by
  have hE : takeE 7 P 3 7 g = 0 := by rw [takeE, if_pos (by simp only [Most]; omega), if_neg (by omega)]
  refine ⟨hE, by rw [takeP, hE, if_pos rfl], ?_⟩
  rw [takeG, hE, if_pos rfl]
  split <;> omega
theorem rise_saw {rp rg seen q : Nat} (hr : (rp = 0 ∧ rg = 0 ∧ seen = 0) ∨ rp = 7) (hq : q ≤ 127) : sawE rp 7 q = 0 ∧ sawP rp 7 q = 7 ∧ sawG rp rg 7 q = rg ∧ sawS rp seen 7 q = max q seen := by
  have hE : sawE rp 7 q = 0 := by rw [sawE, if_pos (by simp only [Most]; omega), if_neg (by omega)]
  refine ⟨hE, by rw [sawP, hE, if_pos rfl], ?_, ?_⟩
  · rw [sawG, hE, if_pos rfl]; split <;> omega
  · rw [sawS, hE, if_pos rfl]; split <;> omega

theorem sr_take_int {w wr : World} {s own peer gr used r places rpeer rgr seen : Nat} (h : SR w wr s own peer gr used r places rpeer rgr seen) (life to : Nat) (x : Int) (g : Nat) (hx : x = (g : Int)) (E : Int) (P G : Nat) (hE : takeE own peer life to g = E ∧ takeP own peer life to g = P ∧ takeG own peer gr life to g = G) :
    Calls Try.prog 63 #[.pointer (some ⟨s, 0, none⟩), .int .u64 life, .int .u64 to, .int .u64 x] wr fun e w' => e = .returned (.int .i64 E) ∧ SR w w' s own P G used r places rpeer rgr seen := by
  subst hx
  exact sr_take h life to g E P G hE.1 hE.2.1 hE.2.2
theorem sr_saw_int {w wr : World} {s own peer gr used r places rpeer rgr seen : Nat} (h : SR w wr s own peer gr used r places rpeer rgr seen) (life : Nat) (x : Int) (q : Nat) (hx : x = (q : Int)) (E : Int) (P G S : Nat) (hE : sawE rpeer life q = E ∧ sawP rpeer life q = P ∧ sawG rpeer rgr life q = G ∧ sawS rpeer seen life q = S) :
    Calls Try.prog 65 #[.pointer (some ⟨r, 0, none⟩), .int .u64 life, .int .u64 x] wr fun e w' => e = .returned (.int .i64 E) ∧ SR w w' s own peer gr used r places P G S := by
  subst hx
  exact sr_saw h life q E P G S hE.1 hE.2.1 hE.2.2.1 hE.2.2.2
theorem sr_grant_int' {w wr : World} {s own peer gr used r places rpeer rgr seen : Nat} (h : SR w wr s own peer gr used r places rpeer rgr seen) (x : Int) (free : Nat) (hx : x = (free : Int)) (hf : free ≤ places) (G : Nat) (hG : grantG rgr seen free = G) :
    Calls Try.prog 67 #[.pointer (some ⟨r, 0, none⟩), .int .i64 x] wr fun e w' => e = .returned (.tuple #[.int .u64 G, .int .i64 0]) ∧ SR w w' s own peer gr used r places rpeer G seen := by
  subst hx
  exact sr_grant h free hf G hG

set_option maxRecDepth 4000 in
set_option maxHeartbeats 8000000 in
theorem CreditRises_walk (v : Value) (xs : List Nat) (w : World) (h0 : Nums w v xs) :
    Calls Try.prog 11 #[v] w fun e w' => e = .returned (.bool true) ∧ Below w.heap.size w w' := by
  obtain ⟨va, vc, rfl⟩ := h0.form
  have NS := Lib.hid h0
  clear h0
  obtain ⟨s, hs⟩ : ∃ s, w.heap.size = s := ⟨_, rfl⟩
  have HZ := Lib.hid hs
  clear hs
  go_enter Try.func11, Try.ntmps11
  go_wp2_with fail
  refine (sn_new 7 (Nat.le_of_eq HZ.out) (Ext.refl _ _) HZ.out (by omega) (by decide)).mono ?_
  rintro e w' ⟨rfl, H'⟩
  have HH := Lib.hid H'
  clear H'
  go_wp2_with fail
  obtain ⟨r, hr⟩ : ∃ r, w'.heap.size = r := ⟨_, rfl⟩
  refine (sr_join HH.out hr 16 (by omega) (by omega)).mono ?_
  rintro e w' ⟨rfl, H'⟩
  clear HH hr
  have HH := Lib.hid H'
  clear H'
  go_wp2
  go_loopg [7, 8] xs.length (fun k l c wr => ∃ j P gr used rp last seen : Nat, j ≤ xs.length ∧ j ≤ 100 ∧ k = xs.length - j ∧ l = .int .u64 (last : Nat) ∧ c = .int .i64 (j : Nat) ∧ Rise w wr s r P gr used rp last seen)
  case atStart => exact ⟨0, 0, 0, 0, 0, 0, 0, by omega, by omega, by omega, rfl, rfl, HH.out, .inl ⟨rfl, rfl, rfl⟩, .inl ⟨rfl, rfl, rfl⟩, by omega, by omega, by omega⟩
  case round =>
    obtain ⟨j, P, gr, used, rp, last, seen, hj, hj1, hk, rfl, rfl, hI⟩ := hrel
    have HK := Lib.hid hk
    have HI := Lib.hid hI
    clear hk hI HH
    by_cases hlt : j < xs.length
    · by_cases h100 : j < 100
      · have hj0 : (j : Int) < 100 := by omega
        have hj2 : (j : Int) < (xs.length : Int) := by omega
        have hj3 : (0 : Int) ≤ (j : Int) := by omega
        obtain ⟨b, off, cap, e, hbl, hcell, hxb⟩ := NS.out.at j hlt
        injection e with e1 e2 e3
        subst e1 e3
        clear e2
        generalize xs[j] = x at hcell hxb
        have NB := Lib.hid hbl
        have CX := Lib.hid hcell
        have XB := Lib.hid (And.intro (show (0 : Int) ≤ (x : Int) by omega) (show (x : Int) < 18446744073709551616 by omega))
        have HR := Lib.hid HI.out.rr
        have cx := (HI.out.sr.grows.cell hbl (fun h => h)).trans hcell
        clear hbl hcell hxb
        go_wp2_with fail
        refine (sr_granted HI.out.sr).mono ?_
        rintro e w9 ⟨rfl, rfl⟩
        go_wp2_with fail
        refine (sr_sent HI.out.sr).mono ?_
        rintro e w9 ⟨rfl, rfl⟩
        go_wp2_with fail
        refine (sr_seen HI.out.sr).mono ?_
        rintro e w9 ⟨rfl, rfl⟩
        go_wp2_with fail
        refine (sr_take_int HI.out.sr 3 7 _ (x % 64) (by rw [and63 _ XB.out.1 XB.out.2]; omega) 0 3 (max (x % 64) gr) (rise_take HI.out.pp (by omega))).mono ?_
        rintro e w' ⟨rfl, H'⟩
        have hg2 : gr ≤ max (x % 64) gr := Nat.le_max_right _ _
        have hg3 : max (x % 64) gr ≤ 63 := by have := HI.out.few; omega
        have hg4 := HI.out.le
        generalize max (x % 64) gr = gr' at H' hg2 hg3
        have HH := Lib.hid H'
        clear H'
        by_cases hu : used < gr'
        · obtain ⟨n', hn'⟩ : ∃ n', used + 1 = n' := ⟨_, rfl⟩
          go_wp2_with fail
          refine (sr_use_ok HH.out hu n' hn').mono ?_
          rintro e w' ⟨rfl, H'⟩
          clear HH
          have cx := (H'.grows.cell NB.out (fun h => h)).trans CX.out
          have HH := Lib.hid H'
          clear H'
          go_wp2_with fail
          refine (sr_saw_int HH.out 7 _ (x % 128) (by rw [and127 _ XB.out.1 XB.out.2]; omega) 0 7 last (max (x % 128) seen) (rise_saw HR.out (by omega))).mono ?_
          rintro e w' ⟨rfl, H'⟩
          have cx := (H'.grows.cell NB.out (fun h => h)).trans CX.out
          clear HH
          have HH := Lib.hid H'
          clear H'
          have hs2 : seen ≤ max (x % 128) seen := Nat.le_max_right _ _
          have hs3 : max (x % 128) seen ≤ 127 := by have := HI.out.few2; omega
          generalize max (x % 128) seen = seen' at HH hs2 hs3 ⊢
          go_wp2_with fail
          obtain ⟨G, hG⟩ : ∃ G, grantG last seen' (x % 16) = G := ⟨_, rfl⟩
          have hG2 : last ≤ G := by rw [← hG]; exact Nat.le_max_left _ _
          refine (sr_grant_int' HH.out _ (x % 16) (by rw [and15 _ XB.out.1 XB.out.2]; first | omega | (simp only [wrap64]; omega) | go_num) (by omega) G hG).mono ?_
          rintro e w' ⟨rfl, H'⟩
          clear HH hG
          have HH := Lib.hid H'
          clear H'
          have t1 : ¬ (G : Int) < (last : Int) := by omega
          have t2 : ¬ (gr' : Int) < (gr : Int) := by omega
          have t3 : ¬ (n' : Int) < (used : Int) := by omega
          have t4 : ¬ ((used : Int) + 1) < (n' : Int) := by omega
          have t5 : ¬ (seen' : Int) < (seen : Int) := by omega
          have t6 : ¬ (gr' : Int) < (n' : Int) := by omega
          have hub : (used : Int) ≤ 63 := by omega
          have t7 : n' ≤ gr' := by omega
          have HN := Lib.hid hn'
          clear hn' cx
          go_wp2_with fail
          refine (sr_granted HH.out).mono ?_
          rintro e w9 ⟨rfl, rfl⟩
          go_wp2_with fail
          refine (sr_sent HH.out).mono ?_
          rintro e w9 ⟨rfl, rfl⟩
          go_wp2_with fail
          refine (sr_sent HH.out).mono ?_
          rintro e w9 ⟨rfl, rfl⟩
          go_wp2_with fail
          refine (sr_seen HH.out).mono ?_
          rintro e w9 ⟨rfl, rfl⟩
          go_wp2_with fail
          refine (sr_sent HH.out).mono ?_
          rintro e w9 ⟨rfl, rfl⟩
          go_wp2_with fail
          refine (sr_granted HH.out).mono ?_
          rintro e w9 ⟨rfl, rfl⟩
          go_wp2
          go_roundg (xs.length - (j + 1))
          case measure => have := HK.out; omega
          case rel => exact ⟨j + 1, 3, gr', n', 7, G, seen', by omega, by omega, rfl, rfl, by go_num, HH.out, .inr rfl, .inr rfl, t7, hg3, hs3⟩
        · go_wp2_with fail
          refine (sr_use_no HH.out (by omega)).mono ?_
          rintro e w' ⟨rfl, rfl⟩
          obtain ⟨n', hn'⟩ : ∃ n', used = n' := ⟨_, rfl⟩
          have H' : SR w w' s 7 3 gr' n' r 16 rp last seen := by rw [← hn']; exact HH.out
          clear HH
          have cx := (H'.grows.cell NB.out (fun h => h)).trans CX.out
          have HH := Lib.hid H'
          clear H'
          go_wp2_with fail
          refine (sr_saw_int HH.out 7 _ (x % 128) (by rw [and127 _ XB.out.1 XB.out.2]; omega) 0 7 last (max (x % 128) seen) (rise_saw HR.out (by omega))).mono ?_
          rintro e w' ⟨rfl, H'⟩
          have cx := (H'.grows.cell NB.out (fun h => h)).trans CX.out
          clear HH
          have HH := Lib.hid H'
          clear H'
          have hs2 : seen ≤ max (x % 128) seen := Nat.le_max_right _ _
          have hs3 : max (x % 128) seen ≤ 127 := by have := HI.out.few2; omega
          generalize max (x % 128) seen = seen' at HH hs2 hs3 ⊢
          go_wp2_with fail
          obtain ⟨G, hG⟩ : ∃ G, grantG last seen' (x % 16) = G := ⟨_, rfl⟩
          have hG2 : last ≤ G := by rw [← hG]; exact Nat.le_max_left _ _
          refine (sr_grant_int' HH.out _ (x % 16) (by rw [and15 _ XB.out.1 XB.out.2]; first | omega | (simp only [wrap64]; omega) | go_num) (by omega) G hG).mono ?_
          rintro e w' ⟨rfl, H'⟩
          clear HH hG
          have HH := Lib.hid H'
          clear H'
          have t1 : ¬ (G : Int) < (last : Int) := by omega
          have t2 : ¬ (gr' : Int) < (gr : Int) := by omega
          have t3 : ¬ (n' : Int) < (used : Int) := by omega
          have t4 : ¬ ((used : Int) + 1) < (n' : Int) := by omega
          have t5 : ¬ (seen' : Int) < (seen : Int) := by omega
          have t6 : ¬ (gr' : Int) < (n' : Int) := by omega
          have hub : (used : Int) ≤ 63 := by omega
          have t7 : n' ≤ gr' := by omega
          have HN := Lib.hid hn'
          clear hn' cx
          go_wp2_with fail
          refine (sr_granted HH.out).mono ?_
          rintro e w9 ⟨rfl, rfl⟩
          go_wp2_with fail
          refine (sr_sent HH.out).mono ?_
          rintro e w9 ⟨rfl, rfl⟩
          go_wp2_with fail
          refine (sr_sent HH.out).mono ?_
          rintro e w9 ⟨rfl, rfl⟩
          go_wp2_with fail
          refine (sr_seen HH.out).mono ?_
          rintro e w9 ⟨rfl, rfl⟩
          go_wp2_with fail
          refine (sr_sent HH.out).mono ?_
          rintro e w9 ⟨rfl, rfl⟩
          go_wp2_with fail
          refine (sr_granted HH.out).mono ?_
          rintro e w9 ⟨rfl, rfl⟩
          go_wp2
          go_roundg (xs.length - (j + 1))
          case measure => have := HK.out; omega
          case rel => exact ⟨j + 1, 3, gr', n', 7, G, seen', by omega, by omega, rfl, rfl, by go_num, HH.out, .inr rfl, .inr rfl, t7, hg3, hs3⟩
      · have h100' : ¬ (j : Int) < 100 := by omega
        have hj2 : (j : Int) < (xs.length : Int) := by omega
        go_wp2_with fail
        refine (credit_wakes _).mono ?_
        rintro e w' ⟨rfl, hg⟩
        have HE := Lib.hid (HI.out.sr.grows.trans hg)
        clear hg
        go_wp2
        go_ret
        exact ⟨rfl, Ext.to_below HE.out⟩
    · have hj2 : ¬ (j : Int) < (xs.length : Int) := by omega
      go_wp2_with fail
      refine (credit_wakes _).mono ?_
      rintro e w' ⟨rfl, hg⟩
      have HE := Lib.hid (HI.out.sr.grows.trans hg)
      clear hg
      go_wp2
      go_ret
      exact ⟨rfl, Ext.to_below HE.out⟩
namespace CreditRisesShell
theorem own : ownKnob Try.prog.godebug = none := by kernel_rfl
theorem laidOut : laidOutB Try.prog = true := j1
set_option maxRecDepth 100000 in
theorem lifted (os : Os) (started : os.Started) (H : Type) (enc : TypeId × Value → H) :
    ReturnsInHanded {} Try.checked os 11 .any (Rows.creditRisesSpec.pre6 enc Try.prog Try.f11 Rows.creditRisesRow.domain false) (Rows.creditRisesSpec.post enc Try.prog Try.f11 false true false false) := by
  refine returnsInHanded_of_change_sized (C := Try.checked) own started (by kernel_rfl) Try.func11
    (ChangeSpec.witness6 (enc := enc) (C := Try.checked) false ⟨#[], #[.slice none 0 0], []⟩ 8 (by kernel_rfl) (by kernel_rfl) (by kernel_rfl) (by kernel_rfl)) ?_
  intro W base args ds gs before hval0 hW hcnd hsz0 _
  have hval : ∀ (j : Nat) t v, Try.f11.params[j]? = some t → args[j]? = some v → Value.okWide Try.prog W .any base t v := hval0
  have hsz : (DataW.weightsEach Try.prog (Try.f11.params.toList ++ Rows.creditRisesSpec.plain.varTypes Try.prog) (ds ++ gs)).all (· ≤ reachBytes) = true := hsz0
  have hW' := hW
  obtain ⟨p, q, hA0, hV, rfl, hfz, hnd⟩ := hW
  have hA : DataW.TrodAll enc Try.prog W 0 (fun _ => true) true Try.f11.params.toList args.toList ds p := hA0
  rw [Try.params11] at hA hval hsz
  obtain ⟨v0, vs0, d0, ds0, p0, q0, hargs, rfl, rfl, h0, r0⟩ := trodAll_cons hA
  obtain ⟨rfl, rfl, rfl⟩ := trodAll_nil r0
  obtain rfl : args = #[v0] := by cases args; simp_all
  obtain ⟨rfl, rfl⟩ := trodVars_none hV
  have k0 := h0
  have lt0 : ∀ x ∈ p0, x.block < W.heap.size := by obtain ⟨m, hm⟩ := k0; exact DataW.trod_lt m _ _ _ hm
  obtain ⟨a0, w0⟩ := open_nums (hval 0 121 v0 rfl rfl) h0 hsz (j := 0) rfl rfl
  clear hA0 hval0 hsz0
  refine (CreditRises_walk v0 a0 W w0).mono fun e W' ⟨he, bel⟩ => ?_
  subst he
  exact ⟨_, rfl, _, _, _, [], _, [], hW', trodAll_mk1 (shut_bool Try.underlying4 _), (trodAll_cons_mk (Below.trod laidOut (by kernel_rfl) (of_decide_eq_true (by kernel_rfl)) k0 bel lt0) trodAll_mk0), rfl, bel.frame _, fun h => by cases h⟩
theorem joined : joinedFacts Try.prog 11 Try.f11 Rows.creditRisesSpec Rows.creditRisesRow = true := by
  unfold joinedFacts
  refine and_mk (and_mk (and_mk (and_mk (and_mk (and_mk (and_mk (and_mk (and_mk (and_mk (and_mk (and_mk (and_mk (and_mk (and_mk (and_mk (and_mk (and_mk (and_mk (and_mk (and_mk (and_mk (and_mk (and_mk (and_mk (and_mk (and_mk (and_mk (and_mk (and_mk (and_mk ?_ ?_) ?_) ?_) ?_) ?_) ?_) ?_) ?_) ?_) ?_) ?_) ?_) ?_) ?_) ?_) ?_) ?_) ?_) ?_) ?_) ?_) ?_) ?_) ?_) ?_) ?_) ?_) ?_) ?_) ?_) ?_
  · as_aux_lemma => kernel_rfl
  · exact j1
  · exact j2
  · as_aux_lemma => kernel_rfl
  · as_aux_lemma => kernel_rfl
  · as_aux_lemma => kernel_rfl
  · as_aux_lemma => kernel_rfl
  · as_aux_lemma => kernel_rfl
  · as_aux_lemma => kernel_rfl
  · as_aux_lemma => kernel_rfl
  · as_aux_lemma => kernel_rfl
  · as_aux_lemma => kernel_rfl
  · as_aux_lemma => kernel_rfl
  · as_aux_lemma => kernel_rfl
  · as_aux_lemma => kernel_rfl
  · as_aux_lemma => kernel_rfl
  · as_aux_lemma => kernel_rfl
  · as_aux_lemma => kernel_rfl
  · as_aux_lemma => kernel_rfl
  · as_aux_lemma => kernel_rfl
  · as_aux_lemma => kernel_rfl
  · as_aux_lemma => kernel_rfl
  · exact j22
  · as_aux_lemma => kernel_rfl
  · exact j24
  · exact j25
  · exact j26
  · exact j27
  · as_aux_lemma => kernel_rfl
  · as_aux_lemma => kernel_rfl
  · as_aux_lemma => kernel_rfl
  · as_aux_lemma => kernel_rfl
theorem over : Rows.creditRisesRow.holds Try.pinned (OpenSpec.ofChange Rows.creditRisesSpec) :=
  OpenClaim.holds_of_wide 11 Try.f11 rfl rfl rfl rfl rfl rfl rfl ⟨rfl, rfl, rfl, rfl, rfl⟩ rfl rfl rfl rfl rfl (by kernel_rfl) Try.func11 joined
    (of_decide_eq_true (by kernel_rfl)) (by unfold Func.isWrapper; first | (rw [if_pos (by decide +kernel)]; kernel_rfl) | (rw [if_neg (by decide +kernel)]; exact ⟨rfl, rfl⟩))
    (fun os started H enc _ => lifted os started H enc)
end CreditRisesShell
theorem CreditRises_holds : Rows.CreditRisesSaid := CreditRisesShell.over
#print axioms CreditRises_holds
end Go.Proofs.Ythfddcgfmpicmaa
