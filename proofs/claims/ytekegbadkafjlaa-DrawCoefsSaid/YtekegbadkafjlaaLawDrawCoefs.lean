/- DrawCoefs: the coefficients of a draw are the document's and the draw stays, at any draw and any numbers; no condition. -/
import Derived.Test.YtekegbadkafjlaaDrawD
import Derived.Test.YtekegbadkafjlaaOpen
namespace Go.Proofs.Ytekegbadkafjlaa
set_option linter.unusedVariables false
set_option linter.unusedSimpArgs false
open Go.ChangeShapes Go.WideShapes Go.ChangeAt Go.RowKit

theorem DrawCoefs_walk (v : Value) (xs : List Int) (n t : Int) (w : World) (hb : Bytes w v xs) (h2 : (Lit.int .i64 n).wf = true) (h3 : (Lit.int .i64 t).wf = true) :
    Calls Try.prog 3 #[v, .int .i64 n, .int .i64 t] w fun e w' => e = .returned (.bool true) ∧ Below w.heap.size w w' := by
  clear h2 h3
  have hlen := hb.2.2
  have hc : ((n < 1 ∨ 255 < n) ∨ t < 0 ∨ n ≤ t) ∨ (1 ≤ n ∧ n ≤ 255 ∧ 0 ≤ t ∧ t < n) := by omega
  go_enter Try.func3, Try.ntmps3
  have hsrc := (hb.grows (Ext.alloc (Ext.refl _ _) (.cells #[] 5))).src (P := Try.prog) Try.underlying22
  have hown0 := World.ownsRow_made (size := 1) w #[] 0 (e := 5) (Nat.zero_le _) (by unfold maxLen; omega) rfl
  go_wp2_with (at_builtin; refine wpList_append_src rfl (.tmp 14) (.tmp 15) 22 22 rfl 5 (.int .u8 0) 1 1 Try.underlying22 infoU8 rfl _ _ rfl rfl 0 [] hown0 xs.length (xs.map (Value.int .u8)) hsrc (by unfold maxLen; omega) (by omega) ?_)
  intro v' w1 hown hgr hblk
  have B1 := Bytes.of_owns hown hb.2.1 hlen
  have G1 : Grows w w1 := (Ext.trans (Ext.alloc (Ext.refl (fun k => k = w.heap.size) w) (.cells #[] 5)) (Ext.of_grown hgr (by simp [Value.ownBlock]))).mono (fun k hk hh => by omega)
  have hvb : ∀ k, v'.ownBlock = some k → k < w1.heap.size := fun k hk => (hown.lt k hk).2
  have HV := Lib.hid hvb
  clear hsrc hown0 hgr hblk hown hvb
  rcases hc with hc | ⟨n1, n2, t1, t2⟩
  · go_wp2_with (go_at_call 11; refine (coefs_no _ _ _ _ hc).mono ?_; rintro e w2 ⟨rfl, hg2⟩)
    have B2 := B1.grows hg2
    go_wp2_with (
      first
      | (go_at_call 12; refine (refCoefs_no _ _ _ _ hc).mono ?_; rintro e w3 ⟨rfl, rfl⟩)
      | (go_at_call 13; refine (equal_any _ _ _ _ _ (Bytes.nil _) (Bytes.nil _)).mono ?_; rintro e w3 ⟨rfl, rfl⟩))
    refine wp_loop_once ?_
    go_wp2_with (go_at_call 14; refine (awake_true _).mono ?_; rintro e w4 ⟨rfl, hg4⟩)
    have B4 := B2.grows hg4
    have A4 := hb.grows ((G1.trans hg2).trans hg4)
    go_wp2_with (go_at_call 13; refine (equal_any _ _ _ _ _ B4 A4).mono ?_; rintro e w5 ⟨rfl, rfl⟩)
    go_ret
    exact ⟨ret_bool (by simp), Ext.to_below ((G1.trans hg2).trans hg4)⟩
  · obtain ⟨m, rfl⟩ := Int.eq_ofNat_of_zero_le (show 0 ≤ n by omega)
    go_wp2_with fail
    refine (coefs_int _ _ _ _ _ B1 n1 n2 t1 t2).mono ?_
    rintro e w2 hd
    obtain ⟨b1, hb1, rfl, hh1, C1, hg1⟩ := hd.out (m := m) hb.2.1 n1 n2 (by omega) rfl
    have A2 := hb.grows (G1.trans hg1)
    clear hd
    go_wp2_with fail
    refine (refCoefs_int _ _ _ _ _ A2 n1 n2 t1 t2).mono ?_
    rintro e w3 hd
    obtain ⟨b2, hb2, rfl, hh2, C2, hg2⟩ := hd.out (m := m) hb.2.1 n1 n2 (by omega) rfl
    have C1' := C1.grows hg2
    have HB1 := Lib.hid ((hg2.block b1 (heap_lt hh1.out) (fun h => h)).trans hh1.out)
    have hb1s : b1 < w3.heap.size := heap_lt HB1.out
    clear hd hh1 hh2
    go_wp2_with (go_at_call 13; refine (equal_any _ _ _ _ _ C1' C2).mono ?_; rintro e w4 ⟨rfl, rfl⟩)
    have hcl : (coefsOf xs (m : Int).toNat t.toNat).length = m := by rw [coefsOf_length]; omega
    go_loopw [36] (fun i wr => ∃ k : Nat, k ≤ m ∧ i = .int .i64 k ∧ (∃ ys : List Int, ys.length = m ∧ wr.heap[b1]? = some (.cells (u8s ys) 5 (0, 0))) ∧ Ext (fun k => k = b1) w3 wr) (fun i _ => m - (intOf i).toNat)
    case atStart => exact ⟨0, by omega, rfl, ⟨_, hcl, HB1.out⟩, Ext.refl _ _⟩
    case round =>
      obtain ⟨k, hk, rfl, ⟨ys, hys, hyb⟩, hE⟩ := hrel
      have HY := Lib.hid hyb
      have HE := Lib.hid hE
      have HL := Lib.hid hys
      by_cases hlt : k < m
      · have hc := cell_heap hyb (u8s_get ys k (by omega))
        have hf := frozen_of_heap hyb k
        clear hyb hE hys
        go_wp2
        go_roundw
        case rel =>
          exact ⟨k + 1, by omega, by go_num, ⟨_, (List.length_set).trans HL.out, (setCell_heap HY.out _ _).trans (by rw [u8s_set])⟩, Ext.setCell HE.out _ (Or.inr rfl) _⟩
        case measure => simp [intOf]; omega
      · clear hyb hE hys
        have Gr : Grows w wr := (((G1.trans hg1).trans hg2).lift.trans HE.out).mono (fun k hk hh => by subst hh; have := G1.size; omega)
        have Br : Bytes wr v' xs := ((B1.grows hg1).grows hg2).ext HE.out (fun k hk _ hh => by subst hh; have := HV.out _ hk; omega)
        have Ar := hb.grows Gr
        go_wp2_with (go_at_call 14; refine (awake_true _).mono ?_; rintro e w5 ⟨rfl, hg5⟩)
        have B5 := Br.grows hg5
        have A5 := Ar.grows hg5
        go_wp2_with (go_at_call 13; refine (equal_any _ _ _ _ _ B5 A5).mono ?_; rintro e w6 ⟨rfl, rfl⟩)
        go_ret
        exact ⟨ret_bool (by simp), Ext.to_below (Gr.trans hg5)⟩

namespace DrawCoefsShell
theorem own : ownKnob Try.prog.godebug = none := by kernel_rfl
theorem laidOut : laidOutB Try.prog = true := by kernel_rfl
set_option maxRecDepth 100000 in
theorem lifted (os : Os) (started : os.Started) (H : Type) (enc : TypeId × Value → H) :
    ReturnsInHanded {} Try.checked os 3 .any (Rows.drawCoefsSpec.pre6 enc Try.prog Try.f3 Rows.drawCoefsRow.domain false) (Rows.drawCoefsSpec.post enc Try.prog Try.f3 false true false false) := by
  refine returnsInHanded_of_change_sized (C := Try.checked) own started (by kernel_rfl) Try.func3
    (ChangeSpec.witness6 (enc := enc) (C := Try.checked) false ⟨#[], #[.slice none 0 0, .int .i64 0, .int .i64 0], []⟩ 8 (by kernel_rfl) (by kernel_rfl) (by kernel_rfl) (by kernel_rfl)) ?_
  intro W base args ds gs before hval0 hW hcnd hsz0 _
  have hval : ∀ (j : Nat) t v, Try.f3.params[j]? = some t → args[j]? = some v → Value.okWide Try.prog W .any base t v := hval0
  have hsz : (DataW.weightsEach Try.prog (Try.f3.params.toList ++ Rows.drawCoefsSpec.plain.varTypes Try.prog) (ds ++ gs)).all (· ≤ reachBytes) = true := hsz0
  have hW' := hW
  obtain ⟨p, q, hA0, hV, rfl, hfz, hnd⟩ := hW
  have hA : DataW.TrodAll enc Try.prog W 0 (fun _ => true) true Try.f3.params.toList args.toList ds p := hA0
  rw [Try.params3] at hA hval hsz
  obtain ⟨v0, vs0, d0, ds0, p0, q0, hargs, rfl, rfl, h0, r0⟩ := trodAll_cons hA
  obtain ⟨v1, vs1, d1, ds1, p1, q1, rfl, rfl, rfl, h1, r1⟩ := trodAll_cons r0
  obtain ⟨v2, vs2, d2, ds2, p2, q2, rfl, rfl, rfl, h2, r2⟩ := trodAll_cons r1
  obtain ⟨rfl, rfl, rfl⟩ := trodAll_nil r2
  obtain rfl : args = #[v0, v1, v2] := by cases args; simp_all
  obtain ⟨rfl, rfl⟩ := trodVars_none hV
  have k0 := h0
  have lt0 : ∀ x ∈ p0, x.block < W.heap.size := by obtain ⟨m, hm⟩ := k0; exact DataW.trod_lt m _ _ _ hm
  have k1 := h1
  have lt1 : ∀ x ∈ p1, x.block < W.heap.size := by obtain ⟨m, hm⟩ := k1; exact DataW.trod_lt m _ _ _ hm
  have k2 := h2
  have lt2 : ∀ x ∈ p2, x.block < W.heap.size := by obtain ⟨m, hm⟩ := k2; exact DataW.trod_lt m _ _ _ hm
  obtain ⟨a0, w0⟩ := open_bytes (hval 0 22 v0 rfl rfl) h0 hsz (j := 0) rfl rfl
  obtain ⟨a1, rfl, rfl, rfl, w1⟩ := open_int Try.underlying3 (hval 1 3 v1 rfl rfl) h1
  obtain ⟨a2, rfl, rfl, rfl, w2⟩ := open_int Try.underlying3 (hval 2 3 v2 rfl rfl) h2
  clear hA0 hval0 hsz0
  refine (DrawCoefs_walk v0 a0 a1 a2 W w0 w1 w2).mono fun e W' ⟨he, bel⟩ => ?_
  subst he
  exact ⟨_, rfl, _, _, _, [], _, [], hW', trodAll_mk1 (shut_bool Try.underlying4 _), (trodAll_cons_mk (Below.trod laidOut (by kernel_rfl) (of_decide_eq_true (by kernel_rfl)) k0 bel lt0) (trodAll_cons_mk (Below.trod laidOut (by kernel_rfl) (of_decide_eq_true (by kernel_rfl)) k1 bel lt1) (trodAll_cons_mk (Below.trod laidOut (by kernel_rfl) (of_decide_eq_true (by kernel_rfl)) k2 bel lt2) trodAll_mk0))), rfl, bel.frame _, fun h => by cases h⟩
theorem over : Rows.drawCoefsRow.holds Try.pinned (OpenSpec.ofChange Rows.drawCoefsSpec) :=
  OpenClaim.holds_of_wide 3 Try.f3 rfl rfl rfl rfl rfl rfl rfl ⟨rfl, rfl, rfl, rfl, rfl⟩ rfl rfl rfl rfl rfl (by kernel_rfl) Try.func3 (by kernel_rfl)
    (of_decide_eq_true (by kernel_rfl)) (by unfold Func.isWrapper; first | (rw [if_pos (by decide +kernel)]; kernel_rfl) | (rw [if_neg (by decide +kernel)]; exact ⟨rfl, rfl⟩))
    (fun os started H enc _ => lifted os started H enc)
end DrawCoefsShell
theorem DrawCoefs_holds : Rows.DrawCoefsSaid := DrawCoefsShell.over
#print axioms DrawCoefs_holds
end Go.Proofs.Ytekegbadkafjlaa
