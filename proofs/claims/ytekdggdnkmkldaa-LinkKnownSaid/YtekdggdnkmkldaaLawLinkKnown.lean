/- LinkKnown: the document's examples, the errors, and what an end that is none answers; a closed statement. -/
import Derived.Test.YtekdggdnkmkldaaLinkB
import Derived.Test.YtekdggdnkmkldaaOpen
namespace Go.Proofs.Ytekdggdnkmkldaa
set_option linter.unusedVariables false
set_option linter.unusedSimpArgs false
set_option maxRecDepth 1500
open Go.ChangeShapes Go.WideShapes Go.ChangeAt Go.RowKit

theorem zeros_smallT (n : Nat) : ∀ x ∈ zeros n, 0 ≤ x ∧ x < 256 := by
  intro x hx
  have := List.eq_of_mem_replicate hx
  omega
theorem made_bytesT (w : World) (n : Nat) (h : n ≤ 140737488351232) : Bytes (w.alloc (.cells (u8s (zeros n)) 5)) (.slice (some ⟨w.heap.size, 0, none⟩) n n) (zeros n) :=
  Bytes.of_heap (heap_alloc_new w _) (zeros_length n).symm (Nat.le_refl _) (by unfold maxLen; omega) (zeros_smallT n) (by rw [zeros_length]; exact h)
def yx0 : InV := ⟨1, [], 0, 0, 0⟩
theorem y_long : dataE yx0 2 1 (zeros 70001).length = 3 := by rw [zeros_length]; decide
theorem y_long2 : yx0.data 2 1 (zeros 70001) = yx0 := by unfold InV.data; rw [if_neg (by rw [y_long]; decide)]
theorem kx1 : (newV 3 2).credit 1 2 5 = newV 3 2 := by kernel_rfl
theorem kx2 : (newV 3 2).feed 2 1 1 0 [] = newV 3 2 := by kernel_rfl
def yx1 : InV := ⟨1, [[97]], 2, 0, 1⟩
theorem ky0 : yx0.data 0 1 [] = yx0 := by kernel_rfl
theorem ky1 : yx0.data 2 1 [97] = yx1 := by kernel_rfl
theorem ky2 : yx1.data 2 2 [98] = yx1 := by kernel_rfl
theorem ky3 : yx1.data 1 2 [99] = yx1 := by kernel_rfl
theorem ky4 : yx1.saw 1 9 = yx1 := by kernel_rfl
def yx2 : InV := ⟨1, [[97]], 2, 1, 1⟩
def yx3 : InV := ⟨1, [], 2, 1, 1⟩
theorem ke0 : dataE yx0 0 1 ([] : List Int).length = 1 := by kernel_rfl
theorem ke1 : dataE yx0 2 1 ([97] : List Int).length = 0 := by kernel_rfl
theorem ke2 : dataE yx1 2 2 ([98] : List Int).length = 7 := by kernel_rfl
theorem ke3 : dataE yx1 1 2 ([99] : List Int).length = 22 := by kernel_rfl
theorem ke4 : sawE yx1.peer 1 9 = 22 := by kernel_rfl
theorem kg1 : grantG yx1.gr yx1.seen 0 = 1 := by kernel_rfl
theorem kg2 : grantG yx3.gr yx3.seen 1 = 2 := by kernel_rfl
theorem kt1 : takeE (newV 3 2).own (newV 3 2).peer 1 2 5 = 22 := by kernel_rfl
theorem kt2 : feedE (newV 3 2) 2 1 1 0 [] = 1 := by kernel_rfl
set_option maxRecDepth 20000 in
set_option maxHeartbeats 4000000 in
theorem LinkKnown_walk (w : World) : Calls Try.prog 3 #[] w fun e w' => e = .returned (.bool true) ∧ Below w.heap.size w w' := by
  have hm1 : ∀ w : World, (Instr.makeSlice 41 (.int .i64 70001) (.int .i64 70001)).run Try.prog w = .ok (.slice (some ⟨w.heap.size, 0, none⟩) 70001 70001) (w.alloc (.cells (u8s (zeros 70001)) 5)) := make_bytes 70001 (by omega)
  have hm2 : ∀ w : World, (Instr.makeSlice 34 (.int .i64 3) (.int .i64 3)).run Try.prog w = .ok (.slice (some ⟨w.heap.size, 0, none⟩) 3 3) (w.alloc (.cells #[.slice none 0 0, .slice none 0 0, .slice none 0 0] 60)) := fun w => by kernel_rfl
  have kc := fun (w : World) (C : Array Value) (n c : Nat) => Lib.run_convert_bytes_const (P := Try.prog) w 41 5 C n c Try.underlying41 Try.underlying5
  go_enter Try.func3, Try.ntmps3
  go_wp2_with fail
  refine (awake22 _).mono ?_
  rintro e w1 ⟨rfl, hg1⟩
  have HG := Lib.hid hg1
  clear hg1
  go_wp2_with fail
  refine (out_new_no 0 1 _ (.inl (by omega))).mono ?_
  rintro e w9 ⟨rfl, rfl⟩
  go_wp2_with fail
  refine (out_new_no 1 0 _ (.inr (.inl (by omega)))).mono ?_
  rintro e w9 ⟨rfl, rfl⟩
  go_wp2_with fail
  refine (out_new_no 1 5 _ (.inr (.inr (by omega)))).mono ?_
  rintro e w9 ⟨rfl, rfl⟩
  go_wp2_with fail
  refine (out_new 3 2 _ (by omega) (by unfold Most; omega) (by omega) (by omega)).mono ?_
  rintro e w2 ⟨o, rfl, h2⟩
  have H2 := Lib.hid h2
  clear h2
  go_wp2_with fail
  refine (out_credit H2.out 1 2 5 22 kt1).mono ?_
  rintro e w3 ⟨rfl, h3⟩
  rw [kx1] at h3
  have H3 := Lib.hid h3
  clear h3 H2
  go_wp2_with fail
  refine (out_feed H3.out 2 1 1 0 _ [] (rs_nil _) (by omega) 1 kt2).mono ?_
  rintro e w4 ⟨rfl, h4⟩
  rw [kx2] at h4
  have H4 := Lib.hid h4
  clear h4 H3
  go_wp2_with fail
  refine (pick_arg H4.out 0 none 0 0 (.inl (by omega))).mono ?_
  rintro e w5 ⟨rfl, g5⟩
  have H5 := Lib.hid ((H4.out.more g5).more ((Ext.refl (fun _ => False) w5).alloc (.cells #[.int .i64 0, .int .u64 0] 31)))
  clear H4 g5
  go_wp2_with fail
  generalize w5.alloc (.cells #[.int .i64 0, .int .u64 0] 31) = w6 at H5 ⊢
  refine (pick_arg (H5.out.more ((Ext.refl (fun _ => False) w6).alloc _)) 4 _ 3 3 (.inr (.inr (by decide)))).mono ?_
  rintro e w7 ⟨rfl, g7⟩
  have H7 := Lib.hid (((H5.out.more ((Ext.refl (fun _ => False) w6).alloc _)).more g7).more ((Ext.refl (fun _ => False) w7).alloc (.cells #[.int .i64 0, .int .u64 0] 31)))
  clear H5 g7 hm2
  go_wp2_with fail
  generalize w7.alloc (.cells #[.int .i64 0, .int .u64 0] 31) = w8 at H7 ⊢
  refine (ouse_arg H7.out ⟨2, 0⟩ (.inr (by decide))).mono ?_
  rintro e w9 ⟨rfl, g9⟩
  have H9 := Lib.hid (HG.out.trans (H7.out.more g9).grows)
  clear H7 g9 HG
  go_wp2_with fail
  refine (in_new_no 0 _ (by omega)).mono ?_
  rintro e w10 ⟨rfl, rfl⟩
  go_wp2_with fail
  refine (in_new 1 _ (by omega) (by omega)).mono ?_
  rintro e w11 ⟨i, rfl, h11⟩
  have HW := Lib.hid (show InAt (Frm.of w9) w11 i yx0 from h11)
  clear h11
  go_wp2_with fail
  refine (in_dataN HW.out 0 1 _ [] (Bytes.nil _) 1 0 1 ke0 rfl rfl yx0 ky0).mono ?_
  rintro e w12 ⟨rfl, h12⟩
  have HW2 := Lib.hid h12
  clear HW h12
  go_wp2_with fail
  refine (in_dataN (HW2.out.more ((Ext.refl (fun _ => False) w12).alloc _)) 2 1 _ _ (made_bytesT w12 70001 (by omega)) 3 2 1 y_long rfl rfl yx0 y_long2).mono ?_
  rintro e w13 ⟨rfl, h13⟩
  have HW3 := Lib.hid h13
  clear HW2 h13 hm1
  go_wp2_with fail
  refine (in_dataN (HW3.out.more ((Ext.refl (fun _ => False) w13).alloc _)) 2 1 _ [97] (lit1 w13 97 (by omega)) 0 2 1 ke1 rfl rfl yx1 ky1).mono ?_
  rintro e w14 ⟨rfl, h14⟩
  have HW4 := Lib.hid h14
  clear HW3 h14
  go_wp2_with fail
  refine (in_dataN (HW4.out.more ((Ext.refl (fun _ => False) w14).alloc _)) 2 2 _ [98] (lit1 w14 98 (by omega)) 7 2 2 ke2 rfl rfl yx1 ky2).mono ?_
  rintro e w15 ⟨rfl, h15⟩
  have HW5 := Lib.hid h15
  clear HW4 h15
  go_wp2_with fail
  refine (in_dataN (HW5.out.more ((Ext.refl (fun _ => False) w15).alloc _)) 1 2 _ [99] (lit1 w15 99 (by omega)) 22 1 2 ke3 rfl rfl yx1 ky3).mono ?_
  rintro e w16 ⟨rfl, h16⟩
  have HW6 := Lib.hid h16
  clear HW5 h16
  go_wp2_with fail
  refine (at_probe HW6.out 1 9 22 ke4).mono ?_
  rintro e w17 ⟨rfl, h17⟩
  rw [ky4] at h17
  have HW7 := Lib.hid h17
  clear HW6 h17
  go_wp2_with fail
  refine (at_grant HW7.out 0 rfl 1 kg1).mono ?_
  rintro e w18 ⟨rfl, h18⟩
  have HW8 := Lib.hid (show InAt (Frm.of w9) w18 i yx2 from h18)
  clear HW7 h18
  go_wp2_with fail
  refine (at_pop_ok HW8.out [97] [] rfl).mono ?_
  rintro e w19 ⟨b, hb, rfl, _, h19⟩
  have HW9 := Lib.hid (show InAt (Frm.of w9) w19 i yx3 from h19)
  clear HW8 h19 hb
  go_wp2_with fail
  refine (at_grant HW9.out 1 rfl 2 kg2).mono ?_
  rintro e w20 ⟨rfl, h20⟩
  have HE := Lib.hid (H9.out.trans h20.gw)
  clear HW9 h20 H9
  go_wp2_with fail
  refine (opick_nil 1 _ _).mono ?_
  rintro e w21 ⟨rfl, g21⟩
  have HE2 := Lib.hid ((HE.out.trans g21).alloc (.cells #[.int .i64 0, .int .u64 0] 31))
  clear HE g21
  go_wp2_with fail
  generalize w21.alloc (.cells #[.int .i64 0, .int .u64 0] 31) = w22 at HE2 ⊢
  refine (ouse_nil 0 0 _).mono ?_
  rintro e w23 ⟨rfl, g23⟩
  have HE3 := Lib.hid (HE2.out.trans g23)
  clear HE2 g23
  go_wp2_with fail
  refine (oknown_nil 0 _).mono ?_
  rintro e w24 ⟨rfl, rfl⟩
  go_wp2_with fail
  refine (ipop_nil _).mono ?_
  rintro e w24 ⟨rfl, rfl⟩
  go_wp2_with fail
  refine (igrant_nil _).mono ?_
  rintro e w24 ⟨rfl, rfl⟩
  go_wp2_with fail
  refine (ocredit_nil 1 1 1 _).mono ?_
  rintro e w24 ⟨rfl, rfl⟩
  go_wp2_with fail
  refine (ofeed_nil 0 1 1 0 _ _).mono ?_
  rintro e w24 ⟨rfl, rfl⟩
  go_wp2_with fail
  refine (orank_nil 0 0 _).mono ?_
  rintro e w24 ⟨rfl, rfl⟩
  go_wp2_with fail
  refine (osent_nil _).mono ?_
  rintro e w24 ⟨rfl, rfl⟩
  go_wp2_with fail
  refine (ogranted_nil _).mono ?_
  rintro e w24 ⟨rfl, rfl⟩
  go_wp2_with fail
  refine (idata_nil 1 1 _ _).mono ?_
  rintro e w24 ⟨rfl, rfl⟩
  go_wp2_with fail
  refine (iprobe_nil 1 1 _).mono ?_
  rintro e w24 ⟨rfl, rfl⟩
  go_wp2_with fail
  refine (ilen_nil _).mono ?_
  rintro e w24 ⟨rfl, rfl⟩
  go_wp2_with fail
  refine (iall_nil _).mono ?_
  rintro e w24 ⟨rfl, rfl⟩
  go_wp2_with fail
  refine (ilife_nil _).mono ?_
  rintro e w24 ⟨rfl, rfl⟩
  go_wp2
  go_ret
  exact ⟨rfl, Ext.to_below HE3.out⟩
namespace LinkKnownShell
theorem own : ownKnob Try.prog.godebug = none := by kernel_rfl
theorem laidOut : laidOutB Try.prog = true := by kernel_rfl
set_option maxRecDepth 100000 in
theorem lifted (os : Os) (started : os.Started) (H : Type) (enc : TypeId × Value → H) :
    ReturnsInHanded {} Try.checked os 3 .any (Rows.linkKnownSpec.pre6 enc Try.prog Try.f3 Rows.linkKnownRow.domain false) (Rows.linkKnownSpec.post enc Try.prog Try.f3 false true false false) := by
  refine returnsInHanded_of_change_sized (C := Try.checked) own started (by kernel_rfl) Try.func3
    (ChangeSpec.witness6 (enc := enc) (C := Try.checked) false ⟨#[], #[], []⟩ 8 (by kernel_rfl) (by kernel_rfl) (by kernel_rfl) (by kernel_rfl)) ?_
  intro W base args ds gs before hval0 hW hcnd hsz0 _
  have hval : ∀ (j : Nat) t v, Try.f3.params[j]? = some t → args[j]? = some v → Value.okWide Try.prog W .any base t v := hval0
  have hsz : (DataW.weightsEach Try.prog (Try.f3.params.toList ++ Rows.linkKnownSpec.plain.varTypes Try.prog) (ds ++ gs)).all (· ≤ reachBytes) = true := hsz0
  have hW' := hW
  obtain ⟨p, q, hA0, hV, rfl, hfz, hnd⟩ := hW
  have hA : DataW.TrodAll enc Try.prog W 0 (fun _ => true) true Try.f3.params.toList args.toList ds p := hA0
  rw [Try.params3] at hA hval hsz
  obtain ⟨hargs, rfl, rfl⟩ := trodAll_nil hA
  obtain rfl : args = #[] := by cases args; simp_all
  obtain ⟨rfl, rfl⟩ := trodVars_none hV
  clear hA0 hval0 hsz0
  refine (LinkKnown_walk  W ).mono fun e W' ⟨he, bel⟩ => ?_
  subst he
  exact ⟨_, rfl, _, _, _, [], _, [], hW', trodAll_mk1 (shut_bool Try.underlying4 _), trodAll_mk0, rfl, bel.frame _, fun h => by cases h⟩
theorem over : Rows.linkKnownRow.holds Try.pinned (OpenSpec.ofChange Rows.linkKnownSpec) :=
  OpenClaim.holds_of_wide 3 Try.f3 rfl rfl rfl rfl rfl rfl rfl ⟨rfl, rfl, rfl, rfl, rfl⟩ rfl rfl rfl rfl rfl (by kernel_rfl) Try.func3 (by kernel_rfl)
    (of_decide_eq_true (by kernel_rfl)) (by unfold Func.isWrapper; first | (rw [if_pos (by decide +kernel)]; kernel_rfl) | (rw [if_neg (by decide +kernel)]; exact ⟨rfl, rfl⟩))
    (fun os started H enc _ => lifted os started H enc)
end LinkKnownShell
theorem LinkKnown_holds : Rows.LinkKnownSaid := LinkKnownShell.over
#print axioms LinkKnown_holds
end Go.Proofs.Ytekdggdnkmkldaa
