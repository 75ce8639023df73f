/- DrawUnits: with empty draws and turns that go on by one the draws are all units, each once, at any numbers; no condition. -/
import Derived.Test.YtekegbadkafjlaaDrawD
import Derived.Test.YtekegbadkafjlaaOpen
import Derived.Maps.OwnOps
import Derived.Maps.OwnSet
namespace Go.Proofs.Ytekegbadkafjlaa
set_option linter.unusedVariables false
set_option linter.unusedSimpArgs false
open Go.ChangeShapes Go.WideShapes Go.ChangeAt Go.RowKit Go.Maps

theorem unitList_small (n t : Nat) : ∀ x ∈ (zeros n).set t 1, 0 ≤ x ∧ x < 256 := by
  intro x hx
  rcases List.mem_or_eq_of_mem_set hx with h1 | h1
  · have := List.eq_of_mem_replicate h1; omega
  · omega

theorem lead_unit (n t : Nat) (h : t < n) : leadOf ((zeros n).set t 1) = t := by
  have hl : t < ((zeros n).set t 1).length := by rw [List.length_set, zeros_length]; exact h
  refine (lead_here hl ?_ ?_).symm
  · rcases Nat.lt_or_ge (((zeros n).set t 1).findIdx (· != 0)) t with h1 | h1
    · exfalso
      have h2 := List.findIdx_getElem (p := (· != 0)) (xs := (zeros n).set t 1) (w := by omega)
      rw [List.getElem_set_ne (by omega)] at h2
      simp [zeros] at h2
    · exact h1
  · simp

theorem unit_yes (n t : Nat) (w : World) (h : t < n) (h2 : n ≤ 255) :
    Calls Try.prog 19 #[.int .i64 n, .int .i64 t] w fun e w' => ∃ b, e = .returned (.tuple #[.slice (some ⟨b, 0, none⟩) n n, .int .i64 0]) ∧ Bytes w' (.slice (some ⟨b, 0, none⟩) n n) ((zeros n).set t 1) ∧ Grows w w' := by
  have hmk := make_bytes n (by omega)
  have hc := World.cell?_alloc_new w (u8s (zeros n)) 5 t
  rw [u8s_get _ _ (by rw [zeros_length]; exact h)] at hc
  go_enter Try.func19, Try.ntmps19
  go_wp2
  go_ret2
  refine ⟨w.heap.size, rfl, ?_, Ext.alloc (Ext.refl _ _) _⟩
  refine Bytes.of_heap (t := 5) ?_ (by rw [List.length_set, zeros_length]) (Nat.le_refl _) (by unfold maxLen; omega) (unitList_small n t) (by rw [List.length_set, zeros_length]; omega)
  rw [heap_alloc_new, u8s_set]

theorem lawInt : Keyed Try.prog 3 := int_keyed Try.underlying3
theorem zeroInt (w : World) : (zeroValue 3).run Try.prog w = .ok (.int .i64 0) w := by kernel_rfl

/-- The keys that were put: whose turn it was. -/
def turnKeys (a n : Int) (k : Nat) : List Lit := (List.range k).map fun j : Nat => Lit.int .i64 ((a + j) % n)
/-- What the map holds behind k rounds. -/
def turnMap (a n : Int) (k : Nat) : DataW Unit := setOf (.lit (.int .i64 1)) (turnKeys a n k)
theorem turnMap_zero (a n : Int) : turnMap a n 0 = .map [] := rfl
theorem turnMap_succ (a n : Int) (k : Nat) : turnMap a n (k + 1) = (turnMap a n k).put (.int .i64 ((a + k) % n)) (.lit (.int .i64 1)) := by
  unfold turnMap turnKeys
  rw [List.range_succ, List.map_append, List.map_cons, List.map_nil, setOf_snoc]
theorem turnKeys_key (a n : Int) (k : Nat) : ∀ x ∈ turnKeys a n k, WideAt.IsKeyLit x := by
  intro x hx
  obtain ⟨j, _, rfl⟩ := List.mem_map.1 hx
  simp [WideAt.IsKeyLit]
theorem turn_ne (a : Int) (n j k : Nat) (h1 : j < k) (h2 : k < n) : (a + (j : Int)) % (n : Int) ≠ (a + (k : Int)) % (n : Int) := by
  intro h
  have h3 := Int.emod_emod_of_dvd (a + k - (a + j)) (Int.dvd_refl (n : Int))
  have h4 : ((a + k) - (a + j)) % (n : Int) = 0 := by rw [Int.sub_emod, h, Int.sub_self, Int.zero_emod]
  have h5 : (a + (k : Int)) - (a + j) = ((k - j : Nat) : Int) := by omega
  rw [h5, Int.emod_eq_of_lt (by omega) (by omega)] at h4
  omega
theorem turnMap_has (a : Int) (n k : Nat) (h : k < n) : Maps.has (turnMap a n k) (.int .i64 ((a + k) % n)) = false := by
  unfold turnMap
  rw [has_setOf _ _ _ (turnKeys_key a n k), List.any_eq_false]
  intro x hx
  obtain ⟨j, hj, rfl⟩ := List.mem_map.1 hx
  rw [sameKey_ne]
  · simp
  · intro hh
    exact turn_ne a n j k (List.mem_range.1 hj) h (by injection hh)
theorem turnMap_size (a : Int) (n : Nat) : ∀ k, k ≤ n → Maps.size (turnMap a n k) = k
  | 0, _ => rfl
  | k + 1, h => by
    have ht : Tidy (turnMap a n k) := tidy_setOf _ _ (turnKeys_key a n k)
    rw [turnMap_succ, size_put ht]
    rw [turnMap_has a n k (by omega), turnMap_size a n k (by omega)]
    simp

theorem DrawUnits_walk (rows s : Int) (w : World) (h1 : (Lit.int .u8 rows).wf = true) (h2 : (Lit.int .u64 s).wf = true) :
    Calls Try.prog 6 #[.int .u8 rows, .int .u64 s] w fun e w' => e = .returned (.bool true) ∧ Below w.heap.size w w' := by
  have hr := small_u8 h1
  have hs : 0 ≤ s ∧ s < 18446744073709551616 := by
    have k1 : IntKind.u64.min = 0 := rfl
    have k2 : IntKind.u64.max = 18446744073709551615 := rfl
    simp only [Lit.wf, Bool.and_eq_true, decide_eq_true_eq] at h2
    omega
  obtain ⟨r1, r2⟩ := hr
  obtain ⟨s1, s2⟩ := hs
  clear h1 h2
  have hmm := @run_makeMap Try.prog
  go_enter Try.func6, Try.ntmps6
  go_wp2_with fail
  have m1 : 1 ≤ 1 + rows % 255 := by omega
  have m2 : 1 + rows % 255 ≤ 255 := by omega
  generalize hmm2 : 1 + rows % 255 = m at m1 m2 ⊢
  have HM := Lib.hid hmm2
  clear hmm2
  obtain ⟨n, rfl⟩ := Int.eq_ofNat_of_zero_le (show 0 ≤ m by omega)
  have HW0 : Grows w (w.alloc (.map #[] 0)) := Ext.alloc (Ext.refl _ _) _
  go_loopw [21] (fun i wr => ∃ k : Nat, k ≤ n ∧ i = .int .i64 k ∧ wr.ownsMap (H := Unit) Try.prog 3 (plainElem Try.prog 3) w.heap.size k (turnMap (s / 2) n k) ∧ Grows w wr) (fun i _ => n - (intOf i).toNat)
  case atStart => exact ⟨0, Nat.zero_le _, rfl, World.ownsMap_made _ _ _ _, HW0⟩
  case round =>
    obtain ⟨k, hk, rfl, hown, hg⟩ := hrel
    by_cases hlt : k < n
    · have HO := Lib.hid hown
      have HG := Lib.hid hg
      clear hown hg HW0
      have q1 : 0 ≤ (s / 2 + k) % (n : Int) := Int.emod_nonneg _ (by omega)
      have q2 : (s / 2 + k) % (n : Int) < n := Int.emod_lt_of_pos _ (by omega)
      obtain ⟨t, ht⟩ := Int.eq_ofNat_of_zero_le q1
      have htn : t < n := by omega
      have HT := Lib.hid ht
      clear ht q1 q2
      go_wp2_with fail
      refine (turn_yes _ _ _ (by omega) m1 m2).mono ?_
      rintro e w1 ⟨rfl, rfl⟩
      rw [HT.out]
      go_wp2_with fail
      refine (coefs_int _ _ _ _ _ (Bytes.nil _) m1 m2 (by omega) (by omega)).mono ?_
      rintro e w2 hd
      obtain ⟨b1, hb1, rfl, hh1, C1, hg1⟩ := hd.out (m := n) (ys := (zeros n).set t 1) (by simp) m1 m2 (by omega) (by rw [coefsOf_nil]; rfl)
      clear hd hh1 hb1
      have hsys : decide ((0 : Int) ≤ (t : Int) ∧ (t : Int) < (n : Int)) = true := decide_eq_true ⟨by omega, by omega⟩
      go_wp2_with fail
      refine (sys_any _ _ _).mono ?_
      rintro e w3 ⟨rfl, rfl⟩
      rw [hsys]
      clear hsys
      go_wp2_with fail
      refine (lead_any _ _ _ C1).mono ?_
      rintro e w3 ⟨rfl, rfl⟩
      rw [lead_unit n t htn]
      go_wp2_with fail
      refine (unit_yes n t _ htn (by omega)).mono ?_
      rintro e w4 ⟨b2, rfl, C2, hg2⟩
      have C1' := C1.grows hg2
      go_wp2_with fail
      refine (equal_any _ _ _ _ _ C1' C2).mono ?_
      rintro e w5 ⟨rfl, rfl⟩
      have HG2 : Ext (fun _ => False) wr w4 := hg1.trans hg2
      have ho4 : w4.ownsMap (H := Unit) Try.prog 3 (plainElem Try.prog 3) w.heap.size k (turnMap (s / 2) n k) :=
        World.ownsMap.kept (row := none) HO.out ⟨HG2.os, HG2.tape, HG2.output, HG2.size, fun k hk _ => HG2.block k hk (fun h => h)⟩ (by simp)
      have hkey : keyOf Try.prog 3 (.int .i64 (t : Int)) = some (.int .i64 ((s / 2 + k) % (n : Int))) := by
        rw [HT.out]
        exact keyOf_int_mk Try.underlying3 (WalkArith.wf_i64 (by omega))
      obtain ⟨c, hrun, hat, hwc⟩ := ho4.lookup_int lawInt Try.underlying38 Try.underlying3 (zeroInt _) hkey
      obtain rfl : c = 0 := by
        rw [atKey_of_not_has (turnMap_has (s / 2) n k hlt)] at hat
        injection hat with hat
        injection hat with _ hat
        exact hat.symm
      have HO4 := Lib.hid ho4
      clear ho4 hat hwc C1 C2 C1' hg1 hg2
      go_wp2_with (
        first
        | (at_mapUpdate; refine wpList_mapUpdate_own _ rfl _ _ _ 38 rfl 3 3 lawInt Try.underlying38 _ w.heap.size k _ rfl HO4.out (by unfold maxLen; omega) _ _ _ rfl rfl hkey _ [] (plainElem_int Try.underlying3 (by decide)) ?_; intro w6 ho6 hg6))
      go_roundw
      case rel =>
        refine ⟨k + 1, by omega, by go_num, ?_, ?_⟩
        · rw [turnMap_succ]; exact ho6
        · exact ((HG.out.trans HG2).lift.trans (Ext.of_grown (S := fun k => k = w.heap.size) hg6 (by simp))).mono (fun k hk hh => by omega)
      case measure => simp [intOf]; omega
    · obtain rfl : k = n := by omega
      have HO := Lib.hid hown
      have HG := Lib.hid hg
      clear hg hown HW0
      go_wp2_with fail
      refine (awake_true _).mono ?_
      rintro e w1 ⟨rfl, hg1⟩
      have ho1 : w1.ownsMap (H := Unit) Try.prog 3 (plainElem Try.prog 3) w.heap.size k (turnMap (s / 2) k k) :=
        World.ownsMap.kept (row := none) HO.out ⟨hg1.os, hg1.tape, hg1.output, hg1.size, fun k hk _ => hg1.block k hk (fun h => h)⟩ (by simp)
      have hlen := ho1.len Try.underlying38 3
      rw [turnMap_size (s / 2) k k (Nat.le_refl _)] at hlen
      clear ho1
      go_wp2
      go_ret
      exact ⟨ret_bool (by simp), Ext.to_below (HG.out.trans hg1)⟩

namespace DrawUnitsShell
theorem own : ownKnob Try.prog.godebug = none := by kernel_rfl
theorem laidOut : laidOutB Try.prog = true := by kernel_rfl
set_option maxRecDepth 100000 in
theorem lifted (os : Os) (started : os.Started) (H : Type) (enc : TypeId × Value → H) :
    ReturnsInHanded {} Try.checked os 6 .any (Rows.drawUnitsSpec.pre6 enc Try.prog Try.f6 Rows.drawUnitsRow.domain false) (Rows.drawUnitsSpec.post enc Try.prog Try.f6 false true false false) := by
  refine returnsInHanded_of_change_sized (C := Try.checked) own started (by kernel_rfl) Try.func6
    (ChangeSpec.witness6 (enc := enc) (C := Try.checked) false ⟨#[], #[.int .u8 0, .int .u64 0], []⟩ 8 (by kernel_rfl) (by kernel_rfl) (by kernel_rfl) (by kernel_rfl)) ?_
  intro W base args ds gs before hval0 hW hcnd hsz0 _
  have hval : ∀ (j : Nat) t v, Try.f6.params[j]? = some t → args[j]? = some v → Value.okWide Try.prog W .any base t v := hval0
  have hsz : (DataW.weightsEach Try.prog (Try.f6.params.toList ++ Rows.drawUnitsSpec.plain.varTypes Try.prog) (ds ++ gs)).all (· ≤ reachBytes) = true := hsz0
  have hW' := hW
  obtain ⟨p, q, hA0, hV, rfl, hfz, hnd⟩ := hW
  have hA : DataW.TrodAll enc Try.prog W 0 (fun _ => true) true Try.f6.params.toList args.toList ds p := hA0
  rw [Try.params6] at hA hval hsz
  obtain ⟨v0, vs0, d0, ds0, p0, q0, hargs, rfl, rfl, h0, r0⟩ := trodAll_cons hA
  obtain ⟨v1, vs1, d1, ds1, p1, q1, rfl, rfl, rfl, h1, r1⟩ := trodAll_cons r0
  obtain ⟨rfl, rfl, rfl⟩ := trodAll_nil r1
  obtain rfl : args = #[v0, v1] := by cases args; simp_all
  obtain ⟨rfl, rfl⟩ := trodVars_none hV
  have k0 := h0
  have lt0 : ∀ x ∈ p0, x.block < W.heap.size := by obtain ⟨m, hm⟩ := k0; exact DataW.trod_lt m _ _ _ hm
  have k1 := h1
  have lt1 : ∀ x ∈ p1, x.block < W.heap.size := by obtain ⟨m, hm⟩ := k1; exact DataW.trod_lt m _ _ _ hm
  obtain ⟨a0, rfl, rfl, rfl, w0⟩ := open_int Try.underlying5 (hval 0 5 v0 rfl rfl) h0
  obtain ⟨a1, rfl, rfl, rfl, w1⟩ := open_int Try.underlying31 (hval 1 31 v1 rfl rfl) h1
  clear hA0 hval0 hsz0
  refine (DrawUnits_walk a0 a1 W w0 w1).mono fun e W' ⟨he, bel⟩ => ?_
  subst he
  exact ⟨_, rfl, _, _, _, [], _, [], hW', trodAll_mk1 (shut_bool Try.underlying4 _), (trodAll_cons_mk (Below.trod laidOut (by kernel_rfl) (of_decide_eq_true (by kernel_rfl)) k0 bel lt0) (trodAll_cons_mk (Below.trod laidOut (by kernel_rfl) (of_decide_eq_true (by kernel_rfl)) k1 bel lt1) trodAll_mk0)), rfl, bel.frame _, fun h => by cases h⟩
theorem over : Rows.drawUnitsRow.holds Try.pinned (OpenSpec.ofChange Rows.drawUnitsSpec) :=
  OpenClaim.holds_of_wide 6 Try.f6 rfl rfl rfl rfl rfl rfl rfl ⟨rfl, rfl, rfl, rfl, rfl⟩ rfl rfl rfl rfl rfl (by kernel_rfl) Try.func6 (by kernel_rfl)
    (of_decide_eq_true (by kernel_rfl)) (by unfold Func.isWrapper; first | (rw [if_pos (by decide +kernel)]; kernel_rfl) | (rw [if_neg (by decide +kernel)]; exact ⟨rfl, rfl⟩))
    (fun os started H enc _ => lifted os started H enc)
end DrawUnitsShell
theorem DrawUnits_holds : Rows.DrawUnitsSaid := DrawUnitsShell.over
#print axioms DrawUnits_holds
end Go.Proofs.Ytekegbadkafjlaa
