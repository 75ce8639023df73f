/- RanksKnown: a closed statement. -/
import Derived.Test.YtpkaddpennafcaaRanksN
import Derived.Deep.LoopGhost
import Derived.Deep.WholeRow
import Derived.Deep.RegionHeld3
import Derived.Deep.DeepCutAuto
namespace Go.Proofs.Ytpkaddpennafcaa
set_option linter.unusedVariables false
set_option linter.unusedSimpArgs false
open Go.ChangeShapes Go.WideShapes Go.ChangeAt Go.RowKit

theorem wpList_store_new {P : Program} {w : World} {ops : Array Oper} {rest : List Oper} {o : Oper} {a : Act} {Q : Exit → Act → World → Prop} (hgd : o.guard = none) (t : TypeId) (x y : Operand) (ho : o.op = .store t x y) (hd : o.dst = none) (c c' : Array Value) (n : Nat) (hn : w.heap.size = n)
    (hx : a.eval x = .pointer (some ⟨n, 0, none⟩)) (hy : a.eval y = .agg c') (hi : (P.info? t).map (·.size) = some c'.size) (hsz : c.size = c'.size) (h1 : c'.all (·.oneCell') = true)
    (h : wpList P ops Q rest a (w.alloc (.cells c' t))) : wpList P ops Q (o :: rest) a (w.alloc (.cells c t)) := by
  subst hn
  have hp : a.put o.dst undef = a := by rw [hd]; rfl
  rw [← hp] at h
  refine wpList_plain hgd fun K hK => ?_
  have hr := run_storeAt_new (P := P) w t c c' hi hsz h1
  unfold Oper.wp execOp
  simp only [ho, hx, hy, Sem.run_bind, Sem.run_pure, hr, Result.andThen_ok]
  exact hK _ _ h

def badCells (a4 a5 a6 a7 a8 : Option Addr) : Array Value := #[.int .u64 0, .int .u64 1, .int .u64 0, .slice none 0 0, .int .u64 1, .int .u64 0, .int .u64 0, .slice none 0 0, .int .u64 1125899906842625, .int .u64 1, .int .u64 0, .slice none 0 0, .int .u64 1, .int .u64 1, .int .u64 1099511627777, .slice none 0 0, .int .u64 1, .int .u64 1, .int .u64 5, .slice a4 1 1, .int .u64 1, .int .u64 1, .int .u64 0, .slice a5 1 1, .int .u64 1, .int .u64 1, .int .u64 0, .slice a6 2 2, .int .u64 1, .int .u64 1, .int .u64 0, .slice a7 1 1, .int .u64 1, .int .u64 1, .int .u64 0, .slice a8 1 1]
def badZeros : Array Value := #[.int .u64 0, .int .u64 0, .int .u64 0, .slice none 0 0, .int .u64 0, .int .u64 0, .int .u64 0, .slice none 0 0, .int .u64 0, .int .u64 0, .int .u64 0, .slice none 0 0, .int .u64 0, .int .u64 0, .int .u64 0, .slice none 0 0, .int .u64 0, .int .u64 0, .int .u64 0, .slice none 0 0, .int .u64 0, .int .u64 0, .int .u64 0, .slice none 0 0, .int .u64 0, .int .u64 0, .int .u64 0, .slice none 0 0, .int .u64 0, .int .u64 0, .int .u64 0, .slice none 0 0, .int .u64 0, .int .u64 0, .int .u64 0, .slice none 0 0]
theorem badAll (a4 a5 a6 a7 a8 : Option Addr) : (badCells a4 a5 a6 a7 a8).all (·.oneCell') = true := by simp [badCells, Value.oneCell']
theorem badInfo (a4 a5 a6 a7 a8 : Option Addr) : (Try.prog.info? 55).map (·.size) = some (badCells a4 a5 a6 a7 a8).size := by kernel_rfl

theorem bad_start (w1 : World) : Bad ((((((w1.alloc (.cells #[.int .u64 4, .int .i64 1] 39)).alloc (.cells #[.int .u64 16, .int .i64 1] 39)).alloc (.cells #[.int .u64 1, .int .i64 1, .int .u64 1, .int .i64 1] 39)).alloc (.cells #[.int .u64 0, .int .i64 0] 39)).alloc (.cells #[.int .u64 0, .int .i64 256] 39)).alloc (.cells (badCells (some ⟨w1.heap.size, 0, none⟩) (some ⟨w1.heap.size + 1, 0, none⟩) (some ⟨w1.heap.size + 1 + 1, 0, none⟩) (some ⟨w1.heap.size + 1 + 1 + 1, 0, none⟩) (some ⟨w1.heap.size + 1 + 1 + 1 + 1, 0, none⟩)) 55)) (w1.heap.size + 1 + 1 + 1 + 1 + 1) := by
  refine ⟨by simp, fun i hi => ?_⟩
  have hh : ((((((w1.alloc (.cells #[.int .u64 4, .int .i64 1] 39)).alloc (.cells #[.int .u64 16, .int .i64 1] 39)).alloc (.cells #[.int .u64 1, .int .i64 1, .int .u64 1, .int .i64 1] 39)).alloc (.cells #[.int .u64 0, .int .i64 0] 39)).alloc (.cells #[.int .u64 0, .int .i64 256] 39)).alloc (.cells (badCells (some ⟨w1.heap.size, 0, none⟩) (some ⟨w1.heap.size + 1, 0, none⟩) (some ⟨w1.heap.size + 1 + 1, 0, none⟩) (some ⟨w1.heap.size + 1 + 1 + 1, 0, none⟩) (some ⟨w1.heap.size + 1 + 1 + 1 + 1, 0, none⟩)) 55)).heap[w1.heap.size + 1 + 1 + 1 + 1 + 1]? = some (.cells (badCells (some ⟨w1.heap.size, 0, none⟩) (some ⟨w1.heap.size + 1, 0, none⟩) (some ⟨w1.heap.size + 1 + 1, 0, none⟩) (some ⟨w1.heap.size + 1 + 1 + 1, 0, none⟩) (some ⟨w1.heap.size + 1 + 1 + 1 + 1, 0, none⟩)) 55 (0, 0)) := by
    rw [heap_alloc_get, if_pos (by simp)]
  have c : ∀ j, _ := fun j => cell_of_heap hh j
  have hi9 : i = 0 ∨ i = 1 ∨ i = 2 ∨ i = 3 ∨ i = 4 ∨ i = 5 ∨ i = 6 ∨ i = 7 ∨ i = 8 := by omega
  rcases hi9 with rfl | rfl | rfl | rfl | rfl | rfl | rfl | rfl | rfl
  · exact ⟨0, 1, 0, _, [], ⟨c 0, c 1, c 2, c 3⟩, rs_nil _, by omega, by decide⟩
  · exact ⟨1, 0, 0, _, [], ⟨c 4, c 5, c 6, c 7⟩, rs_nil _, by omega, by decide⟩
  · exact ⟨1125899906842625, 1, 0, _, [], ⟨c 8, c 9, c 10, c 11⟩, rs_nil _, by omega, by decide⟩
  · exact ⟨1, 1, 1099511627777, _, [], ⟨c 12, c 13, c 14, c 15⟩, rs_nil _, by omega, by decide⟩
  · exact ⟨1, 1, 5, _, [⟨4, 1⟩], ⟨c 16, c 17, c 18, c 19⟩, rs_one ⟨4, 1⟩ (ty := 39) (fr := (0, 0)) (by simp only [heap_alloc_get, World.size_alloc, ↓reduceIte]; (repeat (first | rw [if_pos (by omega)] | rw [if_neg (by omega)])); try rfl) ⟨by simp, by simp, by simp⟩, by omega, by decide⟩
  · exact ⟨1, 1, 0, _, [⟨16, 1⟩], ⟨c 20, c 21, c 22, c 23⟩, rs_one ⟨16, 1⟩ (ty := 39) (fr := (0, 0)) (by simp only [heap_alloc_get, World.size_alloc, ↓reduceIte]; (repeat (first | rw [if_pos (by omega)] | rw [if_neg (by omega)])); try rfl) ⟨by simp, by simp, by simp⟩, by omega, by decide⟩
  · exact ⟨1, 1, 0, _, [⟨1, 1⟩, ⟨1, 1⟩], ⟨c 24, c 25, c 26, c 27⟩, rs_two ⟨1, 1⟩ ⟨1, 1⟩ (ty := 39) (fr := (0, 0)) (by simp only [heap_alloc_get, World.size_alloc, ↓reduceIte]; (repeat (first | rw [if_pos (by omega)] | rw [if_neg (by omega)])); try rfl) ⟨by simp, by simp, by simp⟩ ⟨by simp, by simp, by simp⟩, by omega, by decide⟩
  · exact ⟨1, 1, 0, _, [⟨0, 0⟩], ⟨c 28, c 29, c 30, c 31⟩, rs_one ⟨0, 0⟩ (ty := 39) (fr := (0, 0)) (by simp only [heap_alloc_get, World.size_alloc, ↓reduceIte]; (repeat (first | rw [if_pos (by omega)] | rw [if_neg (by omega)])); try rfl) ⟨by simp, by simp, by simp⟩, by omega, by decide⟩
  · exact ⟨1, 1, 0, _, [⟨0, 256⟩], ⟨c 32, c 33, c 34, c 35⟩, rs_one ⟨0, 256⟩ (ty := 39) (fr := (0, 0)) (by simp only [heap_alloc_get, World.size_alloc, ↓reduceIte]; (repeat (first | rw [if_pos (by omega)] | rw [if_neg (by omega)])); try rfl) ⟨by simp, by simp, by simp⟩, by omega, by decide⟩

set_option maxRecDepth 4000 in
set_option maxHeartbeats 8000000 in
theorem RanksKnown_walk (w : World) : Calls Try.prog 6 #[] w fun e w' => e = .returned (.bool true) ∧ Below w.heap.size w w' := by
  obtain ⟨z, hz⟩ : ∃ z, w.heap.size = z := ⟨_, rfl⟩
  have HS := Lib.hid hz
  clear hz
  go_enter Try.func6, Try.ntmps6
  go_wp2_with fail
  have hc0 : (w.alloc (.cells #[.bool false, .complex .f64 0 0, .int .u64 0, .slice none 0 0] 54)).cell? ⟨z, 0, none⟩ = some (.bool false) := by rw [← HS.out, cell_of_heap (heap_alloc_new w _) 0]; simp
  have hl0 : z < (w.alloc (.cells #[.bool false, .complex .f64 0 0, .int .u64 0, .slice none 0 0] 54)).heap.size := by rw [← HS.out]; simp
  have hg0 : Grows w (w.alloc (.cells #[.bool false, .complex .f64 0 0, .int .u64 0, .slice none 0 0] 54)) := (Ext.refl _ _).alloc _
  rw [HS.out]
  generalize w.alloc (.cells #[.bool false, .complex .f64 0 0, .int .u64 0, .slice none 0 0] 54) = w0 at hc0 hl0 hg0 ⊢
  have HZ := Lib.hid hc0
  have HL := Lib.hid hl0
  have HG := Lib.hid hg0
  clear hc0 hl0 hg0
  refine (rtake_nil 1 1 1 _ _).mono ?_
  rintro e w9 ⟨rfl, rfl⟩
  go_wp2_with fail
  refine (rtake_zero z 1 1 1 _ _ HZ.out).mono ?_
  rintro e w9 ⟨rfl, rfl⟩
  go_wp2_with fail
  refine (rknown_nil _).mono ?_
  rintro e w9 ⟨rfl, rfl⟩
  go_wp2_with fail
  refine (rknown_zero z _ HZ.out).mono ?_
  rintro e w9 ⟨rfl, rfl⟩
  go_wp2_with fail
  refine (rbase_nil _).mono ?_
  rintro e w9 ⟨rfl, rfl⟩
  go_wp2_with fail
  refine (rlife_zero z _ HZ.out).mono ?_
  rintro e w9 ⟨rfl, rfl⟩
  go_wp2_with fail
  refine (rrank_nil 1 _).mono ?_
  rintro e w1 ⟨rfl, hg⟩
  have hz1 := (hg.cell HL.out (fun h => h)).trans HZ.out
  have hg1 := HG.out.trans hg
  clear hg HZ HL HG
  have HZ := Lib.hid hz1
  have HG := Lib.hid hg1
  clear hz1 hg1
  go_wp2_with fail
  refine (rranks_zero z _ HZ.out).mono ?_
  rintro e w9 ⟨rfl, rfl⟩
  go_wp2_with fail
  refine (rwants_nil 0 1 1 _).mono ?_
  rintro e w9 ⟨rfl, rfl⟩
  go_wp2_with fail
  refine (rcopy_nil _).mono ?_
  rintro e w9 ⟨rfl, rfl⟩
  go_upto_region 6 with (first
    | (show wpList _ _ _ ({ dst := none, op := .store 55 _ _, type := _, pos := _, after := _, guard := _ } :: _) _ _
       refine wpList_store_new rfl _ _ _ rfl rfl badZeros (badCells (some ⟨w1.heap.size, 0, none⟩) (some ⟨w1.heap.size + 1, 0, none⟩) (some ⟨w1.heap.size + 1 + 1, 0, none⟩) (some ⟨w1.heap.size + 1 + 1 + 1, 0, none⟩) (some ⟨w1.heap.size + 1 + 1 + 1 + 1, 0, none⟩)) (w1.heap.size + 1 + 1 + 1 + 1 + 1) (by simp) rfl rfl (badInfo _ _ _ _ _) rfl (badAll _ _ _ _ _) ?_))
  have hbad := bad_start w1
  have hgw : Grows w1 ((((((w1.alloc (.cells #[.int .u64 4, .int .i64 1] 39)).alloc (.cells #[.int .u64 16, .int .i64 1] 39)).alloc (.cells #[.int .u64 1, .int .i64 1, .int .u64 1, .int .i64 1] 39)).alloc (.cells #[.int .u64 0, .int .i64 0] 39)).alloc (.cells #[.int .u64 0, .int .i64 256] 39)).alloc (.cells (badCells (some ⟨w1.heap.size, 0, none⟩) (some ⟨w1.heap.size + 1, 0, none⟩) (some ⟨w1.heap.size + 1 + 1, 0, none⟩) (some ⟨w1.heap.size + 1 + 1 + 1, 0, none⟩) (some ⟨w1.heap.size + 1 + 1 + 1 + 1, 0, none⟩)) 55)) := ((((((Ext.refl _ _).alloc _).alloc _).alloc _).alloc _).alloc _).alloc _
  have HBAD := Lib.hid hbad
  have HGW := Lib.hid (HG.out.trans hgw)
  clear hbad hgw HG HZ
  generalize (w1.heap.size + 1 + 1 + 1 + 1 + 1) = ab at HBAD ⊢
  generalize ((((((w1.alloc (.cells #[.int .u64 4, .int .i64 1] 39)).alloc (.cells #[.int .u64 16, .int .i64 1] 39)).alloc (.cells #[.int .u64 1, .int .i64 1, .int .u64 1, .int .i64 1] 39)).alloc (.cells #[.int .u64 0, .int .i64 0] 39)).alloc (.cells #[.int .u64 0, .int .i64 256] 39)).alloc (.cells (badCells (some ⟨w1.heap.size, 0, none⟩) (some ⟨w1.heap.size + 1, 0, none⟩) (some ⟨w1.heap.size + 1 + 1, 0, none⟩) (some ⟨w1.heap.size + 1 + 1 + 1, 0, none⟩) (some ⟨w1.heap.size + 1 + 1 + 1 + 1, 0, none⟩)) 55)) = w2 at HBAD HGW ⊢
  obtain ⟨t, ht⟩ : ∃ t, w2.heap.size = t := ⟨_, rfl⟩
  have HTT := Lib.hid ht
  clear ht
  go_wp2_with fail
  have hnew := told_new w2
  rw [HTT.out] at hnew
  refine hnew.mono ?_
  rintro e w3 ⟨rfl, h0, hg3⟩
  have hb3 := HBAD.out.grows hg3
  have HB := Lib.hid (And.intro hb3 (show TN w w3 t 0 0 0 [] from ⟨h0.mono (fun k hk => by have := HGW.out.size; have := HTT.out; omega), HGW.out.trans hg3⟩))
  clear hnew h0 hg3 hb3 HBAD
  go_wp2
  go_loopg [5] 9 (fun k c wr => ∃ i : Nat, k = 9 - i ∧ i ≤ 9 ∧ c = .int .i64 (i : Nat) ∧ Bad wr ab ∧ TN w wr t 0 0 0 [])
  case atStart => exact ⟨0, by omega, by omega, rfl, HB.out.1, HB.out.2⟩
  case round =>
    obtain ⟨i, hk, hi, rfl, hbad, htn⟩ := hrel
    have HK := Lib.hid hk
    clear hk HB
    by_cases hlt : i < 9
    · obtain ⟨life, count, base, u, l, ⟨c0, c1, c2, c3⟩, hrs, hbb, hE⟩ := hbad.2 i hlt
      have hab := hbad.1
      obtain ⟨ua, uc, rfl⟩ := hrs.form
      have HR := Lib.hid (And.intro hrs (And.intro hbb hE))
      have HB := Lib.hid (And.intro hbad htn)
      have HC := Lib.hid (And.intro c0 (And.intro c1 (And.intro c2 c3)))
      have HAB := Lib.hid hab
      have i0 : (0 : Int) ≤ (i : Int) := by omega
      have i1 : (i : Int) < 9 := by omega
      clear hbad htn hrs hbb hE hab
      go_wp2_with fail
      go_region_held3 (fun w' => w'.cell? ⟨ab, i * 4, none⟩ = some (.int .u64 life) ∧ w'.cell? ⟨ab, i * 4 + 1, none⟩ = some (.int .u64 count) ∧ w'.cell? ⟨ab, i * 4 + 2, none⟩ = some (.int .u64 base) ∧ w'.cell? ⟨ab, i * 4 + 3, none⟩ = some (.slice ua l.length uc))
        (first
          | go_keep
          | exact ⟨(g4.cell (p := ⟨ab, _, none⟩) HAB.out (fun h => h)).trans HC.out.1, (g4.cell (p := ⟨ab, _, none⟩) HAB.out (fun h => h)).trans HC.out.2.1, (g4.cell (p := ⟨ab, _, none⟩) HAB.out (fun h => h)).trans HC.out.2.2.1, (g4.cell (p := ⟨ab, _, none⟩) HAB.out (fun h => h)).trans HC.out.2.2.2⟩)
        (first
          | (go_at_call 14; refine (tn_take_no (HB.out.2.more (Ext.drewN_r _)) life count base _ l (HR.out.1.grows (Ext.drewN_r _)) HR.out.2.1 1 HR.out.2.2 (by omega)).mono ?_; rintro e w4 ⟨rfl, h4, g4⟩)
          | (go_at_call 15; refine (tn_known h4 false (by decide)).mono ?_; rintro e w9 ⟨rfl, rfl⟩))
      all_goals
        have hb4 : Bad w4 ab := HB.out.1.grows ((Ext.drewN_r 1 : Grows wr (wr.drewN 1)).trans g4)
        have A := Lib.hid (And.intro hb4 h4)
        clear hb4 h4 g4 c0 c1 c2 c3 HC HR HB
        go_wp2
        go_roundg (9 - (i + 1))
        case measure => have := HK.out; omega
        case rel => exact ⟨i + 1, rfl, by omega, by go_num, A.out.1, A.out.2⟩
    · obtain rfl : i = 9 := by omega
      have HB := Lib.hid htn
      clear hbad htn
      go_wp2_with fail
      refine (tn_take_ok HB.out 1125899906842624 1125899906842624 1099511627776 _ [] (rs_nil _) (by omega) (by decide)).mono ?_
      rintro e w4 ⟨rfl, H', _⟩
      clear HB
      have HH := Lib.hid H'
      clear H'
      go_wp2_with fail
      refine (tn_wants HH.out 1099511627776 1 16 false (by decide)).mono ?_
      rintro e w5 ⟨rfl, H', _⟩
      clear HH
      have HH := Lib.hid H'
      clear H'
      go_wp2_with fail
      have hl : (w5.alloc (.cells #[.int .u64 1099511627775, .int .i64 255] 39)).heap[w5.heap.size]? = some (.cells #[.int .u64 ((1099511627775 : Nat) : Int), .int .i64 255] 39 (0, 0)) := heap_alloc_new w5 _
      have hrs := rs_one ⟨1099511627775, 255⟩ hl ⟨by simp, by simp, by simp⟩
      have h2 := HH.out.more ((Ext.refl (fun _ => False) w5).alloc (.cells #[.int .u64 1099511627775, .int .i64 255] 39))
      have A := Lib.hid (And.intro hrs h2)
      clear hl hrs h2 HH
      refine (tn_take_no A.out.2 1 1 1099511627775 _ [⟨1099511627775, 255⟩] A.out.1 (by omega) 22 (by decide) (by omega)).mono ?_
      rintro e w6 ⟨rfl, H', _⟩
      clear A
      have HH := Lib.hid H'
      clear H'
      go_wp2_with fail
      refine (tn_base HH.out).mono ?_
      rintro e w9 ⟨rfl, rfl⟩
      go_wp2_with fail
      refine (ranks_wakes _).mono ?_
      rintro e w9 ⟨rfl, hg⟩
      have HE := Lib.hid (HH.out.grows.trans hg)
      clear hg
      go_wp2
      go_ret
      exact ⟨rfl, Ext.to_below HE.out⟩
namespace RanksKnownShell
theorem own : ownKnob Try.prog.godebug = none := by kernel_rfl
theorem laidOut : laidOutB Try.prog = true := by kernel_rfl
set_option maxRecDepth 100000 in
theorem lifted (os : Os) (started : os.Started) (H : Type) (enc : TypeId × Value → H) :
    ReturnsInHanded {} Try.checked os 6 .any (Rows.ranksKnownSpec.pre6 enc Try.prog Try.f6 Rows.ranksKnownRow.domain false) (Rows.ranksKnownSpec.post enc Try.prog Try.f6 false true false false) := by
  refine returnsInHanded_of_change_sized (C := Try.checked) own started (by kernel_rfl) Try.func6
    (ChangeSpec.witness6 (enc := enc) (C := Try.checked) false ⟨#[], #[], []⟩ 8 (by kernel_rfl) (by kernel_rfl) (by kernel_rfl) (by kernel_rfl)) ?_
  intro W base args ds gs before hval0 hW hcnd hsz0 _
  have hval : ∀ (j : Nat) t v, Try.f6.params[j]? = some t → args[j]? = some v → Value.okWide Try.prog W .any base t v := hval0
  have hsz : (DataW.weightsEach Try.prog (Try.f6.params.toList ++ Rows.ranksKnownSpec.plain.varTypes Try.prog) (ds ++ gs)).all (· ≤ reachBytes) = true := hsz0
  have hW' := hW
  obtain ⟨p, q, hA0, hV, rfl, hfz, hnd⟩ := hW
  have hA : DataW.TrodAll enc Try.prog W 0 (fun _ => true) true Try.f6.params.toList args.toList ds p := hA0
  rw [Try.params6] at hA hval hsz
  obtain ⟨hargs, rfl, rfl⟩ := trodAll_nil hA
  obtain rfl : args = #[] := by cases args; simp_all
  obtain ⟨rfl, rfl⟩ := trodVars_none hV
  clear hA0 hval0 hsz0
  refine (RanksKnown_walk  W ).mono fun e W' ⟨he, bel⟩ => ?_
  subst he
  exact ⟨_, rfl, _, _, _, [], _, [], hW', trodAll_mk1 (shut_bool Try.underlying4 _), trodAll_mk0, rfl, bel.frame _, fun h => by cases h⟩
theorem over : Rows.ranksKnownRow.holds Try.pinned (OpenSpec.ofChange Rows.ranksKnownSpec) :=
  OpenClaim.holds_of_wide 6 Try.f6 rfl rfl rfl rfl rfl rfl rfl ⟨rfl, rfl, rfl, rfl, rfl⟩ rfl rfl rfl rfl rfl (by kernel_rfl) Try.func6 (by kernel_rfl)
    (of_decide_eq_true (by kernel_rfl)) (by unfold Func.isWrapper; first | (rw [if_pos (by decide +kernel)]; kernel_rfl) | (rw [if_neg (by decide +kernel)]; exact ⟨rfl, rfl⟩))
    (fun os started H enc _ => lifted os started H enc)
end RanksKnownShell
theorem RanksKnown_holds : Rows.RanksKnownSaid := RanksKnownShell.over
#print axioms RanksKnown_holds
end Go.Proofs.Ytpkaddpennafcaa
