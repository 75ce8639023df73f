/- SchedTurns: whose turn it is, against the answer. -/
import Derived.Test.YtlejdhgchanilaaSchedArgs
import Derived.Test.YtlejdhgchanilaaSchedW
import Derived.Deep.RegionHeld3
namespace Go.Proofs.Ytlejdhgchanilaa
set_option linter.unusedVariables false
set_option linter.unusedSimpArgs false
open Go.ChangeShapes Go.WideShapes Go.ChangeAt Go.RowKit Go.Sort Go.Lib

set_option maxHeartbeats 16000000 in
theorem SchedTurns_walk (v0 : Value) (l0 : List PlaceV) (v1 : Value) (last : PlaceV) (begun : Bool) (w : World) (h0 : Places w v0 l0) (h1 : PlaceA v1 last) :
    Calls Try.prog 3 #[v0, v1, .bool begun] w fun e w' => e = .returned (.bool true) ∧ Below w.heap.size w w' := by
  unfold PlaceA at h1
  subst h1
  obtain ⟨va, vc, rfl, hcap⟩ := h0.form
  obtain ⟨n, hn⟩ : ∃ n, min l0.length 60 = n := ⟨_, rfl⟩
  have hl0 := h0.2
  have n0 : (0 : Int) ≤ (n : Int) := by omega
  have n1 : (n : Int) ≤ (vc : Int) := by omega
  have n60 : n ≤ 60 := by omega
  have hif : min (l0.length : Int) 60 = (n : Int) := by omega
  have hrow := h0.row n (by omega)
  obtain ⟨l, hl⟩ : ∃ l, l0.take n = l := ⟨_, rfl⟩
  have hll : l.length = n := by rw [← hl, List.length_take]; omega
  rw [hl] at hrow
  obtain ⟨S, hS⟩ := exists_sorted l
  obtain ⟨o, ho⟩ : ∃ o, (roundP S last begun).head? = o := ⟨_, rfl⟩
  have hg : Grows w (w.alloc (.cells #[.int .i64 last.flow, .int .u64 last.gen] 25)) := (Ext.refl _ w).alloc _
  have k4 := heap_alloc_new w (.cells #[.int .i64 last.flow, .int .u64 last.gen] 25 (0, 0))
  have H := Lib.hid (And.intro hrow (And.intro hg (And.intro k4 (And.intro ho (And.intro (show InOrder S l from hS) hll)))))
  clear hrow hg k4 ho hS hl hll h0
  go_enter Try.func3, Try.ntmps3
  go_wp2_with fail
  clear hif hl0 hcap hn n1
  have h2 := H.out.2.1
  have k4 := H.out.2.2.1
  generalize w.alloc (.cells #[.int .i64 last.flow, .int .u64 last.gen] 25) = w1 at h2 k4 ⊢
  generalize hb4 : w.heap.size = b4 at k4 ⊢
  refine (ours_any _ l w1 (H.out.1.grows h2) (by have := H.out.2.2.2.2.2; omega)).mono ?_
  rintro e w2 ⟨mv, rfl, hown, hg2, _⟩
  have k4 := (hg2.block _ (heap_lt k4) (fun h => h)).trans k4
  have A := Lib.hid (And.intro hown (And.intro (h2.trans hg2) k4))
  have c0 := cell_of_heap k4 0
  have c1 := cell_of_heap k4 1
  simp at c0 c1
  clear h2 k4 hown hg2
  go_wp2_with fail
  clear c0 c1
  obtain ⟨p, is, hN⟩ : ∃ (p : PlaceV) (is : Bool), nextV o = .tuple #[.agg #[.int .i64 p.flow, .int .u64 p.gen], .bool is] := by
    cases o with
    | none => exact ⟨⟨0, 0⟩, false, rfl⟩
    | some c => exact ⟨c, true, rfl⟩
  refine (next_S mv l S H.out.2.2.2.2.1 last begun w2 A.out.1 (by have := H.out.2.2.2.2.2; omega) o H.out.2.2.2.1).mono ?_
  rintro e w3 ⟨rfl, hg3⟩
  rw [hN]
  have ga : Grows w3 (w3.alloc (.cells #[.int .i64 p.flow, .int .u64 p.gen] 28)) := (Ext.refl _ _).alloc _
  have kp : (w3.alloc (.cells #[.int .i64 p.flow, .int .u64 p.gen] 28)).heap[w3.heap.size]? = some (.cells #[.int .i64 p.flow, .int .u64 p.gen] 28 (0, 0)) := heap_alloc_new w3 _
  have k4 := ((hg3.trans ga).block _ (heap_lt A.out.2.2) (fun h => h)).trans A.out.2.2
  have B := Lib.hid (And.intro (A.out.1.grows (hg3.trans ga)) (And.intro (A.out.2.1.trans (hg3.trans ga)) (And.intro k4 kp)))
  have c0 := cell_of_heap k4 0
  have c1 := cell_of_heap k4 1
  simp at c0 c1
  have HN := Lib.hid hN
  clear A k4 kp hg3 ga hN
  go_wp2_with fail
  clear c0 c1
  generalize w3.alloc (.cells #[.int .i64 p.flow, .int .u64 p.gen] 28) = w4 at B ⊢
  generalize w3.heap.size = bp at B ⊢
  refine (refnext_S _ l S H.out.2.2.2.2.1 last begun w4 (H.out.1.grows B.out.2.1) (by have := H.out.2.2.2.2.2; omega) o H.out.2.2.2.1).mono ?_
  rintro e w5 ⟨rfl, hg5⟩
  rw [HN.out]
  have ga : Grows w5 (w5.alloc (.cells #[.int .i64 p.flow, .int .u64 p.gen] 25)) := (Ext.refl _ _).alloc _
  have kq : (w5.alloc (.cells #[.int .i64 p.flow, .int .u64 p.gen] 25)).heap[w5.heap.size]? = some (.cells #[.int .i64 p.flow, .int .u64 p.gen] 25 (0, 0)) := heap_alloc_new w5 _
  have k4 := ((hg5.trans ga).block _ (heap_lt B.out.2.2.1) (fun h => h)).trans B.out.2.2.1
  have kp := ((hg5.trans ga).block _ (heap_lt B.out.2.2.2) (fun h => h)).trans B.out.2.2.2
  have C := Lib.hid (And.intro (B.out.1.grows (hg5.trans ga)) (And.intro (B.out.2.1.trans (hg5.trans ga)) (And.intro k4 (And.intro kp kq))))
  have c0 := cell_of_heap k4 0
  have c1 := cell_of_heap k4 1
  simp at c0 c1
  clear B k4 kp kq hg5 ga
  go_wp2_with fail
  clear c0 c1
  generalize w5.alloc (.cells #[.int .i64 p.flow, .int .u64 p.gen] 25) = w6 at C ⊢
  generalize w5.heap.size = bq at C ⊢
  refine (round_S mv l S H.out.2.2.2.2.1 last begun w6 C.out.1 (by have := H.out.2.2.2.2.2; omega)).mono ?_
  rintro e w7 ⟨rv, rfl, hr, hg7, _⟩
  have k4 := (hg7.block _ (heap_lt C.out.2.2.1) (fun h => h)).trans C.out.2.2.1
  have kp := (hg7.block _ (heap_lt C.out.2.2.2.1) (fun h => h)).trans C.out.2.2.2.1
  have kq := (hg7.block _ (heap_lt C.out.2.2.2.2) (fun h => h)).trans C.out.2.2.2.2
  have D := Lib.hid (And.intro (C.out.1.grows hg7) (And.intro (C.out.2.1.trans hg7) (And.intro k4 hr)))
  have c0 := cell_of_heap k4 0
  have c1 := cell_of_heap k4 1
  have p0 := cell_of_heap kp 0
  have p1 := cell_of_heap kp 1
  have q0 := cell_of_heap kq 0
  have q1 := cell_of_heap kq 1
  simp at c0 c1 p0 p1 q0 q1
  have hne := neR p p
  rw [show (!decide (p = p)) = false by simp] at hne
  have hgd := eqGuardR
  clear C k4 kp kq hg7 hr
  go_wp2_with fail
  clear c0 c1 p0 p1 q0 q1 hne
  refine (refround_S _ l S H.out.2.2.2.2.1 last begun w7 (H.out.1.grows D.out.2.1) (by have := H.out.2.2.2.2.2; omega)).mono ?_
  rintro e w8 ⟨qv, rfl, hq, hg8⟩
  have k4 := (hg8.block _ (heap_lt D.out.2.2.1) (fun h => h)).trans D.out.2.2.1
  have E := Lib.hid (And.intro (D.out.1.grows hg8) (And.intro (D.out.2.1.trans hg8) (And.intro k4 (And.intro (D.out.2.2.2.grows hg8) hq))))
  clear D k4 hg8 hq
  go_wp2_with fail
  have hlen : (roundP S last begun).length ≤ 2097152 := by
    have := nodup_short _ l (roundP_nodup H.out.2.2.2.2.1.1 last begun) (fun x hx => (H.out.2.2.2.2.1.2 x).1 ((mem_roundP S last begun x).1 hx))
    have := H.out.2.2.2.2.2
    omega
  refine (same_eq rv qv _ w8 E.out.2.2.2.1.row E.out.2.2.2.2.row hlen).mono ?_
  rintro e w9 ⟨rfl, hg9⟩
  have k4 := (hg9.block _ (heap_lt E.out.2.2.1) (fun h => h)).trans E.out.2.2.1
  have F := Lib.hid (And.intro (E.out.1.grows hg9) (And.intro (E.out.2.1.trans hg9) k4))
  clear E k4 hg9 hlen
  go_wp2_with fail
  refine (same_eq mv _ l w9 F.out.1.row (H.out.1.grows F.out.2.1) (by have := H.out.2.2.2.2.2; omega)).mono ?_
  rintro e w10 ⟨rfl, hg10⟩
  have k4 := (hg10.block _ (heap_lt F.out.2.2) (fun h => h)).trans F.out.2.2
  have G := Lib.hid (And.intro (F.out.1.grows hg10) (And.intro (F.out.2.1.trans hg10) k4))
  clear F k4 hg10
  go_wp2
  obtain ⟨ma, mc, rfl⟩ := G.out.1.row.1
  rw [H.out.2.2.2.2.2] at G ⊢
  go_loopg [13] n (fun k c wr => ∃ j : Nat, j ≤ n ∧ k = n - j ∧ c = .int .i64 (j : Nat) ∧ Grows w10 wr)
  case atStart => exact ⟨0, by omega, by omega, rfl, Ext.refl _ _⟩
  case round =>
    obtain ⟨j, hj, hk, rfl, hg⟩ := hrel
    have HK := Lib.hid (And.intro hk hg)
    clear hk hg
    by_cases hlt : j < n
    · have j0 : (0 : Int) ≤ (j : Int) := by omega
      have j1 : (j : Int) < (n : Int) := by omega
      have j60 : (j : Int) < 60 := by omega
      have hll := H.out.2.2.2.2.2
      obtain ⟨g, off, cap, e, hgl, ⟨c0, c1⟩, _⟩ := OwnP.at (G.out.1.grows HK.out.2) j (by omega)
      injection e with e1 e2 e3
      subst e1 e3
      clear e2
      obtain ⟨bl, off', cap', e, hbl, d0, d1⟩ := (H.out.1.grows (G.out.2.1.trans HK.out.2)).2 j (by omega)
      injection e with e1 e2 e3
      subst e1 e3
      clear e2
      have k4 := (HK.out.2.block _ (heap_lt G.out.2.2) (fun h => h)).trans G.out.2.2
      have h4 := heap_lt k4
      have l0 := cell_of_heap k4 0
      have l1 := cell_of_heap k4 1
      simp at l0 l1
      generalize l[j]'(by omega) = x at c0 c1 d0 d1
      obtain ⟨q, hq⟩ : ∃ q, cmpP x last = q := ⟨_, rfl⟩
      have HX := Lib.hid (And.intro hq (And.intro hgl (And.intro hbl (And.intro h4 (And.intro c0 (And.intro c1 (And.intro d0 (And.intro d1 (And.intro l0 l1)))))))))
      clear hq hgl hbl h4 k4 hll
      go_upto_region 11 with fail
      go_region_held3 (fun w' => w'.cell? ⟨g, off + j * 2, none⟩ = some (.int .i64 x.flow) ∧ w'.cell? ⟨g, off + j * 2 + 1, none⟩ = some (.int .u64 x.gen) ∧ w'.cell? ⟨bl, off' + j * 2, none⟩ = some (.int .i64 x.flow) ∧ w'.cell? ⟨bl, off' + j * 2 + 1, none⟩ = some (.int .u64 x.gen) ∧ w'.cell? ⟨b4, 0, none⟩ = some (.int .i64 last.flow) ∧ w'.cell? ⟨b4, 1, none⟩ = some (.int .u64 last.gen))
        (first
          | go_keep
          | (go_split_ands; refine ⟨cell_grow hg11 ?_, cell_grow hg11 ?_, cell_grow hg11 ?_, cell_grow hg11 ?_, cell_grow hg11 ?_, cell_grow hg11 ?_⟩ <;> assumption)
          | (go_split_ands; refine ⟨cell_grow hg12 ?_, cell_grow hg12 ?_, cell_grow hg12 ?_, cell_grow hg12 ?_, cell_grow hg12 ?_, cell_grow hg12 ?_⟩ <;> assumption))
        (first
          | (go_at_call 13; refine (compare_g x last q HX.out.1 _).mono ?_; rintro e w11 ⟨rfl, hg11⟩)
          | (go_at_call 14; refine (refcmp_any x last q HX.out.1 _).mono ?_; rintro e w12 ⟨rfl, hg12⟩))
      · have gq : Grows wr w12 := ((Ext.refl _ wr).drew).trans (hg11.trans hg12)
        have HG := Lib.hid (HK.out.2.trans gq)
        clear c0 c1 d0 d1 l0 l1 gq hg11 hg12
        go_wp2
        go_roundg (n - (j + 1))
        case measure => have := HK.out.1; omega
        case rel => exact ⟨j + 1, by omega, rfl, by go_num, HG.out⟩
    · have j1 : ¬ (j : Int) < (n : Int) := by omega
      go_wp2_with fail
      refine (sched_wakes _).mono ?_
      rintro e w11 ⟨rfl, hg11⟩
      have HG := Lib.hid ((G.out.2.1.trans HK.out.2).trans hg11)
      clear hg11
      go_wp2
      go_ret
      exact ⟨rfl, Ext.to_below HG.out⟩
namespace SchedTurnsShell
theorem own : ownKnob Try.prog.godebug = none := by kernel_rfl
theorem laidOut : laidOutB Try.prog = true := by kernel_rfl
set_option maxRecDepth 100000 in
theorem lifted (os : Os) (started : os.Started) (H : Type) (enc : TypeId × Value → H) :
    ReturnsInHanded {} Try.checked os 3 .any (Rows.schedTurnsSpec.pre6 enc Try.prog Try.f3 Rows.schedTurnsRow.domain false) (Rows.schedTurnsSpec.post enc Try.prog Try.f3 false true false false) := by
  refine returnsInHanded_of_change_sized (C := Try.checked) own started (by kernel_rfl) Try.func3
    (ChangeSpec.witness6 (enc := enc) (C := Try.checked) false ⟨#[], #[.slice none 0 0, .agg #[.int .i64 0, .int .u64 0], .bool false], []⟩ 8 (by kernel_rfl) (by kernel_rfl) (by kernel_rfl) (by kernel_rfl)) ?_
  intro W base args ds gs before hval0 hW hcnd hsz0 _
  have hval : ∀ (j : Nat) t v, Try.f3.params[j]? = some t → args[j]? = some v → Value.okWide Try.prog W .any base t v := hval0
  have hsz : (DataW.weightsEach Try.prog (Try.f3.params.toList ++ Rows.schedTurnsSpec.plain.varTypes Try.prog) (ds ++ gs)).all (· ≤ reachBytes) = true := hsz0
  have hW' := hW
  obtain ⟨p, q, hA0, hV, rfl, hfz, hnd⟩ := hW
  have hA : DataW.TrodAll enc Try.prog W 0 (fun _ => true) true Try.f3.params.toList args.toList ds p := hA0
  rw [Try.params3] at hA hval hsz
  obtain ⟨v0, vs0, d0, ds0, p0, q0, hargs, rfl, rfl, h0, r0⟩ := trodAll_cons hA
  obtain ⟨v1, vs1, d1, ds1, p1, q1, rfl, rfl, rfl, h1, r1⟩ := trodAll_cons r0
  obtain ⟨v2, vs2, d2, ds2, p2, q2, rfl, rfl, rfl, h2, r2⟩ := trodAll_cons r1
  obtain ⟨rfl, rfl, rfl⟩ := trodAll_nil r2
  obtain rfl : args = #[v0, v1, v2] := by cases args; simp_all
  obtain ⟨rfl, rfl⟩ := trodVars_none hV
  have k0 := h0
  have lt0 : ∀ x ∈ p0, x.block < W.heap.size := by obtain ⟨m, hm⟩ := k0; exact DataW.trod_lt m _ _ _ hm
  have k1 := h1
  have lt1 : ∀ x ∈ p1, x.block < W.heap.size := by obtain ⟨m, hm⟩ := k1; exact DataW.trod_lt m _ _ _ hm
  have k2 := h2
  have lt2 : ∀ x ∈ p2, x.block < W.heap.size := by obtain ⟨m, hm⟩ := k2; exact DataW.trod_lt m _ _ _ hm
  obtain ⟨a0, w0⟩ := open_places (hval 0 22 v0 rfl rfl) h0 hsz (j := 0) rfl rfl
  obtain ⟨a1, w1⟩ := open_place (hval 1 25 v1 rfl rfl) h1 hsz (j := 1) rfl rfl
  obtain ⟨a2, rfl, rfl, rfl⟩ := open_bool Try.underlying4 (hval 2 4 v2 rfl rfl) h2
  clear hA0 hval0 hsz0
  refine (SchedTurns_walk v0 a0 v1 a1 a2 W w0 w1).mono fun e W' ⟨he, bel⟩ => ?_
  subst he
  exact ⟨_, rfl, _, _, _, [], _, [], hW', trodAll_mk1 (shut_bool Try.underlying4 _), (trodAll_cons_mk (Below.trod laidOut (by kernel_rfl) (of_decide_eq_true (by kernel_rfl)) k0 bel lt0) (trodAll_cons_mk (Below.trod laidOut (by kernel_rfl) (of_decide_eq_true (by kernel_rfl)) k1 bel lt1) (trodAll_cons_mk (Below.trod laidOut (by kernel_rfl) (of_decide_eq_true (by kernel_rfl)) k2 bel lt2) trodAll_mk0))), rfl, bel.frame _, fun h => by cases h⟩
theorem over : Rows.schedTurnsRow.holds Try.pinned (OpenSpec.ofChange Rows.schedTurnsSpec) :=
  OpenClaim.holds_of_wide 3 Try.f3 rfl rfl rfl rfl rfl rfl rfl ⟨rfl, rfl, rfl, rfl, rfl⟩ rfl rfl rfl rfl rfl (by kernel_rfl) Try.func3 (by kernel_rfl)
    (of_decide_eq_true (by kernel_rfl)) (by unfold Func.isWrapper; first | (rw [if_pos (by decide +kernel)]; kernel_rfl) | (rw [if_neg (by decide +kernel)]; exact ⟨rfl, rfl⟩))
    (fun os started H enc _ => lifted os started H enc)
end SchedTurnsShell
theorem SchedTurns_holds : Rows.SchedTurnsSaid := SchedTurnsShell.over
#print axioms SchedTurns_holds
end Go.Proofs.Ytlejdhgchanilaa
