/- sched: Next; ours; same; what the drivers share. -/
import Derived.Test.YtlejdhgchanilaaSchedF
import Derived.Test.YtlejdhgchanilaaRead
import Derived.Laws.ResultCell
namespace Go.Proofs.Ytlejdhgchanilaa
set_option linter.unusedVariables false
set_option linter.unusedSimpArgs false
open Go.RowKit Go.Sort Go.Lib

theorem exists_sorted : ∀ l : List PlaceV, ∃ S, Sorted S ∧ ∀ x, x ∈ S ↔ x ∈ l
  | [] => ⟨[], List.Pairwise.nil, fun x => Iff.rfl⟩
  | a :: l => by
    obtain ⟨S, hS, hm⟩ := exists_sorted l
    refine ⟨S.filter (fun x => decide (ltP x a)) ++ a :: S.filter (fun x => decide (ltP a x)), ?_, fun x => ?_⟩
    · refine List.pairwise_append.2 ⟨hS.filter _, List.pairwise_cons.2 ⟨fun y hy => by simpa using (List.mem_filter.1 hy).2, hS.filter _⟩, fun y hy z hz => ?_⟩
      have hya : ltP y a := by simpa using (List.mem_filter.1 hy).2
      rcases List.mem_cons.1 hz with rfl | hz
      · exact hya
      · exact ltP_trans hya (by simpa using (List.mem_filter.1 hz).2)
    · simp only [List.mem_append, List.mem_cons, List.mem_filter, hm, decide_eq_true_eq]
      constructor
      · rintro (⟨h, _⟩ | rfl | ⟨h, _⟩)
        · exact .inr h
        · exact .inl rfl
        · exact .inr h
      · rintro (rfl | h)
        · exact .inr (.inl rfl)
        · rcases ltP_total x a with h2 | h2 | h2
          · exact .inl ⟨h, h2⟩
          · exact .inr (.inl h2)
          · exact .inr (.inr ⟨h, h2⟩)

/-- S: the places of l in their order, each once. -/
def InOrder (S l : List PlaceV) : Prop := Sorted S ∧ ∀ x, x ∈ S ↔ x ∈ l

theorem round_S (v : Value) (l S : List PlaceV) (hS : InOrder S l) (last : PlaceV) (begun : Bool) (w : World) (h : OwnP w v l) (hl : l.length ≤ 1048576) :
    Calls Try.prog 10 #[v, .agg #[.int .i64 last.flow, .int .u64 last.gen], .bool begun] w fun e w' => ∃ v', e = .returned v' ∧ OwnP w' v' (roundP S last begun) ∧ Grows w w' ∧ ∀ k, v'.ownBlock = some k → w.heap.size ≤ k := by
  refine (round_any v l last begun w h hl).mono ?_
  rintro e w' ⟨v', S', rfl, hs, hm, ho, hg, hf⟩
  obtain rfl : S' = S := sorted_unique hs hS.1 (fun x => (hm x).trans (hS.2 x).symm)
  exact ⟨v', rfl, ho, hg, hf⟩

def nextV : Option PlaceV → Value
  | some p => .tuple #[.agg #[.int .i64 p.flow, .int .u64 p.gen], .bool true]
  | none => .tuple #[.agg #[.int .i64 0, .int .u64 0], .bool false]

set_option maxHeartbeats 4000000 in
theorem next_S (v : Value) (l S : List PlaceV) (hS : InOrder S l) (last : PlaceV) (begun : Bool) (w : World) (h : OwnP w v l) (hl : l.length ≤ 1048576) (o : Option PlaceV) (ho : (roundP S last begun).head? = o) :
    Calls Try.prog 8 #[v, .agg #[.int .i64 last.flow, .int .u64 last.gen], .bool begun] w fun e w' => e = .returned (nextV o) ∧ Grows w w' := by
  subst ho
  have c0 := new20 w (.int .i64 last.flow) (.int .u64 last.gen) 28
  have c1 := new21 w (.int .i64 last.flow) (.int .u64 last.gen) 28
  have hg : Grows w (w.alloc (.cells #[.int .i64 last.flow, .int .u64 last.gen] 28)) := (Ext.refl _ w).alloc _
  have H := Lib.hid (And.intro h hg)
  have hz := zeroP
  clear h hg
  go_enter Try.func8, Try.ntmps8
  go_wp2_with fail
  have hg2 : Grows w ((w.alloc (.cells #[.int .i64 last.flow, .int .u64 last.gen] 28)).alloc (.cells #[.int .i64 0, .int .u64 0] 28)) := ((Ext.refl _ w).alloc _).alloc _
  have hb := heap_alloc_new (w.alloc (.cells #[.int .i64 last.flow, .int .u64 last.gen] 28)) (.cells #[.int .i64 0, .int .u64 0] 28 (0, 0))
  rw [show (w.alloc (.cells #[.int .i64 last.flow, .int .u64 last.gen] 28)).heap.size = w.heap.size + 1 by simp] at hb
  generalize (w.alloc (.cells #[.int .i64 last.flow, .int .u64 last.gen] 28)).alloc (.cells #[.int .i64 0, .int .u64 0] 28) = w2 at hg2 hb ⊢
  refine (round_S v l S hS last begun w2 (H.out.1.grows hg2) hl).mono ?_
  rintro e w3 ⟨v', rfl, ho, hg3, _⟩
  obtain ⟨R, hR⟩ : ∃ R, roundP S last begun = R := ⟨_, rfl⟩
  rw [hR] at ho
  have HRR := Lib.hid hR
  clear hR
  have hb3 := (hg3.block _ (heap_lt hb) (fun h => h)).trans hb
  have d0 := cell_of_heap hb3 0
  have d1 := cell_of_heap hb3 1
  have f0 := frozen_of_heap hb3 0
  have f1 := frozen_of_heap hb3 1
  simp at d0 d1
  have H2 := Lib.hid (And.intro ho (hg2.trans hg3))
  obtain ⟨va, vc, rfl⟩ := OwnS.form ho
  clear hg2 hb hg3 ho hb3 c0 c1 H
  have hgs : ∀ x y : Value, Grows w ((w3.setCell ⟨w.heap.size + 1, 0, none⟩ x).setCell ⟨w.heap.size + 1, 1, none⟩ y) := fun x y =>
    Ext.setCell (Ext.setCell H2.out.2 ⟨w.heap.size + 1, 0, none⟩ (.inl (by show w.heap.size ≤ w.heap.size + 1; omega)) x) ⟨w.heap.size + 1, 1, none⟩ (.inl (by show w.heap.size ≤ w.heap.size + 1; omega)) y
  have HG := Lib.hid hgs
  clear hgs
  cases R with
  | nil =>
    go_wp2
    refine bodyPost_ret (v := nextV none) ?_ rfl ⟨by rw [HRR.out]; rfl, HG.out _ _⟩
    rw [results_cell_tmp rfl]
    go_simp
    rfl
  | cons p r =>
    obtain ⟨g, off, cap, e, hgl, ⟨p0, p1⟩, _⟩ := H2.out.1.at 0 (by simp)
    injection e with e1 e2 e3
    subst e1 e3
    clear e2
    simp only [List.getElem_cons_zero, Nat.zero_mul, Nat.add_zero] at p0 p1
    have n0 : ((((p :: r).length : Nat) : Int) == 0) = false := by rw [beq_eq_false_iff_ne, List.length_cons]; omega
    have n1 : (0 : Int) < (((p :: r).length : Nat) : Int) := by rw [List.length_cons]; omega
    generalize (p :: r).length = n at n0 n1 ⊢
    go_wp2
    refine bodyPost_ret (v := nextV (some p)) ?_ rfl ⟨by rw [HRR.out]; rfl, HG.out _ _⟩
    rw [results_cell_tmp rfl]
    go_simp
    rfl


/-- A row of places, of either type. -/
def RowP (w : World) (v : Value) (xs : List PlaceV) : Prop := (∃ a cap, v = .slice a xs.length cap) ∧ ∀ i (_ : i < xs.length), ∃ b off cap, v = .slice (some ⟨b, off, none⟩) xs.length cap ∧ b < w.heap.size ∧ w.cell? ⟨b, off + i * 2, none⟩ = some (.int .i64 xs[i].flow) ∧ w.cell? ⟨b, off + i * 2 + 1, none⟩ = some (.int .u64 xs[i].gen)
theorem RowP.grows {w w' : World} {v : Value} {xs : List PlaceV} (h : RowP w v xs) (g : Grows w w') : RowP w' v xs := ⟨h.1, fun i hi => by
  obtain ⟨b, off, cap, hv, hb, c0, c1⟩ := h.2 i hi
  exact ⟨b, off, cap, hv, Nat.lt_of_lt_of_le hb g.size, (g.cell hb (fun h => h)).trans c0, (g.cell hb (fun h => h)).trans c1⟩⟩
theorem OwnP.row {w : World} {v : Value} {xs : List PlaceV} (h : OwnP w v xs) : RowP w v xs := ⟨OwnS.form h, fun i hi => by
  obtain ⟨g, off, cap, hv, hg, ⟨c0, c1⟩, _⟩ := h.at i hi
  exact ⟨g, off, cap, hv, hg, c0, c1⟩⟩

theorem src_pl {w : World} {b : Nat} {ty : TypeId} {fr : Nat × Nat} (x : PlaceV) (hb : w.heap[b]? = some (.cells #[.int .i64 x.flow, .int .u64 x.gen] ty fr)) : Src Try.prog 2 26 (.slice (some ⟨b, 0, none⟩) 1 1) 1 (plcells [x]) w := by
  refine Src.ofSlice w Try.underlying26 ⟨b, 0, none⟩ 1 1 _ rfl (fun j u hj => ?_) (plcells_one _)
  have hplain : (⟨b, 0, none⟩ : Addr).add j = ⟨b, 0 + j, none⟩ := by unfold Addr.add; split <;> simp_all
  have : plcells [x] = [.int .i64 x.flow, .int .u64 x.gen] := rfl
  rw [hplain, cell_of_heap hb, ← hj, this, Nat.zero_add]
  simp

set_option maxHeartbeats 4000000 in
theorem ours_any (v : Value) (xs : List PlaceV) (w : World) (h : RowP w v xs) (hl : xs.length ≤ 1048576) :
    Calls Try.prog 7 #[v] w fun e w' => ∃ v', e = .returned v' ∧ OwnP w' v' xs ∧ Grows w w' ∧ ∀ k, v'.ownBlock = some k → w.heap.size ≤ k := by
  obtain ⟨a, c, rfl⟩ := h.1
  have HR := Lib.hid h
  clear h
  go_enter Try.func7, Try.ntmps7
  go_wp2
  go_loopg [3, 4] xs.length (fun k vo c wr => ∃ j : Nat, j ≤ xs.length ∧ k = xs.length - j ∧ c = .int .i64 (j : Nat) ∧ OwnP wr vo (xs.take j) ∧ Grows w wr ∧ ∀ b, vo.ownBlock = some b → w.heap.size ≤ b)
  case atStart => exact ⟨0, by omega, by omega, rfl, OwnS.nil _ _ _, Ext.refl _ _, fun k hk => by simp [Value.ownBlock] at hk⟩
  case round =>
    obtain ⟨j, hj, hk, rfl, ho, hg, hf⟩ := hrel
    have HK := Lib.hid hk
    have HO := Lib.hid (And.intro ho (And.intro hg hf))
    clear hk ho hg hf
    by_cases hlt : j < xs.length
    · have j0 : (0 : Int) ≤ (j : Int) := by omega
      have j1 : (j : Int) < (xs.length : Int) := by omega
      obtain ⟨b, off, cap, e, hb, c0, c1⟩ := (HR.out.grows HO.out.2.1).2 j hlt
      injection e with e1 e2 e3
      subst e1 e3
      clear e2
      obtain ⟨x, hx⟩ : ∃ x, xs[j] = x := ⟨_, rfl⟩
      rw [hx] at c0 c1
      have HX := Lib.hid hx
      clear hx
      have htl : (xs.take j).length = j := by rw [List.length_take]; omega
      have hown : OwnS wr 28 2 u3 j (plcells (xs.take j)) := by have := HO.out.1; unfold OwnP at this; rwa [htl] at this
      have own5 := hown.grows ((Ext.refl (fun _ => False) wr).alloc (.cells #[.int .i64 x.flow, .int .u64 x.gen] 28))
      clear hown
      go_wp2_with (at_builtin; refine wpList_append_ownS rfl (.tmp 11) (.tmp 16) 26 26 rfl 28 (.agg #[.int .i64 0, .int .u64 0]) 2 16 Try.underlying26 infoPl rfl _ _ rfl rfl j (plcells (xs.take j)) own5 1 (plcells [x]) (src_pl x (heap_alloc_new wr _)) (by unfold maxLen; omega) (by omega) ?_)
      intro v' w4 hown4 hgr4 hblk4
      have g5 : Grows wr (wr.alloc (.cells #[.int .i64 x.flow, .int .u64 x.gen] 28)) := (Ext.refl _ _).alloc _
      have e4 : Ext (fun k => u3.ownBlock = some k) (wr.alloc (.cells #[.int .i64 x.flow, .int .u64 x.gen] 28)) w4 := Ext.of_grown hgr4 (fun k hk => hk)
      have g4 : Grows w w4 := ((HO.out.2.1.trans g5).lift.trans e4).mono (fun k hk hh => by have := HO.out.2.2 k hh; omega)
      have b4 : ∀ k, v'.ownBlock = some k → w.heap.size ≤ k := fun k hk => by
        have := HO.out.2.1.size
        rcases hblk4 with h | h
        · exact HO.out.2.2 k (h ▸ hk)
        · rw [h] at hk
          simp only [Option.some.injEq] at hk
          have := g5.size
          omega
      have o4 : OwnP w4 v' (xs.take (j + 1)) := by
        unfold OwnP
        rw [List.take_succ_eq_append_getElem hlt, plcells_append, List.length_append, htl, HX.out]
        exact hown4
      have A := Lib.hid (And.intro o4 (And.intro g4 b4))
      clear o4 g4 b4 e4 g5 hown4 hgr4 hblk4 own5 c0 c1
      go_wp2
      go_roundg (xs.length - (j + 1))
      case measure => have := HK.out; omega
      case rel => exact ⟨j + 1, by omega, rfl, by go_num, A.out⟩
    · have j1 : ¬ (j : Int) < (xs.length : Int) := by omega
      have e : xs.take j = xs := List.take_of_length_le (by omega)
      go_wp2
      go_ret
      exact ⟨_, rfl, e ▸ HO.out.1, HO.out.2⟩


theorem eqGuardR : Try.prog.eqGuardType Try.prog.depth 25 = false := by kernel_rfl
theorem eqR (a b : PlaceV) (w : World) : (binOp .eql 25 (.agg #[.int .i64 a.flow, .int .u64 a.gen]) (.agg #[.int .i64 b.flow, .int .u64 b.gen])).run Try.prog w = .ok (.bool (decide (a = b))) w := by
  have hS : Try.prog.underlying 25 = some (.struct (Try.prog.fieldsOf 25)) := by kernel_rfl
  have hp : Try.prog.stoodInHeld 25 = false := by kernel_rfl
  have u3 := Try.underlying3
  have u23 := Try.underlying23
  rw [run_eql_struct, show (10000 : Nat) = 9999 + 1 from rfl, run_equalIn_agg w 9999 25 _ _ hS hp]
  simp only [Program.fieldsOf, Try.underlying25]
  go_simp
  by_cases h1 : a.flow = b.flow <;> by_cases h2 : a.gen = b.gen
  · have e : a = b := PlaceV.ext' h1 h2
    simp [h1, h2, e]
  · have e : ¬ a = b := fun e => h2 (by rw [e])
    have h3 : ¬ (a.gen : Int) = (b.gen : Int) := by omega
    simp [h1, h3, e]
  · have e : ¬ a = b := fun e => h1 (by rw [e])
    simp [h1, h2, e]
  · have e : ¬ a = b := fun e => h1 (by rw [e])
    simp [h1, h2, e]
theorem neR (a b : PlaceV) (w : World) : (binOp .neq 25 (.agg #[.int .i64 a.flow, .int .u64 a.gen]) (.agg #[.int .i64 b.flow, .int .u64 b.gen])).run Try.prog w = .ok (.bool (!decide (a = b))) w := by
  have h := eqR a b w
  rw [run_eql_struct] at h
  rw [run_neq_struct]
  revert h
  cases hr : (Op.equalIn 10000 25 (.agg #[.int .i64 a.flow, .int .u64 a.gen]) (.agg #[.int .i64 b.flow, .int .u64 b.gen])).run Try.prog w with
  | ok x w' => 
    intro h
    simp only [Result.andThen_ok, Result.ok.injEq, Value.bool.injEq] at h ⊢
    exact ⟨by rw [h.1], h.2⟩
  | _ => intro h; simp [Result.andThen] at h

set_option maxHeartbeats 4000000 in
theorem same_eq (v1 v2 : Value) (xs : List PlaceV) (w : World) (h1 : RowP w v1 xs) (h2 : RowP w v2 xs) (hl : xs.length ≤ 2097152) :
    Calls Try.prog 11 #[v1, v2] w fun e w' => e = .returned (.bool true) ∧ Grows w w' := by
  obtain ⟨a1, k1, rfl⟩ := h1.1
  obtain ⟨a2, k2, rfl⟩ := h2.1
  have HR := Lib.hid (And.intro h1 h2)
  have hgd := eqGuardR
  clear h1 h2
  go_enter Try.func11, Try.ntmps11
  go_wp2
  go_loopg [5] xs.length (fun k c wr => ∃ j : Nat, j ≤ xs.length ∧ k = xs.length - j ∧ c = .int .i64 (j : Nat) ∧ Grows w wr)
  case atStart => exact ⟨0, by omega, by omega, rfl, Ext.refl _ _⟩
  case round =>
    obtain ⟨j, hj, hk, rfl, hg⟩ := hrel
    have HK := Lib.hid (And.intro hk hg)
    clear hk hg
    by_cases hlt : j < xs.length
    · have j0 : (0 : Int) ≤ (j : Int) := by omega
      have j1 : (j : Int) < (xs.length : Int) := by omega
      obtain ⟨b, off, cap, e, hb, c0, c1⟩ := (HR.out.1.grows HK.out.2).2 j hlt
      injection e with e1 e2 e3
      subst e1 e3
      clear e2
      obtain ⟨b', off', cap', e, hb', d0, d1⟩ := (HR.out.2.grows HK.out.2).2 j hlt
      injection e with e1 e2 e3
      subst e1 e3
      clear e2
      generalize xs[j] = x at c0 c1 d0 d1
      have hne := neR x x
      rw [show (!decide (x = x)) = false by simp] at hne
      go_upto_region 6 with fail
      go_quiet (fail)
      clear c0 c1 d0 d1 hne
      go_wp2
      go_roundg (xs.length - (j + 1))
      case measure => have := HK.out.1; omega
      case rel => exact ⟨j + 1, by omega, rfl, by go_num, HK.out.2.trans ⟨rfl, rfl, rfl, Nat.le_refl _, fun _ _ _ => rfl⟩⟩
    · have j1 : ¬ (j : Int) < (xs.length : Int) := by omega
      go_wp2
      go_ret
      exact ⟨rfl, HK.out.2⟩

end Go.Proofs.Ytlejdhgchanilaa
