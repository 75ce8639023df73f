/- sched: Next; ours; same; what the drivers share. -/
import Derived.Test.YtekdggdnkmkldaaSchedF
import Derived.Test.YtekdggdnkmkldaaRead
import Derived.Laws.ResultCell
namespace Go.Proofs.Ytekdggdnkmkldaa
set_option linter.unusedVariables false
set_option linter.unusedSimpArgs false
set_option maxRecDepth 1500
open Go.RowKit Go.Sort Go.Lib

theorem exists_sorted : ∀ l : List PlaceV, ∃ S, Sorted S ∧ ∀ x, x ∈ S ↔ x ∈ l
  | [] => ⟨[], List.Pairwise.nil, fun x => Iff.rfl⟩
  | a :: l => by
    obtain ⟨S, hS, hm⟩ := exists_sorted l
    refine ⟨S.filter (fun x => decide (ltP x a)) ++ a :: S.filter (fun x => decide (ltP a x)), ?_, fun x => ?_⟩
    · refine List.pairwise_append.2 ⟨hS.filter _, List.pairwise_cons.2 ⟨fun y hy => by simpa using (List.mem_filter.1 hy).2, hS.filter _⟩, fun y hy z hz => ?_⟩
      have hya : ltP y a := by simpa using (List.mem_filter.1 hy).2
      rcases List.mem_cons.1 hz with rfl | hz
      · exact hya
      · exact ltP_trans hya (by simpa using (List.mem_filter.1 hz).2)
    · simp only [List.mem_append, List.mem_cons, List.mem_filter, hm, decide_eq_true_eq]
      constructor
      · rintro (⟨h, _⟩ | rfl | ⟨h, _⟩)
        · exact .inr h
        · exact .inl rfl
        · exact .inr h
      · rintro (rfl | h)
        · exact .inr (.inl rfl)
        · rcases ltP_total x a with h2 | h2 | h2
          · exact .inl ⟨h, h2⟩
          · exact .inr (.inl h2)
          · exact .inr (.inr ⟨h, h2⟩)

/-- S: the places of l in their order, each once. -/
def InOrder (S l : List PlaceV) : Prop := Sorted S ∧ ∀ x, x ∈ S ↔ x ∈ l

theorem round_S (v : Value) (l S : List PlaceV) (hS : InOrder S l) (last : PlaceV) (begun : Bool) (w : World) (h : OwnP w v l) (hl : l.length ≤ 1048576) :
    Calls Try.prog 78 #[v, .agg #[.int .i64 last.flow, .int .u64 last.gen], .bool begun] w fun e w' => ∃ v', e = .returned v' ∧ OwnP w' v' (roundP S last begun) ∧ Grows w w' ∧ ∀ k, v'.ownBlock = some k → w.heap.size ≤ k := by
  refine (round_any v l last begun w h hl).mono ?_
  rintro e w' ⟨v', S', rfl, hs, hm, ho, hg, hf⟩
  obtain rfl : S' = S := sorted_unique hs hS.1 (fun x => (hm x).trans (hS.2 x).symm)
  exact ⟨v', rfl, ho, hg, hf⟩

def nextV : Option PlaceV → Value
  | some p => .tuple #[.agg #[.int .i64 p.flow, .int .u64 p.gen], .bool true]
  | none => .tuple #[.agg #[.int .i64 0, .int .u64 0], .bool false]

set_option maxHeartbeats 4000000 in
theorem next_S (v : Value) (l S : List PlaceV) (hS : InOrder S l) (last : PlaceV) (begun : Bool) (w : World) (h : OwnP w v l) (hl : l.length ≤ 1048576) (o : Option PlaceV) (ho : (roundP S last begun).head? = o) :
    Calls Try.prog 41 #[v, .agg #[.int .i64 last.flow, .int .u64 last.gen], .bool begun] w fun e w' => e = .returned (nextV o) ∧ Grows w w' := by
  subst ho
  have c0 := new20 w (.int .i64 last.flow) (.int .u64 last.gen) 31
  have c1 := new21 w (.int .i64 last.flow) (.int .u64 last.gen) 31
  have hg : Grows w (w.alloc (.cells #[.int .i64 last.flow, .int .u64 last.gen] 31)) := (Ext.refl _ w).alloc _
  have H := Lib.hid (And.intro h hg)
  have hz := zeroP
  clear h hg
  go_enter Try.func41, Try.ntmps41
  go_wp2_with fail
  have hg2 : Grows w ((w.alloc (.cells #[.int .i64 last.flow, .int .u64 last.gen] 31)).alloc (.cells #[.int .i64 0, .int .u64 0] 31)) := ((Ext.refl _ w).alloc _).alloc _
  have hb := heap_alloc_new (w.alloc (.cells #[.int .i64 last.flow, .int .u64 last.gen] 31)) (.cells #[.int .i64 0, .int .u64 0] 31 (0, 0))
  rw [show (w.alloc (.cells #[.int .i64 last.flow, .int .u64 last.gen] 31)).heap.size = w.heap.size + 1 by simp] at hb
  generalize (w.alloc (.cells #[.int .i64 last.flow, .int .u64 last.gen] 31)).alloc (.cells #[.int .i64 0, .int .u64 0] 31) = w2 at hg2 hb ⊢
  refine (round_S v l S hS last begun w2 (H.out.1.grows hg2) hl).mono ?_
  rintro e w3 ⟨v', rfl, ho, hg3, _⟩
  obtain ⟨R, hR⟩ : ∃ R, roundP S last begun = R := ⟨_, rfl⟩
  rw [hR] at ho
  have HRR := Lib.hid hR
  clear hR
  have hb3 := (hg3.block _ (heap_lt hb) (fun h => h)).trans hb
  have d0 := cell_of_heap hb3 0
  have d1 := cell_of_heap hb3 1
  have f0 := frozen_of_heap hb3 0
  have f1 := frozen_of_heap hb3 1
  simp at d0 d1
  have H2 := Lib.hid (And.intro ho (hg2.trans hg3))
  obtain ⟨va, vc, rfl⟩ := OwnS.form ho
  clear hg2 hb hg3 ho hb3 c0 c1 H
  have hgs : ∀ x y : Value, Grows w ((w3.setCell ⟨w.heap.size + 1, 0, none⟩ x).setCell ⟨w.heap.size + 1, 1, none⟩ y) := fun x y =>
    Ext.setCell (Ext.setCell H2.out.2 ⟨w.heap.size + 1, 0, none⟩ (.inl (by show w.heap.size ≤ w.heap.size + 1; omega)) x) ⟨w.heap.size + 1, 1, none⟩ (.inl (by show w.heap.size ≤ w.heap.size + 1; omega)) y
  have HG := Lib.hid hgs
  clear hgs
  cases R with
  | nil =>
    go_wp2
    refine bodyPost_ret (v := nextV none) ?_ rfl ⟨by rw [HRR.out]; rfl, HG.out _ _⟩
    rw [results_cell_tmp rfl]
    go_simp
    rfl
  | cons p r =>
    obtain ⟨g, off, cap, e, hgl, ⟨p0, p1⟩, _⟩ := H2.out.1.at 0 (by simp)
    injection e with e1 e2 e3
    subst e1 e3
    clear e2
    simp only [List.getElem_cons_zero, Nat.zero_mul, Nat.add_zero] at p0 p1
    have n0 : ((((p :: r).length : Nat) : Int) == 0) = false := by rw [beq_eq_false_iff_ne, List.length_cons]; omega
    have n1 : (0 : Int) < (((p :: r).length : Nat) : Int) := by rw [List.length_cons]; omega
    generalize (p :: r).length = n at n0 n1 ⊢
    go_wp2
    refine bodyPost_ret (v := nextV (some p)) ?_ rfl ⟨by rw [HRR.out]; rfl, HG.out _ _⟩
    rw [results_cell_tmp rfl]
    go_simp
    rfl


/-- A row of places, of either type. -/
def RowP (w : World) (v : Value) (xs : List PlaceV) : Prop := (∃ a cap, v = .slice a xs.length cap) ∧ ∀ i (_ : i < xs.length), ∃ b off cap, v = .slice (some ⟨b, off, none⟩) xs.length cap ∧ b < w.heap.size ∧ w.cell? ⟨b, off + i * 2, none⟩ = some (.int .i64 xs[i].flow) ∧ w.cell? ⟨b, off + i * 2 + 1, none⟩ = some (.int .u64 xs[i].gen)
theorem RowP.grows {w w' : World} {v : Value} {xs : List PlaceV} (h : RowP w v xs) (g : Grows w w') : RowP w' v xs := ⟨h.1, fun i hi => by
  obtain ⟨b, off, cap, hv, hb, c0, c1⟩ := h.2 i hi
  exact ⟨b, off, cap, hv, Nat.lt_of_lt_of_le hb g.size, (g.cell hb (fun h => h)).trans c0, (g.cell hb (fun h => h)).trans c1⟩⟩
theorem OwnP.row {w : World} {v : Value} {xs : List PlaceV} (h : OwnP w v xs) : RowP w v xs := ⟨OwnS.form h, fun i hi => by
  obtain ⟨g, off, cap, hv, hg, ⟨c0, c1⟩, _⟩ := h.at i hi
  exact ⟨g, off, cap, hv, hg, c0, c1⟩⟩

theorem src_pl {w : World} {b : Nat} {ty : TypeId} {fr : Nat × Nat} (x : PlaceV) (hb : w.heap[b]? = some (.cells #[.int .i64 x.flow, .int .u64 x.gen] ty fr)) : Src Try.prog 2 63 (.slice (some ⟨b, 0, none⟩) 1 1) 1 (plcells [x]) w := by
  refine Src.ofSlice w Try.underlying63 ⟨b, 0, none⟩ 1 1 _ rfl (fun j u hj => ?_) (plcells_one _)
  have hplain : (⟨b, 0, none⟩ : Addr).add j = ⟨b, 0 + j, none⟩ := by unfold Addr.add; split <;> simp_all
  have : plcells [x] = [.int .i64 x.flow, .int .u64 x.gen] := rfl
  rw [hplain, cell_of_heap hb, ← hj, this, Nat.zero_add]
  simp

theorem eqGuardR : Try.prog.eqGuardType Try.prog.depth 74 = false := by kernel_rfl
theorem eqR (a b : PlaceV) (w : World) : (binOp .eql 74 (.agg #[.int .i64 a.flow, .int .u64 a.gen]) (.agg #[.int .i64 b.flow, .int .u64 b.gen])).run Try.prog w = .ok (.bool (decide (a = b))) w := by
  have hS : Try.prog.underlying 74 = some (.struct (Try.prog.fieldsOf 74)) := by kernel_rfl
  have hp : Try.prog.stoodInHeld 74 = false := by kernel_rfl
  have u3 := Try.underlying3
  have u23 := Try.underlying27
  rw [run_eql_struct, show (10000 : Nat) = 9999 + 1 from rfl, run_equalIn_agg w 9999 74 _ _ hS hp]
  simp only [Program.fieldsOf, Try.underlying74]
  go_simp
  by_cases h1 : a.flow = b.flow <;> by_cases h2 : a.gen = b.gen
  · have e : a = b := PlaceV.ext' h1 h2
    simp [h1, h2, e]
  · have e : ¬ a = b := fun e => h2 (by rw [e])
    have h3 : ¬ (a.gen : Int) = (b.gen : Int) := by omega
    simp [h1, h3, e]
  · have e : ¬ a = b := fun e => h1 (by rw [e])
    simp [h1, h2, e]
  · have e : ¬ a = b := fun e => h1 (by rw [e])
    simp [h1, h2, e]
theorem neR (a b : PlaceV) (w : World) : (binOp .neq 74 (.agg #[.int .i64 a.flow, .int .u64 a.gen]) (.agg #[.int .i64 b.flow, .int .u64 b.gen])).run Try.prog w = .ok (.bool (!decide (a = b))) w := by
  have h := eqR a b w
  rw [run_eql_struct] at h
  rw [run_neq_struct]
  revert h
  cases hr : (Op.equalIn 10000 74 (.agg #[.int .i64 a.flow, .int .u64 a.gen]) (.agg #[.int .i64 b.flow, .int .u64 b.gen])).run Try.prog w with
  | ok x w' => 
    intro h
    simp only [Result.andThen_ok, Result.ok.injEq, Value.bool.injEq] at h ⊢
    exact ⟨by rw [h.1], h.2⟩
  | _ => intro h; simp [Result.andThen] at h

end Go.Proofs.Ytekdggdnkmkldaa
