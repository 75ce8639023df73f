/- sched: slices.Grow, slices.Concat. -/
import Derived.Test.YtlejdhgchanilaaSchedC
import Derived.Lib.AppendZeros
namespace Go.Proofs.Ytlejdhgchanilaa
set_option linter.unusedVariables false
set_option linter.unusedSimpArgs false
open Go.RowKit Go.Sort Go.Lib

theorem plcells_one : ∀ l : List PlaceV, ∀ u ∈ plcells l, u.oneCell' = true
  | [], u, hu => by simp [plcells] at hu
  | a :: r, u, hu => by
    simp only [plcells, List.mem_cons] at hu
    rcases hu with rfl | rfl | hu
    · rfl
    · rfl
    · exact plcells_one r u hu
theorem OwnP.src {w : World} {v : Value} {l : List PlaceV} (h : OwnP w v l) : Src Try.prog 2 26 v l.length (plcells l) w := by
  rcases h.2 with ⟨rfl, h0⟩ | ⟨g, off, cap, cur, rfl, hg, h1, h2, h3, h4⟩
  · obtain rfl := List.eq_nil_of_length_eq_zero h0
    exact Src.ofNil w Try.underlying26 0
  · refine Src.ofSlice w Try.underlying26 ⟨g, off, none⟩ l.length cap _ (plcells_length l) (fun j u hj => ?_) (plcells_one l)
    have hjl := (List.getElem?_eq_some_iff.1 hj).1
    rw [plcells_length] at hjl
    have hplain : (⟨g, off, none⟩ : Addr).add j = ⟨g, off + j, none⟩ := by unfold Addr.add; split <;> simp_all
    rw [hplain, cell_of_heap hg, h4 j hjl, hj]
theorem OwnP.drop {w : World} {g off cap n : Nat} {l : List PlaceV} (h : OwnP w (.slice (some ⟨g, off, none⟩) n cap) l) (m : Nat) (hm : m < l.length) : OwnP w (.slice (some ⟨g, off + m * 2, none⟩) (l.length - m) (cap - m)) (l.drop m) := by
  have hl : (l.drop m).length = l.length - m := by rw [List.length_drop]
  have hp : plcells (l.drop m) = (plcells l).drop (m * 2) := by
    have e : plcells l = plcells (l.take m) ++ plcells (l.drop m) := by rw [← plcells_append, List.take_append_drop]
    rw [e, List.drop_left' (by rw [plcells_length, List.length_take]; omega)]
  rcases h.2 with ⟨h0, _⟩ | ⟨g', off', cap', cur, h0, hg, h1, h2, h3, h4⟩
  · cases h0
  · simp only [Value.slice.injEq, Option.some.injEq, Addr.mk.injEq] at h0
    obtain ⟨⟨rfl, rfl, _⟩, _, rfl⟩ := h0
    refine ⟨by rw [plcells_length], .inr ⟨g, off + m * 2, cap - m, cur, by rw [hl], hg, by omega, by omega, by omega, fun i hi => ?_⟩⟩
    rw [hl] at hi
    rw [hp, List.getElem?_drop, Nat.add_assoc]
    exact h4 (m * 2 + i) (by omega)

theorem infoPl : (Try.prog.info? 28).map (fun i => (i.zero, i.size, i.bytes)) = some (some (.agg #[.int .i64 0, .int .u64 0]), 2, 16) := by kernel_rfl

set_option maxHeartbeats 4000000 in
theorem grow_nil (n : Nat) (h1 : 1 ≤ n) (h2 : n ≤ 4194304) (w : World) : Calls Try.prog 28 #[.slice none 0 0, .int .i64 n] w fun e w' => ∃ cap, e = .returned (.slice (some ⟨w.heap.size, 0, none⟩) 0 cap) ∧ OwnP w' (.slice (some ⟨w.heap.size, 0, none⟩) 0 cap) [] ∧ Grows w w' := by
  obtain ⟨i, hi, hz0, hz1, hz2⟩ := info_parts infoPl
  have hrun := fun ty => run_append_nil_zeros (P := Try.prog) w 26 3 ty 28 i _ .i64 .i64 Try.underlying26 Try.underlying3 hi hz0 n h1 (by rw [hz1]; omega) (by omega) (by rw [hz2]; omega)
  have hge := grownCap_ge w n 0 28
  have hcm : grownCap w n 0 28 ≤ maxLen := grownCap_le_maxLen w n 0 28 (by unfold maxLen; omega)
  have hbl := heap_alloc_new w.drew (.cells (Builtin.zeroCells (Value.agg #[.int .i64 0, .int .u64 0]).cells n ++ Builtin.zeroCells (Value.agg #[.int .i64 0, .int .u64 0]).cells (grownCap w n 0 28 - n)) 28)
  have hsz : (Builtin.zeroCells (Value.agg #[.int .i64 0, .int .u64 0]).cells n ++ Builtin.zeroCells (Value.agg #[.int .i64 0, .int .u64 0]).cells (grownCap w n 0 28 - n)).size = n * 2 + (grownCap w n 0 28 - n) * 2 := by simp [Builtin.zeroCells, Value.cells]
  generalize Builtin.zeroCells (Value.agg #[.int .i64 0, .int .u64 0]).cells n ++ Builtin.zeroCells (Value.agg #[.int .i64 0, .int .u64 0]).cells (grownCap w n 0 28 - n) = cur at hrun hbl hsz
  generalize grownCap w n 0 28 = cap at hrun hge hcm hsz
  have hg : Grows w (w.drew.alloc (.cells cur 28)) := ((Ext.refl _ w).drew).alloc _
  have H := Lib.hid (And.intro hge (And.intro hcm (And.intro hbl (And.intro hsz hg))))
  have HR := Lib.hid hrun
  clear hge hcm hbl hsz hg hrun hi hz0 hz1 hz2
  generalize w.drew.alloc (.cells cur 28) = w2 at H HR
  have n0 : ¬ (n : Int) < 0 := by omega
  have n1 : IntKind.i64.wrap ((n : Int) - 0) = (n : Int) := by rw [IntKind.wrap_i64]; omega
  have n2 : (0 : Int) < (n : Int) := by omega
  have n3 : (0 : Int) ≤ (cap : Int) := by omega
  go_enter Try.func28, Try.ntmps28
  go_wp2_with (at_builtin; refine Lib.wpList_append_run _ rfl (.tmp 20) (.tmp 21) 26 3 rfl _ _ rfl rfl _ _ (HR.out _) ?_)
  all_goals
    go_ret
    refine ⟨cap, rfl, ⟨rfl, .inr ⟨w.heap.size, 0, cap, cur, rfl, H.out.2.2.1, Nat.zero_le _, H.out.2.1, ?_, fun i hi => by simp at hi⟩⟩, H.out.2.2.2.2⟩
    have := H.out.2.2.2.1
    have := H.out.1
    omega

set_option maxHeartbeats 8000000 in
theorem concat_two (b : Nat) (v1 v2 : Value) (l1 l2 : List PlaceV) (w : World) (h1 : OwnP w v1 l1) (h2 : OwnP w v2 l2) (c1 : w.cell? ⟨b, 0, none⟩ = some v1) (c2 : w.cell? ⟨b, 1, none⟩ = some v2) (hb : b < w.heap.size) (hl : 1 ≤ l1.length + l2.length) (hl2 : l1.length + l2.length ≤ 2097152) :
    Calls Try.prog 22 #[.slice (some ⟨b, 0, none⟩) 2 2] w fun e w' => ∃ v', e = .returned v' ∧ OwnP w' v' (l1 ++ l2) ∧ Grows w w' ∧ ∀ k, v'.ownBlock = some k → w.heap.size ≤ k := by
  obtain ⟨a1, k1, rfl⟩ := OwnS.form h1
  obtain ⟨a2, k2, rfl⟩ := OwnS.form h2
  have H := Lib.hid (And.intro h1 (And.intro h2 (And.intro hb (And.intro c1 c2))))
  clear h1 h2 hb
  obtain ⟨n, hn⟩ : ∃ n, l1.length + l2.length = n := ⟨_, rfl⟩
  have w1 : IntKind.i64.wrap (0 + (l1.length : Int)) = (l1.length : Int) := by rw [IntKind.wrap_i64]; omega
  have w2 : IntKind.i64.wrap ((l1.length : Int) + (l2.length : Int)) = (n : Int) := by rw [IntKind.wrap_i64]; omega
  have p1 : ¬ (l1.length : Int) < 0 := by omega
  have p2 : ¬ (n : Int) < 0 := by omega
  go_enter Try.func22, Try.ntmps22
  go_wp2
  refine wp_loop_rounds 3 ?_
  rw [rounds_succ]; go_wp2
  rw [rounds_succ]; go_wp2
  rw [rounds_succ]
  go_wp2_with fail
  refine (grow_nil n (by omega) (by omega) w).mono ?_
  rintro e w3 ⟨cap, rfl, ho3, hg3⟩
  have q1 := (hg3.cell (p := ⟨b, 0, none⟩) H.out.2.2.1 (fun h => h)).trans c1
  have q2 := (hg3.cell (p := ⟨b, 1, none⟩) H.out.2.2.1 (fun h => h)).trans c2
  have H3 := Lib.hid (And.intro ho3 hg3)
  clear c1 c2 ho3 hg3
  go_wp2
  refine wp_loop_rounds 3 ?_
  rw [rounds_succ]
  go_wp2_with (at_builtin; refine wpList_append_ownS rfl (.tmp 31) (.tmp 32) 26 26 rfl 28 (.agg #[.int .i64 0, .int .u64 0]) 2 16 Try.underlying26 infoPl rfl _ _ rfl rfl 0 [] H3.out.1 l1.length (plcells l1) (OwnP.src (H.out.1.grows H3.out.2)) (by unfold maxLen; omega) (by omega) ?_)
  intro v' w4 hown4 hgr4 hblk4
  have e4 : Ext (fun k => k = w.heap.size) w3 w4 := Ext.of_grown hgr4 (fun k hk => (by simpa [Value.ownBlock] using hk.symm))
  have g4 : Grows w w4 := (H3.out.2.lift.trans e4).mono (fun k hk hh => by omega)
  have b4 : ∀ k, v'.ownBlock = some k → w.heap.size ≤ k := fun k hk => by
    have := H3.out.2.size
    rcases hblk4 with h | h
    · rw [h] at hk; simp only [Value.ownBlock, Option.some.injEq] at hk; omega
    · rw [h] at hk; simp only [Option.some.injEq] at hk; omega
  have o4 : OwnP w4 v' l1 := by unfold OwnP; simpa using hown4
  have H4 := Lib.hid (And.intro o4 (And.intro g4 b4))
  have q2 := (g4.cell (p := ⟨b, 1, none⟩) H.out.2.2.1 (fun h => h)).trans H.out.2.2.2.2
  clear q1 hown4 hgr4 hblk4 e4 g4 b4 o4 H3
  go_wp2
  rw [rounds_succ]
  go_wp2_with (at_builtin; refine wpList_append_ownS rfl (.tmp 31) (.tmp 32) 26 26 rfl 28 (.agg #[.int .i64 0, .int .u64 0]) 2 16 Try.underlying26 infoPl rfl _ _ rfl rfl l1.length (plcells l1) H4.out.1 l2.length (plcells l2) (OwnP.src (H.out.2.1.grows H4.out.2.1)) (by unfold maxLen; omega) (by omega) ?_)
  intro v'' w5 hown5 hgr5 hblk5
  have e5 : Ext (fun k => v'.ownBlock = some k) w4 w5 := Ext.of_grown hgr5 (fun k hk => hk)
  have g5 : Grows w w5 := (H4.out.2.1.lift.trans e5).mono (fun k hk hh => by have := H4.out.2.2 k hh; omega)
  have b5 : ∀ k, v''.ownBlock = some k → w.heap.size ≤ k := fun k hk => by
    have := H4.out.2.1.size
    rcases hblk5 with h | h
    · exact H4.out.2.2 k (h ▸ hk)
    · rw [h] at hk; simp only [Option.some.injEq] at hk; omega
  have o5 : OwnP w5 v'' (l1 ++ l2) := by unfold OwnP; rw [plcells_append, List.length_append, hn]; exact hown5
  have H5 := Lib.hid (And.intro o5 (And.intro g5 b5))
  clear q2 hown5 hgr5 hblk5 e5 g5 b5 o5 H4
  go_wp2
  rw [rounds_succ]
  go_wp2
  go_ret
  exact ⟨_, rfl, H5.out⟩

end Go.Proofs.Ytlejdhgchanilaa
