/- The document's answer for layer 18: Take, Wants, Same. -/
import Derived.Test.YtpkaddpennafcaaRanksR2
namespace Go.Proofs.Ytpkaddpennafcaa
set_option linter.unusedVariables false
set_option linter.unusedSimpArgs false
open Go.ChangeShapes Go.WideShapes Go.ChangeAt Go.RowKit

theorem Rs.ext2 {S : Nat → Prop} {w w' : World} {v : Value} {l : List RankA} (h : Rs w v l) (g : Ext S w w') (hs : ∀ b, v.ownBlock = some b → l ≠ [] → ¬ S b) : Rs w' v l := by
  by_cases hl : l = []
  · subst hl
    refine ⟨.inl ?_, by simp⟩
    obtain ⟨a, cap, rfl⟩ := h.form
    exact ⟨a, cap, rfl, rfl⟩
  · exact h.ext g (fun b hb _ => hs b hb hl)
theorem Rs.blk {w : World} {v : Value} {l : List RankA} (h : Rs w v l) (hl : l ≠ []) : ∀ b, v.ownBlock = some b → b < w.heap.size := by
  intro b hb
  rcases h.1 with ⟨a, cap, _, h2⟩ | ⟨b', off, cap, rfl, _, _, hb', _⟩
  · exact absurd (List.eq_nil_of_length_eq_zero h2) hl
  · simp only [Value.ownBlock, Option.some.injEq] at hb
    omega
set_option maxHeartbeats 4000000 in
theorem reftake_ok {w : World} {t : Nat} {S : Nat → Prop} {life0 count0 base0 : Nat} {l0 : List RankA} (h : RefT w t S life0 count0 base0 l0) (life count base : Nat) (v : Value) (l : List RankA) (hr : Rs w v l) (hv : ∀ b, v.ownBlock = some b → l ≠ [] → b ≠ t) (hm : mayB life count base l = true) (hb : laterB life count life0 count0 = true) :
    Calls Try.prog 20 #[.pointer (some ⟨t, 0, none⟩), .int .u64 life, .int .u64 count, .int .u64 base, v] w fun e w' => e = .returned (.int .i64 0) ∧ RefT w' t (fun k => S k ∨ w.heap.size ≤ k) life count base l ∧ Ext (fun k => k = t) w w' := by
  have h2 := refmay_any life count base v l w hr
  rw [hm] at h2
  have hlat := fun w => reflater_any life count life0 count0 w
  rw [hb] at hlat
  obtain ⟨ty, vs, hh, _⟩ := h.blk
  have hself := h.own
  have hl0 := heap_lt hh
  have HR := Lib.hid (And.intro hr (And.intro hv hself))
  have hlen := hr.2
  obtain ⟨va, vc, rfl⟩ := hr.form
  clear hr hm hb h hv hself
  go_enter Try.func20, Try.ntmps20
  go_wp2_with fail
  refine h2.mono ?_
  rintro e w9 ⟨rfl, m, rfl⟩
  clear h2
  have hg : Grows w (w.drewN m) := Ext.drewN_r m
  have hh1 := (hg.block t hl0 (fun h => h)).trans hh
  generalize w.drewN m = w1 at hg hh1 ⊢
  have d0 := cell_of_heap hh1 0
  have d1 := cell_of_heap hh1 1
  simp at d0 d1
  go_wp2_with fail
  go_quiet (first | (go_at_call 58; exact quiet_same_r (hlat _)))
  have hg2 : Grows w (w1.drewN nq) := hg.trans (Ext.drewN_r nq)
  have hh2 : (w1.drewN nq).heap[t]? = _ := hh1
  generalize w1.drewN nq = w2 at hg2 hh2 ⊢
  clear hg hh1 d0 d1 hlat hh
  have d0 := cell_of_heap hh2 0
  have d1 := cell_of_heap hh2 1
  have d2 := cell_of_heap hh2 2
  have d3 := cell_of_heap hh2 3
  have f0 := frozen_of_heap hh2 0
  have f1 := frozen_of_heap hh2 1
  have f2 := frozen_of_heap hh2 2
  have f3 := frozen_of_heap hh2 3
  simp at d0 d1 d2 d3
  have k4 := setCell_heap (setCell_heap (setCell_heap (setCell_heap hh2 0 (.int .u64 (life : Int))) 1 (.int .u64 (count : Int))) 2 (.int .u64 (base : Int))) 3 (.slice none 0 0)
  have e4 : Ext (fun k => k = t) w2 ((((w2.setCell ⟨t, 0, none⟩ (.int .u64 (life : Int))).setCell ⟨t, 1, none⟩ (.int .u64 (count : Int))).setCell ⟨t, 2, none⟩ (.int .u64 (base : Int))).setCell ⟨t, 3, none⟩ (.slice none 0 0)) :=
    ((((Ext.refl _ _).setT_r 0 _).setT_r 1 _).setT_r 2 _).setT_r 3 _
  have K4 := Lib.hid k4
  have E4 := Lib.hid (hg2.lift.trans e4)
  clear k4 e4 hg2 hh2
  go_upto_region 9 with fail
  generalize (((w2.setCell ⟨t, 0, none⟩ (.int .u64 (life : Int))).setCell ⟨t, 1, none⟩ (.int .u64 (count : Int))).setCell ⟨t, 2, none⟩ (.int .u64 (base : Int))).setCell ⟨t, 3, none⟩ (.slice none 0 0) = w3 at K4 E4 ⊢
  clear d0 d1 d2 d3 f0 f1 f2 f3
  have d3 := cell_of_heap K4.out 3
  simp at d3
  have hsrc := (HR.out.1.ext2 E4.out (fun b hb hne he => HR.out.2.1 b hb hne he)).src
  have own5 := OwnS.nil w3 39 2
  go_wp2_with (at_builtin; refine wpList_append_ownS rfl (.tmp 48) (.tmp 49) 23 23 rfl 39 (.agg #[.int .u64 0, .int .i64 0]) 2 16 Try.underlying23 infoRank rfl _ _ rfl rfl 0 [] own5 l.length (racells l) hsrc (by unfold maxLen; omega) (by omega) ?_)
  intro v' w6 hown6 hgr6 hblk6
  have hg6 : Grows w3 w6 := (Ext.of_grown (S := fun k => (Value.slice none 0 0).ownBlock = some k) hgr6 (fun _ hk => hk)).mono (fun k hk hh => by simp [Value.ownBlock] at hh)
  have ht3 := heap_lt K4.out
  have hh6 := (hg6.block t ht3 (fun h => h)).trans K4.out
  have d6 := cell_of_heap hh6 3
  have f6 := frozen_of_heap hh6 3
  simp at d6
  have hblk : ∀ b, v'.ownBlock = some b → b = w3.heap.size := by
    intro b hb
    rcases hblk6 with h | h
    · rw [h] at hb; simp [Value.ownBlock] at hb
    · rw [h] at hb; exact (Option.some.inj hb).symm
  have hs3 := E4.out.size
  have A := Lib.hid (And.intro hown6 (And.intro hg6 (And.intro hblk hh6)))
  have H3 := Lib.hid (And.intro ht3 hs3)
  clear hown6 hgr6 hblk6 hg6 hblk hh6 own5 hsrc ht3 hs3 d3
  obtain ⟨vb, vcc, rfl⟩ := OwnS.form A.out.1
  go_wp2
  go_ret
  have k6 := setCell_heap A.out.2.2.2 3 (.slice vb (0 + l.length) vcc)
  have e6 : Ext (fun k => k = t) w6 (w6.setCell ⟨t, 3, none⟩ (.slice vb (0 + l.length) vcc)) := (Ext.refl _ _).setT_r 3 _
  have e7 := (E4.out.trans A.out.2.1.lift).trans e6
  refine ⟨rfl, ⟨⟨ty, .slice vb (0 + l.length) vcc, by simpa using k6, ?_, fun b hb => ?_⟩, .inl HR.out.2.2⟩, by simpa using e7⟩
  · have := A.out.1.ext e6 (fun b hb he => by have := A.out.2.2.1 b (by simpa using hb); have := H3.out.1; omega)
    simpa using this
  · have := A.out.2.2.1 b (by simpa using hb)
    have := H3.out
    exact ⟨.inr (by omega), by omega⟩

theorem refsame_any (a b : Value) (l : List RankA) (w : World) (ha : Rs w a l) (hb : Rs w b l) :
    Calls Try.prog 22 #[a, b] w fun e w' => e = .returned (.bool true) ∧ ∃ m, w' = w.drewN m := by
  obtain ⟨aa, ac, rfl⟩ := ha.form
  obtain ⟨ba, bc, rfl⟩ := hb.form
  have HA := Lib.hid ha
  have HB := Lib.hid hb
  have hlen := ha.2
  clear ha hb
  go_enter Try.func22, Try.ntmps22
  go_wp2
  go_loopg [5] l.length (fun k i wr => ∃ j m : Nat, k = l.length - j ∧ j ≤ l.length ∧ i = .int .i64 (j : Nat) ∧ wr = w.drewN m)
  case atStart => exact ⟨0, 0, by omega, by omega, rfl, rfl⟩
  case round =>
    obtain ⟨j, m, hk, hj, rfl, rfl⟩ := hrel
    have HK := Lib.hid hk
    clear hk
    by_cases hlt : j < l.length
    · obtain ⟨b1, off1, cap1, e, _, hc0, hc1, _⟩ := HA.out.at j hlt
      obtain ⟨b2, off2, cap2, e', _, hd0, hd1, _⟩ := HB.out.at j hlt
      injection e with e1 e2 e3
      subst e1 e3
      clear e2
      injection e' with e1 e2 e3
      subst e1 e3
      clear e2
      have j1 : (0 : Int) ≤ (j : Int) := by omega
      have j2 : (j : Int) < (l.length : Int) := by omega
      obtain ⟨g, hg⟩ : ∃ g, l[j].gen = g := ⟨_, rfl⟩
      obtain ⟨x, hx⟩ : ∃ x, l[j].rank = x := ⟨_, rfl⟩
      rw [hg] at hc0 hd0
      rw [hx] at hc1 hd1
      clear hg hx
      go_wp2_with fail
      go_quiet (fail)
      go_wp2
      go_roundg (l.length - (j + 1))
      case measure => have := HK.out; omega
      case rel => exact ⟨j + 1, _, rfl, by omega, by go_num, rfl⟩
    · have j2 : ¬ (j : Int) < (l.length : Int) := by omega
      go_wp2
      go_ret
      exact ⟨rfl, m, rfl⟩

end Go.Proofs.Ytpkaddpennafcaa
