/- The queue: Clear, All. -/
import Derived.Test.YtekdggdnkmkldaaQueueC
import Derived.Deep.LoopGhost
namespace Go.Proofs.Ytekdggdnkmkldaa
set_option linter.unusedVariables false
set_option linter.unusedSimpArgs false
set_option maxRecDepth 1500
open Go.RowKit

/-- Frames in blocks of their own, from block lo on. -/
def FreshFrames (lo : Nat) (w : World) (vs : List Value) (fs : List (List Int)) : Prop :=
  vs.length = fs.length ∧ ∀ (i : Nat) (f : List Int), fs[i]? = some f → ∃ b, vs[i]? = some (Value.slice (some ⟨b, 0, none⟩) f.length f.length) ∧ lo ≤ b ∧ w.heap[b]? = some (.cells (u8s f) 5 (0, 0))
/-- The slice's own block is none of its frames' blocks. -/
def Apart (v : Value) (vs : List Value) (lo : Nat) : Prop := ∀ g, v.ownBlock = some g → lo ≤ g ∧ ∀ (i b l c : Nat), vs[i]? = some (Value.slice (some ⟨b, 0, none⟩) l c) → b ≠ g

theorem fresh_step {lo b : Nat} {wr w1 w3 : World} {v v' : Value} {vs : List Value} {fs : List (List Int)} {f : List Int} {ty : TypeId}
    (hlo : lo ≤ wr.heap.size) (hown : ∀ k, v.ownBlock = some k → k < wr.heap.size) (hf : FreshFrames lo wr vs fs) (ha : Apart v vs lo) (hb : wr.heap.size ≤ b) (hh : w1.heap[b]? = some (.cells (u8s f) 5 (0, 0))) (hg : Grows wr w1)
    (hgr : (w1.alloc (.cells #[.slice (some ⟨b, 0, none⟩) f.length f.length] ty)).grownBy w3 v.ownBlock) (hv' : v'.ownBlock = v.ownBlock ∨ v'.ownBlock = some (w1.heap.size + 1)) :
    FreshFrames lo w3 (vs ++ [.slice (some ⟨b, 0, none⟩) f.length f.length]) (fs ++ [f]) ∧ Apart v' (vs ++ [.slice (some ⟨b, 0, none⟩) f.length f.length]) lo := by
  have hbl := heap_lt hh
  have hsz := hg.size
  have hlen := hf.1
  have step : ∀ k o, w1.heap[k]? = some o → some k ≠ v.ownBlock → w3.heap[k]? = some o := by
    intro k o hk hne
    have hkl := heap_lt hk
    rw [hgr.block k (by simp; omega) hne, Below.heap_alloc _ _ _ hkl]
    exact hk
  have hbv : ∀ k, v.ownBlock = some k → k ≠ b := fun k hk => by have := hown k hk; omega
  constructor
  · refine ⟨by simp [hlen], fun i g hi => ?_⟩
    rcases Nat.lt_or_ge i fs.length with h1 | h1
    · rw [List.getElem?_append_left h1] at hi
      obtain ⟨c, hc, hl, hcc⟩ := hf.2 i g hi
      have hcl := heap_lt hcc
      refine ⟨c, by rw [List.getElem?_append_left (by omega)]; exact hc, hl, step c _ ((hg.block c hcl (fun h => h)).trans hcc) (fun e => ?_)⟩
      exact (ha c e.symm).2 i c _ _ hc rfl
    · rw [List.getElem?_append_right h1] at hi
      obtain rfl : i = fs.length := by
        rcases Nat.lt_or_ge 0 (i - fs.length) with h2 | h2
        · rw [List.getElem?_eq_none (by simp; omega)] at hi; cases hi
        · omega
      simp at hi
      subst hi
      refine ⟨b, by rw [List.getElem?_append_right (by omega)]; simp [hlen], by omega, step b _ hh (fun e => hbv b e.symm rfl)⟩
  · intro g hg'
    have hcase : ∀ (i c l k : Nat), (vs ++ [Value.slice (some ⟨b, 0, none⟩) f.length f.length])[i]? = some (Value.slice (some ⟨c, 0, none⟩) l k) → (vs[i]? = some (Value.slice (some ⟨c, 0, none⟩) l k)) ∨ c = b := by
      intro i c l k hi
      rcases Nat.lt_or_ge i vs.length with h1 | h1
      · rw [List.getElem?_append_left h1] at hi; exact .inl hi
      · rw [List.getElem?_append_right h1] at hi
        rcases Nat.lt_or_ge 0 (i - vs.length) with h2 | h2
        · rw [List.getElem?_eq_none (by simp; omega)] at hi; cases hi
        · rw [show i - vs.length = 0 by omega] at hi
          simp at hi
          exact .inr hi.1.symm
    rcases hv' with e | e
    · rw [e] at hg'
      refine ⟨(ha g hg').1, fun i c l k hi => ?_⟩
      rcases hcase i c l k hi with h1 | h1
      · exact (ha g hg').2 i c l k h1
      · subst h1; exact (hbv g hg').symm
    · rw [e] at hg'
      simp only [Option.some.injEq] at hg'
      subst hg'
      refine ⟨by omega, fun i c l k hi => ?_⟩
      rcases hcase i c l k hi with h1 | h1
      · have hi' : i < fs.length := by have := (List.getElem?_eq_some_iff.1 h1).1; omega
        obtain ⟨c', hc', _, hcc⟩ := hf.2 i _ (List.getElem?_eq_getElem hi')
        rw [h1] at hc'
        simp at hc'
        obtain ⟨rfl, _⟩ := hc'
        have := heap_lt hcc
        omega
      · omega

/-- What All hands out. -/
def AllOut (fs : List (List Int)) (w : World) (e : Ending) (w' : World) : Prop :=
  ∃ v vs, e = .returned v ∧ w'.ownsRow 0 41 1 v fs.length vs ∧ FreshFrames w.heap.size w' vs fs ∧ Apart v vs w.heap.size ∧ Grows w w'

set_option maxHeartbeats 1600000 in
theorem all_any (q p : Nat) (S : Nat → Prop) (fs : List (List Int)) (w : World) (h : QueueAt w q S p fs) :
    Calls Try.prog 60 #[.pointer (some ⟨q, 0, none⟩)] w fun e w' => AllOut fs w e w' := by
  have hlt := h.lt
  have h' := h
  obtain ⟨cur, ty, first, hc, hq, h1, h2, h3, h4⟩ := h'
  have h65 := hc.c65
  have hl := hc.lt
  have HC := Lib.hid hc
  have H4 := Lib.hid h4
  clear hc h4
  go_enter Try.func60, Try.ntmps60
  go_wp2_with fail
  refine (qlen_any q p S _ _ h).mono ?_
  rintro e w' ⟨rfl, rfl⟩
  go_wp2
  go_loopg [3, 7] fs.length (fun k v i wr => ∃ j vs, k = fs.length - j ∧ j ≤ fs.length ∧ i = .int .i64 (j : Nat) ∧ wr.ownsRow 0 41 1 v j vs ∧ FreshFrames w.heap.size wr vs (fs.take j) ∧ Apart v vs w.heap.size ∧ Grows w wr)
  case atStart => exact ⟨0, [], by omega, by omega, rfl, World.ownsRow_nil _ _ _ _, ⟨by simp, fun i f hf => by simp at hf⟩, fun g hg => by simp [Value.ownBlock] at hg, Ext.refl _ _⟩
  case round =>
    obtain ⟨j, vs, hk, hj, rfl, hown, hff, hap, hg0⟩ := hrel
    have HK := Lib.hid hk
    have HO := Lib.hid hown
    have HF := Lib.hid hff
    have HA := Lib.hid hap
    have HG := Lib.hid hg0
    clear hk hown hff hap hg0 h
    by_cases hjl : j < fs.length
    · obtain ⟨u, hu, a, cap, rfl, hb, hfp⟩ := H4.out j fs[j] (List.getElem?_eq_getElem hjl)
      have hs := slot_lt first j
      have hf1 : (0 : Int) ≤ (slot first j : Int) := by omega
      have hf2 : (slot first j : Int) < 64 := by omega
      have k65 := (HG.out.cell (p := ⟨q, 65, none⟩) hlt (fun h => h)).trans h65
      have kcs := ((HG.out.cell (p := ⟨q, slot first j, none⟩) hlt (fun h => h)).trans (HC.out.cell _)).trans hu
      have hqr : q < wr.heap.size := Nat.lt_of_lt_of_le hlt HG.out.size
      have hbr := hb.grows HG.out
      have hqn : some q ≠ u3.ownBlock := fun e => by have := (HA.out q e.symm).1; omega
      clear hb hu
      go_wp2_with fail
      go_region_held3 (fun w' => w'.cell? ⟨q, 65, none⟩ = some (.int .i64 first) ∧ w'.cell? ⟨q, slot first j, none⟩ = some (.slice a fs[j].length cap))
        (first
          | go_keep
          | (go_split_ands
             refine ⟨?_, ?_⟩
             · (rw [World.cell?_of_block (a := ⟨q, 65, none⟩) (hgr3.block q (by simp <;> omega) hqn)]; assumption)
             · (rw [World.cell?_of_block (a := ⟨q, slot first j, none⟩) (hgr3.block q (by simp <;> omega) hqn)]; assumption))
          | (refine ⟨?_, ?_⟩
             · (rw [hg.cell (by simpa using hqr) (fun h => h)]; assumption)
             · (rw [hg.cell (by simpa using hqr) (fun h => h)]; assumption)))
        (first
          | (go_at_call 82; refine (at_any q first j _ ?_ hl (by omega)).mono ?_; (simp [*]); rintro e w' ⟨rfl, rfl⟩)
          | (go_at_call 81; refine (own_any _ fs[j] _ ?_).mono ?_; (exact hbr.grows ⟨rfl, rfl, rfl, Nat.le_refl _, fun _ _ _ => rfl⟩); rintro e w1 ⟨b, hbb, rfl, hh, hg⟩; have hq1 : q < w1.heap.size := Nat.lt_of_lt_of_le hqr hg.size; have ho1 := ownsRow_grows HO.out (w' := w1) ⟨hg.os, hg.tape, hg.output, hg.size, hg.block⟩)
          | (refine step_append_src (by rfl) (.tmp 10) (.tmp 20) 52 52 (by rfl) 41 (.slice none 0 0) 1 24 Try.underlying52 infoBytes rfl u3 _ (by rfl) (by rfl) j vs (ho1.alloc _) 1 [.slice (some ⟨b, 0, none⟩) fs[j].length fs[j].length] (src_one Try.underlying52 (heap_alloc_new w1 _) rfl) (by unfold maxLen; omega) (by omega) ?_; intro v' w3 hown3 hgr3 hblk3))
      have hgg : Grows wr w1 := ⟨hg.os, hg.tape, hg.output, hg.size, hg.block⟩
      obtain ⟨hff3, hap3⟩ := fresh_step (f := fs[j]) HG.out.size (fun k hk => (HO.out.lt k hk).2) HF.out HA.out hbb hh hgg hgr3 (by simpa using hblk3)
      have hg3 : Grows w w3 := by
        have e1 : Ext (fun k => u3.ownBlock = some k) wr w3 := (hgg.alloc _).lift.trans (Ext.of_grown hgr3 (fun k hk => hk))
        exact (HG.out.lift.trans e1).mono (fun k hk hh => by have := (HA.out k hh).1; omega)
      rw [List.take_append_getElem] at hff3
      have A := Lib.hid (And.intro hown3 (And.intro hff3 (And.intro hap3 hg3)))
      clear hown3 hff3 hap3 hg3 hgr3 hblk3 hg hgg hh ho1 hbr kcs
      go_wp2
      go_roundg (fs.length - (j + 1))
      case measure => have := HK.out; omega
      case rel =>
        obtain ⟨a1, a2, a3, a4⟩ := A.out
        exact ⟨j + 1, _, rfl, by omega, by go_num, a1, a2, a3, a4⟩
    · have hjj : j = fs.length := by omega
      go_wp2
      go_ret
      refine ⟨u3, vs, rfl, ?_, ?_, HA.out, HG.out⟩
      · rw [← hjj]; exact HO.out
      · have := HF.out
        rwa [List.take_of_length_le (by omega)] at this
end Go.Proofs.Ytekdggdnkmkldaa
