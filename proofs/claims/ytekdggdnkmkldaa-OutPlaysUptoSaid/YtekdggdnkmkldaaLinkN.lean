/- link: NewOut. -/
import Derived.Test.YtekdggdnkmkldaaLinkQ
import Derived.Deep.LoopGhost
import Derived.Deep.RegionLaw
import Derived.Deep.RegionHeld3
namespace Go.Proofs.Ytekdggdnkmkldaa
set_option linter.unusedVariables false
set_option linter.unusedSimpArgs false
set_option maxRecDepth 1500
open Go.RowKit

def newV (life flows : Nat) : OutV := ⟨life, 0, 0, 0, List.replicate flows ⟨0, 0, 0, []⟩, fun _ => 0, ⟨0, 0⟩, false⟩
def OutV.more1 (x : OutV) : OutV := { x with told := x.told ++ [⟨0, 0, 0, []⟩] }
theorem newV_more (life j : Nat) : (newV life j).more1 = newV life (j + 1) := by
  unfold OutV.more1 newV
  rw [← List.replicate_succ']
theorem OutC.addTold {w0 : Frm} {w w1 w4 w5 : World} {o s bm n t : Nat} {vt vt' : Value} {ts : List Nat} {c : Nat → Nat} {x : OutV} (h : OutC w0 w o s bm n vt ts c x) (hlen : x.told.length < 4) (ht : ToldAt w1 t (fun k => k = t) 0 0 0 []) (htb : w.heap.size ≤ t) (g1 : Grows w w1) (g4 : Grows w1 w4)
    (hown : OwnS w5 104 1 vt' (x.told.length + 1) (ptrs ts ++ [.pointer (some ⟨t, 0, none⟩)])) (hgr : w4.grownBy w5 vt.ownBlock) (hblk : vt'.ownBlock = vt.ownBlock ∨ vt'.ownBlock = some w4.heap.size) :
    ∃ c', OutC w0 (w5.setCell ⟨o, 1, none⟩ vt') o s bm n vt' (ts ++ [t]) c' x.more1 := by
  have tl1 := ht.lt
  have s1 := g1.size
  have s4 := g4.size
  have e45 : Ext (fun k => vt.ownBlock = some k) w4 w5 := Ext.of_grown hgr (fun k hk => hk)
  have s5 := e45.size
  have e5o : Ext (fun k => k = o) w5 (w5.setCell ⟨o, 1, none⟩ vt') := Ext.setCell (S := fun k => k = o) (Ext.refl _ _) ⟨o, 1, none⟩ (Or.inr rfl) _
  have e0 : Ext (fun k => vt.ownBlock = some k) w w5 := (g1.trans g4).lift.trans e45
  have ea : Ext (fun k => vt.ownBlock = some k ∨ k = o) w (w5.setCell ⟨o, 1, none⟩ vt') := (e0.mono (fun _ _ h => .inl h)).trans (e5o.mono (fun _ _ h => .inr h))
  have hlt : ∀ k, c k ≠ 0 → k < w.heap.size := fun k hk => (h.lo k hk).2
  have hnew : ∀ k, vt'.ownBlock = some k → (c k = 4 ∧ k < w.heap.size) ∨ (k = w4.heap.size) := fun k hk => by
    rcases hblk with hb | hb
    · rw [hb] at hk
      exact .inl ⟨h.ct k hk, hlt k (by rw [h.ct k hk]; omega)⟩
    · rw [hb] at hk
      simp only [Option.some.injEq] at hk
      exact .inr hk.symm
  have hvlt : ∀ k, vt'.ownBlock = some k → k < w5.heap.size := fun k hk => hown.lt k hk
  have hd : ∀ k d, c k = d → d ≠ 4 → d ≠ 1 → ¬ (vt.ownBlock = some k ∨ k = o) := fun k d hk h2 h3 hh => by
    rcases hh with hh | hh
    · have := h.ct k hh; omega
    · rw [hh, h.co] at hk; omega
  refine ⟨fun k => if k < w.heap.size then c k else if k = t then 5 + x.told.length else if vt'.ownBlock = some k then 4 else 0, ?_⟩
  have hold : ∀ k, c k ≠ 0 → (if k < w.heap.size then c k else if k = t then 5 + x.told.length else if vt'.ownBlock = some k then 4 else 0) = c k := fun k hk => if_pos (hlt k hk)
  obtain ⟨ty, hb⟩ := h.blk
  have hb5 := (e0.block o (heap_lt hb) (fun hh => by have := h.ct o hh; rw [h.co] at this; omega)).trans hb
  have hsz : (w5.setCell ⟨o, 1, none⟩ vt').heap.size = w5.heap.size := by simp
  have hml : x.more1.told.length = x.told.length + 1 := by show (x.told ++ [_]).length = _; rw [List.length_append]; rfl
  refine ⟨⟨ty, setCell_heap hb5 1 vt'⟩, by rw [hold o (by rw [h.co]; omega)]; exact h.co, h.snd.ext ea (hd s 2 h.cs (by omega) (by omega)), by rw [hold s (by rw [h.cs]; omega)]; exact h.cs, h.mq.ext ea (hd bm 3 h.cm (by omega) (by omega)), by rw [hold bm (by rw [h.cm]; omega)]; exact h.cm, ?_, fun k hk => ?_, by rw [hml, List.length_append, h.tl]; rfl, fun i u y h3 h4 => ?_, fun k hk => ?_, by rw [hml]; omega, ?_⟩
  · rw [hml]
    have : ptrs (ts ++ [t]) = ptrs ts ++ [.pointer (some ⟨t, 0, none⟩)] := by unfold ptrs; rw [List.map_append]; rfl
    rw [this]
    refine hown.ext e5o (fun k hk hh => ?_)
    rw [hh] at hk
    rcases hnew o hk with h9 | h9
    · rw [h.co] at h9; omega
    · have := heap_lt hb; omega
  · rcases hnew k hk with h9 | h9
    · rw [hold k (by rw [h9.1]; omega)]; exact h9.1
    · show (if k < w.heap.size then c k else if k = t then 5 + x.told.length else if vt'.ownBlock = some k then 4 else 0) = 4
      rw [if_neg (by omega), if_neg (by omega), if_pos hk]
  · rcases Nat.lt_or_ge i x.told.length with hi | hi
    · rw [List.getElem?_append_left (by rw [h.tl]; exact hi)] at h3
      have h4' : (x.told ++ [(⟨0, 0, 0, []⟩ : ToldV)])[i]? = some y := h4
      rw [List.getElem?_append_left hi] at h4'
      refine ((h.told i u y h3 h4').ext ea (fun k hk => hd k (5 + i) hk (by omega) (by omega))).mono (fun k hk => ?_)
      rw [hold k (by rw [hk]; omega)]; exact hk
    · have hi2 : i = x.told.length := by
        have := (List.getElem?_eq_some_iff.1 h4).1
        rw [hml] at this
        omega
      subst hi2
      rw [List.getElem?_append_right (by rw [h.tl]; exact Nat.le_refl _), h.tl] at h3
      have h4' : (x.told ++ [(⟨0, 0, 0, []⟩ : ToldV)])[x.told.length]? = some y := h4
      rw [List.getElem?_append_right (Nat.le_refl _)] at h4'
      simp only [Nat.sub_self, List.getElem?_cons_zero, Option.some.injEq] at h3 h4'
      subst h3 h4'
      have hto : ¬ t = o := by have := heap_lt hb; omega
      refine ((ht.ext g4 (fun _ _ h => h)).ext ((e45.mono (T := fun k => vt.ownBlock = some k ∨ k = o) (fun _ _ h => .inl h)).trans (e5o.mono (fun _ _ h => .inr h))) (fun k hk hh => ?_)).mono (fun k hk => ?_)
      · subst hk
        rcases hh with hh | hh
        · have := h.ct k hh
          have := hlt k (by omega)
          omega
        · exact hto hh
      · subst hk
        show (if k < w.heap.size then c k else if k = k then 5 + x.told.length else _) = _
        rw [if_neg (by omega), if_pos rfl]
  · rw [hsz]
    by_cases hk1 : k < w.heap.size
    · simp only [hk1, if_true] at hk
      exact ⟨(h.lo k hk).1, by omega⟩
    · simp only [hk1, if_false] at hk
      have hk2 := h.gw.size
      by_cases hk3 : k = t
      · exact ⟨.inl (by omega), by omega⟩
      · rw [if_neg hk3] at hk
        by_cases hk4 : vt'.ownBlock = some k
        · exact ⟨.inl (by omega), hvlt k hk4⟩
        · rw [if_neg hk4] at hk; exact absurd rfl hk
  · exact Frm.step h.gw ea (fun k hh => by
      rcases hh with hh | hh
      · exact (h.lo k (by rw [h.ct k hh]; omega)).1
      · exact hh ▸ (h.lo o (by rw [h.co]; omega)).1)

theorem cell_grow2 {w w' : World} (g : Grows w w') {p : Addr} {v : Value} (h : w.cell? p = some v) : w'.cell? p = some v := by
  have hb : p.block < w.heap.size := by
    rcases Nat.lt_or_ge p.block w.heap.size with h1 | h1
    · exact h1
    · unfold World.cell? at h
      rw [Array.getElem?_eq_none h1] at h
      cases h
  exact (g.cell hb (fun h => h)).trans h
theorem infoTP : (Try.prog.info? 104).map (fun i => (i.zero, i.size, i.bytes)) = some (some (.pointer none), 1, 8) := by kernel_rfl
theorem OutC.first {w w2 : World} {s life : Nat} (h1 : SenderAt w2 s life 0 0 0) (hs : w.heap.size = s) (g : Grows w w2) (ty : TypeId) :
    OutC (Frm.of w) ((w2.alloc (.map #[] 0)).alloc (.cells #[.pointer (some ⟨s, 0, none⟩), .slice none 0 0, .map (some w2.heap.size), .int .i64 0, .int .u64 0, .bool false] ty)) (w2.heap.size + 1) s w2.heap.size 0 (.slice none 0 0) [] (fun k => if k = w2.heap.size + 1 then 1 else if k = s then 2 else if k = w2.heap.size then 3 else 0) (newV life 0) := by
  have hl := h1.lt
  have hg := g.size
  have hb := heap_alloc_new (w2.alloc (.map #[] 0)) (.cells #[.pointer (some ⟨s, 0, none⟩), .slice none 0 0, .map (some w2.heap.size), .int .i64 0, .int .u64 0, .bool false] ty (0, 0))
  rw [show (w2.alloc (.map #[] 0)).heap.size = w2.heap.size + 1 by simp] at hb
  have ga : Grows w2 ((w2.alloc (.map #[] 0)).alloc (.cells #[.pointer (some ⟨s, 0, none⟩), .slice none 0 0, .map (some w2.heap.size), .int .i64 0, .int .u64 0, .bool false] ty)) := ((Ext.refl _ _).alloc _).alloc _
  refine ⟨⟨ty, hb⟩, if_pos rfl, h1.ext ga (fun h => h), ?_, (mapQ_made (E := 27) (q := .u64) w2).ext (S := fun _ => False) ((Ext.refl _ _).alloc _) (fun h => h), ?_, OwnS.nil _ _ _, fun k hk => by simp [Value.ownBlock] at hk, rfl, fun i t v h3 => by simp at h3, fun k hk => ?_, by show (0 : Nat) ≤ 4; omega, g.trans ga⟩
  · show (if s = w2.heap.size + 1 then 1 else if s = s then 2 else _) = 2
    rw [if_neg (by omega), if_pos rfl]
  · show (if w2.heap.size = w2.heap.size + 1 then 1 else if w2.heap.size = s then 2 else if w2.heap.size = w2.heap.size then 3 else 0) = 3
    rw [if_neg (by omega), if_neg (by omega), if_pos rfl]
  · have hsz : ((w2.alloc (.map #[] 0)).alloc (.cells #[.pointer (some ⟨s, 0, none⟩), .slice none 0 0, .map (some w2.heap.size), .int .i64 0, .int .u64 0, .bool false] ty)).heap.size = w2.heap.size + 1 + 1 := by simp
    rw [hsz]
    split at hk
    · exact ⟨.inl (show w.heap.size ≤ k by omega), by omega⟩
    · split at hk
      · exact ⟨.inl (show w.heap.size ≤ k by omega), by omega⟩
      · split at hk
        · exact ⟨.inl (show w.heap.size ≤ k by omega), by omega⟩
        · exact absurd rfl hk
set_option maxHeartbeats 4000000 in
theorem out_new (life flows : Nat) (w : World) (h1 : 1 ≤ life) (h2 : life ≤ Most) (h3 : 1 ≤ flows) (h4 : flows ≤ 4) :
    Calls Try.prog 9 #[.int .u64 life, .int .i64 flows] w fun e w' => ∃ o, e = .returned (.tuple #[.pointer (some ⟨o, 0, none⟩), .int .i64 0]) ∧ OutAt (Frm.of w) w' o 0 (newV life flows) := by
  have i1 : ¬ (flows : Int) < 1 := by omega
  have i2 : ¬ (4 : Int) < (flows : Int) := by omega
  have hmm := @run_makeMap Try.prog
  have HL := Lib.hid (And.intro h1 h2)
  clear h1 h2
  go_enter Try.func9, Try.ntmps9
  go_wp2_with fail
  obtain ⟨s, hs⟩ : ∃ s, w.heap.size = s := ⟨_, rfl⟩
  refine (newSender_ok life w HL.out.1 HL.out.2).mono ?_
  rintro e w2 ⟨rfl, hsn, hg⟩
  rw [hs] at hsn ⊢
  have HF := Lib.hid (OutC.first hsn hs hg)
  clear hsn hs hg
  go_wp2
  have HF2 := Lib.hid (HF.out 103)
  clear HF hmm
  generalize (w2.alloc (.map #[] 0)).alloc (.cells #[.pointer (some ⟨s, 0, none⟩), .slice none 0 0, .map (some w2.heap.size), .int .i64 0, .int .u64 0, .bool false] 103) = w3 at HF2 ⊢
  generalize w2.heap.size + 1 = o at HF2 ⊢
  generalize w2.heap.size = bm at HF2 ⊢
  go_loopg [27] flows (fun k c wr => ∃ (j : Nat) (vt : Value) (ts : List Nat) (cc : Nat → Nat), j ≤ flows ∧ k = flows - j ∧ c = .int .i64 (j : Nat) ∧ OutC (Frm.of w) wr o s bm 0 vt ts cc (newV life j))
  case atStart => exact ⟨0, _, _, _, by omega, by omega, rfl, HF2.out⟩
  case round =>
    obtain ⟨j, vt, ts, cc, hj, hk, rfl, hO⟩ := hrel
    have HK := Lib.hid hk
    clear hk HF2
    by_cases hlt : j < flows
    · have j1 : (j : Int) < (flows : Int) := by omega
      have hjl : (newV life j).told.length = j := by show (List.replicate j _).length = j; rw [List.length_replicate]
      obtain ⟨va, vc, rfl⟩ := hO.row.form
      have c1 := hO.cells.1.2
      obtain ⟨ty, hb⟩ := hO.blk
      have f1 := frozen_of_heap hb 1
      have ho := heap_lt hb
      have hrow := hO.row
      rw [hjl] at c1 hrow
      have HO := Lib.hid (And.intro hO (And.intro hjl (And.intro hrow ho)))
      rw [hjl] at hO
      have hov : ∀ k, (Value.slice va j vc).ownBlock = some k → k ≠ o := fun k hk hh => by rw [← hjl] at hk; have h1 := HO.out.1.ct k hk; have h2 := HO.out.1.co; rw [hh] at h1; omega
      clear hO hb hrow
      go_upto_region 9 with fail
      go_region_law (first
        | (go_simp; go_at_call 36; refine (told_new _).mono ?_; rintro e w9 ⟨rfl, ht9, hg9⟩; have c9 := cell_grow2 hg9 c1; have c9b := cell_grow2 ((Ext.refl (fun _ => False) w9).alloc (.cells #[.pointer (some ⟨wr.heap.size, 0, none⟩)] 104)) c9; have f9 := (World.frozen?_of_block (a := ⟨o, 1, none⟩) (hg9.block o ho (fun h => h))).trans f1)
        | (refine step_append_ownS (by rfl) (.tmp 33) (.tmp 35) 101 101 (by rfl) 104 (.pointer none) 1 8 Try.underlying101 infoTP rfl _ _ (by rfl) (by rfl) j (ptrs ts) (OwnS.grows HO.out.2.2.1 (((Ext.refl (fun _ => False) wr).drew).trans (hg9.alloc _))) 1 [.pointer (some ⟨wr.heap.size, 0, none⟩)] (src_one Try.underlying101 (heap_alloc_new _ _) rfl) (by unfold maxLen; omega) (by omega) ?_; intro v' w5 hown5 hgr5 hblk5; have b5 := (hgr5.block o (Nat.lt_of_lt_of_le ho ((((Ext.refl (fun _ => False) wr).drew).trans (hg9.alloc (.cells #[.pointer (some ⟨wr.heap.size, 0, none⟩)] 104))).size)) (fun hh => hov o hh.symm rfl)); have c5 := (World.cell?_of_block (a := ⟨o, 1, none⟩) b5).trans (cell_grow2 ((Ext.refl (fun _ => False) w9).alloc _) c9); have f5 := (World.frozen?_of_block (a := ⟨o, 1, none⟩) b5).trans ((World.frozen?_of_block (a := ⟨o, 1, none⟩) (((Ext.refl (fun _ => False) w9).alloc _).block o (Nat.lt_of_lt_of_le ho hg9.size) (fun h => h))).trans f9); obtain ⟨qa, qc, rfl⟩ := OwnS.form hown5))
      all_goals
        have hO9 := HO.out.1
        rw [hjl] at hO9
        obtain ⟨c', hA⟩ := hO9.addTold (t := wr.heap.size) (by rw [hjl]; omega) ht9 (Nat.le_refl _) (((Ext.refl _ wr).drew).trans hg9) ((Ext.refl _ _).alloc _) (by rw [hjl]; exact hown5) hgr5 (by simpa using hblk5)
        rw [newV_more] at hA
        have A := Lib.hid hA
        clear hO9 hA hown5 hgr5 hblk5 b5 c5 f5 c9 c9b f9 ht9 hg9 c1 f1
        go_wp2
        go_roundg (flows - (j + 1))
        case measure => have := HK.out; omega
        case rel => exact ⟨j + 1, _, _, _, by omega, rfl, by go_num, A.out⟩
    · have j1 : ¬ (j : Int) < (flows : Int) := by omega
      obtain rfl : j = flows := by omega
      have HO := Lib.hid hO
      clear hO
      go_wp2
      go_ret2
      exact ⟨o, rfl, s, bm, vt, ts, cc, HO.out⟩
theorem newSender_bad (life : Nat) (w : World) (h : ¬ (1 ≤ life ∧ life ≤ Most)) : Calls Try.prog 35 #[.int .u64 life] w fun e w' => e = .returned (.tuple #[.pointer none, .int .i64 1]) ∧ w = w' := newSender_no life w h
theorem out_new_no (life : Nat) (flows : Int) (w : World) (h : ¬ (1 ≤ life ∧ life ≤ Most) ∨ flows < 1 ∨ 4 < flows) :
    Calls Try.prog 9 #[.int .u64 life, .int .i64 flows] w fun e w' => e = .returned (.tuple #[.pointer none, .int .i64 1]) ∧ w = w' := by
  by_cases hf : flows < 1
  · clear h
    go_enter Try.func9, Try.ntmps9
    go_wp2
    go_ret2
    exact ⟨rfl, rfl⟩
  · by_cases hf2 : 4 < flows
    · clear h
      go_enter Try.func9, Try.ntmps9
      go_wp2
      go_ret2
      exact ⟨rfl, rfl⟩
    · have HL := Lib.hid (show ¬ (1 ≤ life ∧ life ≤ Most) by rcases h with h | h | h; exact h; exact absurd h hf; exact absurd h hf2)
      clear h
      go_enter Try.func9, Try.ntmps9
      go_wp2_with fail
      refine (newSender_bad life w HL.out).mono ?_
      rintro e w' ⟨rfl, rfl⟩
      go_wp2
      go_ret2
      exact ⟨rfl, rfl⟩
end Go.Proofs.Ytekdggdnkmkldaa
