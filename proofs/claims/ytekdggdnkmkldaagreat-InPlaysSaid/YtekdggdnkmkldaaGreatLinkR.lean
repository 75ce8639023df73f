/- link: the answer's In; an In and the answer's beside a call's row. -/
import Derived.Test.YtekdggdnkmkldaaGreatLinkB
import Derived.Test.YtekdggdnkmkldaaGreatLinkT
import Derived.Test.YtekdggdnkmkldaaGreatQueueR
import Derived.Test.YtekdggdnkmkldaaGreatCreditR2
import Derived.Deep.RegionHeld3
namespace Go.Proofs.YtekdggdnkmkldaaGreat
set_option linter.unusedVariables false
set_option linter.unusedSimpArgs false
set_option maxRecDepth 1500
open Go.RowKit

structure RInC (z : Frm) (w : World) (j q r : Nat) (S : Nat → Prop) (x : InV) : Prop where
  blk : ∃ ty, w.heap[j]? = some (.cells #[.pointer (some ⟨q, 0, none⟩), .pointer (some ⟨r, 0, none⟩)] ty (0, 0))
  qu : RefQ w q S x.places x.fs
  rc : RefR w r x.places x.peer x.gr x.seen
  ni : ¬ S j
  nr : ¬ S r
  ir : j ≠ r
  sm : x.seen ≤ Most
  lo : ∀ k, S k ∨ k = j ∨ k = r → z.ok k ∧ k < w.heap.size
  gw : Ext z.F z.wd w
def RInAt (z : Frm) (w : World) (j q r : Nat) (x : InV) : Prop := ∃ S, RInC z w j q r S x
section
variable {z : Frm} {w w' : World} {j q r : Nat} {S : Nat → Prop} {x : InV}
theorem RInC.sq (h : RInC z w j q r S x) : S q := by
  obtain ⟨vl, F, ty, _, _, h3, _⟩ := h.qu
  exact h3
theorem RInC.full (h : RInC z w j q r S x) : x.fs.length ≤ x.places ∧ 1 ≤ x.places ∧ x.places ≤ 64 := by
  obtain ⟨vl, F, ty, _, _, _, _, _, h6, h7, h8⟩ := h.qu
  exact ⟨h8, h6, h7⟩
theorem RInC.ext {T : Nat → Prop} (h : RInC z w j q r S x) (e : Ext T w w') (hT : ∀ k, S k ∨ k = j ∨ k = r → ¬ T k) (hw : ∀ k, T k → z.ok k) : RInC z w' j q r S x := by
  obtain ⟨ty, hb⟩ := h.blk
  exact ⟨⟨ty, (e.block j (heap_lt hb) (hT j (.inr (.inl rfl)))).trans hb⟩, h.qu.keeps e (fun k hk => hT k (.inl hk)), h.rc.ext e (hT r (.inr (.inr rfl))), h.ni, h.nr, h.ir, h.sm, fun k hk => ⟨(h.lo k hk).1, Nat.lt_of_lt_of_le (h.lo k hk).2 e.size⟩, Frm.step h.gw e hw⟩
theorem RInC.more (h : RInC z w j q r S x) (g : Grows w w') : RInC z w' j q r S x := h.ext g (fun _ _ h => h) (fun _ h => h.elim)
theorem RInC.receiver {peer gr seen : Nat} (h : RInC z w j q r S x) (h1 : RefR w' r x.places peer gr seen) (e : Ext (fun k => k = r) w w') (hs : seen ≤ Most) : RInC z w' j q r S { x with peer := peer, gr := gr, seen := seen } := by
  obtain ⟨ty, hb⟩ := h.blk
  exact ⟨⟨ty, (e.block j (heap_lt hb) h.ir).trans hb⟩, h.qu.keeps e (fun k hk hh => h.nr (hh ▸ hk)), h1, h.ni, h.nr, h.ir, hs, fun k hk => ⟨(h.lo k hk).1, Nat.lt_of_lt_of_le (h.lo k hk).2 e.size⟩, Frm.step h.gw e (fun k hh => hh ▸ (h.lo r (.inr (.inr rfl))).1)⟩
theorem RInC.queue {fs : List (List Int)} (h : RInC z w j q r S x) (h1 : RefQ w' q S x.places fs) (e : Ext (fun k => k = q) w w') : RInC z w' j q r S { x with fs := fs } := by
  obtain ⟨ty, hb⟩ := h.blk
  exact ⟨⟨ty, (e.block j (heap_lt hb) (fun hh => h.ni (hh ▸ h.sq))).trans hb⟩, h1, h.rc.ext e (fun hh => h.nr (hh ▸ h.sq)), h.ni, h.nr, h.ir, h.sm, fun k hk => ⟨(h.lo k hk).1, Nat.lt_of_lt_of_le (h.lo k hk).2 e.size⟩, Frm.step h.gw e (fun k hh => hh ▸ (h.lo q (.inl h.sq)).1)⟩
theorem RInC.pushed {fs : List (List Int)} (h : RInC z w j q r S x) (h1 : RefQ w' q (grownTo S w w') x.places fs) (e : Ext (fun k => k = q) w w') : RInC z w' j q r (grownTo S w w') { x with fs := fs } := by
  obtain ⟨ty, hb⟩ := h.blk
  have hs := e.size
  have hi := (h.lo j (.inr (.inl rfl))).2
  have hr := (h.lo r (.inr (.inr rfl))).2
  have hz := h.gw.size
  exact ⟨⟨ty, (e.block j (heap_lt hb) (fun hh => h.ni (hh ▸ h.sq))).trans hb⟩, h1, h.rc.ext e (fun hh => h.nr (hh ▸ h.sq)),
    fun hh => hh.elim h.ni (fun g => by omega), fun hh => hh.elim h.nr (fun g => by omega), h.ir, h.sm,
    fun k hk => by
      rcases hk with hk | hk
      · rcases hk with hk | hk
        · exact ⟨(h.lo k (.inl hk)).1, Nat.lt_of_lt_of_le (h.lo k (.inl hk)).2 hs⟩
        · exact ⟨.inl (by omega), hk.2⟩
      · exact ⟨(h.lo k (.inr hk)).1, Nat.lt_of_lt_of_le (h.lo k (.inr hk)).2 hs⟩,
    Frm.step h.gw e (fun k hh => hh ▸ (h.lo q (.inl h.sq)).1)⟩
theorem sawS_most (peer seen life seq : Nat) (h : seen ≤ Most) : sawS peer seen life seq ≤ Most := by
  unfold sawS sawE
  by_cases h1 : (1 ≤ life ∧ life ≤ Most) ∧ seq ≤ Most
  · rw [if_pos h1]
    have h3 := h1.2
    by_cases h2 : life < peer
    · rw [if_pos h2, if_neg (by omega)]; exact h
    · rw [if_neg h2, if_pos rfl]
      split <;> omega
  · rw [if_neg h1, if_neg (by omega)]; exact h
theorem RInC.cells (h : RInC z w j q r S x) : (w.cell? ⟨j, 0, none⟩ = some (.pointer (some ⟨q, 0, none⟩)) ∧ w.cell? ⟨j, 1, none⟩ = some (.pointer (some ⟨r, 0, none⟩))) ∧ (w.cell? ⟨q, 0, none⟩ = some (.int .i64 x.places) ∧ ∃ a c, w.cell? ⟨q, 1, none⟩ = some (.slice a x.fs.length c)) ∧ w.cell? ⟨r, 1, none⟩ = some (.int .u64 x.peer) := by
  obtain ⟨ty, hb⟩ := h.blk
  obtain ⟨vl, F, t2, h1, h2, _⟩ := h.qu
  obtain ⟨la, lc, rfl⟩ := h2.form
  obtain ⟨t3, h3⟩ := h.rc
  refine ⟨⟨?_, ?_⟩, ⟨?_, la, lc, ?_⟩, ?_⟩
  · rw [cell_of_heap hb]; rfl
  · rw [cell_of_heap hb]; rfl
  · rw [cell_of_heap h1]; rfl
  · rw [cell_of_heap h1]; rfl
  · rw [cell_of_heap h3]; rfl
theorem rin_new (p : Nat) (w : World) (h1 : 1 ≤ p) (h2 : p ≤ 64) : Calls Tryz.prog 6 #[.int .i64 p] w fun e w' => ∃ j q r, e = .returned (.tuple #[.pointer (some ⟨j, 0, none⟩), .int .i64 0]) ∧ RInAt (Frm.of w) w' j q r ⟨p, [], 0, 0, 0⟩ := by
  have HP := Lib.hid (And.intro h1 h2)
  clear h1 h2
  go_enter Tryz.func6, Tryz.ntmps6
  go_wp2_with fail
  refine (refq_new p w HP.out.1 HP.out.2).mono ?_
  rintro e w1 ⟨rfl, hq, g1⟩
  have HQ := Lib.hid (And.intro hq g1)
  clear hq g1
  go_wp2_with fail
  refine (ref_newR_ok p w1 HP.out.1 HP.out.2).mono ?_
  rintro e w2 ⟨rfl, hr, g2⟩
  have HR := Lib.hid (And.intro hr g2)
  clear hr g2
  go_wp2
  go_ret2
  have g3 : Grows w2 (w2.alloc (.cells #[.pointer (some ⟨w.heap.size, 0, none⟩), .pointer (some ⟨w1.heap.size, 0, none⟩)] 43)) := (Ext.refl _ _).alloc _
  have l1 := HQ.out.1.lt
  have l2 := HR.out.1.lt
  have l3 := HQ.out.2.size
  have l4 := HR.out.2.size
  have hn := heap_alloc_new w2 (.cells #[.pointer (some ⟨w.heap.size, 0, none⟩), .pointer (some ⟨w1.heap.size, 0, none⟩)] 43)
  have l5 := heap_lt hn
  refine ⟨_, _, _, rfl, _, ⟨_, hn⟩, (HQ.out.1.grows HR.out.2).grows g3, HR.out.1.ext g3 (fun h => h), ?_, ?_, ?_, by show 0 ≤ Most; omega, fun k hk => ?_, (HQ.out.2.trans HR.out.2).trans g3⟩
  · show ¬ w2.heap.size = w.heap.size; omega
  · show ¬ w1.heap.size = w.heap.size; omega
  · show w2.heap.size ≠ w1.heap.size; omega
  · rcases hk with rfl | rfl | rfl
    · exact ⟨.inl (Nat.le_refl _), by omega⟩
    · exact ⟨.inl (show w.heap.size ≤ w2.heap.size by omega), by omega⟩
    · exact ⟨.inl (show w.heap.size ≤ w1.heap.size by omega), by omega⟩
theorem rin_new_no (p : Int) (w : World) (h : p < 1 ∨ 64 < p) : Calls Tryz.prog 6 #[.int .i64 p] w fun e w' => e = .returned (.tuple #[.pointer none, .int .i64 1]) ∧ w = w' := by
  have HN := Lib.hid (refq_new_no p w h)
  clear h
  go_enter Tryz.func6, Tryz.ntmps6
  go_wp2_with fail
  refine HN.out.mono ?_
  rintro e w' ⟨rfl, rfl⟩
  go_wp2
  go_ret2
  exact ⟨rfl, rfl⟩
set_option maxHeartbeats 1000000 in
theorem rin_data_arg (life seq : Nat) (v : Value) (hb : ¬ (1 ≤ life ∧ life ≤ Most) ∨ ¬ seq ≤ Most) : Calls Tryz.prog 8 #[.pointer (some ⟨j, 0, none⟩), .int .u64 life, .int .u64 seq, v] w fun e w' => e = .returned (.int .i64 1) ∧ w = w' := by
  have hb' : life = 0 ∨ (life ≠ 0 ∧ Most < life) ∨ (life ≠ 0 ∧ ¬ Most < life ∧ Most < seq) := by omega
  clear hb
  unfold Most at hb'
  rcases hb' with h1 | ⟨h1, h2⟩ | ⟨h1, h2, h3⟩
  · subst h1
    go_enter Tryz.func8, Tryz.ntmps8
    go_wp2
    go_ret
    exact ⟨rfl, rfl⟩
  · have i1 : ((life : Int) == 0) = false := by simp; omega
    have i2 : ((1125899906842624 : Int) < (life : Int)) = True := eq_true (by omega)
    clear h1 h2
    go_enter Tryz.func8, Tryz.ntmps8
    go_wp2
    go_ret
    exact ⟨rfl, rfl⟩
  · have i1 : ((life : Int) == 0) = false := by simp; omega
    have i2 : ((1125899906842624 : Int) < (life : Int)) = False := eq_false (by omega)
    have i3 : ((1125899906842624 : Int) < (seq : Int)) = True := eq_true (by omega)
    clear h1 h2 h3
    go_enter Tryz.func8, Tryz.ntmps8
    go_wp2
    go_ret
    exact ⟨rfl, rfl⟩
set_option maxHeartbeats 1000000 in
theorem rin_data_old (h : RInC z w j q r S x) (life seq : Nat) (v : Value) (h1 : 1 ≤ life) (h2 : life ≤ Most) (h3 : seq ≤ Most) (hlt : life < x.peer) : Calls Tryz.prog 8 #[.pointer (some ⟨j, 0, none⟩), .int .u64 life, .int .u64 seq, v] w fun e w' => e = .returned (.int .i64 22) ∧ w = w' := by
  have c0 := h.cells.1.1
  have c1 := h.cells.1.2
  have c2 := h.cells.2.2
  have i1 : ((life : Int) == 0) = false := by simp; omega
  have i2 : ((1125899906842624 : Int) < (life : Int)) = False := eq_false (by unfold Most at h2; omega)
  have i3 : ((1125899906842624 : Int) < (seq : Int)) = False := eq_false (by unfold Most at h3; omega)
  have i4 : ((life : Int) < (x.peer : Int)) = True := eq_true (by omega)
  clear h h1 h2 h3 hlt
  go_enter Tryz.func8, Tryz.ntmps8
  go_wp2
  go_ret
  exact ⟨rfl, rfl⟩
set_option maxHeartbeats 1000000 in
theorem rin_data_go (h : RInC z w j q r S x) (life seq : Nat) (v : Value) (xs : List Int) (hb : Bytes w v xs) (h1 : 1 ≤ life) (h2 : life ≤ Most) (h3 : seq ≤ Most) (hlt : ¬ life < x.peer) (E : Int) (hE : (if 70000 < xs.length then 3 else if x.fs.length < x.places then 0 else 7 : Int) = E) :
    Calls Tryz.prog 8 #[.pointer (some ⟨j, 0, none⟩), .int .u64 life, .int .u64 seq, v] w fun e w' => e = .returned (.int .i64 E) ∧ RInAt z w' j q r (if E = 0 then InV.saw { x with fs := x.fs ++ [xs] } life seq else x) := by
  have c0 := h.cells.1.1
  have c1 := h.cells.1.2
  have c2 := h.cells.2.2
  have i1 : ((life : Int) == 0) = false := by simp; omega
  have i2 : ((1125899906842624 : Int) < (life : Int)) = False := eq_false (by unfold Most at h2; omega)
  have i3 : ((1125899906842624 : Int) < (seq : Int)) = False := eq_false (by unfold Most at h3; omega)
  have i4 : ((life : Int) < (x.peer : Int)) = False := eq_false (by omega)
  have HP := Lib.hid (refq_push q _ _ _ v xs w h.qu hb)
  have hs : sawE x.peer life seq = 0 := by unfold sawE; rw [if_pos ⟨⟨h1, h2⟩, h3⟩, if_neg hlt]
  have HH := Lib.hid (And.intro h (And.intro hE hs))
  clear h h1 h2 h3 hlt hb hE hs
  go_enter Tryz.func8, Tryz.ntmps8
  go_wp2_with fail
  refine HP.out.mono ?_
  rintro e w' (⟨hl, rfl, g⟩ | ⟨hl, hf, rfl, g⟩ | ⟨hl, hf, rfl, hq, e1⟩)
  · have hE3 : E = 3 := by rw [← HH.out.2.1, if_pos hl]
    subst hE3
    have HR := Lib.hid (HH.out.1.more g)
    clear hl g c0 c1 c2
    go_wp2
    go_ret
    exact ⟨rfl, S, HR.out⟩
  · have hE3 : E = 7 := by rw [← HH.out.2.1, if_neg (by omega), if_neg (by omega)]
    subst hE3
    have HR := Lib.hid (HH.out.1.more g)
    clear hl hf g c0 c1 c2
    go_wp2
    go_ret
    exact ⟨rfl, S, HR.out⟩
  · have hE3 : E = 0 := by rw [← HH.out.2.1, if_neg (by omega), if_pos hf]
    subst hE3
    have HR := Lib.hid (HH.out.1.pushed hq e1)
    have c1' := HR.out.cells.1.2
    clear hl hf hq e1 c0 c1 c2
    go_wp2_with fail
    refine (ref_saw w' r _ _ _ _ life seq HR.out.rc).mono ?_
    rintro e w2 ⟨rfl, h1, e1⟩
    have HX := Lib.hid (HR.out.receiver h1 e1 (sawS_most _ _ _ _ HR.out.sm))
    rw [HH.out.2.2]
    clear h1 e1 c1'
    go_wp2
    go_ret
    exact ⟨rfl, _, HX.out⟩
theorem rin_data (h : RInAt z w j q r x) (life seq : Nat) (v : Value) (xs : List Int) (hb : Bytes w v xs) (E : Int) (hE : dataE x life seq xs.length = E) :
    Calls Tryz.prog 8 #[.pointer (some ⟨j, 0, none⟩), .int .u64 life, .int .u64 seq, v] w fun e w' => e = .returned (.int .i64 E) ∧ RInAt z w' j q r (x.data life seq xs) := by
  obtain ⟨S, h⟩ := h
  subst hE
  unfold InV.data
  by_cases h1 : (1 ≤ life ∧ life ≤ Most) ∧ seq ≤ Most
  · by_cases h2 : life < x.peer
    · have hE : dataE x life seq xs.length = 22 := by unfold dataE; rw [if_pos h1, if_pos h2]
      rw [hE]
      refine (rin_data_old h life seq v h1.1.1 h1.1.2 h1.2 h2).mono ?_
      rintro e w' ⟨rfl, rfl⟩
      exact ⟨rfl, S, h⟩
    · refine (rin_data_go h life seq v xs hb h1.1.1 h1.1.2 h1.2 h2 (dataE x life seq xs.length) (by unfold dataE; rw [if_pos h1, if_neg h2])).mono ?_
      rintro e w' ⟨rfl, h3⟩
      exact ⟨rfl, h3⟩
  · have hE : dataE x life seq xs.length = 1 := by unfold dataE; rw [if_neg h1]
    rw [hE]
    refine (rin_data_arg life seq v (by omega)).mono ?_
    rintro e w' ⟨rfl, rfl⟩
    exact ⟨rfl, S, h⟩
set_option maxHeartbeats 1000000 in
theorem rin_grant (h : RInAt z w j q r x) (fr : Nat) (hfr : x.fs.length + fr = x.places) (G : Nat) (hG : grantG x.gr x.seen fr = G) : Calls Tryz.prog 15 #[.pointer (some ⟨j, 0, none⟩)] w fun e w' => e = .returned (.tuple #[.int .u64 (G : Nat), .int .i64 0]) ∧ RInAt z w' j q r { x with gr := G } := by
  obtain ⟨S, h⟩ := h
  have hcc := h.cells
  have hf := h.full
  have HH := Lib.hid (And.intro h (And.intro hfr hG))
  have HL := Lib.hid (And.intro (h.lo j (.inr (.inl rfl))).2 (And.intro (h.lo q (.inl h.sq)).2 (And.intro h.ir (show q ≠ r from fun hh => h.nr (hh ▸ h.sq)))))
  have i1 : (x.places : Int) - (x.fs.length : Int) = (fr : Int) := by omega
  have i2 : x.places ≤ 64 := hf.2.2
  have i3 : x.fs.length ≤ 64 := by omega
  have i4 : fr ≤ 64 := by omega
  have hw : IntKind.i64.wrap (fr : Int) = (fr : Int) := by rw [IntKind.wrap_i64]; omega
  clear h hfr hG
  obtain ⟨⟨c0, c1⟩, ⟨c2, a, c, c3⟩, c4⟩ := hcc
  have HC := Lib.hid (And.intro c0 (And.intro c1 (And.intro c2 c3)))
  go_enter Tryz.func15, Tryz.ntmps15
  go_upto_region 1 with fail
  go_region_held3 (fun w' => w'.cell? ⟨j, 0, none⟩ = some (.pointer (some ⟨q, 0, none⟩)) ∧ w'.cell? ⟨j, 1, none⟩ = some (.pointer (some ⟨r, 0, none⟩)) ∧ w'.cell? ⟨q, 0, none⟩ = some (.int .i64 x.places) ∧ w'.cell? ⟨q, 1, none⟩ = some (.slice a x.fs.length c))
    (first
      | go_keep
      | exact ⟨(e1.cell (p := ⟨j, 0, none⟩) HL.out.1 HL.out.2.2.1).trans HC.out.1, (e1.cell (p := ⟨j, 1, none⟩) HL.out.1 HL.out.2.2.1).trans HC.out.2.1, (e1.cell (p := ⟨q, 0, none⟩) HL.out.2.1 HL.out.2.2.2).trans HC.out.2.2.1, (e1.cell (p := ⟨q, 1, none⟩) HL.out.2.1 HL.out.2.2.2).trans HC.out.2.2.2⟩)
    (first
      | (go_at_call 37; with_reducible refine (ref_grant_ok _ r _ _ _ _ fr (show RInC z w.drew j q r S x from HH.out.1.more (Ext.drewN_r 1)).rc (by have := HH.out.2.1; omega) i2 HH.out.1.sm G HH.out.2.2).mono ?_; rintro e w'' ⟨rfl, h1, e1⟩))
  all_goals
    have A := Lib.hid ((show RInC z w.drew j q r S x from HH.out.1.more (Ext.drewN_r 1)).receiver h1 e1 HH.out.1.sm)
    clear h1 e1 c0 c1 c2 c3 c4
    go_wp2
    go_ret2
    exact ⟨rfl, S, A.out⟩
end
theorem parts_rin (j q r : Nat) (x : InV) : Parts (fun z w => RInAt z w j q r x) where
  base := fun h => by
    obtain ⟨S, h⟩ := h
    exact ⟨fun k => S k ∨ k = j ∨ k = r, ⟨S, ⟨h.blk, h.qu, h.rc, h.ni, h.nr, h.ir, h.sm, fun k hk => ⟨.inr hk, (h.lo k hk).2⟩, Ext.refl _ _⟩⟩, fun k hk => h.lo k hk⟩
  gw := fun h => by
    obtain ⟨S, h⟩ := h
    exact h.gw
  kept := fun {w w' F T} h e hT => by
    obtain ⟨S, h⟩ := h
    have hf : ∀ k, S k ∨ k = j ∨ k = r → F k := fun k hk => (h.lo k hk).1.elim (fun g => absurd (h.lo k hk).2 (Nat.not_lt.2 g)) id
    obtain ⟨ty, hb⟩ := h.blk
    exact ⟨S, ⟨⟨ty, (e.block j (heap_lt hb) (hT j (hf j (.inr (.inl rfl))))).trans hb⟩, h.qu.keeps e (fun k hk => hT k (hf k (.inl hk))), h.rc.ext e (hT r (hf r (.inr (.inr rfl)))), h.ni, h.nr, h.ir, h.sm, fun k hk => ⟨.inr (hf k hk), Nat.lt_of_lt_of_le (h.lo k hk).2 e.size⟩, Ext.refl _ _⟩⟩
  lift := fun {z w w' F} h hF g => by
    obtain ⟨S, h⟩ := h
    exact ⟨S, ⟨h.blk, h.qu, h.rc, h.ni, h.nr, h.ir, h.sm, fun k hk => ⟨Frm.okOf (h.lo k hk).1 hF g, (h.lo k hk).2⟩, Frm.step g h.gw hF⟩⟩

def InO (i : Nat) (x : InV) : Frm → World → Prop := fun z w => InAt z w i x
def RInO (j q r : Nat) (x : InV) : Frm → World → Prop := fun z w => RInAt z w j q r x
theorem parts_ino (i : Nat) (x : InV) : Parts (InO i x) := parts_in i x
theorem parts_rino (j q r : Nat) (x : InV) : Parts (RInO j q r x) := parts_rin j q r x
/-- Bytes that the call owns. -/
def BytesO (v : Value) (f : List Int) : Frm → World → Prop := fun z w => Bytes w v f ∧ (∀ k, v.ownBlock = some k ∧ f ≠ [] → z.ok k ∧ k < w.heap.size) ∧ Ext z.F z.wd w
theorem parts_bytes (v : Value) (f : List Int) : Parts (BytesO v f) where
  base := fun {z w} h => ⟨fun k => v.ownBlock = some k ∧ f ≠ [], ⟨h.1, fun k hk => ⟨.inr hk, (h.2.1 k hk).2⟩, Ext.refl _ _⟩, fun k hk => h.2.1 k hk⟩
  gw := fun h => h.2.2
  kept := fun {w w' F T} h e hT => by
    have hf : ∀ k, v.ownBlock = some k ∧ f ≠ [] → F k := fun k hk => (h.2.1 k hk).1.elim (fun g => absurd (h.2.1 k hk).2 (Nat.not_lt.2 g)) id
    exact ⟨h.1.ext2 e (fun k hk hn => hT k (hf k ⟨hk, hn⟩)), fun k hk => ⟨.inr (hf k hk), Nat.lt_of_lt_of_le (h.2.1 k hk).2 e.size⟩, Ext.refl _ _⟩
  lift := fun h hF g => ⟨h.1, fun k hk => ⟨Frm.okOf (h.2.1 k hk).1 hF g, (h.2.1 k hk).2⟩, Frm.step g h.2.2 hF⟩
section
variable {A B A' B' : Frm → World → Prop} {z : Frm} {w w' : World}
theorem Star.opLx {ι : Type} {A' : ι → Frm → World → Prop} (h : Star A B z w) (pa' : ∀ i, Parts (A' i)) (pb : Parts B) {P : Program} {f : Nat} {args : Array Value} {Q : ι → Ending → World → Prop} (op : ∀ z, A z w → Calls P f args w fun e w' => ∃ i, Q i e w' ∧ A' i z w') : Calls P f args w fun e w' => ∃ i, Q i e w' ∧ Star (A' i) B z w' := by
  obtain ⟨F, G, h1, h2, h3, h4, h5⟩ := h
  refine (op _ h1).mono ?_
  rintro e w' ⟨i, q, a⟩
  exact ⟨i, q, Star.stepL (pa' i) pb h2 h3 h4 h5 a⟩
def PPg (A B : Frm → World → Prop) (b : Nat) (o : Obj) (w wr : World) : Prop := Star (Star A B) (Blk b o) (Frm.of w) wr
variable {b : Nat} {o : Obj} {wr : World}
theorem PPg.more (pa : Parts A) (pb : Parts B) (h : PPg A B b o w wr) (g : Grows wr w') : PPg A B b o w w' := (parts_star (parts_star pa pb) (parts_blk b o)).more h g
theorem PPg.blk (h : PPg A B b o w wr) : wr.heap[b]? = some o := (Star.r (parts_blk b o) h).1
theorem PPg.both (pa : Parts A) (pb : Parts B) (h : PPg A B b o w wr) : Star A B (Frm.of w) wr := Star.l (parts_star pa pb) h
theorem PPg.fst (pa : Parts A) (pb : Parts B) (h : PPg A B b o w wr) : A (Frm.of w) wr := Star.l pa (h.both pa pb)
theorem PPg.snd (pa : Parts A) (pb : Parts B) (h : PPg A B b o w wr) : B (Frm.of w) wr := Star.r pb (h.both pa pb)
theorem PPg.grows (pa : Parts A) (pb : Parts B) (h : PPg A B b o w wr) : Grows w wr := pa.gw (h.fst pa pb)
theorem PPg.opA (h : PPg A B b o w wr) (pa' : Parts A') (pb : Parts B) {P : Program} {f : Nat} {args : Array Value} {Q : Ending → World → Prop} (op : ∀ z, A z wr → Calls P f args wr fun e w' => Q e w' ∧ A' z w') : Calls P f args wr fun e w' => Q e w' ∧ PPg A' B b o w w' :=
  Star.opL (A' := Star A' B) h (parts_star pa' pb) (parts_blk b o) (fun _ h => h.opL pa' pb op)
theorem PPg.opB (h : PPg A B b o w wr) (pa : Parts A) (pb' : Parts B') {P : Program} {f : Nat} {args : Array Value} {Q : Ending → World → Prop} (op : ∀ z, B z wr → Calls P f args wr fun e w' => Q e w' ∧ B' z w') : Calls P f args wr fun e w' => Q e w' ∧ PPg A B' b o w w' :=
  Star.opL (A' := Star A B') h (parts_star pa pb') (parts_blk b o) (fun _ h => h.opR pa pb' op)
theorem PPg.opAx {ι : Type} {A' : ι → Frm → World → Prop} (h : PPg A B b o w wr) (pa' : ∀ i, Parts (A' i)) (pb : Parts B) {P : Program} {f : Nat} {args : Array Value} {Q : ι → Ending → World → Prop} (op : ∀ z, A z wr → Calls P f args wr fun e w' => ∃ i, Q i e w' ∧ A' i z w') : Calls P f args wr fun e w' => ∃ i, Q i e w' ∧ PPg (A' i) B b o w w' :=
  Star.opLx (A' := fun i => Star (A' i) B) h (fun i => parts_star (pa' i) pb) (parts_blk b o) (fun _ h => h.opLx pa' pb op)
end
section
variable {w wr : World} {b i j q r : Nat} {o : Obj} {x y : InV} {B : Frm → World → Prop} {A : Frm → World → Prop}
theorem pp_data (h : PPg (InO i x) B b o w wr) (pb : Parts B) (life seq : Nat) (v : Value) (xs : List Int) (hb : Bytes wr v xs) (E : Int) (hE : dataE x life seq xs.length = E) : Calls Tryz.prog 7 #[.pointer (some ⟨i, 0, none⟩), .int .u64 life, .int .u64 seq, v] wr fun e w' => e = .returned (.int .i64 E) ∧ PPg (InO i (x.data life seq xs)) B b o w w' :=
  h.opA (parts_ino _ _) pb (fun _ h => in_data h life seq v xs hb E hE)
theorem pp_rdata (h : PPg A (RInO j q r y) b o w wr) (pa : Parts A) (life seq : Nat) (v : Value) (xs : List Int) (hb : Bytes wr v xs) (E : Int) (hE : dataE y life seq xs.length = E) : Calls Tryz.prog 8 #[.pointer (some ⟨j, 0, none⟩), .int .u64 life, .int .u64 seq, v] wr fun e w' => e = .returned (.int .i64 E) ∧ PPg A (RInO j q r (y.data life seq xs)) b o w w' :=
  h.opB pa (parts_rino _ _ _ _) (fun _ h => rin_data h life seq v xs hb E hE)
theorem pp_probe (h : PPg (InO i x) B b o w wr) (pb : Parts B) (life seq : Nat) (E : Int) (hE : sawE x.peer life seq = E) : Calls Tryz.prog 9 #[.pointer (some ⟨i, 0, none⟩), .int .u64 life, .int .u64 seq] wr fun e w' => e = .returned (.int .i64 E) ∧ PPg (InO i (x.saw life seq)) B b o w w' :=
  h.opA (parts_ino _ _) pb (fun _ h => at_probe h life seq E hE)
theorem rin_saw {z : Frm} (h : RInAt z wr j q r y) (life seq : Nat) (E : Int) (hE : sawE y.peer life seq = E) : Calls Tryz.prog 10 #[.pointer (some ⟨r, 0, none⟩), .int .u64 life, .int .u64 seq] wr fun e w' => e = .returned (.int .i64 E) ∧ RInAt z w' j q r (y.saw life seq) := by
  obtain ⟨S, h⟩ := h
  subst hE
  refine (ref_saw wr r _ _ _ _ life seq h.rc).mono ?_
  rintro e w' ⟨rfl, h1, e1⟩
  exact ⟨rfl, S, h.receiver h1 e1 (sawS_most _ _ _ _ h.sm)⟩
theorem pp_rsaw (h : PPg A (RInO j q r y) b o w wr) (pa : Parts A) (life seq : Nat) (E : Int) (hE : sawE y.peer life seq = E) : Calls Tryz.prog 10 #[.pointer (some ⟨r, 0, none⟩), .int .u64 life, .int .u64 seq] wr fun e w' => e = .returned (.int .i64 E) ∧ PPg A (RInO j q r (y.saw life seq)) b o w w' :=
  h.opB pa (parts_rino _ _ _ _) (fun _ h => rin_saw h life seq E hE)
theorem pp_grant (h : PPg (InO i x) B b o w wr) (pb : Parts B) (fr : Nat) (hfr : x.fs.length + fr = x.places) (G : Nat) (hG : grantG x.gr x.seen fr = G) : Calls Tryz.prog 14 #[.pointer (some ⟨i, 0, none⟩)] wr fun e w' => e = .returned (.tuple #[.int .u64 (G : Nat), .int .i64 0]) ∧ PPg (InO i { x with gr := G }) B b o w w' :=
  h.opA (parts_ino _ _) pb (fun _ h => at_grant h fr hfr G hG)
theorem pp_rgrant (h : PPg A (RInO j q r y) b o w wr) (pa : Parts A) (fr : Nat) (hfr : y.fs.length + fr = y.places) (G : Nat) (hG : grantG y.gr y.seen fr = G) : Calls Tryz.prog 15 #[.pointer (some ⟨j, 0, none⟩)] wr fun e w' => e = .returned (.tuple #[.int .u64 (G : Nat), .int .i64 0]) ∧ PPg A (RInO j q r { y with gr := G }) b o w w' :=
  h.opB pa (parts_rino _ _ _ _) (fun _ h => rin_grant h fr hfr G hG)
theorem in_pop_own {z : Frm} (h : InAt z wr i x) (f : List Int) (rest : List (List Int)) (hf : x.fs = f :: rest) : Calls Tryz.prog 11 #[.pointer (some ⟨i, 0, none⟩)] wr fun e w' => ∃ c, e = .returned (.tuple #[.slice (some ⟨c, 0, none⟩) f.length f.length, .bool true]) ∧ Star (InO i { x with fs := rest }) (BytesO (.slice (some ⟨c, 0, none⟩) f.length f.length) f) z w' := by
  obtain ⟨q, r, S, h⟩ := h
  refine (in_pop_ok h f rest hf).mono ?_
  rintro e w' ⟨c, hc, rfl, h1, h2⟩
  have hz := h.gw.size
  have hlt : ∀ k, (Value.slice (some ⟨c, 0, none⟩) f.length f.length).ownBlock = some k → wr.heap.size ≤ k := fun k hk => by
    simp only [Value.ownBlock, Option.some.injEq] at hk
    omega
  have hl2 : ∀ k, (Value.slice (some ⟨c, 0, none⟩) f.length f.length).ownBlock = some k → f ≠ [] → k < w'.heap.size := fun k hk hne => by
    rcases h1.cases with ⟨a, cap, h3, h4⟩ | ⟨b3, off, cap, h3, _, _, h4, _⟩
    · exact absurd h4 hne
    · injection h3 with h5
      simp only [Value.ownBlock, Option.some.injEq] at hk
      injection h5 with h6
      injection h6 with h7
      omega
  refine ⟨c, rfl, fun k => S k ∨ k = i ∨ k = r, fun k => (Value.slice (some ⟨c, 0, none⟩) f.length f.length).ownBlock = some k ∧ f ≠ [], ⟨q, r, S, ⟨h2.blk, h2.qu, h2.rc, h2.ni, h2.nr, h2.ir, fun k hk => ⟨.inr hk, (h2.lo k hk).2⟩, Ext.refl _ _⟩⟩, ⟨h1, fun k hk => ⟨.inr hk, hl2 k hk.1 hk.2⟩, Ext.refl _ _⟩, fun k hk hk2 => ?_, fun k hk => ?_, h2.gw⟩
  · have := (h.lo k hk).2
    have := hlt k hk2.1
    omega
  · rcases hk with hk | hk
    · exact h2.lo k hk
    · exact ⟨.inl (Nat.le_trans hz (hlt k hk.1)), hl2 k hk.1 hk.2⟩
theorem pp_pop (h : PPg (InO i x) B b o w wr) (pb : Parts B) (f : List Int) (rest : List (List Int)) (hf : x.fs = f :: rest) : Calls Tryz.prog 11 #[.pointer (some ⟨i, 0, none⟩)] wr fun e w' => ∃ c, e = .returned (.tuple #[.slice (some ⟨c, 0, none⟩) f.length f.length, .bool true]) ∧ PPg (Star (InO i { x with fs := rest }) (BytesO (.slice (some ⟨c, 0, none⟩) f.length f.length) f)) B b o w w' :=
  h.opAx (fun _ => parts_star (parts_ino _ _) (parts_bytes _ _)) pb (fun _ h => in_pop_own h f rest hf)
theorem rin_pop {z : Frm} (h : RInAt z wr j q r y) (f : List Int) (rest : List (List Int)) (hf : y.fs = f :: rest) : Calls Tryz.prog 12 #[.pointer (some ⟨q, 0, none⟩)] wr fun e w' => (∃ a c, e = .returned (.tuple #[.slice a f.length c, .bool true]) ∧ Bytes w' (.slice a f.length c) f) ∧ RInAt z w' j q r { y with fs := rest } := by
  obtain ⟨S, h⟩ := h
  refine (refq_pop_some q _ S f rest wr (hf ▸ h.qu)).mono ?_
  rintro e w' ⟨a, c, rfl, h1, h2, h3⟩
  exact ⟨⟨a, c, rfl, h1⟩, S, h.queue h2 h3⟩
theorem pp_rpop (h : PPg A (RInO j q r y) b o w wr) (pa : Parts A) (f : List Int) (rest : List (List Int)) (hf : y.fs = f :: rest) : Calls Tryz.prog 12 #[.pointer (some ⟨q, 0, none⟩)] wr fun e w' => (∃ a c, e = .returned (.tuple #[.slice a f.length c, .bool true]) ∧ Bytes w' (.slice a f.length c) f) ∧ PPg A (RInO j q r { y with fs := rest }) b o w w' :=
  h.opB pa (parts_rino _ _ _ _) (fun _ h => rin_pop h f rest hf)
theorem rin_pop_none {z : Frm} (h : RInAt z wr j q r y) (hf : y.fs = []) : Calls Tryz.prog 12 #[.pointer (some ⟨q, 0, none⟩)] wr fun e w' => e = .returned (.tuple #[.slice none 0 0, .bool false]) ∧ wr = w' := by
  obtain ⟨S, h⟩ := h
  exact refq_pop_none q _ S wr (hf ▸ h.qu)
theorem InAt.range {z : Frm} (h : InAt z wr i x) : ∀ f ∈ x.fs, (∀ u ∈ f, 0 ≤ u ∧ u < 256) ∧ f.length ≤ 140737488351232 := by
  obtain ⟨q, r, S, h⟩ := h
  obtain ⟨cur, ty, first, _, _, _, _, _, h4⟩ := h.qu
  intro f hf
  obtain ⟨k, hk, rfl⟩ := List.getElem_of_mem hf
  obtain ⟨v, _, a, cap, _, h5, _⟩ := h4 k _ (List.getElem?_eq_getElem hk)
  exact ⟨h5.2.1, h5.2.2⟩
theorem at_all_fr {z : Frm} (h : InAt z wr i x) : Calls Tryz.prog 19 #[.pointer (some ⟨i, 0, none⟩)] wr fun e w' => ∃ a c, e = .returned (.slice a x.fs.length c) ∧ Fr w' (.slice a x.fs.length c) x.fs ∧ Grows wr w' := by
  refine (at_all h).mono ?_
  rintro e w' ⟨v, vs, rfl, ho, hf, _, hg⟩
  obtain ⟨va, vc, rfl⟩ : ∃ a c, v = .slice a x.fs.length c := by
    rcases ho.2 with ⟨h1, h2⟩ | ⟨g, cap, cur, h1, _⟩
    · exact ⟨none, 0, by rw [h1, h2]⟩
    · exact ⟨_, _, h1⟩
  refine ⟨va, vc, rfl, ⟨vs, hf.1, row_of_owns ho, fun k f hk => ?_⟩, hg⟩
  obtain ⟨b, h1, _, h3⟩ := hf.2 k f hk
  have hr := h.range f (List.mem_of_getElem? hk)
  exact ⟨_, h1, Bytes.of_heap h3 rfl (Nat.le_refl _) (by unfold maxLen; have := hr.2; omega) hr.1 hr.2⟩
theorem RInAt.cells {z : Frm} (h : RInAt z wr j q r y) : (wr.cell? ⟨j, 0, none⟩ = some (.pointer (some ⟨q, 0, none⟩)) ∧ wr.cell? ⟨j, 1, none⟩ = some (.pointer (some ⟨r, 0, none⟩))) ∧ (∃ a c, wr.cell? ⟨q, 1, none⟩ = some (.slice a y.fs.length c) ∧ Fr wr (.slice a y.fs.length c) y.fs) ∧ wr.cell? ⟨r, 1, none⟩ = some (.int .u64 y.peer) := by
  obtain ⟨S, h⟩ := h
  refine ⟨h.cells.1, ?_, h.cells.2.2⟩
  obtain ⟨vl, F, t2, h1, h2, _⟩ := h.qu
  have h3 := h2.fr
  obtain ⟨la, lc, rfl⟩ := h2.form
  exact ⟨la, lc, by rw [cell_of_heap h1]; rfl, h3⟩
theorem Fr.growsW {w w' : World} {v : Value} {fs : List (List Int)} (h : Fr w v fs) (g : Grows w w') : Fr w' v fs := by
  obtain ⟨vs, h1, h2, h3⟩ := h
  refine ⟨vs, h1, h2.keeps g.size (fun k _ hk => g.block k hk (fun h => h)), fun i f hf => ?_⟩
  obtain ⟨u, hu, hb⟩ := h3 i f hf
  exact ⟨u, hu, hb.grows g⟩
end
end Go.Proofs.YtekdggdnkmkldaaGreat
