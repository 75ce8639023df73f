/- link: the In: a queue and a receiver. -/
import Derived.Test.YtekdggdnkmkldaaLinkZ
import Derived.Test.YtekdggdnkmkldaaQueueE
namespace Go.Proofs.Ytekdggdnkmkldaa
set_option linter.unusedVariables false
set_option linter.unusedSimpArgs false
set_option maxRecDepth 1500
open Go.RowKit

structure InV where
  places : Nat
  fs : List (List Int)
  peer : Nat
  gr : Nat
  seen : Nat
/-- An In at block i: its queue at q (footprint S), its receiver at r. -/
structure InC (w0 : Frm) (w : World) (i q r : Nat) (S : Nat → Prop) (x : InV) : Prop where
  blk : ∃ ty, w.heap[i]? = some (.cells #[.pointer (some ⟨q, 0, none⟩), .pointer (some ⟨r, 0, none⟩)] ty (0, 0))
  qu : QueueAt w q S x.places x.fs
  rc : ReceiverAt w r x.places x.peer x.gr x.seen
  ni : ¬ S i
  nr : ¬ S r
  ir : i ≠ r
  lo : ∀ k, S k ∨ k = i ∨ k = r → w0.ok k ∧ k < w.heap.size
  gw : Ext w0.F w0.wd w
def InAt (w0 : Frm) (w : World) (i : Nat) (x : InV) : Prop := ∃ q r S, InC w0 w i q r S x

section
variable {w0 : Frm} {w w' : World} {i q r : Nat} {S : Nat → Prop} {x : InV}
theorem InC.ext {T : Nat → Prop} (h : InC w0 w i q r S x) (e : Ext T w w') (hT : ∀ k, S k ∨ k = i ∨ k = r → ¬ T k) (hw : ∀ k, T k → w0.ok k) : InC w0 w' i q r S x := by
  obtain ⟨ty, hb⟩ := h.blk
  exact ⟨⟨ty, (e.block i (heap_lt hb) (hT i (.inr (.inl rfl)))).trans hb⟩, h.qu.keeps e (fun k hk => hT k (.inl hk)), h.rc.ext e (hT r (.inr (.inr rfl))), h.ni, h.nr, h.ir, fun k hk => ⟨(h.lo k hk).1, Nat.lt_of_lt_of_le (h.lo k hk).2 e.size⟩, Frm.step h.gw e hw⟩
theorem InC.more (h : InC w0 w i q r S x) (g : Grows w w') : InC w0 w' i q r S x := h.ext g (fun _ _ h => h) (fun _ h => h.elim)
theorem InC.cells (h : InC w0 w i q r S x) : w.cell? ⟨i, 0, none⟩ = some (.pointer (some ⟨q, 0, none⟩)) ∧ w.cell? ⟨i, 1, none⟩ = some (.pointer (some ⟨r, 0, none⟩)) := by
  obtain ⟨ty, hb⟩ := h.blk
  refine ⟨?_, ?_⟩ <;> (rw [cell_of_heap hb]; rfl)
theorem inone_nil (w : World) : Calls Try.prog 47 #[.pointer none] w fun e w' => e = .returned (.bool true) ∧ w = w' := by
  go_enter Try.func47, Try.ntmps47
  go_wp2
  go_ret
  exact ⟨rfl, rfl⟩
theorem in_none (h : InC w0 w i q r S x) : Calls Try.prog 47 #[.pointer (some ⟨i, 0, none⟩)] w fun e w' => e = .returned (.bool false) ∧ w = w' := by
  have c0 := h.cells.1
  clear h
  go_enter Try.func47, Try.ntmps47
  go_wp2
  go_ret
  exact ⟨rfl, rfl⟩
theorem in_len (h : InC w0 w i q r S x) : Calls Try.prog 23 #[.pointer (some ⟨i, 0, none⟩)] w fun e w' => e = .returned (.int .i64 (x.fs.length : Nat)) ∧ w = w' := by
  have HN := Lib.hid (in_none h)
  have HL := Lib.hid (qlen_any q _ _ _ w h.qu)
  have c0 := h.cells.1
  clear h
  go_enter Try.func23, Try.ntmps23
  go_wp2_with fail
  refine HN.out.mono ?_
  rintro e w' ⟨rfl, rfl⟩
  go_wp2_with fail
  refine HL.out.mono ?_
  rintro e w' ⟨rfl, rfl⟩
  go_wp2
  go_ret
  exact ⟨rfl, rfl⟩
theorem in_life (h : InC w0 w i q r S x) : Calls Try.prog 25 #[.pointer (some ⟨i, 0, none⟩)] w fun e w' => e = .returned (.int .u64 x.peer) ∧ w = w' := by
  have HN := Lib.hid (in_none h)
  have HL := Lib.hid (life_any w r _ _ _ _ h.rc)
  have c0 := h.cells.2
  clear h
  go_enter Try.func25, Try.ntmps25
  go_wp2_with fail
  refine HN.out.mono ?_
  rintro e w' ⟨rfl, rfl⟩
  go_wp2_with fail
  refine HL.out.mono ?_
  rintro e w' ⟨rfl, rfl⟩
  go_wp2
  go_ret
  exact ⟨rfl, rfl⟩
theorem in_new (p : Nat) (w : World) (h1 : 1 ≤ p) (h2 : p ≤ 64) : Calls Try.prog 14 #[.int .i64 p] w fun e w' => ∃ i, e = .returned (.tuple #[.pointer (some ⟨i, 0, none⟩), .int .i64 0]) ∧ InAt (Frm.of w) w' i ⟨p, [], 0, 0, 0⟩ := by
  have HP := Lib.hid (And.intro h1 h2)
  clear h1 h2
  go_enter Try.func14, Try.ntmps14
  go_wp2_with fail
  refine (new_yes p w HP.out.1 HP.out.2).mono ?_
  rintro e w1 ⟨rfl, hq, g1⟩
  have HQ := Lib.hid (And.intro hq g1)
  clear hq g1
  go_wp2_with fail
  refine (newReceiver_ok p w1 HP.out.1 HP.out.2).mono ?_
  rintro e w2 ⟨rfl, hr, g2⟩
  have HR := Lib.hid (And.intro hr g2)
  clear hr g2
  go_wp2
  go_ret2
  have g3 : Grows w2 (w2.alloc (.cells #[.pointer (some ⟨w.heap.size, 0, none⟩), .pointer (some ⟨w1.heap.size, 0, none⟩)] 118)) := (Ext.refl _ _).alloc _
  have l1 := HQ.out.1.lt
  have l2 := HR.out.1.lt
  have l3 := HQ.out.2.size
  have l4 := HR.out.2.size
  have hn := heap_alloc_new w2 (.cells #[.pointer (some ⟨w.heap.size, 0, none⟩), .pointer (some ⟨w1.heap.size, 0, none⟩)] 118)
  have l5 := heap_lt hn
  refine ⟨_, rfl, _, _, _, ⟨_, hn⟩, (HQ.out.1.grows HR.out.2).grows g3, HR.out.1.ext g3 (fun h => h), ?_, ?_, ?_, fun k hk => ?_, (HQ.out.2.trans HR.out.2).trans g3⟩
  · show ¬ w2.heap.size = w.heap.size; omega
  · show ¬ w1.heap.size = w.heap.size; omega
  · show w2.heap.size ≠ w1.heap.size; omega
  · rcases hk with rfl | rfl | rfl
    · exact ⟨.inl (Nat.le_refl _), by omega⟩
    · exact ⟨.inl (show w.heap.size ≤ w2.heap.size by omega), by omega⟩
    · exact ⟨.inl (show w.heap.size ≤ w1.heap.size by omega), by omega⟩
theorem InC.receiver {peer gr seen : Nat} (h : InC w0 w i q r S x) (h1 : ReceiverAt w' r x.places peer gr seen) (e : Ext (fun k => k = r) w w') : InC w0 w' i q r S { x with peer := peer, gr := gr, seen := seen } := by
  obtain ⟨ty, hb⟩ := h.blk
  exact ⟨⟨ty, (e.block i (heap_lt hb) h.ir).trans hb⟩, h.qu.keeps e (fun k hk hh => h.nr (hh ▸ hk)), h1, h.ni, h.nr, h.ir, fun k hk => ⟨(h.lo k hk).1, Nat.lt_of_lt_of_le (h.lo k hk).2 e.size⟩, Frm.step h.gw e (fun k hh => hh ▸ (h.lo r (.inr (.inr rfl))).1)⟩
def InV.saw (x : InV) (life seq : Nat) : InV := { x with peer := sawP x.peer life seq, gr := sawG x.peer x.gr life seq, seen := sawS x.peer x.seen life seq }
theorem in_probe (h : InC w0 w i q r S x) (life seq : Nat) (E : Int) (hE : sawE x.peer life seq = E) : Calls Try.prog 16 #[.pointer (some ⟨i, 0, none⟩), .int .u64 life, .int .u64 seq] w fun e w' => e = .returned (.int .i64 E) ∧ InC w0 w' i q r S (x.saw life seq) := by
  have HN := Lib.hid (in_none h)
  have c0 := h.cells.2
  have HH := Lib.hid (And.intro h hE)
  clear h hE
  go_enter Try.func16, Try.ntmps16
  go_wp2_with fail
  refine HN.out.mono ?_
  rintro e w' ⟨rfl, rfl⟩
  go_wp2_with fail
  refine (saw_any w r _ _ _ _ life seq HH.out.1.rc).mono ?_
  rintro e w' ⟨rfl, h1, e1⟩
  have HR := Lib.hid (HH.out.1.receiver h1 e1)
  rw [HH.out.2]
  clear h1 e1 c0
  go_wp2
  go_ret
  exact ⟨rfl, HR.out⟩
theorem InC.sq (h : InC w0 w i q r S x) : S q := by
  obtain ⟨cur, ty, first, hc, hq, _⟩ := h.qu
  exact hq
theorem InC.queue {fs : List (List Int)} (h : InC w0 w i q r S x) (h1 : QueueAt w' q S x.places fs) (e : Ext (fun k => k = q) w w') : InC w0 w' i q r S { x with fs := fs } := by
  obtain ⟨ty, hb⟩ := h.blk
  exact ⟨⟨ty, (e.block i (heap_lt hb) (fun hh => h.ni (hh ▸ h.sq))).trans hb⟩, h1, h.rc.ext e (fun hh => h.nr (hh ▸ h.sq)), h.ni, h.nr, h.ir, fun k hk => ⟨(h.lo k hk).1, Nat.lt_of_lt_of_le (h.lo k hk).2 e.size⟩, Frm.step h.gw e (fun k hh => hh ▸ (h.lo q (.inl h.sq)).1)⟩
theorem in_pop_ok (h : InC w0 w i q r S x) (f : List Int) (rest : List (List Int)) (hf : x.fs = f :: rest) : Calls Try.prog 18 #[.pointer (some ⟨i, 0, none⟩)] w fun e w' => ∃ b, w.heap.size ≤ b ∧ e = .returned (.tuple #[.slice (some ⟨b, 0, none⟩) f.length f.length, .bool true]) ∧ Bytes w' (.slice (some ⟨b, 0, none⟩) f.length f.length) f ∧ InC w0 w' i q r S { x with fs := rest } := by
  have HN := Lib.hid (in_none h)
  have HL := Lib.hid (pop_ok q _ _ f rest w (hf ▸ h.qu))
  have c0 := h.cells.1
  have HH := Lib.hid h
  clear h hf
  go_enter Try.func18, Try.ntmps18
  go_wp2_with fail
  refine HN.out.mono ?_
  rintro e w' ⟨rfl, rfl⟩
  go_wp2_with fail
  refine HL.out.mono ?_
  rintro e w' ⟨b, hb, rfl, h1, h2, e2⟩
  have HR := Lib.hid (And.intro hb (And.intro h1 (HH.out.queue h2 e2)))
  clear hb h1 h2 e2 c0
  go_wp2
  go_ret2
  exact ⟨b, HR.out.1, rfl, HR.out.2.1, HR.out.2.2⟩
theorem in_pop_none (h : InC w0 w i q r S x) (hf : x.fs = []) : Calls Try.prog 18 #[.pointer (some ⟨i, 0, none⟩)] w fun e w' => e = .returned (.tuple #[.slice none 0 0, .bool false]) ∧ w = w' := by
  have HN := Lib.hid (in_none h)
  have HL := Lib.hid (pop_empty q _ _ w (hf ▸ h.qu))
  have c0 := h.cells.1
  clear h hf
  go_enter Try.func18, Try.ntmps18
  go_wp2_with fail
  refine HN.out.mono ?_
  rintro e w' ⟨rfl, rfl⟩
  go_wp2_with fail
  refine HL.out.mono ?_
  rintro e w' ⟨rfl, rfl⟩
  go_wp2
  go_ret2
  exact ⟨rfl, rfl⟩
theorem in_grant (h : InC w0 w i q r S x) (fr : Nat) (hfr : x.fs.length + fr = x.places) : Calls Try.prog 17 #[.pointer (some ⟨i, 0, none⟩)] w fun e w' => e = .returned (.tuple #[.int .u64 (grantG x.gr x.seen fr : Nat), .int .i64 0]) ∧ InC w0 w' i q r S { x with gr := grantG x.gr x.seen fr } := by
  have HN := Lib.hid (in_none h)
  have hq := qfree_any q _ _ _ w.drew (h.more (Ext.drewN_r 1)).qu
  rw [show ((x.places : Int) - (x.fs.length : Int)) = (fr : Int) by omega] at hq
  have HQ := Lib.hid hq
  have HH := Lib.hid (And.intro h hfr)
  have hcc := h.cells
  clear h hq hfr
  obtain ⟨c0, c1⟩ := hcc
  have HC := Lib.hid (And.intro c0 c1)
  go_enter Try.func17, Try.ntmps17
  go_wp2_with fail
  refine HN.out.mono ?_
  rintro e w' ⟨rfl, rfl⟩
  go_upto_region 3 with fail
  go_region_held3 (fun w' => w'.cell? ⟨i, 0, none⟩ = some (.pointer (some ⟨q, 0, none⟩)) ∧ w'.cell? ⟨i, 1, none⟩ = some (.pointer (some ⟨r, 0, none⟩)))
    (first
      | go_keep
      | exact ⟨keepc he HC.out.1, keepc he HC.out.2⟩
      | exact (InC.cells (((show InC w0 w.drew i q r S x from HH.out.1.more (Ext.drewN_r 1)).more he).receiver h1 e1)))
    (first
      | (go_at_call 52; with_reducible refine HQ.out.mono ?_; rintro e w' ⟨rfl, he⟩)
      | (go_at_call 51; with_reducible refine (grant_ok _ r _ _ _ _ fr ((show InC w0 w.drew i q r S x from HH.out.1.more (Ext.drewN_r 1)).more he).rc (by have := HH.out.2; omega)).mono ?_; rintro e w'' ⟨rfl, h1, e1⟩))
  all_goals
    have A := Lib.hid (((show InC w0 w.drew i q r S x from HH.out.1.more (Ext.drewN_r 1)).more he).receiver h1 e1)
    clear h1 e1 he c0 c1
    go_wp2
    go_ret2
    exact ⟨rfl, A.out⟩
end
end Go.Proofs.Ytekdggdnkmkldaa
