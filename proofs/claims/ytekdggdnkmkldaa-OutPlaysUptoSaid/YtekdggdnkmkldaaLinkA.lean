/- link: calls by their answers; the examples that the statements ask first. -/
import Derived.Test.YtekdggdnkmkldaaLinkJ
namespace Go.Proofs.Ytekdggdnkmkldaa
set_option linter.unusedVariables false
set_option linter.unusedSimpArgs false
set_option maxRecDepth 1500
open Go.RowKit

def OutV.use (x : OutV) (p : PlaceV) : OutV := { x with used := x.used + 1, sent := setQ x.sent p (x.sent p + 1), last := p, begun := true }
section
variable {w0 : Frm} {w w' : World} {o n : Nat} {x : OutV}
theorem pick_idle (h : OutAt w0 w o n x) (W : Nat) (hW0 : 1 ≤ W) (hW : W ≤ 16) (v : Value) (own : List (List RankA)) (hr : Rss w v own) (hol : own.length ≤ x.told.length) (S : List PlaceV) (hS : InOrder S (mayOwn x W own)) (hl : (mayOwn x W own).length ≤ 1048576) (hq : (roundP S x.last x.begun).head? = none) :
    Calls Try.prog 12 #[.pointer (some ⟨o, 0, none⟩), .int .i64 W, v] w fun e w' => e = .returned (.tuple #[.agg #[.int .i64 0, .int .u64 0], .int .i64 25]) ∧ Grows w w' :=
  pick_ok h W hW0 hW v own hr hol hl S hS none hq
theorem pick_nocr (h : OutAt w0 w o n x) (W : Nat) (hW0 : 1 ≤ W) (hW : W ≤ 16) (v : Value) (own : List (List RankA)) (hr : Rss w v own) (hol : own.length ≤ x.told.length) (S : List PlaceV) (hS : InOrder S (mayOwn x W own)) (hl : (mayOwn x W own).length ≤ 1048576) (p : PlaceV) (hq : (roundP S x.last x.begun).head? = some p) (hu : x.gr ≤ x.used) :
    Calls Try.prog 12 #[.pointer (some ⟨o, 0, none⟩), .int .i64 W, v] w fun e w' => e = .returned (.tuple #[.agg #[.int .i64 0, .int .u64 0], .int .i64 26]) ∧ Grows w w' := by
  refine (pick_ok h W hW0 hW v own hr hol hl S hS (some p) hq).mono ?_
  rintro e w' ⟨rfl, g⟩
  exact ⟨by show Ending.returned (if x.used < x.gr then _ else _) = _; rw [if_neg (by omega)], g⟩
theorem pick_some (h : OutAt w0 w o n x) (W : Nat) (hW0 : 1 ≤ W) (hW : W ≤ 16) (v : Value) (own : List (List RankA)) (hr : Rss w v own) (hol : own.length ≤ x.told.length) (S : List PlaceV) (hS : InOrder S (mayOwn x W own)) (hl : (mayOwn x W own).length ≤ 1048576) (p : PlaceV) (hq : (roundP S x.last x.begun).head? = some p) (hu : x.used < x.gr) (f g : Int) (hf : p.flow = f) (hg : (p.gen : Int) = g) :
    Calls Try.prog 12 #[.pointer (some ⟨o, 0, none⟩), .int .i64 W, v] w fun e w' => e = .returned (.tuple #[.agg #[.int .i64 f, .int .u64 g], .int .i64 0]) ∧ Grows w w' := by
  refine (pick_ok h W hW0 hW v own hr hol hl S hS (some p) hq).mono ?_
  rintro e w' ⟨rfl, g⟩
  subst hf hg
  exact ⟨by show Ending.returned (if x.used < x.gr then _ else _) = _; rw [if_pos hu], g⟩
theorem use_T (h : OutAt w0 w o n x) (p : PlaceV) (h0 : 0 ≤ p.flow) (h1 : p.flow < x.told.length) (hg : p.gen < 18446744073709551616) (hu : x.used < x.gr) (hn : n < maxLen) (cnt : Nat) (hc : x.sent p = cnt) (hcm : cnt + 1 < 18446744073709551616) (F G U V : Int) (hF : p.flow = F) (hG : (p.gen : Int) = G) (hU : ((x.used + 1 : Nat) : Int) = U) (hV : (cnt : Int) = V) :
    Calls Try.prog 13 #[.pointer (some ⟨o, 0, none⟩), .agg #[.int .i64 F, .int .u64 G]] w fun e w' => e = .returned (.tuple #[.int .u64 U, .int .u64 V, .int .i64 0]) ∧ OutAt w0 w' o (n + 1) (x.use p) := by
  obtain ⟨f, g⟩ := p
  obtain ⟨i, rfl⟩ := Int.eq_ofNat_of_zero_le h0
  simp only at h1 hg hF hG
  have hf : x.told.length ≤ 4 := by obtain ⟨s, bm, vt, ts, c, h⟩ := h; exact h.few
  subst hF hG hU hV
  refine (ouse_ok h i (by omega) g ⟨⟨by show (-9223372036854775808 : Int) ≤ (i : Int); omega, by show (i : Int) < 9223372036854775808; omega⟩, hg⟩ hu hn cnt hc hcm).mono ?_
  rintro e w' ⟨rfl, h2⟩
  refine ⟨by rw [Int.natCast_add]; rfl, ?_⟩
  unfold OutV.use
  rw [hc]
  exact h2
theorem use_noT (h : OutAt w0 w o n x) (F G : Int) (h0 : 0 ≤ F) (h1 : F < x.told.length) (hg : 0 ≤ G) (hu : x.gr ≤ x.used) :
    Calls Try.prog 13 #[.pointer (some ⟨o, 0, none⟩), .agg #[.int .i64 F, .int .u64 G]] w fun e w' => e = .returned (.tuple #[.int .u64 0, .int .u64 0, .int .i64 26]) ∧ Grows w w' := by
  obtain ⟨i, rfl⟩ := Int.eq_ofNat_of_zero_le h0
  obtain ⟨g, rfl⟩ := Int.eq_ofNat_of_zero_le hg
  exact ouse_no h i (by omega) g hu
end
theorem rss_one {w : World} {b1 b2 : Nat} {t1 t2 : TypeId} (r : RankA) (hr : r.okay) (h1 : w.heap[b1]? = some (.cells #[.int .u64 r.gen, .int .i64 r.rank] t1 (0, 0))) (h2 : w.heap[b2]? = some (.cells #[.slice (some ⟨b1, 0, none⟩) 1 1] t2 (0, 0))) : Rss w (.slice (some ⟨b2, 0, none⟩) 1 1) [[r]] := by
  refine ⟨⟨_, _, rfl⟩, fun i hi => ?_⟩
  obtain rfl : i = 0 := by simp at hi; omega
  exact ⟨b2, 0, 1, _, rfl, heap_lt h2, by rw [cell_of_heap h2]; rfl, rs_one r h1 hr⟩

def wx0 : OutV := newV 1 1
def wx1 : OutV := wx0.feed 0 1 1 0 []
def wx2 : OutV := wx1.credit 1 1 2
def wx3 : OutV := wx2.use ⟨0, 0⟩
def wx4 : OutV := wx3.use ⟨0, 0⟩
theorem wx_m0 : mayOwn wx0 4 [[⟨0, 2⟩]] = [] := by decide
theorem wx_m1 : mayOwn wx1 4 [[⟨0, 2⟩]] = [⟨0, 0⟩] := by decide
theorem wx_m2 : mayOwn wx2 4 [[⟨0, 2⟩]] = [⟨0, 0⟩] := by decide
theorem inOrder_nil : InOrder [] ([] : List PlaceV) := ⟨List.Pairwise.nil, fun x => Iff.rfl⟩
theorem inOrder_one (p : PlaceV) : InOrder [p] [p] := ⟨List.pairwise_singleton _ _, fun x => Iff.rfl⟩
theorem ret_boolT {b c : Bool} (h : b = c) : Ending.returned (.bool b) = Ending.returned (.bool c) := by rw [h]

theorem Grows.over {w wa w' : World} {F : Nat → Prop} (g : Grows w wa) (e : Ext F wa w') (hF : ∀ k, F k → w.heap.size ≤ k) : Grows w w' := Frm.step (z := Frm.of w) g e (fun k hk => .inl (hF k hk))
theorem Frm.of_ok {w : World} {k : Nat} (h : (Frm.of w).ok k) : w.heap.size ≤ k := h.elim id (fun h => h.elim)
set_option maxHeartbeats 4000000 in
theorem awake22 (w : World) : Calls Try.prog 8 #[] w fun e w' => e = .returned (.bool true) ∧ Grows w w' := by
  have hgd := eqGuardP
  go_enter Try.func8, Try.ntmps8
  go_wp2_with fail
  refine (out_new 1 1 w (by omega) (by unfold Most; omega) (by omega) (by omega)).mono ?_
  rintro e w1 ⟨o, rfl, h⟩
  obtain ⟨F, hF, hFb, hFg⟩ := h.base
  have H1 := Lib.hid (And.intro hF (And.intro (fun k (hk : F k) => And.intro (Frm.of_ok (hFb k hk).1) (hFb k hk).2) (show Grows w w1 from hFg)))
  clear h hF hFb hFg
  have hb1 := heap_alloc_new w1 (.cells #[.int .u64 0, .int .i64 2] 62)
  have hb2 := heap_alloc_new (w1.alloc (.cells #[.int .u64 0, .int .i64 2] 62)) (.cells #[.slice (some ⟨w1.heap.size, 0, none⟩) 1 1] 60)
  have hs2 : (w1.alloc (.cells #[.int .u64 0, .int .i64 2] 62)).heap.size = w1.heap.size + 1 := alloc_size1 _ _
  have hg3 : Grows (w1.alloc (.cells #[.int .u64 0, .int .i64 2] 62)) ((w1.alloc (.cells #[.int .u64 0, .int .i64 2] 62)).alloc (.cells #[.slice (some ⟨w1.heap.size, 0, none⟩) 1 1] 60)) := (Ext.refl _ _).alloc _
  have hg13 : Grows w1 ((w1.alloc (.cells #[.int .u64 0, .int .i64 2] 62)).alloc (.cells #[.slice (some ⟨w1.heap.size, 0, none⟩) 1 1] 60)) := ((Ext.refl _ _).alloc _).trans hg3
  have hb1' := (hg3.block _ (heap_lt hb1) (fun h => h)).trans hb1
  rw [hs2] at hb2
  have H2 := Lib.hid (And.intro hb1' (And.intro hb2 hg13))
  clear hb1 hb2 hb1' hs2 hg3 hg13
  go_wp2_with fail
  generalize (w1.alloc (.cells #[.int .u64 0, .int .i64 2] 62)).alloc (.cells #[.slice (some ⟨w1.heap.size, 0, none⟩) 1 1] 60) = w3 at H2 ⊢
  have R : ∀ w', Ext F w3 w' → Rss w' (.slice (some ⟨w1.heap.size + 1, 0, none⟩) 1 1) [[⟨0, 2⟩]] := fun w' e =>
    rss_one ⟨0, 2⟩ ⟨by simp, by simp, by simp⟩ ((e.block _ (heap_lt H2.out.1) (fun hk => by have := (H1.out.2.1 _ hk).2; omega)).trans H2.out.1) ((e.block _ (heap_lt H2.out.2.1) (fun hk => by have := (H1.out.2.1 _ hk).2; omega)).trans H2.out.2.1)
  have HR := Lib.hid (And.intro R (H1.out.2.2.trans H2.out.2.2))
  have HX := Lib.hid (H1.out.1.kept H2.out.2.2 (fun _ _ h => h))
  have hFb := Lib.hid (fun k hk => (H1.out.2.1 k hk).1)
  clear R
  generalize w1.heap.size + 1 = b2 at HR ⊢
  clear H1 H2
  refine (pick_idle HX.out 4 (by omega) (by omega) _ [[⟨0, 2⟩]] (HR.out.1 _ HX.out.grows) (by decide) [] (by show InOrder [] (mayOwn wx0 4 _); rw [wx_m0]; exact inOrder_nil) (by show (mayOwn wx0 4 _).length ≤ _; rw [wx_m0]; decide) rfl).mono ?_
  rintro e w4 ⟨rfl, g4⟩
  have HX4 := Lib.hid ((HX.out.more g4).more ((Ext.refl (fun _ => False) w4).alloc (.cells #[.int .i64 0, .int .u64 0] 31)))
  clear HX g4
  go_wp2_with fail
  generalize w4.alloc (.cells #[.int .i64 0, .int .u64 0] 31) = w5 at HX4 ⊢
  refine (out_feed HX4.out 0 1 1 0 _ [] (rs_nil _) (by omega) 0 (by decide)).mono ?_
  rintro e w6 ⟨rfl, h6⟩
  have HX6 := Lib.hid (show OutAt ⟨w3, F⟩ w6 o 0 wx1 from h6)
  clear h6 HX4
  go_wp2_with fail
  refine (pick_nocr HX6.out 4 (by omega) (by omega) _ [[⟨0, 2⟩]] (HR.out.1 _ HX6.out.grows) (by decide) [⟨0, 0⟩] (by rw [wx_m1]; exact inOrder_one _) (by rw [wx_m1]; decide) ⟨0, 0⟩ rfl (by decide)).mono ?_
  rintro e w7 ⟨rfl, g7⟩
  have HX7 := Lib.hid ((HX6.out.more g7).more ((Ext.refl (fun _ => False) w7).alloc (.cells #[.int .i64 0, .int .u64 0] 31)))
  clear HX6 g7
  go_wp2_with fail
  generalize w7.alloc (.cells #[.int .i64 0, .int .u64 0] 31) = w8 at HX7 ⊢
  refine (out_credit HX7.out 1 1 2 0 (by decide)).mono ?_
  rintro e w9 ⟨rfl, h9⟩
  have HX9 := Lib.hid (show OutAt ⟨w3, F⟩ w9 o 0 wx2 from h9)
  clear h9 HX7
  go_wp2_with fail
  refine (pick_some HX9.out 4 (by omega) (by omega) _ [[⟨0, 2⟩]] (HR.out.1 _ HX9.out.grows) (by decide) [⟨0, 0⟩] (by rw [wx_m2]; exact inOrder_one _) (by rw [wx_m2]; decide) ⟨0, 0⟩ rfl (by decide) 0 0 rfl rfl).mono ?_
  rintro e w10 ⟨rfl, g10⟩
  obtain ⟨F2, hF2, hFb2, hFg2⟩ := (HX9.out.more g10).base
  have ga : Grows w10 (w10.alloc (.cells #[.int .i64 0, .int .u64 0] 31)) := (Ext.refl _ _).alloc _
  have hba := heap_alloc_new w10 (.cells #[.int .i64 0, .int .u64 0] 31)
  have hc : ∀ w', Ext F2 (w10.alloc (.cells #[.int .i64 0, .int .u64 0] 31)) w' → w'.cell? ⟨w10.heap.size, 0, none⟩ = some (.int .i64 0) ∧ w'.cell? ⟨w10.heap.size, 1, none⟩ = some (.int .u64 0) := fun w' e => by
    have hb := (e.block _ (heap_lt hba) (fun hk => by have := (hFb2 _ hk).2; omega)).trans hba
    exact ⟨by rw [cell_of_heap hb]; rfl, by rw [cell_of_heap hb]; rfl⟩
  have hgw : ∀ w', Ext F2 (w10.alloc (.cells #[.int .i64 0, .int .u64 0] 31)) w' → Grows w w' := fun w' e =>
    Grows.over ((Grows.over HR.out.2 hFg2 hFb.out).trans ga) e (fun k hk => (hFb2 k hk).1.elim (fun h => Nat.le_trans HR.out.2.size h) (hFb.out k))
  have HX11 := Lib.hid (hF2.kept ga (fun _ _ h => h))
  have HC := Lib.hid (And.intro hc hgw)
  have hc11 := hc _ (Ext.refl _ _)
  clear hc hgw hba ga hF2 hFb2 hFg2 HX9 HR hFb g10
  obtain ⟨k0, k1⟩ := hc11
  go_wp2_with fail
  generalize w10.alloc (.cells #[.int .i64 0, .int .u64 0] 31) = w11 at HX11 HC k0 k1 ⊢
  generalize w10.heap.size = b at HC k0 k1 ⊢
  refine (use_T HX11.out ⟨0, 0⟩ (by decide) (by decide) (by decide) (by decide) (by unfold maxLen; omega) 0 rfl (by decide) 0 0 1 0 rfl rfl rfl rfl).mono ?_
  rintro e w12 ⟨rfl, h12⟩
  have HX12 := Lib.hid (show OutAt ⟨w11, F2⟩ w12 o 1 wx3 from h12)
  clear h12 HX11 k0 k1
  obtain ⟨k0, k1⟩ := HC.out.1 _ HX12.out.grows
  go_wp2_with fail
  clear k0 k1
  refine (use_T HX12.out ⟨0, 0⟩ (by decide) (by decide) (by decide) (by decide) (by unfold maxLen; omega) 1 rfl (by decide) 0 0 2 1 rfl rfl rfl rfl).mono ?_
  rintro e w13 ⟨rfl, h13⟩
  have HX13 := Lib.hid (show OutAt ⟨w11, F2⟩ w13 o 2 wx4 from h13)
  clear h13 HX12
  obtain ⟨k0, k1⟩ := HC.out.1 _ HX13.out.grows
  go_wp2_with fail
  clear k0 k1
  refine (use_noT HX13.out 0 0 (by decide) (by decide) (by decide) (by decide)).mono ?_
  rintro e w14 ⟨rfl, g14⟩
  have HX14 := Lib.hid (HX13.out.more g14)
  clear HX13 g14
  obtain ⟨k0, k1⟩ := HC.out.1 _ HX14.out.grows
  go_wp2
  go_ret
  exact ⟨rfl, HC.out.2 _ HX14.out.grows⟩
end Go.Proofs.Ytekdggdnkmkldaa
