/- the answers of 16 and 18: a sender, what was told, its calls. -/
import Derived.Test.YtekdggdnkmkldaaCreditS
import Derived.Test.YtekdggdnkmkldaaRanksT
namespace Go.Proofs.Ytekdggdnkmkldaa
set_option linter.unusedVariables false
set_option linter.unusedSimpArgs false
set_option maxRecDepth 1500
open Go.RowKit

def RefS (w : World) (t own peer gr used : Nat) : Prop := ∃ ty, w.heap[t]? = some (.cells #[.int .u64 own, .int .u64 peer, .int .u64 gr, .int .u64 used] ty (0, 0))
def RefR (w : World) (q places peer gr seen : Nat) : Prop := ∃ ty, w.heap[q]? = some (.cells #[.int .i64 places, .int .u64 peer, .int .u64 gr, .int .u64 seen] ty (0, 0))

theorem ref_may (w : World) (t own peer gr used : Nat) (h : RefS w t own peer gr used) (b : Bool) (hb : decide (used < gr) = b) :
    Calls Try.prog 64 #[.pointer (some ⟨t, 0, none⟩)] w fun e w' => e = .returned (.bool b) ∧ ∃ m, w' = w.drewN m := by
  subst hb
  obtain ⟨ty, hh⟩ := h
  have c2 := cell_of_heap hh 2
  have c3 := cell_of_heap hh 3
  simp at c2 c3
  go_enter Try.func64, Try.ntmps64
  go_wp2
  go_quiet (fail)
  go_wp2
  go_ret
  exact ⟨ret_bool (by simp), _, rfl⟩

theorem ref_newS_ok (life : Nat) (w : World) (h1 : 1 ≤ life) (h2 : life ≤ Most) :
    Calls Try.prog 61 #[.int .u64 life] w fun e w' => e = .returned (.tuple #[.pointer (some ⟨w.heap.size, 0, none⟩), .int .i64 0]) ∧ RefS w' w.heap.size life 0 0 0 ∧ Grows w w' := by
  have i1 : ((life : Int) == 0) = false := by simp; omega
  have i2 : ¬ 1125899906842624 < (life : Int) := by simp only [Most] at h2; omega
  go_enter Try.func61, Try.ntmps61
  go_wp2
  go_ret2
  exact ⟨rfl, ⟨84, heap_alloc_new w _⟩, (Ext.refl _ _).alloc _⟩

theorem ref_use_no (w : World) (t own peer gr used : Nat) (h : RefS w t own peer gr used) (hlt : gr ≤ used) :
    Calls Try.prog 66 #[.pointer (some ⟨t, 0, none⟩)] w fun e w' => e = .returned (.tuple #[.int .u64 0, .int .i64 26]) ∧ Grows w w' := by
  go_enter Try.func66, Try.ntmps66
  go_wp2_with fail
  refine (ref_may w t own peer gr used h false (by simpa using hlt)).mono ?_
  rintro e w' ⟨rfl, m, rfl⟩
  go_wp2
  go_ret2
  exact ⟨rfl, ⟨rfl, rfl, rfl, Nat.le_refl _, fun _ _ _ => rfl⟩⟩

theorem ref_use_ok (w : World) (t own peer gr used : Nat) (h : RefS w t own peer gr used) (hlt : used < gr) (hm : gr ≤ Most) (n : Nat) (hn : used + 1 = n) :
    Calls Try.prog 66 #[.pointer (some ⟨t, 0, none⟩)] w fun e w' => e = .returned (.tuple #[.int .u64 n, .int .i64 0]) ∧ RefS w' t own peer gr n ∧ Ext (fun k => k = t) w w' := by
  have h0 := h
  obtain ⟨ty, hh⟩ := h0
  have c3 := cell_of_heap hh 3
  have f3 := frozen_of_heap hh 3
  simp at c3
  have hb : (used : Int) ≤ 1125899906842624 := by simp only [Most] at hm; omega
  go_enter Try.func66, Try.ntmps66
  go_wp2_with fail
  refine (ref_may w t own peer gr used h true (by simpa using hlt)).mono ?_
  rintro e w' ⟨rfl, m, rfl⟩
  go_wp2
  go_ret2
  subst hn
  have hh2 := setCell_heap (w := w.drewN m) hh 3 (.int .u64 ((used : Int) + 1))
  exact ⟨rfl, ⟨ty, by simpa using hh2⟩, Ext.setCell (S := fun k => k = t) (Ext.drewN m) ⟨t, 3, none⟩ (Or.inr rfl) _⟩

theorem ref_take_arg (w : World) (t : Nat) (life tw g : Nat) (hb : ¬ ((1 ≤ life ∧ life ≤ Most) ∧ tw ≤ Most ∧ g ≤ Most)) :
    Calls Try.prog 27 #[.pointer (some ⟨t, 0, none⟩), .int .u64 life, .int .u64 tw, .int .u64 g] w fun e w' => e = .returned (.int .i64 1) ∧ Grows w w' := by
  go_enter Try.func27, Try.ntmps27
  have hc : life = 0 ∨ (life ≠ 0 ∧ 1125899906842624 < life) ∨ (life ≠ 0 ∧ life ≤ 1125899906842624 ∧ 1125899906842624 < tw) ∨ (life ≠ 0 ∧ life ≤ 1125899906842624 ∧ tw ≤ 1125899906842624 ∧ 1125899906842624 < g) := by simp only [Most] at hb; omega
  clear hb
  rcases hc with h1 | ⟨h1, h2⟩ | ⟨h1, h2, h3⟩ | ⟨h1, h2, h3, h4⟩
  · have i1 : ((life : Int) == 0) = true := by simp; omega
    go_wp2
    go_ret
    exact ⟨rfl, Ext.refl _ _⟩
  · have i1 : ((life : Int) == 0) = false := by simp; omega
    have i2 : (1125899906842624 : Int) < (life : Int) := by omega
    go_wp2
    go_ret
    exact ⟨rfl, Ext.refl _ _⟩
  · have i1 : ((life : Int) == 0) = false := by simp; omega
    have i2 : ¬ (1125899906842624 : Int) < (life : Int) := by omega
    have i3 : (1125899906842624 : Int) < (tw : Int) := by omega
    go_wp2
    go_ret
    exact ⟨rfl, Ext.refl _ _⟩
  · have i1 : ((life : Int) == 0) = false := by simp; omega
    have i2 : ¬ (1125899906842624 : Int) < (life : Int) := by omega
    have i3 : ¬ (1125899906842624 : Int) < (tw : Int) := by omega
    have i4 : (1125899906842624 : Int) < (g : Int) := by omega
    go_wp2
    go_ret
    exact ⟨rfl, Ext.refl _ _⟩
theorem RefS.lt {w : World} {t own peer gr used : Nat} (h : RefS w t own peer gr used) : t < w.heap.size := by
  obtain ⟨ty, hh⟩ := h
  exact heap_lt hh
theorem RefR.lt {w : World} {t own peer gr used : Nat} (h : RefR w t own peer gr used) : t < w.heap.size := by
  obtain ⟨ty, hh⟩ := h
  exact heap_lt hh
theorem RefS.ext {S : Nat → Prop} {w w' : World} {t own peer gr used : Nat} (h : RefS w t own peer gr used) (g : Ext S w w') (hs : ¬ S t) : RefS w' t own peer gr used := by
  have hl := h.lt
  obtain ⟨ty, hh⟩ := h
  exact ⟨ty, (g.block t hl hs).trans hh⟩
theorem RefR.ext {S : Nat → Prop} {w w' : World} {t own peer gr used : Nat} (h : RefR w t own peer gr used) (g : Ext S w w') (hs : ¬ S t) : RefR w' t own peer gr used := by
  have hl := h.lt
  obtain ⟨ty, hh⟩ := h
  exact ⟨ty, (g.block t hl hs).trans hh⟩

theorem Ext.setT {t : Nat} {a w : World} (h : Ext (fun k => k = t) a w) (i : Nat) (u : Value) : Ext (fun k => k = t) a (w.setCell ⟨t, i, none⟩ u) := Ext.setCell (S := fun k => k = t) h ⟨t, i, none⟩ (Or.inr rfl) u

theorem ref_take_bad (w : World) (t own peer gr used life tw g : Nat) (h : RefS w t own peer gr used) (h1 : 1 ≤ life) (h2 : life ≤ Most) (h3 : tw ≤ Most) (h4 : g ≤ Most) (hb : tw ≠ own ∨ life < peer) :
    Calls Try.prog 27 #[.pointer (some ⟨t, 0, none⟩), .int .u64 life, .int .u64 tw, .int .u64 g] w fun e w' => e = .returned (.int .i64 22) ∧ Grows w w' := by
  obtain ⟨ty, hh⟩ := h
  have c0 := cell_of_heap hh 0
  have c1 := cell_of_heap hh 1
  simp at c0 c1
  have i1 : ((life : Int) == 0) = false := by simp; omega
  have i2 : ¬ (1125899906842624 : Int) < (life : Int) := by simp only [Most] at h2; omega
  have i3 : ¬ (1125899906842624 : Int) < (tw : Int) := by simp only [Most] at h3; omega
  have i4 : ¬ (1125899906842624 : Int) < (g : Int) := by simp only [Most] at h4; omega
  clear h1 h2 h3 h4 hh
  go_enter Try.func27, Try.ntmps27
  by_cases h5 : tw = own
  · subst h5
    have i6 : (life : Int) < (peer : Int) := by omega
    go_wp2
    go_ret
    exact ⟨rfl, Ext.refl _ _⟩
  · have i5 : ¬ (tw : Int) = (own : Int) := by omega
    clear h5 hb
    go_wp2
    go_ret
    exact ⟨rfl, Ext.refl _ _⟩

theorem ref_take_ok (w : World) (t own peer gr used life tw g : Nat) (h : RefS w t own peer gr used) (h1 : 1 ≤ life) (h2 : life ≤ Most) (h3 : tw ≤ Most) (h4 : g ≤ Most) (h5 : tw = own) (h6 : peer ≤ life) (G : Nat) (hG : (if peer < life then g else max g gr) = G) :
    Calls Try.prog 27 #[.pointer (some ⟨t, 0, none⟩), .int .u64 life, .int .u64 tw, .int .u64 g] w fun e w' => e = .returned (.int .i64 0) ∧ RefS w' t own life G used ∧ Ext (fun k => k = t) w w' := by
  obtain ⟨ty, hh⟩ := h
  have c0 := cell_of_heap hh 0
  have c1 := cell_of_heap hh 1
  have c2 := cell_of_heap hh 2
  have f1 := frozen_of_heap hh 1
  have f2 := frozen_of_heap hh 2
  simp at c0 c1 c2
  have i1 : ((life : Int) == 0) = false := by simp; omega
  have i2 : ¬ (1125899906842624 : Int) < (life : Int) := by simp only [Most] at h2; omega
  have i3 : ¬ (1125899906842624 : Int) < (tw : Int) := by simp only [Most] at h3; omega
  have i4 : ¬ (1125899906842624 : Int) < (g : Int) := by simp only [Most] at h4; omega
  subst h5
  have i6 : ¬ (life : Int) < (peer : Int) := by omega
  have HH := Lib.hid hh
  have HG := Lib.hid hG
  clear h1 h2 h3 h4 hh hG
  go_enter Try.func27, Try.ntmps27
  by_cases h7 : peer < life
  · have i7 : (peer : Int) < (life : Int) := by omega
    clear h6
    go_wp2
    go_ret
    have hg : g = G := by have := HG.out; rwa [if_pos h7] at this
    subst hg
    have a1 := setCell_heap HH.out 2 (.int .u64 (g : Int))
    have a2 := setCell_heap a1 1 (.int .u64 (life : Int))
    exact ⟨rfl, ⟨ty, by simpa using a2⟩, ((Ext.refl _ _).setT 2 _).setT 1 _⟩
  · have i7 : ¬ (peer : Int) < (life : Int) := by omega
    by_cases h8 : gr < g
    · have i8 : (gr : Int) < (g : Int) := by omega
      clear h6
      go_wp2
      go_ret
      have hg : g = G := by have := HG.out; rw [if_neg h7] at this; omega
      subst hg
      have a1 := setCell_heap HH.out 2 (.int .u64 (g : Int))
      have a2 := setCell_heap a1 1 (.int .u64 (life : Int))
      exact ⟨rfl, ⟨ty, by simpa using a2⟩, ((Ext.refl _ _).setT 2 _).setT 1 _⟩
    · have i8 : ¬ (gr : Int) < (g : Int) := by omega
      clear h6
      go_wp2
      go_ret
      have hg : gr = G := by have := HG.out; rw [if_neg h7] at this; omega
      subst hg
      have a2 := setCell_heap HH.out 1 (.int .u64 (life : Int))
      exact ⟨rfl, ⟨ty, by simpa using a2⟩, (Ext.refl _ _).setT 1 _⟩

theorem ref_take (w : World) (t own peer gr used life tw g : Nat) (h : RefS w t own peer gr used) :
    Calls Try.prog 27 #[.pointer (some ⟨t, 0, none⟩), .int .u64 life, .int .u64 tw, .int .u64 g] w fun e w' => e = .returned (.int .i64 (takeE own peer life tw g)) ∧
      RefS w' t own (takeP own peer life tw g) (takeG own peer gr life tw g) used ∧ Ext (fun k => k = t) w w' := by
  by_cases h1 : (1 ≤ life ∧ life ≤ Most) ∧ tw ≤ Most ∧ g ≤ Most
  · by_cases h2 : tw ≠ own ∨ life < peer
    · have hE : takeE own peer life tw g = 22 := by rw [takeE, if_pos h1, if_pos h2]
      refine (ref_take_bad w t own peer gr used life tw g h h1.1.1 h1.1.2 h1.2.1 h1.2.2 h2).mono ?_
      rintro e w' ⟨rfl, hg⟩
      exact ⟨by rw [hE], by rw [takeP, takeG, hE]; exact h.ext hg (fun h => h), hg.lift⟩
    · have hE : takeE own peer life tw g = 0 := by rw [takeE, if_pos h1, if_neg h2]
      refine (ref_take_ok w t own peer gr used life tw g h h1.1.1 h1.1.2 h1.2.1 h1.2.2 (by omega) (by omega) _ rfl).mono ?_
      rintro e w' ⟨rfl, hs, he⟩
      exact ⟨by rw [hE], by rw [takeP, takeG, hE, if_pos rfl, if_pos rfl]; exact hs, he⟩
  · have hE : takeE own peer life tw g = 1 := by rw [takeE, if_neg h1]
    refine (ref_take_arg w t life tw g h1).mono ?_
    rintro e w' ⟨rfl, hg⟩
    exact ⟨by rw [hE], by rw [takeP, takeG, hE]; exact h.ext hg (fun h => h), hg.lift⟩

theorem ref_newS_no (life : Nat) (w : World) (hb : ¬ (1 ≤ life ∧ life ≤ Most)) :
    Calls Try.prog 61 #[.int .u64 life] w fun e w' => e = .returned (.tuple #[.pointer none, .int .i64 1]) ∧ w = w' := by
  go_enter Try.func61, Try.ntmps61
  by_cases h1 : life = 0
  · have i1 : ((life : Int) == 0) = true := by simp; omega
    clear h1 hb
    go_wp2
    go_ret2
    exact ⟨rfl, rfl⟩
  · have i1 : ((life : Int) == 0) = false := by simp; omega
    have i2 : 1125899906842624 < (life : Int) := by simp only [Most] at hb; omega
    clear h1 hb
    go_wp2
    go_ret2
    exact ⟨rfl, rfl⟩
open Go.ChangeShapes Go.WideShapes Go.ChangeAt Go.RowKit

theorem reflater_any (a b c d : Nat) (w : World) : Calls Try.prog 90 #[.int .u64 a, .int .u64 b, .int .u64 c, .int .u64 d] w fun e w' => e = .returned (.bool (laterB a b c d)) ∧ w = w' := by
  go_enter Try.func90, Try.ntmps90
  by_cases h : a = c
  · subst h
    go_wp2
    go_ret
    exact ⟨ret_bool (by simp [laterB]), rfl⟩
  · have h1 : ¬ (a : Int) = (c : Int) := by omega
    go_wp2
    go_ret
    exact ⟨ret_bool (by simp [laterB, h]), rfl⟩

theorem Rs.drewN {w : World} {v : Value} {l : List RankA} (h : Rs w v l) (n : Nat) : Rs (w.drewN n) v l := h.grows (Ext.drewN_r n)

set_option maxRecDepth 4000 in
set_option maxHeartbeats 8000000 in
theorem refmay_any (life count base : Nat) (v : Value) (l : List RankA) (w : World) (h : Rs w v l) :
    Calls Try.prog 89 #[.int .u64 life, .int .u64 count, .int .u64 base, v] w fun e w' => e = .returned (.bool (mayB life count base l)) ∧ ∃ m, w' = w.drewN m := by
  obtain ⟨va, vc, rfl⟩ := h.form
  have NS := Lib.hid h
  clear h
  go_enter Try.func89, Try.ntmps89
  by_cases hall : (1 ≤ life ∧ life ≤ MostC) ∧ (1 ≤ count ∧ count ≤ MostC) ∧ base ≤ MostG
  · have HE := Lib.hid (show (decide (1 ≤ life ∧ life ≤ MostC) && decide (1 ≤ count ∧ count ≤ MostC)) = true ∧ decide (base ≤ MostG) = true ∧ finOf base = min (base + 16) 1099511627776 from ⟨by simp [hall.1, hall.2.1], by simpa using hall.2.2, rfl⟩)
    have i1 : ((life : Int) == 0) = false := by rw [beq_eq_false_iff_ne]; omega
    have i2 : ¬ (1125899906842624 : Int) < (life : Int) := by have := hall.1.2; simp only [MostC] at this; omega
    have i3 : ((count : Int) == 0) = false := by rw [beq_eq_false_iff_ne]; omega
    have i4 : ¬ (1125899906842624 : Int) < (count : Int) := by have := hall.2.1.2; simp only [MostC] at this; omega
    have i5 : ¬ (1099511627776 : Int) < (base : Int) := by have := hall.2.2; simp only [MostG] at this; omega
    have hb40 : (base : Int) ≤ 1099511627776 := by omega
    clear hall
    go_wp2
    clear i1 i2 i3 i4 i5
    go_loopg [9] l.length (fun k i wr => ∃ j m : Nat, k = l.length - j ∧ j ≤ l.length ∧ i = .int .i64 (j : Nat) ∧ wr = w.drewN m ∧ ∃ n, base ≤ n ∧ mayL (finOf base) base l = mayL (finOf base) n (l.drop j) ∧ (j = 0 → n = base) ∧ ∀ j', j = j' + 1 → ∃ hj : j' < l.length, n = l[j'].gen + 1)
    case atStart => exact ⟨0, 0, by omega, by omega, rfl, rfl, base, Nat.le_refl _, by rw [List.drop_zero], fun _ => rfl, fun j' h => by omega⟩
    case round =>
      obtain ⟨j, m, hk, hj, rfl, rfl, n, hbn, hm, hn0, hn1⟩ := hrel
      have HK := Lib.hid hk
      have HM := Lib.hid hm
      clear hk hm
      by_cases hlt : j < l.length
      · have hl47 : (l.length : Int) ≤ 8796093022208 := by have := NS.out.2; omega
        obtain ⟨b, off, cap, e, hbl, hc0, hc1, hok⟩ := NS.out.at j hlt
        injection e with e1 e2 e3
        subst e1 e3
        clear e2
        have c0 := hc0
        have c1 := hc1
        have j1 : (0 : Int) ≤ (j : Int) := by omega
        have j2 : (j : Int) < (l.length : Int) := by omega
        obtain ⟨g, hgg⟩ : ∃ g, l[j].gen = g := ⟨_, rfl⟩
        obtain ⟨x, hxx⟩ : ∃ x, l[j].rank = x := ⟨_, rfl⟩
        rw [hgg] at c0
        rw [hxx] at c1
        have HX := Lib.hid (And.intro hgg hxx)
        clear hbl hc0 hc1 hok hgg hxx
        have HF := Lib.hid (show (finOf base : Int) = min ((base : Int) + 16) 1099511627776 by rw [HE.out.2.2]; omega)
        have HNB := Lib.hid hbn
        by_cases hb : n ≤ g ∧ g < finOf base ∧ 1 ≤ x ∧ x ≤ 255
        · have t1 : ((g : Int) < (base : Int)) = False := eq_false (by omega)
          have t2 : ((base : Int) + 16 ≤ (g : Int)) = False := eq_false (by have := HF.out; omega)
          have t3 : ((1099511627776 : Int) ≤ (g : Int)) = False := eq_false (by have := HF.out; omega)
          have t4 : (x < 1) = False := eq_false (by omega)
          have t5 : (255 < x) = False := eq_false (by omega)
          have hbw : IntKind.u64.wrap ((base : Int) + 16) = (base : Int) + 16 := by rw [IntKind.wrap_u64]; omega
          have HB := Lib.hid hb
          have HN := Lib.hid (show mayL (finOf base) base l = mayL (finOf base) (g + 1) (l.drop (j + 1)) by
            rw [HM.out, mayL_good hlt (by rw [HX.out.1, HX.out.2]; exact hb), HX.out.1])
          clear hb hbn
          by_cases hz : j = 0
          · have z0 : ((0 : Int) < (j : Int)) = False := eq_false (by omega)
            have HT := Lib.hid (And.intro t1 (And.intro t2 (And.intro t3 (And.intro t4 (And.intro t5 (show (0 < j) = False from eq_false (by omega)))))))
            have HZ := Lib.hid hz
            clear hn0 hn1 hz t1 t2 t3 t4 t5 z0
            go_wp2
            obtain ⟨t1, t2, t3, t4, t5, t6⟩ := HT.out
            go_quiet (fail)
            clear t1 t2 t3 t4 t5 t6
            go_wp2
            go_roundg (l.length - (j + 1))
            case measure => have := HK.out; omega
            case rel => exact ⟨j + 1, _, rfl, by omega, by go_num, rfl, g + 1, by have := HB.out; have := HNB.out; omega, HN.out, fun h => by omega, fun j' h => by obtain rfl : j = j' := (by omega); exact ⟨hlt, by rw [HX.out.1]⟩⟩
          · obtain ⟨p, hp⟩ : ∃ p, j = p + 1 := ⟨j - 1, by omega⟩
            obtain ⟨hjl, hnn⟩ := hn1 p hp
            clear hn0 hn1
            obtain ⟨b', off', cap', e', _, hp0, _, _⟩ := NS.out.at p hjl
            injection e' with e1 e2 e3
            injection e1 with e1
            injection e1 with e4 e5 e6
            subst e4 e5 e3
            clear e2
            have p0 := hp0
            obtain ⟨pg, hpg⟩ : ∃ pg, l[p].gen = pg := ⟨_, rfl⟩
            rw [hpg] at p0 hnn
            have t6 : ((g : Int) ≤ (pg : Int)) = False := eq_false (by have := HB.out; omega)
            have HT := Lib.hid (And.intro t1 (And.intro t2 (And.intro t3 (And.intro t4 (And.intro t5 t6)))))
            clear t1 t2 t3 t4 t5 t6
            have z0 : (0 : Int) < (j : Int) := by omega
            have z1 : (j : Int) - 1 = (p : Int) := by omega
            have z2 : (0 : Int) ≤ (p : Int) := by omega
            have z3 : (p : Int) < (l.length : Int) := by omega
            have z4 : (0 < j) = True := eq_true (by omega)
            have HHI := Lib.hid hp
            have ZZ := Lib.hid (And.intro z0 (And.intro z1 (And.intro z2 (And.intro z3 z4))))
            clear hpg hp0 hnn hp hz z0 z1 z2 z3 z4
            go_wp2
            obtain ⟨t1, t2, t3, t4, t5, t6⟩ := HT.out
            obtain ⟨z0, z1, z2, z3, z4⟩ := ZZ.out
            go_quiet (fail)
            clear t1 t2 t3 t4 t5 t6 z0 z1 z2 z3 z4
            go_wp2
            go_roundg (l.length - (j + 1))
            case measure => have := HK.out; omega
            case rel => exact ⟨j + 1, _, rfl, by omega, by go_num, rfl, g + 1, by have := HB.out; have := HNB.out; omega, HN.out, fun h => by omega, fun j' h => by obtain rfl : j = j' := (by omega); exact ⟨hlt, by rw [HX.out.1]⟩⟩
        · have HB := Lib.hid (show mayL (finOf base) n (l.drop j) = false from mayL_bad hlt (by rw [HX.out.1, HX.out.2]; exact hb))
          have hbw : IntKind.u64.wrap ((base : Int) + 16) = (base : Int) + 16 := by rw [IntKind.wrap_u64]; omega
          have hff := HF.out
          by_cases u1 : g < base
          · have HT := Lib.hid (And.intro (show ((g : Int) < (base : Int)) = True from eq_true (by omega)) True.intro)
            clear hb u1 hff hn0 hn1 hbn
            go_wp2
            obtain ⟨t1, _⟩ := HT.out
            go_quiet (fail)
            go_wp2
            go_ret
            exact ⟨ret_bool (by rw [mayB, HM.out, HB.out]; simp), _, World.drewN_drewN _ _ _⟩
          · by_cases u2 : base + 16 ≤ g
            · have HT := Lib.hid (And.intro (show ((g : Int) < (base : Int)) = False from eq_false (by omega)) (show ((base : Int) + 16 ≤ (g : Int)) = True from eq_true (by omega)))
              clear hb u1 u2 hff hn0 hn1 hbn
              go_wp2
              obtain ⟨t1, t2⟩ := HT.out
              go_quiet (fail)
              go_wp2
              go_ret
              exact ⟨ret_bool (by rw [mayB, HM.out, HB.out]; simp), _, World.drewN_drewN _ _ _⟩
            · by_cases u3 : 1099511627776 ≤ g
              · have HT := Lib.hid (And.intro (show ((g : Int) < (base : Int)) = False from eq_false (by omega)) (And.intro (show ((base : Int) + 16 ≤ (g : Int)) = False from eq_false (by omega)) (show ((1099511627776 : Int) ≤ (g : Int)) = True from eq_true (by omega))))
                clear hb u1 u2 u3 hff hn0 hn1 hbn
                go_wp2
                obtain ⟨t1, t2, t3⟩ := HT.out
                go_quiet (fail)
                go_wp2
                go_ret
                exact ⟨ret_bool (by rw [mayB, HM.out, HB.out]; simp), _, World.drewN_drewN _ _ _⟩
              · have HT3 := (And.intro (show ((g : Int) < (base : Int)) = False from eq_false (by omega)) (And.intro (show ((base : Int) + 16 ≤ (g : Int)) = False from eq_false (by omega)) (show ((1099511627776 : Int) ≤ (g : Int)) = False from eq_false (by omega))))
                by_cases u4 : x < 1
                · have HT := Lib.hid (And.intro HT3 (show (x < 1) = True from eq_true u4))
                  clear HT3 hb u1 u2 u3 u4 hff hn0 hn1 hbn
                  go_wp2
                  obtain ⟨⟨t1, t2, t3⟩, t4⟩ := HT.out
                  go_quiet (fail)
                  go_wp2
                  go_ret
                  exact ⟨ret_bool (by rw [mayB, HM.out, HB.out]; simp), _, World.drewN_drewN _ _ _⟩
                · by_cases u5 : 255 < x
                  · have HT := Lib.hid (And.intro HT3 (And.intro (show (x < 1) = False from eq_false u4) (show (255 < x) = True from eq_true u5)))
                    clear HT3 hb u1 u2 u3 u4 u5 hff hn0 hn1 hbn
                    go_wp2
                    obtain ⟨⟨t1, t2, t3⟩, t4, t5⟩ := HT.out
                    go_quiet (fail)
                    go_wp2
                    go_ret
                    exact ⟨ret_bool (by rw [mayB, HM.out, HB.out]; simp), _, World.drewN_drewN _ _ _⟩
                  · have hng : g < n := by omega
                    have hz : j ≠ 0 := fun hz => by have := hn0 hz; omega
                    obtain ⟨p, hp⟩ : ∃ p, j = p + 1 := ⟨j - 1, by omega⟩
                    obtain ⟨hjl, hnn⟩ := hn1 p hp
                    obtain ⟨b', off', cap', e', _, hp0, _, _⟩ := NS.out.at p hjl
                    injection e' with e1 e2 e3
                    injection e1 with e1
                    injection e1 with e4 e5 e6
                    subst e4 e5 e3
                    clear e2
                    have p0 := hp0
                    obtain ⟨pg, hpg⟩ : ∃ pg, l[p].gen = pg := ⟨_, rfl⟩
                    rw [hpg] at p0 hnn
                    have HT := Lib.hid (And.intro HT3 (And.intro (show (x < 1) = False from eq_false u4) (And.intro (show (255 < x) = False from eq_false u5) (show ((g : Int) ≤ (pg : Int)) = True from eq_true (by omega)))))
                    have ZZ := Lib.hid (And.intro (show (0 : Int) < (j : Int) by omega) (And.intro (show (j : Int) - 1 = (p : Int) by omega) (And.intro (show (0 : Int) ≤ (p : Int) by omega) (And.intro (show (p : Int) < (l.length : Int) by omega) (show (0 < j) = True from eq_true (by omega))))))
                    clear HT3 hb u1 u2 u3 u4 u5 hff hn0 hn1 hbn hp hz hnn hpg hp0 hng
                    go_wp2
                    obtain ⟨z0, z1, z2, z3, z4⟩ := ZZ.out
                    obtain ⟨⟨t1, t2, t3⟩, t4, t5, t6⟩ := HT.out
                    go_quiet (fail)
                    go_wp2
                    go_ret
                    exact ⟨ret_bool (by rw [mayB, HM.out, HB.out]; simp), _, World.drewN_drewN _ _ _⟩
      · have j2 : ¬ (j : Int) < (l.length : Int) := by omega
        have HL := Lib.hid (show mayL (finOf base) base l = true by rw [HM.out, List.drop_of_length_le (by omega)]; rfl)
        go_wp2
        go_ret
        exact ⟨ret_bool (by rw [mayB, HE.out.1, HE.out.2.1, HL.out]; rfl), m, rfl⟩
  · have HE := Lib.hid (show mayB life count base l = false by
      rw [mayB]
      by_cases h1 : 1 ≤ life ∧ life ≤ MostC
      · by_cases h2 : 1 ≤ count ∧ count ≤ MostC
        · have h3 : ¬ base ≤ MostG := fun h3 => hall ⟨h1, h2, h3⟩
          rw [show decide (base ≤ MostG) = false by simpa using h3]; simp
        · rw [show decide (1 ≤ count ∧ count ≤ MostC) = false by simpa using h2]; simp
      · rw [show decide (1 ≤ life ∧ life ≤ MostC) = false by simpa using h1]; simp)
    have hc : life = 0 ∨ (life ≠ 0 ∧ 1125899906842624 < life) ∨ (life ≠ 0 ∧ life ≤ 1125899906842624 ∧ count = 0) ∨ (life ≠ 0 ∧ life ≤ 1125899906842624 ∧ count ≠ 0 ∧ 1125899906842624 < count) ∨ (life ≠ 0 ∧ life ≤ 1125899906842624 ∧ count ≠ 0 ∧ count ≤ 1125899906842624 ∧ 1099511627776 < base) := by simp only [MostC, MostG] at hall; omega
    clear hall
    rcases hc with h1 | ⟨h1, h2⟩ | ⟨h1, h2, h3⟩ | ⟨h1, h2, h3, h4⟩ | ⟨h1, h2, h3, h4, h5⟩
    · have i1 : ((life : Int) == 0) = true := by simp; omega
      clear h1
      go_wp2
      go_ret
      exact ⟨ret_bool HE.out.symm, 0, rfl⟩
    · have i1 : ((life : Int) == 0) = false := by rw [beq_eq_false_iff_ne]; omega
      have i2 : (1125899906842624 : Int) < (life : Int) := by omega
      clear h1 h2
      go_wp2
      go_ret
      exact ⟨ret_bool HE.out.symm, 0, rfl⟩
    · have i1 : ((life : Int) == 0) = false := by rw [beq_eq_false_iff_ne]; omega
      have i2 : ¬ (1125899906842624 : Int) < (life : Int) := by omega
      have i3 : ((count : Int) == 0) = true := by simp; omega
      clear h1 h2 h3
      go_wp2
      go_ret
      exact ⟨ret_bool HE.out.symm, 0, rfl⟩
    · have i1 : ((life : Int) == 0) = false := by rw [beq_eq_false_iff_ne]; omega
      have i2 : ¬ (1125899906842624 : Int) < (life : Int) := by omega
      have i3 : ((count : Int) == 0) = false := by rw [beq_eq_false_iff_ne]; omega
      have i4 : (1125899906842624 : Int) < (count : Int) := by omega
      clear h1 h2 h3 h4
      go_wp2
      go_ret
      exact ⟨ret_bool HE.out.symm, 0, rfl⟩
    · have i1 : ((life : Int) == 0) = false := by rw [beq_eq_false_iff_ne]; omega
      have i2 : ¬ (1125899906842624 : Int) < (life : Int) := by omega
      have i3 : ((count : Int) == 0) = false := by rw [beq_eq_false_iff_ne]; omega
      have i4 : ¬ (1125899906842624 : Int) < (count : Int) := by omega
      have i5 : (1099511627776 : Int) < (base : Int) := by omega
      clear h1 h2 h3 h4 h5
      go_wp2
      go_ret
      exact ⟨ret_bool HE.out.symm, 0, rfl⟩
def racells : List RankA → List Value
  | [] => []
  | r :: rest => .int .u64 r.gen :: .int .i64 r.rank :: racells rest
theorem racells_length : ∀ l : List RankA, (racells l).length = l.length * 2
  | [] => rfl
  | r :: rest => by rw [racells, List.length_cons, List.length_cons, racells_length rest, List.length_cons]; omega
theorem racells_get : ∀ (l : List RankA) (i : Nat) (hi : i < l.length), (racells l)[i * 2]? = some (.int .u64 l[i].gen) ∧ (racells l)[i * 2 + 1]? = some (.int .i64 l[i].rank)
  | r :: rest, 0, _ => by simp [racells]
  | r :: rest, i + 1, hi => by
    have := racells_get rest i (by simpa using hi)
    simp only [List.getElem_cons_succ]
    rw [show (i + 1) * 2 = i * 2 + 1 + 1 by omega, racells]
    simpa using this
theorem racells_one (l : List RankA) : ∀ u ∈ racells l, u.oneCell' = true := by
  induction l with
  | nil => intro u hu; simp [racells] at hu
  | cons r rest ih =>
    intro u hu
    simp only [racells, List.mem_cons] at hu
    rcases hu with rfl | rfl | hu
    · rfl
    · rfl
    · exact ih u hu

/-- Any ranks, as a source of append. -/
theorem Rs.src {w : World} {v : Value} {l : List RankA} (h : Rs w v l) : Src Try.prog 2 60 v l.length (racells l) w := by
  rcases h.1 with ⟨a, cap, rfl, h0⟩ | ⟨b, off, cap, rfl, hcap, hmax, hlt, hcell⟩
  · have hl : l = [] := List.eq_nil_of_length_eq_zero h0
    subst hl
    cases a with
    | none => exact Src.ofNil w Try.underlying60 cap
    | some x => exact Src.ofSlice w Try.underlying60 x 0 cap [] (by simp) (by simp) (by simp)
  · refine Src.ofSlice w Try.underlying60 ⟨b, off, none⟩ l.length cap (racells l) (racells_length l) (fun j u hj => ?_) (racells_one l)
    have hjl := (List.getElem?_eq_some_iff.1 hj).1
    rw [racells_length] at hjl
    have hplain : (⟨b, off, none⟩ : Addr).add j = ⟨b, off + j, none⟩ := by unfold Addr.add; split <;> simp_all
    obtain ⟨cs, _, ⟨r, hr, rfl, _⟩, hc⟩ := hcell (j / 2) (by omega)
    have h2 := hc (j % 2) (Nat.mod_lt _ (by omega))
    rw [Nat.add_assoc, show j / 2 * 2 + j % 2 = j by omega] at h2
    rw [hplain, h2, ← hj]
    rw [List.getElem?_eq_getElem (by omega)] at hr
    simp only [Option.some.injEq] at hr
    rw [← hr]
    have h3 := racells_get l (j / 2) (by omega)
    have hm : j % 2 = 0 ∨ j % 2 = 1 := by omega
    rcases hm with hm | hm
    · rw [hm, ← show (racells l)[j / 2 * 2]? = (racells l)[j]? by congr 1; omega, h3.1]; rfl
    · rw [hm, ← show (racells l)[j / 2 * 2 + 1]? = (racells l)[j]? by congr 1; omega, h3.2]; rfl
/-- Ranks that the call owns, as ranks. -/
theorem Rs.of_owns {w : World} {v : Value} {l : List RankA} (h : OwnS w 62 2 v l.length (racells l)) (hok : ∀ r ∈ l, r.okay) (hl : l.length * 16 ≤ 140737488351232) : Rs w v l := by
  refine ⟨?_, hl⟩
  rcases h.2 with ⟨rfl, h0⟩ | ⟨g, off, cap, cur, rfl, hg, h1, h2, h3, h4⟩
  · exact .inl ⟨none, 0, rfl, h0⟩
  · refine .inr ⟨g, off, cap, rfl, h1, h2, heap_lt hg, fun i hi => ⟨l[i].cells, rfl, ⟨l[i], List.getElem?_eq_getElem hi, rfl, hok _ (List.getElem_mem _)⟩, fun j hj => ?_⟩⟩
    rw [cell_of_heap hg, Nat.add_assoc, h4 _ (by omega)]
    have h5 := racells_get l i hi
    have hm : j = 0 ∨ j = 1 := by omega
    rcases hm with rfl | rfl
    · rw [Nat.add_zero, h5.1]; rfl
    · rw [h5.2]; rfl

/-- What the answer was told. -/
structure RefT (w : World) (t : Nat) (S : Nat → Prop) (life count base : Nat) (l : List RankA) : Prop where
  blk : ∃ ty vs, w.heap[t]? = some (.cells #[.int .u64 life, .int .u64 count, .int .u64 base, vs] ty (0, 0)) ∧ OwnS w 62 2 vs l.length (racells l) ∧ ∀ b, vs.ownBlock = some b → S b ∧ b ≠ t
  own : S t
theorem RefT.lt {w : World} {t : Nat} {S : Nat → Prop} {life count base : Nat} {l : List RankA} (h : RefT w t S life count base l) : t < w.heap.size := by
  obtain ⟨ty, vs, hh, _⟩ := h.blk
  exact heap_lt hh
theorem RefT.ext {w w' : World} {t : Nat} {S T : Nat → Prop} {life count base : Nat} {l : List RankA} (h : RefT w t S life count base l) (g : Ext T w w') (hd : ∀ k, S k → ¬ T k) : RefT w' t S life count base l := by
  have hl := h.lt
  obtain ⟨ty, vs, hh, ho, hb⟩ := h.blk
  exact ⟨⟨ty, vs, (g.block t hl (hd t h.own)).trans hh, ho.ext g (fun b hbb => hd b (hb b hbb).1), hb⟩, h.own⟩

theorem reftake_arg {w : World} {t : Nat} (life count base : Nat) (v : Value) (l : List RankA) (hr : Rs w v l) (hm : mayB life count base l = false) :
    Calls Try.prog 62 #[.pointer (some ⟨t, 0, none⟩), .int .u64 life, .int .u64 count, .int .u64 base, v] w fun e w' => e = .returned (.int .i64 1) ∧ Grows w w' := by
  have h2 := refmay_any life count base v l w hr
  rw [hm] at h2
  clear hr hm
  go_enter Try.func62, Try.ntmps62
  go_wp2_with fail
  refine h2.mono ?_
  rintro e w9 ⟨rfl, m, rfl⟩
  go_wp2
  go_ret
  exact ⟨rfl, Ext.drewN_r m⟩
theorem reftake_old {w : World} {t : Nat} {S : Nat → Prop} {life0 count0 base0 : Nat} {l0 : List RankA} (h : RefT w t S life0 count0 base0 l0) (life count base : Nat) (v : Value) (l : List RankA) (hr : Rs w v l) (hm : mayB life count base l = true) (hb : laterB life count life0 count0 = false) :
    Calls Try.prog 62 #[.pointer (some ⟨t, 0, none⟩), .int .u64 life, .int .u64 count, .int .u64 base, v] w fun e w' => e = .returned (.int .i64 22) ∧ Grows w w' := by
  have h2 := refmay_any life count base v l w hr
  rw [hm] at h2
  have hlat := fun w => reflater_any life count life0 count0 w
  rw [hb] at hlat
  obtain ⟨ty, vs, hh, _⟩ := h.blk
  have c0 := cell_of_heap hh 0
  have c1 := cell_of_heap hh 1
  simp at c0 c1
  have hl0 := heap_lt hh
  clear hr hm hb h hh
  go_enter Try.func62, Try.ntmps62
  go_wp2_with fail
  refine h2.mono ?_
  rintro e w9 ⟨rfl, m, rfl⟩
  have hg : Grows w (w.drewN m) := Ext.drewN_r m
  have d0 := (hg.cell hl0 (fun h => h)).trans c0
  have d1 := (hg.cell hl0 (fun h => h)).trans c1
  generalize w.drewN m = w1 at hg d0 d1 ⊢
  clear c0 c1
  go_wp2_with fail
  go_quiet (first | (go_at_call 90; exact quiet_same_r (hlat _)))
  go_wp2
  go_ret
  exact ⟨rfl, hg.trans (Ext.drewN_r _)⟩

theorem refrank_any {w : World} {t : Nat} {S : Nat → Prop} {life count base : Nat} {l : List RankA} (h : RefT w t S life count base l) (hl : l.length ≤ 16) (gen : Nat) (hk : ∀ r ∈ l, 1 ≤ r.rank) :
    Calls Try.prog 65 #[.pointer (some ⟨t, 0, none⟩), .int .u64 gen] w fun e w' => e = .returned (.int .i64 (rankOf gen (kept l))) ∧ w = w' := by
  obtain ⟨ty, vs, hh, ho, _⟩ := h.blk
  have c3 := cell_of_heap hh 3
  simp at c3
  obtain ⟨ua, uc, rfl⟩ := OwnS.form ho
  have HO := Lib.hid ho
  have HK1 := Lib.hid hk
  clear hh h ho hk
  go_enter Try.func65, Try.ntmps65
  go_wp2
  go_loopg [5] l.length (fun k i wr => ∃ j : Nat, k = l.length - j ∧ j ≤ l.length ∧ i = .int .i64 (j : Nat) ∧ wr = w ∧ ∀ i, (h : i < (kept l).length) → i < j → (kept l)[i].gen ≠ gen)
  case atStart => exact ⟨0, by omega, by omega, rfl, rfl, fun i _ h => by omega⟩
  case round =>
    obtain ⟨j, hk, hj, rfl, rfl, hn⟩ := hrel
    have HK := Lib.hid hk
    have HN := Lib.hid hn
    clear hk hn
    by_cases hlt : j < l.length
    · obtain ⟨g, off, cap, e, hgl, hcell, _⟩ := OwnS.cells HO.out (j * 2) (by omega)
      obtain ⟨g', off', cap', e', _, hcell', _⟩ := OwnS.cells HO.out (j * 2 + 1) (by omega)
      injection e with e1 e2 e3
      subst e1 e3
      clear e2
      injection e' with e1 e2 e3
      injection e1 with e1
      injection e1 with e4 e5 e6
      subst e4 e5 e3
      clear e2
      rw [(racells_get l j hlt).1] at hcell
      rw [(racells_get l j hlt).2, ← Nat.add_assoc] at hcell'
      have j1 : (0 : Int) ≤ (j : Int) := by omega
      have j2 : (j : Int) < (l.length : Int) := by omega
      obtain ⟨gn, hgn⟩ : ∃ gn, l[j].gen = gn := ⟨_, rfl⟩
      obtain ⟨rk, hrk⟩ : ∃ rk, l[j].rank = rk := ⟨_, rfl⟩
      have hpos := HK1.out l[j] (List.getElem_mem _)
      rw [hrk] at hpos
      rw [hgn] at hcell
      rw [hrk] at hcell'
      have HX := Lib.hid (show (kept l)[j]'(by rw [kept_length]; exact hlt) = ⟨gn, rk.toNat⟩ by simp [kept, hgn, hrk])
      have HP := Lib.hid hpos
      clear hgn hrk hpos
      by_cases he : gn = gen
      · subst he
        have HR := Lib.hid (idxOf_skip gn (kept l) j HN.out (by rw [kept_length]; exact hlt) (by rw [HX.out])).2
        go_wp2
        go_ret
        exact ⟨ret_int (by rw [HR.out, HX.out]; have := HP.out; simp; omega), rfl⟩
      · have he' : ¬ (gn : Int) = (gen : Int) := by omega
        have HE := Lib.hid he
        clear he
        go_wp2
        go_roundg (l.length - (j + 1))
        case measure => have := HK.out; omega
        case rel =>
          refine ⟨j + 1, rfl, by omega, by go_num, rfl, fun i hi hij => ?_⟩
          by_cases hij2 : i < j
          · exact HN.out i hi hij2
          · obtain rfl : i = j := by omega
            rw [HX.out]; exact HE.out
    · have j2 : ¬ (j : Int) < (l.length : Int) := by omega
      have HR := Lib.hid (idxOf_none gen (kept l) (fun i hi => HN.out i hi (by have := kept_length l; omega))).2
      go_wp2
      go_ret
      exact ⟨ret_int (by rw [HR.out]; rfl), rfl⟩
theorem Rs.ext2 {S : Nat → Prop} {w w' : World} {v : Value} {l : List RankA} (h : Rs w v l) (g : Ext S w w') (hs : ∀ b, v.ownBlock = some b → l ≠ [] → ¬ S b) : Rs w' v l := by
  by_cases hl : l = []
  · subst hl
    refine ⟨.inl ?_, by simp⟩
    obtain ⟨a, cap, rfl⟩ := h.form
    exact ⟨a, cap, rfl, rfl⟩
  · exact h.ext g (fun b hb _ => hs b hb hl)
theorem Rs.blk {w : World} {v : Value} {l : List RankA} (h : Rs w v l) (hl : l ≠ []) : ∀ b, v.ownBlock = some b → b < w.heap.size := by
  intro b hb
  rcases h.1 with ⟨a, cap, _, h2⟩ | ⟨b', off, cap, rfl, _, _, hb', _⟩
  · exact absurd (List.eq_nil_of_length_eq_zero h2) hl
  · simp only [Value.ownBlock, Option.some.injEq] at hb
    omega
set_option maxHeartbeats 4000000 in
theorem reftake_ok {w : World} {t : Nat} {S : Nat → Prop} {life0 count0 base0 : Nat} {l0 : List RankA} (h : RefT w t S life0 count0 base0 l0) (life count base : Nat) (v : Value) (l : List RankA) (hr : Rs w v l) (hv : ∀ b, v.ownBlock = some b → l ≠ [] → b ≠ t) (hm : mayB life count base l = true) (hb : laterB life count life0 count0 = true) :
    Calls Try.prog 62 #[.pointer (some ⟨t, 0, none⟩), .int .u64 life, .int .u64 count, .int .u64 base, v] w fun e w' => e = .returned (.int .i64 0) ∧ RefT w' t (fun k => S k ∨ w.heap.size ≤ k) life count base l ∧ Ext (fun k => k = t) w w' := by
  have h2 := refmay_any life count base v l w hr
  rw [hm] at h2
  have hlat := fun w => reflater_any life count life0 count0 w
  rw [hb] at hlat
  obtain ⟨ty, vs, hh, _⟩ := h.blk
  have hself := h.own
  have hl0 := heap_lt hh
  have HR := Lib.hid (And.intro hr (And.intro hv hself))
  have hlen := hr.2
  obtain ⟨va, vc, rfl⟩ := hr.form
  clear hr hm hb h hv hself
  go_enter Try.func62, Try.ntmps62
  go_wp2_with fail
  refine h2.mono ?_
  rintro e w9 ⟨rfl, m, rfl⟩
  clear h2
  have hg : Grows w (w.drewN m) := Ext.drewN_r m
  have hh1 := (hg.block t hl0 (fun h => h)).trans hh
  generalize w.drewN m = w1 at hg hh1 ⊢
  have d0 := cell_of_heap hh1 0
  have d1 := cell_of_heap hh1 1
  simp at d0 d1
  go_wp2_with fail
  go_quiet (first | (go_at_call 90; exact quiet_same_r (hlat _)))
  have hg2 : Grows w (w1.drewN nq) := hg.trans (Ext.drewN_r nq)
  have hh2 : (w1.drewN nq).heap[t]? = _ := hh1
  generalize w1.drewN nq = w2 at hg2 hh2 ⊢
  clear hg hh1 d0 d1 hlat hh
  have d0 := cell_of_heap hh2 0
  have d1 := cell_of_heap hh2 1
  have d2 := cell_of_heap hh2 2
  have d3 := cell_of_heap hh2 3
  have f0 := frozen_of_heap hh2 0
  have f1 := frozen_of_heap hh2 1
  have f2 := frozen_of_heap hh2 2
  have f3 := frozen_of_heap hh2 3
  simp at d0 d1 d2 d3
  have k4 := setCell_heap (setCell_heap (setCell_heap (setCell_heap hh2 0 (.int .u64 (life : Int))) 1 (.int .u64 (count : Int))) 2 (.int .u64 (base : Int))) 3 (.slice none 0 0)
  have e4 : Ext (fun k => k = t) w2 ((((w2.setCell ⟨t, 0, none⟩ (.int .u64 (life : Int))).setCell ⟨t, 1, none⟩ (.int .u64 (count : Int))).setCell ⟨t, 2, none⟩ (.int .u64 (base : Int))).setCell ⟨t, 3, none⟩ (.slice none 0 0)) :=
    ((((Ext.refl _ _).setT_r 0 _).setT_r 1 _).setT_r 2 _).setT_r 3 _
  have K4 := Lib.hid k4
  have E4 := Lib.hid (hg2.lift.trans e4)
  clear k4 e4 hg2 hh2
  go_upto_region 9 with fail
  generalize (((w2.setCell ⟨t, 0, none⟩ (.int .u64 (life : Int))).setCell ⟨t, 1, none⟩ (.int .u64 (count : Int))).setCell ⟨t, 2, none⟩ (.int .u64 (base : Int))).setCell ⟨t, 3, none⟩ (.slice none 0 0) = w3 at K4 E4 ⊢
  clear d0 d1 d2 d3 f0 f1 f2 f3
  have d3 := cell_of_heap K4.out 3
  simp at d3
  have hsrc := (HR.out.1.ext2 E4.out (fun b hb hne he => HR.out.2.1 b hb hne he)).src
  have own5 := OwnS.nil w3 62 2
  go_wp2_with (at_builtin; refine wpList_append_ownS rfl (.tmp 48) (.tmp 49) 60 60 rfl 62 (.agg #[.int .u64 0, .int .i64 0]) 2 16 Try.underlying60 infoRank rfl _ _ rfl rfl 0 [] own5 l.length (racells l) hsrc (by unfold maxLen; omega) (by omega) ?_)
  intro v' w6 hown6 hgr6 hblk6
  have hg6 : Grows w3 w6 := (Ext.of_grown (S := fun k => (Value.slice none 0 0).ownBlock = some k) hgr6 (fun _ hk => hk)).mono (fun k hk hh => by simp [Value.ownBlock] at hh)
  have ht3 := heap_lt K4.out
  have hh6 := (hg6.block t ht3 (fun h => h)).trans K4.out
  have d6 := cell_of_heap hh6 3
  have f6 := frozen_of_heap hh6 3
  simp at d6
  have hblk : ∀ b, v'.ownBlock = some b → b = w3.heap.size := by
    intro b hb
    rcases hblk6 with h | h
    · rw [h] at hb; simp [Value.ownBlock] at hb
    · rw [h] at hb; exact (Option.some.inj hb).symm
  have hs3 := E4.out.size
  have A := Lib.hid (And.intro hown6 (And.intro hg6 (And.intro hblk hh6)))
  have H3 := Lib.hid (And.intro ht3 hs3)
  clear hown6 hgr6 hblk6 hg6 hblk hh6 own5 hsrc ht3 hs3 d3
  obtain ⟨vb, vcc, rfl⟩ := OwnS.form A.out.1
  go_wp2
  go_ret
  have k6 := setCell_heap A.out.2.2.2 3 (.slice vb (0 + l.length) vcc)
  have e6 : Ext (fun k => k = t) w6 (w6.setCell ⟨t, 3, none⟩ (.slice vb (0 + l.length) vcc)) := (Ext.refl _ _).setT_r 3 _
  have e7 := (E4.out.trans A.out.2.1.lift).trans e6
  refine ⟨rfl, ⟨⟨ty, .slice vb (0 + l.length) vcc, by simpa using k6, ?_, fun b hb => ?_⟩, .inl HR.out.2.2⟩, by simpa using e7⟩
  · have := A.out.1.ext e6 (fun b hb he => by have := A.out.2.2.1 b (by simpa using hb); have := H3.out.1; omega)
    simpa using this
  · have := A.out.2.2.1 b (by simpa using hb)
    have := H3.out
    exact ⟨.inr (by omega), by omega⟩

theorem wantsB_iff' (L B : Nat) (K : List RankV) (gen : Nat) (own width : Int) : wantsB L B K gen own width = true ↔ 0 < L ∧ (1 ≤ width ∧ width ≤ 16) ∧ B ≤ gen ∧ (gen : Int) < min ((B : Int) + width) 1099511627776 ∧ (rankOf gen K : Int) < own := by
  rw [wantsB]
  simp only [Bool.and_eq_true, decide_eq_true_eq]
theorem wantsB_false' {L B : Nat} {K : List RankV} {gen : Nat} {own width : Int} (h : L = 0 ∨ width < 1 ∨ 16 < width) : wantsB L B K gen own width = false := by
  cases hb : wantsB L B K gen own width with
  | false => rfl
  | true =>
    rw [wantsB_iff'] at hb
    omega

end Go.Proofs.Ytekdggdnkmkldaa
