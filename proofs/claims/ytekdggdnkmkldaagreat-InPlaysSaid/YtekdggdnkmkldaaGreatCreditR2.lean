/- The document's answer for layer 16: its functions, the rest. -/
import Derived.Test.YtekdggdnkmkldaaGreatCreditR
namespace Go.Proofs.YtekdggdnkmkldaaGreat
set_option linter.unusedVariables false
set_option linter.unusedSimpArgs false
set_option maxRecDepth 1500
open Go.RowKit

theorem RefS.lt {w : World} {t own peer gr used : Nat} (h : RefS w t own peer gr used) : t < w.heap.size := by
  obtain ⟨ty, hh⟩ := h
  exact heap_lt hh
theorem RefR.lt {w : World} {t own peer gr used : Nat} (h : RefR w t own peer gr used) : t < w.heap.size := by
  obtain ⟨ty, hh⟩ := h
  exact heap_lt hh
theorem RefS.ext {S : Nat → Prop} {w w' : World} {t own peer gr used : Nat} (h : RefS w t own peer gr used) (g : Ext S w w') (hs : ¬ S t) : RefS w' t own peer gr used := by
  have hl := h.lt
  obtain ⟨ty, hh⟩ := h
  exact ⟨ty, (g.block t hl hs).trans hh⟩
theorem RefR.ext {S : Nat → Prop} {w w' : World} {t own peer gr used : Nat} (h : RefR w t own peer gr used) (g : Ext S w w') (hs : ¬ S t) : RefR w' t own peer gr used := by
  have hl := h.lt
  obtain ⟨ty, hh⟩ := h
  exact ⟨ty, (g.block t hl hs).trans hh⟩

theorem Ext.setT {t : Nat} {a w : World} (h : Ext (fun k => k = t) a w) (i : Nat) (u : Value) : Ext (fun k => k = t) a (w.setCell ⟨t, i, none⟩ u) := Ext.setCell (S := fun k => k = t) h ⟨t, i, none⟩ (Or.inr rfl) u

theorem ref_newR_no (places : Int) (w : World) (h1 : places < 1 ∨ 64 < places) :
    Calls Tryz.prog 28 #[.int .i64 places] w fun e w' => e = .returned (.tuple #[.pointer none, .int .i64 1]) ∧ w = w' := by
  go_enter Tryz.func28, Tryz.ntmps28
  by_cases i1 : places < 1
  · go_wp2
    go_ret2
    exact ⟨rfl, rfl⟩
  · have i2 : 64 < places := by omega
    go_wp2
    go_ret2
    exact ⟨rfl, rfl⟩

theorem ref_saw_arg (w : World) (q : Nat) (life seq : Nat) (hb : ¬ ((1 ≤ life ∧ life ≤ Most) ∧ seq ≤ Most)) :
    Calls Tryz.prog 10 #[.pointer (some ⟨q, 0, none⟩), .int .u64 life, .int .u64 seq] w fun e w' => e = .returned (.int .i64 1) ∧ Grows w w' := by
  go_enter Tryz.func10, Tryz.ntmps10
  have hc : life = 0 ∨ (life ≠ 0 ∧ 1125899906842624 < life) ∨ (life ≠ 0 ∧ life ≤ 1125899906842624 ∧ 1125899906842624 < seq) := by simp only [Most] at hb; omega
  clear hb
  rcases hc with h1 | ⟨h1, h2⟩ | ⟨h1, h2, h3⟩
  · have i1 : ((life : Int) == 0) = true := by simp; omega
    go_wp2
    go_ret
    exact ⟨rfl, Ext.refl _ _⟩
  · have i1 : ((life : Int) == 0) = false := by simp; omega
    have i2 : (1125899906842624 : Int) < (life : Int) := by omega
    go_wp2
    go_ret
    exact ⟨rfl, Ext.refl _ _⟩
  · have i1 : ((life : Int) == 0) = false := by simp; omega
    have i2 : ¬ (1125899906842624 : Int) < (life : Int) := by omega
    have i3 : (1125899906842624 : Int) < (seq : Int) := by omega
    go_wp2
    go_ret
    exact ⟨rfl, Ext.refl _ _⟩

theorem ref_saw_less (w : World) (q places peer gr seen life seq : Nat) (h : RefR w q places peer gr seen) (h1 : 1 ≤ life) (h2 : life ≤ Most) (h3 : seq ≤ Most) (hb : life < peer) :
    Calls Tryz.prog 10 #[.pointer (some ⟨q, 0, none⟩), .int .u64 life, .int .u64 seq] w fun e w' => e = .returned (.int .i64 22) ∧ Grows w w' := by
  obtain ⟨ty, hh⟩ := h
  have c1 := cell_of_heap hh 1
  simp at c1
  have i1 : ((life : Int) == 0) = false := by simp; omega
  have i2 : ¬ (1125899906842624 : Int) < (life : Int) := by simp only [Most] at h2; omega
  have i3 : ¬ (1125899906842624 : Int) < (seq : Int) := by simp only [Most] at h3; omega
  have i6 : (life : Int) < (peer : Int) := by omega
  clear h1 h2 h3 hb hh
  go_enter Tryz.func10, Tryz.ntmps10
  go_wp2
  go_ret
  exact ⟨rfl, Ext.refl _ _⟩

theorem ref_saw_same (w : World) (q places peer gr seen life seq : Nat) (h : RefR w q places peer gr seen) (h1 : 1 ≤ life) (h2 : life ≤ Most) (h3 : seq ≤ Most) (hb : life = peer) (S : Nat) (hS : max seq seen = S) :
    Calls Tryz.prog 10 #[.pointer (some ⟨q, 0, none⟩), .int .u64 life, .int .u64 seq] w fun e w' => e = .returned (.int .i64 0) ∧ RefR w' q places life gr S ∧ Ext (fun k => k = q) w w' := by
  obtain ⟨ty, hh⟩ := h
  have c1 := cell_of_heap hh 1
  have c3 := cell_of_heap hh 3
  have f3 := frozen_of_heap hh 3
  simp at c1 c3
  have i1 : ((life : Int) == 0) = false := by simp; omega
  have i2 : ¬ (1125899906842624 : Int) < (life : Int) := by simp only [Most] at h2; omega
  have i3 : ¬ (1125899906842624 : Int) < (seq : Int) := by simp only [Most] at h3; omega
  have i6 : ¬ (life : Int) < (peer : Int) := by omega
  have i7 : ¬ (peer : Int) < (life : Int) := by omega
  have HH := Lib.hid hh
  have HS := Lib.hid hS
  have HB := Lib.hid hb
  clear h1 h2 h3 hb hh hS
  go_enter Tryz.func10, Tryz.ntmps10
  by_cases h8 : seen < seq
  · have i8 : (seen : Int) < (seq : Int) := by omega
    go_wp2
    go_ret
    have hs : seq = S := by have := HS.out; omega
    subst hs
    have a1 := setCell_heap HH.out 3 (.int .u64 (seq : Int))
    exact ⟨rfl, ⟨ty, by rw [HB.out]; simpa using a1⟩, (Ext.refl _ _).setT 3 _⟩
  · have i8 : ¬ (seen : Int) < (seq : Int) := by omega
    go_wp2
    go_ret
    have hs : seen = S := by have := HS.out; omega
    subst hs
    exact ⟨rfl, ⟨ty, by rw [HB.out]; exact HH.out⟩, Ext.refl _ _⟩

theorem ref_saw_more (w : World) (q places peer gr seen life seq : Nat) (h : RefR w q places peer gr seen) (h1 : 1 ≤ life) (h2 : life ≤ Most) (h3 : seq ≤ Most) (hb : peer < life) :
    Calls Tryz.prog 10 #[.pointer (some ⟨q, 0, none⟩), .int .u64 life, .int .u64 seq] w fun e w' => e = .returned (.int .i64 0) ∧ RefR w' q places life 0 seq ∧ Ext (fun k => k = q) w w' := by
  obtain ⟨ty, hh⟩ := h
  have c1 := cell_of_heap hh 1
  have c2 := cell_of_heap hh 2
  have c3 := cell_of_heap hh 3
  have f1 := frozen_of_heap hh 1
  have f2 := frozen_of_heap hh 2
  have f3 := frozen_of_heap hh 3
  simp at c1 c2 c3
  have i1 : ((life : Int) == 0) = false := by simp; omega
  have i2 : ¬ (1125899906842624 : Int) < (life : Int) := by simp only [Most] at h2; omega
  have i3 : ¬ (1125899906842624 : Int) < (seq : Int) := by simp only [Most] at h3; omega
  have i6 : ¬ (life : Int) < (peer : Int) := by omega
  have i7 : (peer : Int) < (life : Int) := by omega
  have HH := Lib.hid hh
  clear h1 h2 h3 hb hh
  go_enter Tryz.func10, Tryz.ntmps10
  have a1 := setCell_heap HH.out 1 (.int .u64 (life : Int))
  have a2 := setCell_heap a1 2 (.int .u64 (0 : Int))
  have a3 := setCell_heap a2 3 (.int .u64 (0 : Int))
  have e3 : Ext (fun k => k = q) w (((w.setCell ⟨q, 1, none⟩ (.int .u64 (life : Int))).setCell ⟨q, 2, none⟩ (.int .u64 (0 : Int))).setCell ⟨q, 3, none⟩ (.int .u64 (0 : Int))) :=
    (((Ext.refl _ _).setT 1 _).setT 2 _).setT 3 _
  have A3 := Lib.hid a3
  have E3 := Lib.hid e3
  clear a1 a2 a3 e3
  by_cases h8 : 0 < seq
  · have i8 : (0 : Int) < (seq : Int) := by omega
    go_wp2
    go_ret
    have a4 := setCell_heap A3.out 3 (.int .u64 (seq : Int))
    exact ⟨rfl, ⟨ty, by simpa using a4⟩, E3.out.setT 3 _⟩
  · have i8 : ¬ (0 : Int) < (seq : Int) := by omega
    go_wp2
    go_ret
    have hs : seq = 0 := by omega
    subst hs
    have a4 := A3.out
    exact ⟨rfl, ⟨ty, by simpa using a4⟩, E3.out⟩

theorem ref_saw (w : World) (q places peer gr seen life seq : Nat) (h : RefR w q places peer gr seen) :
    Calls Tryz.prog 10 #[.pointer (some ⟨q, 0, none⟩), .int .u64 life, .int .u64 seq] w fun e w' => e = .returned (.int .i64 (sawE peer life seq)) ∧
      RefR w' q places (sawP peer life seq) (sawG peer gr life seq) (sawS peer seen life seq) ∧ Ext (fun k => k = q) w w' := by
  by_cases h1 : (1 ≤ life ∧ life ≤ Most) ∧ seq ≤ Most
  · rcases Nat.lt_trichotomy life peer with h3 | h3 | h3
    · have hE : sawE peer life seq = 22 := by rw [sawE, if_pos h1, if_pos h3]
      refine (ref_saw_less w q places peer gr seen life seq h h1.1.1 h1.1.2 h1.2 h3).mono ?_
      rintro e w' ⟨rfl, hg⟩
      exact ⟨by rw [hE], by rw [sawP, sawG, sawS, hE]; exact h.ext hg (fun h => h), hg.lift⟩
    · have hE : sawE peer life seq = 0 := by rw [sawE, if_pos h1, if_neg (by omega)]
      refine (ref_saw_same w q places peer gr seen life seq h h1.1.1 h1.1.2 h1.2 h3 _ rfl).mono ?_
      rintro e w' ⟨rfl, hs, he⟩
      exact ⟨by rw [hE], by rw [sawP, sawG, sawS, hE, if_pos rfl, if_pos rfl, if_pos rfl, if_neg (by omega), if_neg (by omega)]; exact hs, he⟩
    · have hE : sawE peer life seq = 0 := by rw [sawE, if_pos h1, if_neg (by omega)]
      refine (ref_saw_more w q places peer gr seen life seq h h1.1.1 h1.1.2 h1.2 h3).mono ?_
      rintro e w' ⟨rfl, hs, he⟩
      exact ⟨by rw [hE], by rw [sawP, sawG, sawS, hE, if_pos rfl, if_pos rfl, if_pos rfl, if_pos h3, if_pos h3]; exact hs, he⟩
  · have hE : sawE peer life seq = 1 := by rw [sawE, if_neg h1]
    refine (ref_saw_arg w q life seq h1).mono ?_
    rintro e w' ⟨rfl, hg⟩
    exact ⟨by rw [hE], by rw [sawP, sawG, sawS, hE]; exact h.ext hg (fun h => h), hg.lift⟩

theorem ref_grant_arg (w : World) (q places peer gr seen : Nat) (free : Int) (h : RefR w q places peer gr seen) (hb : free < 0 ∨ (places : Int) < free) :
    Calls Tryz.prog 37 #[.pointer (some ⟨q, 0, none⟩), .int .i64 free] w fun e w' => e = .returned (.tuple #[.int .u64 0, .int .i64 1]) ∧ w = w' := by
  obtain ⟨ty, hh⟩ := h
  have c0 := cell_of_heap hh 0
  simp at c0
  go_enter Tryz.func37, Tryz.ntmps37
  by_cases i1 : free < 0
  · go_wp2
    go_ret2
    exact ⟨rfl, rfl⟩
  · have i2 : (places : Int) < free := by omega
    go_wp2
    go_ret2
    exact ⟨rfl, rfl⟩

theorem ref_grant_ok (w : World) (q places peer gr seen free : Nat) (h : RefR w q places peer gr seen) (hb : free ≤ places) (hp : places ≤ 64) (hs : seen ≤ Most) (G : Nat) (hG : grantG gr seen free = G) :
    Calls Tryz.prog 37 #[.pointer (some ⟨q, 0, none⟩), .int .i64 free] w fun e w' => e = .returned (.tuple #[.int .u64 G, .int .i64 0]) ∧ RefR w' q places peer G seen ∧ Ext (fun k => k = q) w w' := by
  obtain ⟨ty, hh⟩ := h
  have c0 := cell_of_heap hh 0
  have c2 := cell_of_heap hh 2
  have c3 := cell_of_heap hh 3
  have f2 := frozen_of_heap hh 2
  simp at c0 c2 c3
  have i1 : ¬ (free : Int) < 0 := by omega
  have i2 : ¬ (places : Int) < (free : Int) := by omega
  obtain ⟨n, hn⟩ : ∃ n, seen + free = n := ⟨_, rfl⟩
  have hn' : (seen : Int) + (free : Int) = (n : Int) := by omega
  have hs' : (seen : Int) ≤ 1125899906842624 := by simp only [Most] at hs; omega
  have hf' : (free : Int) ≤ 64 := by omega
  have HH := Lib.hid hh
  have HN := Lib.hid hn
  have HG := Lib.hid hG
  clear hs hh hn hG hb hp
  go_enter Tryz.func37, Tryz.ntmps37
  by_cases h3 : 1125899906842624 < n
  · have i3 : (1125899906842624 : Int) < (n : Int) := by omega
    by_cases h4 : gr < 1125899906842624
    · have i4 : (gr : Int) < (1125899906842624 : Int) := by omega
      have H3 := Lib.hid h3
      have H4 := Lib.hid h4
      clear h3 h4
      go_wp2
      go_ret2
      have hg : 1125899906842624 = G := by have h1 := HG.out; have h2 := HN.out; have := H3.out; have := H4.out; simp only [grantG, Most] at h1; omega
      subst hg
      have a1 := setCell_heap HH.out 2 (.int .u64 (1125899906842624 : Int))
      exact ⟨rfl, ⟨ty, by simpa using a1⟩, (Ext.refl _ _).setT 2 _⟩
    · have i4 : ¬ (gr : Int) < (1125899906842624 : Int) := by omega
      have H3 := Lib.hid h3
      have H4 := Lib.hid h4
      clear h3 h4
      go_wp2
      go_ret2
      have hg : gr = G := by have h1 := HG.out; have h2 := HN.out; have := H3.out; have := H4.out; simp only [grantG, Most] at h1; omega
      subst hg
      exact ⟨rfl, ⟨ty, HH.out⟩, Ext.refl _ _⟩
  · have i3 : ¬ (1125899906842624 : Int) < (n : Int) := by omega
    by_cases h4 : gr < n
    · have i4 : (gr : Int) < (n : Int) := by omega
      have hg : n = G := by have h1 := HG.out; have h2 := HN.out; simp only [grantG, Most] at h1; omega
      subst hg
      clear h3 h4
      go_wp2
      go_ret2
      have a1 := setCell_heap HH.out 2 (.int .u64 (n : Int))
      exact ⟨rfl, ⟨ty, by simpa using a1⟩, (Ext.refl _ _).setT 2 _⟩
    · have i4 : ¬ (gr : Int) < (n : Int) := by omega
      have hg : gr = G := by have h1 := HG.out; have h2 := HN.out; simp only [grantG, Most] at h1; omega
      subst hg
      clear h3 h4
      go_wp2
      go_ret2
      exact ⟨rfl, ⟨ty, HH.out⟩, Ext.refl _ _⟩

end Go.Proofs.YtekdggdnkmkldaaGreat
