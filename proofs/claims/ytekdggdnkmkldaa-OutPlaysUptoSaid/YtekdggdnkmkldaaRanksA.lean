/- ranks: pairs; the small functions. -/
import Derived.Test.YtekdggdnkmkldaaRows
import Derived.WalkKit
import Derived.Test.YtekdggdnkmkldaaBase
import Derived.Test.YtekdggdnkmkldaaExact
import Derived.Test.YtekdggdnkmkldaaOwn
import Derived.Laws.ComplexArith
namespace Go.Proofs.Ytekdggdnkmkldaa
set_option linter.unusedVariables false
set_option linter.unusedSimpArgs false
set_option maxRecDepth 1500
open Go.RowKit

/-- 2^50; 2^40. -/
abbrev MostC : Nat := 1125899906842624
abbrev MostG : Nat := 1099511627776

theorem conv_u64r (n : Nat) (h : n ≤ MostC) (w : World) : (convert 163 27 (.float .f64 (fl n))).run Try.prog w = .ok (.int .u64 n) w :=
  run_convert_float_int w 163 27 .f64 .u64 (fl n) n (by rw [Try.underlying163]; rfl) Try.underlying27 (back (by simp only [MostC] at h; omega) .u64 ⟨by show (0 : Int) ≤ _; omega, by simp only [MostC] at h; show _ ≤ (18446744073709551615 : Int); omega⟩)

theorem rof_any (a b : Nat) (w : World) : Calls Try.prog 76 #[.int .u64 a, .int .u64 b] w fun e w' => e = .returned (.complex .f64 (fl a) (fl b)) ∧ w = w' := by
  have e1 := floatOfInt_fl a
  have e2 := floatOfInt_fl b
  go_enter Try.func76, Try.ntmps76
  go_wp2
  go_ret
  exact ⟨rfl, rfl⟩
theorem first_any (a b : Nat) (h : a ≤ MostC) (w : World) : Calls Try.prog 87 #[.complex .f64 (fl a) (fl b)] w fun e w' => e = .returned (.int .u64 a) ∧ w = w' := by
  have c1 := fun w => conv_u64r a h w
  go_enter Try.func87, Try.ntmps87
  go_wp2
  go_ret
  exact ⟨rfl, rfl⟩
theorem second_any (a b : Nat) (h : b ≤ MostC) (w : World) : Calls Try.prog 88 #[.complex .f64 (fl a) (fl b)] w fun e w' => e = .returned (.int .u64 b) ∧ w = w' := by
  have c1 := fun w => conv_u64r b h w
  go_enter Try.func88, Try.ntmps88
  go_wp2
  go_ret
  exact ⟨rfl, rfl⟩

theorem fl_zero' : fl 0 = 0 := nearest_zero 0
def laterB (a b c d : Nat) : Bool := decide (c < a) || (decide (a = c) && decide (d < b))
theorem later_any (a b c d : Nat) (ha : a ≤ MostC) (hb : b ≤ MostC) (hc : c ≤ MostC) (hd : d ≤ MostC) (w : World) :
    Calls Try.prog 77 #[.complex .f64 (fl a) (fl b), .complex .f64 (fl c) (fl d)] w fun e w' => e = .returned (.bool (laterB a b c d)) ∧ w = w' := by
  have o1 := order_fl (a := a) (b := c) (by simp only [MostC] at ha; omega) (by simp only [MostC] at hc; omega)
  have o2 := order_fl (a := b) (b := d) (by simp only [MostC] at hb; omega) (by simp only [MostC] at hd; omega)
  clear ha hb hc hd
  go_enter Try.func77, Try.ntmps77
  rcases Nat.lt_trichotomy a c with h | h | h
  · rw [Nat.compare_eq_lt.2 h] at o1
    have e : laterB a b c d = false := by simp [laterB]; omega
    rw [e]
    clear h e
    go_wp2
    go_ret
    exact ⟨rfl, rfl⟩
  · rw [Nat.compare_eq_eq.2 h] at o1
    rcases Nat.lt_or_ge d b with h2 | h2
    · rw [Nat.compare_eq_gt.2 h2] at o2
      have e : laterB a b c d = true := by simp [laterB, h, h2]
      rw [e]
      clear h e h2
      go_wp2
      go_ret
      exact ⟨rfl, rfl⟩
    · have e : laterB a b c d = false := by simp [laterB, h]; omega
      rw [e]
      rcases Nat.lt_or_eq_of_le h2 with h3 | h3
      · rw [Nat.compare_eq_lt.2 h3] at o2
        clear h e h2 h3
        go_wp2
        go_ret
        exact ⟨rfl, rfl⟩
      · rw [Nat.compare_eq_eq.2 h3] at o2
        clear h e h2 h3
        go_wp2
        go_ret
        exact ⟨rfl, rfl⟩
  · rw [Nat.compare_eq_gt.2 h] at o1
    have e : laterB a b c d = true := by simp [laterB, h]
    rw [e]
    clear h e
    go_wp2
    go_ret
    exact ⟨rfl, rfl⟩

theorem number_any (n : Nat) (w : World) : Calls Try.prog 92 #[.int .u64 n] w fun e w' => e = .returned (.bool (decide (1 ≤ n ∧ n ≤ MostC))) ∧ w = w' := by
  go_enter Try.func92, Try.ntmps92
  by_cases h1 : 1 ≤ n
  · have h1' : (1 : Int) ≤ (n : Int) := by omega
    by_cases h2 : n ≤ MostC
    · have h2' : (n : Int) ≤ 1125899906842624 := by simp only [MostC] at h2; omega
      go_wp2
      go_ret
      exact ⟨by simp [h1, h2], rfl⟩
    · have h2' : ¬ (n : Int) ≤ 1125899906842624 := by simp only [MostC] at h2; omega
      go_wp2
      go_ret
      exact ⟨by simp [h1, h2], rfl⟩
  · have h1' : ¬ (1 : Int) ≤ (n : Int) := by omega
    go_wp2
    go_ret
    exact ⟨by simp [h1], rfl⟩

/-- A rank that was told. -/
structure RankV where
  gen : Nat
  rank : Nat
def pcells (l : List RankV) : List Value := l.map fun r => .complex .f64 (fl r.gen) (fl r.rank)

/-- What was told: its block, its footprint. -/
structure ToldAt (w : World) (t : Nat) (S : Nat → Prop) (life count base : Nat) (l : List RankV) : Prop where
  blk : ∃ ty vs, w.heap[t]? = some (.cells #[.bool true, .complex .f64 (fl life) (fl count), .int .u64 base, vs] ty (0, 0)) ∧ OwnS w 140 1 vs l.length (pcells l) ∧ ∀ b, vs.ownBlock = some b → S b ∧ b ≠ t
  own : S t
  b1 : life ≤ MostC
  b2 : count ≤ MostC
  b3 : base ≤ MostG
  b4 : l.length ≤ 16
  b5 : ∀ r ∈ l, r.gen < MostG ∧ 1 ≤ r.rank ∧ r.rank ≤ 255
  b6 : life = 0 → count = 0
theorem ToldAt.lt {w : World} {t : Nat} {S : Nat → Prop} {life count base : Nat} {l : List RankV} (h : ToldAt w t S life count base l) : t < w.heap.size := by
  obtain ⟨ty, vs, hh, _⟩ := h.blk
  exact heap_lt hh
theorem ToldAt.ext {w w' : World} {t : Nat} {S T : Nat → Prop} {life count base : Nat} {l : List RankV} (h : ToldAt w t S life count base l) (g : Ext T w w') (hd : ∀ k, S k → ¬ T k) : ToldAt w' t S life count base l := by
  have hl := h.lt
  obtain ⟨ty, vs, hh, ho, hb⟩ := h.blk
  exact ⟨⟨ty, vs, (g.block t hl (hd t h.own)).trans hh, ho.ext g (fun b hbb => hd b (hb b hbb).1), hb⟩, h.own, h.b1, h.b2, h.b3, h.b4, h.b5, h.b6⟩

theorem rnone_nil (w : World) : Calls Try.prog 74 #[.pointer none] w fun e w' => e = .returned (.bool true) ∧ w = w' := by
  go_enter Try.func74, Try.ntmps74
  go_wp2
  go_ret
  exact ⟨rfl, rfl⟩
theorem rnone_bool (t : Nat) (b : Bool) (w : World) (h : w.cell? ⟨t, 0, none⟩ = some (.bool b)) : Calls Try.prog 74 #[.pointer (some ⟨t, 0, none⟩)] w fun e w' => e = .returned (.bool !b) ∧ w = w' := by
  go_enter Try.func74, Try.ntmps74
  go_wp2
  go_ret
  exact ⟨rfl, rfl⟩
theorem told_none {w : World} {t : Nat} {S : Nat → Prop} {life count base : Nat} {l : List RankV} (h : ToldAt w t S life count base l) : Calls Try.prog 74 #[.pointer (some ⟨t, 0, none⟩)] w fun e w' => e = .returned (.bool false) ∧ w = w' := by
  obtain ⟨ty, vs, hh, _⟩ := h.blk
  have c0 := cell_of_heap hh 0
  simp at c0
  exact rnone_bool t true w c0
theorem told_new (w : World) : Calls Try.prog 36 #[] w fun e w' => e = .returned (.pointer (some ⟨w.heap.size, 0, none⟩)) ∧ ToldAt w' w.heap.size (fun k => k = w.heap.size) 0 0 0 [] ∧ Grows w w' := by
  go_enter Try.func36, Try.ntmps36
  go_wp2
  go_ret
  refine ⟨rfl, ⟨⟨143, .slice none 0 0, ?_, OwnS.nil _ _ _, fun b hb => by simp [Value.ownBlock] at hb⟩, rfl, by simp [MostC], by simp [MostC], by simp [MostG], by simp, by simp, fun _ => rfl⟩, (Ext.refl _ _).alloc _⟩
  rw [fl_zero']
  exact heap_alloc_new w _
theorem told_known {w : World} {t : Nat} {S : Nat → Prop} {life count base : Nat} {l : List RankV} (h : ToldAt w t S life count base l) : Calls Try.prog 54 #[.pointer (some ⟨t, 0, none⟩)] w fun e w' => e = .returned (.bool (decide (0 < life))) ∧ w = w' := by
  have hn := told_none h
  have hz := h.b6
  obtain ⟨ty, vs, hh, _⟩ := h.blk
  have b1 := h.b1
  have b2 := h.b2
  have c1 := cell_of_heap hh 1
  simp at c1
  have o1 := order_fl (a := life) (b := 0) (by simp only [MostC] at b1; omega) (by omega)
  have o2 := order_fl (a := count) (b := 0) (by simp only [MostC] at b2; omega) (by omega)
  rw [fl_zero'] at o1 o2
  clear b1 b2 hh
  rcases Nat.eq_zero_or_pos life with h0 | h0
  · rw [Nat.compare_eq_eq.2 h0] at o1
    rw [Nat.compare_eq_eq.2 (hz h0)] at o2
    rw [show decide (0 < life) = false by simp [h0]]
    clear h h0 hz
    go_enter Try.func54, Try.ntmps54
    go_wp2_with fail
    refine hn.mono ?_
    rintro e w' ⟨rfl, rfl⟩
    go_wp2
    go_ret
    exact ⟨by simp [*], rfl⟩
  · rw [Nat.compare_eq_gt.2 h0] at o1
    rw [show decide (0 < life) = true by simp [h0]]
    clear h h0 hz
    go_enter Try.func54, Try.ntmps54
    go_wp2_with fail
    refine hn.mono ?_
    rintro e w' ⟨rfl, rfl⟩
    go_wp2
    go_ret
    exact ⟨by simp [*], rfl⟩
theorem told_base {w : World} {t : Nat} {S : Nat → Prop} {life count base : Nat} {l : List RankV} (h : ToldAt w t S life count base l) : Calls Try.prog 55 #[.pointer (some ⟨t, 0, none⟩)] w fun e w' => e = .returned (.int .u64 base) ∧ w = w' := by
  have hn := told_none h
  obtain ⟨ty, vs, hh, _⟩ := h.blk
  have c1 := cell_of_heap hh 2
  simp at c1
  go_enter Try.func55, Try.ntmps55
  go_wp2_with fail
  refine hn.mono ?_
  rintro e w' ⟨rfl, rfl⟩
  go_wp2
  go_ret
  exact ⟨rfl, rfl⟩

end Go.Proofs.Ytekdggdnkmkldaa
