/- Whole numbers below 2^53 stand in a float64 as they are: back, compared, added. -/
import Derived.Laws.FloatArith
namespace Go.Proofs.Ytekdggdnkmkldaa
set_option linter.unusedVariables false
set_option linter.unusedSimpArgs false
set_option maxRecDepth 1500
open Ieee

/-- The word stands for the whole number a. -/
def Whole (x a : Nat) : Prop := ∃ (m : Nat) (i : Int), Ieee.double.read x = .number false m i ∧ (i ≤ 0 ∧ -1074 ≤ i) ∧ m = a * 2 ^ (-i).toNat

theorem shl_pow (a k : Nat) : a <<< k = a * 2 ^ k := Nat.shiftLeft_eq a k

theorem log2_mul_pow {n : Nat} (h : 1 ≤ n) (k : Nat) : (n * 2 ^ k).log2 = n.log2 + k := by
  have h1 : n ≠ 0 := by omega
  have hp : 0 < 2 ^ k := Nat.two_pow_pos k
  have h2 : n * 2 ^ k ≠ 0 := Nat.mul_ne_zero h1 (by omega)
  have a1 := Nat.log2_self_le h1
  have a2 := @Nat.lt_log2_self n
  refine Nat.le_antisymm ?_ ?_
  · refine Nat.le_of_lt_succ ((Nat.log2_lt h2).2 ?_)
    calc n * 2 ^ k < 2 ^ (n.log2 + 1) * 2 ^ k := Nat.mul_lt_mul_of_pos_right a2 hp
      _ = 2 ^ (n.log2 + k + 1) := by rw [← Nat.pow_add]; congr 1; omega
  · refine (Nat.le_log2 h2).2 ?_
    rw [Nat.pow_add]
    exact Nat.mul_le_mul_right _ a1

theorem cut_zero (way : Toward) (n : Nat) (hw : way = .even ∨ way = .zero) : way.cut false n 0 = n := by
  rcases hw with rfl | rfl <;> simp [Toward.cut, Nat.mod_one]

theorem cut_exact (way : Toward) (n k : Nat) (hn : 1 ≤ n) (hw : way = .even ∨ way = .zero) : way.cut false (n * 2 ^ k) k = n := by
  have hp : 0 < 2 ^ k := Nat.two_pow_pos k
  have hl : min k ((n * 2 ^ k).log2 + 2) = k := by rw [log2_mul_pow hn]; omega
  rcases hw with rfl | rfl <;> simp [Toward.cut, hl, Nat.shiftLeft_eq, Nat.mul_mod_left, Nat.mul_div_cancel _ hp]

/-- The word of a whole number, in whatever form. -/
theorem nearest_whole {n : Nat} (h : 1 ≤ n) (h53 : n < 2 ^ 53) (k : Nat) (hk : k ≤ 1074) : Ieee.double.nearest false (n * 2 ^ k) (-(k : Int)) = (n.log2 + 1022) * 2 ^ 52 + n * 2 ^ (52 - n.log2) := by
  have hp : 0 < 2 ^ k := Nat.two_pow_pos k
  have hn0 : n ≠ 0 := by omega
  have h0 : n * 2 ^ k ≠ 0 := Nat.mul_ne_zero hn0 (by omega)
  have hL : n.log2 ≤ 52 := by have := (Nat.log2_lt hn0).2 h53; omega
  generalize hLL : n.log2 = L at *
  have hlow : 2 ^ L ≤ n := by rw [← hLL]; exact Nat.log2_self_le hn0
  have hup : n < 2 ^ (L + 1) := by rw [← hLL]; exact Nat.lt_log2_self
  have hlp : Ieee.double.leastPlace = -1074 := by decide
  have hfb : Ieee.double.fractionBits = 52 := rfl
  have hbin : Ieee.double.binade = 2 ^ 52 := rfl
  have hinf : Ieee.double.infRung = 2047 * 2 ^ 52 := by decide
  have hkept : Toward.even.cut false ((n * 2 ^ k) <<< ((-(k : Int)) - ((L : Int) - 52)).toNat) (((L : Int) - 52) - (-(k : Int))).toNat = n * 2 ^ (52 - L) := by
    rcases Nat.lt_or_ge (52 - L) k with hlt | hge
    · have e1 : ((-(k : Int)) - ((L : Int) - 52)).toNat = 0 := by omega
      have e2 : (((L : Int) - 52) - (-(k : Int))).toNat = k - (52 - L) := by omega
      rw [e1, e2, Nat.shiftLeft_zero, show n * 2 ^ k = (n * 2 ^ (52 - L)) * 2 ^ (k - (52 - L)) by rw [Nat.mul_assoc, ← Nat.pow_add]; congr 2; omega]
      exact cut_exact _ _ _ (Nat.mul_pos (by omega) (Nat.two_pow_pos _)) (.inl rfl)
    · have e1 : ((-(k : Int)) - ((L : Int) - 52)).toNat = 52 - L - k := by omega
      have e2 : (((L : Int) - 52) - (-(k : Int))).toNat = 0 := by omega
      rw [e1, e2, cut_zero _ _ (.inl rfl), Nat.shiftLeft_eq, Nat.mul_assoc, ← Nat.pow_add]
      congr 2; omega
  have hlast : max (-(k : Int) + ((n * 2 ^ k).log2 : Nat) - (Ieee.double.fractionBits : Nat)) Ieee.double.leastPlace = (L : Int) - 52 := by
    rw [log2_mul_pow h, hLL, hlp, hfb]; omega
  have hk1 : n * 2 ^ (52 - L) < 2 ^ 53 := by
    calc n * 2 ^ (52 - L) < 2 ^ (L + 1) * 2 ^ (52 - L) := Nat.mul_lt_mul_of_pos_right hup (Nat.two_pow_pos _)
      _ = 2 ^ 53 := by rw [← Nat.pow_add]; congr 1; omega
  have hle : (L + 1022) * 2 ^ 52 ≤ 1074 * 2 ^ 52 := Nat.mul_le_mul_right _ (by omega)
  have hlt : (L + 1022) * 2 ^ 52 + n * 2 ^ (52 - L) ≤ 2047 * 2 ^ 52 := Nat.le_trans (Nat.add_le_add hle (Nat.le_of_lt hk1)) (by decide)
  have e3 : ((L : Int) - 52 - -1074).toNat = L + 1022 := by omega
  have key : ∀ last : Int, last = (L : Int) - 52 → Ieee.double.word false (min ((last - Ieee.double.leastPlace).toNat * Ieee.double.binade + Toward.even.cut false ((n * 2 ^ k) <<< (-(k : Int) - last).toNat) (last - -(k : Int)).toNat) Ieee.double.infRung) =
      (L + 1022) * 2 ^ 52 + n * 2 ^ (52 - L) := by
    intro last hl
    rw [hl, hkept, hlp, hbin, hinf, e3]
    rw [Nat.min_eq_left hlt]
    rfl
  generalize n * 2 ^ k = g at h0 hlast key ⊢
  unfold Format.nearest
  rw [if_neg h0]
  exact key _ hlast

theorem whole_word {n : Nat} (h : 1 ≤ n) (h53 : n < 2 ^ 53) : Whole ((n.log2 + 1022) * 2 ^ 52 + n * 2 ^ (52 - n.log2)) n := by
  have hn0 : n ≠ 0 := by omega
  have hL : n.log2 ≤ 52 := by have := (Nat.log2_lt hn0).2 h53; omega
  generalize hLL : n.log2 = L at *
  have hlow : 2 ^ L ≤ n := by rw [← hLL]; exact Nat.log2_self_le hn0
  have hup : n < 2 ^ (L + 1) := by rw [← hLL]; exact Nat.lt_log2_self
  have hk1 : n * 2 ^ (52 - L) < 2 ^ 53 := by
    calc n * 2 ^ (52 - L) < 2 ^ (L + 1) * 2 ^ (52 - L) := Nat.mul_lt_mul_of_pos_right hup (Nat.two_pow_pos _)
      _ = 2 ^ 53 := by rw [← Nat.pow_add]; congr 1; omega
  have hk0 : 2 ^ 52 ≤ n * 2 ^ (52 - L) := by
    calc 2 ^ 52 = 2 ^ L * 2 ^ (52 - L) := by rw [← Nat.pow_add]; congr 1; omega
      _ ≤ n * 2 ^ (52 - L) := Nat.mul_le_mul_right _ hlow
  have hlp : Ieee.double.leastPlace = -1074 := by decide
  have hbin : Ieee.double.binade = 2 ^ 52 := rfl
  have hinf : Ieee.double.infRung = 2047 * 2 ^ 52 := by decide
  have hsg : Ieee.double.signWeight = 2 ^ 63 := rfl
  refine ⟨n * 2 ^ (52 - L), (L : Int) - 52, ?_, ⟨by omega, by omega⟩, by congr 2; omega⟩
  generalize n * 2 ^ (52 - L) = m at hk0 hk1 ⊢
  have hr : (L + 1022) * 2 ^ 52 + m < 2 ^ 63 := by omega
  unfold Format.read
  simp only [hsg, hbin, hinf, hlp]
  have e1 : ((L + 1022) * 2 ^ 52 + m) / 2 ^ 63 = 0 := Nat.div_eq_of_lt hr
  have e2 : ((L + 1022) * 2 ^ 52 + m) % 2 ^ 63 = (L + 1022) * 2 ^ 52 + m := Nat.mod_eq_of_lt hr
  rw [e1, e2, if_neg (by omega), if_pos (by omega)]
  have e3 : ((L + 1022) * 2 ^ 52 + m) % 2 ^ 52 = m - 2 ^ 52 := by omega
  have e4 : ((L + 1022) * 2 ^ 52 + m) / 2 ^ 52 = L + 1023 := by omega
  rw [e3, e4]
  have e5 : 2 ^ 52 + (m - 2 ^ 52) = m := by omega
  have e6 : (-1074 : Int) + ((L + 1023 - 1 : Nat) : Int) = (L : Int) - 52 := by omega
  rw [e5, e6]
  simp

theorem whole_zero : Whole 0 0 := ⟨0, -1074, by decide, ⟨by omega, by omega⟩, (Nat.zero_mul _).symm⟩

/-- float64(n), as the model has it. -/
theorem nearest_zero (p : Int) : Ieee.double.nearest false 0 p = 0 := by simp [Format.nearest, Format.word]

theorem whole_of {n : Nat} (h53 : n < 2 ^ 53) (k : Nat) (hk : k ≤ 1074) : Whole (Ieee.double.nearest false (n * 2 ^ k) (-(k : Int))) n := by
  rcases Nat.eq_zero_or_pos n with rfl | h
  · simp only [Nat.zero_mul, nearest_zero]
    exact whole_zero
  · rw [nearest_whole h h53 k hk]
    exact whole_word h h53

theorem nearest_any {n : Nat} (h53 : n < 2 ^ 53) (k : Nat) (hk : k ≤ 1074) : Ieee.double.nearest false (n * 2 ^ k) (-(k : Int)) = Ieee.double.nearest false n 0 := by
  rcases Nat.eq_zero_or_pos n with rfl | h
  · simp only [Nat.zero_mul, nearest_zero]
  · have := nearest_whole h h53 0 (by omega)
    simp only [Nat.pow_zero, Nat.mul_one] at this
    rw [nearest_whole h h53 k hk, ← this]
    simp

/-- The word of a whole number. -/
def fl (n : Nat) : Nat := Ieee.double.nearest false n 0
theorem fl_whole {n : Nat} (h : n < 2 ^ 53) : Whole (fl n) n := by
  have := whole_of h 0 (by omega)
  simpa [fl] using this
theorem floatOfInt_fl (n : Nat) : floatOfInt .f64 (n : Int) = fl n := by
  have h : decide ((n : Int) < 0) = false := by simp
  simp only [floatOfInt, FloatKind.nearest, FloatKind.encode, FloatKind.format, Format.write, fl, h, Int.natAbs_natCast]

theorem toInt_whole {x a : Nat} (h : Whole x a) : (Ieee.double.read x).toInt .zero = some (a : Int) := by
  obtain ⟨m, i, h1, ⟨h2, _⟩, rfl⟩ := h
  rw [h1]
  have hi : i.toNat = 0 := by omega
  simp only [Datum.toInt, Datum.integral, hi, Nat.shiftLeft_zero, signed, Bool.false_eq_true, if_false]
  rcases Nat.eq_zero_or_pos a with rfl | ha
  · simp [Toward.cut]
  · rw [cut_exact _ _ _ ha (.inr rfl)]

theorem back {n : Nat} (h : n < 2 ^ 53) (k : IntKind) (hk : k.min ≤ (n : Int) ∧ (n : Int) ≤ k.max) : floatToIntVal .f64 (fl n) k = some (n : Int) := by
  have := toInt_whole (fl_whole h)
  simp only [floatToIntVal, FloatKind.decode, FloatKind.format, this, hk.1, hk.2, and_self, if_true]

theorem shift_up {a : Nat} {i base : Int} (h : base ≤ i) (hi : i ≤ 0) : (a * 2 ^ (-i).toNat) <<< (i - base).toNat = a * 2 ^ (-base).toNat := by
  rw [Nat.shiftLeft_eq, Nat.mul_assoc, ← Nat.pow_add]
  congr 2; omega

theorem order_whole {x y a b : Nat} (hx : Whole x a) (hy : Whole y b) : Ieee.double.order x y = some (compare a b) := by
  obtain ⟨m, i, h1, ⟨h2, _⟩, rfl⟩ := hx
  obtain ⟨m', j, h3, ⟨h4, _⟩, rfl⟩ := hy
  simp only [Format.order, h1, h3, Datum.order, signed, Bool.false_eq_true, if_false]
  rw [shift_up (by omega) h2, shift_up (by omega) h4]
  have hp : 0 < 2 ^ (-(min i j)).toNat := Nat.two_pow_pos _
  generalize 2 ^ (-(min i j)).toNat = p at hp ⊢
  congr 1
  simp only [compare, compareOfLessAndEq]
  rcases Nat.lt_trichotomy a b with h | h | h
  · have : a * p < b * p := Nat.mul_lt_mul_of_pos_right h hp
    have h9 : ((a * p : Nat) : Int) < ((b * p : Nat) : Int) := by omega
    rw [if_pos h9, if_pos h]
  · subst h; simp
  · have : b * p < a * p := Nat.mul_lt_mul_of_pos_right h hp
    rw [if_neg (by omega), if_neg (by omega), if_neg (by omega), if_neg (by omega)]

theorem order_fl {a b : Nat} (ha : a < 2 ^ 53) (hb : b < 2 ^ 53) : FloatKind.f64.format.order (fl a) (fl b) = some (compare a b) := order_whole (fl_whole ha) (fl_whole hb)

theorem add_fl {a b : Nat} (ha : a + b < 2 ^ 53) : floatBits .add .f64 (fl a) (fl b) = some (fl (a + b)) := by
  obtain ⟨m, i, h1, ⟨h2, h5⟩, rfl⟩ := fl_whole (n := a) (by omega)
  obtain ⟨m', j, h3, ⟨h4, h6⟩, rfl⟩ := fl_whole (n := b) (by omega)
  simp only [floatBits, FloatKind.format, Format.add, h1, h3, Datum.sum, signed, Bool.false_eq_true, if_false]
  rw [shift_up (by omega) h2, shift_up (by omega) h4]
  have hb : (-(min i j)).toNat ≤ 1074 := by omega
  have hbb : min i j = -(((-(min i j)).toNat : Nat) : Int) := by omega
  generalize (-(min i j)).toNat = k at hb hbb ⊢
  rw [hbb]
  have ht : (((a * 2 ^ k : Nat) : Int) + ((b * 2 ^ k : Nat) : Int)) = (((a + b) * 2 ^ k : Nat) : Int) := by push_cast; rw [Int.add_mul]
  rw [ht]
  have hneg : (if (((a + b) * 2 ^ k : Nat) : Int) = 0 then (false && false) else decide ((((a + b) * 2 ^ k : Nat) : Int) < 0)) = false := by
    split
    · rfl
    · simp only [decide_eq_false_iff_not]; omega
  simp only [hneg, Option.map_some, Format.write, Int.natAbs_natCast]
  rw [nearest_any ha k hb]
  rfl

end Go.Proofs.Ytekdggdnkmkldaa
