/- The document's answer for layer 18: May, Later. -/
import Derived.Test.YtpkaddpennafcaaRanksT
namespace Go.Proofs.Ytpkaddpennafcaa
set_option linter.unusedVariables false
set_option linter.unusedSimpArgs false
open Go.ChangeShapes Go.WideShapes Go.ChangeAt Go.RowKit

theorem reflater_any (a b c d : Nat) (w : World) : Calls Try.prog 58 #[.int .u64 a, .int .u64 b, .int .u64 c, .int .u64 d] w fun e w' => e = .returned (.bool (laterB a b c d)) ∧ w = w' := by
  go_enter Try.func58, Try.ntmps58
  by_cases h : a = c
  · subst h
    go_wp2
    go_ret
    exact ⟨ret_bool (by simp [laterB]), rfl⟩
  · have h1 : ¬ (a : Int) = (c : Int) := by omega
    go_wp2
    go_ret
    exact ⟨ret_bool (by simp [laterB, h]), rfl⟩

theorem Rs.drewN {w : World} {v : Value} {l : List RankA} (h : Rs w v l) (n : Nat) : Rs (w.drewN n) v l := h.grows (Ext.drewN_r n)

set_option maxRecDepth 4000 in
set_option maxHeartbeats 8000000 in
theorem refmay_any (life count base : Nat) (v : Value) (l : List RankA) (w : World) (h : Rs w v l) :
    Calls Try.prog 57 #[.int .u64 life, .int .u64 count, .int .u64 base, v] w fun e w' => e = .returned (.bool (mayB life count base l)) ∧ ∃ m, w' = w.drewN m := by
  obtain ⟨va, vc, rfl⟩ := h.form
  have NS := Lib.hid h
  clear h
  go_enter Try.func57, Try.ntmps57
  by_cases hall : (1 ≤ life ∧ life ≤ MostC) ∧ (1 ≤ count ∧ count ≤ MostC) ∧ base ≤ MostG
  · have HE := Lib.hid (show (decide (1 ≤ life ∧ life ≤ MostC) && decide (1 ≤ count ∧ count ≤ MostC)) = true ∧ decide (base ≤ MostG) = true ∧ finOf base = min (base + 16) 1099511627776 from ⟨by simp [hall.1, hall.2.1], by simpa using hall.2.2, rfl⟩)
    have i1 : ((life : Int) == 0) = false := by rw [beq_eq_false_iff_ne]; omega
    have i2 : ¬ (1125899906842624 : Int) < (life : Int) := by have := hall.1.2; simp only [MostC] at this; omega
    have i3 : ((count : Int) == 0) = false := by rw [beq_eq_false_iff_ne]; omega
    have i4 : ¬ (1125899906842624 : Int) < (count : Int) := by have := hall.2.1.2; simp only [MostC] at this; omega
    have i5 : ¬ (1099511627776 : Int) < (base : Int) := by have := hall.2.2; simp only [MostG] at this; omega
    have hb40 : (base : Int) ≤ 1099511627776 := by omega
    clear hall
    go_wp2
    clear i1 i2 i3 i4 i5
    go_loopg [9] l.length (fun k i wr => ∃ j m : Nat, k = l.length - j ∧ j ≤ l.length ∧ i = .int .i64 (j : Nat) ∧ wr = w.drewN m ∧ ∃ n, base ≤ n ∧ mayL (finOf base) base l = mayL (finOf base) n (l.drop j) ∧ (j = 0 → n = base) ∧ ∀ j', j = j' + 1 → ∃ hj : j' < l.length, n = l[j'].gen + 1)
    case atStart => exact ⟨0, 0, by omega, by omega, rfl, rfl, base, Nat.le_refl _, by rw [List.drop_zero], fun _ => rfl, fun j' h => by omega⟩
    case round =>
      obtain ⟨j, m, hk, hj, rfl, rfl, n, hbn, hm, hn0, hn1⟩ := hrel
      have HK := Lib.hid hk
      have HM := Lib.hid hm
      clear hk hm
      by_cases hlt : j < l.length
      · have hl47 : (l.length : Int) ≤ 8796093022208 := by have := NS.out.2; omega
        obtain ⟨b, off, cap, e, hbl, hc0, hc1, hok⟩ := NS.out.at j hlt
        injection e with e1 e2 e3
        subst e1 e3
        clear e2
        have c0 := hc0
        have c1 := hc1
        have j1 : (0 : Int) ≤ (j : Int) := by omega
        have j2 : (j : Int) < (l.length : Int) := by omega
        obtain ⟨g, hgg⟩ : ∃ g, l[j].gen = g := ⟨_, rfl⟩
        obtain ⟨x, hxx⟩ : ∃ x, l[j].rank = x := ⟨_, rfl⟩
        rw [hgg] at c0
        rw [hxx] at c1
        have HX := Lib.hid (And.intro hgg hxx)
        clear hbl hc0 hc1 hok hgg hxx
        have HF := Lib.hid (show (finOf base : Int) = min ((base : Int) + 16) 1099511627776 by rw [HE.out.2.2]; omega)
        have HNB := Lib.hid hbn
        by_cases hb : n ≤ g ∧ g < finOf base ∧ 1 ≤ x ∧ x ≤ 255
        · have t1 : ((g : Int) < (base : Int)) = False := eq_false (by omega)
          have t2 : ((base : Int) + 16 ≤ (g : Int)) = False := eq_false (by have := HF.out; omega)
          have t3 : ((1099511627776 : Int) ≤ (g : Int)) = False := eq_false (by have := HF.out; omega)
          have t4 : (x < 1) = False := eq_false (by omega)
          have t5 : (255 < x) = False := eq_false (by omega)
          have hbw : IntKind.u64.wrap ((base : Int) + 16) = (base : Int) + 16 := by rw [IntKind.wrap_u64]; omega
          have HB := Lib.hid hb
          have HN := Lib.hid (show mayL (finOf base) base l = mayL (finOf base) (g + 1) (l.drop (j + 1)) by
            rw [HM.out, mayL_good hlt (by rw [HX.out.1, HX.out.2]; exact hb), HX.out.1])
          clear hb hbn
          by_cases hz : j = 0
          · have z0 : ((0 : Int) < (j : Int)) = False := eq_false (by omega)
            have HT := Lib.hid (And.intro t1 (And.intro t2 (And.intro t3 (And.intro t4 (And.intro t5 (show (0 < j) = False from eq_false (by omega)))))))
            have HZ := Lib.hid hz
            clear hn0 hn1 hz t1 t2 t3 t4 t5 z0
            go_wp2
            obtain ⟨t1, t2, t3, t4, t5, t6⟩ := HT.out
            go_quiet (fail)
            clear t1 t2 t3 t4 t5 t6
            go_wp2
            go_roundg (l.length - (j + 1))
            case measure => have := HK.out; omega
            case rel => exact ⟨j + 1, _, rfl, by omega, by go_num, rfl, g + 1, by have := HB.out; have := HNB.out; omega, HN.out, fun h => by omega, fun j' h => by obtain rfl : j = j' := (by omega); exact ⟨hlt, by rw [HX.out.1]⟩⟩
          · obtain ⟨p, hp⟩ : ∃ p, j = p + 1 := ⟨j - 1, by omega⟩
            obtain ⟨hjl, hnn⟩ := hn1 p hp
            clear hn0 hn1
            obtain ⟨b', off', cap', e', _, hp0, _, _⟩ := NS.out.at p hjl
            injection e' with e1 e2 e3
            injection e1 with e1
            injection e1 with e4 e5 e6
            subst e4 e5 e3
            clear e2
            have p0 := hp0
            obtain ⟨pg, hpg⟩ : ∃ pg, l[p].gen = pg := ⟨_, rfl⟩
            rw [hpg] at p0 hnn
            have t6 : ((g : Int) ≤ (pg : Int)) = False := eq_false (by have := HB.out; omega)
            have HT := Lib.hid (And.intro t1 (And.intro t2 (And.intro t3 (And.intro t4 (And.intro t5 t6)))))
            clear t1 t2 t3 t4 t5 t6
            have z0 : (0 : Int) < (j : Int) := by omega
            have z1 : (j : Int) - 1 = (p : Int) := by omega
            have z2 : (0 : Int) ≤ (p : Int) := by omega
            have z3 : (p : Int) < (l.length : Int) := by omega
            have z4 : (0 < j) = True := eq_true (by omega)
            have HHI := Lib.hid hp
            have ZZ := Lib.hid (And.intro z0 (And.intro z1 (And.intro z2 (And.intro z3 z4))))
            clear hpg hp0 hnn hp hz z0 z1 z2 z3 z4
            go_wp2
            obtain ⟨t1, t2, t3, t4, t5, t6⟩ := HT.out
            obtain ⟨z0, z1, z2, z3, z4⟩ := ZZ.out
            go_quiet (fail)
            clear t1 t2 t3 t4 t5 t6 z0 z1 z2 z3 z4
            go_wp2
            go_roundg (l.length - (j + 1))
            case measure => have := HK.out; omega
            case rel => exact ⟨j + 1, _, rfl, by omega, by go_num, rfl, g + 1, by have := HB.out; have := HNB.out; omega, HN.out, fun h => by omega, fun j' h => by obtain rfl : j = j' := (by omega); exact ⟨hlt, by rw [HX.out.1]⟩⟩
        · have HB := Lib.hid (show mayL (finOf base) n (l.drop j) = false from mayL_bad hlt (by rw [HX.out.1, HX.out.2]; exact hb))
          have hbw : IntKind.u64.wrap ((base : Int) + 16) = (base : Int) + 16 := by rw [IntKind.wrap_u64]; omega
          have hff := HF.out
          by_cases u1 : g < base
          · have HT := Lib.hid (And.intro (show ((g : Int) < (base : Int)) = True from eq_true (by omega)) True.intro)
            clear hb u1 hff hn0 hn1 hbn
            go_wp2
            obtain ⟨t1, _⟩ := HT.out
            go_quiet (fail)
            go_wp2
            go_ret
            exact ⟨ret_bool (by rw [mayB, HM.out, HB.out]; simp), _, World.drewN_drewN _ _ _⟩
          · by_cases u2 : base + 16 ≤ g
            · have HT := Lib.hid (And.intro (show ((g : Int) < (base : Int)) = False from eq_false (by omega)) (show ((base : Int) + 16 ≤ (g : Int)) = True from eq_true (by omega)))
              clear hb u1 u2 hff hn0 hn1 hbn
              go_wp2
              obtain ⟨t1, t2⟩ := HT.out
              go_quiet (fail)
              go_wp2
              go_ret
              exact ⟨ret_bool (by rw [mayB, HM.out, HB.out]; simp), _, World.drewN_drewN _ _ _⟩
            · by_cases u3 : 1099511627776 ≤ g
              · have HT := Lib.hid (And.intro (show ((g : Int) < (base : Int)) = False from eq_false (by omega)) (And.intro (show ((base : Int) + 16 ≤ (g : Int)) = False from eq_false (by omega)) (show ((1099511627776 : Int) ≤ (g : Int)) = True from eq_true (by omega))))
                clear hb u1 u2 u3 hff hn0 hn1 hbn
                go_wp2
                obtain ⟨t1, t2, t3⟩ := HT.out
                go_quiet (fail)
                go_wp2
                go_ret
                exact ⟨ret_bool (by rw [mayB, HM.out, HB.out]; simp), _, World.drewN_drewN _ _ _⟩
              · have HT3 := (And.intro (show ((g : Int) < (base : Int)) = False from eq_false (by omega)) (And.intro (show ((base : Int) + 16 ≤ (g : Int)) = False from eq_false (by omega)) (show ((1099511627776 : Int) ≤ (g : Int)) = False from eq_false (by omega))))
                by_cases u4 : x < 1
                · have HT := Lib.hid (And.intro HT3 (show (x < 1) = True from eq_true u4))
                  clear HT3 hb u1 u2 u3 u4 hff hn0 hn1 hbn
                  go_wp2
                  obtain ⟨⟨t1, t2, t3⟩, t4⟩ := HT.out
                  go_quiet (fail)
                  go_wp2
                  go_ret
                  exact ⟨ret_bool (by rw [mayB, HM.out, HB.out]; simp), _, World.drewN_drewN _ _ _⟩
                · by_cases u5 : 255 < x
                  · have HT := Lib.hid (And.intro HT3 (And.intro (show (x < 1) = False from eq_false u4) (show (255 < x) = True from eq_true u5)))
                    clear HT3 hb u1 u2 u3 u4 u5 hff hn0 hn1 hbn
                    go_wp2
                    obtain ⟨⟨t1, t2, t3⟩, t4, t5⟩ := HT.out
                    go_quiet (fail)
                    go_wp2
                    go_ret
                    exact ⟨ret_bool (by rw [mayB, HM.out, HB.out]; simp), _, World.drewN_drewN _ _ _⟩
                  · have hng : g < n := by omega
                    have hz : j ≠ 0 := fun hz => by have := hn0 hz; omega
                    obtain ⟨p, hp⟩ : ∃ p, j = p + 1 := ⟨j - 1, by omega⟩
                    obtain ⟨hjl, hnn⟩ := hn1 p hp
                    obtain ⟨b', off', cap', e', _, hp0, _, _⟩ := NS.out.at p hjl
                    injection e' with e1 e2 e3
                    injection e1 with e1
                    injection e1 with e4 e5 e6
                    subst e4 e5 e3
                    clear e2
                    have p0 := hp0
                    obtain ⟨pg, hpg⟩ : ∃ pg, l[p].gen = pg := ⟨_, rfl⟩
                    rw [hpg] at p0 hnn
                    have HT := Lib.hid (And.intro HT3 (And.intro (show (x < 1) = False from eq_false u4) (And.intro (show (255 < x) = False from eq_false u5) (show ((g : Int) ≤ (pg : Int)) = True from eq_true (by omega)))))
                    have ZZ := Lib.hid (And.intro (show (0 : Int) < (j : Int) by omega) (And.intro (show (j : Int) - 1 = (p : Int) by omega) (And.intro (show (0 : Int) ≤ (p : Int) by omega) (And.intro (show (p : Int) < (l.length : Int) by omega) (show (0 < j) = True from eq_true (by omega))))))
                    clear HT3 hb u1 u2 u3 u4 u5 hff hn0 hn1 hbn hp hz hnn hpg hp0 hng
                    go_wp2
                    obtain ⟨z0, z1, z2, z3, z4⟩ := ZZ.out
                    obtain ⟨⟨t1, t2, t3⟩, t4, t5, t6⟩ := HT.out
                    go_quiet (fail)
                    go_wp2
                    go_ret
                    exact ⟨ret_bool (by rw [mayB, HM.out, HB.out]; simp), _, World.drewN_drewN _ _ _⟩
      · have j2 : ¬ (j : Int) < (l.length : Int) := by omega
        have HL := Lib.hid (show mayL (finOf base) base l = true by rw [HM.out, List.drop_of_length_le (by omega)]; rfl)
        go_wp2
        go_ret
        exact ⟨ret_bool (by rw [mayB, HE.out.1, HE.out.2.1, HL.out]; rfl), m, rfl⟩
  · have HE := Lib.hid (show mayB life count base l = false by
      rw [mayB]
      by_cases h1 : 1 ≤ life ∧ life ≤ MostC
      · by_cases h2 : 1 ≤ count ∧ count ≤ MostC
        · have h3 : ¬ base ≤ MostG := fun h3 => hall ⟨h1, h2, h3⟩
          rw [show decide (base ≤ MostG) = false by simpa using h3]; simp
        · rw [show decide (1 ≤ count ∧ count ≤ MostC) = false by simpa using h2]; simp
      · rw [show decide (1 ≤ life ∧ life ≤ MostC) = false by simpa using h1]; simp)
    have hc : life = 0 ∨ (life ≠ 0 ∧ 1125899906842624 < life) ∨ (life ≠ 0 ∧ life ≤ 1125899906842624 ∧ count = 0) ∨ (life ≠ 0 ∧ life ≤ 1125899906842624 ∧ count ≠ 0 ∧ 1125899906842624 < count) ∨ (life ≠ 0 ∧ life ≤ 1125899906842624 ∧ count ≠ 0 ∧ count ≤ 1125899906842624 ∧ 1099511627776 < base) := by simp only [MostC, MostG] at hall; omega
    clear hall
    rcases hc with h1 | ⟨h1, h2⟩ | ⟨h1, h2, h3⟩ | ⟨h1, h2, h3, h4⟩ | ⟨h1, h2, h3, h4, h5⟩
    · have i1 : ((life : Int) == 0) = true := by simp; omega
      clear h1
      go_wp2
      go_ret
      exact ⟨ret_bool HE.out.symm, 0, rfl⟩
    · have i1 : ((life : Int) == 0) = false := by rw [beq_eq_false_iff_ne]; omega
      have i2 : (1125899906842624 : Int) < (life : Int) := by omega
      clear h1 h2
      go_wp2
      go_ret
      exact ⟨ret_bool HE.out.symm, 0, rfl⟩
    · have i1 : ((life : Int) == 0) = false := by rw [beq_eq_false_iff_ne]; omega
      have i2 : ¬ (1125899906842624 : Int) < (life : Int) := by omega
      have i3 : ((count : Int) == 0) = true := by simp; omega
      clear h1 h2 h3
      go_wp2
      go_ret
      exact ⟨ret_bool HE.out.symm, 0, rfl⟩
    · have i1 : ((life : Int) == 0) = false := by rw [beq_eq_false_iff_ne]; omega
      have i2 : ¬ (1125899906842624 : Int) < (life : Int) := by omega
      have i3 : ((count : Int) == 0) = false := by rw [beq_eq_false_iff_ne]; omega
      have i4 : (1125899906842624 : Int) < (count : Int) := by omega
      clear h1 h2 h3 h4
      go_wp2
      go_ret
      exact ⟨ret_bool HE.out.symm, 0, rfl⟩
    · have i1 : ((life : Int) == 0) = false := by rw [beq_eq_false_iff_ne]; omega
      have i2 : ¬ (1125899906842624 : Int) < (life : Int) := by omega
      have i3 : ((count : Int) == 0) = false := by rw [beq_eq_false_iff_ne]; omega
      have i4 : ¬ (1125899906842624 : Int) < (count : Int) := by omega
      have i5 : (1099511627776 : Int) < (base : Int) := by omega
      clear h1 h2 h3 h4 h5
      go_wp2
      go_ret
      exact ⟨ret_bool HE.out.symm, 0, rfl⟩

end Go.Proofs.Ytpkaddpennafcaa
