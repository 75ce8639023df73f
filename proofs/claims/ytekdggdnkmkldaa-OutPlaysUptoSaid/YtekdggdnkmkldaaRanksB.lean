/- ranks: what may be told. -/
import Derived.Test.YtekdggdnkmkldaaRanksA
import Derived.Test.YtekdggdnkmkldaaNums
import Derived.Deep.LoopGhost
namespace Go.Proofs.Ytekdggdnkmkldaa
set_option linter.unusedVariables false
set_option linter.unusedSimpArgs false
set_option maxRecDepth 1500
open Go.ChangeShapes Go.WideShapes Go.ChangeAt Go.RowKit

/-- A rank, as it comes. -/
structure RankA where
  gen : Nat
  rank : Int
def RankA.cells (r : RankA) : List Value := [.int .u64 r.gen, .int .i64 r.rank]
def RankA.okay (r : RankA) : Prop := r.gen < 18446744073709551616 ∧ -9223372036854775808 ≤ r.rank ∧ r.rank < 9223372036854775808
def Rs (w : World) (v : Value) (l : List RankA) : Prop := SliceR w v l.length 2 (fun i cs => ∃ r, l[i]? = some r ∧ cs = r.cells ∧ r.okay) ∧ l.length * 16 ≤ 140737488351232
theorem Rs.form {w : World} {v : Value} {l : List RankA} (h : Rs w v l) : ∃ a cap, v = .slice a l.length cap := by
  rcases h.1 with ⟨a, cap, h1, h2⟩ | ⟨b, off, cap, rfl, _⟩
  · exact ⟨a, cap, by rw [h1, h2]⟩
  · exact ⟨_, _, rfl⟩
theorem Rs.at {w : World} {v : Value} {l : List RankA} (h : Rs w v l) (i : Nat) (hi : i < l.length) :
    ∃ b off cap, v = .slice (some ⟨b, off, none⟩) l.length cap ∧ b < w.heap.size ∧ w.cell? ⟨b, off + i * 2, none⟩ = some (.int .u64 (l[i].gen : Nat)) ∧ w.cell? ⟨b, off + i * 2 + 1, none⟩ = some (.int .i64 l[i].rank) ∧ l[i].okay := by
  rcases h.1 with ⟨a, cap, h1, h2⟩ | ⟨b, off, cap, rfl, _, _, hb, h5⟩
  · omega
  · obtain ⟨cs, _, ⟨n, hn, rfl, hok⟩, hc⟩ := h5 i hi
    rw [List.getElem?_eq_getElem hi] at hn
    simp at hn
    subst hn
    have h0 := hc 0 (by omega)
    have h1 := hc 1 (by omega)
    simp only [RankA.cells, Nat.add_zero, List.getElem?_cons_zero, List.getElem?_cons_succ] at h0 h1
    exact ⟨b, off, cap, rfl, hb, h0, h1, hok⟩
theorem SliceR.ext {S : Nat → Prop} {w w' : World} {v : Value} {n k : Nat} {R : Nat → List Value → Prop} (h : SliceR w v n k R) (g : Ext S w w') (hs : ∀ b, v.ownBlock = some b → b < w.heap.size → ¬ S b) : SliceR w' v n k R := by
  rcases h with h | ⟨b, off, cap, rfl, h2, h3, h4, h5⟩
  · exact .inl h
  · refine .inr ⟨b, off, cap, rfl, h2, h3, Nat.lt_of_lt_of_le h4 g.size, fun i hi => ?_⟩
    obtain ⟨cs, a1, a2, a3⟩ := h5 i hi
    exact ⟨cs, a1, a2, fun j hj => (g.cell h4 (hs b rfl h4)).trans (a3 j hj)⟩
theorem Rs.ext {S : Nat → Prop} {w w' : World} {v : Value} {l : List RankA} (h : Rs w v l) (g : Ext S w w') (hs : ∀ b, v.ownBlock = some b → b < w.heap.size → ¬ S b) : Rs w' v l := ⟨h.1.ext g hs, h.2⟩
theorem Rs.grows {w w' : World} {v : Value} {l : List RankA} (h : Rs w v l) (g : Grows w w') : Rs w' v l := h.ext g (fun _ _ _ h => h)

def mayL (fin : Nat) : Nat → List RankA → Bool
  | _, [] => true
  | next, r :: rest => decide (next ≤ r.gen ∧ r.gen < fin ∧ 1 ≤ r.rank ∧ r.rank ≤ 255) && mayL fin (r.gen + 1) rest
def finOf (base : Nat) : Nat := min (base + 16) MostG
def mayB (life count base : Nat) (l : List RankA) : Bool := (decide (1 ≤ life ∧ life ≤ MostC) && decide (1 ≤ count ∧ count ≤ MostC)) && (decide (base ≤ MostG) && mayL (finOf base) base l)

theorem mayL_bad {fin n : Nat} {l : List RankA} {j : Nat} (hj : j < l.length) (hb : ¬ (n ≤ l[j].gen ∧ l[j].gen < fin ∧ 1 ≤ l[j].rank ∧ l[j].rank ≤ 255)) : mayL fin n (l.drop j) = false := by
  rw [List.drop_eq_getElem_cons hj, mayL, Bool.and_eq_false_iff]
  exact .inl (by simpa using hb)
theorem mayL_good {fin n : Nat} {l : List RankA} {j : Nat} (hj : j < l.length) (hb : n ≤ l[j].gen ∧ l[j].gen < fin ∧ 1 ≤ l[j].rank ∧ l[j].rank ≤ 255) : mayL fin n (l.drop j) = mayL fin (l[j].gen + 1) (l.drop (j + 1)) := by
  rw [List.drop_eq_getElem_cons hj, mayL, decide_eq_true hb, Bool.true_and]

/-- Beyond the greatest base nothing may be. -/
theorem mayB_far {life count base : Nat} {l : List RankA} (h : MostG < base) : mayB life count base l = false := by
  rw [mayB, show decide (base ≤ MostG) = false by simpa using h]
  simp

set_option maxHeartbeats 4000000 in
theorem rmay_any (life count base : Nat) (v : Value) (l : List RankA) (w : World) (h : Rs w v l) (hbb : base < 18446744073709551616) :
    Calls Try.prog 75 #[.int .u64 life, .int .u64 count, .int .u64 base, v] w fun e w' => e = .returned (.bool (mayB life count base l)) ∧ Grows w w' := by
  obtain ⟨va, vc, rfl⟩ := h.form
  have NS := Lib.hid h
  clear h
  have HBB := Lib.hid hbb
  clear hbb
  go_enter Try.func75, Try.ntmps75
  by_cases hb1 : base + 16 ≤ 1099511627776
  · have FE := Lib.hid (show finOf base = base + 16 by rw [finOf]; simp only [MostG]; omega)
    have m1 : ¬ (1099511627776 : Int) < (base : Int) := by omega
    have m2 : ¬ (1099511627776 : Int) < (base : Int) + 16 := by omega
    have m3 : (base : Int) ≤ 1099511627776 := by omega
    go_wp2
    go_loopg [20, 9] l.length (fun k i x wr => ∃ j n : Nat, k = l.length - j ∧ j ≤ l.length ∧ i = .int .i64 (j : Nat) ∧ x = .int .u64 (n : Nat) ∧ mayL (base + 16) base l = mayL (base + 16) n (l.drop j) ∧ Grows w wr)
    case atStart => exact ⟨0, base, by omega, by omega, rfl, rfl, by rw [List.drop_zero], Ext.refl _ _⟩
    case round =>
      obtain ⟨j, n, hk, hj, rfl, rfl, hm, hg⟩ := hrel
      have HK := Lib.hid hk
      have HM := Lib.hid hm
      have HG := Lib.hid hg
      clear hk hm hg
      by_cases hlt : j < l.length
      · obtain ⟨b, off, cap, e, hbl, hc0, hc1, hok⟩ := NS.out.at j hlt
        injection e with e1 e2 e3
        subst e1 e3
        clear e2
        have c0 := (HG.out.cell hbl (fun h => h)).trans hc0
        have c1 := (HG.out.cell hbl (fun h => h)).trans hc1
        have j1 : (0 : Int) ≤ (j : Int) := by omega
        have j2 : (j : Int) < (l.length : Int) := by omega
        obtain ⟨g, hgg⟩ : ∃ g, l[j].gen = g := ⟨_, rfl⟩
        obtain ⟨x, hxx⟩ : ∃ x, l[j].rank = x := ⟨_, rfl⟩
        rw [hgg] at c0
        rw [hxx] at c1
        have HX := Lib.hid (And.intro hgg hxx)
        clear hbl hc0 hc1 hok hgg hxx
        by_cases hb : n ≤ g ∧ g < (base + 16) ∧ 1 ≤ x ∧ x ≤ 255
        · have t1 : ¬ (g : Int) < (n : Int) := by omega
          have t2 : ¬ ((base : Int) + 16 : Int) ≤ (g : Int) := by omega
          have t3 : ¬ x < 1 := by omega
          have t4 : ¬ 255 < x := by omega
          have t5 : (g : Int) < 1099511627776 := by omega
          have HB := Lib.hid hb
          clear hb
          go_wp2
          go_roundg (l.length - (j + 1))
          case measure => have := HK.out; omega
          case rel =>
            refine ⟨j + 1, g + 1, rfl, by omega, (by have := NS.out.2; rw [show wrap64 ((j : Int) + 1) = ((j + 1 : Nat) : Int) by simp only [wrap64]; omega]), by go_num, ?_, HG.out.alloc _⟩
            have h1 := HX.out.1
            have h2 := HX.out.2
            have h3 := HB.out
            rw [HM.out, mayL_good hlt (by rw [h1, h2]; exact h3), h1]
        · have HB := Lib.hid (show mayL (base + 16) n (l.drop j) = false from mayL_bad hlt (by rw [HX.out.1, HX.out.2]; exact hb))
          have hc : (g : Int) < (n : Int) ∨ (¬ (g : Int) < (n : Int) ∧ ((base : Int) + 16 : Int) ≤ (g : Int)) ∨ (¬ (g : Int) < (n : Int) ∧ ¬ ((base : Int) + 16 : Int) ≤ (g : Int) ∧ x < 1) ∨ (¬ (g : Int) < (n : Int) ∧ ¬ ((base : Int) + 16 : Int) ≤ (g : Int) ∧ ¬ x < 1 ∧ 255 < x) := by omega
          clear hb
          rcases hc with t1 | ⟨t1, t2⟩ | ⟨t1, t2, t3⟩ | ⟨t1, t2, t3, t4⟩
          all_goals
            go_wp2
            go_ret
            exact ⟨ret_bool (by rw [mayB, FE.out, HM.out, HB.out]; simp), HG.out.alloc _⟩
      · have j2 : ¬ (j : Int) < (l.length : Int) := by omega
        have HE := Lib.hid (show mayL (base + 16) base l = true by rw [HM.out, List.drop_of_length_le (by omega)]; rfl)
        obtain ⟨b1, hb1⟩ : ∃ b, decide (1 ≤ life ∧ life ≤ MostC) = b := ⟨_, rfl⟩
        obtain ⟨b2, hb2⟩ : ∃ b, decide (1 ≤ count ∧ count ≤ MostC) = b := ⟨_, rfl⟩
        have HB := Lib.hid (And.intro hb1 hb2)
        have n1 := number_any life wr
        have n2 := number_any count wr
        rw [hb1] at n1
        rw [hb2] at n2
        clear hb1 hb2
        go_wp2_with fail
        refine n1.mono ?_
        rintro e w9 ⟨rfl, rfl⟩
        cases b1 with
        | false =>
          go_wp2
          go_ret
          exact ⟨ret_bool (by rw [mayB, HB.out.1]; simp), HG.out⟩
        | true =>
          go_wp2_with fail
          refine n2.mono ?_
          rintro e w9 ⟨rfl, rfl⟩
          cases b2 with
          | false =>
            go_wp2
            go_ret
            exact ⟨ret_bool (by rw [mayB, HB.out.2]; simp), HG.out⟩
          | true =>
            go_wp2
            go_ret
            exact ⟨ret_bool (by rw [mayB, HB.out.1, HB.out.2, FE.out, HE.out]; simp [MostG] <;> omega), HG.out⟩
  · by_cases hb2 : base ≤ 1099511627776
    · have FE := Lib.hid (show finOf base = 1099511627776 by rw [finOf]; simp only [MostG]; omega)
      have m1 : ¬ (1099511627776 : Int) < (base : Int) := by omega
      have m3 : (base : Int) ≤ 1099511627776 := by omega
      by_cases hb3 : base + 16 = 1099511627776
      · omega
      · have m2 : (1099511627776 : Int) < (base : Int) + 16 := by omega
        clear hb1 hb3
        have HB2 := Lib.hid hb2
        clear hb2
        go_wp2
        have hb2 := HB2.out
        go_loopg [20, 9] l.length (fun k i x wr => ∃ j n : Nat, k = l.length - j ∧ j ≤ l.length ∧ i = .int .i64 (j : Nat) ∧ x = .int .u64 (n : Nat) ∧ mayL 1099511627776 base l = mayL 1099511627776 n (l.drop j) ∧ Grows w wr)
        case atStart => exact ⟨0, base, by omega, by omega, rfl, rfl, by rw [List.drop_zero], Ext.refl _ _⟩
        case round =>
          obtain ⟨j, n, hk, hj, rfl, rfl, hm, hg⟩ := hrel
          have HK := Lib.hid hk
          have HM := Lib.hid hm
          have HG := Lib.hid hg
          clear hk hm hg
          by_cases hlt : j < l.length
          · obtain ⟨b, off, cap, e, hbl, hc0, hc1, hok⟩ := NS.out.at j hlt
            injection e with e1 e2 e3
            subst e1 e3
            clear e2
            have c0 := (HG.out.cell hbl (fun h => h)).trans hc0
            have c1 := (HG.out.cell hbl (fun h => h)).trans hc1
            have j1 : (0 : Int) ≤ (j : Int) := by omega
            have j2 : (j : Int) < (l.length : Int) := by omega
            obtain ⟨g, hgg⟩ : ∃ g, l[j].gen = g := ⟨_, rfl⟩
            obtain ⟨x, hxx⟩ : ∃ x, l[j].rank = x := ⟨_, rfl⟩
            rw [hgg] at c0
            rw [hxx] at c1
            have HX := Lib.hid (And.intro hgg hxx)
            clear hbl hc0 hc1 hok hgg hxx
            by_cases hb : n ≤ g ∧ g < 1099511627776 ∧ 1 ≤ x ∧ x ≤ 255
            · have t1 : ¬ (g : Int) < (n : Int) := by omega
              have t2 : ¬ ((1099511627776 : Int) : Int) ≤ (g : Int) := by omega
              have t3 : ¬ x < 1 := by omega
              have t4 : ¬ 255 < x := by omega
              have t5 : (g : Int) < 1099511627776 := by omega
              have HB := Lib.hid hb
              clear hb
              go_wp2
              go_roundg (l.length - (j + 1))
              case measure => have := HK.out; omega
              case rel =>
                refine ⟨j + 1, g + 1, rfl, by omega, (by have := NS.out.2; rw [show wrap64 ((j : Int) + 1) = ((j + 1 : Nat) : Int) by simp only [wrap64]; omega]), by go_num, ?_, HG.out.alloc _⟩
                have h1 := HX.out.1
                have h2 := HX.out.2
                have h3 := HB.out
                rw [HM.out, mayL_good hlt (by rw [h1, h2]; exact h3), h1]
            · have HB := Lib.hid (show mayL 1099511627776 n (l.drop j) = false from mayL_bad hlt (by rw [HX.out.1, HX.out.2]; exact hb))
              have hc : (g : Int) < (n : Int) ∨ (¬ (g : Int) < (n : Int) ∧ ((1099511627776 : Int) : Int) ≤ (g : Int)) ∨ (¬ (g : Int) < (n : Int) ∧ ¬ ((1099511627776 : Int) : Int) ≤ (g : Int) ∧ x < 1) ∨ (¬ (g : Int) < (n : Int) ∧ ¬ ((1099511627776 : Int) : Int) ≤ (g : Int) ∧ ¬ x < 1 ∧ 255 < x) := by omega
              clear hb
              rcases hc with t1 | ⟨t1, t2⟩ | ⟨t1, t2, t3⟩ | ⟨t1, t2, t3, t4⟩
              all_goals
                go_wp2
                go_ret
                exact ⟨ret_bool (by rw [mayB, FE.out, HM.out, HB.out]; simp), HG.out.alloc _⟩
          · have j2 : ¬ (j : Int) < (l.length : Int) := by omega
            have HE := Lib.hid (show mayL 1099511627776 base l = true by rw [HM.out, List.drop_of_length_le (by omega)]; rfl)
            obtain ⟨b1, hb1⟩ : ∃ b, decide (1 ≤ life ∧ life ≤ MostC) = b := ⟨_, rfl⟩
            obtain ⟨b2, hb2⟩ : ∃ b, decide (1 ≤ count ∧ count ≤ MostC) = b := ⟨_, rfl⟩
            have HB := Lib.hid (And.intro hb1 hb2)
            have n1 := number_any life wr
            have n2 := number_any count wr
            rw [hb1] at n1
            rw [hb2] at n2
            clear hb1 hb2
            go_wp2_with fail
            refine n1.mono ?_
            rintro e w9 ⟨rfl, rfl⟩
            cases b1 with
            | false =>
              go_wp2
              go_ret
              exact ⟨ret_bool (by rw [mayB, HB.out.1]; simp), HG.out⟩
            | true =>
              go_wp2_with fail
              refine n2.mono ?_
              rintro e w9 ⟨rfl, rfl⟩
              cases b2 with
              | false =>
                go_wp2
                go_ret
                exact ⟨ret_bool (by rw [mayB, HB.out.2]; simp), HG.out⟩
              | true =>
                go_wp2
                go_ret
                exact ⟨ret_bool (by rw [mayB, HB.out.1, HB.out.2, FE.out, HE.out]; simp [MostG] <;> omega), HG.out⟩
    · have FB := Lib.hid (show mayB life count base l = false from mayB_far (by simp only [MostG]; omega))
      have m1 : (1099511627776 : Int) < (base : Int) := by omega
      have m3 : ¬ (base : Int) ≤ 1099511627776 := by omega
      clear hb1 hb2
      go_wp2
      go_loopg [20, 9] l.length (fun k i x wr => ∃ j n : Nat, k = l.length - j ∧ j ≤ l.length ∧ i = .int .i64 (j : Nat) ∧ x = .int .u64 (n : Nat) ∧ (1099511627776 < n) ∧ Grows w wr)
      case atStart => exact ⟨0, base, by omega, by omega, rfl, rfl, by omega, Ext.refl _ _⟩
      case round =>
        obtain ⟨j, n, hk, hj, rfl, rfl, hm, hg⟩ := hrel
        have HK := Lib.hid hk
        have HG := Lib.hid hg
        clear hk hg
        by_cases hlt : j < l.length
        · obtain ⟨b, off, cap, e, hbl, hc0, hc1, hok⟩ := NS.out.at j hlt
          injection e with e1 e2 e3
          subst e1 e3
          clear e2
          have c0 := (HG.out.cell hbl (fun h => h)).trans hc0
          have c1 := (HG.out.cell hbl (fun h => h)).trans hc1
          have j1 : (0 : Int) ≤ (j : Int) := by omega
          have j2 : (j : Int) < (l.length : Int) := by omega
          obtain ⟨g, hgg⟩ : ∃ g, l[j].gen = g := ⟨_, rfl⟩
          obtain ⟨x, hxx⟩ : ∃ x, l[j].rank = x := ⟨_, rfl⟩
          rw [hgg] at c0
          rw [hxx] at c1
          clear hbl hc0 hc1 hok hgg hxx
          have hc : (g : Int) < (n : Int) ∨ (¬ (g : Int) < (n : Int) ∧ (1099511627776 : Int) ≤ (g : Int)) := by omega
          clear hm
          rcases hc with t1 | ⟨t1, t2⟩
          all_goals
            go_wp2
            go_ret
            exact ⟨ret_bool (by rw [FB.out]), HG.out.alloc _⟩
        · have j2 : ¬ (j : Int) < (l.length : Int) := by omega
          obtain ⟨b1, hb1⟩ : ∃ b, decide (1 ≤ life ∧ life ≤ MostC) = b := ⟨_, rfl⟩
          obtain ⟨b2, hb2⟩ : ∃ b, decide (1 ≤ count ∧ count ≤ MostC) = b := ⟨_, rfl⟩
          have n1 := number_any life wr
          have n2 := number_any count wr
          rw [hb1] at n1
          rw [hb2] at n2
          clear hb1 hb2 hm
          go_wp2_with fail
          refine n1.mono ?_
          rintro e w9 ⟨rfl, rfl⟩
          cases b1 with
          | false =>
            go_wp2
            go_ret
            exact ⟨ret_bool (by rw [FB.out]), HG.out⟩
          | true =>
            go_wp2_with fail
            refine n2.mono ?_
            rintro e w9 ⟨rfl, rfl⟩
            cases b2 with
            | false =>
              go_wp2
              go_ret
              exact ⟨ret_bool (by rw [FB.out]), HG.out⟩
            | true =>
              go_wp2
              go_ret
              exact ⟨ret_bool (by rw [FB.out]; exact decide_eq_false (by omega)), HG.out⟩

end Go.Proofs.Ytekdggdnkmkldaa
