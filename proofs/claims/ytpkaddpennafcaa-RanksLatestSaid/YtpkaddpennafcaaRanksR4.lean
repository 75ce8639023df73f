/- The document's answer for layer 18: Wants. -/
import Derived.Test.YtpkaddpennafcaaRanksR3
namespace Go.Proofs.Ytpkaddpennafcaa
set_option linter.unusedVariables false
set_option linter.unusedSimpArgs false
open Go.ChangeShapes Go.WideShapes Go.ChangeAt Go.RowKit

theorem wantsB_iff' (L B : Nat) (K : List RankV) (gen : Nat) (own width : Int) : wantsB L B K gen own width = true ↔ 0 < L ∧ (1 ≤ width ∧ width ≤ 16) ∧ B ≤ gen ∧ (gen : Int) < min ((B : Int) + width) 1099511627776 ∧ (rankOf gen K : Int) < own := by
  rw [wantsB]
  simp only [Bool.and_eq_true, decide_eq_true_eq]
theorem wantsB_false' {L B : Nat} {K : List RankV} {gen : Nat} {own width : Int} (h : L = 0 ∨ width < 1 ∨ 16 < width) : wantsB L B K gen own width = false := by
  cases hb : wantsB L B K gen own width with
  | false => rfl
  | true =>
    rw [wantsB_iff'] at hb
    omega

set_option maxHeartbeats 4000000 in
theorem refwants_any {w : World} {t : Nat} {S : Nat → Prop} {life count base : Nat} {l : List RankA} (h : RefT w t S life count base l) (hl : l.length ≤ 16) (hk : ∀ r ∈ l, 1 ≤ r.rank) (hb : base ≤ MostG) (gen : Nat) (own width : Int) :
    Calls Try.prog 26 #[.pointer (some ⟨t, 0, none⟩), .int .u64 gen, .int .i64 own, .int .i64 width] w fun e w' => e = .returned (.bool (wantsB life base (kept l) gen own width)) ∧ w = w' := by
  have HRK := Lib.hid (refrank_any h hl gen hk)
  obtain ⟨ty, vs, hh, _⟩ := h.blk
  have c0 := cell_of_heap hh 0
  have c2 := cell_of_heap hh 2
  simp at c0 c2
  have hb40 : (base : Int) ≤ 1099511627776 := by simp only [MostG] at hb; omega
  clear hh h hb hk
  go_enter Try.func26, Try.ntmps26
  by_cases h0 : life = 0
  · have i0 : ((life : Int) == 0) = true := by simp; omega
    have HF := Lib.hid (wantsB_false' (L := life) (B := base) (K := kept l) (gen := gen) (own := own) (width := width) (.inl h0))
    clear h0
    go_wp2
    go_ret
    exact ⟨ret_bool HF.out.symm, rfl⟩
  · have i0 : ((life : Int) == 0) = false := by rw [beq_eq_false_iff_ne]; omega
    by_cases w1 : width < 1
    · have HF := Lib.hid (wantsB_false' (L := life) (B := base) (K := kept l) (gen := gen) (own := own) (width := width) (.inr (.inl w1)))
      clear h0
      go_wp2
      go_ret
      exact ⟨ret_bool HF.out.symm, rfl⟩
    · by_cases w2 : 16 < width
      · have HF := Lib.hid (wantsB_false' (L := life) (B := base) (K := kept l) (gen := gen) (own := own) (width := width) (.inr (.inr w2)))
        clear h0
        go_wp2
        go_ret
        exact ⟨ret_bool HF.out.symm, rfl⟩
      · obtain ⟨wd, rfl⟩ := Int.eq_ofNat_of_zero_le (show 0 ≤ width by omega)
        have HL := Lib.hid (show 0 < life ∧ 1 ≤ wd ∧ wd ≤ 16 by omega)
        clear h0
        go_wp2
        clear i0 c0 w1 w2
        go_loopg [9] wd (fun k i wr => ∃ j : Nat, k = wd - j ∧ j ≤ wd ∧ i = .int .i64 (j : Nat) ∧ wr = w ∧ ∀ i, i < j → ¬ (base + i = gen ∧ gen < MostG))
        case atStart => exact ⟨0, by omega, by omega, rfl, rfl, fun i h => by omega⟩
        case round =>
          obtain ⟨j, hk, hj, rfl, rfl, hn⟩ := hrel
          have HK := Lib.hid hk
          have HN := Lib.hid hn
          clear hk hn
          by_cases hlt : j < wd
          · have j2 : (j : Int) < (wd : Int) := by omega
            have j3 : (j : Int) ≤ 16 := by have := HL.out; omega
            by_cases he : base + j = gen ∧ gen < MostG
            · have HE := Lib.hid he
              have e1 : (base : Int) + (j : Int) = (gen : Int) := by omega
              have e2 : (gen : Int) < 1099511627776 := by have := he.2; simp only [MostG] at this; omega
              clear he
              generalize hgi : (gen : Int) = gi at e1 e2 ⊢
              have HGI := Lib.hid hgi
              clear hgi
              have hcr := HRK.out
              rw [HGI.out] at hcr
              have HCR := Lib.hid hcr
              clear hcr
              go_wp2_with fail
              refine HCR.out.mono ?_
              rintro e w' ⟨rfl, rfl⟩
              clear e1 e2 HCR
              go_wp2
              go_ret
              refine ⟨ret_bool ?_, rfl⟩
              rw [Bool.eq_iff_iff, wantsB_iff']
              have h1 := HE.out
              have h2 := HL.out
              simp only [MostG] at h1
              simp only [decide_eq_true_eq]
              omega
            · have HE := Lib.hid he
              by_cases e1 : base + j = gen
              · have e2 : ¬ (gen : Int) < 1099511627776 := by
                  have : ¬ gen < MostG := fun h => he ⟨e1, h⟩
                  simp only [MostG] at this; omega
                have e3 : (base : Int) + (j : Int) = (gen : Int) := by omega
                clear he e1
                generalize hgi : (gen : Int) = gi at e2 e3 ⊢
                have HGI := Lib.hid hgi
                clear hgi
                go_wp2
                have hgi := HGI.out
                clear HGI
                subst hgi
                go_roundg (wd - (j + 1))
                case measure => have := HK.out; omega
                case rel => exact ⟨j + 1, rfl, by omega, by go_num, rfl, fun i hi => by
                  by_cases hij : i < j
                  · exact HN.out i hij
                  · obtain rfl : i = j := by omega
                    exact HE.out⟩
              · have e3 : ¬ (base : Int) + (j : Int) = (gen : Int) := by omega
                clear he e1
                generalize hgi : (gen : Int) = gi at e3 ⊢
                have HGI := Lib.hid hgi
                clear hgi
                go_wp2
                have hgi := HGI.out
                clear HGI
                subst hgi
                go_roundg (wd - (j + 1))
                case measure => have := HK.out; omega
                case rel => exact ⟨j + 1, rfl, by omega, by go_num, rfl, fun i hi => by
                  by_cases hij : i < j
                  · exact HN.out i hij
                  · obtain rfl : i = j := by omega
                    exact HE.out⟩
          · have j2 : ¬ (j : Int) < (wd : Int) := by omega
            have HF := Lib.hid (show wantsB life base (kept l) gen own (wd : Int) = false by
              cases hbw : wantsB life base (kept l) gen own (wd : Int) with
              | false => rfl
              | true =>
                rw [wantsB_iff'] at hbw
                have := HN.out (gen - base) (by omega)
                simp only [MostG] at this
                omega)
            go_wp2
            go_ret
            exact ⟨ret_bool HF.out.symm, rfl⟩

end Go.Proofs.Ytpkaddpennafcaa
