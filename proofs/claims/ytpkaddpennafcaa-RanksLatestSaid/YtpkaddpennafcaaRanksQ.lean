/- ranks: same (braidworklaw18), where two were told the same. -/
import Derived.Test.YtpkaddpennafcaaRanksP
namespace Go.Proofs.Ytpkaddpennafcaa
set_option linter.unusedVariables false
set_option linter.unusedSimpArgs false
open Go.ChangeShapes Go.WideShapes Go.ChangeAt Go.RowKit

def asA (K : List RankV) : List RankA := K.map fun r => ⟨r.gen, (r.rank : Int)⟩
theorem asA_length (K : List RankV) : (asA K).length = K.length := by simp [asA]
theorem racells_asA : ∀ K : List RankV, racells (asA K) = rcells K
  | [] => rfl
  | r :: rest => by
    show racells (⟨r.gen, (r.rank : Int)⟩ :: asA rest) = _
    rw [racells, rcells, racells_asA rest]
theorem asA_okay {K : List RankV} (h : ∀ r ∈ K, r.gen < MostG ∧ 1 ≤ r.rank ∧ r.rank ≤ 255) : ∀ r ∈ asA K, r.okay := by
  intro r hr
  simp only [asA, List.mem_map] at hr
  obtain ⟨x, hx, rfl⟩ := hr
  have := h x hx
  simp only [MostG] at this
  refine ⟨?_, ?_, ?_⟩ <;> simp only <;> omega

theorem told_same {w : World} {a b : Nat} {Sa Sb : Nat → Prop} {L C C' B : Nat} {K : List RankV} (ha : ToldAt w a Sa L C B K) (hb : ToldAt w b Sb L C' B K) :
    Calls Try.prog 28 #[.pointer (some ⟨a, 0, none⟩), .pointer (some ⟨b, 0, none⟩)] w fun e w' => e = .returned (.bool true) ∧ Grows w w' := by
  have HA := Lib.hid (And.intro ha hb)
  have hok := asA_okay ha.b5
  have h16 := ha.b4
  have HO := Lib.hid (And.intro hok h16)
  clear ha hb hok h16
  go_enter Try.func28, Try.ntmps28
  obtain ⟨bk, hbk⟩ : ∃ bk, decide (0 < L) = bk := ⟨_, rfl⟩
  have k1 := told_known HA.out.1
  have k2 := told_known HA.out.2
  rw [hbk] at k1 k2
  clear hbk
  go_wp2_with fail
  refine k1.mono ?_
  rintro e w9 ⟨rfl, rfl⟩
  clear k1
  go_wp2_with fail
  refine k2.mono ?_
  rintro e w9 ⟨rfl, rfl⟩
  clear k2
  go_wp2_with fail
  refine (told_life HA.out.1).mono ?_
  rintro e w9 ⟨rfl, rfl⟩
  go_wp2_with fail
  refine (told_life HA.out.2).mono ?_
  rintro e w9 ⟨rfl, rfl⟩
  go_wp2_with fail
  refine (told_base HA.out.1).mono ?_
  rintro e w9 ⟨rfl, rfl⟩
  go_wp2_with fail
  refine (told_base HA.out.2).mono ?_
  rintro e w9 ⟨rfl, rfl⟩
  go_wp2_with fail
  refine (told_ranks HA.out.1).mono ?_
  rintro e w1 ⟨v1, rfl, o1, _, g1⟩
  have O1 := Lib.hid (And.intro o1 g1)
  clear o1 g1
  go_wp2_with fail
  refine (told_ranks (HA.out.2.ext O1.out.2 (fun _ _ h => h))).mono ?_
  rintro e w2 ⟨v2, rfl, o2, _, g2⟩
  have r1 : Rs w2 v1 (asA K) := Rs.of_owns (by rw [racells_asA, asA_length]; exact O1.out.1.grows g2) HO.out.1 (by rw [asA_length]; have := HO.out.2; omega)
  have r2 : Rs w2 v2 (asA K) := Rs.of_owns (by rw [racells_asA, asA_length]; exact o2) HO.out.1 (by rw [asA_length]; have := HO.out.2; omega)
  have O2 := Lib.hid (And.intro r1 (And.intro r2 (O1.out.2.trans g2)))
  clear o2 g2 r1 r2
  go_wp2_with fail
  refine (refsame_any v1 v2 (asA K) w2 O2.out.1 O2.out.2.1).mono ?_
  rintro e w3 ⟨rfl, m, rfl⟩
  go_wp2
  go_ret
  exact ⟨rfl, O2.out.2.2.trans (Ext.drewN_r m)⟩

end Go.Proofs.Ytpkaddpennafcaa
