/- ranks: what the call itself made and told. -/
import Derived.Test.YtekdggdnkmkldaaRanksE
namespace Go.Proofs.Ytekdggdnkmkldaa
set_option linter.unusedVariables false
set_option linter.unusedSimpArgs false
set_option maxRecDepth 1500
open Go.ChangeShapes Go.WideShapes Go.ChangeAt Go.RowKit

def takeRE (life0 count0 life count base : Nat) (l : List RankA) : Int := if mayB life count base l then (if laterB life count life0 count0 then 0 else 22) else 1

theorem ToldAt.mono {w : World} {t : Nat} {S T : Nat → Prop} {life count base : Nat} {l : List RankV} (h : ToldAt w t S life count base l) (hst : ∀ k, S k → T k) : ToldAt w t T life count base l := by
  obtain ⟨ty, vs, hh, ho, hb⟩ := h.blk
  exact ⟨⟨ty, vs, hh, ho, fun b hbb => ⟨hst _ (hb b hbb).1, (hb b hbb).2⟩⟩, hst _ h.own, h.b1, h.b2, h.b3, h.b4, h.b5, h.b6⟩

/-- Something told that the call made. -/
structure TN (w wr : World) (t life count base : Nat) (l : List RankV) : Prop where
  told : ToldAt wr t (fun k => w.heap.size ≤ k) life count base l
  grows : Grows w wr

section
variable {w wr w' : World} {t life count base : Nat} {l : List RankV}
theorem TN.more (h : TN w wr t life count base l) (g : Grows wr w') : TN w w' t life count base l := ⟨h.told.ext g (fun _ _ h => h), h.grows.trans g⟩
theorem tn_new (hg : Grows w wr) (ht : wr.heap.size = t) : Calls Try.prog 36 #[] wr fun e w' => e = .returned (.pointer (some ⟨t, 0, none⟩)) ∧ TN w w' t 0 0 0 [] := by
  subst ht
  refine (told_new wr).mono ?_
  rintro e w' ⟨rfl, h, g⟩
  have hs := hg.size
  exact ⟨rfl, h.mono (fun k hk => by omega), hg.trans g⟩
theorem tn_take_ok (h : TN w wr t life count base l) (life1 count1 base1 : Nat) (v : Value) (l1 : List RankA) (hr : Rs wr v l1) (hbb : base1 < 18446744073709551616) (hE : takeRE life count life1 count1 base1 l1 = 0) :
    Calls Try.prog 40 #[.pointer (some ⟨t, 0, none⟩), .int .u64 life1, .int .u64 count1, .int .u64 base1, v] wr fun e w' => e = .returned (.int .i64 0) ∧ TN w w' t life1 count1 base1 (kept l1) ∧ Ext (fun k => k = t) wr w' := by
  have hs := h.grows.size
  rw [takeRE] at hE
  by_cases hm : mayB life1 count1 base1 l1 = true
  · rw [if_pos hm] at hE
    by_cases hl : laterB life1 count1 life count = true
    · have hlc : life1 ≤ MostC ∧ count1 ≤ MostC := by
        have := hm
        rw [mayB] at this
        simp only [Bool.and_eq_true, decide_eq_true_eq] at this
        exact ⟨this.1.1.2, this.1.2.2⟩
      refine (told_take_ok h.told life1 count1 base1 v l1 hr hbb hm hlc.1 hlc.2 hl).mono ?_
      rintro e w' ⟨rfl, h1, he⟩
      have ht := h.told.own
      exact ⟨rfl, ⟨h1.mono (fun k hk => by rcases hk with hk | hk <;> omega), (h.grows.lift.trans he).mono (fun k hk hh => by omega)⟩, he⟩
    · rw [if_neg hl] at hE; omega
  · rw [if_neg hm] at hE; omega
theorem tn_take_no (h : TN w wr t life count base l) (life1 count1 base1 : Nat) (v : Value) (l1 : List RankA) (hr : Rs wr v l1) (hbb : base1 < 18446744073709551616) (E : Int) (hE : takeRE life count life1 count1 base1 l1 = E) (hne : E ≠ 0) :
    Calls Try.prog 40 #[.pointer (some ⟨t, 0, none⟩), .int .u64 life1, .int .u64 count1, .int .u64 base1, v] wr fun e w' => e = .returned (.int .i64 E) ∧ TN w w' t life count base l ∧ Grows wr w' := by
  rw [takeRE] at hE
  by_cases hm : mayB life1 count1 base1 l1 = true
  · rw [if_pos hm] at hE
    by_cases hl : laterB life1 count1 life count = true
    · rw [if_pos hl] at hE; omega
    · rw [if_neg hl] at hE
      subst hE
      have hlc : life1 ≤ MostC ∧ count1 ≤ MostC := by
        have := hm
        rw [mayB] at this
        simp only [Bool.and_eq_true, decide_eq_true_eq] at this
        exact ⟨this.1.1.2, this.1.2.2⟩
      refine (told_take_old h.told life1 count1 base1 v l1 hr hbb hm hlc.1 hlc.2 (by simpa using hl)).mono ?_
      rintro e w' ⟨rfl, g⟩
      exact ⟨rfl, h.more g, g⟩
  · rw [if_neg hm] at hE
    subst hE
    refine (told_take_arg h.told life1 count1 base1 v l1 hr hbb (by simpa using hm)).mono ?_
    rintro e w' ⟨rfl, g⟩
    exact ⟨rfl, h.more g, g⟩
theorem tn_known (h : TN w wr t life count base l) (b : Bool) (hb : decide (0 < life) = b) : Calls Try.prog 54 #[.pointer (some ⟨t, 0, none⟩)] wr fun e w' => e = .returned (.bool b) ∧ wr = w' := hb ▸ told_known h.told
theorem tn_base (h : TN w wr t life count base l) : Calls Try.prog 55 #[.pointer (some ⟨t, 0, none⟩)] wr fun e w' => e = .returned (.int .u64 base) ∧ wr = w' := told_base h.told
theorem tn_rank (h : TN w wr t life count base l) (gen : Nat) (n : Nat) (hn : rankOf gen l = n) : Calls Try.prog 56 #[.pointer (some ⟨t, 0, none⟩), .int .u64 gen] wr fun e w' => e = .returned (.int .i64 (n : Nat)) ∧ TN w w' t life count base l ∧ Grows wr w' := by
  subst hn
  refine (told_rank h.told gen).mono ?_
  rintro e w' ⟨rfl, g⟩
  exact ⟨rfl, h.more g, g⟩
end
theorem rs_nil (w : World) : Rs w (.slice none 0 0) [] := ⟨.inl ⟨none, 0, rfl, rfl⟩, by simp⟩
theorem rs_one {w : World} {b : Nat} {ty : TypeId} {fr : Nat × Nat} (r : RankA) (hb : w.heap[b]? = some (.cells #[.int .u64 r.gen, .int .i64 r.rank] ty fr)) (hok : r.okay) : Rs w (.slice (some ⟨b, 0, none⟩) 1 1) [r] := by
  refine ⟨.inr ⟨b, 0, 1, rfl, Nat.le_refl _, by unfold maxLen; omega, heap_lt hb, fun i hi => ?_⟩, by simp⟩
  obtain rfl : i = 0 := by simpa using hi
  refine ⟨r.cells, rfl, ⟨r, rfl, rfl, hok⟩, fun j hj => ?_⟩
  rw [cell_of_heap hb]
  simp [RankA.cells]

end Go.Proofs.Ytekdggdnkmkldaa
