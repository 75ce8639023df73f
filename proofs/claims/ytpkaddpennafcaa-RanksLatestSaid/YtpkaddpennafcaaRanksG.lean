/- ranks: RanksLatest's give. -/
import Derived.Test.YtpkaddpennafcaaRanksQ
import Derived.Deep.RegionHeld3
namespace Go.Proofs.Ytpkaddpennafcaa
set_option linter.unusedVariables false
set_option linter.unusedSimpArgs false
open Go.ChangeShapes Go.WideShapes Go.ChangeAt Go.RowKit

theorem keep6 {w w' : World} {t a b g : Nat} {i1 i2 i3 i4 : Nat} {x y p q r s : Option Value} (he : Ext (fun k => k = t) w w') (ha : a < w.heap.size ∧ a ≠ t) (hb : b < w.heap.size ∧ b ≠ t) (hg : g < w.heap.size ∧ g ≠ t)
    (h : w.cell? ⟨a, 0, none⟩ = x ∧ w.cell? ⟨b, 0, none⟩ = y ∧ w.cell? ⟨g, i1, none⟩ = p ∧ w.cell? ⟨g, i2, none⟩ = q ∧ w.cell? ⟨g, i3, none⟩ = r ∧ w.cell? ⟨g, i4, none⟩ = s) :
    w'.cell? ⟨a, 0, none⟩ = x ∧ w'.cell? ⟨b, 0, none⟩ = y ∧ w'.cell? ⟨g, i1, none⟩ = p ∧ w'.cell? ⟨g, i2, none⟩ = q ∧ w'.cell? ⟨g, i3, none⟩ = r ∧ w'.cell? ⟨g, i4, none⟩ = s :=
  ⟨(he.cell ha.1 ha.2).trans h.1, (he.cell hb.1 hb.2).trans h.2.1, (he.cell hg.1 hg.2).trans h.2.2.1, (he.cell hg.1 hg.2).trans h.2.2.2.1, (he.cell hg.1 hg.2).trans h.2.2.2.2.1, (he.cell hg.1 hg.2).trans h.2.2.2.2.2⟩

/-- Something told that the call made, with its footprint. -/
structure TS (w wr : World) (t : Nat) (S : Nat → Prop) (L C B : Nat) (K : List RankV) : Prop where
  told : ToldAt wr t S L C B K
  st : ∀ k, S k → w.heap.size ≤ k ∧ k < wr.heap.size
  grows : Grows w wr

section
variable {w wr w' : World} {t L C B : Nat} {S : Nat → Prop} {K : List RankV}
theorem TS.more (h : TS w wr t S L C B K) (g : Grows wr w') : TS w w' t S L C B K := ⟨h.told.ext g (fun _ _ h => h), fun k hk => by have := h.st k hk; have := g.size; omega, h.grows.trans g⟩
theorem TS.ext {T : Nat → Prop} (h : TS w wr t S L C B K) (g : Ext T wr w') (h1 : ∀ k, T k → w.heap.size ≤ k) (h2 : ∀ k, S k → ¬ T k) : TS w w' t S L C B K := ⟨h.told.ext g h2, fun k hk => by have := h.st k hk; have := g.size; omega, (h.grows.lift.trans g).mono (fun k hk hh => by have := h1 k hh; omega)⟩
theorem TS.tn (h : TS w wr t S L C B K) : TN w wr t L C B K := ⟨h.told.mono (fun k hk => (h.st k hk).1), h.grows⟩
theorem ts_take_ok (h : TS w wr t S L C B K) (life1 count1 base1 : Nat) (v : Value) (l1 : List RankA) (hr : Rs wr v l1) (hbb : base1 < 18446744073709551616) (hE : takeRE L C life1 count1 base1 l1 = 0) :
    Calls Try.prog 14 #[.pointer (some ⟨t, 0, none⟩), .int .u64 life1, .int .u64 count1, .int .u64 base1, v] wr fun e w' => e = .returned (.int .i64 0) ∧ (∃ S', TS w w' t S' life1 count1 base1 (kept l1) ∧ ∀ k, S' k → S k ∨ wr.heap.size ≤ k) ∧ Ext (fun k => k = t) wr w' := by
  obtain ⟨hm, hl⟩ := takeRE_zero hE
  obtain ⟨p1, p2, p3, p4⟩ := mayB_parts hm
  refine (told_take_ok h.told life1 count1 base1 v l1 hr hbb hm p1.2 p2.2 hl).mono ?_
  rintro e w' ⟨rfl, h1, he⟩
  obtain ⟨S', h2, h3⟩ := h1.sharp
  have ht := h.st t h.told.own
  have hgs := h.grows.size
  refine ⟨rfl, ⟨S', ⟨h2, fun k hk => ?_, (h.grows.lift.trans he).mono (fun k hk e => by omega)⟩, fun k hk => (h3 k hk).1⟩, he⟩
  obtain ⟨a, b⟩ := h3 k hk
  rcases a with a | a
  · have := h.st k a
    exact ⟨this.1, b⟩
  · exact ⟨by omega, b⟩
end

set_option maxHeartbeats 8000000 in
theorem give_ok {w wr : World} {t tb ob g L C B : Nat} {K : List RankV} {S : Nat → Prop} (h : TS w wr t S L C B K) (i len cap off life count base : Nat) (u : Value) (ol : List RankA)
    (htb : wr.cell? ⟨tb, 0, none⟩ = some (.pointer (some ⟨t, 0, none⟩))) (hob : wr.cell? ⟨ob, 0, none⟩ = some (.slice (some ⟨g, off, none⟩) len cap)) (hi : i < len)
    (hc : wr.cell? ⟨g, off + i * 4, none⟩ = some (.int .u64 life) ∧ wr.cell? ⟨g, off + i * 4 + 1, none⟩ = some (.int .u64 count) ∧ wr.cell? ⟨g, off + i * 4 + 2, none⟩ = some (.int .u64 base) ∧ wr.cell? ⟨g, off + i * 4 + 3, none⟩ = some u)
    (hr : Rs wr u ol) (hbb : base < 18446744073709551616) (h1 : tb < wr.heap.size ∧ tb ≠ t) (h2 : ob < wr.heap.size ∧ ob ≠ t) (h3 : g < wr.heap.size ∧ g ≠ t) (hE : takeRE L C life count base ol = 0) :
    Calls Try.prog 27 #[.int .i64 i, .pointer (some ⟨tb, 0, none⟩), .pointer (some ⟨ob, 0, none⟩)] wr fun e w' => e = .returned (.bool true) ∧ (∃ S', TS w w' t S' life count base (kept ol) ∧ ∀ k, S' k → S k ∨ wr.heap.size ≤ k) ∧ Ext (fun k => k = t) wr w' := by
  obtain ⟨ua, uc, rfl⟩ := hr.form
  have HT := Lib.hid h
  have HI := Lib.hid (And.intro h1 (And.intro h2 h3))
  have HR := Lib.hid (And.intro hr (And.intro hbb hE))
  have HC := Lib.hid (And.intro htb (And.intro hob hc))
  clear h hc hr hbb hE h1 h2 h3 hob
  have i1 : (0 : Int) ≤ (i : Int) := by omega
  have i2 : (i : Int) < (len : Int) := by omega
  go_enter Try.func27, Try.ntmps27
  go_wp2_with fail
  refine (told_copy HT.out.told).mono ?_
  rintro e w1 ⟨rfl, _, hg⟩
  have C1 := Lib.hid (keep6 (t := wr.heap.size) hg.lift ⟨HI.out.1.1, Nat.ne_of_lt HI.out.1.1⟩ ⟨HI.out.2.1.1, Nat.ne_of_lt HI.out.2.1.1⟩ ⟨HI.out.2.2.1, Nat.ne_of_lt HI.out.2.2.1⟩ HC.out)
  have G1 := Lib.hid hg
  clear hg htb
  obtain ⟨d0, d1, d2, d3, d4, d5⟩ := C1.out
  go_wp2_with fail
  go_region_held3 (fun w' => w'.cell? ⟨tb, 0, none⟩ = some (.pointer (some ⟨t, 0, none⟩)) ∧ w'.cell? ⟨ob, 0, none⟩ = some (.slice (some ⟨g, off, none⟩) len cap) ∧ w'.cell? ⟨g, off + i * 4, none⟩ = some (.int .u64 life) ∧ w'.cell? ⟨g, off + i * 4 + 1, none⟩ = some (.int .u64 count) ∧ w'.cell? ⟨g, off + i * 4 + 2, none⟩ = some (.int .u64 base) ∧ w'.cell? ⟨g, off + i * 4 + 3, none⟩ = some (.slice ua ol.length uc))
    (first
      | go_keep
      | exact keep6 he9 ⟨Nat.lt_of_lt_of_le HI.out.1.1 G1.out.size, HI.out.1.2⟩ ⟨Nat.lt_of_lt_of_le HI.out.2.1.1 G1.out.size, HI.out.2.1.2⟩ ⟨Nat.lt_of_lt_of_le HI.out.2.2.1 G1.out.size, HI.out.2.2.2⟩ C1.out)
    (first
      | (go_at_call 14; refine (ts_take_ok ((HT.out.more G1.out).more (Ext.drewN_r _)) life count base _ ol ((HR.out.1.grows G1.out).grows (Ext.drewN_r _)) HR.out.2.1 HR.out.2.2).mono ?_; rintro e w9 ⟨rfl, h9, he9⟩))
  all_goals
    have A := Lib.hid (And.intro h9 (And.intro G1.out.size ((G1.out.lift.trans (Ext.drewN_r 1)).trans he9)))
    clear h9 he9 d0 d1 d2 d3 d4 d5
    go_wp2
    go_ret
    obtain ⟨S', h1, h2⟩ := A.out.1
    exact ⟨rfl, ⟨S', h1, fun k hk => by
      rcases h2 k hk with h | h
      · exact .inl h
      · have := A.out.2.1
        have h : w1.heap.size ≤ k := h
        exact .inr (by omega)⟩, A.out.2.2⟩

set_option maxHeartbeats 8000000 in
theorem give_no {w wr : World} {t tb ob g L C B : Nat} {K : List RankV} (h : TN w wr t L C B K) (i len cap off life count base : Nat) (u : Value) (ol : List RankA)
    (htb : wr.cell? ⟨tb, 0, none⟩ = some (.pointer (some ⟨t, 0, none⟩))) (hob : wr.cell? ⟨ob, 0, none⟩ = some (.slice (some ⟨g, off, none⟩) len cap)) (hi : i < len)
    (hc : wr.cell? ⟨g, off + i * 4, none⟩ = some (.int .u64 life) ∧ wr.cell? ⟨g, off + i * 4 + 1, none⟩ = some (.int .u64 count) ∧ wr.cell? ⟨g, off + i * 4 + 2, none⟩ = some (.int .u64 base) ∧ wr.cell? ⟨g, off + i * 4 + 3, none⟩ = some u)
    (hr : Rs wr u ol) (hbb : base < 18446744073709551616) (h1 : tb < wr.heap.size ∧ tb ≠ t) (h2 : ob < wr.heap.size ∧ ob ≠ t) (h3 : g < wr.heap.size ∧ g ≠ t) (hE : takeRE L C life count base ol ≠ 0) :
    Calls Try.prog 27 #[.int .i64 i, .pointer (some ⟨tb, 0, none⟩), .pointer (some ⟨ob, 0, none⟩)] wr fun e w' => e = .returned (.bool true) ∧ Grows wr w' := by
  have hE2 : takeRE L C life count base ol = 1 ∨ takeRE L C life count base ol = 22 := by
    rw [takeRE] at hE ⊢
    split
    · rename_i hm
      rw [if_pos hm] at hE
      split
      · rename_i hl; rw [if_pos hl] at hE; exact absurd rfl hE
      · exact .inr rfl
    · exact .inl rfl
  clear hE
  obtain ⟨E, hE⟩ : ∃ E, takeRE L C life count base ol = E := ⟨_, rfl⟩
  rw [hE] at hE2
  have HE2 := Lib.hid hE2
  clear hE2
  obtain ⟨ua, uc, rfl⟩ := hr.form
  have HT := Lib.hid h
  have HI := Lib.hid (And.intro h1 (And.intro h2 h3))
  have HR := Lib.hid (And.intro hr (And.intro hbb hE))
  have HC := Lib.hid (And.intro htb (And.intro hob hc))
  clear h hc hr hbb hE h1 h2 h3 hob
  have i1 : (0 : Int) ≤ (i : Int) := by omega
  have i2 : (i : Int) < (len : Int) := by omega
  go_enter Try.func27, Try.ntmps27
  go_wp2_with fail
  refine (told_copy HT.out.told).mono ?_
  rintro e w1 ⟨rfl, hcop, hg⟩
  have CP := Lib.hid hcop
  clear hcop
  have C1 := Lib.hid (keep6 (t := wr.heap.size) hg.lift ⟨HI.out.1.1, Nat.ne_of_lt HI.out.1.1⟩ ⟨HI.out.2.1.1, Nat.ne_of_lt HI.out.2.1.1⟩ ⟨HI.out.2.2.1, Nat.ne_of_lt HI.out.2.2.1⟩ HC.out)
  have G1 := Lib.hid hg
  clear hg htb
  obtain ⟨d0, d1, d2, d3, d4, d5⟩ := C1.out
  go_wp2_with fail
  go_region_held3 (fun w' => w'.cell? ⟨tb, 0, none⟩ = some (.pointer (some ⟨t, 0, none⟩)) ∧ w'.cell? ⟨ob, 0, none⟩ = some (.slice (some ⟨g, off, none⟩) len cap) ∧ w'.cell? ⟨g, off + i * 4, none⟩ = some (.int .u64 life) ∧ w'.cell? ⟨g, off + i * 4 + 1, none⟩ = some (.int .u64 count) ∧ w'.cell? ⟨g, off + i * 4 + 2, none⟩ = some (.int .u64 base) ∧ w'.cell? ⟨g, off + i * 4 + 3, none⟩ = some (.slice ua ol.length uc))
    (first
      | go_keep
      | exact keep6 (t := t) he9.lift ⟨Nat.lt_of_lt_of_le HI.out.1.1 G1.out.size, HI.out.1.2⟩ ⟨Nat.lt_of_lt_of_le HI.out.2.1.1 G1.out.size, HI.out.2.1.2⟩ ⟨Nat.lt_of_lt_of_le HI.out.2.2.1 G1.out.size, HI.out.2.2.2⟩ C1.out)
    (first
      | (go_at_call 14; refine (tn_take_no ((HT.out.more G1.out).more (Ext.drewN_r _)) life count base _ ol ((HR.out.1.grows G1.out).grows (Ext.drewN_r _)) HR.out.2.1 E HR.out.2.2 (by have := HE2.out; omega)).mono ?_; rintro e w9 ⟨rfl, h9, he9⟩))
  all_goals
    have hg9 : Grows w1 w9 := ((Ext.drewN_r 1 : Grows w1 (w1.drewN 1))).trans he9
    have A := Lib.hid (And.intro h9 (And.intro (CP.out.ext hg9 (fun _ _ h => h)) (G1.out.trans hg9)))
    clear h9 he9 hg9 d1 d2 d3 d4 d5
    have tb9 : w9.cell? ⟨tb, 0, none⟩ = some (.pointer (some ⟨t, 0, none⟩)) := (A.out.2.2.cell HI.out.1.1 (fun h => h)).trans HC.out.1
    rcases HE2.out with rfl | rfl
    all_goals
      go_wp2_with fail
      refine (told_same A.out.2.1 A.out.1.told).mono ?_
      rintro e w10 ⟨rfl, hg10⟩
      have B := Lib.hid (A.out.2.2.trans hg10)
      clear hg10
      go_wp2
      go_ret
      exact ⟨rfl, B.out⟩

end Go.Proofs.Ytpkaddpennafcaa
