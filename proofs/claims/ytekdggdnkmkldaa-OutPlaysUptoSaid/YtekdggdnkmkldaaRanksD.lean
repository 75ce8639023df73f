/- ranks: Rank, Wants. -/
import Derived.Test.YtekdggdnkmkldaaRanksC
namespace Go.Proofs.Ytekdggdnkmkldaa
set_option linter.unusedVariables false
set_option linter.unusedSimpArgs false
set_option maxRecDepth 1500
open Go.ChangeShapes Go.WideShapes Go.ChangeAt Go.RowKit

def rankOf (gen : Nat) : List RankV → Nat
  | [] => 0
  | r :: rest => if r.gen = gen then r.rank else rankOf gen rest
def idxOf (gen : Nat) : List RankV → Option Nat
  | [] => none
  | r :: rest => if r.gen = gen then some 0 else (idxOf gen rest).map (· + 1)
def idxI (gen : Nat) (l : List RankV) : Int := match idxOf gen l with | some i => (i : Nat) | none => -1
theorem idxI_some {gen : Nat} {l : List RankV} {i : Nat} (h : idxOf gen l = some i) : idxI gen l = (i : Int) := by rw [idxI, h]
theorem idxI_none {gen : Nat} {l : List RankV} (h : idxOf gen l = none) : idxI gen l = -1 := by rw [idxI, h]
theorem idxOf_skip (gen : Nat) : ∀ (l : List RankV) (j : Nat), (∀ i, (h : i < l.length) → i < j → l[i].gen ≠ gen) → (hj : j < l.length) → l[j].gen = gen → idxOf gen l = some j ∧ rankOf gen l = l[j].rank
  | r :: rest, 0, _, _, he => by simp only [List.getElem_cons_zero] at he ⊢; simp [idxOf, rankOf, he]
  | r :: rest, j + 1, hn, hj, he => by
    have h0 := hn 0 (by simp) (by omega)
    simp only [List.getElem_cons_zero] at h0
    simp only [List.getElem_cons_succ] at he ⊢
    obtain ⟨a, b⟩ := idxOf_skip gen rest j (fun i hi hij => by have := hn (i + 1) (by simpa using hi) (by omega); simpa using this) (by simpa using hj) he
    rw [idxOf, rankOf, if_neg h0, if_neg h0, a]
    exact ⟨rfl, b⟩
theorem idxOf_none (gen : Nat) : ∀ (l : List RankV), (∀ i, (h : i < l.length) → l[i].gen ≠ gen) → idxOf gen l = none ∧ rankOf gen l = 0
  | [], _ => ⟨rfl, rfl⟩
  | r :: rest, hn => by
    have h0 := hn 0 (by simp)
    simp only [List.getElem_cons_zero] at h0
    obtain ⟨a, b⟩ := idxOf_none gen rest (fun i hi => by have := hn (i + 1) (by simpa using hi); simpa using this)
    rw [idxOf, rankOf, if_neg h0, if_neg h0, a]
    exact ⟨rfl, b⟩

theorem rank1_any (g r c gen : Nat) (hg : g ≤ MostC) (w : World) (hc : w.cell? ⟨c, 0, none⟩ = some (.int .u64 gen)) :
    Calls Try.prog 86 #[.complex .f64 (fl g) (fl r), .pointer (some ⟨c, 0, none⟩)] w fun e w' => e = .returned (.bool (decide (g = gen))) ∧ ∃ m, w' = w.drewN m := by
  go_enter Try.func86, Try.ntmps86
  go_wp2
  go_quiet (first | (go_at_call 87; exact quiet_same_r (first_any g r hg _)))
  go_wp2
  go_ret
  exact ⟨ret_bool (by rw [Bool.eq_iff_iff]; simp; omega), _, rfl⟩

theorem indexFunc_any (v : Value) (l : List RankV) (c gen : Nat) (w : World) (ho : OwnS w 140 1 v l.length (pcells l)) (hb : ∀ r ∈ l, r.gen < MostG) (hl : l.length ≤ 16) (hc : w.cell? ⟨c, 0, none⟩ = some (.int .u64 gen)) :
    Calls Try.prog 85 #[v, .func (.func 86) #[] #[.pointer (some ⟨c, 0, none⟩)]] w fun e w' => e = .returned (.int .i64 (idxI gen l)) ∧ ∃ m, w' = w.drewN m := by
  obtain ⟨ua, uc, rfl⟩ := OwnS.form ho
  have HO := Lib.hid ho
  have HB := Lib.hid hb
  have HC := Lib.hid hc
  clear ho hb hc
  go_enter Try.func85, Try.ntmps85
  go_wp2
  go_loopg [8] l.length (fun k i wr => ∃ j m : Nat, k = l.length - j ∧ j ≤ l.length ∧ i = .int .i64 (j : Nat) ∧ wr = w.drewN m ∧ ∀ i, (h : i < l.length) → i < j → l[i].gen ≠ gen)
  case atStart => exact ⟨0, 0, by omega, by omega, rfl, rfl, fun i _ h => by omega⟩
  case round =>
    obtain ⟨j, m, hk, hj, rfl, rfl, hn⟩ := hrel
    have HK := Lib.hid hk
    have HN := Lib.hid hn
    clear hk hn
    by_cases hlt : j < l.length
    · obtain ⟨g, off, cap, e, hgl, hcell, _⟩ := OwnS.cells HO.out j (by omega)
      injection e with e1 e2 e3
      subst e1 e3
      clear e2
      have c0 : (w.drewN m).cell? ⟨g, off + j, none⟩ = some (.complex .f64 (fl l[j].gen) (fl l[j].rank)) := by
        show w.cell? _ = _
        rw [hcell]
        simp [pcells, List.getElem?_eq_getElem hlt]
      have hg2 := HB.out l[j] (List.getElem_mem _)
      have hc2 : (w.drewN m).cell? ⟨c, 0, none⟩ = some (.int .u64 gen) := HC.out
      have j1 : (0 : Int) ≤ (j : Int) := by omega
      have j2 : (j : Int) < (l.length : Int) := by omega
      obtain ⟨gn, hgn⟩ : ∃ gn, l[j].gen = gn := ⟨_, rfl⟩
      obtain ⟨rk, hrk⟩ : ∃ rk, l[j].rank = rk := ⟨_, rfl⟩
      rw [hgn, hrk] at c0
      rw [hgn] at hg2
      have HX := Lib.hid hgn
      have hr1 := rank1_any gn rk c gen (by simp only [MostG] at hg2; simp only [MostC]; omega) (w.drewN m) hc2
      clear hcell hgn hrk hg2 hc2
      go_wp2_with fail
      refine hr1.mono ?_
      rintro e w' ⟨rfl, m2, rfl⟩
      by_cases he : gn = gen
      · rw [show decide (gn = gen) = true by simpa using he]
        have hi := (idxOf_skip gen l j HN.out hlt (HX.out.trans he)).1
        go_wp2
        go_ret
        exact ⟨ret_int (idxI_some hi).symm, m + m2, rfl⟩
      · rw [show decide (gn = gen) = false by simpa using he]
        go_wp2
        go_roundg (l.length - (j + 1))
        case measure => have := HK.out; omega
        case rel =>
          refine ⟨j + 1, m + m2, rfl, by omega, by go_num, rfl, fun i hi hij => ?_⟩
          by_cases hij2 : i < j
          · exact HN.out i hi hij2
          · obtain rfl : i = j := by omega
            rw [HX.out]; exact he
    · have j2 : ¬ (j : Int) < (l.length : Int) := by omega
      have hi := (idxOf_none gen l (fun i hi => HN.out i hi (by omega))).1
      go_wp2
      go_ret
      exact ⟨ret_int (idxI_none hi).symm, m, rfl⟩

theorem idxOf_some (gen : Nat) : ∀ (l : List RankV) (j : Nat), idxOf gen l = some j → ∃ h : j < l.length, rankOf gen l = l[j].rank
  | [], j, h => by simp [idxOf] at h
  | r :: rest, j, h => by
    rw [idxOf] at h
    rw [rankOf]
    split at h
    · rename_i he
      obtain rfl : 0 = j := by simpa using h
      exact ⟨by simp, by rw [if_pos he]; rfl⟩
    · rename_i he
      obtain ⟨i, hi, rfl⟩ := Option.map_eq_some_iff.1 h
      obtain ⟨h1, h2⟩ := idxOf_some gen rest i hi
      exact ⟨by simpa using h1, by rw [if_neg he, h2]; rfl⟩
theorem idxOf_zero (gen : Nat) : ∀ (l : List RankV), idxOf gen l = none → rankOf gen l = 0
  | [], _ => rfl
  | r :: rest, h => by
    rw [idxOf] at h
    rw [rankOf]
    split at h
    · cases h
    · rename_i he
      rw [if_neg he]
      exact idxOf_zero gen rest (by simpa using h)

theorem told_rank {w : World} {t : Nat} {S : Nat → Prop} {life count base : Nat} {l : List RankV} (h : ToldAt w t S life count base l) (gen : Nat) :
    Calls Try.prog 56 #[.pointer (some ⟨t, 0, none⟩), .int .u64 gen] w fun e w' => e = .returned (.int .i64 (rankOf gen l)) ∧ Grows w w' := by
  go_enter Try.func56, Try.ntmps56
  have hg : Grows w (w.alloc (.cells #[.int .u64 gen] 27)) := (Ext.refl _ _).alloc _
  have HG := Lib.hid hg
  have hn := told_none (h.ext hg (fun _ _ h => h))
  have hcc : (w.alloc (.cells #[.int .u64 gen] 27)).cell? ⟨w.heap.size, 0, none⟩ = some (.int .u64 gen) := by rw [cell_of_heap (heap_alloc_new w _) 0]; simp
  obtain ⟨ty, vs, hh, ho, _⟩ := (h.ext hg (fun _ _ h => h)).blk
  have c3 := cell_of_heap hh 3
  simp at c3
  have hi := indexFunc_any vs l _ gen _ ho (fun r hr => (h.b5 r hr).1) h.b4 hcc
  obtain ⟨ua, uc, rfl⟩ := OwnS.form ho
  have HO := Lib.hid ho
  have HT := Lib.hid h
  clear h hh ho hcc hg
  go_wp2_with fail
  refine hn.mono ?_
  rintro e w' ⟨rfl, rfl⟩
  go_wp2_with fail
  refine hi.mono ?_
  rintro e w' ⟨rfl, m, rfl⟩
  clear hi hn
  generalize w.alloc (.cells #[.int .u64 gen] 27) = wa at HG HO c3 ⊢
  cases hix : idxOf gen l with
  | none =>
    rw [idxI_none hix]
    have HR := Lib.hid (idxOf_zero gen l hix)
    clear hix
    go_wp2
    go_ret
    exact ⟨ret_int (by rw [HR.out]; rfl), HG.out.trans (Ext.drewN_r m)⟩
  | some i =>
    rw [idxI_some hix]
    obtain ⟨hil, hrk⟩ := idxOf_some gen l i hix
    obtain ⟨g, off, cap, e, hgl, hcell, _⟩ := OwnS.cells HO.out i (by omega)
    injection e with e1 e2 e3
    subst e1 e3
    clear e2
    obtain ⟨gn, hgn⟩ : ∃ gn, l[i].gen = gn := ⟨_, rfl⟩
    obtain ⟨rk, hrk2⟩ : ∃ rk, l[i].rank = rk := ⟨_, rfl⟩
    have hrb := (HT.out.b5 l[i] (List.getElem_mem _)).2
    have c0 : wa.cell? ⟨g, off + i, none⟩ = some (.complex .f64 (fl gn) (fl rk)) := by
      rw [hcell]
      simp [pcells, List.getElem?_eq_getElem hil, hgn, hrk2]
    rw [hrk2] at hrk hrb
    have HR := Lib.hid hrk
    have i1 : (0 : Int) ≤ (i : Int) := by omega
    have i2 : (i : Int) < (l.length : Int) := by omega
    have i3 : ¬ (i : Int) < 0 := by omega
    have hsec := fun w => second_any gn rk (by simp only [MostC]; omega) w
    have hr255 : (rk : Int) ≤ 255 := by omega
    clear hix hcell hgn hrk2 hrb hrk
    go_wp2_with fail
    refine (hsec _).mono ?_
    rintro e w' ⟨rfl, rfl⟩
    clear hsec
    go_wp2
    go_ret
    exact ⟨ret_int (by rw [HR.out]), HG.out.trans (Ext.drewN_r m)⟩

end Go.Proofs.Ytekdggdnkmkldaa
