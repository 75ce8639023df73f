/- RanksWants: what is wanted is in the window and below what one has; any telling, generation, ranks, widths. -/
import Derived.Test.YtpkaddpennafcaaRanksT
import Derived.Test.YtpkaddpennafcaaTells
import Derived.Deep.LoopGhost
import Derived.Deep.DeepCutAuto
namespace Go.Proofs.Ytpkaddpennafcaa
set_option linter.unusedVariables false
set_option linter.unusedSimpArgs false
open Go.ChangeShapes Go.WideShapes Go.ChangeAt Go.RowKit

/-- .. beside a block that stays as it is. -/
structure WQ (w wr : World) (t q L C B : Nat) (K : List RankV) (cs : Array Value) (ty : TypeId) : Prop where
  tn : TN w wr t L C B K
  hq : wr.heap[q]? = some (.cells cs ty (0, 0))
  ne : q ≠ t
section
variable {w wr : World} {t q L C B : Nat} {K : List RankV} {cs : Array Value} {ty : TypeId}
theorem WQ.next {w' : World} (h : WQ w wr t q L C B K cs ty) (h1 : TN w w' t L C B K) (g : Grows wr w') : WQ w w' t q L C B K cs ty := ⟨h1, (g.block q (heap_lt h.hq) (fun h => h)).trans h.hq, h.ne⟩
theorem wq_wants (h : WQ w wr t q L C B K cs ty) (gen : Nat) (own width : Int) (b : Bool) (hb : wantsB L B K gen own width = b) : Calls Try.prog 16 #[.pointer (some ⟨t, 0, none⟩), .int .u64 gen, .int .i64 own, .int .i64 width] wr fun e w' => e = .returned (.bool b) ∧ WQ w w' t q L C B K cs ty := by
  refine (tn_wants h.tn gen own width b hb).mono ?_
  rintro e w' ⟨rfl, h1, g⟩
  exact ⟨rfl, h.next h1 g⟩
theorem wq_rank (h : WQ w wr t q L C B K cs ty) (gen n : Nat) (hn : rankOf gen K = n) : Calls Try.prog 17 #[.pointer (some ⟨t, 0, none⟩), .int .u64 gen] wr fun e w' => e = .returned (.int .i64 (n : Nat)) ∧ WQ w w' t q L C B K cs ty := by
  refine (tn_rank h.tn gen n hn).mono ?_
  rintro e w' ⟨rfl, h1, g⟩
  exact ⟨rfl, h.next h1 g⟩
end
theorem wantsB_iff (L B : Nat) (K : List RankV) (gen : Nat) (own width : Int) : wantsB L B K gen own width = true ↔ 0 < L ∧ (1 ≤ width ∧ width ≤ 16) ∧ B ≤ gen ∧ (gen : Int) < min ((B : Int) + width) 1099511627776 ∧ (rankOf gen K : Int) < own := by
  rw [wantsB]
  simp only [Bool.and_eq_true, decide_eq_true_eq]
theorem wantsB_false {L B : Nat} {K : List RankV} {gen : Nat} {own width : Int} (h : L = 0 ∨ own ≤ 0 ∨ width < 1 ∨ 16 < width) : wantsB L B K gen own width = false := by
  cases hb : wantsB L B K gen own width with
  | false => rfl
  | true =>
    rw [wantsB_iff] at hb
    omega

theorem rankOf_le (gen : Nat) : ∀ K : List RankV, (∀ r ∈ K, r.rank ≤ 255) → rankOf gen K ≤ 255
  | [], _ => by simp [rankOf]
  | r :: rest, h => by
    rw [rankOf]
    split
    · exact h r (by simp)
    · exact rankOf_le gen rest (fun x hx => h x (by simp [hx]))

theorem wf8r {n : Int} (h : (Lit.int .u8 n).wf = true) : 0 ≤ n ∧ n < 256 := wf_u8' h

set_option maxRecDepth 4000 in
set_option maxHeartbeats 8000000 in
theorem RanksWants_walk (v0 : Value) (o : TellV) (gen own more width wider : Int) (w : World) (h0 : Tell w v0 o) (h1 : (Lit.int .u64 gen).wf = true) (h2 : (Lit.int .u8 own).wf = true) (h3 : (Lit.int .u8 more).wf = true) (h4 : (Lit.int .u8 width).wf = true) (h5 : (Lit.int .u8 wider).wf = true) :
    Calls Try.prog 3 #[v0, .int .u64 gen, .int .u8 own, .int .u8 more, .int .u8 width, .int .u8 wider] w fun e w' => e = .returned (.bool true) ∧ Below w.heap.size w w' := by
  obtain ⟨u, rfl, hrs, o1, o2, o3⟩ := h0
  obtain ⟨a1, a2⟩ := wf64' h1
  obtain ⟨b1, b2⟩ := wf8r h2
  obtain ⟨b3, b4⟩ := wf8r h3
  obtain ⟨b5, b6⟩ := wf8r h4
  obtain ⟨b7, b8⟩ := wf8r h5
  obtain ⟨gen, rfl⟩ := Int.eq_ofNat_of_zero_le a1
  obtain ⟨life, count, base, l⟩ := o
  obtain ⟨ua, uc, rfl⟩ := hrs.form
  have NS := Lib.hid hrs
  have OB := Lib.hid (And.intro o1 (And.intro o2 o3))
  have GB := Lib.hid a2
  clear h1 h2 h3 h4 h5 hrs o1 o2 o3 a1 a2
  go_enter Try.func3, Try.ntmps3
  go_wp2_with fail
  have hg0 : Grows w (w.alloc (.cells #[.int .u64 life, .int .u64 count, .int .u64 base, .slice ua l.length uc] 25)) := (Ext.refl _ _).alloc _
  have hh0 : (w.alloc (.cells #[.int .u64 life, .int .u64 count, .int .u64 base, .slice ua l.length uc] 25)).heap[w.heap.size]? = some (.cells #[.int .u64 life, .int .u64 count, .int .u64 base, .slice ua l.length uc] 25 (0, 0)) := heap_alloc_new w _
  have G0 := Lib.hid hg0
  have H0 := Lib.hid hh0
  clear hg0 hh0
  generalize w.alloc (.cells #[.int .u64 life, .int .u64 count, .int .u64 base, .slice ua l.length uc] 25) = w0 at G0 H0 ⊢
  generalize w.heap.size = q at H0 ⊢
  obtain ⟨t, ht⟩ : ∃ t, w0.heap.size = t := ⟨_, rfl⟩
  refine (told_new w0).mono ?_
  rintro e w1 ⟨rfl, hnew, hgw⟩
  have H' : TN w w1 t 0 0 0 [] := ⟨by have := G0.out.size; rw [ht] at hnew; exact hnew.mono (fun k hk => by omega), G0.out.trans hgw⟩
  rw [ht]
  clear hnew
  have hq : q < w0.heap.size := heap_lt H0.out
  have hq1 : w1.heap[q]? = some (.cells #[.int .u64 life, .int .u64 count, .int .u64 base, .slice ua l.length uc] 25 (0, 0)) := (hgw.block q hq (fun h => h)).trans H0.out
  have HQ1 := Lib.hid hq1
  have HT := Lib.hid H'
  have HR1 := Lib.hid (NS.out.grows H'.grows)
  have HNE := Lib.hid (show q ≠ t by omega)
  have c0 := cell_of_heap hq1 0
  have c1 := cell_of_heap hq1 1
  have c2 := cell_of_heap hq1 2
  have c3 := cell_of_heap hq1 3
  simp at c0 c1 c2 c3
  clear ht hgw hq hq1 H' G0 H0
  obtain ⟨V, hV⟩ : ∃ V : Nat, 1 + width % 16 = (V : Int) := ⟨(1 + width % 16).toNat, by omega⟩
  have hV1 : 1 ≤ V ∧ V ≤ 16 := by omega
  obtain ⟨Wd, hW⟩ : ∃ Wd : Nat, (if (V : Int) + wider % 16 < 16 then (V : Int) + wider % 16 else 16) = (Wd : Int) := ⟨(if (V : Int) + wider % 16 < 16 then (V : Int) + wider % 16 else 16).toNat, by split <;> omega⟩
  have hW1 : V ≤ Wd ∧ Wd ≤ 16 := by split at hW <;> omega
  go_wp2_with fail
  obtain ⟨E, hE⟩ : ∃ E, takeRE 0 0 life count base l = E := ⟨_, rfl⟩
  by_cases hE0 : E = 0
  · subst hE0
    refine (tn_take_ok HT.out life count base _ l HR1.out OB.out.2.2 hE).mono ?_
    rintro e w2 ⟨rfl, H', he⟩
    have hmay : 1 ≤ life ∧ base ≤ MostG := by
      rw [takeRE] at hE
      split at hE
      · rename_i hm
        rw [mayB] at hm
        simp only [Bool.and_eq_true, decide_eq_true_eq] at hm
        exact ⟨hm.1.1.1, hm.2.1⟩
      · omega
    have HMAY := Lib.hid hmay
    have HH := Lib.hid (show WQ w w2 t q life count base (kept l) #[.int .u64 life, .int .u64 count, .int .u64 base, .slice ua l.length uc] 25 from ⟨H', (he.block q (heap_lt HQ1.out) HNE.out).trans HQ1.out, HNE.out⟩)
    have HVW := Lib.hid (And.intro hV1 hW1)
    clear H' he HT HQ1 HR1 HNE c0 c1 c2 c3 hE hmay
    go_wp2_with fail
    refine (tn_known HH.out.tn true (by have := HMAY.out.1; simp; omega)).mono ?_
    rintro e w9 ⟨rfl, rfl⟩
    go_wp2_with fail
    refine (wq_wants HH.out gen 0 _ false (wantsB_false (by omega))).mono ?_
    rintro e w3 ⟨rfl, H'⟩
    clear HH
    have HH := Lib.hid H'
    clear H'
    go_wp2_with fail
    refine (wq_wants HH.out gen _ 0 false (wantsB_false (by omega))).mono ?_
    rintro e w4 ⟨rfl, H'⟩
    clear HH
    have HH := Lib.hid H'
    clear H'
    go_wp2_with fail
    refine (wq_wants HH.out gen _ 17 false (wantsB_false (by omega))).mono ?_
    rintro e w5 ⟨rfl, H'⟩
    clear HH
    have HH := Lib.hid H'
    clear H'
    obtain ⟨bw, hbw⟩ : ∃ bw, wantsB life base (kept l) gen own V = bw := ⟨_, rfl⟩
    have HBW := Lib.hid hbw
    clear hbw
    go_wp2_with fail
    refine (wq_wants HH.out gen own _ bw HBW.out).mono ?_
    rintro e w6 ⟨rfl, H'⟩
    clear HH
    have HH := Lib.hid H'
    clear H' hV hW hV1 hW1
    cases bw with
    | false =>
      have c2 := cell_of_heap HH.out.hq 2
      simp at c2
      have hb40 : (base : Int) ≤ 1099511627776 := by have := HMAY.out.2; simp only [MostG] at this; omega
      go_wp2
      clear c2
      go_loopg [20, 19] 16 (fun k g a wr => ∃ i m : Nat, k = 16 - i ∧ i ≤ 16 ∧ g = .int .u64 ((base + i : Nat) : Int) ∧ a = .int .i64 (m : Nat) ∧ m ≤ i ∧ (base + 16 ≤ MostG → m = min i V) ∧ WQ w wr t q life count base (kept l) #[.int .u64 life, .int .u64 count, .int .u64 base, .slice ua l.length uc] 25)
      case atStart => exact ⟨0, 0, by omega, by omega, by simp, rfl, by omega, by omega, HH.out⟩
      case round =>
        obtain ⟨i, m, hk, hi, rfl, rfl, hm, hmv, hwq⟩ := hrel
        have HK := Lib.hid hk
        have HM := Lib.hid hmv
        clear HH
        have HH := Lib.hid hwq
        clear hk hmv hwq
        have c2 := cell_of_heap HH.out.hq 2
        simp at c2
        by_cases hlt : i < 16
        · have i1 : ((base + i : Nat) : Int) < (base : Int) + 16 := by omega
          obtain ⟨g, hg⟩ : ∃ g, base + i = g := ⟨_, rfl⟩
          rw [hg] at i1 ⊢
          have HG := Lib.hid hg
          clear hg
          obtain ⟨b, hb⟩ : ∃ b, wantsB life base (kept l) g 256 V = b := ⟨_, rfl⟩
          have HBB := Lib.hid hb
          clear hb
          have hb41 : (g : Int) ≤ 1099511627792 := by have := HG.out; omega
          go_wp2_with fail
          refine (wq_wants HH.out g 256 _ b HBB.out).mono ?_
          rintro e w8 ⟨rfl, H'⟩
          clear HH c2
          have HH := Lib.hid H'
          clear H'
          have hnext : base + 16 ≤ MostG → (if b = true then m + 1 else m) = min (i + 1) V := by
            intro h16
            have hmm := HM.out h16
            have hbv : b = true ↔ i < V := by
              have h1 := HG.out
              have h2 := HMAY.out
              have h3 := HVW.out
              have h4 := rankOf_le g (kept l) (fun r hr => (HH.out.tn.told.b5 r hr).2.2)
              rw [← HBB.out, wantsB_iff]
              simp only [MostG] at h16
              omega
            split
            · rename_i hc; have := hbv.1 hc; omega
            · rename_i hc; have h5 : ¬ i < V := fun h => hc (hbv.2 h); omega
          have HN := Lib.hid hnext
          clear hnext
          cases b with
          | true =>
            go_wp2
            go_roundg (16 - (i + 1))
            case measure => have := HK.out; omega
            case rel => exact ⟨i + 1, m + 1, rfl, by omega, by have h := HG.out; rw [show ((base + (i + 1) : Nat) : Int) = (g : Int) + 1 by omega], by go_num, by omega, fun h16 => by have := HN.out h16; simpa using this, HH.out⟩
          | false =>
            go_wp2
            go_roundg (16 - (i + 1))
            case measure => have := HK.out; omega
            case rel => exact ⟨i + 1, m, rfl, by omega, by have h := HG.out; rw [show ((base + (i + 1) : Nat) : Int) = (g : Int) + 1 by omega], rfl, by omega, fun h16 => by have := HN.out h16; simpa using this, HH.out⟩
        · obtain rfl : i = 16 := by omega
          obtain ⟨g, hg⟩ : ∃ g, base + 16 = g := ⟨_, rfl⟩
          have i1 : ¬ (g : Int) < (base : Int) + 16 := by omega
          rw [hg]
          clear hg
          by_cases h16 : base + 16 ≤ MostG
          · have hmV : (m : Int) = (V : Int) := by have := HM.out h16; have := HVW.out; omega
            have j1 : (base : Int) + 16 ≤ 1099511627776 := by simp only [MostG] at h16; omega
            have KM := Lib.hid hmV
            clear h16 hmV
            obtain rfl : m = V := by have := KM.out; omega
            go_wp2_with fail
            refine (ranks_wakes _).mono ?_
            rintro e w9 ⟨rfl, hg⟩
            have HE := Lib.hid (HH.out.tn.grows.trans hg)
            clear hg
            go_wp2
            go_ret
            exact ⟨rfl, Ext.to_below HE.out⟩
          · have j1 : ¬ (base : Int) + 16 ≤ 1099511627776 := by simp only [MostG] at h16; omega
            clear h16
            go_wp2_with fail
            refine (ranks_wakes _).mono ?_
            rintro e w9 ⟨rfl, hg⟩
            have HE := Lib.hid (HH.out.tn.grows.trans hg)
            clear hg
            go_wp2
            go_ret
            exact ⟨rfl, Ext.to_below HE.out⟩
    | true =>
      have HF := Lib.hid ((wantsB_iff _ _ _ _ _ _).1 HBW.out)
      obtain ⟨rk, hrk⟩ : ∃ rk, rankOf gen (kept l) = rk := ⟨_, rfl⟩
      have f1 : ¬ (gen : Int) < (base : Int) := by have := HF.out; omega
      have f2 : ¬ (base : Int) + (V : Int) ≤ (gen : Int) := by have := HF.out; omega
      have f3 : ¬ own ≤ (rk : Int) := by have := HF.out; omega
      have hb40 : (base : Int) ≤ 1099511627776 := by have := HMAY.out.2; simp only [MostG] at this; omega
      have hV16 : (V : Int) ≤ 16 := by have := HVW.out; omega
      have HRK := Lib.hid hrk
      clear hrk
      go_wp2_with fail
      refine (wq_wants HH.out gen _ _ true (by rw [wantsB_iff]; have := HF.out; omega)).mono ?_
      rintro e w7 ⟨rfl, H'⟩
      clear HH
      have HH := Lib.hid H'
      clear H'
      go_wp2_with fail
      refine (wq_wants HH.out gen _ _ true (by rw [wantsB_iff]; have := HF.out; have := HVW.out; omega)).mono ?_
      rintro e w8 ⟨rfl, H'⟩
      clear HH
      have HH := Lib.hid H'
      clear H'
      have c2 := cell_of_heap HH.out.hq 2
      simp at c2
      generalize hgi : (gen : Int) = gi at f1 f2 ⊢
      have HGI := Lib.hid hgi
      clear hgi
      go_wp2_with fail
      have D3 : (gi < (base : Int)) = False ∧ ((base : Int) + (V : Int) ≤ gi) = False := ⟨eq_false (by omega), eq_false (by omega)⟩
      obtain ⟨d1, d2⟩ := D3
      clear f1 f2
      generalize (base : Int) + (V : Int) = ee at d2 ⊢
      generalize (base : Int) = bi at d1 ⊢
      simp only [d1, d2, decide_false, Bool.or_false]
      clear d1 d2
      have hcr := wq_rank HH.out gen rk HRK.out
      rw [HGI.out] at hcr
      refine hcr.mono ?_
      rintro e w9 ⟨rfl, H'⟩
      clear HH c2 hb40 hV16 hcr
      have HH := Lib.hid H'
      clear H'
      generalize (rk : Int) = ri at f3 ⊢
      clear OB GB HF HBW b1 b2 b3 b4 b5 b6 b7 b8
      go_upto_region 10 with fail
      clear f3
      clear HRK HGI
      have c2 := cell_of_heap HH.out.hq 2
      simp at c2
      have hb40 : (base : Int) ≤ 1099511627776 := by have := HMAY.out.2; simp only [MostG] at this; omega
      go_wp2
      clear c2
      go_loopg [20, 19] 16 (fun k g a wr => ∃ i m : Nat, k = 16 - i ∧ i ≤ 16 ∧ g = .int .u64 ((base + i : Nat) : Int) ∧ a = .int .i64 (m : Nat) ∧ m ≤ i ∧ (base + 16 ≤ MostG → m = min i V) ∧ WQ w wr t q life count base (kept l) #[.int .u64 life, .int .u64 count, .int .u64 base, .slice ua l.length uc] 25)
      case atStart => exact ⟨0, 0, by omega, by omega, by simp, rfl, by omega, by omega, HH.out⟩
      case round =>
        obtain ⟨i, m, hk, hi, rfl, rfl, hm, hmv, hwq⟩ := hrel
        have HK := Lib.hid hk
        have HM := Lib.hid hmv
        clear HH
        have HH := Lib.hid hwq
        clear hk hmv hwq
        have c2 := cell_of_heap HH.out.hq 2
        simp at c2
        by_cases hlt : i < 16
        · have i1 : ((base + i : Nat) : Int) < (base : Int) + 16 := by omega
          obtain ⟨g, hg⟩ : ∃ g, base + i = g := ⟨_, rfl⟩
          rw [hg] at i1 ⊢
          have HG := Lib.hid hg
          clear hg
          obtain ⟨b, hb⟩ : ∃ b, wantsB life base (kept l) g 256 V = b := ⟨_, rfl⟩
          have HBB := Lib.hid hb
          clear hb
          have hb41 : (g : Int) ≤ 1099511627792 := by have := HG.out; omega
          go_wp2_with fail
          refine (wq_wants HH.out g 256 _ b HBB.out).mono ?_
          rintro e w8 ⟨rfl, H'⟩
          clear HH c2
          have HH := Lib.hid H'
          clear H'
          have hnext : base + 16 ≤ MostG → (if b = true then m + 1 else m) = min (i + 1) V := by
            intro h16
            have hmm := HM.out h16
            have hbv : b = true ↔ i < V := by
              have h1 := HG.out
              have h2 := HMAY.out
              have h3 := HVW.out
              have h4 := rankOf_le g (kept l) (fun r hr => (HH.out.tn.told.b5 r hr).2.2)
              rw [← HBB.out, wantsB_iff]
              simp only [MostG] at h16
              omega
            split
            · rename_i hc; have := hbv.1 hc; omega
            · rename_i hc; have h5 : ¬ i < V := fun h => hc (hbv.2 h); omega
          have HN := Lib.hid hnext
          clear hnext
          cases b with
          | true =>
            go_wp2
            go_roundg (16 - (i + 1))
            case measure => have := HK.out; omega
            case rel => exact ⟨i + 1, m + 1, rfl, by omega, by have h := HG.out; rw [show ((base + (i + 1) : Nat) : Int) = (g : Int) + 1 by omega], by go_num, by omega, fun h16 => by have := HN.out h16; simpa using this, HH.out⟩
          | false =>
            go_wp2
            go_roundg (16 - (i + 1))
            case measure => have := HK.out; omega
            case rel => exact ⟨i + 1, m, rfl, by omega, by have h := HG.out; rw [show ((base + (i + 1) : Nat) : Int) = (g : Int) + 1 by omega], rfl, by omega, fun h16 => by have := HN.out h16; simpa using this, HH.out⟩
        · obtain rfl : i = 16 := by omega
          obtain ⟨g, hg⟩ : ∃ g, base + 16 = g := ⟨_, rfl⟩
          have i1 : ¬ (g : Int) < (base : Int) + 16 := by omega
          rw [hg]
          clear hg
          by_cases h16 : base + 16 ≤ MostG
          · have hmV : (m : Int) = (V : Int) := by have := HM.out h16; have := HVW.out; omega
            have j1 : (base : Int) + 16 ≤ 1099511627776 := by simp only [MostG] at h16; omega
            have KM := Lib.hid hmV
            clear h16 hmV
            obtain rfl : m = V := by have := KM.out; omega
            go_wp2_with fail
            refine (ranks_wakes _).mono ?_
            rintro e w9 ⟨rfl, hg⟩
            have HE := Lib.hid (HH.out.tn.grows.trans hg)
            clear hg
            go_wp2
            go_ret
            exact ⟨rfl, Ext.to_below HE.out⟩
          · have j1 : ¬ (base : Int) + 16 ≤ 1099511627776 := by simp only [MostG] at h16; omega
            clear h16
            go_wp2_with fail
            refine (ranks_wakes _).mono ?_
            rintro e w9 ⟨rfl, hg⟩
            have HE := Lib.hid (HH.out.tn.grows.trans hg)
            clear hg
            go_wp2
            go_ret
            exact ⟨rfl, Ext.to_below HE.out⟩
  · refine (tn_take_no HT.out life count base _ l HR1.out OB.out.2.2 E hE hE0).mono ?_
    rintro e w2 ⟨rfl, H', hg⟩
    have hEb : (E == 0) = false := by rw [beq_eq_false_iff_ne]; exact hE0
    have HH := Lib.hid (show WQ w w2 t q 0 0 0 [] #[.int .u64 life, .int .u64 count, .int .u64 base, .slice ua l.length uc] 25 from ⟨H', (hg.block q (heap_lt HQ1.out) (fun h => h)).trans HQ1.out, HNE.out⟩)
    clear H' hg HT HQ1 HR1 HNE c0 c1 c2 c3 hE hE0
    go_wp2_with fail
    refine (tn_known HH.out.tn false (by decide)).mono ?_
    rintro e w9 ⟨rfl, rfl⟩
    go_wp2_with fail
    refine (wq_wants HH.out gen 0 _ false (wantsB_false (by omega))).mono ?_
    rintro e w3 ⟨rfl, H'⟩
    clear HH
    have HH := Lib.hid H'
    clear H'
    go_wp2_with fail
    refine (wq_wants HH.out gen _ 0 false (wantsB_false (by omega))).mono ?_
    rintro e w4 ⟨rfl, H'⟩
    clear HH
    have HH := Lib.hid H'
    clear H'
    go_wp2_with fail
    refine (wq_wants HH.out gen _ 17 false (wantsB_false (by omega))).mono ?_
    rintro e w5 ⟨rfl, H'⟩
    clear HH
    have HH := Lib.hid H'
    clear H'
    go_wp2_with fail
    refine (wq_wants HH.out gen own _ false (wantsB_false (by omega))).mono ?_
    rintro e w6 ⟨rfl, H'⟩
    clear HH
    have HH := Lib.hid H'
    clear H' hV hW hV1 hW1
    have c2 := cell_of_heap HH.out.hq 2
    simp at c2
    go_wp2
    clear c2
    go_loopg [20] 0 (fun k g wr => g = .int .u64 (base : Int) ∧ wr = w6)
    case atStart => exact ⟨rfl, rfl⟩
    case round =>
      obtain ⟨rfl, rfl⟩ := hrel
      have c2 := cell_of_heap HH.out.hq 2
      simp at c2
      go_wp2_with fail
      refine (ranks_wakes _).mono ?_
      rintro e w9 ⟨rfl, hg⟩
      have HE := Lib.hid (HH.out.tn.grows.trans hg)
      clear hg
      go_wp2
      go_ret
      exact ⟨rfl, Ext.to_below HE.out⟩

namespace RanksWantsShell
theorem own : ownKnob Try.prog.godebug = none := by kernel_rfl
theorem laidOut : laidOutB Try.prog = true := by kernel_rfl
set_option maxRecDepth 100000 in
theorem lifted (os : Os) (started : os.Started) (H : Type) (enc : TypeId × Value → H) :
    ReturnsInHanded {} Try.checked os 3 .any (Rows.ranksWantsSpec.pre6 enc Try.prog Try.f3 Rows.ranksWantsRow.domain false) (Rows.ranksWantsSpec.post enc Try.prog Try.f3 false true false false) := by
  refine returnsInHanded_of_change_sized (C := Try.checked) own started (by kernel_rfl) Try.func3
    (ChangeSpec.witness6 (enc := enc) (C := Try.checked) false ⟨#[], #[.agg #[.int .u64 0, .int .u64 0, .int .u64 0, .slice none 0 0], .int .u64 0, .int .u8 0, .int .u8 0, .int .u8 0, .int .u8 0], []⟩ 8 (by kernel_rfl) (by kernel_rfl) (by kernel_rfl) (by kernel_rfl)) ?_
  intro W base args ds gs before hval0 hW hcnd hsz0 _
  have hval : ∀ (j : Nat) t v, Try.f3.params[j]? = some t → args[j]? = some v → Value.okWide Try.prog W .any base t v := hval0
  have hsz : (DataW.weightsEach Try.prog (Try.f3.params.toList ++ Rows.ranksWantsSpec.plain.varTypes Try.prog) (ds ++ gs)).all (· ≤ reachBytes) = true := hsz0
  have hW' := hW
  obtain ⟨p, q, hA0, hV, rfl, hfz, hnd⟩ := hW
  have hA : DataW.TrodAll enc Try.prog W 0 (fun _ => true) true Try.f3.params.toList args.toList ds p := hA0
  rw [Try.params3] at hA hval hsz
  obtain ⟨v0, vs0, d0, ds0, p0, q0, hargs, rfl, rfl, h0, r0⟩ := trodAll_cons hA
  obtain ⟨v1, vs1, d1, ds1, p1, q1, rfl, rfl, rfl, h1, r1⟩ := trodAll_cons r0
  obtain ⟨v2, vs2, d2, ds2, p2, q2, rfl, rfl, rfl, h2, r2⟩ := trodAll_cons r1
  obtain ⟨v3, vs3, d3, ds3, p3, q3, rfl, rfl, rfl, h3, r3⟩ := trodAll_cons r2
  obtain ⟨v4, vs4, d4, ds4, p4, q4, rfl, rfl, rfl, h4, r4⟩ := trodAll_cons r3
  obtain ⟨v5, vs5, d5, ds5, p5, q5, rfl, rfl, rfl, h5, r5⟩ := trodAll_cons r4
  obtain ⟨rfl, rfl, rfl⟩ := trodAll_nil r5
  obtain rfl : args = #[v0, v1, v2, v3, v4, v5] := by cases args; simp_all
  obtain ⟨rfl, rfl⟩ := trodVars_none hV
  have k0 := h0
  have lt0 : ∀ x ∈ p0, x.block < W.heap.size := by obtain ⟨m, hm⟩ := k0; exact DataW.trod_lt m _ _ _ hm
  have k1 := h1
  have lt1 : ∀ x ∈ p1, x.block < W.heap.size := by obtain ⟨m, hm⟩ := k1; exact DataW.trod_lt m _ _ _ hm
  have k2 := h2
  have lt2 : ∀ x ∈ p2, x.block < W.heap.size := by obtain ⟨m, hm⟩ := k2; exact DataW.trod_lt m _ _ _ hm
  have k3 := h3
  have lt3 : ∀ x ∈ p3, x.block < W.heap.size := by obtain ⟨m, hm⟩ := k3; exact DataW.trod_lt m _ _ _ hm
  have k4 := h4
  have lt4 : ∀ x ∈ p4, x.block < W.heap.size := by obtain ⟨m, hm⟩ := k4; exact DataW.trod_lt m _ _ _ hm
  have k5 := h5
  have lt5 : ∀ x ∈ p5, x.block < W.heap.size := by obtain ⟨m, hm⟩ := k5; exact DataW.trod_lt m _ _ _ hm
  obtain ⟨a0, w0⟩ := open_tell (hval 0 25 v0 rfl rfl) h0 hsz (j := 0) rfl rfl
  obtain ⟨a1, rfl, rfl, rfl, w1⟩ := open_int Try.underlying22 (hval 1 22 v1 rfl rfl) h1
  obtain ⟨a2, rfl, rfl, rfl, w2⟩ := open_int Try.underlying5 (hval 2 5 v2 rfl rfl) h2
  obtain ⟨a3, rfl, rfl, rfl, w3⟩ := open_int Try.underlying5 (hval 3 5 v3 rfl rfl) h3
  obtain ⟨a4, rfl, rfl, rfl, w4⟩ := open_int Try.underlying5 (hval 4 5 v4 rfl rfl) h4
  obtain ⟨a5, rfl, rfl, rfl, w5⟩ := open_int Try.underlying5 (hval 5 5 v5 rfl rfl) h5
  clear hA0 hval0 hsz0
  refine (RanksWants_walk v0 a0 a1 a2 a3 a4 a5 W w0 w1 w2 w3 w4 w5).mono fun e W' ⟨he, bel⟩ => ?_
  subst he
  exact ⟨_, rfl, _, _, _, [], _, [], hW', trodAll_mk1 (shut_bool Try.underlying4 _), (trodAll_cons_mk (Below.trod laidOut (by kernel_rfl) (of_decide_eq_true (by kernel_rfl)) k0 bel lt0) (trodAll_cons_mk (Below.trod laidOut (by kernel_rfl) (of_decide_eq_true (by kernel_rfl)) k1 bel lt1) (trodAll_cons_mk (Below.trod laidOut (by kernel_rfl) (of_decide_eq_true (by kernel_rfl)) k2 bel lt2) (trodAll_cons_mk (Below.trod laidOut (by kernel_rfl) (of_decide_eq_true (by kernel_rfl)) k3 bel lt3) (trodAll_cons_mk (Below.trod laidOut (by kernel_rfl) (of_decide_eq_true (by kernel_rfl)) k4 bel lt4) (trodAll_cons_mk (Below.trod laidOut (by kernel_rfl) (of_decide_eq_true (by kernel_rfl)) k5 bel lt5) trodAll_mk0)))))), rfl, bel.frame _, fun h => by cases h⟩
theorem over : Rows.ranksWantsRow.holds Try.pinned (OpenSpec.ofChange Rows.ranksWantsSpec) :=
  OpenClaim.holds_of_wide 3 Try.f3 rfl rfl rfl rfl rfl rfl rfl ⟨rfl, rfl, rfl, rfl, rfl⟩ rfl rfl rfl rfl rfl (by kernel_rfl) Try.func3 (by kernel_rfl)
    (of_decide_eq_true (by kernel_rfl)) (by unfold Func.isWrapper; first | (rw [if_pos (by decide +kernel)]; kernel_rfl) | (rw [if_neg (by decide +kernel)]; exact ⟨rfl, rfl⟩))
    (fun os started H enc _ => lifted os started H enc)
end RanksWantsShell
theorem RanksWants_holds : Rows.RanksWantsSaid := RanksWantsShell.over
#print axioms RanksWants_holds
end Go.Proofs.Ytpkaddpennafcaa
