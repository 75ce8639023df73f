/- link: Feedback, NewOut. -/
import Derived.Test.YtekdggdnkmkldaaLinkP
namespace Go.Proofs.Ytekdggdnkmkldaa
set_option linter.unusedVariables false
set_option linter.unusedSimpArgs false
set_option maxRecDepth 1500
open Go.RowKit

/-- What a telling leaves. -/
def feedE (x : OutV) (f : Int) (life count base : Nat) (l : List RankA) : Int := match x.at f with
  | some v => takeRE v.life v.count life count base l
  | none => 1
def OutV.feed (x : OutV) (f : Int) (life count base : Nat) (l : List RankA) : OutV := if feedE x f life count base l = 0 then x.tell f.toNat ⟨life, count, base, kept l⟩ else x

section
variable {w0 : Frm} {w w' : World} {o n : Nat} {x : OutV}
/-- What was told of a flow, anew. -/
theorem OutC.retold {s bm : Nat} {vt : Value} {ts : List Nat} {c : Nat → Nat} (h : OutC w0 w o s bm n vt ts c x) {i t : Nat} (hi : i < x.told.length) (ht : ts[i]? = some t) (hc : c t = 5 + i) {v : ToldV} (h1 : ToldAt w' t (fun k => c k = 5 + i ∨ w.heap.size ≤ k) v.life v.count v.base v.l) (e : Ext (fun k => k = t) w w') :
    ∃ c', OutC w0 w' o s bm n vt ts c' (x.tell i v) := by
  refine ⟨fun k => if k < w.heap.size then c k else if k < w'.heap.size then 5 + i else 0, ?_⟩
  have hd : ∀ k d, c k = d → d ≠ 5 + i → ¬ k = t := fun k d hk h2 hh => by rw [hh, hc] at hk; omega
  have hlt : ∀ k, c k ≠ 0 → k < w.heap.size := fun k hk => (h.lo k hk).2
  have hold : ∀ k, c k ≠ 0 → (if k < w.heap.size then c k else if k < w'.heap.size then 5 + i else 0) = c k := fun k hk => if_pos (hlt k hk)
  obtain ⟨ty, hb⟩ := h.blk
  refine ⟨⟨ty, (e.block o (heap_lt hb) (hd o 1 h.co (by omega))).trans hb⟩, by rw [hold o (by rw [h.co]; omega)]; exact h.co, h.snd.ext e (hd s 2 h.cs (by omega)), by rw [hold s (by rw [h.cs]; omega)]; exact h.cs, h.mq.ext e (hd bm 3 h.cm (by omega)), by rw [hold bm (by rw [h.cm]; omega)]; exact h.cm, ?_, fun k hk => by rw [hold k (by rw [h.ct k hk]; omega)]; exact h.ct k hk, by show ts.length = (x.told.set i v).length; rw [List.length_set]; exact h.tl, fun j u y h3 h4 => ?_, fun k hk => ?_, by show (x.told.set i v).length ≤ 4; rw [List.length_set]; exact h.few, Frm.step h.gw e (fun k hh => hh ▸ (h.lo t (by rw [hc]; omega)).1)⟩
  · show OwnS w' _ 1 vt (x.told.set i v).length _
    rw [List.length_set]
    exact h.row.ext e (fun k hk => hd k 4 (h.ct k hk) (by omega))
  · by_cases hij : j = i
    · subst hij
      rw [ht] at h3
      obtain rfl := Option.some.inj h3
      have h5 : y = v := by
        have h6 : (x.told.set j v)[j]? = some y := h4
        rw [List.getElem?_set_self hi] at h6
        exact (Option.some.inj h6).symm
      subst h5
      refine h1.sharp2.mono (fun k hk => ?_)
      rcases hk.1 with h6 | h6
      · show (if k < w.heap.size then c k else _) = _
        rw [if_pos (hlt k (by rw [h6]; omega))]; exact h6
      · show (if k < w.heap.size then c k else if k < w'.heap.size then 5 + j else 0) = _
        rw [if_neg (by omega), if_pos hk.2]
    · have h6 : (x.told.set i v)[j]? = some y := h4
      rw [List.getElem?_set_ne (fun h => hij h.symm)] at h6
      refine ((h.told j u y h3 h6).ext e (fun k hk => hd k (5 + j) hk (by omega))).mono (fun k hk => ?_)
      show (if k < w.heap.size then c k else _) = _
      rw [if_pos (hlt k (by rw [hk]; omega))]; exact hk
  · by_cases hk2 : k < w.heap.size
    · simp only [hk2, if_true] at hk
      exact ⟨(h.lo k hk).1, Nat.lt_of_lt_of_le hk2 e.size⟩
    · simp only [hk2, if_false] at hk
      have hk3 : k < w'.heap.size := by
        rcases Nat.lt_or_ge k w'.heap.size with h | h
        · exact h
        · rw [if_neg (by omega)] at hk; exact absurd rfl hk
      exact ⟨.inl (by have := h.gw.size; omega), hk3⟩
theorem told_take_all {t : Nat} {S : Nat → Prop} {life0 count0 base0 : Nat} {l0 : List RankV} (h : ToldAt w t S life0 count0 base0 l0) (life count base : Nat) (v : Value) (l : List RankA) (hr : Rs w v l) (hbb : base < 18446744073709551616) :
    Calls Try.prog 40 #[.pointer (some ⟨t, 0, none⟩), .int .u64 life, .int .u64 count, .int .u64 base, v] w fun e w' => e = .returned (.int .i64 (takeRE life0 count0 life count base l)) ∧
      ((takeRE life0 count0 life count base l = 0 ∧ ToldAt w' t (fun k => S k ∨ w.heap.size ≤ k) life count base (kept l) ∧ Ext (fun k => k = t) w w') ∨ (takeRE life0 count0 life count base l ≠ 0 ∧ Grows w w')) := by
  by_cases hm : mayB life count base l = true
  · have hp : (1 ≤ life ∧ life ≤ MostC) ∧ (1 ≤ count ∧ count ≤ MostC) := by
      have h9 := hm
      unfold mayB at h9
      simp only [Bool.and_eq_true, decide_eq_true_eq] at h9
      exact h9.1
    by_cases hl : laterB life count life0 count0 = true
    · have hE : takeRE life0 count0 life count base l = 0 := by rw [takeRE, if_pos hm, if_pos hl]
      rw [hE]
      refine (told_take_ok h life count base v l hr hbb hm hp.1.2 hp.2.2 hl).mono ?_
      rintro e w' ⟨rfl, h1, e1⟩
      exact ⟨rfl, .inl ⟨rfl, h1, e1⟩⟩
    · have hl' : laterB life count life0 count0 = false := by simpa using hl
      have hE : takeRE life0 count0 life count base l = 22 := by rw [takeRE, if_pos hm, if_neg hl]
      rw [hE]
      refine (told_take_old h life count base v l hr hbb hm hp.1.2 hp.2.2 hl').mono ?_
      rintro e w' ⟨rfl, g⟩
      exact ⟨rfl, .inr ⟨by omega, g⟩⟩
  · have hm' : mayB life count base l = false := by simpa using hm
    have hE : takeRE life0 count0 life count base l = 1 := by rw [takeRE, if_neg hm]
    rw [hE]
    refine (told_take_arg h life count base v l hr hbb hm').mono ?_
    rintro e w' ⟨rfl, g⟩
    exact ⟨rfl, .inr ⟨by omega, g⟩⟩
theorem out_feed (h : OutAt w0 w o n x) (f : Int) (life count base : Nat) (v : Value) (l : List RankA) (hr : Rs w v l) (hbb : base < 18446744073709551616) (E : Int) (hE : feedE x f life count base l = E) :
    Calls Try.prog 11 #[.pointer (some ⟨o, 0, none⟩), .int .i64 f, .int .u64 life, .int .u64 count, .int .u64 base, v] w fun e w' => e = .returned (.int .i64 E) ∧ OutAt w0 w' o n (x.feed f life count base l) := by
  obtain ⟨s, bm, vt, ts, c, h⟩ := h
  have HN := Lib.hid (out_none h)
  obtain ⟨va, vc, rfl⟩ := hr.form
  cases ha : x.at f with
  | none =>
    have HO := Lib.hid (out_of_no h f (OutV.at_none ha))
    have hE1 : feedE x f life count base l = 1 := by unfold feedE; rw [ha]
    obtain rfl : E = 1 := by rw [← hE, hE1]
    have HH := Lib.hid (And.intro h (show x.feed f life count base l = x by unfold OutV.feed; rw [hE1, if_neg (by omega)]))
    clear h ha hE hE1 hr hbb
    go_enter Try.func11, Try.ntmps11
    go_wp2_with fail
    refine HN.out.mono ?_
    rintro e w' ⟨rfl, rfl⟩
    go_wp2_with fail
    refine HO.out.mono ?_
    rintro e w' ⟨rfl, rfl⟩
    go_wp2
    go_ret
    exact ⟨rfl, by rw [HH.out.2]; exact ⟨s, bm, vt, ts, c, HH.out.1⟩⟩
  | some y =>
    obtain ⟨i, rfl, hi, hv⟩ := OutV.at_some ha
    have HO := Lib.hid (out_of h i hi)
    have HT := Lib.hid (fun t ht => h.told i t y ht (by rw [List.getElem?_eq_getElem hi, hv]))
    have hE1 : feedE x i life count base l = takeRE y.life y.count life count base l := by unfold feedE; rw [ha]
    have HH := Lib.hid (And.intro h (And.intro hE1 (And.intro hE (And.intro hr (And.intro hbb hi)))))
    clear h ha hv hE hE1 hr hbb hi
    go_enter Try.func11, Try.ntmps11
    go_wp2_with fail
    refine HN.out.mono ?_
    rintro e w' ⟨rfl, rfl⟩
    go_wp2_with fail
    refine HO.out.mono ?_
    rintro e w' ⟨t, rfl, ht, rfl⟩
    have HT2 := Lib.hid (And.intro (HT.out t ht) ht)
    clear ht
    go_wp2_with fail
    refine (told_take_all HT2.out.1 life count base _ l HH.out.2.2.2.1 HH.out.2.2.2.2.1).mono ?_
    rintro e w' ⟨rfl, hc⟩
    have hres : OutAt w0 w' o n (x.feed i life count base l) := by
      unfold OutV.feed
      rw [HH.out.2.1]
      rcases hc with ⟨h0, h1, e1⟩ | ⟨h0, g⟩
      · rw [if_pos h0]
        obtain ⟨c', h2⟩ := HH.out.1.retold HH.out.2.2.2.2.2 HT2.out.2 HT2.out.1.own (v := ⟨life, count, base, kept l⟩) h1 e1
        exact ⟨s, bm, vt, ts, c', h2⟩
      · rw [if_neg h0]
        exact ⟨s, bm, vt, ts, c, HH.out.1.more g⟩
    have HR := Lib.hid hres
    rw [← HH.out.2.1, HH.out.2.2.1]
    clear hc hres
    go_wp2
    go_ret
    exact ⟨rfl, HR.out⟩
end
end Go.Proofs.Ytekdggdnkmkldaa
