/- link: Credit, Sent, Granted, Known, Rank, Feedback. -/
import Derived.Test.YtekdggdnkmkldaaLinkO
namespace Go.Proofs.Ytekdggdnkmkldaa
set_option linter.unusedVariables false
set_option linter.unusedSimpArgs false
set_option maxRecDepth 1500
open Go.RowKit

theorem ToldAt.sharp2 {w : World} {t : Nat} {S : Nat → Prop} {life count base : Nat} {l : List RankV} (h : ToldAt w t S life count base l) : ToldAt w t (fun k => S k ∧ k < w.heap.size) life count base l := by
  have hl := h.lt
  obtain ⟨ty, vs, hh, ho, hb⟩ := h.blk
  exact ⟨⟨ty, vs, hh, ho, fun b hbb => ⟨⟨(hb b hbb).1, ho.lt b hbb⟩, (hb b hbb).2⟩⟩, ⟨h.own, hl⟩, h.b1, h.b2, h.b3, h.b4, h.b5, h.b6⟩

def OutV.credit (x : OutV) (life tt g : Nat) : OutV := { x with peer := takeP x.own x.peer life tt g, gr := takeG x.own x.peer x.gr life tt g }
def OutV.tell (x : OutV) (i : Nat) (v : ToldV) : OutV := { x with told := x.told.set i v }
/-- What was told of a flow. -/
def OutV.at (x : OutV) (f : Int) : Option ToldV := if 0 ≤ f then x.told[f.toNat]? else none
def OutV.known (x : OutV) (f : Int) : Nat × Bool := match x.at f with
  | some v => if 0 < v.life then (v.base, true) else (0, false)
  | none => (0, false)
def OutV.rank (x : OutV) (f : Int) (gen : Nat) : Nat := match x.at f with
  | some v => rankOf gen v.l
  | none => 0
theorem OutV.at_some {x : OutV} {f : Int} {v : ToldV} (h : x.at f = some v) : ∃ i : Nat, f = (i : Int) ∧ ∃ hi : i < x.told.length, x.told[i] = v := by
  unfold OutV.at at h
  split at h
  · rename_i h0
    obtain ⟨i, rfl⟩ := Int.eq_ofNat_of_zero_le h0
    obtain ⟨hi, h1⟩ := List.getElem?_eq_some_iff.1 (show x.told[i]? = some v from h)
    exact ⟨i, rfl, hi, h1⟩
  · cases h
theorem OutV.at_none {x : OutV} {f : Int} (h : x.at f = none) : f < 0 ∨ (x.told.length : Int) ≤ f := by
  unfold OutV.at at h
  split at h
  · rename_i h0
    have := List.getElem?_eq_none_iff.1 h
    omega
  · omega

section
variable {w0 : Frm} {w w' : World} {o n : Nat} {x : OutV}
theorem OutC.sender {s bm : Nat} {vt : Value} {ts : List Nat} {c : Nat → Nat} {peer gr used : Nat} (h : OutC w0 w o s bm n vt ts c x) (h1 : SenderAt w' s x.own peer gr used) (e : Ext (fun k => k = s) w w') :
    OutC w0 w' o s bm n vt ts c { x with peer := peer, gr := gr, used := used } := by
  have hd : ∀ k d, c k = d → d ≠ 2 → ¬ k = s := fun k d hk h2 hh => by rw [hh, h.cs] at hk; omega
  obtain ⟨ty, hb⟩ := h.blk
  exact ⟨⟨ty, (e.block o (heap_lt hb) (hd o 1 h.co (by omega))).trans hb⟩, h.co, h1, h.cs, h.mq.ext e (hd bm 3 h.cm (by omega)), h.cm, h.row.ext e (fun k hk => hd k 4 (h.ct k hk) (by omega)), h.ct, h.tl,
    fun i t v h3 h4 => (h.told i t v h3 h4).ext e (fun k hk => hd k (5 + i) hk (by omega)), fun k hk => ⟨(h.lo k hk).1, Nat.lt_of_lt_of_le (h.lo k hk).2 e.size⟩, h.few, Frm.step h.gw e (fun k hh => hh ▸ (h.lo s (by rw [h.cs]; omega)).1)⟩
theorem out_credit (h : OutAt w0 w o n x) (life tt g : Nat) (E : Int) (hE : takeE x.own x.peer life tt g = E) :
    Calls Try.prog 10 #[.pointer (some ⟨o, 0, none⟩), .int .u64 life, .int .u64 tt, .int .u64 g] w fun e w' => e = .returned (.int .i64 E) ∧ OutAt w0 w' o n (x.credit life tt g) := by
  obtain ⟨s, bm, vt, ts, c, h⟩ := h
  have HN := Lib.hid (out_none h)
  have c0 := h.cells.1.1
  have HH := Lib.hid (And.intro h hE)
  clear h hE
  go_enter Try.func10, Try.ntmps10
  go_wp2_with fail
  refine HN.out.mono ?_
  rintro e w' ⟨rfl, rfl⟩
  go_wp2_with fail
  refine (take_any w s _ _ _ _ life tt g HH.out.1.snd).mono ?_
  rintro e w' ⟨rfl, h1, e1⟩
  have HR := Lib.hid (HH.out.1.sender h1 e1)
  rw [HH.out.2]
  clear h1 e1 c0
  go_wp2
  go_ret
  exact ⟨rfl, s, bm, vt, ts, c, HR.out⟩
theorem out_sent (h : OutAt w0 w o n x) : Calls Try.prog 21 #[.pointer (some ⟨o, 0, none⟩)] w fun e w' => e = .returned (.int .u64 x.used) ∧ w = w' := by
  obtain ⟨s, bm, vt, ts, c, h⟩ := h
  have HN := Lib.hid (out_none h)
  have c0 := h.cells.1.1
  have HS := Lib.hid h.snd
  clear h
  go_enter Try.func21, Try.ntmps21
  go_wp2_with fail
  refine HN.out.mono ?_
  rintro e w' ⟨rfl, rfl⟩
  go_wp2_with fail
  refine (sent_any w s _ _ _ _ HS.out).mono ?_
  rintro e w' ⟨rfl, rfl⟩
  go_wp2
  go_ret
  exact ⟨rfl, rfl⟩
theorem out_granted (h : OutAt w0 w o n x) : Calls Try.prog 22 #[.pointer (some ⟨o, 0, none⟩)] w fun e w' => e = .returned (.int .u64 x.gr) ∧ w = w' := by
  obtain ⟨s, bm, vt, ts, c, h⟩ := h
  have HN := Lib.hid (out_none h)
  have c0 := h.cells.1.1
  have HS := Lib.hid h.snd
  clear h
  go_enter Try.func22, Try.ntmps22
  go_wp2_with fail
  refine HN.out.mono ?_
  rintro e w' ⟨rfl, rfl⟩
  go_wp2_with fail
  refine (granted_any w s _ _ _ _ HS.out).mono ?_
  rintro e w' ⟨rfl, rfl⟩
  go_wp2
  go_ret
  exact ⟨rfl, rfl⟩
theorem out_known (h : OutAt w0 w o n x) (f : Int) (B : Nat) (b : Bool) (hk : x.known f = (B, b)) : Calls Try.prog 19 #[.pointer (some ⟨o, 0, none⟩), .int .i64 f] w fun e w' => e = .returned (.tuple #[.int .u64 B, .bool b]) ∧ w = w' := by
  obtain ⟨s, bm, vt, ts, c, h⟩ := h
  cases ha : x.at f with
  | none =>
    have HO := Lib.hid (out_of_no h f (OutV.at_none ha))
    unfold OutV.known at hk
    rw [ha] at hk
    obtain ⟨rfl, rfl⟩ := Prod.mk.inj hk
    clear h ha hk
    go_enter Try.func19, Try.ntmps19
    go_wp2_with fail
    refine HO.out.mono ?_
    rintro e w' ⟨rfl, rfl⟩
    go_wp2
    go_ret2
    exact ⟨rfl, rfl⟩
  | some v =>
    obtain ⟨i, rfl, hi, hv⟩ := OutV.at_some ha
    have HO := Lib.hid (out_of h i hi)
    have HT := Lib.hid (fun t ht => h.told i t v ht (by rw [List.getElem?_eq_getElem hi, hv]))
    unfold OutV.known at hk
    rw [ha] at hk
    simp only at hk
    clear h ha hv
    by_cases hl : 0 < v.life
    · rw [if_pos hl] at hk
      obtain ⟨rfl, rfl⟩ := Prod.mk.inj hk
      have HL := Lib.hid hl
      clear hk hl
      go_enter Try.func19, Try.ntmps19
      go_wp2_with fail
      refine HO.out.mono ?_
      rintro e w' ⟨t, rfl, ht, rfl⟩
      have HT2 := Lib.hid (HT.out t ht)
      clear ht
      go_wp2_with fail
      refine (told_known HT2.out).mono ?_
      rintro e w' ⟨rfl, rfl⟩
      rw [decide_eq_true HL.out]
      go_wp2_with fail
      refine (told_base HT2.out).mono ?_
      rintro e w' ⟨rfl, rfl⟩
      go_wp2
      go_ret2
      exact ⟨rfl, rfl⟩
    · rw [if_neg hl] at hk
      obtain ⟨rfl, rfl⟩ := Prod.mk.inj hk
      have HL := Lib.hid hl
      clear hk hl
      go_enter Try.func19, Try.ntmps19
      go_wp2_with fail
      refine HO.out.mono ?_
      rintro e w' ⟨t, rfl, ht, rfl⟩
      have HT2 := Lib.hid (HT.out t ht)
      clear ht
      go_wp2_with fail
      refine (told_known HT2.out).mono ?_
      rintro e w' ⟨rfl, rfl⟩
      rw [decide_eq_false HL.out]
      go_wp2
      go_ret2
      exact ⟨rfl, rfl⟩
theorem out_rank (h : OutAt w0 w o n x) (f : Int) (gen : Nat) (r : Nat) (hr : x.rank f gen = r) : Calls Try.prog 20 #[.pointer (some ⟨o, 0, none⟩), .int .i64 f, .int .u64 gen] w fun e w' => e = .returned (.int .i64 (r : Nat)) ∧ Grows w w' := by
  obtain ⟨s, bm, vt, ts, c, h⟩ := h
  cases ha : x.at f with
  | none =>
    have HO := Lib.hid (out_of_no h f (OutV.at_none ha))
    unfold OutV.rank at hr
    rw [ha] at hr
    subst hr
    clear h ha
    go_enter Try.func20, Try.ntmps20
    go_wp2_with fail
    refine HO.out.mono ?_
    rintro e w' ⟨rfl, rfl⟩
    go_wp2
    go_ret
    exact ⟨rfl, Ext.refl _ _⟩
  | some v =>
    obtain ⟨i, rfl, hi, hv⟩ := OutV.at_some ha
    have HO := Lib.hid (out_of h i hi)
    have HT := Lib.hid (fun t ht => h.told i t v ht (by rw [List.getElem?_eq_getElem hi, hv]))
    unfold OutV.rank at hr
    rw [ha] at hr
    subst hr
    clear h ha hv
    go_enter Try.func20, Try.ntmps20
    go_wp2_with fail
    refine HO.out.mono ?_
    rintro e w' ⟨t, rfl, ht, rfl⟩
    have HT2 := Lib.hid (HT.out t ht)
    clear ht
    go_wp2_with fail
    refine (told_rank HT2.out gen).mono ?_
    rintro e w' ⟨rfl, hg⟩
    have HG := Lib.hid hg
    clear hg
    go_wp2
    go_ret
    exact ⟨rfl, HG.out⟩
end
end Go.Proofs.Ytekdggdnkmkldaa
