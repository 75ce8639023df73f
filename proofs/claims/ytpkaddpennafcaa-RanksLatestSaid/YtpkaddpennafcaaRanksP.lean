/- ranks beside the document's answer, both made by the call. -/
import Derived.Test.YtpkaddpennafcaaRanksR4
import Derived.Test.YtpkaddpennafcaaTells
namespace Go.Proofs.Ytpkaddpennafcaa
set_option linter.unusedVariables false
set_option linter.unusedSimpArgs false
open Go.ChangeShapes Go.WideShapes Go.ChangeAt Go.RowKit

/-- A footprint of its own: the block and the slice's. -/
theorem ToldAt.sharp {w : World} {t : Nat} {S : Nat → Prop} {life count base : Nat} {l : List RankV} (h : ToldAt w t S life count base l) : ∃ S', ToldAt w t S' life count base l ∧ ∀ k, S' k → S k ∧ k < w.heap.size := by
  obtain ⟨ty, vs, hh, ho, hb⟩ := h.blk
  refine ⟨fun k => k = t ∨ vs.ownBlock = some k, ⟨⟨ty, vs, hh, ho, fun b hbb => ⟨.inr hbb, (hb b hbb).2⟩⟩, .inl rfl, h.b1, h.b2, h.b3, h.b4, h.b5, h.b6⟩, fun k hk => ?_⟩
  rcases hk with rfl | hk
  · exact ⟨h.own, h.lt⟩
  · exact ⟨(hb k hk).1, ho.lt k hk⟩
theorem RefT.sharp {w : World} {t : Nat} {S : Nat → Prop} {life count base : Nat} {l : List RankA} (h : RefT w t S life count base l) : ∃ S', RefT w t S' life count base l ∧ ∀ k, S' k → S k ∧ k < w.heap.size := by
  obtain ⟨ty, vs, hh, ho, hb⟩ := h.blk
  refine ⟨fun k => k = t ∨ vs.ownBlock = some k, ⟨⟨ty, vs, hh, ho, fun b hbb => ⟨.inr hbb, (hb b hbb).2⟩⟩, .inl rfl⟩, fun k hk => ?_⟩
  rcases hk with rfl | hk
  · exact ⟨h.own, h.lt⟩
  · exact ⟨(hb k hk).1, ho.lt k hk⟩

/-- What was told, and what the answer was told. -/
structure RP (w wr : World) (t q L C B : Nat) (l : List RankA) (L' C' B' : Nat) (l' : List RankA) (St Sq : Nat → Prop) : Prop where
  told : ToldAt wr t St L C B (kept l)
  ref : RefT wr q Sq L' C' B' l'
  st : ∀ k, St k → w.heap.size ≤ k ∧ k < wr.heap.size ∧ ¬ Sq k
  sq : ∀ k, Sq k → w.heap.size ≤ k ∧ k < wr.heap.size
  ok : ∀ r ∈ l, r.okay ∧ 1 ≤ r.rank
  ok' : ∀ r ∈ l', r.okay ∧ 1 ≤ r.rank
  grows : Grows w wr

section
variable {w wr w' : World} {t q L C B : Nat} {l : List RankA} {L' C' B' : Nat} {l' : List RankA} {St Sq : Nat → Prop}
theorem RP.more (h : RP w wr t q L C B l L' C' B' l' St Sq) (g : Grows wr w') : RP w w' t q L C B l L' C' B' l' St Sq :=
  ⟨h.told.ext g (fun _ _ h => h), h.ref.ext g (fun _ _ h => h), fun k hk => by have := h.st k hk; have := g.size; exact ⟨(h.st k hk).1, by omega, (h.st k hk).2.2⟩, fun k hk => by have := h.sq k hk; have := g.size; omega, h.ok, h.ok', h.grows.trans g⟩
/-- Something else that the call made was written to. -/
theorem RP.ext {T : Nat → Prop} (h : RP w wr t q L C B l L' C' B' l' St Sq) (e : Ext T wr w') (hT : ∀ k, T k → w.heap.size ≤ k ∧ ¬ St k ∧ ¬ Sq k) : RP w w' t q L C B l L' C' B' l' St Sq :=
  ⟨h.told.ext e (fun k hk ht => (hT k ht).2.1 hk), h.ref.ext e (fun k hk ht => (hT k ht).2.2 hk), fun k hk => by have h1 := h.st k hk; have := e.size; exact ⟨h1.1, by omega, h1.2.2⟩, fun k hk => by have := h.sq k hk; have := e.size; omega, h.ok, h.ok', (h.grows.lift.trans e).mono (fun k hk ht => by have := (hT k ht).1; omega)⟩

theorem mayB_parts {life count base : Nat} {l : List RankA} (hm : mayB life count base l = true) : (1 ≤ life ∧ life ≤ MostC) ∧ (1 ≤ count ∧ count ≤ MostC) ∧ base ≤ MostG ∧ mayL (finOf base) base l = true := by
  rw [mayB] at hm
  simp only [Bool.and_eq_true, decide_eq_true_eq] at hm
  exact ⟨hm.1.1, hm.1.2, hm.2.1, hm.2.2⟩
theorem takeRE_zero {life0 count0 life count base : Nat} {l : List RankA} (hE : takeRE life0 count0 life count base l = 0) : mayB life count base l = true ∧ laterB life count life0 count0 = true := by
  rw [takeRE] at hE
  split at hE
  · rename_i hm
    split at hE
    · rename_i hl; exact ⟨hm, hl⟩
    · omega
  · omega
theorem Rs.okay {w : World} {v : Value} {l : List RankA} (h : Rs w v l) : ∀ r ∈ l, r.okay := by
  intro r hr
  obtain ⟨i, hi, rfl⟩ := List.getElem_of_mem hr
  obtain ⟨_, _, _, _, _, _, _, hok⟩ := h.at i hi
  exact hok

theorem rp_take_ok (h : RP w wr t q L C B l L' C' B' l' St Sq) (life count base : Nat) (v : Value) (l1 : List RankA) (hr : Rs wr v l1) (hbb : base < 18446744073709551616) (hE : takeRE L C life count base l1 = 0) :
    Calls Try.prog 14 #[.pointer (some ⟨t, 0, none⟩), .int .u64 life, .int .u64 count, .int .u64 base, v] wr fun e w' => e = .returned (.int .i64 0) ∧ (∃ St', RP w w' t q life count base l1 L' C' B' l' St' Sq ∧ ∀ k, St' k → St k ∨ wr.heap.size ≤ k) ∧ Ext (fun k => k = t) wr w' := by
  obtain ⟨hm, hl⟩ := takeRE_zero hE
  obtain ⟨p1, p2, p3, p4⟩ := mayB_parts hm
  refine (told_take_ok h.told life count base v l1 hr hbb hm p1.2 p2.2 hl).mono ?_
  rintro e w' ⟨rfl, h1, he⟩
  obtain ⟨S', h2, h3⟩ := h1.sharp
  have ht := h.st t h.told.own
  have hgs := h.grows.size
  refine ⟨rfl, ⟨S', ⟨h2, h.ref.ext he (fun k hk e => by subst e; exact ht.2.2 hk), fun k hk => ?_, fun k hk => by have := h.sq k hk; have := he.size; omega, fun r hr1 => ⟨hr.okay r hr1, ((mayL_mem l1 base p4).1 r hr1).2.2.1⟩, h.ok', (h.grows.lift.trans he).mono (fun k hk e => by omega)⟩, fun k hk => (h3 k hk).1⟩, he⟩
  obtain ⟨a, b⟩ := h3 k hk
  rcases a with a | a
  · have := h.st k a
    exact ⟨this.1, b, this.2.2⟩
  · exact ⟨by omega, b, fun hq => by have := h.sq k hq; omega⟩
theorem rp_take_no (h : RP w wr t q L C B l L' C' B' l' St Sq) (life count base : Nat) (v : Value) (l1 : List RankA) (hr : Rs wr v l1) (hbb : base < 18446744073709551616) (E : Int) (hE : takeRE L C life count base l1 = E) (hne : E ≠ 0) :
    Calls Try.prog 14 #[.pointer (some ⟨t, 0, none⟩), .int .u64 life, .int .u64 count, .int .u64 base, v] wr fun e w' => e = .returned (.int .i64 E) ∧ Grows wr w' := by
  rw [takeRE] at hE
  by_cases hm : mayB life count base l1 = true
  · rw [if_pos hm] at hE
    by_cases hl : laterB life count L C = true
    · rw [if_pos hl] at hE; omega
    · rw [if_neg hl] at hE
      subst hE
      obtain ⟨p1, p2, _⟩ := mayB_parts hm
      exact told_take_old h.told life count base v l1 hr hbb hm p1.2 p2.2 (by simpa using hl)
  · rw [if_neg hm] at hE
    subst hE
    exact told_take_arg h.told life count base v l1 hr hbb (by simpa using hm)
theorem rp_rtake_ok (h : RP w wr t q L C B l L' C' B' l' St Sq) (life count base : Nat) (v : Value) (l1 : List RankA) (hr : Rs wr v l1) (hv : ∀ b, v.ownBlock = some b → l1 ≠ [] → b ≠ q) (hE : takeRE L' C' life count base l1 = 0) :
    Calls Try.prog 20 #[.pointer (some ⟨q, 0, none⟩), .int .u64 life, .int .u64 count, .int .u64 base, v] wr fun e w' => e = .returned (.int .i64 0) ∧ (∃ Sq', RP w w' t q L C B l life count base l1 St Sq' ∧ ∀ k, Sq' k → Sq k ∨ wr.heap.size ≤ k) ∧ Ext (fun k => k = q) wr w' := by
  obtain ⟨hm, hl⟩ := takeRE_zero hE
  obtain ⟨p1, p2, p3, p4⟩ := mayB_parts hm
  refine (reftake_ok h.ref life count base v l1 hr hv hm hl).mono ?_
  rintro e w' ⟨rfl, h1, he⟩
  obtain ⟨S', h2, h3⟩ := h1.sharp
  have hq := h.sq q h.ref.own
  have hgs := h.grows.size
  refine ⟨rfl, ⟨S', ⟨h.told.ext he (fun k hk e => by subst e; exact (h.st _ hk).2.2 h.ref.own), h2, fun k hk => ?_, fun k hk => ?_, h.ok, fun r hr1 => ⟨hr.okay r hr1, ((mayL_mem l1 base p4).1 r hr1).2.2.1⟩, (h.grows.lift.trans he).mono (fun k hk e => by omega)⟩, fun k hk => (h3 k hk).1⟩, he⟩
  · have h4 := h.st k hk
    have := he.size
    refine ⟨h4.1, by omega, fun hs => ?_⟩
    rcases (h3 k hs).1 with a | a
    · exact h4.2.2 a
    · omega
  · obtain ⟨a, b⟩ := h3 k hk
    rcases a with a | a
    · have := h.sq k a
      exact ⟨this.1, b⟩
    · exact ⟨by omega, b⟩
theorem rp_rtake_no (h : RP w wr t q L C B l L' C' B' l' St Sq) (life count base : Nat) (v : Value) (l1 : List RankA) (hr : Rs wr v l1) (E : Int) (hE : takeRE L' C' life count base l1 = E) (hne : E ≠ 0) :
    Calls Try.prog 20 #[.pointer (some ⟨q, 0, none⟩), .int .u64 life, .int .u64 count, .int .u64 base, v] wr fun e w' => e = .returned (.int .i64 E) ∧ Grows wr w' := by
  rw [takeRE] at hE
  by_cases hm : mayB life count base l1 = true
  · rw [if_pos hm] at hE
    by_cases hl : laterB life count L' C' = true
    · rw [if_pos hl] at hE; omega
    · rw [if_neg hl] at hE
      subst hE
      exact reftake_old h.ref life count base v l1 hr hm (by simpa using hl)
  · rw [if_neg hm] at hE
    subst hE
    exact reftake_arg life count base v l1 hr (by simpa using hm)
end

theorem racells_set : ∀ (l : List RankA) (k : Nat) (y : Int), k < l.length → racells (l.set k ⟨(l.getD k ⟨0, 0⟩).gen, y⟩) = (racells l).set (k * 2 + 1) (.int .i64 y)
  | r :: rest, 0, y, _ => by simp [racells]
  | r :: rest, k + 1, y, hk => by
    have := racells_set rest k y (by simpa using hk)
    rw [List.set_cons_succ, racells, racells, show (k + 1) * 2 + 1 = (k * 2 + 1) + 1 + 1 by omega, List.set_cons_succ, List.set_cons_succ, ← this]
    simp
/-- A cell of an owned slice set. -/
theorem OwnS.set {w : World} {e : TypeId} {k n : Nat} {g off cap : Nat} {xs : List Value} (h : OwnS w e k (.slice (some ⟨g, off, none⟩) n cap) n xs) (i : Nat) (hi : i < n * k) (u : Value) :
    OwnS (w.setCell ⟨g, off + i, none⟩ u) e k (.slice (some ⟨g, off, none⟩) n cap) n (xs.set i u) := by
  rcases h.2 with ⟨h0, _⟩ | ⟨g', off', cap', cur, h0, hg, h1, h2, h3, h4⟩
  · cases h0
  · simp only [Value.slice.injEq, Option.some.injEq, Addr.mk.injEq] at h0
    obtain ⟨⟨rfl, rfl, _⟩, _, rfl⟩ := h0
    have hmul : n * k ≤ cap * k := Nat.mul_le_mul_right _ h1
    refine ⟨by rw [List.length_set]; exact h.1, .inr ⟨g, off, cap, _, rfl, setCell_heap hg (off + i) u, h1, h2, by simp; omega, fun j hj => ?_⟩⟩
    by_cases hji : j = i
    · subst hji
      rw [Array.getElem?_setIfInBounds_self_of_lt (by omega), List.getElem?_set_self (by have := h.1; omega)]
    · rw [Array.getElem?_setIfInBounds_ne (by omega), List.getElem?_set_ne (by omega), h4 j hj]

theorem told_take_any {w : World} {t : Nat} {S : Nat → Prop} {life0 count0 base0 : Nat} {l0 : List RankV} (h : ToldAt w t S life0 count0 base0 l0) (x : Int) (life count base : Nat) (hx : x = (life : Int)) (v : Value) (l : List RankA) (hr : Rs w v l) (hbb : base < 18446744073709551616) :
    Calls Try.prog 14 #[.pointer (some ⟨t, 0, none⟩), .int .u64 x, .int .u64 count, .int .u64 base, v] w fun e w' => ∃ E : Int, e = .returned (.int .i64 E) ∧ Ext (fun k => k = t) w w' := by
  subst hx
  by_cases hm : mayB life count base l = true
  · obtain ⟨p1, p2, _⟩ := mayB_parts hm
    by_cases hl : laterB life count life0 count0 = true
    · refine (told_take_ok h life count base v l hr hbb hm p1.2 p2.2 hl).mono ?_
      rintro e w' ⟨rfl, _, he⟩
      exact ⟨0, rfl, he⟩
    · refine (told_take_old h life count base v l hr hbb hm p1.2 p2.2 (by simpa using hl)).mono ?_
      rintro e w' ⟨rfl, g⟩
      exact ⟨22, rfl, g.lift⟩
  · refine (told_take_arg h life count base v l hr hbb (by simpa using hm)).mono ?_
    rintro e w' ⟨rfl, g⟩
    exact ⟨1, rfl, g.lift⟩

theorem Tells.form {w : World} {v : Value} {xs : List TellV} (h : Tells w v xs) : ∃ a cap, v = .slice a xs.length cap := by
  rcases h.1 with ⟨a, cap, h1, h2⟩ | ⟨b, off, cap, rfl, _⟩
  · exact ⟨a, cap, by rw [h1, h2]⟩
  · exact ⟨_, _, rfl⟩
theorem Tells.at {w : World} {v : Value} {xs : List TellV} (h : Tells w v xs) (i : Nat) (hi : i < xs.length) :
    ∃ b off cap u, v = .slice (some ⟨b, off, none⟩) xs.length cap ∧ b < w.heap.size ∧ (w.cell? ⟨b, off + i * 4, none⟩ = some (.int .u64 xs[i].life) ∧ w.cell? ⟨b, off + i * 4 + 1, none⟩ = some (.int .u64 xs[i].count) ∧ w.cell? ⟨b, off + i * 4 + 2, none⟩ = some (.int .u64 xs[i].base) ∧ w.cell? ⟨b, off + i * 4 + 3, none⟩ = some u) ∧ Rs w u xs[i].l ∧ xs[i].life < 18446744073709551616 ∧ xs[i].count < 18446744073709551616 ∧ xs[i].base < 18446744073709551616 := by
  rcases h.1 with ⟨a, cap, h1, h2⟩ | ⟨b, off, cap, rfl, _, _, hb, h5⟩
  · omega
  · obtain ⟨cs, _, ⟨o, ho, u, rfl, hrs, h6⟩, hc⟩ := h5 i hi
    rw [List.getElem?_eq_getElem hi] at ho
    simp at ho
    subst ho
    exact ⟨b, off, cap, u, rfl, hb, ⟨hc 0 (by omega), hc 1 (by omega), hc 2 (by omega), hc 3 (by omega)⟩, hrs, h6⟩

end Go.Proofs.Ytpkaddpennafcaa
