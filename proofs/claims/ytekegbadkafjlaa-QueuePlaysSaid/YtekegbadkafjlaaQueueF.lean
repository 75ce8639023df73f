/- QueuePlays: Clear, All, Len, Free of a queue beside the answer's; the frames that All hands out, to be written. -/
import Derived.Test.YtekegbadkafjlaaQueueP
import Derived.OpenShut
namespace Go.Proofs.Ytekegbadkafjlaa
set_option linter.unusedVariables false
set_option linter.unusedSimpArgs false
open Go.RowKit

section
variable {w wr w' : World} {q r p : Nat} {fs gs : List (List Int)}
theorem qp_clear (h : QP w wr q r p fs gs) :
    Calls Try.prog 27 #[.pointer (some ⟨q, 0, none⟩)] wr fun e w' => e = .returned (.tuple #[]) ∧ QP w w' q r p [] gs := by
  obtain ⟨Sq, Sr, h⟩ := h
  refine (clear_any q p Sq fs wr h.qa).mono ?_
  rintro e w' ⟨rfl, h1, e1⟩
  have hq : Sq q := by obtain ⟨_, _, _, _, hq, _⟩ := h.qa; exact hq
  have hn : ∀ k, Sr k → ¬ k = q := fun k hk e => h.dis q hq (e ▸ hk)
  exact ⟨rfl, Sq, Sr, h1, h.ra.keeps e1 hn, h.dis, fun k hk => ⟨(h.sq k hk).1, Nat.lt_of_lt_of_le (h.sq k hk).2 e1.size⟩, fun k hk => ⟨(h.sr k hk).1, Nat.lt_of_lt_of_le (h.sr k hk).2 e1.size⟩, (h.grows.lift.trans e1).mono (fun k hk hh => by have := h.sq q hq; omega)⟩
theorem qp_len (h : QP w wr q r p fs gs) : Calls Try.prog 24 #[.pointer (some ⟨q, 0, none⟩)] wr fun e w' => e = .returned (.int .i64 (fs.length : Nat)) ∧ wr = w' := by
  obtain ⟨Sq, Sr, h⟩ := h
  exact qlen_any q p Sq fs wr h.qa
theorem qp_free (h : QP w wr q r p fs gs) (x : Int) (hx : (p : Int) - (fs.length : Int) = x) : Calls Try.prog 25 #[.pointer (some ⟨q, 0, none⟩)] wr fun e w' => e = .returned (.int .i64 x) ∧ Grows wr w' := by
  subst hx
  obtain ⟨Sq, Sr, h⟩ := h
  exact qfree_any q p Sq fs wr h.qa
theorem QP.cells (h : QP w wr q r p fs gs) : ∃ la lc, wr.cell? ⟨r, 1, none⟩ = some (.slice la gs.length lc) ∧ wr.frozen? ⟨r, 1, none⟩ = false ∧ Fr wr (.slice la gs.length lc) gs ∧ r < wr.heap.size := by
  obtain ⟨Sq, Sr, h⟩ := h
  obtain ⟨vl, F, ty, h1, h2, _⟩ := h.ra
  obtain ⟨la, lc, rfl⟩ := h2.form
  exact ⟨la, lc, by rw [cell_of_heap h1]; rfl, frozen_of_heap h1 _, h2.fr, heap_lt h1⟩
theorem QP.small (h : QP w wr q r p fs gs) : fs.length ≤ p ∧ gs.length ≤ p ∧ p ≤ 64 := by
  obtain ⟨Sq, Sr, h⟩ := h
  obtain ⟨_, _, _, _, _, _, h1, h2, _⟩ := h.qa
  obtain ⟨_, _, _, _, _, _, _, _, _, h4, h5⟩ := h.ra
  exact ⟨h2, h5, h1⟩
/-- The answer's row cleared. -/
theorem QP.rclear (h : QP w wr q r p fs gs) : QP w (wr.setCell ⟨r, 1, none⟩ (.slice none 0 0)) q r p fs [] := by
  obtain ⟨Sq, Sr, h⟩ := h
  have e1 : Ext (fun k => k = r) wr (wr.setCell ⟨r, 1, none⟩ (.slice none 0 0)) := Ext.setCell (S := fun k => k = r) (Ext.refl _ _) ⟨r, 1, none⟩ (Or.inr rfl) _
  obtain ⟨vl, F, ty, h1, h2, hq, h4, h5, h6, h7, h8⟩ := h.ra
  have hn : ∀ k, Sq k → ¬ k = r := fun k hk e => h.dis k hk (e ▸ hq)
  exact ⟨Sq, Sr, h.qa.keeps e1 hn, ⟨_, fun _ => False, ty, setCell_heap h1 1 _, OwnF.nil _ _, hq, fun _ h => h.elim, fun k hk => by simp [Value.ownBlock] at hk, h6, h7, Nat.zero_le _⟩, h.dis, fun k hk => ⟨(h.sq k hk).1, Nat.lt_of_lt_of_le (h.sq k hk).2 e1.size⟩, fun k hk => ⟨(h.sr k hk).1, Nat.lt_of_lt_of_le (h.sr k hk).2 e1.size⟩, (h.grows.lift.trans e1).mono (fun k hk hh => by have := h.sr r hq; omega)⟩
end

/-- Frames that a call handed out, to be written. -/
def FL (lo : Nat) (w : World) (v : Value) (n : Nat) (vs : List Value) : Prop :=
  OwnS w 22 1 v n vs ∧ ∀ (i : Nat) (u : Value), vs[i]? = some u → ∃ b l, u = .slice (some ⟨b, 0, none⟩) l l ∧ lo ≤ b ∧ Buf w b 0 l ∧ (∀ g, v.ownBlock = some g → b ≠ g) ∧ l ≤ 70000
theorem FL.at {lo : Nat} {w : World} {v : Value} {n : Nat} {vs : List Value} (h : FL lo w v n vs) (i : Nat) (hi : i < n) :
    ∃ g off cap b l, v = .slice (some ⟨g, off, none⟩) n cap ∧ w.cell? ⟨g, off + i, none⟩ = some (.slice (some ⟨b, 0, none⟩) l l) ∧ lo ≤ b ∧ Buf w b 0 l ∧ l ≤ 70000 ∧ vs[i]? = some (.slice (some ⟨b, 0, none⟩) l l) := by
  obtain ⟨g, off, cap, hv, hg, hc, _⟩ := h.1.cells i (by omega)
  have hl : i < vs.length := by have := h.1.1; omega
  obtain ⟨b, l, hu, h1, h2, _, h3⟩ := h.2 i vs[i] (List.getElem?_eq_getElem hl)
  rw [List.getElem?_eq_getElem hl, hu] at hc
  exact ⟨g, off, cap, b, l, hv, hc, h1, h2, h3, by rw [List.getElem?_eq_getElem hl, hu]⟩
theorem FL.grows {lo : Nat} {w w' : World} {v : Value} {n : Nat} {vs : List Value} (h : FL lo w v n vs) (g : Grows w w') : FL lo w' v n vs :=
  ⟨OwnS.grows h.1 g, fun i u hu => by
    obtain ⟨b, l, h1, h2, h3, h4, h5⟩ := h.2 i u hu
    exact ⟨b, l, h1, h2, h3.ext g (fun h => h), h4, h5⟩⟩
theorem FL.set {lo : Nat} {w : World} {v : Value} {n : Nat} {vs : List Value} (h : FL lo w v n vs) {i b l : Nat} (hi : vs[i]? = some (.slice (some ⟨b, 0, none⟩) l l)) (o : Nat) (y : Int) (hy : 0 ≤ y ∧ y < 256) :
    FL lo (w.setCell ⟨b, o, none⟩ (.int .u8 y)) v n vs := by
  obtain ⟨b', l', h1, _, _, h4, _⟩ := h.2 i _ hi
  injection h1 with h1
  injection h1 with h1
  injection h1 with h1
  subst h1
  have e1 : Ext (fun k => k = b) w (w.setCell ⟨b, o, none⟩ (.int .u8 y)) := Ext.setCell (S := fun k => k = b) (Ext.refl _ _) ⟨b, o, none⟩ (Or.inr rfl) _
  refine ⟨h.1.ext e1 (fun g hg hh => h4 g hg hh.symm), fun j u hu => ?_⟩
  obtain ⟨b2, l2, k1, k2, k3, k4, k5⟩ := h.2 j u hu
  exact ⟨b2, l2, k1, k2, k3.set b o y hy, k4, k5⟩
theorem qp_all {w wr : World} {q r p : Nat} {fs gs : List (List Int)} (h : QP w wr q r p fs gs) (hl : ∀ f ∈ fs, f.length ≤ 70000 ∧ ∀ x ∈ f, 0 ≤ x ∧ x < 256) :
    Calls Try.prog 28 #[.pointer (some ⟨q, 0, none⟩)] wr fun e w' => ∃ a c vs, e = .returned (.slice a fs.length c) ∧ FL wr.heap.size w' (.slice a fs.length c) fs.length vs ∧ Fr w' (.slice a fs.length c) fs ∧ Grows wr w' := by
  obtain ⟨Sq, Sr, h⟩ := h
  refine (all_any q p Sq fs wr h.qa).mono ?_
  rintro e w' ⟨v, vs, rfl, ho, hff, hap, hg⟩
  have hos := OwnS.of_owns ho
  obtain ⟨a, c, rfl⟩ := OwnS.form hos
  refine ⟨a, c, vs, rfl, ⟨hos, fun i u hu => ?_⟩, ⟨vs, hff.1, row_of_ownS hos, fun i f hf => ?_⟩, hg⟩
  · have hi : i < fs.length := by have := (List.getElem?_eq_some_iff.1 hu).1; have := hff.1; omega
    obtain ⟨b, h1, h2, h3⟩ := hff.2 i _ (List.getElem?_eq_getElem hi)
    rw [hu] at h1
    obtain rfl := Option.some.inj h1
    have hm := hl _ (List.getElem_mem hi)
    exact ⟨b, _, rfl, h2, Buf.of_u8s h3 hm.2, fun g hg => (hap g hg).2 i b _ _ hu, hm.1⟩
  · obtain ⟨b, h1, h2, h3⟩ := hff.2 i f hf
    have hm := hl f (List.mem_of_getElem? hf)
    exact ⟨_, h1, Bytes.of_heap h3 rfl (Nat.le_refl _) (by unfold maxLen; omega) hm.2 (by omega)⟩

/-- .. beside blocks X that neither the queue nor the answer's leads to. -/
def QPX (X : Nat → Prop) (w wr : World) (q r p : Nat) (fs gs : List (List Int)) : Prop := ∃ Sq Sr, QPs w wr q r p fs gs Sq Sr ∧ ∀ k, X k → ¬ Sq k ∧ ¬ Sr k ∧ k < wr.heap.size
section
variable {w wr w' : World} {q r p : Nat} {fs gs : List (List Int)} {X : Nat → Prop}
theorem QP.x {w4 : World} (h : QP w wr q r p fs gs) (g : Grows wr w4) (hX : ∀ k, X k → wr.heap.size ≤ k ∧ k < w4.heap.size) : QPX X w w4 q r p fs gs := by
  obtain ⟨Sq, Sr, h⟩ := h
  exact ⟨Sq, Sr, ⟨h.qa.grows g, h.ra.grows g, h.dis, fun k hk => ⟨(h.sq k hk).1, Nat.lt_of_lt_of_le (h.sq k hk).2 g.size⟩, fun k hk => ⟨(h.sr k hk).1, Nat.lt_of_lt_of_le (h.sr k hk).2 g.size⟩, h.grows.trans g⟩, fun k hk => ⟨fun hh => by have := hX k hk; have := h.sq k hh; omega, fun hh => by have := hX k hk; have := h.sr k hh; omega, (hX k hk).2⟩⟩
theorem QPX.qp (h : QPX X w wr q r p fs gs) : QP w wr q r p fs gs := by
  obtain ⟨Sq, Sr, h, _⟩ := h
  exact ⟨Sq, Sr, h⟩
theorem QPX.more (h : QPX X w wr q r p fs gs) (g : Grows wr w') : QPX X w w' q r p fs gs := by
  obtain ⟨Sq, Sr, h, hX⟩ := h
  exact ⟨Sq, Sr, ⟨h.qa.grows g, h.ra.grows g, h.dis, fun k hk => ⟨(h.sq k hk).1, Nat.lt_of_lt_of_le (h.sq k hk).2 g.size⟩, fun k hk => ⟨(h.sr k hk).1, Nat.lt_of_lt_of_le (h.sr k hk).2 g.size⟩, h.grows.trans g⟩, fun k hk => ⟨(hX k hk).1, (hX k hk).2.1, Nat.lt_of_lt_of_le (hX k hk).2.2 g.size⟩⟩
theorem QPX.write (h : QPX X w wr q r p fs gs) (e : Ext X wr w') (hw : ∀ k, X k → w.heap.size ≤ k) : QP w w' q r p fs gs := by
  obtain ⟨Sq, Sr, h, hX⟩ := h
  exact ⟨Sq, Sr, h.qa.keeps e (fun k hk hh => (hX k hh).1 hk), h.ra.keeps e (fun k hk hh => (hX k hh).2.1 hk), h.dis, fun k hk => ⟨(h.sq k hk).1, Nat.lt_of_lt_of_le (h.sq k hk).2 e.size⟩, fun k hk => ⟨(h.sr k hk).1, Nat.lt_of_lt_of_le (h.sr k hk).2 e.size⟩, (h.grows.lift.trans e).mono (fun k hk hh => by have := hw k hh; omega)⟩
theorem qpx_push (h : QPX X w wr q r p fs gs) (v : Value) (xs : List Int) (hb : Bytes wr v xs) (E : Int) (hE : pushE p fs.length xs.length = E) :
    Calls Try.prog 22 #[.pointer (some ⟨q, 0, none⟩), v] wr fun e w' => e = .returned (.int .i64 E) ∧ QPX X w w' q r p (pushF p fs xs) gs ∧ Ext (fun k => k = q) wr w' := by
  obtain ⟨Sq, Sr, h, hX⟩ := h
  refine (push_any q p Sq fs v xs wr h.qa hb).mono ?_
  rintro e w' (⟨h1, rfl, g⟩ | ⟨h1, h2, rfl, g⟩ | ⟨h1, h2, rfl, h3, e1⟩)
  · rw [pushE_3 h1] at hE
    refine ⟨by rw [hE], ?_, g.lift⟩
    rw [pushF, pushE_3 h1, if_neg (by omega)]
    exact QPX.more ⟨Sq, Sr, h, hX⟩ g
  · rw [pushE_7 h1 h2] at hE
    refine ⟨by rw [hE], ?_, g.lift⟩
    rw [pushF, pushE_7 h1 h2, if_neg (by omega)]
    exact QPX.more ⟨Sq, Sr, h, hX⟩ g
  · rw [pushE_0 h1 h2] at hE
    refine ⟨by rw [hE], ?_, e1⟩
    rw [pushF, pushE_0 h1 h2, if_pos rfl]
    have hq : Sq q := by obtain ⟨_, _, _, _, hq, _⟩ := h.qa; exact hq
    have hn : ∀ k, Sr k → ¬ k = q := fun k hk e => h.dis q hq (e ▸ hk)
    refine ⟨_, Sr, ⟨h3, h.ra.keeps e1 hn, fun k hk hh => ?_, fun k hk => ?_, fun k hk => ⟨(h.sr k hk).1, Nat.lt_of_lt_of_le (h.sr k hk).2 e1.size⟩, (h.grows.lift.trans e1).mono (fun k hk hh => by have := h.sq q hq; omega)⟩, fun k hk => ⟨fun hh => ?_, (hX k hk).2.1, Nat.lt_of_lt_of_le (hX k hk).2.2 e1.size⟩⟩
    · rcases hk with hk | hk
      · exact h.dis k hk hh
      · have := h.sr k hh; omega
    · rcases hk with hk | hk
      · exact ⟨(h.sq k hk).1, Nat.lt_of_lt_of_le (h.sq k hk).2 e1.size⟩
      · have := h.grows.size; omega
    · rcases hh with hh | hh
      · exact (hX k hk).1 hh
      · have := (hX k hk).2.2; omega
theorem qpx_rpush (h : QPX X w wr q r p fs gs) (v : Value) (xs : List Int) (hb : Bytes wr v xs) (E : Int) (hE : pushE p gs.length xs.length = E) :
    Calls Try.prog 31 #[.pointer (some ⟨r, 0, none⟩), v] wr fun e w' => e = .returned (.int .i64 E) ∧ QPX X w w' q r p fs (pushF p gs xs) ∧ Ext (fun k => k = r) wr w' := by
  obtain ⟨Sq, Sr, h, hX⟩ := h
  refine (refq_push r p Sr gs v xs wr h.ra hb).mono ?_
  rintro e w' (⟨h1, rfl, g⟩ | ⟨h1, h2, rfl, g⟩ | ⟨h1, h2, rfl, h3, e1⟩)
  · rw [pushE_3 h1] at hE
    refine ⟨by rw [hE], ?_, g.lift⟩
    rw [pushF, pushE_3 h1, if_neg (by omega)]
    exact QPX.more ⟨Sq, Sr, h, hX⟩ g
  · rw [pushE_7 h1 h2] at hE
    refine ⟨by rw [hE], ?_, g.lift⟩
    rw [pushF, pushE_7 h1 h2, if_neg (by omega)]
    exact QPX.more ⟨Sq, Sr, h, hX⟩ g
  · rw [pushE_0 h1 h2] at hE
    refine ⟨by rw [hE], ?_, e1⟩
    rw [pushF, pushE_0 h1 h2, if_pos rfl]
    have hq : Sr r := by obtain ⟨_, _, _, _, _, hq, _⟩ := h.ra; exact hq
    have hn : ∀ k, Sq k → ¬ k = r := fun k hk e => h.dis k hk (e ▸ hq)
    refine ⟨Sq, _, ⟨h.qa.keeps e1 hn, h3, fun k hk hh => ?_, fun k hk => ⟨(h.sq k hk).1, Nat.lt_of_lt_of_le (h.sq k hk).2 e1.size⟩, fun k hk => ?_, (h.grows.lift.trans e1).mono (fun k hk hh => by have := h.sr r hq; omega)⟩, fun k hk => ⟨(hX k hk).1, fun hh => ?_, Nat.lt_of_lt_of_le (hX k hk).2.2 e1.size⟩⟩
    · rcases hh with hh | hh
      · exact h.dis k hk hh
      · have := h.sq k hk; omega
    · rcases hk with hk | hk
      · exact ⟨(h.sr k hk).1, Nat.lt_of_lt_of_le (h.sr k hk).2 e1.size⟩
      · have := h.grows.size; omega
    · rcases hh with hh | hh
      · exact (hX k hk).2.1 hh
      · have := (hX k hk).2.2; omega
end
end Go.Proofs.Ytekegbadkafjlaa
