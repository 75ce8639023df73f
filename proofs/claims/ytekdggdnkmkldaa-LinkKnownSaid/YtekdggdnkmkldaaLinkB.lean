/- link: an In's calls by their answers; things that lie apart in memory, each with what it owns. -/
import Derived.Test.YtekdggdnkmkldaaLinkA
namespace Go.Proofs.Ytekdggdnkmkldaa
set_option linter.unusedVariables false
set_option linter.unusedSimpArgs false
set_option maxRecDepth 1500
open Go.RowKit

theorem InAt.full {z : Frm} {w : World} {i : Nat} {x : InV} (h : InAt z w i x) : x.fs.length ≤ x.places ∧ 1 ≤ x.places ∧ x.places ≤ 64 := by
  obtain ⟨q, r, S, h⟩ := h
  exact h.full
theorem InAt.more {z : Frm} {w w' : World} {i : Nat} {x : InV} (h : InAt z w i x) (g : Grows w w') : InAt z w' i x := by
  obtain ⟨q, r, S, h⟩ := h
  exact ⟨q, r, S, h.more g⟩
theorem InAt.gw {z : Frm} {w : World} {i : Nat} {x : InV} (h : InAt z w i x) : Ext z.F z.wd w := by
  obtain ⟨q, r, S, h⟩ := h
  exact h.gw
theorem at_life {z : Frm} {w : World} {i : Nat} {x : InV} (h : InAt z w i x) (p : Int) (hp : (x.peer : Int) = p) : Calls Try.prog 25 #[.pointer (some ⟨i, 0, none⟩)] w fun e w' => e = .returned (.int .u64 p) ∧ w = w' := by
  obtain ⟨q, r, S, h⟩ := h
  exact hp ▸ in_life h
theorem at_len {z : Frm} {w : World} {i : Nat} {x : InV} (h : InAt z w i x) (m : Nat) (hm : x.fs.length = m) : Calls Try.prog 23 #[.pointer (some ⟨i, 0, none⟩)] w fun e w' => e = .returned (.int .i64 (m : Nat)) ∧ w = w' := by
  obtain ⟨q, r, S, h⟩ := h
  exact hm ▸ in_len h
theorem at_grant {z : Frm} {w : World} {i : Nat} {x : InV} (h : InAt z w i x) (fr : Nat) (hfr : x.fs.length + fr = x.places) (G : Nat) (hG : grantG x.gr x.seen fr = G) : Calls Try.prog 17 #[.pointer (some ⟨i, 0, none⟩)] w fun e w' => e = .returned (.tuple #[.int .u64 (G : Nat), .int .i64 0]) ∧ InAt z w' i { x with gr := G } := by
  obtain ⟨q, r, S, h⟩ := h
  subst hG
  refine (in_grant h fr hfr).mono ?_
  rintro e w' ⟨rfl, h2⟩
  exact ⟨rfl, q, r, S, h2⟩
theorem at_probe {z : Frm} {w : World} {i : Nat} {x : InV} (h : InAt z w i x) (life seq : Nat) (E : Int) (hE : sawE x.peer life seq = E) : Calls Try.prog 16 #[.pointer (some ⟨i, 0, none⟩), .int .u64 life, .int .u64 seq] w fun e w' => e = .returned (.int .i64 E) ∧ InAt z w' i (x.saw life seq) := by
  obtain ⟨q, r, S, h⟩ := h
  refine (in_probe h life seq E hE).mono ?_
  rintro e w' ⟨rfl, h2⟩
  exact ⟨rfl, q, r, S, h2⟩
theorem at_pop {z : Frm} {w : World} {i : Nat} {x : InV} (h : InAt z w i x) : Calls Try.prog 18 #[.pointer (some ⟨i, 0, none⟩)] w fun e w' => ∃ v, e = .returned v ∧ ∃ fs, InAt z w' i { x with fs := fs } := by
  obtain ⟨q, r, S, h⟩ := h
  rcases hx : x.fs with _ | ⟨f, rest⟩
  · refine (in_pop_none h hx).mono ?_
    rintro e w' ⟨rfl, rfl⟩
    exact ⟨_, rfl, x.fs, q, r, S, h⟩
  · refine (in_pop_ok h f rest hx).mono ?_
    rintro e w' ⟨b, _, rfl, _, h2⟩
    exact ⟨_, rfl, rest, q, r, S, h2⟩
theorem at_pop_ok {z : Frm} {w : World} {i : Nat} {x : InV} (h : InAt z w i x) (f : List Int) (rest : List (List Int)) (hf : x.fs = f :: rest) : Calls Try.prog 18 #[.pointer (some ⟨i, 0, none⟩)] w fun e w' => ∃ b, w.heap.size ≤ b ∧ e = .returned (.tuple #[.slice (some ⟨b, 0, none⟩) f.length f.length, .bool true]) ∧ Bytes w' (.slice (some ⟨b, 0, none⟩) f.length f.length) f ∧ InAt z w' i { x with fs := rest } := by
  obtain ⟨q, r, S, h⟩ := h
  refine (in_pop_ok h f rest hf).mono ?_
  rintro e w' ⟨b, hb, rfl, h1, h2⟩
  exact ⟨b, hb, rfl, h1, q, r, S, h2⟩
theorem at_pop_none {z : Frm} {w : World} {i : Nat} {x : InV} (h : InAt z w i x) (hf : x.fs = []) : Calls Try.prog 18 #[.pointer (some ⟨i, 0, none⟩)] w fun e w' => e = .returned (.tuple #[.slice none 0 0, .bool false]) ∧ w = w' := by
  obtain ⟨q, r, S, h⟩ := h
  exact in_pop_none h hf
theorem at_all {z : Frm} {w : World} {i : Nat} {x : InV} (h : InAt z w i x) : Calls Try.prog 24 #[.pointer (some ⟨i, 0, none⟩)] w fun e w' => AllOut x.fs w e w' := by
  obtain ⟨q, r, S, h⟩ := h
  exact in_all h
theorem in_dataN {w0 : Frm} {w : World} {i : Nat} {x : InV} (h : InAt w0 w i x) (life seq : Nat) (v : Value) (xs : List Int) (hb : Bytes w v xs) (E A B : Int) (hE : dataE x life seq xs.length = E) (hA : (life : Int) = A) (hB : (seq : Int) = B) (y : InV) (hy : x.data life seq xs = y) :
    Calls Try.prog 15 #[.pointer (some ⟨i, 0, none⟩), .int .u64 A, .int .u64 B, v] w fun e w' => e = .returned (.int .i64 E) ∧ InAt w0 w' i y := hA ▸ hB ▸ hy ▸ in_data h life seq v xs hb E hE

/-- A thing that can say which blocks it owns. -/
structure Parts (A : Frm → World → Prop) : Prop where
  base : ∀ {z : Frm} {w : World}, A z w → ∃ F : Nat → Prop, A ⟨w, F⟩ w ∧ ∀ k, F k → z.ok k ∧ k < w.heap.size
  gw : ∀ {z : Frm} {w : World}, A z w → Ext z.F z.wd w
  kept : ∀ {w w' : World} {F T : Nat → Prop}, A ⟨w, F⟩ w → Ext T w w' → (∀ k, F k → ¬ T k) → A ⟨w', F⟩ w'
  lift : ∀ {z : Frm} {w w' : World} {F : Nat → Prop}, A ⟨w, F⟩ w' → (∀ k, F k → z.ok k) → Ext z.F z.wd w → A z w'
theorem Frm.okOf {z : Frm} {w : World} {F : Nat → Prop} {k : Nat} (h : (⟨w, F⟩ : Frm).ok k) (hF : ∀ k, F k → z.ok k) (g : Ext z.F z.wd w) : z.ok k := h.elim (fun h => .inl (Nat.le_trans g.size h)) (hF k)
theorem Parts.more {A : Frm → World → Prop} (p : Parts A) {z : Frm} {w w' : World} (h : A z w) (g : Grows w w') : A z w' := by
  obtain ⟨F, h1, h2⟩ := p.base h
  exact p.lift (p.kept h1 g (fun _ _ h => h)) (fun k hk => (h2 k hk).1) (Frm.step (p.gw h) g (fun _ h => h.elim))
def Star (A B : Frm → World → Prop) (z : Frm) (w : World) : Prop := ∃ F G : Nat → Prop, A ⟨w, F⟩ w ∧ B ⟨w, G⟩ w ∧ (∀ k, F k → ¬ G k) ∧ (∀ k, F k ∨ G k → z.ok k ∧ k < w.heap.size) ∧ Ext z.F z.wd w
theorem parts_star {A B : Frm → World → Prop} (pa : Parts A) (pb : Parts B) : Parts (Star A B) where
  base := fun {z w} h => by
    obtain ⟨F, G, h1, h2, h3, h4, h5⟩ := h
    exact ⟨fun k => F k ∨ G k, ⟨F, G, h1, h2, h3, fun k hk => ⟨.inr hk, (h4 k hk).2⟩, Ext.refl _ _⟩, h4⟩
  gw := fun {z w} h => by
    obtain ⟨F, G, h1, h2, h3, h4, h5⟩ := h
    exact h5
  kept := fun {w w' F0 T} h e hT => by
    obtain ⟨F, G, h1, h2, h3, h4, h5⟩ := h
    have hf : ∀ k, F k ∨ G k → F0 k := fun k hk => (h4 k hk).1.elim (fun h => absurd (h4 k hk).2 (Nat.not_lt.2 h)) id
    exact ⟨F, G, pa.kept h1 e (fun k hk => hT k (hf k (.inl hk))), pb.kept h2 e (fun k hk => hT k (hf k (.inr hk))), h3, fun k hk => ⟨.inr (hf k hk), Nat.lt_of_lt_of_le (h4 k hk).2 e.size⟩, Ext.refl _ _⟩
  lift := fun {z w w' F0} h hF g => by
    obtain ⟨F, G, h1, h2, h3, h4, h5⟩ := h
    exact ⟨F, G, h1, h2, h3, fun k hk => ⟨Frm.okOf (h4 k hk).1 hF g, (h4 k hk).2⟩, Frm.step g h5 hF⟩
section
variable {A B A' B' : Frm → World → Prop} {z : Frm} {w w' : World}
theorem Star.l (pa : Parts A) (h : Star A B z w) : A z w := by
  obtain ⟨F, G, h1, h2, h3, h4, h5⟩ := h
  exact pa.lift h1 (fun k hk => (h4 k (.inl hk)).1) h5
theorem Star.r (pb : Parts B) (h : Star A B z w) : B z w := by
  obtain ⟨F, G, h1, h2, h3, h4, h5⟩ := h
  exact pb.lift h2 (fun k hk => (h4 k (.inr hk)).1) h5
theorem Star.stepL (pa' : Parts A') (pb : Parts B) {F G : Nat → Prop} (h2 : B ⟨w, G⟩ w) (h3 : ∀ k, F k → ¬ G k) (h4 : ∀ k, F k ∨ G k → z.ok k ∧ k < w.heap.size) (h5 : Ext z.F z.wd w) (h : A' ⟨w, F⟩ w') : Star A' B z w' := by
  obtain ⟨F', g1, g2⟩ := pa'.base h
  have e : Ext F w w' := pa'.gw h
  refine ⟨F', G, g1, pb.kept h2 e (fun k hk hf => h3 k hf hk), fun k hk hg => ?_, fun k hk => ?_, Frm.step h5 e (fun k hk => (h4 k (.inl hk)).1)⟩
  · rcases (g2 k hk).1 with h | h
    · exact absurd (h4 k (.inr hg)).2 (Nat.not_lt.2 h)
    · exact h3 k h hg
  · rcases hk with hk | hk
    · exact ⟨Frm.okOf (g2 k hk).1 (fun k hk => (h4 k (.inl hk)).1) h5, (g2 k hk).2⟩
    · exact ⟨(h4 k (.inr hk)).1, Nat.lt_of_lt_of_le (h4 k (.inr hk)).2 e.size⟩
theorem Star.comm (h : Star A B z w) : Star B A z w := by
  obtain ⟨F, G, h1, h2, h3, h4, h5⟩ := h
  exact ⟨G, F, h2, h1, fun k hk hf => h3 k hf hk, fun k hk => h4 k hk.symm, h5⟩
theorem Star.opL (h : Star A B z w) (pa' : Parts A') (pb : Parts B) {P : Program} {f : Nat} {args : Array Value} {Q : Ending → World → Prop} (op : ∀ z, A z w → Calls P f args w fun e w' => Q e w' ∧ A' z w') : Calls P f args w fun e w' => Q e w' ∧ Star A' B z w' := by
  obtain ⟨F, G, h1, h2, h3, h4, h5⟩ := h
  refine (op _ h1).mono ?_
  rintro e w' ⟨q, a⟩
  exact ⟨q, Star.stepL pa' pb h2 h3 h4 h5 a⟩
theorem Star.opR (h : Star A B z w) (pa : Parts A) (pb' : Parts B') {P : Program} {f : Nat} {args : Array Value} {Q : Ending → World → Prop} (op : ∀ z, B z w → Calls P f args w fun e w' => Q e w' ∧ B' z w') : Calls P f args w fun e w' => Q e w' ∧ Star A B' z w' := by
  refine (h.comm.opL pb' pa op).mono ?_
  rintro e w' ⟨q, a⟩
  exact ⟨q, a.comm⟩
theorem Star.mkR (pa : Parts A) (pb : Parts B) (h : A z w) (hb : B (Frm.of w) w') : Star A B z w' := by
  obtain ⟨F, h1, h2⟩ := pa.base h
  obtain ⟨G, g1, g2⟩ := pb.base hb
  have e : Grows w w' := pb.gw hb
  have hg : ∀ k, G k → w.heap.size ≤ k := fun k hk => (g2 k hk).1.elim id (fun h => h.elim)
  refine ⟨F, G, pa.kept h1 e (fun _ _ h => h), g1, fun k hk hk2 => ?_, fun k hk => ?_, Frm.step (pa.gw h) e (fun _ h => h.elim)⟩
  · have := hg k hk2
    have := (h2 k hk).2
    omega
  · rcases hk with hk | hk
    · exact ⟨(h2 k hk).1, Nat.lt_of_lt_of_le (h2 k hk).2 e.size⟩
    · exact ⟨.inl (Nat.le_trans (pa.gw h).size (hg k hk)), (g2 k hk).2⟩
end
/-- A block. -/
def Blk (b : Nat) (o : Obj) (z : Frm) (w : World) : Prop := w.heap[b]? = some o ∧ z.ok b ∧ Ext z.F z.wd w
theorem parts_blk (b : Nat) (o : Obj) : Parts (Blk b o) where
  base := fun {z w} h => ⟨fun k => k = b, ⟨h.1, .inr rfl, Ext.refl _ _⟩, fun k hk => by subst hk; exact ⟨h.2.1, heap_lt h.1⟩⟩
  gw := fun h => h.2.2
  kept := fun {w w' F T} h e hT => ⟨(e.block b (heap_lt h.1) (hT b (h.2.1.elim (fun g => absurd (heap_lt h.1) (Nat.not_lt.2 g)) id))).trans h.1, .inr (h.2.1.elim (fun g => absurd (heap_lt h.1) (Nat.not_lt.2 g)) id), Ext.refl _ _⟩
  lift := fun h hF g => ⟨h.1, Frm.okOf h.2.1 hF g, Frm.step g h.2.2 hF⟩
theorem Blk.new (w : World) (o : Obj) : Blk w.heap.size o (Frm.of w) (w.alloc o) := ⟨heap_alloc_new w o, .inl (Nat.le_refl _), (Ext.refl _ _).alloc _⟩
theorem parts_in (i : Nat) (x : InV) : Parts (fun z w => InAt z w i x) where
  base := fun h => by
    obtain ⟨F, h1, h2, _⟩ := h.base
    exact ⟨F, h1, h2⟩
  gw := fun h => h.gw
  kept := fun h e hT => h.kept e hT
  lift := fun {z w w' F} h hF g => by
    obtain ⟨q, r, S, h⟩ := h
    exact ⟨q, r, S, ⟨h.blk, h.qu, h.rc, h.ni, h.nr, h.ir, fun k hk => ⟨Frm.okOf (h.lo k hk).1 hF g, (h.lo k hk).2⟩, Frm.step g h.gw hF⟩⟩
theorem parts_out (o n : Nat) (x : OutV) : Parts (fun z w => OutAt z w o n x) where
  base := fun h => by
    obtain ⟨F, h1, h2, _⟩ := h.base
    exact ⟨F, h1, h2⟩
  gw := fun h => h.grows
  kept := fun h e hT => h.kept e hT
  lift := fun {z w w' F} h hF g => by
    obtain ⟨s, bm, vt, ts, c, h⟩ := h
    exact ⟨s, bm, vt, ts, c, ⟨h.blk, h.co, h.snd, h.cs, h.mq, h.cm, h.row, h.ct, h.tl, h.told, fun k hk => ⟨Frm.okOf (h.lo k hk).1 hF g, (h.lo k hk).2⟩, h.few, Frm.step g h.gw hF⟩⟩
end Go.Proofs.Ytekdggdnkmkldaa
