/- link: an In's calls by their answers. -/
import Derived.Test.YtekdggdnkmkldaaLinkA
namespace Go.Proofs.Ytekdggdnkmkldaa
set_option linter.unusedVariables false
set_option linter.unusedSimpArgs false
set_option maxRecDepth 1500
open Go.RowKit

theorem InAt.full {z : Frm} {w : World} {i : Nat} {x : InV} (h : InAt z w i x) : x.fs.length ≤ x.places ∧ 1 ≤ x.places ∧ x.places ≤ 64 := by
  obtain ⟨q, r, S, h⟩ := h
  exact h.full
theorem InAt.more {z : Frm} {w w' : World} {i : Nat} {x : InV} (h : InAt z w i x) (g : Grows w w') : InAt z w' i x := by
  obtain ⟨q, r, S, h⟩ := h
  exact ⟨q, r, S, h.more g⟩
theorem InAt.gw {z : Frm} {w : World} {i : Nat} {x : InV} (h : InAt z w i x) : Ext z.F z.wd w := by
  obtain ⟨q, r, S, h⟩ := h
  exact h.gw
theorem at_life {z : Frm} {w : World} {i : Nat} {x : InV} (h : InAt z w i x) (p : Int) (hp : (x.peer : Int) = p) : Calls Try.prog 25 #[.pointer (some ⟨i, 0, none⟩)] w fun e w' => e = .returned (.int .u64 p) ∧ w = w' := by
  obtain ⟨q, r, S, h⟩ := h
  exact hp ▸ in_life h
theorem at_len {z : Frm} {w : World} {i : Nat} {x : InV} (h : InAt z w i x) (m : Nat) (hm : x.fs.length = m) : Calls Try.prog 23 #[.pointer (some ⟨i, 0, none⟩)] w fun e w' => e = .returned (.int .i64 (m : Nat)) ∧ w = w' := by
  obtain ⟨q, r, S, h⟩ := h
  exact hm ▸ in_len h
theorem at_grant {z : Frm} {w : World} {i : Nat} {x : InV} (h : InAt z w i x) (fr : Nat) (hfr : x.fs.length + fr = x.places) (G : Nat) (hG : grantG x.gr x.seen fr = G) : Calls Try.prog 17 #[.pointer (some ⟨i, 0, none⟩)] w fun e w' => e = .returned (.tuple #[.int .u64 (G : Nat), .int .i64 0]) ∧ InAt z w' i { x with gr := G } := by
  obtain ⟨q, r, S, h⟩ := h
  subst hG
  refine (in_grant h fr hfr).mono ?_
  rintro e w' ⟨rfl, h2⟩
  exact ⟨rfl, q, r, S, h2⟩
theorem at_probe {z : Frm} {w : World} {i : Nat} {x : InV} (h : InAt z w i x) (life seq : Nat) (E : Int) (hE : sawE x.peer life seq = E) : Calls Try.prog 16 #[.pointer (some ⟨i, 0, none⟩), .int .u64 life, .int .u64 seq] w fun e w' => e = .returned (.int .i64 E) ∧ InAt z w' i (x.saw life seq) := by
  obtain ⟨q, r, S, h⟩ := h
  refine (in_probe h life seq E hE).mono ?_
  rintro e w' ⟨rfl, h2⟩
  exact ⟨rfl, q, r, S, h2⟩
theorem at_pop {z : Frm} {w : World} {i : Nat} {x : InV} (h : InAt z w i x) : Calls Try.prog 18 #[.pointer (some ⟨i, 0, none⟩)] w fun e w' => ∃ v, e = .returned v ∧ ∃ fs, InAt z w' i { x with fs := fs } := by
  obtain ⟨q, r, S, h⟩ := h
  rcases hx : x.fs with _ | ⟨f, rest⟩
  · refine (in_pop_none h hx).mono ?_
    rintro e w' ⟨rfl, rfl⟩
    exact ⟨_, rfl, x.fs, q, r, S, h⟩
  · refine (in_pop_ok h f rest hx).mono ?_
    rintro e w' ⟨b, _, rfl, _, h2⟩
    exact ⟨_, rfl, rest, q, r, S, h2⟩
theorem at_pop_ok {z : Frm} {w : World} {i : Nat} {x : InV} (h : InAt z w i x) (f : List Int) (rest : List (List Int)) (hf : x.fs = f :: rest) : Calls Try.prog 18 #[.pointer (some ⟨i, 0, none⟩)] w fun e w' => ∃ b, w.heap.size ≤ b ∧ e = .returned (.tuple #[.slice (some ⟨b, 0, none⟩) f.length f.length, .bool true]) ∧ Bytes w' (.slice (some ⟨b, 0, none⟩) f.length f.length) f ∧ InAt z w' i { x with fs := rest } := by
  obtain ⟨q, r, S, h⟩ := h
  refine (in_pop_ok h f rest hf).mono ?_
  rintro e w' ⟨b, hb, rfl, h1, h2⟩
  exact ⟨b, hb, rfl, h1, q, r, S, h2⟩
theorem at_pop_none {z : Frm} {w : World} {i : Nat} {x : InV} (h : InAt z w i x) (hf : x.fs = []) : Calls Try.prog 18 #[.pointer (some ⟨i, 0, none⟩)] w fun e w' => e = .returned (.tuple #[.slice none 0 0, .bool false]) ∧ w = w' := by
  obtain ⟨q, r, S, h⟩ := h
  exact in_pop_none h hf
theorem at_all {z : Frm} {w : World} {i : Nat} {x : InV} (h : InAt z w i x) : Calls Try.prog 24 #[.pointer (some ⟨i, 0, none⟩)] w fun e w' => AllOut x.fs w e w' := by
  obtain ⟨q, r, S, h⟩ := h
  exact in_all h
theorem in_dataN {w0 : Frm} {w : World} {i : Nat} {x : InV} (h : InAt w0 w i x) (life seq : Nat) (v : Value) (xs : List Int) (hb : Bytes w v xs) (E A B : Int) (hE : dataE x life seq xs.length = E) (hA : (life : Int) = A) (hB : (seq : Int) = B) (y : InV) (hy : x.data life seq xs = y) :
    Calls Try.prog 15 #[.pointer (some ⟨i, 0, none⟩), .int .u64 A, .int .u64 B, v] w fun e w' => e = .returned (.int .i64 E) ∧ InAt w0 w' i y := hA ▸ hB ▸ hy ▸ in_data h life seq v xs hb E hE
end Go.Proofs.Ytekdggdnkmkldaa
