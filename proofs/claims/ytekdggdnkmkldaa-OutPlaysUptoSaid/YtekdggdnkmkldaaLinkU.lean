/- link: Use. -/
import Derived.Test.YtekdggdnkmkldaaLinkK
namespace Go.Proofs.Ytekdggdnkmkldaa
set_option linter.unusedVariables false
set_option linter.unusedSimpArgs false
set_option maxRecDepth 1500
open Go.RowKit

section
variable {w0 : Frm} {w w' : World} {o n : Nat} {x : OutV}
theorem ouse_arg (h : OutAt w0 w o n x) (p : PlaceV) (hp : p.flow < 0 ∨ (x.told.length : Int) ≤ p.flow) :
    Calls Try.prog 13 #[.pointer (some ⟨o, 0, none⟩), .agg #[.int .i64 p.flow, .int .u64 p.gen]] w fun e w' => e = .returned (.tuple #[.int .u64 0, .int .u64 0, .int .i64 1]) ∧ Grows w w' := by
  obtain ⟨s, bm, vt, ts, c, h⟩ := h
  have gb : Grows w (w.alloc (.cells #[.int .i64 p.flow, .int .u64 p.gen] 31)) := (Ext.refl _ _).alloc _
  have HN := Lib.hid (out_none (h.more gb))
  have HO := Lib.hid (out_of_no (h.more gb) p.flow hp)
  have HG := Lib.hid gb
  clear h gb hp
  go_enter Try.func13, Try.ntmps13
  go_wp2_with fail
  refine HN.out.mono ?_
  rintro e w' ⟨rfl, rfl⟩
  go_wp2_with fail
  refine HO.out.mono ?_
  rintro e w' ⟨rfl, rfl⟩
  go_wp2
  go_ret3
  exact ⟨rfl, HG.out⟩
theorem ouse_no (h : OutAt w0 w o n x) (i : Nat) (hi : i < x.told.length) (g : Nat) (hu : x.gr ≤ x.used) :
    Calls Try.prog 13 #[.pointer (some ⟨o, 0, none⟩), .agg #[.int .i64 i, .int .u64 g]] w fun e w' => e = .returned (.tuple #[.int .u64 0, .int .u64 0, .int .i64 26]) ∧ Grows w w' := by
  obtain ⟨s, bm, vt, ts, c, h⟩ := h
  have gb : Grows w (w.alloc (.cells #[.int .i64 i, .int .u64 g] 31)) := (Ext.refl _ _).alloc _
  have HN := Lib.hid (out_none (h.more gb))
  have HO := Lib.hid (out_of (h.more gb) i hi)
  have HU := Lib.hid (use_no _ s _ _ _ _ (h.more gb).snd hu)
  have c0 := (h.more gb).cells.1.1
  have HG := Lib.hid gb
  clear h gb hu
  go_enter Try.func13, Try.ntmps13
  go_wp2_with fail
  refine HN.out.mono ?_
  rintro e w' ⟨rfl, rfl⟩
  go_wp2_with fail
  refine HO.out.mono ?_
  rintro e w' ⟨t, rfl, _, rfl⟩
  go_wp2_with fail
  refine HU.out.mono ?_
  rintro e w' ⟨rfl, rfl⟩
  go_wp2
  go_ret3
  exact ⟨rfl, HG.out⟩
end
end Go.Proofs.Ytekdggdnkmkldaa
