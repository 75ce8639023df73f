/- The queue: the examples that the statements ask first. -/
import Derived.Test.YtekdggdnkmkldaaQueueD
import Derived.Test.YtekdggdnkmkldaaEqual
import Derived.Lib.SlBytesConst
namespace Go.Proofs.Ytekdggdnkmkldaa
set_option linter.unusedVariables false
set_option linter.unusedSimpArgs false
set_option maxRecDepth 1500
open Go.RowKit

theorem QueueAt.grows {w w' : World} {q : Nat} {S : Nat → Prop} {places : Nat} {fs : List (List Int)} (h : QueueAt w q S places fs) (e : Grows w w') : QueueAt w' q S places fs := h.keeps e (fun _ _ h => h)

theorem push_ok (q p : Nat) (S : Nat → Prop) (fs : List (List Int)) (v : Value) (xs : List Int) (w : World) (h : QueueAt w q S p fs) (hb : Bytes w v xs) (h1 : xs.length ≤ 70000) (h2 : fs.length < p) :
    Calls Try.prog 49 #[.pointer (some ⟨q, 0, none⟩), v] w fun e w' => e = .returned (.int .i64 0) ∧ QueueAt w' q (grownTo S w w') p (fs ++ [xs]) ∧ Ext (fun k => k = q) w w' := by
  refine (push_any q p S fs v xs w h hb).mono ?_
  rintro e w' (⟨h3, _⟩ | ⟨_, h3, _⟩ | ⟨_, _, h3, h4, h5⟩)
  · omega
  · omega
  · exact ⟨h3, h4, h5⟩
theorem push_no (q p : Nat) (S : Nat → Prop) (fs : List (List Int)) (v : Value) (xs : List Int) (w : World) (h : QueueAt w q S p fs) (hb : Bytes w v xs) (h1 : xs.length ≤ 70000) (h2 : fs.length = p) :
    Calls Try.prog 49 #[.pointer (some ⟨q, 0, none⟩), v] w fun e w' => e = .returned (.int .i64 7) ∧ Grows w w' := by
  refine (push_any q p S fs v xs w h hb).mono ?_
  rintro e w' (⟨h3, _⟩ | ⟨_, h3, h4, h5⟩ | ⟨_, h3, _⟩)
  · omega
  · exact ⟨h4, h5⟩
  · omega
theorem pop_ok (q p : Nat) (S : Nat → Prop) (f : List Int) (rest : List (List Int)) (w : World) (h : QueueAt w q S p (f :: rest)) :
    Calls Try.prog 53 #[.pointer (some ⟨q, 0, none⟩)] w fun e w' => ∃ b, w.heap.size ≤ b ∧ e = .returned (.tuple #[.slice (some ⟨b, 0, none⟩) f.length f.length, .bool true]) ∧
      Bytes w' (.slice (some ⟨b, 0, none⟩) f.length f.length) f ∧ QueueAt w' q S p rest ∧ Ext (fun k => k = q) w w' := by
  refine (pop_any q p S _ w h).mono ?_
  rintro e w' (⟨h3, _⟩ | ⟨f', rest', hc, ⟨b, hb, rfl, hh⟩, hq, he, hx, hl⟩)
  · cases h3
  · obtain ⟨rfl, rfl⟩ := List.cons.inj hc
    exact ⟨b, hb, rfl, Bytes.of_heap hh rfl (Nat.le_refl _) (by unfold maxLen; omega) hx hl, hq, he⟩
theorem pop_empty (q p : Nat) (S : Nat → Prop) (w : World) (h : QueueAt w q S p []) :
    Calls Try.prog 53 #[.pointer (some ⟨q, 0, none⟩)] w fun e w' => e = .returned (.tuple #[.slice none 0 0, .bool false]) ∧ w = w' := by
  refine (pop_any q p S _ w h).mono ?_
  rintro e w' (⟨_, h3, h4⟩ | ⟨f', rest', hc, _⟩)
  · exact ⟨h3, h4⟩
  · cases hc

theorem Ext.eq_lift {q : Nat} {w0 w w' : World} (g : Grows w0 w) (h : Ext (fun k => k = q) w w') (hq : w0.heap.size ≤ q) : Grows w0 w' :=
  (g.lift.trans h).mono (fun k hk hh => by omega)

theorem lit1 (w : World) (x : Int) (hx : 0 ≤ x ∧ x < 256) : Bytes (w.alloc (.cells #[.int .u8 x] 5 (1, 2))) (.slice (some ⟨w.heap.size, 0, none⟩) 1 1) [x] :=
  Bytes.of_heap (heap_alloc_new w _) rfl (Nat.le_refl _) (by unfold maxLen; omega) (by simpa using hx) (by simp)

end Go.Proofs.Ytekdggdnkmkldaa
