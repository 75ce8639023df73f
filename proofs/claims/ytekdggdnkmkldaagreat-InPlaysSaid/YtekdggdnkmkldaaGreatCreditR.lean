/- The document's answer for layer 16: its functions. -/
import Derived.Test.YtekdggdnkmkldaaGreatCreditS
namespace Go.Proofs.YtekdggdnkmkldaaGreat
set_option linter.unusedVariables false
set_option linter.unusedSimpArgs false
set_option maxRecDepth 1500
open Go.RowKit

def RefS (w : World) (t own peer gr used : Nat) : Prop := ∃ ty, w.heap[t]? = some (.cells #[.int .u64 own, .int .u64 peer, .int .u64 gr, .int .u64 used] ty (0, 0))
def RefR (w : World) (q places peer gr seen : Nat) : Prop := ∃ ty, w.heap[q]? = some (.cells #[.int .i64 places, .int .u64 peer, .int .u64 gr, .int .u64 seen] ty (0, 0))

theorem ref_newR_ok (places : Nat) (w : World) (h1 : 1 ≤ places) (h2 : places ≤ 64) :
    Calls Tryz.prog 28 #[.int .i64 places] w fun e w' => e = .returned (.tuple #[.pointer (some ⟨w.heap.size, 0, none⟩), .int .i64 0]) ∧ RefR w' w.heap.size places 0 0 0 ∧ Grows w w' := by
  have i1 : ¬ (places : Int) < 1 := by omega
  have i2 : ¬ (64 : Int) < (places : Int) := by omega
  go_enter Tryz.func28, Tryz.ntmps28
  go_wp2
  go_ret2
  exact ⟨rfl, ⟨58, heap_alloc_new w _⟩, (Ext.refl _ _).alloc _⟩

end Go.Proofs.YtekdggdnkmkldaaGreat
