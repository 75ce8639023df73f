/- The draw layer: equal bytes; the document's coefficients. -/
import Derived.Test.YtiokikiombhcnaaDoorDrawC
import Derived.Test.YtiokikiombhcnaaDoorEqual
namespace Go.Proofs.YtiokikiombhcnaaDoor
set_option linter.unusedVariables false
set_option linter.unusedSimpArgs false
open Go.RowKit

theorem fillOf_take (xs : List Int) (n k : Nat) (h : n ≤ k ∨ xs.length ≤ k) : fillOf (xs.take k) n = fillOf xs n := by
  unfold fillOf
  rcases h with h | h
  · rw [List.take_take, show min n k = n by omega, List.length_take]
    congr 2; omega
  · rw [List.take_of_length_le h]

theorem fillOf_step (xs : List Int) (n k : Nat) (h1 : k < n) (h2 : k < xs.length) : (fillOf (xs.take k) n).set k xs[k] = fillOf (xs.take (k + 1)) n := by
  unfold fillOf
  rw [List.take_take, List.take_take, show min n k = k by omega, show min n (k + 1) = k + 1 by omega, List.length_take, List.length_take, show min k xs.length = k by omega, show min (k + 1) xs.length = k + 1 by omega]
  rw [List.set_append_right _ _ (by simp; omega)]
  simp only [List.length_take, show min k xs.length = k by omega, Nat.sub_self]
  rw [show n - k = (n - (k + 1)) + 1 by omega, List.replicate_succ, List.set_cons_zero, List.take_succ_eq_append_getElem h2, List.append_assoc]
  rfl

/-- Are the first k noughts? -/
def zeroTo (xs : List Int) (k : Nat) : Bool := (xs.take k).all (· == 0)
theorem zeroTo_step (xs : List Int) (k : Nat) (h : k < xs.length) : zeroTo xs (k + 1) = (zeroTo xs k && (xs[k] == 0)) := by
  unfold zeroTo
  rw [List.take_succ_eq_append_getElem h, List.all_append]
  simp
theorem leadOf_neg (xs : List Int) : (leadOf xs < 0) ↔ xs.all (· == 0) = true := by
  unfold leadOf
  constructor
  · intro h
    split at h
    · omega
    · rename_i h1
      rw [List.all_eq_true]
      intro x hx
      have := List.findIdx_eq_length.1 (Nat.le_antisymm (List.findIdx_le_length (p := (· != 0)) (xs := xs)) (Nat.le_of_not_lt h1)) x hx
      simpa using this
  · intro h
    rw [if_neg]
    · omega
    · rw [List.all_eq_true] at h
      have := List.findIdx_eq_length.2 (fun x hx => by have := h x hx; simpa using this : ∀ x ∈ xs, (x != 0) = false)
      omega
theorem zeroTo_lead (xs : List Int) (n k : Nat) (h : (k = n ∧ n ≤ xs.length) ∨ (k = xs.length ∧ xs.length ≤ n)) : zeroTo xs k = decide (leadOf (fillOf xs n) < 0) := by
  rw [Bool.eq_iff_iff, decide_eq_true_iff, leadOf_neg]
  unfold zeroTo fillOf
  rw [List.all_append]
  have : (List.replicate (n - xs.length) (0 : Int)).all (· == 0) = true := by simp
  rw [this, Bool.and_true]
  rcases h with ⟨rfl, h⟩ | ⟨rfl, h⟩
  · exact Iff.rfl
  · rw [List.take_of_length_le (Nat.le_refl _), List.take_of_length_le h]

theorem coefsOf_nil (n t : Nat) : coefsOf [] n t = (zeros n).set t 1 := by
  unfold coefsOf
  have : leadOf (fillOf [] n) < 0 := by rw [leadOf_neg]; simp [fillOf]
  rw [if_pos this]
  simp [fillOf, zeros]
theorem fillOf_zero (xs : List Int) (n : Nat) : fillOf (xs.take 0) n = zeros n := by simp [fillOf, zeros]
/-- What a draw comes to: a slice of its own. -/
def Drawn (xs : List Int) (n t : Int) (w : World) (e : Ending) (w' : World) : Prop :=
  ∃ b, w.heap.size ≤ b ∧ e = .returned (.tuple #[.slice (some ⟨b, 0, none⟩) n.toNat n.toNat, .int .i64 0]) ∧ w'.heap[b]? = some (.cells (u8s (coefsOf xs n.toNat t.toNat)) 5 (0, 0)) ∧ Grows w w'
theorem coefs_int (v : Value) (xs : List Int) (n t : Int) (w : World) (h : Bytes w v xs) (h1 : 1 ≤ n) (h2 : n ≤ 255) (h3 : 0 ≤ t) (h4 : t < n) :
    Calls Tryd.prog 4 #[v, .int .i64 n, .int .i64 t] w (Drawn xs n t w) := by
  obtain ⟨n, rfl⟩ := Int.eq_ofNat_of_zero_le (show 0 ≤ n by omega)
  obtain ⟨t, rfl⟩ := Int.eq_ofNat_of_zero_le h3
  exact coefs_yes v xs n t w h (by omega) (by omega) (by omega)
theorem zeroTo_zero (xs : List Int) : zeroTo xs 0 = true := rfl

theorem coefsOf_small {xs : List Int} (h : ∀ x ∈ xs, 0 ≤ x ∧ x < 256) (n t : Nat) : ∀ x ∈ coefsOf xs n t, 0 ≤ x ∧ x < 256 := by
  unfold coefsOf
  split
  · intro x hx
    rcases List.mem_or_eq_of_mem_set hx with h1 | h1
    · exact fillOf_small h n x h1
    · omega
  · exact fillOf_small h n

/-- The slice that was drawn, as bytes. -/
theorem Bytes.drawn {w : World} {b : Nat} {xs : List Int} {n t : Int} (hx : ∀ x ∈ xs, 0 ≤ x ∧ x < 256) (h1 : 1 ≤ n) (h2 : n ≤ 255)
    (hb : w.heap[b]? = some (.cells (u8s (coefsOf xs n.toNat t.toNat)) 5 (0, 0))) : Bytes w (.slice (some ⟨b, 0, none⟩) n.toNat n.toNat) (coefsOf xs n.toNat t.toNat) :=
  Bytes.of_heap hb (coefsOf_length _ _ _).symm (Nat.le_refl _) (by unfold maxLen; omega) (coefsOf_small hx _ _) (by rw [coefsOf_length]; omega)

/-- Bytes that were written down. -/
theorem Bytes.lit (w : World) (xs : List Int) (n : Nat) (cs : Array Value) (hc : cs = u8s xs) (hn : n = xs.length) (hx : ∀ x ∈ xs, 0 ≤ x ∧ x < 256) (hl : xs.length ≤ 1000) :
    Bytes (w.alloc (.cells cs 5)) (.slice (some ⟨w.heap.size, 0, none⟩) n n) xs := by
  subst hc
  exact Bytes.of_heap (heap_alloc_new w _) hn (Nat.le_refl _) (by unfold maxLen; omega) hx (by omega)

/-- What a draw comes to, its bytes worked out. -/
theorem Drawn.out {xs ys : List Int} {n t : Int} {m : Nat} {w w' : World} {e : Ending} (h : Drawn xs n t w e w') (hx : ∀ x ∈ xs, 0 ≤ x ∧ x < 256) (h1 : 1 ≤ n) (h2 : n ≤ 255) (hm : n.toNat = m) (hy : coefsOf xs n.toNat t.toNat = ys) :
    ∃ b, w.heap.size ≤ b ∧ e = .returned (.tuple #[.slice (some ⟨b, 0, none⟩) m m, .int .i64 0]) ∧ Hid (w'.heap[b]? = some (.cells (u8s ys) 5 (0, 0))) ∧ Bytes w' (.slice (some ⟨b, 0, none⟩) m m) ys ∧ Grows w w' := by
  obtain ⟨b, hb, rfl, hh, hg⟩ := h
  subst hm hy
  exact ⟨b, hb, rfl, hh, Bytes.drawn hx h1 h2 hh, hg⟩

set_option maxHeartbeats 800000 in
theorem awake_true (w : World) : Calls Tryd.prog 5 #[] w fun e w' => e = .returned (.bool true) ∧ Grows w w' := by
  go_enter Tryd.func5, Tryd.ntmps5
  go_wp2_with fail
  refine (coefs_int _ [7, 0, 9, 1] 3 0 _ (Bytes.lit w _ _ _ rfl rfl (by decide) (by decide)) (by omega) (by omega) (by omega) (by omega)).mono ?_
  rintro e w1 hd
  obtain ⟨b1, hb1, rfl, hh1, B1, hg1⟩ := hd.out (ys := [7, 0, 9]) (m := 3) (by decide) (by omega) (by omega) rfl (by decide)
  have G1 := Ext.trans (Ext.alloc (Ext.refl _ w) _) hg1
  clear hh1 hg1 hb1 hd
  go_wp2_with fail
  refine (coefs_int _ [0, 0, 0, 5] 3 2 _ (Bytes.lit w1 _ _ _ rfl rfl (by decide) (by decide)) (by omega) (by omega) (by omega) (by omega)).mono ?_
  rintro e w2 hd
  obtain ⟨b2, hb2, rfl, hh2, B2, hg2⟩ := hd.out (ys := [0, 0, 1]) (m := 3) (by decide) (by omega) (by omega) rfl (by decide)
  have G2 := Ext.trans (Ext.alloc (Ext.refl _ w1) _) hg2
  have G3 := G1.trans G2
  have B1' := B1.grows G2
  clear hh2 hg2 hb2 hd G1 G2 B1
  go_wp2_with fail
  have L1 : Bytes (w2.alloc (.cells #[.int .u8 7, .int .u8 0, .int .u8 9] 5)) (.slice (some ⟨w2.heap.size, 0, none⟩) 3 3) [7, 0, 9] := Bytes.lit w2 _ _ _ rfl rfl (by decide) (by decide)
  refine (equal_any _ _ _ _ _ (B1'.grows (Ext.alloc (Ext.refl _ _) _)) L1).mono ?_
  rintro e w3 ⟨rfl, rfl⟩
  have B2' := B2.grows (Ext.alloc (Ext.refl _ _) (.cells #[Value.int .u8 7, .int .u8 0, .int .u8 9] 5))
  go_wp2_with fail
  have L2 : Bytes ((w2.alloc (.cells #[.int .u8 7, .int .u8 0, .int .u8 9] 5)).alloc (.cells #[.int .u8 0, .int .u8 0, .int .u8 1] 5)) (.slice (some ⟨w2.heap.size + 1, 0, none⟩) 3 3) [0, 0, 1] := by
    have := Bytes.lit (w2.alloc (.cells #[.int .u8 7, .int .u8 0, .int .u8 9] 5)) [0, 0, 1] 3 #[.int .u8 0, .int .u8 0, .int .u8 1] rfl rfl (by decide) (by decide)
    rwa [World.size_alloc] at this
  refine (equal_any _ _ _ _ _ (B2'.grows (Ext.alloc (Ext.refl _ _) _)) L2).mono ?_
  rintro e w4 ⟨rfl, rfl⟩
  go_wp2_with fail
  refine (sys_any 3 3 _).mono ?_
  rintro e w5 ⟨rfl, rfl⟩
  go_wp2
  go_ret
  exact ⟨rfl, (G3.alloc _).alloc _⟩
end Go.Proofs.YtiokikiombhcnaaDoor
