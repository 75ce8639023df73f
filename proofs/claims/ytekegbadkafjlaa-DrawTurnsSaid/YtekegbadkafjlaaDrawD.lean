/- The draw layer: equal bytes; the document's coefficients. -/
import Derived.Test.YtekegbadkafjlaaDrawC
namespace Go.Proofs.Ytekegbadkafjlaa
set_option linter.unusedVariables false
set_option linter.unusedSimpArgs false
open Go.RowKit

theorem conv_bytes {w : World} {v : Value} {xs : List Int} (h : Bytes w v xs) :
    (convert 22 9 v).run Try.prog w = .ok (.string (strOfNums xs)) w := by
  rcases h.cases with ⟨a, cap, rfl, rfl⟩ | ⟨b, off, cap, rfl, hcap, hmax, hlt, hcell⟩
  · cases a with
    | none => exact run_convert_bytes_nil (P := Try.prog) w 22 5 Try.underlying22 Try.underlying5 0 cap 9 Try.underlying9
    | some x =>
      rw [run_convert_bytes_string (P := Try.prog) w 22 9 5 (some x) 0 cap Try.underlying22 Try.underlying5 Try.underlying9]
      exact run_bytesToString w x 0 cap [] (by simpa using run_loadCells_list (P := Try.prog) w x [] (by simp))
  · exact run_convert_bytes_arg (P := Try.prog) w 22 5 Try.underlying22 Try.underlying5 b off xs.length cap xs rfl hcell 9 Try.underlying9

theorem strOfNums_inj {xs ys : List Int} (hx : ∀ x ∈ xs, 0 ≤ x ∧ x < 256) (hy : ∀ x ∈ ys, 0 ≤ x ∧ x < 256) : ((strOfNums xs).toList == (strOfNums ys).toList) = decide (xs = ys) := by
  rw [ByteArray.toList_eq, ByteArray.toList_eq, Bool.eq_iff_iff, beq_iff_eq, decide_eq_true_iff]
  constructor
  · intro h
    have h1 := h
    simp only [strOfNums_data] at h1
    have h2 := congrArg (List.map fun u : UInt8 => (u.toNat : Int)) h1
    simp only [List.map_map] at h2
    have key : ∀ l : List Int, (∀ x ∈ l, 0 ≤ x ∧ x < 256) → l.map ((fun u : UInt8 => (u.toNat : Int)) ∘ fun n => UInt8.ofNat n.toNat) = l := by
      intro l hl
      conv => rhs; rw [← List.map_id l]
      apply List.map_congr_left
      intro x hxm
      have := hl x hxm
      simp only [Function.comp, UInt8.toNat_ofNat', id]
      omega
    rw [key xs hx, key ys hy] at h2
    exact h2
  · rintro rfl; rfl

theorem equal_any (v1 v2 : Value) (xs ys : List Int) (w : World) (h1 : Bytes w v1 xs) (h2 : Bytes w v2 ys) :
    Calls Try.prog 13 #[v1, v2] w fun e w' => e = .returned (.bool (decide (xs = ys))) ∧ w = w' := by
  have c1 := conv_bytes h1
  have c2 := conv_bytes h2
  have hs := Lib.hid (strOfNums_inj h1.2.1 h2.2.1)
  go_enter Try.func13, Try.ntmps13
  go_wp2
  go_ret
  exact ⟨ret_bool hs.out, rfl⟩

theorem fillOf_take (xs : List Int) (n k : Nat) (h : n ≤ k ∨ xs.length ≤ k) : fillOf (xs.take k) n = fillOf xs n := by
  unfold fillOf
  rcases h with h | h
  · rw [List.take_take, show min n k = n by omega, List.length_take]
    congr 2; omega
  · rw [List.take_of_length_le h]

theorem fillOf_step (xs : List Int) (n k : Nat) (h1 : k < n) (h2 : k < xs.length) : (fillOf (xs.take k) n).set k xs[k] = fillOf (xs.take (k + 1)) n := by
  unfold fillOf
  rw [List.take_take, List.take_take, show min n k = k by omega, show min n (k + 1) = k + 1 by omega, List.length_take, List.length_take, show min k xs.length = k by omega, show min (k + 1) xs.length = k + 1 by omega]
  rw [List.set_append_right _ _ (by simp; omega)]
  simp only [List.length_take, show min k xs.length = k by omega, Nat.sub_self]
  rw [show n - k = (n - (k + 1)) + 1 by omega, List.replicate_succ, List.set_cons_zero, List.take_succ_eq_append_getElem h2, List.append_assoc]
  rfl

/-- Are the first k noughts? -/
def zeroTo (xs : List Int) (k : Nat) : Bool := (xs.take k).all (· == 0)
theorem zeroTo_step (xs : List Int) (k : Nat) (h : k < xs.length) : zeroTo xs (k + 1) = (zeroTo xs k && (xs[k] == 0)) := by
  unfold zeroTo
  rw [List.take_succ_eq_append_getElem h, List.all_append]
  simp
theorem leadOf_neg (xs : List Int) : (leadOf xs < 0) ↔ xs.all (· == 0) = true := by
  unfold leadOf
  constructor
  · intro h
    split at h
    · omega
    · rename_i h1
      rw [List.all_eq_true]
      intro x hx
      have := List.findIdx_eq_length.1 (Nat.le_antisymm (List.findIdx_le_length (p := (· != 0)) (xs := xs)) (Nat.le_of_not_lt h1)) x hx
      simpa using this
  · intro h
    rw [if_neg]
    · omega
    · rw [List.all_eq_true] at h
      have := List.findIdx_eq_length.2 (fun x hx => by have := h x hx; simpa using this : ∀ x ∈ xs, (x != 0) = false)
      omega
theorem zeroTo_lead (xs : List Int) (n k : Nat) (h : (k = n ∧ n ≤ xs.length) ∨ (k = xs.length ∧ xs.length ≤ n)) : zeroTo xs k = decide (leadOf (fillOf xs n) < 0) := by
  rw [Bool.eq_iff_iff, decide_eq_true_iff, leadOf_neg]
  unfold zeroTo fillOf
  rw [List.all_append]
  have : (List.replicate (n - xs.length) (0 : Int)).all (· == 0) = true := by simp
  rw [this, Bool.and_true]
  rcases h with ⟨rfl, h⟩ | ⟨rfl, h⟩
  · exact Iff.rfl
  · rw [List.take_of_length_le (Nat.le_refl _), List.take_of_length_le h]

theorem refCoefs_no (v : Value) (n t : Int) (w : World) (h : (n < 1 ∨ 255 < n) ∨ t < 0 ∨ n ≤ t) :
    Calls Try.prog 12 #[v, .int .i64 n, .int .i64 t] w fun e w' => e = .returned (.tuple #[.slice none 0 0, .int .i64 1]) ∧ w = w' := by
  by_cases a1 : n < 1
  · go_enter Try.func12, Try.ntmps12
    go_wp2
    go_ret2
    exact ⟨rfl, rfl⟩
  · by_cases a2 : 255 < n
    · go_enter Try.func12, Try.ntmps12
      go_wp2
      go_ret2
      exact ⟨rfl, rfl⟩
    · by_cases a3 : t < 0
      · go_enter Try.func12, Try.ntmps12
        go_wp2
        go_ret2
        exact ⟨rfl, rfl⟩
      · have a4 : n ≤ t := by omega
        go_enter Try.func12, Try.ntmps12
        go_wp2
        go_ret2
        exact ⟨rfl, rfl⟩

theorem coefsOf_nil (n t : Nat) : coefsOf [] n t = (zeros n).set t 1 := by
  unfold coefsOf
  have : leadOf (fillOf [] n) < 0 := by rw [leadOf_neg]; simp [fillOf]
  rw [if_pos this]
  simp [fillOf, zeros]
theorem fillOf_zero (xs : List Int) (n : Nat) : fillOf (xs.take 0) n = zeros n := by simp [fillOf, zeros]
/-- What a draw comes to: a slice of its own. -/
def Drawn (xs : List Int) (n t : Int) (w : World) (e : Ending) (w' : World) : Prop :=
  ∃ b, w.heap.size ≤ b ∧ e = .returned (.tuple #[.slice (some ⟨b, 0, none⟩) n.toNat n.toNat, .int .i64 0]) ∧ w'.heap[b]? = some (.cells (u8s (coefsOf xs n.toNat t.toNat)) 5 (0, 0)) ∧ Grows w w'
theorem coefs_int (v : Value) (xs : List Int) (n t : Int) (w : World) (h : Bytes w v xs) (h1 : 1 ≤ n) (h2 : n ≤ 255) (h3 : 0 ≤ t) (h4 : t < n) :
    Calls Try.prog 11 #[v, .int .i64 n, .int .i64 t] w (Drawn xs n t w) := by
  obtain ⟨n, rfl⟩ := Int.eq_ofNat_of_zero_le (show 0 ≤ n by omega)
  obtain ⟨t, rfl⟩ := Int.eq_ofNat_of_zero_le h3
  exact coefs_yes v xs n t w h (by omega) (by omega) (by omega)
theorem zeroTo_zero (xs : List Int) : zeroTo xs 0 = true := rfl

set_option maxHeartbeats 800000 in
theorem refCoefs_yes (v : Value) (xs : List Int) (n t : Nat) (w : World) (h : Bytes w v xs) (h1 : 1 ≤ n) (h2 : n ≤ 255) (h3 : t < n) :
    Calls Try.prog 12 #[v, .int .i64 n, .int .i64 t] w fun e w' => ∃ b, w.heap.size ≤ b ∧ e = .returned (.tuple #[.slice (some ⟨b, 0, none⟩) n n, .int .i64 0]) ∧
      w'.heap[b]? = some (.cells (u8s (coefsOf xs n t)) 5 (0, 0)) ∧ Grows w w' := by
  have hmk := make_bytes n (by omega)
  have hlen := h.2.2
  rcases h.cases with ⟨a, cap, rfl, rfl⟩ | ⟨b, off, cap, rfl, hcap, hmax, hlt, hcell⟩
  · go_enter Try.func12, Try.ntmps12
    go_wp2
    refine wp_loop_once ?_
    have hw := World.cell?_alloc_new w (u8s (zeros n)) 5 t
    rw [u8s_get _ _ (by rw [zeros_length]; exact h3)] at hw
    go_wp2
    go_ret2
    refine ⟨w.heap.size, Nat.le_refl _, rfl, ?_, ?_⟩
    · rw [heap_alloc_new, u8s_set, coefsOf_nil]
    · exact Ext.alloc (Ext.refl _ _) _
  · have HC := Lib.hid hcell
    clear hcell
    go_enter Try.func12, Try.ntmps12
    go_wp2
    go_loopw [9, 10] (fun z i wr => ∃ k : Nat, k ≤ n ∧ k ≤ xs.length ∧ i = .int .i64 k ∧ z = .bool (zeroTo xs k) ∧ wr.heap[w.heap.size]? = some (.cells (u8s (fillOf (xs.take k) n)) 5 (0, 0)) ∧ Grows w wr) (fun _ i _ => n - (intOf i).toNat)
    case atStart => exact ⟨0, by omega, by omega, rfl, rfl, by rw [fillOf_zero]; exact heap_alloc_new w _, Ext.alloc (Ext.refl _ _) _⟩
    case round =>
      obtain ⟨k, hk1, hk2, rfl, rfl, hb, hg⟩ := hrel
      have HB := Lib.hid hb
      have HG := Lib.hid hg
      by_cases hlt1 : k < n
      · by_cases hlt2 : k < xs.length
        · have hc : wr.cell? ⟨b, off + k, none⟩ = some (.int .u8 (xs.getD k 0)) := (hg.cell hlt (fun h => h)).trans (HC.out k hlt2)
          have hd : wr.cell? ⟨w.heap.size, k, none⟩ = some (.int .u8 ((fillOf (xs.take k) n).getD k 0)) := cell_heap hb (u8s_get _ _ (by rw [fillOf_length]; exact hlt1))
          have hf := frozen_of_heap hb k
          have hne : b ≠ w.heap.size := by omega
          clear hb hg hmk
          cases hz : zeroTo xs k
          all_goals
            have HZ := Lib.hid hz
            go_wp2
            go_roundw
            case rel =>
              refine ⟨k + 1, by omega, by omega, by go_num, ?_, ?_, ?_⟩
              · rw [zeroTo_step xs k hlt2, HZ.out]; simp
              · rw [setCell_heap HB.out, u8s_set, fillOf_step xs n k hlt1 hlt2]
              · exact Ext.setCell HG.out _ (Or.inl (Nat.le_refl _)) _
            case measure => simp [intOf]; omega
        · have hk : k = xs.length := by omega
          have hz := zeroTo_lead xs n k (Or.inr ⟨hk, by omega⟩)
          have hfl := fillOf_take xs n k (Or.inr (by omega))
          rw [hfl] at hb
          have hd : wr.cell? ⟨w.heap.size, t, none⟩ = some (.int .u8 ((fillOf xs n).getD t 0)) := cell_heap hb (u8s_get _ _ (by rw [fillOf_length]; exact h3))
          have hf := frozen_of_heap hb t
          have HB' := Lib.hid hb
          clear hb hg hmk hfl hk
          by_cases hq : leadOf (fillOf xs n) < 0
          · rw [decide_eq_true hq] at hz
            have HQ := Lib.hid hq
            clear hq
            rw [hz]
            clear hz
            go_wp2
            go_ret2
            refine ⟨w.heap.size, Nat.le_refl _, rfl, ?_, Ext.setCell HG.out _ (Or.inl (Nat.le_refl _)) _⟩
            rw [setCell_heap HB'.out, u8s_set, coefsOf, if_pos HQ.out]
          · rw [decide_eq_false hq] at hz
            have HQ := Lib.hid hq
            clear hq
            rw [hz]
            clear hz
            go_wp2
            go_ret2
            refine ⟨w.heap.size, Nat.le_refl _, rfl, ?_, HG.out⟩
            rw [HB'.out, coefsOf, if_neg (by have := HQ.out; omega)]
      · have hk : k = n := by omega
        have hz := zeroTo_lead xs n k (Or.inl ⟨hk, by omega⟩)
        have hfl := fillOf_take xs n k (Or.inl (by omega))
        rw [hfl] at hb
        have hd : wr.cell? ⟨w.heap.size, t, none⟩ = some (.int .u8 ((fillOf xs n).getD t 0)) := cell_heap hb (u8s_get _ _ (by rw [fillOf_length]; exact h3))
        have hf := frozen_of_heap hb t
        have HB' := Lib.hid hb
        have HK := Lib.hid hk
        clear hb hg hmk hfl hk
        by_cases hq : leadOf (fillOf xs n) < 0
        · rw [decide_eq_true hq] at hz
          have HQ := Lib.hid hq
          clear hq
          rw [hz]
          clear hz
          go_wp2
          go_ret2
          refine ⟨w.heap.size, Nat.le_refl _, rfl, ?_, Ext.setCell HG.out _ (Or.inl (Nat.le_refl _)) _⟩
          rw [setCell_heap HB'.out, u8s_set, coefsOf, if_pos HQ.out]
        · rw [decide_eq_false hq] at hz
          have HQ := Lib.hid hq
          clear hq
          rw [hz]
          clear hz
          go_wp2
          go_ret2
          refine ⟨w.heap.size, Nat.le_refl _, rfl, ?_, HG.out⟩
          rw [HB'.out, coefsOf, if_neg (by have := HQ.out; omega)]

theorem refCoefs_int (v : Value) (xs : List Int) (n t : Int) (w : World) (h : Bytes w v xs) (h1 : 1 ≤ n) (h2 : n ≤ 255) (h3 : 0 ≤ t) (h4 : t < n) :
    Calls Try.prog 12 #[v, .int .i64 n, .int .i64 t] w (Drawn xs n t w) := by
  obtain ⟨n, rfl⟩ := Int.eq_ofNat_of_zero_le (show 0 ≤ n by omega)
  obtain ⟨t, rfl⟩ := Int.eq_ofNat_of_zero_le h3
  exact refCoefs_yes v xs n t w h (by omega) (by omega) (by omega)

theorem coefsOf_small {xs : List Int} (h : ∀ x ∈ xs, 0 ≤ x ∧ x < 256) (n t : Nat) : ∀ x ∈ coefsOf xs n t, 0 ≤ x ∧ x < 256 := by
  unfold coefsOf
  split
  · intro x hx
    rcases List.mem_or_eq_of_mem_set hx with h1 | h1
    · exact fillOf_small h n x h1
    · omega
  · exact fillOf_small h n

/-- The slice that was drawn, as bytes. -/
theorem Bytes.drawn {w : World} {b : Nat} {xs : List Int} {n t : Int} (hx : ∀ x ∈ xs, 0 ≤ x ∧ x < 256) (h1 : 1 ≤ n) (h2 : n ≤ 255)
    (hb : w.heap[b]? = some (.cells (u8s (coefsOf xs n.toNat t.toNat)) 5 (0, 0))) : Bytes w (.slice (some ⟨b, 0, none⟩) n.toNat n.toNat) (coefsOf xs n.toNat t.toNat) :=
  Bytes.of_heap hb (coefsOf_length _ _ _).symm (Nat.le_refl _) (by unfold maxLen; omega) (coefsOf_small hx _ _) (by rw [coefsOf_length]; omega)

/-- Bytes that were written down. -/
theorem Bytes.lit (w : World) (xs : List Int) (n : Nat) (cs : Array Value) (hc : cs = u8s xs) (hn : n = xs.length) (hx : ∀ x ∈ xs, 0 ≤ x ∧ x < 256) (hl : xs.length ≤ 1000) :
    Bytes (w.alloc (.cells cs 5)) (.slice (some ⟨w.heap.size, 0, none⟩) n n) xs := by
  subst hc
  exact Bytes.of_heap (heap_alloc_new w _) hn (Nat.le_refl _) (by unfold maxLen; omega) hx (by omega)

theorem turn_yes (s n : Int) (w : World) (h0 : 0 ≤ s) (h1 : 1 ≤ n) (h2 : n ≤ 255) :
    Calls Try.prog 15 #[.int .u64 s, .int .i64 n] w fun e w' => e = .returned (.tuple #[.int .i64 (s % n), .int .i64 0]) ∧ w = w' := by
  have m1 : 0 ≤ s % n := Int.emod_nonneg _ (by omega)
  have m2 : s % n < n := Int.emod_lt_of_pos _ (by omega)
  go_enter Try.func15, Try.ntmps15
  go_wp2_with (go_at_call 34; refine (may_yes _ _ (by omega) (by omega)).mono ?_; rintro e w' ⟨rfl, rfl⟩)
  go_ret2
  exact ⟨rfl, rfl⟩
theorem turn_no (s n : Int) (w : World) (h : n < 1 ∨ 255 < n) :
    Calls Try.prog 15 #[.int .u64 s, .int .i64 n] w fun e w' => e = .returned (.tuple #[.int .i64 0, .int .i64 1]) ∧ w = w' := by
  go_enter Try.func15, Try.ntmps15
  go_wp2_with (go_at_call 34; refine (may_no _ _ h).mono ?_; rintro e w' ⟨rfl, rfl⟩)
  go_ret2
  exact ⟨rfl, rfl⟩
theorem refTurn_yes (s n : Int) (w : World) (h0 : 0 ≤ s) (h1 : 1 ≤ n) (h2 : n ≤ 255) :
    Calls Try.prog 16 #[.int .u64 s, .int .i64 n] w fun e w' => e = .returned (.tuple #[.int .i64 (s % n), .int .i64 0]) ∧ w = w' := by
  have m1 : 0 ≤ s % n := Int.emod_nonneg _ (by omega)
  have m2 : s % n < n := Int.emod_lt_of_pos _ (by omega)
  go_enter Try.func16, Try.ntmps16
  go_wp2
  go_ret2
  exact ⟨rfl, rfl⟩
theorem refTurn_no (s n : Int) (w : World) (h : n < 1 ∨ 255 < n) :
    Calls Try.prog 16 #[.int .u64 s, .int .i64 n] w fun e w' => e = .returned (.tuple #[.int .i64 0, .int .i64 1]) ∧ w = w' := by
  by_cases h1 : n < 1
  · go_enter Try.func16, Try.ntmps16
    go_wp2
    go_ret2
    exact ⟨rfl, rfl⟩
  · have h2 : 255 < n := by omega
    go_enter Try.func16, Try.ntmps16
    go_wp2
    go_ret2
    exact ⟨rfl, rfl⟩

/-- What a draw comes to, its bytes worked out. -/
theorem Drawn.out {xs ys : List Int} {n t : Int} {m : Nat} {w w' : World} {e : Ending} (h : Drawn xs n t w e w') (hx : ∀ x ∈ xs, 0 ≤ x ∧ x < 256) (h1 : 1 ≤ n) (h2 : n ≤ 255) (hm : n.toNat = m) (hy : coefsOf xs n.toNat t.toNat = ys) :
    ∃ b, w.heap.size ≤ b ∧ e = .returned (.tuple #[.slice (some ⟨b, 0, none⟩) m m, .int .i64 0]) ∧ Hid (w'.heap[b]? = some (.cells (u8s ys) 5 (0, 0))) ∧ Bytes w' (.slice (some ⟨b, 0, none⟩) m m) ys ∧ Grows w w' := by
  obtain ⟨b, hb, rfl, hh, hg⟩ := h
  subst hm hy
  exact ⟨b, hb, rfl, hh, Bytes.drawn hx h1 h2 hh, hg⟩

set_option maxHeartbeats 800000 in
theorem awake_true (w : World) : Calls Try.prog 14 #[] w fun e w' => e = .returned (.bool true) ∧ Grows w w' := by
  go_enter Try.func14, Try.ntmps14
  go_wp2_with fail
  refine (coefs_int _ [7, 0, 9, 1] 3 0 _ (Bytes.lit w _ _ _ rfl rfl (by decide) (by decide)) (by omega) (by omega) (by omega) (by omega)).mono ?_
  rintro e w1 hd
  obtain ⟨b1, hb1, rfl, hh1, B1, hg1⟩ := hd.out (ys := [7, 0, 9]) (m := 3) (by decide) (by omega) (by omega) rfl (by decide)
  have G1 := Ext.trans (Ext.alloc (Ext.refl _ w) _) hg1
  clear hh1 hg1 hb1 hd
  go_wp2_with fail
  refine (coefs_int _ [0, 0, 0, 5] 3 2 _ (Bytes.lit w1 _ _ _ rfl rfl (by decide) (by decide)) (by omega) (by omega) (by omega) (by omega)).mono ?_
  rintro e w2 hd
  obtain ⟨b2, hb2, rfl, hh2, B2, hg2⟩ := hd.out (ys := [0, 0, 1]) (m := 3) (by decide) (by omega) (by omega) rfl (by decide)
  have G2 := Ext.trans (Ext.alloc (Ext.refl _ w1) _) hg2
  have G3 := G1.trans G2
  have B1' := B1.grows G2
  clear hh2 hg2 hb2 hd G1 G2 B1
  go_wp2_with fail
  have L1 : Bytes (w2.alloc (.cells #[.int .u8 7, .int .u8 0, .int .u8 9] 5)) (.slice (some ⟨w2.heap.size, 0, none⟩) 3 3) [7, 0, 9] := Bytes.lit w2 _ _ _ rfl rfl (by decide) (by decide)
  refine (equal_any _ _ _ _ _ (B1'.grows (Ext.alloc (Ext.refl _ _) _)) L1).mono ?_
  rintro e w3 ⟨rfl, rfl⟩
  have B2' := B2.grows (Ext.alloc (Ext.refl _ _) (.cells #[Value.int .u8 7, .int .u8 0, .int .u8 9] 5))
  go_wp2_with fail
  have L2 : Bytes ((w2.alloc (.cells #[.int .u8 7, .int .u8 0, .int .u8 9] 5)).alloc (.cells #[.int .u8 0, .int .u8 0, .int .u8 1] 5)) (.slice (some ⟨w2.heap.size + 1, 0, none⟩) 3 3) [0, 0, 1] := by
    have := Bytes.lit (w2.alloc (.cells #[.int .u8 7, .int .u8 0, .int .u8 9] 5)) [0, 0, 1] 3 #[.int .u8 0, .int .u8 0, .int .u8 1] rfl rfl (by decide) (by decide)
    rwa [World.size_alloc] at this
  refine (equal_any _ _ _ _ _ (B2'.grows (Ext.alloc (Ext.refl _ _) _)) L2).mono ?_
  rintro e w4 ⟨rfl, rfl⟩
  go_wp2_with fail
  refine (sys_any 3 3 _).mono ?_
  rintro e w5 ⟨rfl, rfl⟩
  go_wp2
  go_ret
  exact ⟨rfl, (G3.alloc _).alloc _⟩
end Go.Proofs.Ytekegbadkafjlaa
