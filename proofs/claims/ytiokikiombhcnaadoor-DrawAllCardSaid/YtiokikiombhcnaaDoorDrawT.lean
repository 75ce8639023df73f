/- draw: what is drawn is drawn by itself, whatever stands behind it, and without its last noughts. -/
import Derived.Test.YtiokikiombhcnaaDoorDrawD
import Derived.Lib.Bytes
namespace Go.Proofs.YtiokikiombhcnaaDoor
set_option linter.unusedVariables false
set_option linter.unusedSimpArgs false

theorem fillOf_behind (c ys : List Int) (n : Nat) (h : c.length = n) : fillOf (c ++ ys) n = c := by
  subst h
  unfold fillOf
  rw [List.take_left]
  simp
theorem coefsOf_lead (xs : List Int) (n t : Nat) (h : t < n) : ¬ leadOf (coefsOf xs n t) < 0 := by
  unfold coefsOf
  by_cases hl : leadOf (fillOf xs n) < 0
  · rw [if_pos hl, leadOf_neg]
    intro ha
    rw [List.all_eq_true] at ha
    have h1 := ha 1 (by
      exact List.mem_iff_getElem.2 ⟨t, by rw [List.length_set, fillOf_length]; exact h, List.getElem_set_self _⟩)
    simp at h1
  · rw [if_neg hl]
    exact hl
theorem coefsOf_behind (c ys : List Int) (n t : Nat) (h : c.length = n) (hl : ¬ leadOf c < 0) : coefsOf (c ++ ys) n t = c := by
  unfold coefsOf
  rw [fillOf_behind c ys n h, if_neg hl]
theorem fillOf_trim (c : List Int) (k n : Nat) (h : c.length = n) (hk : k ≤ n) (hz : ∀ x ∈ c.drop k, x = 0) : fillOf (c.take k) n = c := by
  subst h
  unfold fillOf
  have h1 : c.drop k = List.replicate (c.length - k) 0 := by
    apply List.eq_replicate_of_mem hz |>.trans
    rw [List.length_drop]
  rw [List.take_take, Nat.min_eq_right hk, List.length_take, Nat.min_eq_left hk, ← h1]
  exact List.take_append_drop k c
theorem coefsOf_trim (c : List Int) (k n t : Nat) (h : c.length = n) (hk : k ≤ n) (hz : ∀ x ∈ c.drop k, x = 0) (hl : ¬ leadOf c < 0) : coefsOf (c.take k) n t = c := by
  unfold coefsOf
  rw [fillOf_trim c k n h hk hz, if_neg hl]
/-- A list's end, nothing but noughts. -/
theorem drop_step (c : List Int) (k : Nat) (hk : k < c.length) (h0 : c[k] = 0) (hz : ∀ x ∈ c.drop (k + 1), x = 0) : ∀ x ∈ c.drop k, x = 0 := by
  intro x hx
  rw [List.drop_eq_getElem_cons hk] at hx
  rcases List.mem_cons.1 hx with rfl | h
  · exact h0
  · exact hz x h
def lenOf : Value → Nat
  | .slice _ n _ => n
  | _ => 0
theorem trimByte_any (b cap : Nat) (xs : List Int) (w : World) (hcap : xs.length ≤ cap) (hm : cap ≤ maxLen) (hb : ∀ k, k < xs.length → w.cell? ⟨b, k, none⟩ = some (.int .u8 (xs.getD k 0))) :
    Calls Tryd.prog 13 #[.slice (some ⟨b, 0, none⟩) xs.length cap, .int .u8 0] w fun e w' => ∃ k, k ≤ xs.length ∧ e = .returned (.slice (some ⟨b, 0, none⟩) k cap) ∧ w = w' ∧ ∀ x ∈ xs.drop k, x = 0 := by
  have HC := Lib.hid hb
  have hM : cap ≤ 9223372036854775807 := by unfold maxLen at hm; omega
  clear hb
  go_enter Tryd.func13, Tryd.ntmps13
  go_wp2
  go_loop [0] (fun i => ∃ k : Nat, k ≤ xs.length ∧ i = .slice (some ⟨b, 0, none⟩) k cap ∧ ∀ x ∈ xs.drop k, x = 0) lenOf
  case atStart => exact ⟨_, Nat.le_refl _, rfl, by simp⟩
  case round =>
    obtain ⟨k, hk, rfl, hz⟩ := hrel
    have HZ := Lib.hid hz
    clear hz
    cases k with
    | zero =>
      go_wp2
      go_ret
      exact ⟨0, Nat.zero_le _, rfl, rfl, HZ.out⟩
    | succ k =>
      have hc := HC.out k (by omega)
      go_wp2
      · go_round
        case rel =>
          have h0 : (xs[k]?.getD 0 == 0) = true := by assumption
          rw [List.getElem?_eq_getElem (show k < xs.length by omega)] at h0
          exact ⟨k, by omega, rfl, drop_step xs k (by omega) (by simpa using h0) HZ.out⟩
        case measure => simp [lenOf]
      · go_ret
        exact ⟨k + 1, hk, rfl, rfl, HZ.out⟩
set_option maxRecDepth 100000 in
theorem trim_any (b cap : Nat) (xs : List Int) (w : World) (hcap : xs.length ≤ cap) (hm : cap ≤ maxLen) (h1 : 0 < xs.length) (hb : ∀ k, k < xs.length → w.cell? ⟨b, k, none⟩ = some (.int .u8 (xs.getD k 0))) :
    Calls Tryd.prog 8 #[.slice (some ⟨b, 0, none⟩) xs.length cap, .string ⟨#[0]⟩] w fun e w' => ∃ k, k ≤ xs.length ∧ e = .returned (.slice (some ⟨b, 0, none⟩) k cap) ∧ w = w' ∧ ∀ x ∈ xs.drop k, x = 0 := by
  have HB := Lib.hid (And.intro hb hm)
  have h2 : ((xs.length : Int) == 0) = false := beq_eq_false_iff_ne.2 (by omega)
  clear hb hm
  go_enter Tryd.func8, Tryd.ntmps8
  go_wp2_with (go_at_call 13; refine (trimByte_any b cap xs w hcap HB.out.2 HB.out.1).mono ?_; rintro e w' ⟨k, hk, rfl, rfl, hz⟩)
  go_ret
  exact ⟨k, hk, rfl, rfl, hz⟩
theorem trim_n (b cap n : Nat) (xs : List Int) (w : World) (hn : xs.length = n) (hcap : n ≤ cap) (hm : cap ≤ maxLen) (h1 : 0 < n) (hb : ∀ k, k < xs.length → w.cell? ⟨b, k, none⟩ = some (.int .u8 (xs.getD k 0))) :
    Calls Tryd.prog 8 #[.slice (some ⟨b, 0, none⟩) n cap, .string ⟨#[0]⟩] w fun e w' => ∃ k, k ≤ n ∧ e = .returned (.slice (some ⟨b, 0, none⟩) k cap) ∧ w = w' ∧ ∀ x ∈ xs.drop k, x = 0 := by
  subst hn
  exact trim_any b cap xs w hcap hm h1 hb
/-- A slice of bytes, however long. -/
def Long (w : World) (v : Value) (xs : List Int) : Prop := Row w v xs.length (xs.map (Value.int .u8)) ∧ ∀ x ∈ xs, 0 ≤ x ∧ x < 256
theorem Long.grows {w w' : World} {v : Value} {xs : List Int} (h : Long w v xs) (g : Grows w w') : Long w' v xs := ⟨h.1.keeps g.size (fun k _ hk => g.block k hk (fun h => h)), h.2⟩
theorem Long.cases {w : World} {v : Value} {xs : List Int} (h : Long w v xs) :
    (∃ a cap, v = .slice a 0 cap ∧ xs = []) ∨ ∃ b off cap, v = .slice (some ⟨b, off, none⟩) xs.length cap ∧ xs.length ≤ cap ∧ cap ≤ maxLen ∧ b < w.heap.size ∧
    ∀ i, i < xs.length → w.cell? ⟨b, off + i, none⟩ = some (.int .u8 (xs.getD i 0)) := by
  rcases h.1 with ⟨a, cap, rfl, h1, h2⟩ | ⟨b, off, cap, rfl, h1, h2, h3, h4⟩
  · exact .inl ⟨a, cap, rfl, by simpa using h2⟩
  · refine .inr ⟨b, off, cap, rfl, h1, h2, h3, fun i hi => ?_⟩
    rw [h4 i (by simpa using hi)]
    simp [List.getD, List.getElem?_eq_getElem hi]

theorem Long.of_owns {w : World} {e : TypeId} {v : Value} {xs : List Int} {n : Nat} (h : w.ownsRow 0 e 1 v n (xs.map (Value.int .u8))) (hx : ∀ x ∈ xs, 0 ≤ x ∧ x < 256) : Long w v xs := by
  have hn : n = xs.length := by have := h.1; simp at this; omega
  subst hn
  refine ⟨?_, hx⟩
  rcases h.2 with ⟨rfl, h0⟩ | ⟨g, cap, cur, rfl, _, hg, hnc, hcm, hcs, htake⟩
  · exact .inl ⟨none, 0, rfl, h0, by simp [List.eq_nil_of_length_eq_zero h0]⟩
  · refine .inr ⟨g, 0, cap, rfl, hnc, hcm, heap_lt hg, fun i hi => ?_⟩
    have hi' : i < xs.length := by simpa using hi
    rw [Nat.zero_add, cell_of_heap hg]
    have : (cur.toList.take (xs.length * 1))[i]? = (xs.map (Value.int .u8))[i]? := by rw [htake]
    rw [List.getElem?_take, if_pos (by omega)] at this
    rw [Array.getElem?_toList] at this
    rw [this]
    simp [List.getD, List.getElem?_eq_getElem hi']

theorem wpList_copy_long {P : Program} {w : World} {ops : Array Oper} {rest : List Oper} {o : Oper} {a : Act} {Q : Exit → Act → World → Prop} (hgd : o.guard = none) (d s : Operand) (T : TypeId)
    (ho : o.op = .call { callee := .builtin .copy, args := #[d, s], argTypes := #[T, T] }) (elem : TypeId) (hu : P.underlying T = some (.slice elem)) (hsz : (P.info? elem).map (·.size) = some 1)
    (g n cap : Nat) (cur : List Int) (t : TypeId) (v : Value) (xs : List Int) (hd : a.eval d = .slice (some ⟨g, 0, none⟩) n cap) (hs : a.eval s = v) (hv : Long w v xs) (hn : cur.length = n)
    (hg : w.heap[g]? = some (.cells (u8s cur) t (0, 0)))
    (h : ∀ w', w'.heap[g]? = some (.cells (u8s (over cur xs)) t (0, 0)) → Ext (fun k => k = g) w w' → wpList P ops Q rest (a.put o.dst (goInt ((min xs.length n : Nat) : Int))) w') :
    wpList P ops Q (o :: rest) a w := by
  subst hn
  have key : ∀ (w' : World), w'.heap[g]? = some (.cells (splice (cur.map (Value.int .u8)) 0 ((xs.take cur.length).map (Value.int .u8))).toArray t (0, 0)) → w'.heap[g]? = some (.cells (u8s (over cur xs)) t (0, 0)) := by
    intro w' hw
    rw [hw]
    congr 3
    simp only [over, splice, List.take_zero, List.nil_append, List.map_append, List.map_drop, List.length_map, List.length_take, Nat.zero_add]
    by_cases hl : xs.length ≤ cur.length
    · rw [show min cur.length xs.length = xs.length by omega]
    · rw [show min cur.length xs.length = cur.length by omega]
      rw [List.drop_eq_nil_of_le (by simp), List.drop_eq_nil_of_le (by simp; omega)]
  rcases hv.cases with ⟨va, vcap, rfl, rfl⟩ | ⟨b, off, vcap, rfl, hcap, hmax, hlt, hcell⟩
  · refine wpList_copy_nothing hgd d s T T ho elem hu hsz _ va _ _ 0 vcap hd hs (Nat.zero_min _) ?_
    have := h w (by rw [hg]; simp [over]) (Ext.refl _ _)
    simpa using this
  · by_cases h0 : min xs.length cur.length = 0
    · refine wpList_copy_nothing hgd d s T T ho elem hu hsz _ _ _ _ _ _ hd hs h0 ?_
      have := h w (by
        rw [hg]
        congr 3
        unfold over
        rcases Nat.eq_zero_or_pos xs.length with h1 | h1
        · rw [List.eq_nil_of_length_eq_zero h1]; simp
        · have h2 : cur.length = 0 := by omega
          rw [List.eq_nil_of_length_eq_zero h2]; simp) (Ext.refl _ _)
      rw [h0] at this
      exact this
    · have hmin : ((xs.take cur.length).map (Value.int .u8)).length = Nat.min xs.length cur.length := by simp only [List.length_map, List.length_take]; exact Nat.min_comm _ _
      refine wpList_copy_own hgd d s T T ho elem hu hsz g 0 cur.length cap ⟨b, off, none⟩ xs.length vcap hd hs (u8s cur) t hg ((xs.take cur.length).map (Value.int .u8)) hmin ?_ ?_ ?_ ?_
      · intro j x hj
        have hjl : j < (xs.take cur.length).length := by
          obtain ⟨hh, _⟩ := List.getElem?_eq_some_iff.1 hj
          simpa using hh
        have hjx : j < xs.length := by simp at hjl; omega
        have hplain : (⟨b, off, none⟩ : Addr).add j = ⟨b, off + j, none⟩ := by unfold Addr.add; split <;> simp_all
        rw [hplain, hcell j hjx, ← hj]
        simp only [List.length_take] at hjl
        rw [List.getElem?_map, List.getElem?_take, if_pos (by omega)]
        simp [List.getD, List.getElem?_eq_getElem hjx]
      · rw [u8s_size, hmin]; have := Nat.min_le_right xs.length cur.length; show 0 + min _ _ ≤ _; omega
      · intro x hx; obtain ⟨y, _, rfl⟩ := List.mem_map.1 hx; rfl
      · have := h (w.setRow g ((u8s cur).toList.take 0 ++ ((xs.take cur.length).map (Value.int .u8) ++ (u8s cur).toList.drop (0 + ((xs.take cur.length).map (Value.int .u8)).length))).toArray) (by
          apply key
          rw [setRow_heap w g _ _ t _ hg]
          rfl) ⟨rfl, rfl, rfl, by simp [World.setRow], fun k _ hk => setRow_other w g k _ hk⟩
        rw [hmin] at this ⊢
        exact this

set_option maxHeartbeats 400000 in
theorem coefs_long (v : Value) (xs : List Int) (n t : Nat) (w : World) (h : Long w v xs) (h1 : 1 ≤ n) (h2 : n ≤ 255) (h3 : t < n) :
    Calls Tryd.prog 4 #[v, .int .i64 n, .int .i64 t] w fun e w' => ∃ b, w.heap.size ≤ b ∧ e = .returned (.tuple #[.slice (some ⟨b, 0, none⟩) n n, .int .i64 0]) ∧
      w'.heap[b]? = some (.cells (u8s (coefsOf xs n t)) 5 (0, 0)) ∧ Grows w w' := by
  have hmk := make_bytes n (by omega)
  go_enter Tryd.func4, Tryd.ntmps4
  go_wp2_with (
    first
    | (go_at_call 9; refine (may_yes _ _ (by omega) (by omega)).mono ?_; rintro e w' ⟨rfl, rfl⟩)
    | (with_reducible refine wpList_copy_long rfl (.tmp 25) (.tmp 26) 22 rfl 5 Tryd.underlying22 sizeU8 (w.heap.size + 1) n n (zeros n) 5 v xs rfl rfl ?hv (zeros_length n) ?hg ?next))
  case hv => exact h.grows ((((Ext.refl _ _).alloc _).alloc _).alloc _)
  case hg => simp only [heap_alloc_get, World.size_alloc, ↓reduceIte]; (repeat (first | rw [if_pos (by omega)] | rw [if_neg (by omega)])); try rfl
  case next =>
    intro w3 hg3 he3
    rw [fillOf_over] at hg3
    have hp : w3.cell? ⟨w.heap.size + 1 + 1, 0, none⟩ = some (.slice (some ⟨w.heap.size + 1, 0, none⟩) n n) := by
      rw [he3.cell (by simp) (by simp)]; exact cell_heap (by simp only [heap_alloc_get, World.size_alloc, ↓reduceIte]; (repeat (first | rw [if_pos (by omega)] | rw [if_neg (by omega)])); try rfl) rfl
    have hq : w3.cell? ⟨w.heap.size, 0, none⟩ = some (.int .i64 t) := by
      rw [he3.cell (by simp; omega) (by simp)]; exact cell_heap (by simp only [heap_alloc_get, World.size_alloc, ↓reduceIte]; (repeat (first | rw [if_pos (by omega)] | rw [if_neg (by omega)])); try rfl) rfl
    have hfin := fill_any (w.heap.size + 1 + 1) w.heap.size (w.heap.size + 1) t (fillOf xs n) n 5 w3 hg3 (fillOf_small h.2 n) (by rw [fillOf_length]; omega) (by rw [fillOf_length]; omega) (by unfold maxLen; omega)
      (by rw [fillOf_length]; exact hp) hq (by rw [fillOf_length]; exact h3)
    have HF := Lib.hid hfin
    clear hfin
    have HG := Lib.hid he3
    clear he3 hmk
    go_wp2_with (go_at_call 10; refine HF.out.mono ?_; rintro e w4 ⟨rfl, hb4, he4⟩; have hp4 := (he4.cell (World.block_lt_of_cell? _ _ hp) (by simp)).trans hp)
    go_ret2
    refine ⟨w.heap.size + 1, by omega, rfl, ?_, ?_⟩
    · rw [hb4]; rfl
    · have := (((((Ext.refl (fun k => k = w.heap.size + 1) w).alloc _).alloc _).alloc _).trans HG.out).trans he4
      exact this.mono (fun k hk hh => by omega)
end Go.Proofs.YtiokikiombhcnaaDoor
