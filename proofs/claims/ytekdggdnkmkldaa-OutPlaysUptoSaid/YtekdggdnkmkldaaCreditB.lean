/- credit: the sender's calls. -/
import Derived.Test.YtekdggdnkmkldaaCreditA
import Derived.BigQuiet
namespace Go.Proofs.Ytekdggdnkmkldaa
set_option linter.unusedVariables false
set_option linter.unusedSimpArgs false
set_option maxRecDepth 1500
open Go.RowKit

theorem run_store_complex (P : Program) (w : World) (a : Addr) (m : Mode) (k : FloatKind) (x y : Nat) : (store a (.complex k x y) m).run P w = stored P w a (.complex k x y) m := run_store P w a _ m rfl
attribute [local go_sem] run_store_complex

theorem granted_any (w : World) (s own peer gr used : Nat) (h : SenderAt w s own peer gr used) :
    Calls Try.prog 58 #[.pointer (some ⟨s, 0, none⟩)] w fun e w' => e = .returned (.int .u64 gr) ∧ w = w' := by
  have hn := sender_none w s own peer gr used h
  obtain ⟨⟨ty, hh⟩, h1, _, _, h5, _⟩ := h
  have c0 := cell_of_heap hh 2
  simp at c0
  go_enter Try.func58, Try.ntmps58
  go_wp2_with fail
  refine hn.mono ?_
  rintro e w' ⟨rfl, rfl⟩
  go_wp2_with fail
  refine (acct_granted gr used h5 _).mono ?_
  rintro e w' ⟨rfl, rfl⟩
  go_wp2
  go_ret
  exact ⟨rfl, rfl⟩
theorem may_any (w : World) (s own peer gr used : Nat) (h : SenderAt w s own peer gr used) :
    Calls Try.prog 43 #[.pointer (some ⟨s, 0, none⟩)] w fun e w' => e = .returned (.bool (decide (used < gr))) ∧ w = w' := by
  go_enter Try.func43, Try.ntmps43
  by_cases hlt : used < gr
  · have hlt' : (used : Int) < (gr : Int) := by omega
    go_wp2_with (first | (go_at_call 57; refine (sent_any w s own peer gr used h).mono ?_; rintro e w' ⟨rfl, rfl⟩) | (go_at_call 58; refine (granted_any w s own peer gr used h).mono ?_; rintro e w' ⟨rfl, rfl⟩))
    go_ret
    exact ⟨ret_bool (by simp [hlt]), rfl⟩
  · have hlt' : ¬ (used : Int) < (gr : Int) := by omega
    go_wp2_with (first | (go_at_call 57; refine (sent_any w s own peer gr used h).mono ?_; rintro e w' ⟨rfl, rfl⟩) | (go_at_call 58; refine (granted_any w s own peer gr used h).mono ?_; rintro e w' ⟨rfl, rfl⟩))
    go_ret
    exact ⟨ret_bool (by simp [hlt]), rfl⟩

theorem fl_one : fl 1 = 4607182418800017408 := by decide
theorem fl_zero : fl 0 = 0 := by decide

theorem SenderAt.lt {w : World} {s own peer gr used : Nat} (h : SenderAt w s own peer gr used) : s < w.heap.size := by
  obtain ⟨⟨ty, hh⟩, _⟩ := h
  exact heap_lt hh
theorem SenderAt.ext {S : Nat → Prop} {w w' : World} {s own peer gr used : Nat} (h : SenderAt w s own peer gr used) (g : Ext S w w') (hs : ¬ S s) : SenderAt w' s own peer gr used := by
  have hl := h.lt
  obtain ⟨⟨ty, hh⟩, rest⟩ := h
  exact ⟨⟨ty, (g.block s hl hs).trans hh⟩, rest⟩

theorem use_no (w : World) (s own peer gr used : Nat) (h : SenderAt w s own peer gr used) (hlt : gr ≤ used) :
    Calls Try.prog 44 #[.pointer (some ⟨s, 0, none⟩)] w fun e w' => e = .returned (.tuple #[.int .u64 0, .int .i64 26]) ∧ w = w' := by
  go_enter Try.func44, Try.ntmps44
  have hd : decide (used < gr) = false := by simp; omega
  go_wp2_with fail
  refine (sender_none w s own peer gr used h).mono ?_
  rintro e w' ⟨rfl, rfl⟩
  go_wp2_with fail
  refine (may_any w s own peer gr used h).mono ?_
  rintro e w' ⟨rfl, rfl⟩
  rw [hd]
  go_wp2
  go_ret2
  exact ⟨rfl, rfl⟩
theorem use_ok (w : World) (s own peer gr used : Nat) (h : SenderAt w s own peer gr used) (hlt : used < gr) :
    Calls Try.prog 44 #[.pointer (some ⟨s, 0, none⟩)] w fun e w' => e = .returned (.tuple #[.int .u64 ((used : Int) + 1), .int .i64 0]) ∧ SenderAt w' s own peer gr (used + 1) ∧ Ext (fun k => k = s) w w' := by
  go_enter Try.func44, Try.ntmps44
  have hd : decide (used < gr) = true := by simp; omega
  have h0 := h
  obtain ⟨⟨ty, hh⟩, h1, h2, h3, h4, h5⟩ := h0
  have c0 := cell_of_heap hh 2
  have f0 := frozen_of_heap hh 2
  simp at c0
  have hsum : cSumBits .add .f64 (fl gr) (fl used) 0 4607182418800017408 = some (fl gr, fl (used + 1)) := by
    have a1 := add_fl (a := gr) (b := 0) (by simp only [Most] at h4; omega)
    have a2 := add_fl (a := used) (b := 1) (by simp only [Most] at h5; omega)
    rw [fl_zero] at a1
    rw [fl_one] at a2
    simp only [cSumBits, a1, a2, Option.bind_some, Nat.add_zero]
  have hadd := fun w => run_complex_sum (P := Try.prog) w .add (.inl rfl) 137 .f64 _ _ _ _ _ _ hsum
  go_wp2_with fail
  refine (sender_none w s own peer gr used h).mono ?_
  rintro e w' ⟨rfl, rfl⟩
  go_wp2_with fail
  refine (may_any w s own peer gr used h).mono ?_
  rintro e w' ⟨rfl, rfl⟩
  rw [hd]
  go_wp2_with fail
  have hh2 := setCell_heap hh 2 (.complex .f64 (fl gr) (fl (used + 1)))
  have hS2 : SenderAt (w.setCell ⟨s, 2, none⟩ (.complex .f64 (fl gr) (fl (used + 1)))) s own peer gr (used + 1) := ⟨⟨ty, by simpa using hh2⟩, h1, h2, h3, h4, by omega⟩
  refine (sent_any _ s own peer gr (used + 1) hS2).mono ?_
  rintro e w' ⟨rfl, rfl⟩
  go_wp2
  go_ret2
  exact ⟨rfl, hS2, Ext.setCell (S := fun k => k = s) (Ext.refl _ _) ⟨s, 2, none⟩ (Or.inr rfl) _⟩

theorem newSender_ok (life : Nat) (w : World) (h1 : 1 ≤ life) (h2 : life ≤ Most) :
    Calls Try.prog 35 #[.int .u64 life] w fun e w' => e = .returned (.tuple #[.pointer (some ⟨w.heap.size, 0, none⟩), .int .i64 0]) ∧ SenderAt w' w.heap.size life 0 0 0 ∧ Grows w w' := by
  go_enter Try.func35, Try.ntmps35
  have hd : decide (1 ≤ life ∧ life ≤ Most) = true := by simp; omega
  go_wp2_with fail
  refine (count_any life 1 w).mono ?_
  rintro e w' ⟨rfl, rfl⟩
  rw [hd]
  go_wp2
  go_ret2
  refine ⟨rfl, ⟨⟨139, ?_⟩, h1, h2, by simp [Most], by simp [Most], by simp [Most]⟩, (Ext.refl _ _).alloc _⟩
  rw [fl_zero]
  exact heap_alloc_new w _
theorem newSender_no (life : Nat) (w : World) (h1 : ¬ (1 ≤ life ∧ life ≤ Most)) :
    Calls Try.prog 35 #[.int .u64 life] w fun e w' => e = .returned (.tuple #[.pointer none, .int .i64 1]) ∧ w = w' := by
  go_enter Try.func35, Try.ntmps35
  have hd : decide (1 ≤ life ∧ life ≤ Most) = false := by simpa using h1
  go_wp2_with fail
  refine (count_any life 1 w).mono ?_
  rintro e w' ⟨rfl, rfl⟩
  rw [hd]
  go_wp2
  go_ret2
  exact ⟨rfl, rfl⟩

/-- What is told of a life that is heard of: of the account's block, cells 1 and 2. -/
theorem heard_less (s : Nat) (c0 : Value) (peer life a b a1 b1 : Nat) (f : Value) (ty : TypeId) (w : World) (hh : w.heap[s]? = some (.cells #[c0, .int .u64 peer, .complex .f64 (fl a) (fl b)] ty (0, 0))) (hlt : life < peer) :
    Calls Try.prog 69 #[.pointer (some ⟨s, 1, none⟩), .int .u64 life, .pointer (some ⟨s, 2, none⟩), .complex .f64 (fl a1) (fl b1), f] w fun e w' => e = .returned (.int .i64 22) ∧ w = w' := by
  have c1 := cell_of_heap hh 1
  simp at c1
  have hlt' : (life : Int) < (peer : Int) := by omega
  go_enter Try.func69, Try.ntmps69
  go_wp2
  go_ret
  exact ⟨rfl, rfl⟩
theorem heard_more (s : Nat) (c0 : Value) (peer life a b a1 b1 : Nat) (f : Value) (ty : TypeId) (w : World) (hh : w.heap[s]? = some (.cells #[c0, .int .u64 peer, .complex .f64 (fl a) (fl b)] ty (0, 0))) (hlt : peer < life) :
    Calls Try.prog 69 #[.pointer (some ⟨s, 1, none⟩), .int .u64 life, .pointer (some ⟨s, 2, none⟩), .complex .f64 (fl a1) (fl b1), f] w fun e w' => e = .returned (.int .i64 0) ∧
      w'.heap[s]? = some (.cells #[c0, .int .u64 life, .complex .f64 (fl a1) (fl b1)] ty (0, 0)) ∧ Ext (fun k => k = s) w w' := by
  have c1 := cell_of_heap hh 1
  have c2 := cell_of_heap hh 2
  have f1 := frozen_of_heap hh 1
  have f2 := frozen_of_heap hh 2
  simp at c1 c2
  have hlt' : ¬ (life : Int) < (peer : Int) := by omega
  have hlt2 : (peer : Int) < (life : Int) := by omega
  go_enter Try.func69, Try.ntmps69
  go_wp2
  go_ret
  have h2 := setCell_heap (setCell_heap hh 1 (.int .u64 life)) 2 (.complex .f64 (fl a1) (fl b1))
  exact ⟨rfl, by simpa using h2, Ext.setCell (S := fun k => k = s) (Ext.setCell (S := fun k => k = s) (Ext.refl _ _) ⟨s, 1, none⟩ (Or.inr rfl) _) ⟨s, 2, none⟩ (Or.inr rfl) _⟩
theorem Ext.drewN {S : Nat → Prop} {w : World} (n : Nat) : Ext S w (w.drewN n) := ⟨rfl, rfl, rfl, Nat.le_refl _, fun _ _ _ => rfl⟩

theorem heard_sameS (s c : Nat) (c0 : Value) (peer a b a1 b1 a2 b2 : Nat) (ty : TypeId) (w : World) (hh : w.heap[s]? = some (.cells #[c0, .int .u64 peer, .complex .f64 (fl a) (fl b)] ty (0, 0)))
    (hc : Calls Try.prog 71 #[.complex .f64 (fl a) (fl b), .pointer (some ⟨c, 0, none⟩)] w fun e w' => e = .returned (.complex .f64 (fl a2) (fl b2)) ∧ ∃ m, w' = w.drewN m) :
    Calls Try.prog 69 #[.pointer (some ⟨s, 1, none⟩), .int .u64 peer, .pointer (some ⟨s, 2, none⟩), .complex .f64 (fl a1) (fl b1), .func (.func 71) #[] #[.pointer (some ⟨c, 0, none⟩)]] w fun e w' => e = .returned (.int .i64 0) ∧
      w'.heap[s]? = some (.cells #[c0, .int .u64 peer, .complex .f64 (fl a2) (fl b2)] ty (0, 0)) ∧ Ext (fun k => k = s) w w' := by
  have c1 := cell_of_heap hh 1
  have c2 := cell_of_heap hh 2
  have f1 := frozen_of_heap hh 1
  have f2 := frozen_of_heap hh 2
  simp at c1 c2
  have hlt' : ¬ (peer : Int) < (peer : Int) := by omega
  go_enter Try.func69, Try.ntmps69
  go_wp2_with fail
  refine hc.mono ?_
  rintro e w' ⟨rfl, m, rfl⟩
  go_wp2
  go_ret
  have h2 := setCell_heap (w := w.drewN m) hh 2 (.complex .f64 (fl a2) (fl b2))
  exact ⟨rfl, by simpa using h2, Ext.setCell (S := fun k => k = s) (Ext.drewN m) ⟨s, 2, none⟩ (Or.inr rfl) _⟩
theorem heard_sameR (s c : Nat) (c0 : Value) (peer a b a1 b1 a2 b2 : Nat) (ty : TypeId) (w : World) (hh : w.heap[s]? = some (.cells #[c0, .int .u64 peer, .complex .f64 (fl a) (fl b)] ty (0, 0)))
    (hc : Calls Try.prog 83 #[.complex .f64 (fl a) (fl b), .pointer (some ⟨c, 0, none⟩)] w fun e w' => e = .returned (.complex .f64 (fl a2) (fl b2)) ∧ ∃ m, w' = w.drewN m) :
    Calls Try.prog 69 #[.pointer (some ⟨s, 1, none⟩), .int .u64 peer, .pointer (some ⟨s, 2, none⟩), .complex .f64 (fl a1) (fl b1), .func (.func 83) #[] #[.pointer (some ⟨c, 0, none⟩)]] w fun e w' => e = .returned (.int .i64 0) ∧
      w'.heap[s]? = some (.cells #[c0, .int .u64 peer, .complex .f64 (fl a2) (fl b2)] ty (0, 0)) ∧ Ext (fun k => k = s) w w' := by
  have c1 := cell_of_heap hh 1
  have c2 := cell_of_heap hh 2
  have f1 := frozen_of_heap hh 1
  have f2 := frozen_of_heap hh 2
  simp at c1 c2
  have hlt' : ¬ (peer : Int) < (peer : Int) := by omega
  go_enter Try.func69, Try.ntmps69
  go_wp2_with fail
  refine hc.mono ?_
  rintro e w' ⟨rfl, m, rfl⟩
  go_wp2
  go_ret
  have h2 := setCell_heap (w := w.drewN m) hh 2 (.complex .f64 (fl a2) (fl b2))
  exact ⟨rfl, by simpa using h2, Ext.setCell (S := fun k => k = s) (Ext.drewN m) ⟨s, 2, none⟩ (Or.inr rfl) _⟩

theorem quiet_same {P : Program} {f : FuncId} {args : Array Value} {w : World} {n : Nat} {v : Value} (h : Calls P f args (w.drewN n) fun e w' => e = .returned v ∧ w.drewN n = w') :
    Calls P f args (w.drewN n) fun e w'' => e = .returned v ∧ ∃ m, w'' = w.drewN m :=
  h.mono fun _ _ ⟨he, hm⟩ => ⟨he, n, hm.symm⟩

set_option maxRecDepth 100000 in
theorem take1_any (c a b g : Nat) (w : World) (hg : w.cell? ⟨c, 0, none⟩ = some (.int .u64 g)) (ha : a ≤ Most) (hb : b ≤ Most) :
    Calls Try.prog 71 #[.complex .f64 (fl a) (fl b), .pointer (some ⟨c, 0, none⟩)] w fun e w' => e = .returned (.complex .f64 (fl (max g a)) (fl b)) ∧ ∃ m, w' = w.drewN m := by
  go_enter Try.func71, Try.ntmps71
  rcases Nat.lt_or_ge g a with h | h
  · rw [Nat.max_eq_right (Nat.le_of_lt h)]
    go_wp2
    go_quiet (first | (go_at_call 72; exact quiet_same (acct_granted a b ha _)) | (go_at_call 73; exact quiet_same (acct_other a b hb _)) | (go_at_call 70; (try simp only [if_pos h]); exact quiet_same (of_any a b _)))
    go_wp2
    go_ret
    exact ⟨rfl, _, rfl⟩
  · rw [Nat.max_eq_left h]
    have h' : ¬ g < a := by omega
    clear h
    go_wp2
    go_quiet (first | (go_at_call 72; exact quiet_same (acct_granted a b ha _)) | (go_at_call 73; exact quiet_same (acct_other a b hb _)) | (go_at_call 70; (try simp only [if_neg h']); exact quiet_same (of_any g b _)))
    go_wp2
    go_ret
    exact ⟨rfl, _, rfl⟩
end Go.Proofs.Ytekdggdnkmkldaa
