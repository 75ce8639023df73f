/- credit beside the document's answer: a sender, a receiver, and the answer's. -/
import Derived.Test.YtpkaddpennafcaaOps
namespace Go.Proofs.Ytpkaddpennafcaa
set_option linter.unusedVariables false
set_option linter.unusedSimpArgs false
open Go.RowKit

structure Quad (w wr : World) (s t r q own places P G U P' G' U' rP rG S rP' rG' S' : Nat) : Prop where
  snd : SenderAt wr s own P G U
  rs : RefS wr t own P' G' U'
  rcv : ReceiverAt wr r places rP rG S
  rr : RefR wr q places rP' rG' S'
  sb : w.heap.size ≤ s
  tb : w.heap.size ≤ t
  rb : w.heap.size ≤ r
  qb : w.heap.size ≤ q
  st : s ≠ t
  sr : s ≠ r
  sq : s ≠ q
  tr : t ≠ r
  tq : t ≠ q
  rq : r ≠ q
  grows : Grows w wr

section
variable {w wr w' : World} {s t r q own places P G U P' G' U' rP rG S rP' rG' S' : Nat}
theorem Quad.more (h : Quad w wr s t r q own places P G U P' G' U' rP rG S rP' rG' S') (g : Grows wr w') : Quad w w' s t r q own places P G U P' G' U' rP rG S rP' rG' S' :=
  ⟨h.snd.ext g (fun h => h), h.rs.ext g (fun h => h), h.rcv.ext g (fun h => h), h.rr.ext g (fun h => h), h.sb, h.tb, h.rb, h.qb, h.st, h.sr, h.sq, h.tr, h.tq, h.rq, h.grows.trans g⟩
theorem Quad.drew (h : Quad w wr s t r q own places P G U P' G' U' rP rG S rP' rG' S') : Quad w wr.drew s t r q own places P G U P' G' U' rP rG S rP' rG' S' := h.more (Ext.refl _ _).drew
theorem Quad.s1 {a b c : Nat} (h : Quad w wr s t r q own places P G U P' G' U' rP rG S rP' rG' S') (h1 : SenderAt w' s own a b c) (he : Ext (fun k => k = s) wr w') : Quad w w' s t r q own places a b c P' G' U' rP rG S rP' rG' S' :=
  ⟨h1, h.rs.ext he (fun e => h.st e.symm), h.rcv.ext he (fun e => h.sr e.symm), h.rr.ext he (fun e => h.sq e.symm), h.sb, h.tb, h.rb, h.qb, h.st, h.sr, h.sq, h.tr, h.tq, h.rq, Ext.eq_grows h.grows he h.sb⟩
theorem Quad.t1 {a b c : Nat} (h : Quad w wr s t r q own places P G U P' G' U' rP rG S rP' rG' S') (h1 : RefS w' t own a b c) (he : Ext (fun k => k = t) wr w') : Quad w w' s t r q own places P G U a b c rP rG S rP' rG' S' :=
  ⟨h.snd.ext he h.st, h1, h.rcv.ext he (fun e => h.tr e.symm), h.rr.ext he (fun e => h.tq e.symm), h.sb, h.tb, h.rb, h.qb, h.st, h.sr, h.sq, h.tr, h.tq, h.rq, Ext.eq_grows h.grows he h.tb⟩
theorem Quad.r1 {a b c : Nat} (h : Quad w wr s t r q own places P G U P' G' U' rP rG S rP' rG' S') (h1 : ReceiverAt w' r places a b c) (he : Ext (fun k => k = r) wr w') : Quad w w' s t r q own places P G U P' G' U' a b c rP' rG' S' :=
  ⟨h.snd.ext he h.sr, h.rs.ext he h.tr, h1, h.rr.ext he (fun e => h.rq e.symm), h.sb, h.tb, h.rb, h.qb, h.st, h.sr, h.sq, h.tr, h.tq, h.rq, Ext.eq_grows h.grows he h.rb⟩
theorem Quad.q1 {a b c : Nat} (h : Quad w wr s t r q own places P G U P' G' U' rP rG S rP' rG' S') (h1 : RefR w' q places a b c) (he : Ext (fun k => k = q) wr w') : Quad w w' s t r q own places P G U P' G' U' rP rG S a b c :=
  ⟨h.snd.ext he h.sq, h.rs.ext he h.tq, h.rcv.ext he h.rq, h1, h.sb, h.tb, h.rb, h.qb, h.st, h.sr, h.sq, h.tr, h.tq, h.rq, Ext.eq_grows h.grows he h.qb⟩

theorem quad_use_no (h : Quad w wr s t r q own places P G U P' G' U' rP rG S rP' rG' S') (hlt : G ≤ U) : Calls Try.prog 34 #[.pointer (some ⟨s, 0, none⟩)] wr fun e w' => e = .returned (.tuple #[.int .u64 0, .int .i64 26]) ∧ wr = w' := use_no _ _ _ _ _ _ h.snd hlt
theorem quad_use_ok (h : Quad w wr s t r q own places P G U P' G' U' rP rG S rP' rG' S') (hlt : U < G) (n : Nat) (hn : U + 1 = n) : Calls Try.prog 34 #[.pointer (some ⟨s, 0, none⟩)] wr fun e w' => e = .returned (.tuple #[.int .u64 n, .int .i64 0]) ∧
    Quad w w' s t r q own places P G n P' G' U' rP rG S rP' rG' S' ∧ Ext (fun k => k = s) wr w' := by
  subst hn
  refine (use_ok _ _ _ _ _ _ h.snd hlt).mono ?_
  rintro e w' ⟨rfl, h1, he⟩
  exact ⟨rfl, h.s1 h1 he, he⟩
theorem quad_ruse_no (h : Quad w wr s t r q own places P G U P' G' U' rP rG S rP' rG' S') (hlt : G' ≤ U') : Calls Try.prog 35 #[.pointer (some ⟨t, 0, none⟩)] wr fun e w' => e = .returned (.tuple #[.int .u64 0, .int .i64 26]) ∧ Grows wr w' :=
  ref_use_no _ _ _ _ _ _ h.rs hlt
theorem quad_ruse_ok (h : Quad w wr s t r q own places P G U P' G' U' rP rG S rP' rG' S') (hlt : U' < G') (hm : G' ≤ Most) (n : Nat) (hn : U' + 1 = n) : Calls Try.prog 35 #[.pointer (some ⟨t, 0, none⟩)] wr fun e w' => e = .returned (.tuple #[.int .u64 n, .int .i64 0]) ∧
    Quad w w' s t r q own places P G U P' G' n rP rG S rP' rG' S' ∧ Ext (fun k => k = t) wr w' := by
  refine (ref_use_ok _ _ _ _ _ _ h.rs hlt hm n hn).mono ?_
  rintro e w' ⟨rfl, h1, he⟩
  exact ⟨rfl, h.t1 h1 he, he⟩
theorem quad_take (h : Quad w wr s t r q own places P G U P' G' U' rP rG S rP' rG' S') (life to g : Nat) (E : Int) (a b : Nat) (hE : takeE own P life to g = E) (ha : takeP own P life to g = a) (hb : takeG own P G life to g = b) :
    Calls Try.prog 36 #[.pointer (some ⟨s, 0, none⟩), .int .u64 life, .int .u64 to, .int .u64 g] wr fun e w' => e = .returned (.int .i64 E) ∧ Quad w w' s t r q own places a b U P' G' U' rP rG S rP' rG' S' ∧ Ext (fun k => k = s) wr w' := by
  subst hE ha hb
  refine (take_any _ _ _ _ _ _ life to g h.snd).mono ?_
  rintro e w' ⟨rfl, h1, he⟩
  exact ⟨rfl, h.s1 h1 he, he⟩
theorem quad_rtake (h : Quad w wr s t r q own places P G U P' G' U' rP rG S rP' rG' S') (life to g : Nat) (E : Int) (a b : Nat) (hE : takeE own P' life to g = E) (ha : takeP own P' life to g = a) (hb : takeG own P' G' life to g = b) :
    Calls Try.prog 37 #[.pointer (some ⟨t, 0, none⟩), .int .u64 life, .int .u64 to, .int .u64 g] wr fun e w' => e = .returned (.int .i64 E) ∧ Quad w w' s t r q own places P G U a b U' rP rG S rP' rG' S' ∧ Ext (fun k => k = t) wr w' := by
  subst hE ha hb
  refine (ref_take _ _ _ _ _ _ life to g h.rs).mono ?_
  rintro e w' ⟨rfl, h1, he⟩
  exact ⟨rfl, h.t1 h1 he, he⟩
theorem quad_saw (h : Quad w wr s t r q own places P G U P' G' U' rP rG S rP' rG' S') (life seq : Nat) (E : Int) (a b c : Nat) (hE : sawE rP life seq = E) (ha : sawP rP life seq = a) (hb : sawG rP rG life seq = b) (hc : sawS rP S life seq = c) :
    Calls Try.prog 38 #[.pointer (some ⟨r, 0, none⟩), .int .u64 life, .int .u64 seq] wr fun e w' => e = .returned (.int .i64 E) ∧ Quad w w' s t r q own places P G U P' G' U' a b c rP' rG' S' ∧ Ext (fun k => k = r) wr w' := by
  subst hE ha hb hc
  refine (saw_any _ _ _ _ _ _ life seq h.rcv).mono ?_
  rintro e w' ⟨rfl, h1, he⟩
  exact ⟨rfl, h.r1 h1 he, he⟩
theorem quad_rsaw (h : Quad w wr s t r q own places P G U P' G' U' rP rG S rP' rG' S') (life seq : Nat) (E : Int) (a b c : Nat) (hE : sawE rP' life seq = E) (ha : sawP rP' life seq = a) (hb : sawG rP' rG' life seq = b) (hc : sawS rP' S' life seq = c) :
    Calls Try.prog 39 #[.pointer (some ⟨q, 0, none⟩), .int .u64 life, .int .u64 seq] wr fun e w' => e = .returned (.int .i64 E) ∧ Quad w w' s t r q own places P G U P' G' U' rP rG S a b c ∧ Ext (fun k => k = q) wr w' := by
  subst hE ha hb hc
  refine (ref_saw _ _ _ _ _ _ life seq h.rr).mono ?_
  rintro e w' ⟨rfl, h1, he⟩
  exact ⟨rfl, h.q1 h1 he, he⟩
theorem quad_grant_arg (h : Quad w wr s t r q own places P G U P' G' U' rP rG S rP' rG' S') (free : Int) (hf : free < 0 ∨ (places : Int) < free) :
    Calls Try.prog 40 #[.pointer (some ⟨r, 0, none⟩), .int .i64 free] wr fun e w' => e = .returned (.tuple #[.int .u64 0, .int .i64 1]) ∧ wr = w' := grant_arg _ _ _ _ _ _ free h.rcv hf
theorem quad_rgrant_arg (h : Quad w wr s t r q own places P G U P' G' U' rP rG S rP' rG' S') (free : Int) (hf : free < 0 ∨ (places : Int) < free) :
    Calls Try.prog 41 #[.pointer (some ⟨q, 0, none⟩), .int .i64 free] wr fun e w' => e = .returned (.tuple #[.int .u64 0, .int .i64 1]) ∧ wr = w' := ref_grant_arg _ _ _ _ _ _ free h.rr hf
theorem quad_grant_ok (h : Quad w wr s t r q own places P G U P' G' U' rP rG S rP' rG' S') (free : Nat) (hf : free ≤ places) (a : Nat) (ha : grantG rG S free = a) :
    Calls Try.prog 40 #[.pointer (some ⟨r, 0, none⟩), .int .i64 free] wr fun e w' => e = .returned (.tuple #[.int .u64 a, .int .i64 0]) ∧ Quad w w' s t r q own places P G U P' G' U' rP a S rP' rG' S' ∧ Ext (fun k => k = r) wr w' := by
  subst ha
  refine (grant_ok _ _ _ _ _ _ free h.rcv hf).mono ?_
  rintro e w' ⟨rfl, h1, he⟩
  exact ⟨rfl, h.r1 h1 he, he⟩
theorem quad_rgrant_ok (h : Quad w wr s t r q own places P G U P' G' U' rP rG S rP' rG' S') (free : Nat) (hf : free ≤ places) (hp : places ≤ 64) (hs : S' ≤ Most) (a : Nat) (ha : grantG rG' S' free = a) :
    Calls Try.prog 41 #[.pointer (some ⟨q, 0, none⟩), .int .i64 free] wr fun e w' => e = .returned (.tuple #[.int .u64 a, .int .i64 0]) ∧ Quad w w' s t r q own places P G U P' G' U' rP rG S rP' a S' ∧ Ext (fun k => k = q) wr w' := by
  refine (ref_grant_ok _ _ _ _ _ _ free h.rr hf hp hs a ha).mono ?_
  rintro e w' ⟨rfl, h1, he⟩
  exact ⟨rfl, h.q1 h1 he, he⟩
theorem Quad.drewN (n : Nat) (h : Quad w wr s t r q own places P G U P' G' U' rP rG S rP' rG' S') : Quad w (wr.drewN n) s t r q own places P G U P' G' U' rP rG S rP' rG' S' := h.more ⟨rfl, rfl, rfl, Nat.le_refl _, fun _ _ _ => rfl⟩
theorem quad_may_q (h : Quad w wr s t r q own places P G U P' G' U' rP rG S rP' rG' S') (b : Bool) (hb : decide (U < G) = b) (n : Nat) : Calls Try.prog 42 #[.pointer (some ⟨s, 0, none⟩)] (wr.drewN n) fun e w'' => e = .returned (.bool b) ∧ ∃ m, w'' = wr.drewN m :=
  quiet_same (hb ▸ may_any _ _ _ _ _ _ (h.drewN n).snd)
theorem quad_rmay_q (h : Quad w wr s t r q own places P G U P' G' U' rP rG S rP' rG' S') (b : Bool) (hb : decide (U' < G') = b) (n : Nat) : Calls Try.prog 43 #[.pointer (some ⟨t, 0, none⟩)] (wr.drewN n) fun e w'' => e = .returned (.bool b) ∧ ∃ m, w'' = wr.drewN m := by
  refine (ref_may _ _ _ _ _ _ (h.drewN n).rs b hb).mono ?_
  rintro e w'' ⟨rfl, m, rfl⟩
  exact ⟨rfl, n + m, World.drewN_drewN _ _ _⟩
theorem quad_sent_q (h : Quad w wr s t r q own places P G U P' G' U' rP rG S rP' rG' S') (n : Nat) : Calls Try.prog 44 #[.pointer (some ⟨s, 0, none⟩)] (wr.drewN n) fun e w'' => e = .returned (.int .u64 U) ∧ ∃ m, w'' = wr.drewN m := quiet_same (sent_any _ _ _ _ _ _ (h.drewN n).snd)
theorem quad_granted_q (h : Quad w wr s t r q own places P G U P' G' U' rP rG S rP' rG' S') (n : Nat) : Calls Try.prog 45 #[.pointer (some ⟨s, 0, none⟩)] (wr.drewN n) fun e w'' => e = .returned (.int .u64 G) ∧ ∃ m, w'' = wr.drewN m := quiet_same (granted_any _ _ _ _ _ _ (h.drewN n).snd)
theorem quad_life_q (h : Quad w wr s t r q own places P G U P' G' U' rP rG S rP' rG' S') (n : Nat) : Calls Try.prog 46 #[.pointer (some ⟨r, 0, none⟩)] (wr.drewN n) fun e w'' => e = .returned (.int .u64 rP) ∧ ∃ m, w'' = wr.drewN m := quiet_same (life_any _ _ _ _ _ _ (h.drewN n).rcv)
theorem quad_seen_q (h : Quad w wr s t r q own places P G U P' G' U' rP rG S rP' rG' S') (n : Nat) : Calls Try.prog 47 #[.pointer (some ⟨r, 0, none⟩)] (wr.drewN n) fun e w'' => e = .returned (.int .u64 S) ∧ ∃ m, w'' = wr.drewN m := quiet_same (seen_any _ _ _ _ _ _ (h.drewN n).rcv)
theorem Quad.cells (h : Quad w wr s t r q own places P G U P' G' U' rP rG S rP' rG' S') : wr.cell? ⟨t, 2, none⟩ = some (.int .u64 G') ∧ wr.cell? ⟨t, 3, none⟩ = some (.int .u64 U') ∧ wr.cell? ⟨q, 1, none⟩ = some (.int .u64 rP') ∧ wr.cell? ⟨q, 3, none⟩ = some (.int .u64 S') := by
  obtain ⟨ty, hh⟩ := h.rs
  obtain ⟨ty2, hh2⟩ := h.rr
  have c2 := cell_of_heap hh 2
  have c3 := cell_of_heap hh 3
  have d1 := cell_of_heap hh2 1
  have d3 := cell_of_heap hh2 3
  simp at c2 c3 d1 d3
  exact ⟨c2, c3, d1, d3⟩
end

end Go.Proofs.Ytpkaddpennafcaa
