/- credit: a sender and a receiver that a call made, side by side. -/
import Derived.Test.YtekdggdnkmkldaaCreditE
namespace Go.Proofs.Ytekdggdnkmkldaa
set_option linter.unusedVariables false
set_option linter.unusedSimpArgs false
set_option maxRecDepth 1500
open Go.RowKit

def takeE (own peer life to g : Nat) : Int := if (1 ≤ life ∧ life ≤ Most) ∧ to ≤ Most ∧ g ≤ Most then (if to ≠ own ∨ life < peer then 22 else 0) else 1
def takeP (own peer life to g : Nat) : Nat := if takeE own peer life to g = 0 then life else peer
def takeG (own peer gr life to g : Nat) : Nat := if takeE own peer life to g = 0 then (if peer < life then g else max g gr) else gr
def sawE (peer life seq : Nat) : Int := if (1 ≤ life ∧ life ≤ Most) ∧ seq ≤ Most then (if life < peer then 22 else 0) else 1
def sawP (peer life seq : Nat) : Nat := if sawE peer life seq = 0 then life else peer
def sawG (peer gr life seq : Nat) : Nat := if sawE peer life seq = 0 then (if peer < life then 0 else gr) else gr
def sawS (peer seen life seq : Nat) : Nat := if sawE peer life seq = 0 then (if peer < life then seq else max seq seen) else seen
def grantG (gr seen free : Nat) : Nat := max gr (min (seen + free) Most)

theorem take_any (w : World) (s own peer gr used life to g : Nat) (h : SenderAt w s own peer gr used) :
    Calls Try.prog 38 #[.pointer (some ⟨s, 0, none⟩), .int .u64 life, .int .u64 to, .int .u64 g] w fun e w' => e = .returned (.int .i64 (takeE own peer life to g)) ∧
      SenderAt w' s own (takeP own peer life to g) (takeG own peer gr life to g) used ∧ Ext (fun k => k = s) w w' := by
  by_cases h1 : (1 ≤ life ∧ life ≤ Most) ∧ to ≤ Most ∧ g ≤ Most
  · by_cases h2 : to = own
    · rcases Nat.lt_trichotomy life peer with h3 | h3 | h3
      · have hE : takeE own peer life to g = 22 := by rw [takeE, if_pos h1, if_pos (Or.inr h3)]
        refine (take_less w s own peer gr used life to g h h1.1 h1.2.1 h1.2.2 h2 h3).mono ?_
        rintro e w' ⟨rfl, hg⟩
        exact ⟨by rw [hE], by rw [takeP, takeG, hE]; exact h.ext hg (fun h => h), hg.lift⟩
      · have hE : takeE own peer life to g = 0 := by rw [takeE, if_pos h1, if_neg (by omega)]
        refine (take_same w s own peer gr used life to g h h1.1 h1.2.1 h1.2.2 h2 h3).mono ?_
        rintro e w' ⟨rfl, hs, he⟩
        exact ⟨by rw [hE], by rw [takeP, takeG, hE, if_pos rfl, if_pos rfl, if_neg (by omega)]; exact hs, he⟩
      · have hE : takeE own peer life to g = 0 := by rw [takeE, if_pos h1, if_neg (by omega)]
        refine (take_more w s own peer gr used life to g h h1.1 h1.2.1 h1.2.2 h2 h3).mono ?_
        rintro e w' ⟨rfl, hs, he⟩
        exact ⟨by rw [hE], by rw [takeP, takeG, hE, if_pos rfl, if_pos rfl, if_pos h3]; exact hs, he⟩
    · have hE : takeE own peer life to g = 22 := by rw [takeE, if_pos h1, if_pos (Or.inl h2)]
      refine (take_other w s own peer gr used life to g h h1.1 h1.2.1 h1.2.2 h2).mono ?_
      rintro e w' ⟨rfl, hg⟩
      exact ⟨by rw [hE], by rw [takeP, takeG, hE]; exact h.ext hg (fun h => h), hg.lift⟩
  · have hE : takeE own peer life to g = 1 := by rw [takeE, if_neg h1]
    refine (take_arg w s own peer gr used life to g h (by omega)).mono ?_
    rintro e w' ⟨rfl, hg⟩
    exact ⟨by rw [hE], by rw [takeP, takeG, hE]; exact h.ext hg (fun h => h), hg.lift⟩
theorem saw_any (w : World) (r places peer gr seen life seq : Nat) (h : ReceiverAt w r places peer gr seen) :
    Calls Try.prog 50 #[.pointer (some ⟨r, 0, none⟩), .int .u64 life, .int .u64 seq] w fun e w' => e = .returned (.int .i64 (sawE peer life seq)) ∧
      ReceiverAt w' r places (sawP peer life seq) (sawG peer gr life seq) (sawS peer seen life seq) ∧ Ext (fun k => k = r) w w' := by
  by_cases h1 : (1 ≤ life ∧ life ≤ Most) ∧ seq ≤ Most
  · rcases Nat.lt_trichotomy life peer with h3 | h3 | h3
    · have hE : sawE peer life seq = 22 := by rw [sawE, if_pos h1, if_pos h3]
      refine (saw_less w r places peer gr seen life seq h h1.1 h1.2 h3).mono ?_
      rintro e w' ⟨rfl, hg⟩
      exact ⟨by rw [hE], by rw [sawP, sawG, sawS, hE]; exact h.ext hg (fun h => h), hg.lift⟩
    · have hE : sawE peer life seq = 0 := by rw [sawE, if_pos h1, if_neg (by omega)]
      refine (saw_same w r places peer gr seen life seq h h1.1 h1.2 h3).mono ?_
      rintro e w' ⟨rfl, hs, he⟩
      exact ⟨by rw [hE], by rw [sawP, sawG, sawS, hE, if_pos rfl, if_pos rfl, if_pos rfl, if_neg (by omega), if_neg (by omega)]; exact hs, he⟩
    · have hE : sawE peer life seq = 0 := by rw [sawE, if_pos h1, if_neg (by omega)]
      refine (saw_more w r places peer gr seen life seq h h1.1 h1.2 h3).mono ?_
      rintro e w' ⟨rfl, hs, he⟩
      exact ⟨by rw [hE], by rw [sawP, sawG, sawS, hE, if_pos rfl, if_pos rfl, if_pos rfl, if_pos h3, if_pos h3]; exact hs, he⟩
  · have hE : sawE peer life seq = 1 := by rw [sawE, if_neg h1]
    refine (saw_arg w r places peer gr seen life seq h (by omega)).mono ?_
    rintro e w' ⟨rfl, hg⟩
    exact ⟨by rw [hE], by rw [sawP, sawG, sawS, hE]; exact h.ext hg (fun h => h), hg.lift⟩

theorem Ext.eq_grows {s : Nat} {w w1 w2 : World} (g : Grows w w1) (e : Ext (fun k => k = s) w1 w2) (hs : w.heap.size ≤ s) : Grows w w2 := (g.lift.trans e).mono (fun k hk h => by omega)

/-- A sender and a receiver, both made by the call. -/
structure SR (w wr : World) (s own peer gr used r places rpeer rgr seen : Nat) : Prop where
  snd : SenderAt wr s own peer gr used
  rcv : ReceiverAt wr r places rpeer rgr seen
  sb : w.heap.size ≤ s
  rb : w.heap.size ≤ r
  ne : s ≠ r
  grows : Grows w wr

section
variable {w wr w' : World} {s own peer gr used r places rpeer rgr seen : Nat}
theorem SR.more (h : SR w wr s own peer gr used r places rpeer rgr seen) (g : Grows wr w') : SR w w' s own peer gr used r places rpeer rgr seen :=
  ⟨h.snd.ext g (fun h => h), h.rcv.ext g (fun h => h), h.sb, h.rb, h.ne, h.grows.trans g⟩
theorem SR.sstep {peer' gr' used' : Nat} (h : SR w wr s own peer gr used r places rpeer rgr seen) (h1 : SenderAt w' s own peer' gr' used') (he : Ext (fun k => k = s) wr w') : SR w w' s own peer' gr' used' r places rpeer rgr seen :=
  ⟨h1, h.rcv.ext he (fun e => h.ne e.symm), h.sb, h.rb, h.ne, Ext.eq_grows h.grows he h.sb⟩
theorem SR.rstep {peer' gr' seen' : Nat} (h : SR w wr s own peer gr used r places rpeer rgr seen) (h1 : ReceiverAt w' r places peer' gr' seen') (he : Ext (fun k => k = r) wr w') : SR w w' s own peer gr used r places peer' gr' seen' :=
  ⟨h.snd.ext he h.ne, h1, h.sb, h.rb, h.ne, Ext.eq_grows h.grows he h.rb⟩
end

section
variable {w wr : World} {s own peer gr used r places rpeer rgr seen : Nat}
theorem sr_sent (h : SR w wr s own peer gr used r places rpeer rgr seen) : Calls Try.prog 57 #[.pointer (some ⟨s, 0, none⟩)] wr fun e w' => e = .returned (.int .u64 used) ∧ wr = w' := sent_any _ _ _ _ _ _ h.snd
theorem sr_granted (h : SR w wr s own peer gr used r places rpeer rgr seen) : Calls Try.prog 58 #[.pointer (some ⟨s, 0, none⟩)] wr fun e w' => e = .returned (.int .u64 gr) ∧ wr = w' := granted_any _ _ _ _ _ _ h.snd
theorem sr_may (h : SR w wr s own peer gr used r places rpeer rgr seen) (b : Bool) (hb : decide (used < gr) = b) : Calls Try.prog 43 #[.pointer (some ⟨s, 0, none⟩)] wr fun e w' => e = .returned (.bool b) ∧ wr = w' := hb ▸ may_any _ _ _ _ _ _ h.snd
theorem sr_life (h : SR w wr s own peer gr used r places rpeer rgr seen) : Calls Try.prog 48 #[.pointer (some ⟨r, 0, none⟩)] wr fun e w' => e = .returned (.int .u64 rpeer) ∧ wr = w' := life_any _ _ _ _ _ _ h.rcv
theorem sr_use_no (h : SR w wr s own peer gr used r places rpeer rgr seen) (hlt : gr ≤ used) : Calls Try.prog 44 #[.pointer (some ⟨s, 0, none⟩)] wr fun e w' => e = .returned (.tuple #[.int .u64 0, .int .i64 26]) ∧ wr = w' := use_no _ _ _ _ _ _ h.snd hlt
theorem sr_use_ok (h : SR w wr s own peer gr used r places rpeer rgr seen) (hlt : used < gr) (n : Nat) (hn : used + 1 = n) : Calls Try.prog 44 #[.pointer (some ⟨s, 0, none⟩)] wr fun e w' => e = .returned (.tuple #[.int .u64 n, .int .i64 0]) ∧
    SR w w' s own peer gr n r places rpeer rgr seen := by
  subst hn
  refine (use_ok _ _ _ _ _ _ h.snd hlt).mono ?_
  rintro e w' ⟨rfl, h1, he⟩
  exact ⟨rfl, h.sstep h1 he⟩
theorem sr_take (h : SR w wr s own peer gr used r places rpeer rgr seen) (life to g : Nat) (E : Int) (P G : Nat) (hE : takeE own peer life to g = E) (hP : takeP own peer life to g = P) (hG : takeG own peer gr life to g = G) :
    Calls Try.prog 38 #[.pointer (some ⟨s, 0, none⟩), .int .u64 life, .int .u64 to, .int .u64 g] wr fun e w' => e = .returned (.int .i64 E) ∧ SR w w' s own P G used r places rpeer rgr seen := by
  subst hE hP hG
  refine (take_any _ _ _ _ _ _ life to g h.snd).mono ?_
  rintro e w' ⟨rfl, h1, he⟩
  exact ⟨rfl, h.sstep h1 he⟩
theorem sr_saw (h : SR w wr s own peer gr used r places rpeer rgr seen) (life seq : Nat) (E : Int) (P G S : Nat) (hE : sawE rpeer life seq = E) (hP : sawP rpeer life seq = P) (hG : sawG rpeer rgr life seq = G) (hS : sawS rpeer seen life seq = S) :
    Calls Try.prog 50 #[.pointer (some ⟨r, 0, none⟩), .int .u64 life, .int .u64 seq] wr fun e w' => e = .returned (.int .i64 E) ∧ SR w w' s own peer gr used r places P G S := by
  subst hE hP hG hS
  refine (saw_any _ _ _ _ _ _ life seq h.rcv).mono ?_
  rintro e w' ⟨rfl, h1, he⟩
  exact ⟨rfl, h.rstep h1 he⟩
theorem sr_grant (h : SR w wr s own peer gr used r places rpeer rgr seen) (free : Nat) (hf : free ≤ places) (G : Nat) (hG : grantG rgr seen free = G) :
    Calls Try.prog 51 #[.pointer (some ⟨r, 0, none⟩), .int .i64 free] wr fun e w' => e = .returned (.tuple #[.int .u64 G, .int .i64 0]) ∧ SR w w' s own peer gr used r places rpeer G seen := by
  subst hG
  refine (grant_ok _ _ _ _ _ _ free h.rcv hf).mono ?_
  rintro e w' ⟨rfl, h1, he⟩
  exact ⟨rfl, h.rstep h1 he⟩
theorem sr_grant_arg (h : SR w wr s own peer gr used r places rpeer rgr seen) (free : Int) (hf : free < 0 ∨ (places : Int) < free) :
    Calls Try.prog 51 #[.pointer (some ⟨r, 0, none⟩), .int .i64 free] wr fun e w' => e = .returned (.tuple #[.int .u64 0, .int .i64 1]) ∧ wr = w' := grant_arg _ _ _ _ _ _ free h.rcv hf
end

/-- A new pair. -/
theorem SR.start {w w1 w2 : World} {own places : Nat} {s r : Nat} (hs : w.heap.size = s) (h1 : SenderAt w1 s own 0 0 0) (g1 : Grows w w1) (hr : w1.heap.size = r) (h2 : ReceiverAt w2 r places 0 0 0) (g2 : Grows w1 w2) : SR w w2 s own 0 0 0 r places 0 0 0 := by
  have l1 := h1.lt
  have s1 := g1.size
  exact ⟨h1.ext g2 (fun h => h), h2, by omega, by omega, by omega, g1.trans g2⟩

/-- A sender alone. -/
structure SN (w wr : World) (s own peer gr used : Nat) : Prop where
  snd : SenderAt wr s own peer gr used
  sb : w.heap.size ≤ s
  grows : Grows w wr
section
variable {w wr w' : World} {s own peer gr used : Nat}
theorem SN.sstep {peer' gr' used' : Nat} (h : SN w wr s own peer gr used) (h1 : SenderAt w' s own peer' gr' used') (he : Ext (fun k => k = s) wr w') : SN w w' s own peer' gr' used' :=
  ⟨h1, h.sb, Ext.eq_grows h.grows he h.sb⟩
theorem sn_may (h : SN w wr s own peer gr used) (b : Bool) (hb : decide (used < gr) = b) : Calls Try.prog 43 #[.pointer (some ⟨s, 0, none⟩)] wr fun e w' => e = .returned (.bool b) ∧ wr = w' := hb ▸ may_any _ _ _ _ _ _ h.snd
theorem sn_granted (h : SN w wr s own peer gr used) : Calls Try.prog 58 #[.pointer (some ⟨s, 0, none⟩)] wr fun e w' => e = .returned (.int .u64 gr) ∧ wr = w' := granted_any _ _ _ _ _ _ h.snd
theorem sn_use_no (h : SN w wr s own peer gr used) (hlt : gr ≤ used) : Calls Try.prog 44 #[.pointer (some ⟨s, 0, none⟩)] wr fun e w' => e = .returned (.tuple #[.int .u64 0, .int .i64 26]) ∧ wr = w' := use_no _ _ _ _ _ _ h.snd hlt
theorem sn_use_ok (h : SN w wr s own peer gr used) (hlt : used < gr) (n : Nat) (hn : used + 1 = n) : Calls Try.prog 44 #[.pointer (some ⟨s, 0, none⟩)] wr fun e w' => e = .returned (.tuple #[.int .u64 n, .int .i64 0]) ∧ SN w w' s own peer gr n := by
  subst hn
  refine (use_ok _ _ _ _ _ _ h.snd hlt).mono ?_
  rintro e w' ⟨rfl, h1, he⟩
  exact ⟨rfl, h.sstep h1 he⟩
theorem sn_take (h : SN w wr s own peer gr used) (life to g : Nat) (E : Int) (P G : Nat) (hE : takeE own peer life to g = E) (hP : takeP own peer life to g = P) (hG : takeG own peer gr life to g = G) :
    Calls Try.prog 38 #[.pointer (some ⟨s, 0, none⟩), .int .u64 life, .int .u64 to, .int .u64 g] wr fun e w' => e = .returned (.int .i64 E) ∧ SN w w' s own P G used := by
  subst hE hP hG
  refine (take_any _ _ _ _ _ _ life to g h.snd).mono ?_
  rintro e w' ⟨rfl, h1, he⟩
  exact ⟨rfl, h.sstep h1 he⟩
theorem sn_new (life : Nat) (hs : w.heap.size ≤ s) (hg : Grows w wr) (hr : wr.heap.size = s) (h1 : 1 ≤ life) (h2 : life ≤ Most) :
    Calls Try.prog 35 #[.int .u64 life] wr fun e w' => e = .returned (.tuple #[.pointer (some ⟨s, 0, none⟩), .int .i64 0]) ∧ SN w w' s life 0 0 0 := by
  subst hr
  refine (newSender_ok life wr h1 h2).mono ?_
  rintro e w' ⟨rfl, h, g⟩
  exact ⟨rfl, h, hs, hg.trans g⟩
theorem sr_join {r : Nat} (h : SN w wr s own peer gr used) (hr : wr.heap.size = r) (places : Nat) (h1 : 1 ≤ places) (h2 : places ≤ 64) :
    Calls Try.prog 46 #[.int .i64 places] wr fun e w' => e = .returned (.tuple #[.pointer (some ⟨r, 0, none⟩), .int .i64 0]) ∧ SR w w' s own peer gr used r places 0 0 0 := by
  subst hr
  have l1 := h.snd.lt
  have s1 := h.grows.size
  refine (newReceiver_ok places wr h1 h2).mono ?_
  rintro e w' ⟨rfl, h3, g⟩
  exact ⟨rfl, h.snd.ext g (fun h => h), h3, h.sb, by omega, by omega, h.grows.trans g⟩
end

end Go.Proofs.Ytekdggdnkmkldaa
