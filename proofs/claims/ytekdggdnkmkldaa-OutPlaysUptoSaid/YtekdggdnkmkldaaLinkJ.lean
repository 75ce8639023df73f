/- link: the In: Data, All, an In that is none; Out and In as wholes with what they own. -/
import Derived.Test.YtekdggdnkmkldaaLinkI
namespace Go.Proofs.Ytekdggdnkmkldaa
set_option linter.unusedVariables false
set_option linter.unusedSimpArgs false
set_option maxRecDepth 1500
open Go.RowKit

def dataE (x : InV) (life seq n : Nat) : Int := if (1 ≤ life ∧ life ≤ Most) ∧ seq ≤ Most then (if life < x.peer then 22 else if 70000 < n then 3 else if x.fs.length < x.places then 0 else 7) else 1
def InV.data (x : InV) (life seq : Nat) (xs : List Int) : InV := if dataE x life seq xs.length = 0 then InV.saw { x with fs := x.fs ++ [xs] } life seq else x

section
variable {w0 : Frm} {w w' : World} {i q r : Nat} {S : Nat → Prop} {x : InV}
theorem InC.pushed {fs : List (List Int)} (h : InC w0 w i q r S x) (h1 : QueueAt w' q (grownTo S w w') x.places fs) (e : Ext (fun k => k = q) w w') : InC w0 w' i q r (grownTo S w w') { x with fs := fs } := by
  obtain ⟨ty, hb⟩ := h.blk
  have hs := e.size
  have hi := (h.lo i (.inr (.inl rfl))).2
  have hr := (h.lo r (.inr (.inr rfl))).2
  have hz := h.gw.size
  exact ⟨⟨ty, (e.block i (heap_lt hb) (fun hh => h.ni (hh ▸ h.sq))).trans hb⟩, h1, h.rc.ext e (fun hh => h.nr (hh ▸ h.sq)),
    fun hh => hh.elim h.ni (fun g => by omega), fun hh => hh.elim h.nr (fun g => by omega), h.ir,
    fun k hk => by
      rcases hk with hk | hk
      · rcases hk with hk | hk
        · exact ⟨(h.lo k (.inl hk)).1, Nat.lt_of_lt_of_le (h.lo k (.inl hk)).2 hs⟩
        · exact ⟨.inl (by omega), hk.2⟩
      · exact ⟨(h.lo k (.inr hk)).1, Nat.lt_of_lt_of_le (h.lo k (.inr hk)).2 hs⟩,
    Frm.step h.gw e (fun k hh => hh ▸ (h.lo q (.inl h.sq)).1)⟩
theorem InC.full (h : InC w0 w i q r S x) : x.fs.length ≤ x.places ∧ 1 ≤ x.places ∧ x.places ≤ 64 := by
  obtain ⟨cur, ty, first, hc, hq, h1, h2, h3, _⟩ := h.qu
  exact ⟨h3, h1, h2⟩
set_option maxHeartbeats 1000000 in
theorem in_data_arg (h : InC w0 w i q r S x) (life seq : Nat) (v : Value) (hb : ¬ (1 ≤ life ∧ life ≤ Most) ∨ ¬ seq ≤ Most) : Calls Try.prog 15 #[.pointer (some ⟨i, 0, none⟩), .int .u64 life, .int .u64 seq, v] w fun e w' => e = .returned (.int .i64 1) ∧ w = w' := by
  have HN := Lib.hid (in_none h)
  have hb' : life < 1 ∨ (¬ life < 1 ∧ Most < life) ∨ (¬ life < 1 ∧ ¬ Most < life ∧ Most < seq) := by omega
  clear h hb
  unfold Most at hb'
  rcases hb' with h1 | ⟨h1, h2⟩ | ⟨h1, h2, h3⟩
  · have i1 : ((life : Int) < 1) = True := eq_true (by omega)
    clear h1
    go_enter Try.func15, Try.ntmps15
    go_wp2_with fail
    refine HN.out.mono ?_
    rintro e w' ⟨rfl, rfl⟩
    go_wp2
    go_ret
    exact ⟨rfl, rfl⟩
  · have i1 : ((life : Int) < 1) = False := eq_false (by omega)
    have i2 : ((1125899906842624 : Int) < (life : Int)) = True := eq_true (by omega)
    clear h1 h2
    go_enter Try.func15, Try.ntmps15
    go_wp2_with fail
    refine HN.out.mono ?_
    rintro e w' ⟨rfl, rfl⟩
    go_wp2
    go_ret
    exact ⟨rfl, rfl⟩
  · have i1 : ((life : Int) < 1) = False := eq_false (by omega)
    have i2 : ((1125899906842624 : Int) < (life : Int)) = False := eq_false (by omega)
    have i3 : ((1125899906842624 : Int) < (seq : Int)) = True := eq_true (by omega)
    clear h1 h2 h3
    go_enter Try.func15, Try.ntmps15
    go_wp2_with fail
    refine HN.out.mono ?_
    rintro e w' ⟨rfl, rfl⟩
    go_wp2
    go_ret
    exact ⟨rfl, rfl⟩
set_option maxHeartbeats 1000000 in
theorem in_data_old (h : InC w0 w i q r S x) (life seq : Nat) (v : Value) (h1 : 1 ≤ life) (h2 : life ≤ Most) (h3 : seq ≤ Most) (hlt : life < x.peer) : Calls Try.prog 15 #[.pointer (some ⟨i, 0, none⟩), .int .u64 life, .int .u64 seq, v] w fun e w' => e = .returned (.int .i64 22) ∧ w = w' := by
  have HN := Lib.hid (in_none h)
  have HL := Lib.hid (life_any w r _ _ _ _ h.rc)
  have c0 := h.cells.1
  have c1 := h.cells.2
  have i1 : ((life : Int) < 1) = False := eq_false (by omega)
  have i2 : ((1125899906842624 : Int) < (life : Int)) = False := eq_false (by unfold Most at h2; omega)
  have i3 : ((1125899906842624 : Int) < (seq : Int)) = False := eq_false (by unfold Most at h3; omega)
  have i4 : ((life : Int) < (x.peer : Int)) = True := eq_true (by omega)
  clear h h1 h2 h3 hlt
  go_enter Try.func15, Try.ntmps15
  go_wp2_with fail
  refine HN.out.mono ?_
  rintro e w' ⟨rfl, rfl⟩
  go_wp2_with fail
  refine HL.out.mono ?_
  rintro e w' ⟨rfl, rfl⟩
  go_wp2
  go_ret
  exact ⟨rfl, rfl⟩
set_option maxHeartbeats 1000000 in
theorem in_data_go (h : InC w0 w i q r S x) (life seq : Nat) (v : Value) (xs : List Int) (hb : Bytes w v xs) (h1 : 1 ≤ life) (h2 : life ≤ Most) (h3 : seq ≤ Most) (hlt : ¬ life < x.peer) (E : Int) (hE : (if 70000 < xs.length then 3 else if x.fs.length < x.places then 0 else 7 : Int) = E) :
    Calls Try.prog 15 #[.pointer (some ⟨i, 0, none⟩), .int .u64 life, .int .u64 seq, v] w fun e w' => e = .returned (.int .i64 E) ∧ InAt w0 w' i (if E = 0 then InV.saw { x with fs := x.fs ++ [xs] } life seq else x) := by
  have HN := Lib.hid (in_none h)
  have HL := Lib.hid (life_any w r _ _ _ _ h.rc)
  have c0 := h.cells.1
  have c1 := h.cells.2
  have i1 : ((life : Int) < 1) = False := eq_false (by omega)
  have i2 : ((1125899906842624 : Int) < (life : Int)) = False := eq_false (by unfold Most at h2; omega)
  have i3 : ((1125899906842624 : Int) < (seq : Int)) = False := eq_false (by unfold Most at h3; omega)
  have i4 : ((life : Int) < (x.peer : Int)) = False := eq_false (by omega)
  have HP := Lib.hid (push_any q _ _ _ v xs w h.qu hb)
  have hs : sawE x.peer life seq = 0 := by unfold sawE; rw [if_pos ⟨⟨h1, h2⟩, h3⟩, if_neg hlt]
  have HH := Lib.hid (And.intro h (And.intro hE hs))
  clear h h1 h2 h3 hlt hb hE hs
  go_enter Try.func15, Try.ntmps15
  go_wp2_with fail
  refine HN.out.mono ?_
  rintro e w' ⟨rfl, rfl⟩
  go_wp2_with fail
  refine HL.out.mono ?_
  rintro e w' ⟨rfl, rfl⟩
  go_wp2_with fail
  refine HP.out.mono ?_
  rintro e w' (⟨hl, rfl, g⟩ | ⟨hl, hf, rfl, g⟩ | ⟨hl, hf, rfl, hq, e1⟩)
  · have hE3 : E = 3 := by rw [← HH.out.2.1, if_pos hl]
    subst hE3
    have HR := Lib.hid (HH.out.1.more g)
    clear hl g c0 c1
    go_wp2
    go_ret
    exact ⟨rfl, q, r, S, HR.out⟩
  · have hE3 : E = 7 := by rw [← HH.out.2.1, if_neg (by omega), if_neg (by omega)]
    subst hE3
    have HR := Lib.hid (HH.out.1.more g)
    clear hl hf g c0 c1
    go_wp2
    go_ret
    exact ⟨rfl, q, r, S, HR.out⟩
  · have hE3 : E = 0 := by rw [← HH.out.2.1, if_neg (by omega), if_pos hf]
    subst hE3
    have HR := Lib.hid (HH.out.1.pushed hq e1)
    have c1' := HR.out.cells.2
    clear hl hf hq e1 c0 c1
    go_wp2_with fail
    refine (saw_any w' r _ _ _ _ life seq HR.out.rc).mono ?_
    rintro e w2 ⟨rfl, h1, e1⟩
    have HX := Lib.hid (HR.out.receiver h1 e1)
    rw [HH.out.2.2]
    clear h1 e1 c1'
    go_wp2
    go_ret
    exact ⟨rfl, q, r, _, HX.out⟩
theorem in_data (h : InAt w0 w i x) (life seq : Nat) (v : Value) (xs : List Int) (hb : Bytes w v xs) (E : Int) (hE : dataE x life seq xs.length = E) :
    Calls Try.prog 15 #[.pointer (some ⟨i, 0, none⟩), .int .u64 life, .int .u64 seq, v] w fun e w' => e = .returned (.int .i64 E) ∧ InAt w0 w' i (x.data life seq xs) := by
  obtain ⟨q, r, S, h⟩ := h
  subst hE
  unfold InV.data
  by_cases h1 : (1 ≤ life ∧ life ≤ Most) ∧ seq ≤ Most
  · by_cases h2 : life < x.peer
    · have hE : dataE x life seq xs.length = 22 := by unfold dataE; rw [if_pos h1, if_pos h2]
      rw [hE]
      refine (in_data_old h life seq v h1.1.1 h1.1.2 h1.2 h2).mono ?_
      rintro e w' ⟨rfl, rfl⟩
      exact ⟨rfl, q, r, S, h⟩
    · refine (in_data_go h life seq v xs hb h1.1.1 h1.1.2 h1.2 h2 (dataE x life seq xs.length) (by unfold dataE; rw [if_pos h1, if_neg h2])).mono ?_
      rintro e w' ⟨rfl, h3⟩
      exact ⟨rfl, h3⟩
  · have hE : dataE x life seq xs.length = 1 := by unfold dataE; rw [if_neg h1]
    rw [hE]
    refine (in_data_arg h life seq v (by omega)).mono ?_
    rintro e w' ⟨rfl, rfl⟩
    exact ⟨rfl, q, r, S, h⟩
theorem in_all (h : InC w0 w i q r S x) : Calls Try.prog 24 #[.pointer (some ⟨i, 0, none⟩)] w fun e w' => AllOut x.fs w e w' := by
  have HN := Lib.hid (in_none h)
  have HL := Lib.hid (all_any q _ _ _ w h.qu)
  have c0 := h.cells.1
  clear h
  go_enter Try.func24, Try.ntmps24
  go_wp2_with fail
  refine HN.out.mono ?_
  rintro e w' ⟨rfl, rfl⟩
  go_wp2_with fail
  refine HL.out.mono ?_
  rintro e w' ⟨v, vs, rfl, ho, hf, ha, hg⟩
  obtain ⟨va, vc, rfl⟩ : ∃ a c, v = .slice a x.fs.length c := by
    rcases ho.2 with ⟨h1, h2⟩ | ⟨g, cap, cur, h1, _⟩
    · exact ⟨none, 0, by rw [h1, h2]⟩
    · exact ⟨_, _, h1⟩
  have HR := Lib.hid (And.intro ho (And.intro hf (And.intro ha hg)))
  clear ho hf ha hg c0
  go_wp2
  go_ret
  exact ⟨_, vs, rfl, HR.out.1, HR.out.2.1, HR.out.2.2.1, HR.out.2.2.2⟩
theorem in_new_no (p : Int) (w : World) (h : p < 1 ∨ 64 < p) : Calls Try.prog 14 #[.int .i64 p] w fun e w' => e = .returned (.tuple #[.pointer none, .int .i64 1]) ∧ w = w' := by
  have HN := Lib.hid (new_no p w h)
  clear h
  go_enter Try.func14, Try.ntmps14
  go_wp2_with fail
  refine HN.out.mono ?_
  rintro e w' ⟨rfl, rfl⟩
  go_wp2
  go_ret2
  exact ⟨rfl, rfl⟩
end
theorem idata_nil (a b : Int) (v : Value) (w : World) : Calls Try.prog 15 #[.pointer none, .int .u64 a, .int .u64 b, v] w fun e w' => e = .returned (.int .i64 2) ∧ w = w' := by
  go_enter Try.func15, Try.ntmps15
  go_wp2_with fail
  refine (inone_nil _).mono ?_
  rintro e w' ⟨rfl, rfl⟩
  go_wp2
  go_ret
  exact ⟨rfl, rfl⟩
theorem iprobe_nil (a b : Int) (w : World) : Calls Try.prog 16 #[.pointer none, .int .u64 a, .int .u64 b] w fun e w' => e = .returned (.int .i64 2) ∧ w = w' := by
  go_enter Try.func16, Try.ntmps16
  go_wp2_with fail
  refine (inone_nil _).mono ?_
  rintro e w' ⟨rfl, rfl⟩
  go_wp2
  go_ret
  exact ⟨rfl, rfl⟩
theorem ipop_nil (w : World) : Calls Try.prog 18 #[.pointer none] w fun e w' => e = .returned (.tuple #[.slice none 0 0, .bool false]) ∧ w = w' := by
  go_enter Try.func18, Try.ntmps18
  go_wp2_with fail
  refine (inone_nil _).mono ?_
  rintro e w' ⟨rfl, rfl⟩
  go_wp2
  go_ret2
  exact ⟨rfl, rfl⟩
theorem igrant_nil (w : World) : Calls Try.prog 17 #[.pointer none] w fun e w' => e = .returned (.tuple #[.int .u64 0, .int .i64 2]) ∧ w = w' := by
  go_enter Try.func17, Try.ntmps17
  go_wp2_with fail
  refine (inone_nil _).mono ?_
  rintro e w' ⟨rfl, rfl⟩
  go_wp2
  go_ret2
  exact ⟨rfl, rfl⟩
theorem ilen_nil (w : World) : Calls Try.prog 23 #[.pointer none] w fun e w' => e = .returned (.int .i64 0) ∧ w = w' := by
  go_enter Try.func23, Try.ntmps23
  go_wp2_with fail
  refine (inone_nil _).mono ?_
  rintro e w' ⟨rfl, rfl⟩
  go_wp2
  go_ret
  exact ⟨rfl, rfl⟩
theorem iall_nil (w : World) : Calls Try.prog 24 #[.pointer none] w fun e w' => e = .returned (.slice none 0 0) ∧ w = w' := by
  go_enter Try.func24, Try.ntmps24
  go_wp2_with fail
  refine (inone_nil _).mono ?_
  rintro e w' ⟨rfl, rfl⟩
  go_wp2
  go_ret
  exact ⟨rfl, rfl⟩
theorem ilife_nil (w : World) : Calls Try.prog 25 #[.pointer none] w fun e w' => e = .returned (.int .u64 0) ∧ w = w' := by
  go_enter Try.func25, Try.ntmps25
  go_wp2_with fail
  refine (inone_nil _).mono ?_
  rintro e w' ⟨rfl, rfl⟩
  go_wp2
  go_ret
  exact ⟨rfl, rfl⟩

/-- An In with what it owns. -/
theorem InAt.base {z : Frm} {w : World} {i : Nat} {x : InV} (h : InAt z w i x) : ∃ F : Nat → Prop, InAt ⟨w, F⟩ w i x ∧ (∀ k, F k → z.ok k ∧ k < w.heap.size) ∧ Ext z.F z.wd w := by
  obtain ⟨q, r, S, h⟩ := h
  exact ⟨fun k => S k ∨ k = i ∨ k = r, ⟨q, r, S, ⟨h.blk, h.qu, h.rc, h.ni, h.nr, h.ir, fun k hk => ⟨.inr hk, (h.lo k hk).2⟩, Ext.refl _ _⟩⟩, fun k hk => h.lo k hk, h.gw⟩
theorem InAt.kept {w w' : World} {i : Nat} {x : InV} {F T : Nat → Prop} (h : InAt ⟨w, F⟩ w i x) (e : Ext T w w') (hT : ∀ k, F k → ¬ T k) : InAt ⟨w', F⟩ w' i x := by
  obtain ⟨q, r, S, h⟩ := h
  have hf : ∀ k, S k ∨ k = i ∨ k = r → F k := fun k hk => by
    have h1 := h.lo k hk
    rcases h1.1 with h2 | h2
    · exact absurd h1.2 (Nat.not_lt.2 h2)
    · exact h2
  obtain ⟨ty, hb⟩ := h.blk
  exact ⟨q, r, S, ⟨⟨ty, (e.block i (heap_lt hb) (hT i (hf i (.inr (.inl rfl))))).trans hb⟩, h.qu.keeps e (fun k hk => hT k (hf k (.inl hk))), h.rc.ext e (hT r (hf r (.inr (.inr rfl)))), h.ni, h.nr, h.ir, fun k hk => ⟨.inr (hf k hk), Nat.lt_of_lt_of_le (h.lo k hk).2 e.size⟩, Ext.refl _ _⟩⟩
theorem OutAt.base {z : Frm} {w : World} {o n : Nat} {x : OutV} (h : OutAt z w o n x) : ∃ F : Nat → Prop, OutAt ⟨w, F⟩ w o n x ∧ (∀ k, F k → z.ok k ∧ k < w.heap.size) ∧ Ext z.F z.wd w := by
  obtain ⟨s, bm, vt, ts, c, h⟩ := h
  exact ⟨fun k => c k ≠ 0, ⟨s, bm, vt, ts, c, ⟨h.blk, h.co, h.snd, h.cs, h.mq, h.cm, h.row, h.ct, h.tl, h.told, fun k hk => ⟨.inr hk, (h.lo k hk).2⟩, h.few, Ext.refl _ _⟩⟩, fun k hk => h.lo k hk, h.gw⟩
theorem OutAt.kept {w w' : World} {o n : Nat} {x : OutV} {F T : Nat → Prop} (h : OutAt ⟨w, F⟩ w o n x) (e : Ext T w w') (hT : ∀ k, F k → ¬ T k) : OutAt ⟨w', F⟩ w' o n x := by
  obtain ⟨s, bm, vt, ts, c, h⟩ := h
  have hf : ∀ k, c k ≠ 0 → F k := fun k hk => by
    have h1 := h.lo k hk
    rcases h1.1 with h2 | h2
    · exact absurd h1.2 (Nat.not_lt.2 h2)
    · exact h2
  have hn : ∀ k d, c k = d → d ≠ 0 → ¬ T k := fun k d hk hd => hT k (hf k (by omega))
  obtain ⟨ty, hb⟩ := h.blk
  exact ⟨s, bm, vt, ts, c, ⟨⟨ty, (e.block o (heap_lt hb) (hn o 1 h.co (by omega))).trans hb⟩, h.co, h.snd.ext e (hn s 2 h.cs (by omega)), h.cs, h.mq.ext e (hn bm 3 h.cm (by omega)), h.cm, h.row.ext e (fun k hk => hn k 4 (h.ct k hk) (by omega)), h.ct, h.tl,
    fun i t v h1 h2 => (h.told i t v h1 h2).ext e (fun k hk => hn k (5 + i) hk (by omega)), fun k hk => ⟨.inr (hf k hk), Nat.lt_of_lt_of_le (h.lo k hk).2 e.size⟩, h.few, Ext.refl _ _⟩⟩
end Go.Proofs.Ytekdggdnkmkldaa
