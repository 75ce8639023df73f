/- Two queues and two lists of frames that stand apart. -/
import Derived.Test.YtekegbadkafjlaaQueueE
import Derived.Test.YtekegbadkafjlaaQueueArgs
import Derived.Test.YtekegbadkafjlaaFrames2
namespace Go.Proofs.Ytekegbadkafjlaa
set_option linter.unusedVariables false
set_option linter.unusedSimpArgs false
open Go.RowKit

/-- Blocks that a call made, by colours: the first queue's 1, the second one's 2, the lists' 3 and 4. -/
def Two (w wr : World) (p q n m : Nat) (xp xq xs ys : List (List Int)) (vx vy : Value) : Prop :=
  ∃ (c : Nat → Nat) (Sp Sq : Nat → Prop), QueueAt wr p Sp n xp ∧ QueueAt wr q Sq m xq ∧ (∀ k, Sp k → c k = 1 ∧ w.heap.size ≤ k ∧ k < wr.heap.size) ∧ (∀ k, Sq k → c k = 2 ∧ w.heap.size ≤ k ∧ k < wr.heap.size) ∧
    OwnF wr vx (fun k => k < w.heap.size) xs ∧ OwnF wr vy (fun k => k < w.heap.size) ys ∧ (∀ k, vx.ownBlock = some k → c k = 3) ∧ (∀ k, vy.ownBlock = some k → c k = 4) ∧ Grows w wr

section
variable {w wr w' : World} {p q n m : Nat} {xp xq xs ys : List (List Int)} {vx vy : Value}

theorem QueueAt.self {w : World} {q : Nat} {S : Nat → Prop} {places : Nat} {fs : List (List Int)} (h : QueueAt w q S places fs) : S q := by
  obtain ⟨_, _, _, _, h, _⟩ := h
  exact h
theorem QueueAt.few {w : World} {q : Nat} {S : Nat → Prop} {places : Nat} {fs : List (List Int)} (h : QueueAt w q S places fs) : fs.length ≤ places ∧ places ≤ 64 := by
  obtain ⟨_, _, _, _, _, _, h1, h2, _⟩ := h
  exact ⟨h2, h1⟩

theorem Two.swap (h : Two w wr p q n m xp xq xs ys vx vy) : Two w wr q p m n xq xp ys xs vy vx := by
  obtain ⟨c, Sp, Sq, h1, h2, h3, h4, h5, h6, h7, h8, h9⟩ := h
  refine ⟨fun k => if c k = 1 then 2 else if c k = 2 then 1 else if c k = 3 then 4 else 3, Sq, Sp, h2, h1, fun k hk => ?_, fun k hk => ?_, h6, h5, fun k hk => ?_, fun k hk => ?_, h9⟩
  · have := h4 k hk; simp [this]
  · have := h3 k hk; simp [this]
  · have := h8 k hk; simp [this]
  · have := h7 k hk; simp [this]
theorem Two.grows (h : Two w wr p q n m xp xq xs ys vx vy) : Grows w wr := by
  obtain ⟨_, _, _, _, _, _, _, _, _, _, _, h9⟩ := h
  exact h9
theorem Two.fewp (h : Two w wr p q n m xp xq xs ys vx vy) : xp.length ≤ n ∧ n ≤ 64 := by
  obtain ⟨c, Sp, Sq, h1, _⟩ := h
  exact h1.few
theorem Two.more (h : Two w wr p q n m xp xq xs ys vx vy) (g : Grows wr w') : Two w w' p q n m xp xq xs ys vx vy := by
  obtain ⟨c, Sp, Sq, h1, h2, h3, h4, h5, h6, h7, h8, h9⟩ := h
  exact ⟨c, Sp, Sq, h1.grows g, h2.grows g, fun k hk => by have := h3 k hk; have := g.size; omega, fun k hk => by have := h4 k hk; have := g.size; omega, h5.grows g, h6.grows g, h7, h8, h9.trans g⟩

/-- A step on the first queue alone. -/
theorem Two.pstep {xp' : List (List Int)} (h : Two w wr p q n m xp xq xs ys vx vy) (hs : ∀ Sp : Nat → Prop, QueueAt wr p Sp n xp → ∃ Sp', QueueAt w' p Sp' n xp' ∧ ∀ k, Sp' k → Sp k ∨ (wr.heap.size ≤ k ∧ k < w'.heap.size)) (he : Ext (fun k => k = p) wr w') :
    Two w w' p q n m xp' xq xs ys vx vy := by
  obtain ⟨c, Sp, Sq, h1, h2, h3, h4, h5, h6, h7, h8, h9⟩ := h
  obtain ⟨Sp', h1', hsub⟩ := hs Sp h1
  have hp := h3 p h1.self
  have hsz := he.size
  have hsz0 := h9.size
  refine ⟨fun k => if k < wr.heap.size then c k else 1, Sp', Sq, h1', h2.keeps he (fun k hk e => by have := h4 k hk; subst e; omega), fun k hk => ?_, fun k hk => ?_, ?_, ?_, fun k hk => ?_, fun k hk => ?_, Ext.eq_lift h9 he hp.2.1⟩
  · rcases hsub k hk with h | h
    · have := h3 k h; simp only [if_pos this.2.2]; omega
    · exact ⟨if_neg (by omega), by omega, by omega⟩
  · have := h4 k hk; simp only [if_pos this.2.2]; omega
  · exact h5.keeps he (fun k hk => ⟨fun e => by have := h7 k hk; subst e; omega, h5.out k hk⟩) (fun k hk e => by omega) (fun k hk => hk)
  · exact h6.keeps he (fun k hk => ⟨fun e => by have := h8 k hk; subst e; omega, h6.out k hk⟩) (fun k hk e => by omega) (fun k hk => hk)
  · have := h5.lt k hk; simp only [if_pos this]; exact h7 k hk
  · have := h6.lt k hk; simp only [if_pos this]; exact h8 k hk

theorem two_push (h : Two w wr p q n m xp xq xs ys vx vy) {v : Value} {f : List Int} (hb : Bytes w v f) (hf : f.length ≤ 70000) :
    Calls Try.prog 22 #[.pointer (some ⟨p, 0, none⟩), v] wr fun e w' =>
      (xp.length = n ∧ e = .returned (.int .i64 7) ∧ Two w w' p q n m xp xq xs ys vx vy) ∨ (xp.length < n ∧ e = .returned (.int .i64 0) ∧ Two w w' p q n m (xp ++ [f]) xq xs ys vx vy) := by
  have h' := h
  obtain ⟨c, Sp, Sq, h1, _⟩ := h'
  by_cases hfull : xp.length = n
  · refine (push_no p n Sp xp v f wr h1 (hb.grows h.grows) hf hfull).mono ?_
    rintro e w' ⟨rfl, hg⟩
    exact .inl ⟨hfull, rfl, h.more hg⟩
  · have hlt : xp.length < n := by have := h1.few; omega
    have key : ∀ Sp', QueueAt wr p Sp' n xp → Calls Try.prog 22 #[.pointer (some ⟨p, 0, none⟩), v] wr fun e w' => e = .returned (.int .i64 0) ∧ QueueAt w' p (grownTo Sp' wr w') n (xp ++ [f]) ∧ Ext (fun k => k = p) wr w' :=
      fun Sp' h1' => push_ok p n Sp' xp v f wr h1' (hb.grows h.grows) hf hlt
    obtain ⟨c, Sp, Sq, h1, h2, h3, h4, h5, h6, h7, h8, h9⟩ := h
    refine (key Sp h1).mono ?_
    rintro e w' ⟨rfl, hq, he⟩
    refine .inr ⟨hlt, rfl, ?_⟩
    have hp := h3 p h1.self
    have hsz := he.size
    have hsz0 := h9.size
    refine ⟨fun k => if k < wr.heap.size then c k else 1, grownTo Sp wr w', Sq, hq, h2.keeps he (fun k hk e => by have := h4 k hk; subst e; omega), fun k hk => ?_, fun k hk => ?_, ?_, ?_, fun k hk => ?_, fun k hk => ?_, Ext.eq_lift h9 he hp.2.1⟩
    · rcases hk with h | h
      · have := h3 k h; simp only [if_pos this.2.2]; omega
      · exact ⟨if_neg (by omega), by omega, by omega⟩
    · have := h4 k hk; simp only [if_pos this.2.2]; omega
    · exact h5.keeps he (fun k hk => ⟨fun e => by have := h7 k hk; subst e; omega, h5.out k hk⟩) (fun k hk e => by omega) (fun k hk => hk)
    · exact h6.keeps he (fun k hk => ⟨fun e => by have := h8 k hk; subst e; omega, h6.out k hk⟩) (fun k hk e => by omega) (fun k hk => hk)
    · have := h5.lt k hk; simp only [if_pos this]; exact h7 k hk
    · have := h6.lt k hk; simp only [if_pos this]; exact h8 k hk

theorem two_clear (h : Two w wr p q n m xp xq xs ys vx vy) :
    Calls Try.prog 27 #[.pointer (some ⟨p, 0, none⟩)] wr fun e w' => e = .returned (.tuple #[]) ∧ Two w w' p q n m [] xq xs ys vx vy := by
  obtain ⟨c, Sp, Sq, h1, h2, h3, h4, h5, h6, h7, h8, h9⟩ := h
  refine (clear_any p n Sp xp wr h1).mono ?_
  rintro e w' ⟨rfl, hq, he⟩
  have hp := h3 p h1.self
  have hsz := he.size
  exact ⟨rfl, c, Sp, Sq, hq, h2.keeps he (fun k hk e => by have := h4 k hk; subst e; omega), fun k hk => by have := h3 k hk; omega, fun k hk => by have := h4 k hk; omega,
    h5.keeps he (fun k hk => ⟨fun e => by have := h7 k hk; subst e; omega, h5.out k hk⟩) (fun k hk e => by have := h9.size; omega) (fun k hk => hk),
    h6.keeps he (fun k hk => ⟨fun e => by have := h8 k hk; subst e; omega, h6.out k hk⟩) (fun k hk e => by have := h9.size; omega) (fun k hk => hk), h7, h8, Ext.eq_lift h9 he hp.2.1⟩

theorem two_pop {f : List Int} {rest : List (List Int)} (h : Two w wr p q n m xp xq xs ys vx vy) (hx : xp = f :: rest) :
    Calls Try.prog 23 #[.pointer (some ⟨p, 0, none⟩)] wr fun e w' => ∃ b, e = .returned (.tuple #[.slice (some ⟨b, 0, none⟩) f.length f.length, .bool true]) ∧
      Bytes w' (.slice (some ⟨b, 0, none⟩) f.length f.length) f ∧ Two w w' p q n m rest xq xs ys vx vy := by
  subst hx
  obtain ⟨c, Sp, Sq, h1, h2, h3, h4, h5, h6, h7, h8, h9⟩ := h
  refine (pop_ok p n Sp f rest wr h1).mono ?_
  rintro e w' ⟨b, hb, rfl, hB, hq, he⟩
  have hp := h3 p h1.self
  have hsz := he.size
  exact ⟨b, rfl, hB, c, Sp, Sq, hq, h2.keeps he (fun k hk e => by have := h4 k hk; subst e; omega), fun k hk => by have := h3 k hk; omega, fun k hk => by have := h4 k hk; omega,
    h5.keeps he (fun k hk => ⟨fun e => by have := h7 k hk; subst e; omega, h5.out k hk⟩) (fun k hk e => by have := h9.size; omega) (fun k hk => hk),
    h6.keeps he (fun k hk => ⟨fun e => by have := h8 k hk; subst e; omega, h6.out k hk⟩) (fun k hk e => by have := h9.size; omega) (fun k hk => hk), h7, h8, Ext.eq_lift h9 he hp.2.1⟩

theorem two_all (h : Two w wr p q n m xp xq xs ys vx vy) :
    Calls Try.prog 28 #[.pointer (some ⟨p, 0, none⟩)] wr fun e w' => ∃ a l c, e = .returned (.slice a l c) ∧ Fr w' (.slice a l c) xp ∧ Two w w' p q n m xp xq xs ys vx vy := by
  have h' := h
  obtain ⟨c, Sp, Sq, h1, h2, h3, h4, h5, h6, h7, h8, h9⟩ := h'
  have hxp : ∀ (i : Nat) (f : List Int), xp[i]? = some f → (∀ x ∈ f, 0 ≤ x ∧ x < 256) ∧ f.length ≤ 140737488351232 := by
    intro i f hf
    obtain ⟨cur, ty, first, _, _, _, _, _, h10⟩ := h1
    obtain ⟨v, _, _, _, _, hb, _⟩ := h10 i f hf
    exact hb.2
  refine (all_any p n Sp xp wr h1).mono ?_
  rintro e w' ⟨v, vs, rfl, hown, ⟨hl, hfr⟩, _, hg⟩
  obtain ⟨a, cap, rfl⟩ := (OwnS.of_owns hown).form
  refine ⟨a, _, cap, rfl, ⟨vs, hl, row_of_owns hown, fun i f hf => ?_⟩, h.more hg⟩
  obtain ⟨b, hb, _, hh⟩ := hfr i f hf
  exact ⟨_, hb, Bytes.of_heap hh rfl (Nat.le_refl _) (by have := (hxp i f hf).2; unfold maxLen; omega) (hxp i f hf).1 (hxp i f hf).2⟩

theorem two_free (h : Two w wr p q n m xp xq xs ys vx vy) :
    Calls Try.prog 25 #[.pointer (some ⟨p, 0, none⟩)] wr fun e w' => e = .returned (.int .i64 ((n : Int) - (xp.length : Int))) ∧ Two w w' p q n m xp xq xs ys vx vy := by
  have h' := h
  obtain ⟨c, Sp, Sq, h1, _⟩ := h'
  refine (qfree_any p n Sp xp wr h1).mono ?_
  rintro e w' ⟨rfl, hg⟩
  exact ⟨rfl, h.more hg⟩
theorem two_same (h : Two w wr p q n m xp xq xs ys vx vy) {a : Value} (ha : Fr wr a xp) (hx : xp = xs) :
    Calls Try.prog 33 #[a, vx] wr fun e w' => e = .returned (.bool true) ∧ Two w w' p q n m xp xq xs ys vx vy := by
  have h' := h
  obtain ⟨c, Sp, Sq, h1, h2, h3, h4, h5, _⟩ := h'
  have hl := h1.few
  refine (same_any a vx xp xs wr ha h5.fr (by omega) (by subst hx; omega)).mono ?_
  rintro e w' ⟨rfl, hg⟩
  exact ⟨ret_bool (by simp [hx]), h.more hg⟩

/-- Behind 'x = append(x, c)', c a frame of the arguments. -/
theorem Two.xapp {u : Value} {f : List Int} {w2 : World} {vs : List Value} {vx' : Value} (h : Two w wr p q n m xp xq xs ys vx vy)
    (hu : Bytes w u f) (hul : ∀ k, u.ownBlock = some k → f ≠ [] → k < w.heap.size)
    (hvs : ∀ (i : Nat) (g : List Int), xs[i]? = some g → ∃ u, vs[i]? = some u ∧ Bytes wr u g ∧ ∀ k, u.ownBlock = some k → g ≠ [] → k < w.heap.size) (hvl : vs.length = xs.length)
    (hown : OwnS w2 22 1 vx' (xs.length + 1) (vs ++ [u])) (hgr : (wr.alloc (.cells #[u] 22)).grownBy w2 vx.ownBlock) (hblk : vx'.ownBlock = vx.ownBlock ∨ vx'.ownBlock = some (wr.heap.size + 1)) :
    Two w w2 p q n m xp xq (xs ++ [f]) ys vx' vy := by
  obtain ⟨c, Sp, Sq, h1, h2, h3, h4, h5, h6, h7, h8, h9⟩ := h
  have e1 : Ext (fun k => vx.ownBlock = some k) wr w2 := (Ext.alloc (Ext.refl _ _) _).trans (Ext.of_grown hgr (fun k hk => hk))
  have hsz := hgr.size
  simp only [World.size_alloc] at hsz
  have hsz0 := h9.size
  have hne : ∀ k, vx.ownBlock = some k → ¬ k < w.heap.size := fun k hk => h5.out k hk
  refine ⟨fun k => if k < wr.heap.size then c k else 3, Sp, Sq, h1.keeps e1 (fun k hk e => by have := h3 k hk; have := h7 k e; omega), h2.keeps e1 (fun k hk e => by have := h4 k hk; have := h7 k e; omega), fun k hk => ?_, fun k hk => ?_, ?_, ?_, fun k hk => ?_, fun k hk => ?_, ?_⟩
  · have := h3 k hk; simp only [if_pos this.2.2]; omega
  · have := h4 k hk; simp only [if_pos this.2.2]; omega
  · refine OwnF.snoc (F := fun k => k < w.heap.size) (vs := vs) (v := vx) (fun i g hg => ?_) hvl hne (fun k hk => hk) (fun k hk => by simp; omega) ((hu.grows h9).grows (Ext.alloc (Ext.refl _ _) _)) hul hown hgr (by simpa using hblk)
    obtain ⟨x, hx, hb, hk⟩ := hvs i g hg
    exact ⟨x, hx, hb.grows (Ext.alloc (Ext.refl _ _) _), hk⟩
  · exact h6.keeps e1 (fun k hk => ⟨fun e => by have := h8 k hk; have := h7 k e; omega, h6.out k hk⟩) (fun k hk e => hne k e hk) (fun k hk => hk)
  · rcases hblk with h | h
    · rw [h] at hk
      have := h5.lt k hk; simp only [if_pos this]; exact h7 k hk
    · rw [h] at hk
      simp only [Option.some.injEq] at hk
      subst hk
      exact if_neg (by omega)
  · have := h6.lt k hk; simp only [if_pos this]; exact h8 k hk
  · exact (h9.lift.trans e1).mono (fun k hk hh => hne k hh hk)
theorem Two.xnil (h : Two w wr p q n m xp xq xs ys vx vy) : Two w wr p q n m xp xq [] ys (.slice none 0 0) vy := by
  obtain ⟨c, Sp, Sq, h1, h2, h3, h4, h5, h6, h7, h8, h9⟩ := h
  exact ⟨c, Sp, Sq, h1, h2, h3, h4, OwnF.nil _ _, h6, fun k hk => by simp [Value.ownBlock] at hk, h8, h9⟩
theorem Two.xtail {g off cap l : Nat} {f : List Int} {a : Option Addr} (h : Two w wr p q n m xp xq (f :: xs) ys (.slice (some ⟨g, off, none⟩) l cap) vy) (hl : l = xs.length + 1) (ha : 1 < cap → a = some ⟨g, off + 1, none⟩) (ha1 : cap = 1 → a = some ⟨g, off, none⟩) :
    Two w wr p q n m xp xq xs ys (.slice a (l - 1) (cap - 1)) vy := by
  obtain ⟨c, Sp, Sq, h1, h2, h3, h4, h5, h6, h7, h8, h9⟩ := h
  refine ⟨c, Sp, Sq, h1, h2, h3, h4, h5.tail hl ha ha1, h6, fun k hk => ?_, h8, h9⟩
  have hcap : 1 ≤ cap := by
    obtain ⟨vs, h10, _⟩ := h5
    rcases h10.2 with ⟨h0, _⟩ | ⟨_, _, _, _, h0, _, hnc, _⟩
    · cases h0
    · simp only [Value.slice.injEq] at h0
      simp only [List.length_cons] at hnc
      omega
  rcases Nat.lt_or_ge 1 cap with h4 | h4
  · obtain rfl := ha h4
    exact h7 k hk
  · obtain rfl := ha1 (by omega)
    exact h7 k hk
theorem Two.x (h : Two w wr p q n m xp xq xs ys vx vy) : OwnF wr vx (fun k => k < w.heap.size) xs := by
  obtain ⟨c, Sp, Sq, h1, h2, h3, h4, h5, _⟩ := h
  exact h5
end

end Go.Proofs.Ytekegbadkafjlaa
