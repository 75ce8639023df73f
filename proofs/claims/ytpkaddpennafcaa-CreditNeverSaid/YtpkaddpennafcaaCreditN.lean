/- CreditNever: the plain law, and what is at hand at a round's head. -/
import Derived.Test.YtpkaddpennafcaaCreditM
import Derived.Test.YtpkaddpennafcaaCreditS
namespace Go.Proofs.Ytpkaddpennafcaa
set_option linter.unusedVariables false
set_option linter.unusedSimpArgs false
open Go.ChangeShapes Go.WideShapes Go.ChangeAt Go.RowKit

def wayOk (ls lr : Nat) (g : Nat → Nat → Nat) (u : Nat → Nat) (x : WayV) : Prop :=
  if x.credit = true then (1 ≤ x.life ∧ x.life ≤ lr) ∧ x.dest ≤ ls ∧ x.n ≤ g x.life x.dest else (1 ≤ x.life ∧ x.life ≤ ls) ∧ x.n ≤ u x.life

structure NP (ls lr P G U rP rG S : Nat) (g : Nat → Nat → Nat) (u : Nat → Nat) (l : List WayV) (j : Nat) : Prop where
  l1 : 1 ≤ ls ∧ ls ≤ j + 1
  l2 : 1 ≤ lr ∧ lr ≤ j + 1
  pl : P ≤ lr
  rl : rP ≤ ls
  used : u ls = U
  un : ∀ x, ls < x → u x = 0
  ub : ∀ x, u x ≤ j
  gr : g lr rP = rG
  gn : ∀ y, rP < y → g lr y = 0
  gl : ∀ x y, lr < x → g x y = 0
  gb : ∀ x y, g x y ≤ 108
  gg : (P = 0 ∧ G = 0) ∨ G ≤ g P ls
  su : S ≤ u rP
  wn : ∀ x ∈ l, wayOk ls lr g u x
  jh : j ≤ 100

section
variable {ls lr P G U rP rG S : Nat} {g : Nat → Nat → Nat} {u : Nat → Nat} {l : List WayV} {j : Nat}
theorem NP.relax (h : NP ls lr P G U rP rG S g u l j) (hj : j + 1 ≤ 100) : NP ls lr P G U rP rG S g u l (j + 1) :=
  ⟨⟨h.l1.1, Nat.le_succ_of_le h.l1.2⟩, ⟨h.l2.1, Nat.le_succ_of_le h.l2.2⟩, h.pl, h.rl, h.used, h.un, fun x => Nat.le_succ_of_le (h.ub x), h.gr, h.gn, h.gl, h.gb, h.gg, h.su, h.wn, hj⟩
theorem NP.push (h : NP ls lr P G U rP rG S g u l j) (x : WayV) (hx : wayOk ls lr g u x) : NP ls lr P G U rP rG S g u (l ++ [x]) j :=
  ⟨h.l1, h.l2, h.pl, h.rl, h.used, h.un, h.ub, h.gr, h.gn, h.gl, h.gb, h.gg, h.su, fun y hy => by
    rcases List.mem_append.1 hy with hy | hy
    · exact h.wn y hy
    · simp only [List.mem_singleton] at hy
      subst hy
      exact hx, h.jh⟩
theorem NP.cut (h : NP ls lr P G U rP rG S g u l j) (l2 : List WayV) (hl : ∀ x ∈ l2, x ∈ l) : NP ls lr P G U rP rG S g u l2 j :=
  ⟨h.l1, h.l2, h.pl, h.rl, h.used, h.un, h.ub, h.gr, h.gn, h.gl, h.gb, h.gg, h.su, fun y hy => h.wn y (hl y hy), h.jh⟩
theorem wayOk.mono {ls' lr' : Nat} {g' : Nat → Nat → Nat} {u' : Nat → Nat} {x : WayV} (h : wayOk ls lr g u x) (h1 : ls ≤ ls') (h2 : lr ≤ lr') (h3 : ∀ a b, g a b ≤ g' a b) (h4 : ∀ a, u a ≤ u' a) : wayOk ls' lr' g' u' x := by
  unfold wayOk at h ⊢
  split
  · rename_i hc
    rw [if_pos hc] at h
    have := h3 x.life x.dest
    omega
  · rename_i hc
    rw [if_neg hc] at h
    have := h4 x.life
    omega
theorem updU_ge (u : Nat → Nat) (x v : Nat) (h : u x ≤ v) (a : Nat) : u a ≤ updU u x v a := by
  unfold updU
  split
  · rename_i e; subst e; exact h
  · exact Nat.le_refl _
theorem updG_ge (g : Nat → Nat → Nat) (x y v : Nat) (h : g x y ≤ v) (a b : Nat) : g a b ≤ updG g x y v a b := by
  unfold updG
  split
  · rename_i e; obtain ⟨rfl, rfl⟩ := e; exact h
  · exact Nat.le_refl _
/-- Use. -/
theorem NP.use (h : NP ls lr P G U rP rG S g u l j) (hlt : U < G) (hj : j + 1 ≤ 100) : NP ls lr P G (U + 1) rP rG S g (updU u ls (U + 1)) l (j + 1) ∧ U + 1 ≤ g P ls := by
  have hge := updU_ge u ls (U + 1) (by have := h.used; omega)
  have hub := h.ub ls
  have hused := h.used
  refine ⟨⟨⟨h.l1.1, Nat.le_succ_of_le h.l1.2⟩, ⟨h.l2.1, Nat.le_succ_of_le h.l2.2⟩, h.pl, h.rl, by simp [updU], fun x hx => ?_, fun x => ?_, h.gr, h.gn, h.gl, h.gb, h.gg, Nat.le_trans h.su (hge _), fun x hx => (h.wn x hx).mono (Nat.le_refl _) (Nat.le_refl _) (fun _ _ => Nat.le_refl _) hge, hj⟩, ?_⟩
  · unfold updU
    rw [if_neg (by omega)]
    exact h.un x hx
  · have := h.ub x
    unfold updU
    split <;> omega
  · rcases h.gg with h1 | h1 <;> omega
/-- A Credit comes. -/
theorem NP.take (h : NP ls lr P G U rP rG S g u l j) (life to n : Nat) (hx : (1 ≤ life ∧ life ≤ lr) ∧ to ≤ ls ∧ n ≤ g life to) :
    ((to = ls ∧ P ≤ life) ∧ takeE ls P life to n = 0 ∧ takeP ls P life to n = life ∧ NP ls lr life (takeG ls P G life to n) U rP rG S g u l j) ∨ (¬ (to = ls ∧ P ≤ life) ∧ takeE ls P life to n = 22 ∧ takeP ls P life to n = P ∧ takeG ls P G life to n = G) := by
  have h1 := h.l1
  have h2 := h.l2
  have h3 := h.jh
  have h4 := h.gb life to
  have hm : (1 ≤ life ∧ life ≤ Most) ∧ to ≤ Most ∧ n ≤ Most := by simp only [Most]; omega
  by_cases hc : to = ls ∧ P ≤ life
  · refine .inl ⟨hc, ?_⟩
    have hE : takeE ls P life to n = 0 := by rw [takeE, if_pos hm, if_neg (by omega)]
    obtain ⟨rfl, hp⟩ := hc
    refine ⟨hE, by rw [takeP, hE, if_pos rfl], h.l1, h.l2, hx.1.2, h.rl, h.used, h.un, h.ub, h.gr, h.gn, h.gl, h.gb, .inr ?_, h.su, h.wn, h.jh⟩
    rw [takeG, hE, if_pos rfl]
    split
    · exact hx.2.2
    · obtain rfl : P = life := by omega
      rcases h.gg with hg | hg <;> omega
  · refine .inr ⟨hc, ?_⟩
    have hE : takeE ls P life to n = 22 := by rw [takeE, if_pos hm, if_pos (by omega)]
    exact ⟨hE, by rw [takeP, hE, if_neg (by omega)], by rw [takeG, hE, if_neg (by omega)]⟩
/-- What was used comes. -/
theorem NP.saw (h : NP ls lr P G U rP rG S g u l j) (life n : Nat) (hx : (1 ≤ life ∧ life ≤ ls) ∧ n ≤ u life) :
    (sawE rP life n = if rP ≤ life then 0 else 22) ∧ NP ls lr P G U (sawP rP life n) (sawG rP rG life n) (sawS rP S life n) g u l j := by
  have h1 := h.l1
  have h2 := h.jh
  have h3 := h.ub life
  have hm : (1 ≤ life ∧ life ≤ Most) ∧ n ≤ Most := by simp only [Most]; omega
  have hE : sawE rP life n = if rP ≤ life then 0 else 22 := by
    rw [sawE, if_pos hm]
    by_cases hc : rP ≤ life
    · rw [if_pos hc, if_neg (by omega)]
    · rw [if_neg hc, if_pos (by omega)]
  refine ⟨hE, ?_⟩
  by_cases hc : rP ≤ life
  · rw [if_pos hc] at hE
    rw [sawP, sawG, sawS, hE, if_pos rfl, if_pos rfl, if_pos rfl]
    by_cases hlt : rP < life
    · rw [if_pos hlt, if_pos hlt]
      exact ⟨h.l1, h.l2, h.pl, hx.1.2, h.used, h.un, h.ub, h.gn life hlt, fun y hy => h.gn y (by omega), h.gl, h.gb, h.gg, hx.2, h.wn, h.jh⟩
    · rw [if_neg hlt, if_neg hlt]
      obtain rfl : rP = life := by omega
      have := h.su
      exact ⟨h.l1, h.l2, h.pl, h.rl, h.used, h.un, h.ub, h.gr, h.gn, h.gl, h.gb, h.gg, by omega, h.wn, h.jh⟩
  · rw [if_neg hc] at hE
    rw [sawP, sawG, sawS, hE, if_neg (by omega), if_neg (by omega), if_neg (by omega)]
    exact h
/-- Grant. -/
theorem NP.grant (h : NP ls lr P G U rP rG S g u l j) (f : Nat) (hf : f ≤ 7) : NP ls lr P G U rP (grantG rG S f) S (updG g lr rP (grantG rG S f)) u l j ∧ g lr rP ≤ grantG rG S f ∧ (grantG rG S f ≤ S + 8 ∨ grantG rG S f ≤ g lr rP) ∧ grantG rG S f ≤ 108 := by
  have h1 := h.gr
  have h2 := h.su
  have h3 := h.ub rP
  have h4 := h.jh
  have h5 := h.gb lr rP
  have hn : g lr rP ≤ grantG rG S f := by rw [grantG]; omega
  have hb : grantG rG S f ≤ 108 := by rw [grantG]; simp only [Most]; omega
  have hge := updG_ge g lr rP _ hn
  refine ⟨⟨h.l1, h.l2, h.pl, h.rl, h.used, h.un, h.ub, by simp [updG], fun y hy => ?_, fun x y hx => ?_, fun x y => ?_, ?_, h.su, fun x hx => (h.wn x hx).mono (Nat.le_refl _) (Nat.le_refl _) hge (fun _ => Nat.le_refl _), h.jh⟩, hn, ?_, hb⟩
  · unfold updG
    rw [if_neg (by omega)]
    exact h.gn y hy
  · unfold updG
    rw [if_neg (by omega)]
    exact h.gl x y hx
  · have := h.gb x y
    unfold updG
    split <;> omega
  · rcases h.gg with hg | hg
    · exact .inl hg
    · exact .inr (Nat.le_trans hg (hge _ _))
  · rw [grantG, h1]; simp only [Most]; omega
/-- The sender begins anew. -/
theorem NP.snew (h : NP ls lr P G U rP rG S g u l j) (hj : j + 1 ≤ 100) : NP (ls + 1) lr 0 0 0 rP rG S g u l (j + 1) := by
  have h1 := h.l1
  have h2 := h.l2
  exact ⟨by omega, by omega, by omega, Nat.le_succ_of_le h.rl, h.un _ (by omega), fun x hx => h.un x (by omega), fun x => Nat.le_succ_of_le (h.ub x), h.gr, h.gn, h.gl, h.gb, .inl ⟨rfl, rfl⟩, h.su, fun x hx => (h.wn x hx).mono (Nat.le_succ _) (Nat.le_refl _) (fun _ _ => Nat.le_refl _) (fun _ => Nat.le_refl _), hj⟩
/-- The receiver begins anew. -/
theorem NP.rnew (h : NP ls lr P G U rP rG S g u l j) (hj : j + 1 ≤ 100) : NP ls (lr + 1) P G U 0 0 0 g u l (j + 1) := by
  have h1 := h.l1
  have h2 := h.l2
  exact ⟨by omega, by omega, Nat.le_succ_of_le h.pl, by omega, h.used, h.un, fun x => Nat.le_succ_of_le (h.ub x), h.gl _ _ (by omega), fun y _ => h.gl _ _ (by omega), fun x y hx => h.gl x y (by omega), h.gb, h.gg, by omega, fun x hx => (h.wn x hx).mono (Nat.le_refl _) (Nat.le_succ _) (fun _ _ => Nat.le_refl _) (fun _ => Nat.le_refl _), hj⟩
end

/-- What lies beside the sender and the receiver. -/
structure NS (w wr : World) (s r c gm um ls lr n : Nat) (g : Nat → Nat → Nat) (u : Nat → Nat) (l : List WayV) (vw : Value) : Prop where
  cb : ∃ ty, wr.heap[c]? = some (.cells #[.int .u64 ls, .int .u64 lr] ty (0, 0))
  mg : MapG wr gm n g
  mu : MapU wr um n u
  ways : Ways wr vw l
  fresh : ∀ k, vw.ownBlock = some k → w.heap.size ≤ k ∧ (k ≠ s ∧ k ≠ r) ∧ k ≠ c ∧ k ≠ gm ∧ k ≠ um
  dis : (w.heap.size ≤ c ∧ w.heap.size ≤ gm ∧ w.heap.size ≤ um) ∧ (c ≠ s ∧ c ≠ r) ∧ (gm ≠ s ∧ gm ≠ r) ∧ (um ≠ s ∧ um ≠ r) ∧ c ≠ gm ∧ c ≠ um ∧ gm ≠ um

section
variable {w wr w' : World} {s r c gm um ls lr n : Nat} {g : Nat → Nat → Nat} {u : Nat → Nat} {l : List WayV} {vw : Value}
theorem NS.clt (h : NS w wr s r c gm um ls lr n g u l vw) : c < wr.heap.size := by
  obtain ⟨_, h1⟩ := h.cb
  exact heap_lt h1
theorem NS.ext {T : Nat → Prop} (h : NS w wr s r c gm um ls lr n g u l vw) (e : Ext T wr w') (hc : ¬ T c) (hg : ¬ T gm) (hu : ¬ T um) (hv : ∀ k, vw.ownBlock = some k → ¬ T k) : NS w w' s r c gm um ls lr n g u l vw := by
  obtain ⟨ty, h1⟩ := h.cb
  exact ⟨⟨ty, (e.block c (heap_lt h1) hc).trans h1⟩, h.mg.ext e hg, h.mu.ext e hu, h.ways.ext e hv, h.fresh, h.dis⟩
theorem NS.more (h : NS w wr s r c gm um ls lr n g u l vw) (e : Grows wr w') : NS w w' s r c gm um ls lr n g u l vw := h.ext e (fun h => h) (fun h => h) (fun h => h) (fun _ _ h => h)
theorem NS.sext (h : NS w wr s r c gm um ls lr n g u l vw) (e : Ext (fun k => k = s) wr w') : NS w w' s r c gm um ls lr n g u l vw :=
  h.ext e h.dis.2.1.1 h.dis.2.2.1.1 h.dis.2.2.2.1.1 (fun k hk => (h.fresh k hk).2.1.1)
theorem NS.rext (h : NS w wr s r c gm um ls lr n g u l vw) (e : Ext (fun k => k = r) wr w') : NS w w' s r c gm um ls lr n g u l vw :=
  h.ext e h.dis.2.1.2 h.dis.2.2.1.2 h.dis.2.2.2.1.2 (fun k hk => (h.fresh k hk).2.1.2)
theorem NS.mono {m : Nat} (h : NS w wr s r c gm um ls lr n g u l vw) (hn : n ≤ m) : NS w wr s r c gm um ls lr m g u l vw := ⟨h.cb, h.mg.mono hn, h.mu.mono hn, h.ways, h.fresh, h.dis⟩
theorem NS.cells (h : NS w wr s r c gm um ls lr n g u l vw) : wr.cell? ⟨c, 0, none⟩ = some (.int .u64 ls) ∧ wr.cell? ⟨c, 1, none⟩ = some (.int .u64 lr) ∧ wr.frozen? ⟨c, 0, none⟩ = false ∧ wr.frozen? ⟨c, 1, none⟩ = false := by
  obtain ⟨ty, h1⟩ := h.cb
  exact ⟨by rw [cell_of_heap h1]; rfl, by rw [cell_of_heap h1]; rfl, frozen_of_heap h1 _, frozen_of_heap h1 _⟩
end

theorem NS.putU {w wr w' : World} {s r c gm um ls lr n : Nat} {g : Nat → Nat → Nat} {u u' : Nat → Nat} {l : List WayV} {vw : Value} (h : NS w wr s r c gm um ls lr n g u l vw) (h1 : MapU w' um (n + 1) u') (hg : wr.grownBy w' (some um)) : NS w w' s r c gm um ls lr (n + 1) g u' l vw := by
  have e : Ext (fun k => k = um) wr w' := Ext.of_grown hg (fun k hk => (Option.some.inj hk).symm)
  obtain ⟨ty, hc⟩ := h.cb
  exact ⟨⟨ty, (e.block c (heap_lt hc) h.dis.2.2.2.2.2.1).trans hc⟩, (h.mg.ext e h.dis.2.2.2.2.2.2).mono (Nat.le_succ _), h1, h.ways.ext e (fun k hk => (h.fresh k hk).2.2.2.2), h.fresh, h.dis⟩
theorem NS.putG {w wr w' : World} {s r c gm um ls lr n : Nat} {g g' : Nat → Nat → Nat} {u : Nat → Nat} {l : List WayV} {vw : Value} (h : NS w wr s r c gm um ls lr n g u l vw) (h1 : MapG w' gm (n + 1) g') (hg : wr.grownBy w' (some gm)) : NS w w' s r c gm um ls lr (n + 1) g' u l vw := by
  have e : Ext (fun k => k = gm) wr w' := Ext.of_grown hg (fun k hk => (Option.some.inj hk).symm)
  obtain ⟨ty, hc⟩ := h.cb
  exact ⟨⟨ty, (e.block c (heap_lt hc) h.dis.2.2.2.2.1).trans hc⟩, h1, (h.mu.ext e (fun hh => h.dis.2.2.2.2.2.2 hh.symm)).mono (Nat.le_succ _), h.ways.ext e (fun k hk => (h.fresh k hk).2.2.2.1), h.fresh, h.dis⟩
/-- lives: one of the two goes on. -/
theorem NS.live {w wr : World} {s r c gm um ls lr n : Nat} {g : Nat → Nat → Nat} {u : Nat → Nat} {l : List WayV} {vw : Value} (h : NS w wr s r c gm um ls lr n g u l vw) (x : Nat) :
    NS w (wr.setCell ⟨c, 0, none⟩ (.int .u64 x)) s r c gm um x lr n g u l vw ∧ NS w (wr.setCell ⟨c, 1, none⟩ (.int .u64 x)) s r c gm um ls x n g u l vw ∧ Ext (fun k => k = c) wr (wr.setCell ⟨c, 0, none⟩ (.int .u64 x)) ∧ Ext (fun k => k = c) wr (wr.setCell ⟨c, 1, none⟩ (.int .u64 x)) := by
  have e0 : Ext (fun k => k = c) wr (wr.setCell ⟨c, 0, none⟩ (.int .u64 x)) := Ext.setCell (S := fun k => k = c) (Ext.refl _ wr) ⟨c, _, none⟩ (Or.inr rfl) _
  have e1 : Ext (fun k => k = c) wr (wr.setCell ⟨c, 1, none⟩ (.int .u64 x)) := Ext.setCell (S := fun k => k = c) (Ext.refl _ wr) ⟨c, _, none⟩ (Or.inr rfl) _
  obtain ⟨ty, hc⟩ := h.cb
  have hw := fun k hk => (h.fresh k hk).2.2.1
  have hd1 : ¬ gm = c := fun hh => h.dis.2.2.2.2.1 hh.symm
  have hd2 : ¬ um = c := fun hh => h.dis.2.2.2.2.2.1 hh.symm
  exact ⟨⟨⟨ty, setCell_heap hc 0 _⟩, h.mg.ext e0 hd1, h.mu.ext e0 hd2, h.ways.ext e0 hw, h.fresh, h.dis⟩, ⟨⟨ty, setCell_heap hc 1 _⟩, h.mg.ext e1 hd1, h.mu.ext e1 hd2, h.ways.ext e1 hw, h.fresh, h.dis⟩, e0, e1⟩
/-- The state at a round's head. -/
structure NV (w wr : World) (s r c gm um ls lr P G U rP rG S : Nat) (g : Nat → Nat → Nat) (u : Nat → Nat) (l : List WayV) (vw : Value) (j : Nat) : Prop where
  sr : SR w wr s ls P G U r 8 rP rG S
  ns : NS w wr s r c gm um ls lr j g u l vw
  np : NP ls lr P G U rP rG S g u l j

section
variable {w wr w' : World} {s r c gm um ls lr P G U rP rG S : Nat} {g : Nat → Nat → Nat} {u : Nat → Nat} {l : List WayV} {vw : Value} {j : Nat}
theorem NV.more (h : NV w wr s r c gm um ls lr P G U rP rG S g u l vw j) (e : Grows wr w') : NV w w' s r c gm um ls lr P G U rP rG S g u l vw j := ⟨h.sr.more e, h.ns.more e, h.np⟩
theorem NV.relax (h : NV w wr s r c gm um ls lr P G U rP rG S g u l vw j) (hj : j + 1 ≤ 100) : NV w wr s r c gm um ls lr P G U rP rG S g u l vw (j + 1) := ⟨h.sr, h.ns.mono (Nat.le_succ _), h.np.relax hj⟩
theorem SR.side {T : Nat → Prop} (h : SR w wr s ls P G U r 8 rP rG S) (e : Ext T wr w') (hs : ¬ T s) (hr : ¬ T r) (hT : ∀ k, T k → w.heap.size ≤ k) : SR w w' s ls P G U r 8 rP rG S :=
  ⟨h.snd.ext e hs, h.rcv.ext e hr, h.sb, h.rb, h.ne, (h.grows.lift.trans e).mono (fun k hk hh => by have := hT k hh; omega)⟩
/-- One more on its way. -/
theorem NV.push (h : NV w wr s r c gm um ls lr P G U rP rG S g u l vw j) (x : WayV) (hx : wayOk ls lr g u x) {v' : Value} (h1 : Ways w' v' (l ++ [x])) (hg : wr.grownBy w' vw.ownBlock) (hb : v'.ownBlock = vw.ownBlock ∨ v'.ownBlock = some wr.heap.size) :
    NV w w' s r c gm um ls lr P G U rP rG S g u (l ++ [x]) v' j := by
  have he : Ext (fun k => vw.ownBlock = some k) wr w' := Ext.of_grown hg (fun k hk => hk)
  have hsr := h.sr.side he (fun e => (h.ns.fresh _ e).2.1.1 rfl) (fun e => (h.ns.fresh _ e).2.1.2 rfl) (fun k hk => (h.ns.fresh k hk).1)
  obtain ⟨ty, hc⟩ := h.ns.cb
  have l1 := h.sr.snd.lt
  have l2 := h.sr.rcv.lt
  have l3 := h.ns.clt
  have l4 := h.ns.mg.lt
  have l5 := h.ns.mu.lt
  have l6 := h.sr.grows.size
  refine ⟨hsr, ⟨⟨ty, (he.block c l3 (fun e => (h.ns.fresh _ e).2.2.1 rfl)).trans hc⟩, h.ns.mg.ext he (fun e => (h.ns.fresh _ e).2.2.2.1 rfl), h.ns.mu.ext he (fun e => (h.ns.fresh _ e).2.2.2.2 rfl), h1, fun k hk => ?_, h.ns.dis⟩, h.np.push x hx⟩
  rcases hb with hb | hb
  · exact h.ns.fresh k (hb ▸ hk)
  · rw [hb] at hk
    simp only [Option.some.injEq] at hk
    omega
theorem NV.cut (h : NV w wr s r c gm um ls lr P G U rP rG S g u l vw j) (l2 : List WayV) (hl : ∀ x ∈ l2, x ∈ l) {v' : Value} (h1 : Ways w' v' l2) (hg : wr.grownBy w' vw.ownBlock) (hb : v'.ownBlock = vw.ownBlock ∨ v'.ownBlock = some wr.heap.size) :
    NV w w' s r c gm um ls lr P G U rP rG S g u l2 v' j := by
  have he : Ext (fun k => vw.ownBlock = some k) wr w' := Ext.of_grown hg (fun k hk => hk)
  have hsr := h.sr.side he (fun e => (h.ns.fresh _ e).2.1.1 rfl) (fun e => (h.ns.fresh _ e).2.1.2 rfl) (fun k hk => (h.ns.fresh k hk).1)
  obtain ⟨ty, hc⟩ := h.ns.cb
  have l1 := h.sr.snd.lt
  have l2' := h.sr.rcv.lt
  have l3 := h.ns.clt
  have l4 := h.ns.mg.lt
  have l5 := h.ns.mu.lt
  have l6 := h.sr.grows.size
  refine ⟨hsr, ⟨⟨ty, (he.block c l3 (fun e => (h.ns.fresh _ e).2.2.1 rfl)).trans hc⟩, h.ns.mg.ext he (fun e => (h.ns.fresh _ e).2.2.2.1 rfl), h.ns.mu.ext he (fun e => (h.ns.fresh _ e).2.2.2.2 rfl), h1, fun k hk => ?_, h.ns.dis⟩, h.np.cut l2 hl⟩
  rcases hb with hb | hb
  · exact h.ns.fresh k (hb ▸ hk)
  · rw [hb] at hk
    simp only [Option.some.injEq] at hk
    omega
end

section
variable {w wr w' : World} {s r c gm um ls lr P G U rP rG S : Nat} {g : Nat → Nat → Nat} {u : Nat → Nat} {l : List WayV} {vw : Value} {j : Nat}
theorem nv_take_ok (h : NV w wr s r c gm um ls lr P G U rP rG S g u l vw j) (life n : Nat) (hx : (1 ≤ life ∧ life ≤ lr) ∧ ls ≤ ls ∧ n ≤ g life ls) (hp : P ≤ life) : Calls Try.prog 36 #[.pointer (some ⟨s, 0, none⟩), .int .u64 life, .int .u64 ls, .int .u64 n] wr fun e w' => e = .returned (.int .i64 0) ∧
    ∃ G', NV w w' s r c gm um ls lr life G' U rP rG S g u l vw j := by
  refine (take_any _ _ _ _ _ _ life ls n h.sr.snd).mono ?_
  rintro e w' ⟨rfl, h1, he⟩
  rcases h.np.take life ls n hx with ⟨_, hE, hP, hN⟩ | ⟨hc, _⟩
  · rw [hP] at h1
    exact ⟨by rw [hE], _, h.sr.sstep h1 he, h.ns.sext he, hN⟩
  · exact absurd ⟨rfl, hp⟩ hc
theorem nv_take_no (h : NV w wr s r c gm um ls lr P G U rP rG S g u l vw j) (life to n : Nat) (hx : (1 ≤ life ∧ life ≤ lr) ∧ to ≤ ls ∧ n ≤ g life to) (hc : ¬ (to = ls ∧ P ≤ life)) : Calls Try.prog 36 #[.pointer (some ⟨s, 0, none⟩), .int .u64 life, .int .u64 to, .int .u64 n] wr fun e w' => e = .returned (.int .i64 22) ∧
    NV w w' s r c gm um ls lr P G U rP rG S g u l vw j ∧ Ext (fun k => k = s) wr w' := by
  refine (take_any _ _ _ _ _ _ life to n h.sr.snd).mono ?_
  rintro e w' ⟨rfl, h1, he⟩
  rcases h.np.take life to n hx with ⟨h2, _⟩ | ⟨_, hE, hP, hG⟩
  · exact absurd h2 hc
  · rw [hP, hG] at h1
    exact ⟨by rw [hE], ⟨h.sr.sstep h1 he, h.ns.sext he, h.np⟩, he⟩
theorem nv_take_ext (h : NV w wr s r c gm um ls lr P G U rP rG S g u l vw j) (life n : Nat) (hx : (1 ≤ life ∧ life ≤ lr) ∧ ls ≤ ls ∧ n ≤ g life ls) (hp : P ≤ life) : Calls Try.prog 36 #[.pointer (some ⟨s, 0, none⟩), .int .u64 life, .int .u64 ls, .int .u64 n] wr fun e w' => e = .returned (.int .i64 0) ∧
    (∃ G', NV w w' s r c gm um ls lr life G' U rP rG S g u l vw j) ∧ Ext (fun k => k = s) wr w' := by
  refine (take_any _ _ _ _ _ _ life ls n h.sr.snd).mono ?_
  rintro e w' ⟨rfl, h1, he⟩
  rcases h.np.take life ls n hx with ⟨_, hE, hP, hN⟩ | ⟨hc, _⟩
  · rw [hP] at h1
    exact ⟨by rw [hE], ⟨_, h.sr.sstep h1 he, h.ns.sext he, hN⟩, he⟩
  · exact absurd ⟨rfl, hp⟩ hc
theorem nv_saw (h : NV w wr s r c gm um ls lr P G U rP rG S g u l vw j) (life n : Nat) (hx : (1 ≤ life ∧ life ≤ ls) ∧ n ≤ u life) (E : Int) (hE : (if rP ≤ life then (0 : Int) else 22) = E) : Calls Try.prog 38 #[.pointer (some ⟨r, 0, none⟩), .int .u64 life, .int .u64 n] wr fun e w' => e = .returned (.int .i64 E) ∧
    (∃ P' G' S', NV w w' s r c gm um ls lr P G U P' G' S' g u l vw j) ∧ Ext (fun k => k = r) wr w' := by
  subst hE
  refine (saw_any _ _ _ _ _ _ life n h.sr.rcv).mono ?_
  rintro e w' ⟨rfl, h1, he⟩
  obtain ⟨hE, hN⟩ := h.np.saw life n hx
  exact ⟨by rw [hE], ⟨_, _, _, h.sr.rstep h1 he, h.ns.rext he, hN⟩, he⟩
/-- The sender begins anew. -/
theorem NV.snew (h : NV w wr s r c gm um ls lr P G U rP rG S g u l vw j) (hj : j + 1 ≤ 100) (h1 : SenderAt w' wr.heap.size (ls + 1) 0 0 0) (hg : Grows (wr.setCell ⟨c, 0, none⟩ (.int .u64 ((ls + 1 : Nat) : Int))) w') : NV w w' wr.heap.size r c gm um (ls + 1) lr 0 0 0 rP rG S g u l vw (j + 1) := by
  obtain ⟨n1, _, e1, _⟩ := h.ns.live (ls + 1)
  have l1 := h.sr.grows.size
  have l2 := h.sr.rcv.lt
  have l3 := h.ns.clt
  have l4 := h.ns.mg.lt
  have l5 := h.ns.mu.lt
  have l6 := h.ns.ways.lt
  have d := h.ns.dis
  have n2 := (n1.more hg).mono (Nat.le_succ j)
  have e2 : Ext (fun k => k = c) wr w' := e1.trans hg.lift
  refine ⟨⟨h1, h.sr.rcv.ext e2 (fun hh => d.2.1.2 hh.symm), l1, h.sr.rb, by omega, (h.sr.grows.lift.trans e2).mono (fun k hk hh => by omega)⟩, ⟨n2.cb, n2.mg, n2.mu, n2.ways, fun k hk => ?_, by omega⟩, h.np.snew hj⟩
  have := h.ns.fresh k hk
  have := l6 k hk
  exact ⟨by omega, ⟨by omega, by omega⟩, by omega, by omega, by omega⟩
/-- The receiver begins anew. -/
theorem NV.rnew (h : NV w wr s r c gm um ls lr P G U rP rG S g u l vw j) (hj : j + 1 ≤ 100) (h1 : ReceiverAt w' wr.heap.size 8 0 0 0) (hg : Grows (wr.setCell ⟨c, 1, none⟩ (.int .u64 ((lr + 1 : Nat) : Int))) w') : NV w w' s wr.heap.size c gm um ls (lr + 1) P G U 0 0 0 g u l vw (j + 1) := by
  obtain ⟨_, n1, _, e1⟩ := h.ns.live (lr + 1)
  have l1 := h.sr.grows.size
  have l2 := h.sr.snd.lt
  have l3 := h.ns.clt
  have l4 := h.ns.mg.lt
  have l5 := h.ns.mu.lt
  have l6 := h.ns.ways.lt
  have d := h.ns.dis
  have n2 := (n1.more hg).mono (Nat.le_succ j)
  have e2 : Ext (fun k => k = c) wr w' := e1.trans hg.lift
  refine ⟨⟨h.sr.snd.ext e2 (fun hh => d.2.1.1 hh.symm), h1, h.sr.sb, l1, by omega, (h.sr.grows.lift.trans e2).mono (fun k hk hh => by omega)⟩, ⟨n2.cb, n2.mg, n2.mu, n2.ways, fun k hk => ?_, by omega⟩, h.np.rnew hj⟩
  have := h.ns.fresh k hk
  have := l6 k hk
  exact ⟨by omega, ⟨by omega, by omega⟩, by omega, by omega, by omega⟩
end

end Go.Proofs.Ytpkaddpennafcaa
