/- RanksLatest: what is at hand in its loops. -/
import Derived.Test.YtpkaddpennafcaaOwnTells
import Derived.Deep.RegionHeld3
namespace Go.Proofs.Ytpkaddpennafcaa
set_option linter.unusedVariables false
set_option linter.unusedSimpArgs false
open Go.ChangeShapes Go.WideShapes Go.ChangeAt Go.RowKit

/-- A statement at which the walk is to stand still. -/
def Held (p : Prop) : Prop := p
theorem held_at {n : Nat} {P : Program} {ops : Array Oper} {b : Bool} {d rest : Code} {Q : Exit → Act → World → Prop} {a : Act} {w : World} (h : Held ((Code.seq (Code.seq (Code.region n ops b) d) rest).wp P Q a w)) :
    (Code.seq (Code.seq (Code.region n ops b) d) rest).wp P Q a w := h

structure RL (w wr : World) (t p tb ob : Nat) (St Sp : Nat → Prop) (s : TellV) (v : Value) (l : List TellU) : Prop where
  tt : TS w wr t St s.life s.count s.base (kept s.l)
  pt : TS w wr p Sp 0 0 0 []
  tbh : ∃ ty, wr.heap[tb]? = some (.cells #[.pointer (some ⟨t, 0, none⟩)] ty (0, 0))
  obh : ∃ ty, wr.heap[ob]? = some (.cells #[v] ty (0, 0))
  own : OwnT w wr v l
  tS : ∀ k, St k → k ≠ p ∧ k ≠ tb ∧ k ≠ ob
  pS : ∀ k, Sp k → k ≠ t ∧ k ≠ tb ∧ k ≠ ob
  vb : ∀ k, v.ownBlock = some k → w.heap.size ≤ k ∧ ¬ St k ∧ ¬ Sp k ∧ k ≠ tb ∧ k ≠ ob
  lay : w.heap.size ≤ tb ∧ w.heap.size ≤ ob ∧ tb ≠ ob

section
variable {w wr w' : World} {t p tb ob : Nat} {St Sp : Nat → Prop} {s : TellV} {v : Value} {l : List TellU}
theorem RL.grows (h : RL w wr t p tb ob St Sp s v l) : Grows w wr := h.tt.grows
theorem OwnT.more {w0 w w' : World} {v : Value} {l : List TellU} (h : OwnT w0 w v l) (g : Grows w w') : OwnT w0 w' v l := ⟨h.own.grows g, h.rs, h.grows.trans g⟩
theorem RL.lt (h : RL w wr t p tb ob St Sp s v l) : tb < wr.heap.size ∧ ob < wr.heap.size := by
  obtain ⟨_, h1⟩ := h.tbh
  obtain ⟨_, h2⟩ := h.obh
  exact ⟨heap_lt h1, heap_lt h2⟩
theorem RL.more (h : RL w wr t p tb ob St Sp s v l) (g : Grows wr w') : RL w w' t p tb ob St Sp s v l := by
  obtain ⟨ty1, h1⟩ := h.tbh
  obtain ⟨ty2, h2⟩ := h.obh
  exact ⟨h.tt.more g, h.pt.more g, ⟨ty1, (g.block _ (heap_lt h1) (fun h => h)).trans h1⟩, ⟨ty2, (g.block _ (heap_lt h2) (fun h => h)).trans h2⟩, h.own.more g, h.tS, h.pS, h.vb, h.lay⟩
theorem RL.cells (h : RL w wr t p tb ob St Sp s v l) : wr.cell? ⟨tb, 0, none⟩ = some (.pointer (some ⟨t, 0, none⟩)) ∧ wr.cell? ⟨ob, 0, none⟩ = some v ∧ wr.frozen? ⟨ob, 0, none⟩ = false := by
  obtain ⟨ty1, h1⟩ := h.tbh
  obtain ⟨ty2, h2⟩ := h.obh
  exact ⟨by rw [cell_of_heap h1]; rfl, by rw [cell_of_heap h2]; rfl, frozen_of_heap h2 _⟩
theorem RL.ne (h : RL w wr t p tb ob St Sp s v l) : t ≠ p ∧ t ≠ tb ∧ t ≠ ob ∧ p ≠ tb ∧ p ≠ ob :=
  ⟨(h.tS t h.tt.told.own).1, (h.tS t h.tt.told.own).2.1, (h.tS t h.tt.told.own).2.2, (h.pS p h.pt.told.own).2.1, (h.pS p h.pt.told.own).2.2⟩
/-- One more of its own. -/
theorem RL.push (h : RL w wr t p tb ob St Sp s v l) (x : TellU) {v' : Value} (hx : Rs w x.2 x.1.l ∧ x.1.base < 18446744073709551616) (ho : OwnS w' 25 4 v' (l.length + 1) (tcells l ++ tcells [x])) (hg : wr.grownBy w' v.ownBlock) (hb : v'.ownBlock = v.ownBlock ∨ v'.ownBlock = some wr.heap.size) :
    RL w (w'.setCell ⟨ob, 0, none⟩ v') t p tb ob St Sp s v' (l ++ [x]) := by
  have e1 : Ext (fun k => v.ownBlock = some k ∨ k = ob) wr w' := (Ext.of_grown hg (fun k hk => hk)).mono (fun k _ hk => .inl hk)
  have e2 : Ext (fun k => k = ob) w' (w'.setCell ⟨ob, 0, none⟩ v') := (Ext.refl _ w').setT_r _ _
  have e : Ext (fun k => v.ownBlock = some k ∨ k = ob) wr (w'.setCell ⟨ob, 0, none⟩ v') := e1.trans (e2.mono (fun k _ hk => .inr hk))
  have hT : ∀ k, (v.ownBlock = some k ∨ k = ob) → w.heap.size ≤ k := fun k hk => by
    rcases hk with hk | rfl
    · exact (h.vb k hk).1
    · exact h.lay.2.1
  have hlt := h.lt
  obtain ⟨ty1, h1⟩ := h.tbh
  obtain ⟨ty2, h2⟩ := h.obh
  have hs : wr.heap.size ≤ w'.heap.size := e1.size
  have hb2 : w'.heap[ob]? = some (.cells #[v] ty2 (0, 0)) := ((Ext.of_grown hg (S := fun k => v.ownBlock = some k) (fun k hk => hk)).block ob hlt.2 (fun hk => (h.vb _ hk).2.2.2.2 rfl)).trans h2
  have vb' : ∀ k, v'.ownBlock = some k → w.heap.size ≤ k ∧ ¬ St k ∧ ¬ Sp k ∧ k ≠ tb ∧ k ≠ ob := fun k hk => by
    rcases hb with hb | hb
    · exact h.vb k (hb ▸ hk)
    · rw [hb] at hk
      simp only [Option.some.injEq] at hk
      subst hk
      have := h.grows.size
      exact ⟨this, fun hk => by have := h.tt.st _ hk; omega, fun hk => by have := h.pt.st _ hk; omega, by omega, by omega⟩
  refine ⟨h.tt.ext e hT (fun k hk hh => ?_), h.pt.ext e hT (fun k hk hh => ?_), ⟨ty1, (e.block tb hlt.1 (fun hh => ?_)).trans h1⟩, ⟨ty2, ?_⟩, ⟨?_, fun y hy => ?_, (h.grows.lift.trans e).mono (fun k hk hh => by have := hT k hh; omega)⟩, h.tS, h.pS, vb', h.lay⟩
  · rcases hh with hh | hh
    · exact (h.vb k hh).2.1 hk
    · exact (h.tS k hk).2.2 hh
  · rcases hh with hh | hh
    · exact (h.vb k hh).2.2.1 hk
    · exact (h.pS k hk).2.2 hh
  · rcases hh with hh | hh
    · exact (h.vb _ hh).2.2.2.1 rfl
    · exact h.lay.2.2 hh
  · exact setCell_heap hb2 0 v'
  · rw [tcells_append, List.length_append]
    exact ho.ext e2 (fun b hb hh => (vb' b hb).2.2.2.2 hh)
  · rcases List.mem_append.1 hy with hy | hy
    · exact h.own.rs y hy
    · simp only [List.mem_singleton] at hy
      subst hy
      exact hx

theorem RL.behind (h : RL w wr t p tb ob St Sp s v l) (hg : wr.grownBy w' v.ownBlock) : w'.cell? ⟨ob, 0, none⟩ = some v ∧ w'.frozen? ⟨ob, 0, none⟩ = false := by
  obtain ⟨ty2, h2⟩ := h.obh
  have h3 := ((Ext.of_grown hg (S := fun k => v.ownBlock = some k) (fun k hk => hk)).block ob h.lt.2 (fun hk => (h.vb _ hk).2.2.2.2 rfl)).trans h2
  exact ⟨by rw [cell_of_heap h3]; rfl, frozen_of_heap h3 _⟩
/-- give, one of them. -/
theorem rl_give (h : RL w wr t p tb ob St Sp s v l) (i : Nat) (hi : i < l.length) :
    Calls Try.prog 27 #[.int .i64 i, .pointer (some ⟨tb, 0, none⟩), .pointer (some ⟨ob, 0, none⟩)] wr fun e w' => e = .returned (.bool true) ∧
      ∃ St' s', RL w w' t p tb ob St' Sp s' v l ∧ ∀ g, Top s g → Top s' (fun x => g x ∨ x = l[i].1) := by
  obtain ⟨g, off, cap, hv, hgl, hc, hr⟩ := h.own.at i hi
  have hne := h.ne
  have hlt := h.lt
  have hcells := h.cells
  have hvb := h.vb g (by rw [hv]; rfl)
  have hgt : g ≠ t := fun hh => hvb.2.1 (by rw [hh]; exact h.tt.told.own)
  have hrs := h.own.rs _ (List.getElem_mem hi)
  have hob : wr.cell? ⟨ob, 0, none⟩ = some (.slice (some ⟨g, off, none⟩) l.length cap) := hv ▸ hcells.2.1
  by_cases hE : takeRE s.life s.count l[i].1.life l[i].1.count l[i].1.base l[i].1.l = 0
  · refine (give_ok h.tt i l.length cap off _ _ _ _ _ hcells.1 hob hi hc hr hrs.2 ⟨hlt.1, hne.2.1.symm⟩ ⟨hlt.2, hne.2.2.1.symm⟩ ⟨hgl, hgt⟩ hE).mono ?_
    rintro e w' ⟨rfl, ⟨S', h1, h2⟩, he⟩
    obtain ⟨ty1, b1⟩ := h.tbh
    obtain ⟨ty2, b2⟩ := h.obh
    refine ⟨rfl, S', l[i].1, ⟨h1, h.pt.ext he (fun k hk => ?_) (fun k hk => (h.pS k hk).1), ⟨ty1, (he.block _ hlt.1 hne.2.1.symm).trans b1⟩, ⟨ty2, (he.block _ hlt.2 hne.2.2.1.symm).trans b2⟩, ⟨h.own.own.ext he (fun b hb hh => ?_), h.own.rs, h1.grows⟩, fun k hk => ?_, h.pS, fun k hk => ?_, h.lay⟩, fun g' hg' => hg'.ok _ hE⟩
    · subst hk; exact (h.tt.st _ h.tt.told.own).1
    · subst hh; exact (h.vb _ hb).2.1 h.tt.told.own
    · rcases h2 k hk with hk | hk
      · exact h.tS k hk
      · have := h.pt.st p h.pt.told.own
        omega
    · have hk1 := h.vb k hk
      refine ⟨hk1.1, fun hh => ?_, hk1.2.2⟩
      rcases h2 k hh with hh | hh
      · exact hk1.2.1 hh
      · have := h.own.own.lt k hk
        omega
  · refine (give_no h.tt.tn i l.length cap off _ _ _ _ _ hcells.1 hob hi hc hr hrs.2 ⟨hlt.1, hne.2.1.symm⟩ ⟨hlt.2, hne.2.2.1.symm⟩ ⟨hgl, hgt⟩ hE).mono ?_
    rintro e w' ⟨rfl, hg⟩
    exact ⟨rfl, St, s, h.more hg, fun g' hg' => hg'.no _ hE⟩
end

/-- Take of one that was told nothing. -/
theorem fresh_take {wr : World} {n : Nat} {S : Nat → Prop} (h : ToldAt wr n S 0 0 0 []) (life count base : Nat) (v : Value) (ol : List RankA) (hr : Rs wr v ol) (hbb : base < 18446744073709551616) (E : Int) (hE : takeRE 0 0 life count base ol = E) :
    Calls Try.prog 14 #[.pointer (some ⟨n, 0, none⟩), .int .u64 life, .int .u64 count, .int .u64 base, v] wr fun e w' => e = .returned (.int .i64 E) ∧ Ext (fun k => k = n) wr w' := by
  subst hE
  rw [takeRE]
  by_cases hm : mayB life count base ol = true
  · rw [if_pos hm]
    obtain ⟨p1, p2, _⟩ := mayB_parts hm
    by_cases hl : laterB life count 0 0 = true
    · rw [if_pos hl]
      refine (told_take_ok h life count base v ol hr hbb hm p1.2 p2.2 hl).mono ?_
      rintro e w' ⟨rfl, _, he⟩
      exact ⟨rfl, he⟩
    · rw [if_neg hl]
      refine (told_take_old h life count base v ol hr hbb hm p1.2 p2.2 (by simpa using hl)).mono ?_
      rintro e w' ⟨rfl, g⟩
      exact ⟨rfl, g.lift⟩
  · rw [if_neg hm]
    refine (told_take_arg h life count base v ol hr hbb (by simpa using hm)).mono ?_
    rintro e w' ⟨rfl, g⟩
    exact ⟨rfl, g.lift⟩

theorem Top.congr {s : TellV} {g g' : TellV → Prop} (h : Top s g) (hg : ∀ x, g x ↔ g' x) : Top s g' := by
  have : g = g' := funext fun x => propext (hg x)
  exact this ▸ h
theorem keep5 {S : Nat → Prop} {w w' : World} {c g : Nat} {i1 i2 i3 i4 : Nat} {x y z u v : Option Value} (he : Ext S w w') (hc : c < w.heap.size ∧ ¬ S c) (hg : g < w.heap.size ∧ ¬ S g) (h : w.cell? ⟨c, 0, none⟩ = v ∧ w.cell? ⟨g, i1, none⟩ = x ∧ w.cell? ⟨g, i2, none⟩ = y ∧ w.cell? ⟨g, i3, none⟩ = z ∧ w.cell? ⟨g, i4, none⟩ = u) :
    w'.cell? ⟨c, 0, none⟩ = v ∧ w'.cell? ⟨g, i1, none⟩ = x ∧ w'.cell? ⟨g, i2, none⟩ = y ∧ w'.cell? ⟨g, i3, none⟩ = z ∧ w'.cell? ⟨g, i4, none⟩ = u :=
  ⟨(he.cell hc.1 hc.2).trans h.1, (he.cell hg.1 hg.2).trans h.2.1, (he.cell hg.1 hg.2).trans h.2.2.1, (he.cell hg.1 hg.2).trans h.2.2.2.1, (he.cell hg.1 hg.2).trans h.2.2.2.2⟩
theorem take_first_E (o : TellV) : takeRE 0 0 o.life o.count o.base o.l = 0 ∨ takeRE 0 0 o.life o.count o.base o.l = 1 := by
  by_cases h : takeRE 0 0 o.life o.count o.base o.l = 0
  · exact .inl h
  · refine .inr ?_
    have hv : ¬ o.valid := fun hv => h ((take_first o).2 hv)
    have hm : ¬ mayB o.life o.count o.base o.l = true := hv
    rw [takeRE, if_neg hm]
/-- Those of the first m. -/
def among (l : List TellU) (m : Nat) (x : TellV) : Prop := ∃ q, ∃ h : q < l.length, q < m ∧ l[q].1 = x
theorem among_succ {l : List TellU} {m : Nat} (hm : m < l.length) (x : TellV) : (among l m x ∨ x = l[m].1) ↔ among l (m + 1) x := by
  constructor
  · rintro (⟨q, h, h1, h2⟩ | rfl)
    · exact ⟨q, h, by omega, h2⟩
    · exact ⟨m, hm, by omega, rfl⟩
  · rintro ⟨q, h, h1, h2⟩
    by_cases e : q = m
    · subst e; exact .inr h2.symm
    · exact .inl ⟨q, h, by omega, h2⟩
/-- Where the latest one stands. -/
def AtIs (l : List TellU) (a : Int) (s : TellV) : Prop := (a = -1 ∧ s = tell0) ∨ ∃ q : Nat, ∃ h : q < l.length, a = (q : Int) ∧ l[q].1 = s ∧ s.valid
/-- No two of them have the same number. -/
def Apart (l : List TellU) : Prop := ∀ x ∈ l, ∀ y ∈ l, x.1.life = y.1.life → x.1.count = y.1.count → x.1 = y.1
theorem Apart.push {l : List TellU} (h : Apart l) (x : TellU) (hx : ∀ y ∈ l, ¬ (y.1.life = x.1.life ∧ y.1.count = x.1.count)) : Apart (l ++ [x]) := by
  intro a ha b hb h1 h2
  simp only [List.mem_append, List.mem_singleton] at ha hb
  rcases ha with ha | rfl
  · rcases hb with hb | rfl
    · exact h a ha b hb h1 h2
    · exact absurd ⟨h1, h2⟩ (hx a ha)
  · rcases hb with hb | rfl
    · exact absurd ⟨h1.symm, h2.symm⟩ (hx b hb)
    · rfl

/-- Is there one with its number among the first k? -/
def thereB (l : List TellU) (life count k : Nat) : Bool := (l.take k).any fun y => decide (y.1.life = life) && decide (y.1.count = count)
theorem thereB_step (l : List TellU) (life count k : Nat) (hk : k < l.length) : thereB l life count (k + 1) = (thereB l life count k || (decide (l[k].1.life = life) && decide (l[k].1.count = count))) := by
  rw [thereB, thereB, List.take_add_one, List.any_append, List.getElem?_eq_getElem hk]
  simp
theorem thereB_all (l : List TellU) (life count : Nat) (h : thereB l life count l.length = false) : ∀ y ∈ l, ¬ (y.1.life = life ∧ y.1.count = count) := by
  rw [thereB, List.take_length, List.any_eq_false] at h
  intro y hy hh
  have := h y hy
  simp [hh.1, hh.2] at this

theorem tcells_one (l : List TellU) (hp : ∀ y ∈ l, y.2.oneCell' = true) : ∀ u ∈ tcells l, u.oneCell' = true := by
  induction l with
  | nil => intro u hu; simp [tcells] at hu
  | cons o r ih =>
    intro u hu
    rw [tcells, List.mem_append] at hu
    rcases hu with h | h
    · simp only [TellU.cells, List.mem_cons, List.not_mem_nil, or_false] at h
      rcases h with rfl | rfl | rfl | rfl
      · rfl
      · rfl
      · rfl
      · exact hp o (by simp)
    · exact ih (fun y hy => hp y (by simp [hy])) u h
theorem src_tell {w : World} {b : Nat} {ty : TypeId} {fr : Nat × Nat} (x : TellU) (hx : x.2.oneCell' = true) (hb : w.heap[b]? = some (.cells #[.int .u64 x.1.life, .int .u64 x.1.count, .int .u64 x.1.base, x.2] ty fr)) :
    Src Try.prog 4 34 (.slice (some ⟨b, 0, none⟩) 1 1) 1 (tcells [x]) w := by
  refine Src.ofSlice w Try.underlying34 ⟨b, 0, none⟩ 1 1 _ rfl (fun j u hj => ?_) (tcells_one _ (fun y hy => by simp only [List.mem_singleton] at hy; subst hy; exact hx))
  have hplain : (⟨b, 0, none⟩ : Addr).add j = ⟨b, 0 + j, none⟩ := by unfold Addr.add; split <;> simp_all
  have : tcells [x] = [.int .u64 x.1.life, .int .u64 x.1.count, .int .u64 x.1.base, x.2] := rfl
  rw [hplain, cell_of_heap hb, ← hj, this, Nat.zero_add]
  simp

end Go.Proofs.Ytpkaddpennafcaa
