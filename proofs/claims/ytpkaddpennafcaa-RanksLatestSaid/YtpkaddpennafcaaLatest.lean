/- The plain law of RanksLatest: behind any tellings the state is the latest one that may be. -/
import Derived.Test.YtpkaddpennafcaaRanksG
namespace Go.Proofs.Ytpkaddpennafcaa
set_option linter.unusedVariables false
set_option linter.unusedSimpArgs false

def TellV.valid (o : TellV) : Prop := mayB o.life o.count o.base o.l = true
def TellV.later (o s : TellV) : Prop := laterB o.life o.count s.life s.count = true
def tell0 : TellV := ⟨0, 0, 0, []⟩
theorem later_iff (o s : TellV) : o.later s ↔ s.life < o.life ∨ (o.life = s.life ∧ s.count < o.count) := by
  simp [TellV.later, laterB]
theorem valid_pos {o : TellV} (h : o.valid) : 1 ≤ o.life := (mayB_parts h).1.1
theorem take_iff (o s : TellV) : takeRE s.life s.count o.life o.count o.base o.l = 0 ↔ o.valid ∧ o.later s := by
  constructor
  · intro h
    exact takeRE_zero h
  · rintro ⟨h1, h2⟩
    have h1' : mayB o.life o.count o.base o.l = true := h1
    have h2' : laterB o.life o.count s.life s.count = true := h2
    rw [takeRE, if_pos h1', if_pos h2']
theorem take_first (o : TellV) : takeRE 0 0 o.life o.count o.base o.l = 0 ↔ o.valid := by
  rw [show takeRE 0 0 o.life o.count o.base o.l = takeRE tell0.life tell0.count o.life o.count o.base o.l from rfl, take_iff]
  refine ⟨fun h => h.1, fun h => ⟨h, ?_⟩⟩
  rw [later_iff]
  have := valid_pos h
  simp only [tell0]
  omega

/-- s is what was told last, of g. -/
def Top (s : TellV) (g : TellV → Prop) : Prop := (s = tell0 ∧ ∀ x, g x → ¬ x.valid) ∨ (g s ∧ s.valid ∧ ∀ x, g x → x.valid → ¬ x.later s)
theorem Top.start : Top tell0 (fun _ => False) := .inl ⟨rfl, fun _ h => h.elim⟩
theorem Top.ok {s : TellV} {g : TellV → Prop} (h : Top s g) (o : TellV) (hE : takeRE s.life s.count o.life o.count o.base o.l = 0) : Top o (fun x => g x ∨ x = o) := by
  obtain ⟨hv, hl⟩ := (take_iff o s).1 hE
  refine .inr ⟨.inr rfl, hv, fun x hx hxv hxl => ?_⟩
  rw [later_iff] at hl hxl
  rcases hx with hx | rfl
  · rcases h with ⟨_, h⟩ | ⟨_, _, h⟩
    · exact h x hx hxv
    · have := h x hx hxv
      rw [later_iff] at this
      omega
  · omega
theorem Top.no {s : TellV} {g : TellV → Prop} (h : Top s g) (o : TellV) (hE : takeRE s.life s.count o.life o.count o.base o.l ≠ 0) : Top s (fun x => g x ∨ x = o) := by
  have hn : ¬ (o.valid ∧ o.later s) := fun h2 => hE ((take_iff o s).2 h2)
  rcases h with ⟨rfl, h⟩ | ⟨h1, h2, h3⟩
  · refine .inl ⟨rfl, fun x hx hxv => ?_⟩
    rcases hx with hx | rfl
    · exact h x hx hxv
    · exact hE ((take_first x).2 hxv)
  · refine .inr ⟨.inl h1, h2, fun x hx hxv hxl => ?_⟩
    rcases hx with hx | rfl
    · exact h3 x hx hxv hxl
    · exact hn ⟨hxv, hxl⟩
theorem Top.unique {s1 s2 : TellV} {g1 g2 : TellV → Prop} (h1 : Top s1 g1) (h2 : Top s2 g2) (he : ∀ x, g1 x ↔ g2 x) (hd : ∀ x y, g1 x → g1 y → x.life = y.life → x.count = y.count → x = y) : s1 = s2 := by
  rcases h1 with ⟨rfl, h1⟩ | ⟨a1, a2, a3⟩
  · rcases h2 with ⟨rfl, _⟩ | ⟨b1, b2, _⟩
    · rfl
    · exact absurd b2 (h1 s2 ((he s2).2 b1))
  · rcases h2 with ⟨rfl, h2⟩ | ⟨b1, b2, b3⟩
    · exact absurd a2 (h2 s1 ((he s1).1 a1))
    · have c1 := a3 s2 ((he s2).2 b1) b2
      have c2 := b3 s1 ((he s1).1 a1) a2
      rw [later_iff] at c1 c2
      exact hd s1 s2 a1 ((he s2).2 b1) (by omega) (by omega)

end Go.Proofs.Ytpkaddpennafcaa
