/- link: the plain law of LinkBounds. -/
import Derived.Test.YtekdggdnkmkldaaLinkY
namespace Go.Proofs.Ytekdggdnkmkldaa
set_option linter.unusedVariables false
set_option linter.unusedSimpArgs false
set_option maxRecDepth 1500
open Go.RowKit

/-- What may be on its way. -/
def TWok (life peer k : Nat) (g : Nat → Nat → Nat) (t : TW) : Prop := (1 ≤ t.life ∧ t.life ≤ life) ∧ (((t.kind = 0 ∨ t.kind = 1) ∧ t.n ≤ k) ∨ (t.kind = 2 ∧ (1 ≤ t.dst ∧ t.dst ≤ peer) ∧ t.n ≤ 264 ∧ t.n ≤ g t.life t.dst))
structure LB (n life peer heard : Nat) (x : OutV) (y : InV) (g : Nat → Nat → Nat) (l : List TW) (k : Nat) : Prop where
  n1 : 1 ≤ n
  n2 : n ≤ 64
  k2 : k ≤ 201
  lf : 1 ≤ life ∧ life ≤ 1 + k
  pe : 1 ≤ peer ∧ peer ≤ 1 + k
  own : x.own = life
  xp : x.peer = heard
  hp : heard ≤ peer
  tl : x.told.length = 1
  xu : x.used ≤ k
  xg : x.gr ≤ 264
  xgg : x.gr ≤ g life heard
  xs : x.sent ⟨0, 0⟩ = (x.used : Int)
  yp : y.places = n
  ypl : y.peer ≤ life
  ys : y.seen ≤ k
  yg : y.gr ≤ 264
  gb : ∀ a b, g a b ≤ 264
  ok : ∀ t ∈ l, TWok life peer k g t
  ll : l.length ≤ k
theorem TWok.mono {life peer k life' peer' k' : Nat} {g g' : Nat → Nat → Nat} {t : TW} (h : TWok life peer k g t) (h1 : life ≤ life') (h2 : peer ≤ peer') (h3 : k ≤ k') (h4 : ∀ a b, g a b ≤ g' a b) : TWok life' peer' k' g' t := by
  obtain ⟨⟨a1, a2⟩, h⟩ := h
  refine ⟨⟨a1, by omega⟩, ?_⟩
  rcases h with ⟨b1, b2⟩ | ⟨b1, b2, b3, b4⟩
  · exact .inl ⟨b1, by omega⟩
  · exact .inr ⟨b1, ⟨b2.1, by omega⟩, b3, Nat.le_trans b4 (h4 _ _)⟩
section
variable {n life peer heard : Nat} {x : OutV} {y : InV} {g : Nat → Nat → Nat} {l : List TW} {k : Nat}
theorem LB.next (h : LB n life peer heard x y g l k) (hk : k ≤ 200) : LB n life peer heard x y g l (k + 1) :=
  { h with k2 := by omega, lf := ⟨h.lf.1, by have := h.lf.2; omega⟩, pe := ⟨h.pe.1, by have := h.pe.2; omega⟩, xu := by have := h.xu; omega, ys := by have := h.ys; omega, ok := fun t ht => (h.ok t ht).mono (Nat.le_refl _) (Nat.le_refl _) (by omega) (fun _ _ => Nat.le_refl _), ll := by have := h.ll; omega }
theorem LB.list (h : LB n life peer heard x y g l k) {l' : List TW} (hl : ∀ t ∈ l', TWok life peer k g t) (hn : l'.length ≤ k) : LB n life peer heard x y g l' k := { h with ok := hl, ll := hn }
theorem LB.inn (h : LB n life peer heard x y g l k) {y' : InV} (h1 : y'.places = y.places) (h2 : y'.peer ≤ life) (h3 : y'.seen ≤ k) (h4 : y'.gr ≤ 264) : LB n life peer heard x y' g l k := { h with yp := h1.trans h.yp, ypl := h2, ys := h3, yg := h4 }
theorem LB.sawOk (h : LB n life peer heard x y g l k) (lf seq : Nat) (h1 : 1 ≤ lf) (h2 : lf ≤ life) (h3 : seq ≤ k) : (sawE y.peer lf seq = 0 ∨ sawE y.peer lf seq = 22) ∧ LB n life peer heard x (y.saw lf seq) g l k := by
  have hm : (1 ≤ lf ∧ lf ≤ Most) ∧ seq ≤ Most := by have := h.lf; have := h.k2; unfold Most; omega
  have hE : sawE y.peer lf seq = if lf < y.peer then 22 else 0 := by unfold sawE; rw [if_pos hm]
  by_cases hl : lf < y.peer
  · rw [if_pos hl] at hE
    refine ⟨.inr hE, h.inn rfl ?_ ?_ ?_⟩
    · show sawP _ _ _ ≤ _; unfold sawP; rw [hE]; exact h.ypl
    · show sawS _ _ _ _ ≤ _; unfold sawS; rw [hE]; exact h.ys
    · show sawG _ _ _ _ ≤ _; unfold sawG; rw [hE]; exact h.yg
  · rw [if_neg hl] at hE
    refine ⟨.inl hE, h.inn rfl ?_ ?_ ?_⟩
    · show sawP _ _ _ ≤ _; unfold sawP; rw [hE, if_pos rfl]; exact h2
    · show sawS _ _ _ _ ≤ _; unfold sawS; rw [hE, if_pos rfl]; have := h.ys; split <;> omega
    · show sawG _ _ _ _ ≤ _; unfold sawG; rw [hE, if_pos rfl]; have := h.yg; split <;> omega
theorem LB.dataOk (h : LB n life peer heard x y g l k) (lf seq : Nat) (xs : List Int) (hx : xs.length ≤ 70000) (h1 : 1 ≤ lf) (h2 : lf ≤ life) (h3 : seq ≤ k) : (dataE y lf seq xs.length = 0 ∨ dataE y lf seq xs.length = 7 ∨ dataE y lf seq xs.length = 22) ∧ LB n life peer heard x (y.data lf seq xs) g l k := by
  have hm : (1 ≤ lf ∧ lf ≤ Most) ∧ seq ≤ Most := by have := h.lf; have := h.k2; unfold Most; omega
  unfold InV.data
  by_cases hl : lf < y.peer
  · have hE : dataE y lf seq xs.length = 22 := by unfold dataE; rw [if_pos hm, if_pos hl]
    rw [hE, if_neg (by decide)]
    exact ⟨.inr (.inr rfl), h⟩
  · by_cases hf : y.fs.length < y.places
    · have hE : dataE y lf seq xs.length = 0 := by unfold dataE; rw [if_pos hm, if_neg hl, if_neg (by omega), if_pos hf]
      rw [hE, if_pos rfl]
      have h9 : LB n life peer heard x { y with fs := y.fs ++ [xs] } g l k := h.inn rfl h.ypl h.ys h.yg
      exact ⟨.inl rfl, (h9.sawOk lf seq h1 h2 h3).2⟩
    · have hE : dataE y lf seq xs.length = 7 := by unfold dataE; rw [if_pos hm, if_neg hl, if_neg (by omega), if_neg hf]
      rw [hE, if_neg (by decide)]
      exact ⟨.inr (.inl rfl), h⟩
/-- What a credit does. -/
theorem LB.creditOk (h : LB n life peer heard x y g l k) (t : TW) (ht : TWok life peer k g t) (h2 : t.kind = 2) : (takeE x.own x.peer t.dst t.life t.n = 0 ∧ LB n life peer t.dst (x.credit t.dst t.life t.n) y g l k) ∨ (takeE x.own x.peer t.dst t.life t.n = 22 ∧ LB n life peer heard (x.credit t.dst t.life t.n) y g l k) := by
  obtain ⟨⟨a1, a2⟩, hk⟩ := ht
  rcases hk with ⟨b1, _⟩ | ⟨_, b2, b3, b4⟩
  · omega
  have hpe := h.pe
  have hlf := h.lf
  have hk2 := h.k2
  have hm : (1 ≤ t.dst ∧ t.dst ≤ Most) ∧ t.life ≤ Most ∧ t.n ≤ Most := by unfold Most; omega
  have hE : takeE x.own x.peer t.dst t.life t.n = if t.life ≠ x.own ∨ t.dst < x.peer then 22 else 0 := by unfold takeE; rw [if_pos hm]
  by_cases hc : t.life ≠ x.own ∨ t.dst < x.peer
  · rw [if_pos hc] at hE
    refine .inr ⟨hE, ?_⟩
    have : x.credit t.dst t.life t.n = x := by unfold OutV.credit takeP takeG; rw [hE]; rfl
    rw [this]
    exact h
  · rw [if_neg hc] at hE
    have hlo : t.life = life := by have := h.own; omega
    have hdp : heard ≤ t.dst := by have := h.xp; omega
    refine .inl ⟨hE, { h with xp := ?_, hp := b2.2, xg := ?_, xgg := ?_ }⟩
    · show takeP _ _ _ _ _ = _; unfold takeP; rw [hE, if_pos rfl]
    · show takeG _ _ _ _ _ _ ≤ _; unfold takeG; rw [hE, if_pos rfl]; have := h.xg; split <;> omega
    · show takeG _ _ _ _ _ _ ≤ _
      unfold takeG
      rw [hE, if_pos rfl, h.xp]
      rw [hlo] at b4
      have := h.xgg
      by_cases hlt : heard < t.dst
      · rw [if_pos hlt]; exact b4
      · rw [if_neg hlt]
        have : t.dst = heard := by omega
        rw [this] at b4 ⊢
        omega
theorem LB.grantOk (h : LB n life peer heard x y g l k) (hk : k ≤ 200) (fr : Nat) (hfr : y.fs.length + fr = y.places) (hy : y.peer ≠ 0) (G : Nat) (hG : grantG y.gr y.seen fr = G) :
    LB n life peer heard x { y with gr := G } (updG g y.peer peer (max (g y.peer peer) G)) (l ++ [⟨2, y.peer, peer, G⟩]) (k + 1) ∧ G ≤ 264 ∧ y.seen + fr ≤ G := by
  have h1 := h.ys
  have h2 := h.yg
  have h3 := h.n2
  have h4 := h.yp
  have hk2 := h.k2
  have hG2 : G ≤ 264 ∧ y.seen + fr ≤ G := by
    unfold grantG Most at hG
    omega
  have hge : ∀ a b, g a b ≤ updG g y.peer peer (max (g y.peer peer) G) a b := fun a b => by
    unfold updG
    by_cases e : a = y.peer ∧ b = peer
    · rw [if_pos e, e.1, e.2]; omega
    · rw [if_neg e]; omega
  have hn := h.next hk
  refine ⟨{ hn with xgg := Nat.le_trans h.xgg (hge _ _), yg := hG2.1, gb := fun a b => ?_, ok := fun t ht => ?_, ll := by rw [List.length_append]; have := h.ll; simp; omega }, hG2⟩
  · unfold updG
    have := h.gb a b
    have := h.gb y.peer peer
    split <;> omega
  · rcases List.mem_append.1 ht with ht | ht
    · exact (hn.ok t ht).mono (Nat.le_refl _) (Nat.le_refl _) (Nat.le_refl _) hge
    · obtain rfl := List.mem_singleton.1 ht
      refine ⟨⟨by show 1 ≤ y.peer; omega, h.ypl⟩, .inr ⟨rfl, h.pe.1 |> fun p => ⟨p, Nat.le_refl _⟩, hG2.1, ?_⟩⟩
      show G ≤ updG g y.peer peer (max (g y.peer peer) G) y.peer peer
      unfold updG
      rw [if_pos ⟨rfl, rfl⟩]
      omega
theorem LB.useOk (h : LB n life peer heard x y g l k) (hk : k ≤ 200) (hu : x.used < x.gr) : LB n life peer heard (x.use ⟨0, 0⟩) y g (l ++ [⟨0, life, 0, x.used + 1⟩]) (k + 1) ∧ x.used + 1 ≤ g life heard := by
  have hn := h.next hk
  have hxu := h.xu
  refine ⟨{ hn with xu := by show x.used + 1 ≤ k + 1; omega, xs := ?_, ok := fun t ht => ?_, ll := by rw [List.length_append]; have := h.ll; simp; omega }, by have := h.xgg; omega⟩
  · show (if (⟨0, 0⟩ : PlaceV) = ⟨0, 0⟩ then x.sent ⟨0, 0⟩ + 1 else x.sent ⟨0, 0⟩) = _
    rw [if_pos rfl, h.xs]
    rfl
  · rcases List.mem_append.1 ht with ht | ht
    · exact hn.ok t ht
    · obtain rfl := List.mem_singleton.1 ht
      exact ⟨⟨h.lf.1, Nat.le_refl _⟩, .inl ⟨.inl rfl, by show x.used + 1 ≤ k + 1; omega⟩⟩
theorem LB.probeOk (h : LB n life peer heard x y g l k) (hk : k ≤ 200) : LB n life peer heard x y g (l ++ [⟨1, life, 0, x.used⟩]) (k + 1) := by
  have hn := h.next hk
  refine { hn with ok := fun t ht => ?_, ll := by rw [List.length_append]; have := h.ll; simp; omega }
  rcases List.mem_append.1 ht with ht | ht
  · exact hn.ok t ht
  · obtain rfl := List.mem_singleton.1 ht
    exact ⟨⟨h.lf.1, Nat.le_refl _⟩, .inl ⟨.inr rfl, by show x.used ≤ k + 1; have := h.xu; omega⟩⟩
theorem LB.dupOk (h : LB n life peer heard x y g l k) (hk : k ≤ 200) (t : TW) (ht : t ∈ l) : LB n life peer heard x y g (l ++ [t]) (k + 1) := by
  have hn := h.next hk
  refine { hn with ok := fun u hu => ?_, ll := by rw [List.length_append]; have := h.ll; simp; omega }
  rcases List.mem_append.1 hu with hu | hu
  · exact hn.ok u hu
  · obtain rfl := List.mem_singleton.1 hu
    exact hn.ok u ht
theorem LB.dropOk (h : LB n life peer heard x y g l k) (hk : k ≤ 200) (i : Nat) : LB n life peer heard x y g (l.take i ++ l.drop (i + 1)) (k + 1) := by
  have hn := h.next hk
  refine { hn with ok := fun u hu => ?_, ll := ?_ }
  · rcases List.mem_append.1 hu with hu | hu
    · exact hn.ok u (List.mem_of_mem_take hu)
    · exact hn.ok u (List.mem_of_mem_drop hu)
  · rw [List.length_append, List.length_take, List.length_drop]
    have := h.ll
    omega
theorem LB.rebornOk (h : LB n life peer heard x y g l k) (hk : k ≤ 200) : LB n (life + 1) peer 0 (newV (life + 1) 1) y g l (k + 1) :=
  { n1 := h.n1, n2 := h.n2, k2 := by omega, lf := ⟨by omega, by have := h.lf.2; omega⟩, pe := ⟨h.pe.1, by have := h.pe.2; omega⟩, own := rfl, xp := rfl, hp := Nat.zero_le _, tl := rfl, xu := Nat.zero_le _, xg := Nat.zero_le _, xgg := Nat.zero_le _, xs := rfl, yp := h.yp, ypl := by have := h.ypl; omega, ys := by have := h.ys; omega, yg := h.yg, gb := h.gb, ok := fun t ht => (h.ok t ht).mono (by omega) (Nat.le_refl _) (by omega) (fun _ _ => Nat.le_refl _), ll := by have := h.ll; omega }
theorem LB.peerOk (h : LB n life peer heard x y g l k) (hk : k ≤ 200) : LB n life (peer + 1) heard x ⟨n, [], 0, 0, 0⟩ g l (k + 1) :=
  { (h.next hk) with pe := ⟨by omega, by have := h.pe.2; omega⟩, hp := by have := h.hp; omega, yp := rfl, ypl := Nat.zero_le _, ys := Nat.zero_le _, yg := Nat.zero_le _, ok := fun t ht => (h.ok t ht).mono (Nat.le_refl _) (by omega) (by omega) (fun _ _ => Nat.le_refl _) }
theorem LB.start (n : Nat) (h1 : 1 ≤ n) (h2 : n ≤ 64) : LB n 1 1 0 (newV 1 1) ⟨n, [], 0, 0, 0⟩ (fun _ _ => 0) [] 0 :=
  { n1 := h1, n2 := h2, k2 := by omega, lf := ⟨by omega, by omega⟩, pe := ⟨by omega, by omega⟩, own := rfl, xp := rfl, hp := Nat.zero_le _, tl := rfl, xu := Nat.zero_le _, xg := Nat.zero_le _, xgg := Nat.zero_le _, xs := rfl, yp := rfl, ypl := Nat.zero_le _, ys := Nat.zero_le _, yg := Nat.zero_le _, gb := fun _ _ => Nat.zero_le _, ok := fun t ht => (List.not_mem_nil ht).elim, ll := Nat.zero_le _ }
end
end Go.Proofs.Ytekdggdnkmkldaa
