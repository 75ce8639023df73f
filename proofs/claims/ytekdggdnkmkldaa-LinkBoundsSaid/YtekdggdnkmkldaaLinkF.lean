/- link: the plain law of a round: what is told, what is its own, what is wanted; the picks go round. -/
import Derived.Test.YtekdggdnkmkldaaLinkB
namespace Go.Proofs.Ytekdggdnkmkldaa
set_option linter.unusedVariables false
set_option linter.unusedSimpArgs false
set_option maxRecDepth 1500
open Go.RowKit

structure RoundV where
  own : Nat → Nat → Nat
  told : Nat → Nat → Nat
  base : Nat → Nat
  window : Nat
def RoundV.b (rv : RoundV) (f : Nat) : Nat := rv.base f % 100
def RoundV.W (rv : RoundV) : Nat := 1 + rv.window % 16
def RoundV.td (rv : RoundV) (f i : Nat) : Nat := if 16 ≤ i then 0 else rv.told f i
def RoundV.pOwn (rv : RoundV) (f i : Nat) : Bool := decide (0 < rv.own f i)
def RoundV.pTold (rv : RoundV) (f i : Nat) : Bool := decide (0 < rv.told f i) && decide (i < 16)
def RoundV.pWant (rv : RoundV) (f i : Nat) : Bool := decide (i < rv.W) && decide (rv.td f i < rv.own f i)
def RoundV.ownR (rv : RoundV) (f k : Nat) : List RankA := ((List.range k).filter (rv.pOwn f)).map fun i => ⟨rv.b f + i, (rv.own f i : Int)⟩
def RoundV.toldR (rv : RoundV) (f k : Nat) : List RankA := ((List.range k).filter (rv.pTold f)).map fun i => ⟨rv.b f + i, (rv.told f i : Int)⟩
def RoundV.wantP (rv : RoundV) (f k : Nat) : List PlaceV := ((List.range k).filter (rv.pWant f)).map fun i => ⟨(f : Int), rv.b f + i⟩
structure RoundV.okay (rv : RoundV) : Prop where
  own : ∀ f i, rv.own f i < 256
  told : ∀ f i, rv.told f i < 256
  base : ∀ f, rv.base f < 256
theorem rg_succ {α : Type} (p : Nat → Bool) (g : Nat → α) (k : Nat) : ((List.range (k + 1)).filter p).map g = ((List.range k).filter p).map g ++ if p k then [g k] else [] := by
  rw [List.range_succ, List.filter_append, List.map_append]
  congr 1
  by_cases h : p k = true <;> simp [h]
theorem RoundV.W_le (rv : RoundV) : 1 ≤ rv.W ∧ rv.W ≤ 16 := by unfold RoundV.W; omega
theorem RoundV.b_lt (rv : RoundV) (f : Nat) : rv.b f < 100 := by unfold RoundV.b; omega
theorem rg_len {α : Type} (p : Nat → Bool) (g : Nat → α) (k : Nat) : (((List.range k).filter p).map g).length ≤ k := by
  rw [List.length_map]
  have := List.length_filter_le p (List.range k)
  rw [List.length_range] at this
  exact this

theorem mayL_rg (p : Nat → Bool) (g : Nat → RankA) (b fin : Nat) (hg : ∀ i, p i = true → (g i).gen = b + i ∧ b + i < fin ∧ 1 ≤ (g i).rank ∧ (g i).rank ≤ 255) : ∀ (n s next : Nat), next ≤ b + s → mayL fin next (((List.range' s n).filter p).map g) = true
  | 0, s, next, h => by simp [mayL]
  | n + 1, s, next, h => by
    rw [List.range'_succ]
    by_cases hp : p s = true
    · rw [List.filter_cons_of_pos hp, List.map_cons, mayL, Bool.and_eq_true]
      obtain ⟨h1, h2, h3, h4⟩ := hg s hp
      refine ⟨decide_eq_true ⟨by omega, by omega, h3, h4⟩, ?_⟩
      exact mayL_rg p g b fin hg n (s + 1) _ (by omega)
    · rw [List.filter_cons_of_neg hp]
      exact mayL_rg p g b fin hg n (s + 1) next (by omega)
theorem rankOf_rg (p : Nat → Bool) (g : Nat → RankA) (b : Nat) (hg : ∀ i, p i = true → (g i).gen = b + i) (i : Nat) : ∀ (n s : Nat), rankOf (b + i) (kept (((List.range' s n).filter p).map g)) = if (s ≤ i ∧ i < s + n) ∧ p i = true then (g i).rank.toNat else 0
  | 0, s => by
    rw [if_neg (by omega)]
    rfl
  | n + 1, s => by
    have ih := rankOf_rg p g b hg i n (s + 1)
    rw [List.range'_succ]
    by_cases hp : p s = true
    · rw [List.filter_cons_of_pos hp, List.map_cons]
      show rankOf (b + i) (⟨(g s).gen, (g s).rank.toNat⟩ :: kept (((List.range' (s + 1) n).filter p).map g)) = _
      rw [rankOf, hg s hp]
      by_cases hi : s = i
      · subst hi
        rw [if_pos (by simp), if_pos ⟨⟨Nat.le_refl _, by omega⟩, hp⟩]
      · rw [if_neg (by simp; omega), ih]
        by_cases h2 : (s + 1 ≤ i ∧ i < s + 1 + n) ∧ p i = true
        · rw [if_pos h2, if_pos ⟨⟨by omega, by omega⟩, h2.2⟩]
        · rw [if_neg h2, if_neg (fun h3 => h2 ⟨⟨by omega, by omega⟩, h3.2⟩)]
    · rw [List.filter_cons_of_neg hp, ih]
      by_cases h2 : (s + 1 ≤ i ∧ i < s + 1 + n) ∧ p i = true
      · rw [if_pos h2, if_pos ⟨⟨by omega, by omega⟩, h2.2⟩]
      · rw [if_neg h2, if_neg (fun h3 => h2 ⟨⟨by
          rcases Nat.lt_or_ge s i with h4 | h4
          · exact h4
          · have : s = i := by omega
            subst this
            exact absurd h3.2 hp, by omega⟩, h3.2⟩)]
theorem RoundV.told_may (rv : RoundV) (ok : rv.okay) (f : Nat) : mayB 1 1 (rv.b f) (rv.toldR f 20) = true := by
  have hb := rv.b_lt f
  unfold mayB RoundV.toldR
  rw [List.range_eq_range', mayL_rg (rv.pTold f) _ (rv.b f) (finOf (rv.b f)) (fun i hi => ?_) 20 0 (rv.b f) (by omega)]
  · have h1 : decide (rv.b f ≤ MostG) = true := decide_eq_true (by unfold MostG; omega)
    rw [h1]
    decide
  · unfold RoundV.pTold at hi
    simp only [Bool.and_eq_true, decide_eq_true_eq] at hi
    have h2 := ok.told f i
    refine ⟨rfl, ?_, ?_, ?_⟩
    · unfold finOf MostG; omega
    · show (1 : Int) ≤ (rv.told f i : Int); omega
    · show (rv.told f i : Int) ≤ 255; omega
theorem RoundV.told_rank (rv : RoundV) (f i : Nat) (hi : i < 20) : rankOf (rv.b f + i) (kept (rv.toldR f 20)) = rv.td f i := by
  unfold RoundV.toldR
  rw [List.range_eq_range', rankOf_rg (rv.pTold f) _ (rv.b f) (fun _ _ => rfl) i 20 0]
  unfold RoundV.td RoundV.pTold
  by_cases h1 : 16 ≤ i
  · rw [if_pos h1, if_neg (by simp; omega)]
  · rw [if_neg h1]
    by_cases h2 : 0 < rv.told f i
    · rw [if_pos ⟨by omega, by simp; omega⟩]
      show (rv.told f i : Int).toNat = _
      omega
    · rw [if_neg (by simp; omega)]
      omega
/-- What was told lies in the out. -/
def RoundV.toldV (rv : RoundV) (f : Nat) : ToldV := ⟨1, 1, rv.b f, kept (rv.toldR f 20)⟩
theorem RoundV.may_row (rv : RoundV) (x : OutV) (f : Nat) (hx : x.told[f]? = some (rv.toldV f)) : mayRow x rv.W f (rv.ownR f 20) = rv.wantP f 20 := by
  have hat : x.at (f : Int) = some (rv.toldV f) := by
    unfold OutV.at
    rw [if_pos (by omega)]
    simpa using hx
  have hk : x.known (f : Int) = (rv.b f, true) := by
    unfold OutV.known
    rw [hat]
    rfl
  have hr : ∀ g, x.rank (f : Int) g = rankOf g (kept (rv.toldR f 20)) := fun g => by
    unfold OutV.rank
    rw [hat]
    rfl
  unfold mayRow RoundV.ownR RoundV.wantP
  rw [List.filter_map, List.map_map, List.filter_filter]
  have : (List.range 20).filter (fun a => (mayPl x rv.W f ∘ fun i => (⟨rv.b f + i, (rv.own f i : Int)⟩ : RankA)) a && rv.pOwn f a) = (List.range 20).filter (rv.pWant f) := by
    apply List.filter_congr
    intro i hi
    have hi2 : i < 20 := List.mem_range.1 hi
    have hW := rv.W_le
    show (mayPl x rv.W f ⟨rv.b f + i, (rv.own f i : Int)⟩ && rv.pOwn f i) = rv.pWant f i
    unfold mayPl
    rw [hk, hr, rv.told_rank f i hi2]
    unfold RoundV.pOwn RoundV.pWant
    have e1 : rv.b f + i - rv.b f = i := by omega
    simp only [e1, Bool.true_and]
    rw [Bool.eq_iff_iff]
    simp only [Bool.and_eq_true, decide_eq_true_eq]
    omega
  rw [this]
  rfl
theorem RoundV.may_own (rv : RoundV) (x : OutV) (h0 : x.told[0]? = some (rv.toldV 0)) (h1 : x.told[1]? = some (rv.toldV 1)) : mayOwn x rv.W [rv.ownR 0 20, rv.ownR 1 20] = rv.wantP 0 20 ++ rv.wantP 1 20 := by
  show (List.map _ [(rv.ownR 0 20, 0), (rv.ownR 1 20, 1)]).flatten = _
  simp only [List.map_cons, List.map_nil, List.flatten_cons, List.flatten_nil, List.append_nil]
  rw [rv.may_row x 0 h0, rv.may_row x 1 h1]
def RoundV.WL (rv : RoundV) : List PlaceV := rv.wantP 0 20 ++ rv.wantP 1 20
theorem RoundV.mem_want (rv : RoundV) {f k : Nat} {p : PlaceV} (h : p ∈ rv.wantP f k) : ∃ i, i < k ∧ p = ⟨(f : Int), rv.b f + i⟩ := by
  unfold RoundV.wantP at h
  obtain ⟨i, hi, rfl⟩ := List.mem_map.1 h
  exact ⟨i, List.mem_range.1 (List.mem_filter.1 hi).1, rfl⟩
theorem RoundV.want_sorted (rv : RoundV) (f k : Nat) : Sorted (rv.wantP f k) := by
  unfold RoundV.wantP Sorted
  rw [List.pairwise_map]
  refine List.Pairwise.filter _ (List.Pairwise.imp ?_ (List.pairwise_lt_range (n := k)))
  intro a b hab
  exact .inr ⟨rfl, by show rv.b f + a < rv.b f + b; omega⟩
theorem RoundV.sorted (rv : RoundV) : Sorted rv.WL := by
  unfold RoundV.WL Sorted
  refine List.pairwise_append.2 ⟨rv.want_sorted 0 20, rv.want_sorted 1 20, fun a ha b hb => ?_⟩
  obtain ⟨i, _, rfl⟩ := rv.mem_want ha
  obtain ⟨j, _, rfl⟩ := rv.mem_want hb
  exact .inl (by show (0 : Int) < 1; omega)
theorem RoundV.len (rv : RoundV) : rv.WL.length ≤ 40 := by
  unfold RoundV.WL RoundV.wantP
  rw [List.length_append]
  have h1 := rg_len (rv.pWant 0) (fun i => (⟨((0 : Nat) : Int), rv.b 0 + i⟩ : PlaceV)) 20
  have h2 := rg_len (rv.pWant 1) (fun i => (⟨((1 : Nat) : Int), rv.b 1 + i⟩ : PlaceV)) 20
  omega
theorem RoundV.mem_ok (rv : RoundV) {p : PlaceV} (h : p ∈ rv.WL) : (0 ≤ p.flow ∧ p.flow < 2) ∧ p.gen < 200 := by
  have b0 := rv.b_lt 0
  have b1 := rv.b_lt 1
  rcases List.mem_append.1 h with h | h
  · obtain ⟨i, hi, rfl⟩ := rv.mem_want h
    exact ⟨by show (0 : Int) ≤ 0 ∧ (0 : Int) < 2; omega, by show rv.b 0 + i < 200; omega⟩
  · obtain ⟨i, hi, rfl⟩ := rv.mem_want h
    exact ⟨by show (0 : Int) ≤ 1 ∧ (1 : Int) < 2; omega, by show rv.b 1 + i < 200; omega⟩
/-- The pick behind the i-th one. -/
theorem next_at {S : List PlaceV} (hS : Sorted S) (i : Nat) (hi : i < S.length) : (roundP S S[i] true).head? = S[(i + 1) % S.length]? := by
  have h1 : S = S.take i ++ S[i] :: S.drop (i + 1) := by
    rw [← List.drop_eq_getElem_cons hi, List.take_append_drop]
  have h2 : Sorted (S.take i ++ S[i] :: S.drop (i + 1)) := h1 ▸ hS
  have h3 := roundP_at h2
  rw [← h1] at h3
  rw [h3]
  by_cases hl : i + 1 < S.length
  · rw [Nat.mod_eq_of_lt hl, List.append_assoc, List.drop_eq_getElem_cons hl]
    simp [hl]
  · have h4 : S.drop (i + 1) = [] := List.drop_eq_nil_of_le (by omega)
    have h5 : (i + 1) % S.length = 0 := by
      have : i + 1 = S.length := by omega
      rw [this, Nat.mod_self]
    rw [h4, h5, List.nil_append]
    cases i with
    | zero => simp
    | succ j =>
      cases S with
      | nil => simp at hi
      | cons s S' => simp
end Go.Proofs.Ytekdggdnkmkldaa
