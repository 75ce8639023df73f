/- The plain law of sched: places in their order, the round, its turns, fairness. -/
import Derived.Test.YtekdggdnkmkldaaBase
namespace Go.Proofs.Ytekdggdnkmkldaa
set_option linter.unusedVariables false
set_option linter.unusedSimpArgs false
set_option maxRecDepth 1500

structure PlaceV where
  flow : Int
  gen : Nat
deriving DecidableEq

def cmpP (a b : PlaceV) : Int := if a.flow < b.flow then -1 else if b.flow < a.flow then 1 else if a.gen < b.gen then -1 else if b.gen < a.gen then 1 else 0
def ltP (a b : PlaceV) : Prop := a.flow < b.flow ∨ (a.flow = b.flow ∧ a.gen < b.gen)
instance (a b : PlaceV) : Decidable (ltP a b) := by unfold ltP; infer_instance
theorem PlaceV.ext' {a b : PlaceV} (h1 : a.flow = b.flow) (h2 : a.gen = b.gen) : a = b := by
  cases a; cases b; simp_all
theorem cmpP_lt (a b : PlaceV) : cmpP a b < 0 ↔ ltP a b := by
  unfold cmpP ltP; repeat' split
  all_goals omega
theorem cmpP_gt (a b : PlaceV) : 0 < cmpP a b ↔ ltP b a := by
  unfold cmpP ltP; repeat' split
  all_goals omega
theorem cmpP_eq (a b : PlaceV) : cmpP a b = 0 ↔ a = b := by
  constructor
  · intro h
    apply PlaceV.ext'
    · unfold cmpP at h; repeat' split at h
      all_goals omega
    · unfold cmpP at h; repeat' split at h
      all_goals omega
  · rintro rfl; unfold cmpP; simp
theorem cmpP_anti (a b : PlaceV) : cmpP a b = - cmpP b a := by
  unfold cmpP; repeat' split
  all_goals omega
theorem ltP_irrefl (a : PlaceV) : ¬ ltP a a := by unfold ltP; omega
theorem ltP_trans {a b c : PlaceV} (h1 : ltP a b) (h2 : ltP b c) : ltP a c := by unfold ltP at *; omega
theorem ltP_asymm {a b : PlaceV} (h1 : ltP a b) : ¬ ltP b a := by unfold ltP at *; omega
theorem ltP_total (a b : PlaceV) : ltP a b ∨ a = b ∨ ltP b a := by
  rcases Int.lt_trichotomy (cmpP a b) 0 with h | h | h
  · exact .inl ((cmpP_lt a b).1 h)
  · exact .inr (.inl ((cmpP_eq a b).1 h))
  · exact .inr (.inr ((cmpP_gt a b).1 h))

/-- The places in their order, each once. -/
def Sorted (S : List PlaceV) : Prop := S.Pairwise ltP
/-- Two sorted lists with the same members are one. -/
theorem sorted_unique : ∀ {S T : List PlaceV}, Sorted S → Sorted T → (∀ x, x ∈ S ↔ x ∈ T) → S = T
  | [], [], _, _, _ => rfl
  | [], t :: T, _, _, h => by have := (h t).2 (by simp); simp at this
  | s :: S, [], _, _, h => by have := (h s).1 (by simp); simp at this
  | s :: S, t :: T, hS, hT, h => by
    obtain ⟨s1, s2⟩ := List.pairwise_cons.1 hS
    obtain ⟨t1, t2⟩ := List.pairwise_cons.1 hT
    have hst : s = t := by
      rcases List.mem_cons.1 ((h s).1 (by simp)) with e | e
      · exact e
      · rcases List.mem_cons.1 ((h t).2 (by simp)) with e2 | e2
        · exact e2.symm
        · exact absurd (t1 s e) (ltP_asymm (s1 t e2))
    subst hst
    congr 1
    refine sorted_unique s2 t2 (fun x => ⟨fun hx => ?_, fun hx => ?_⟩)
    · rcases List.mem_cons.1 ((h x).1 (List.mem_cons_of_mem _ hx)) with e | e
      · subst e; exact absurd (s1 x hx) (ltP_irrefl x)
      · exact e
    · rcases List.mem_cons.1 ((h x).2 (List.mem_cons_of_mem _ hx)) with e | e
      · subst e; exact absurd (t1 x hx) (ltP_irrefl x)
      · exact e

/-- The round: those behind last, then the others. -/
def roundP (S : List PlaceV) (last : PlaceV) (begun : Bool) : List PlaceV :=
  if begun then S.filter (fun x => decide (ltP last x)) ++ S.filter (fun x => !decide (ltP last x)) else S
theorem mem_roundP (S : List PlaceV) (last : PlaceV) (begun : Bool) (x : PlaceV) : x ∈ roundP S last begun ↔ x ∈ S := by
  unfold roundP
  split
  · simp only [List.mem_append, List.mem_filter]
    by_cases h : ltP last x <;> simp [h]
  · rfl
/-- Sorted lists split at any one. -/
theorem sorted_split (S : List PlaceV) (hS : Sorted S) (last : PlaceV) : S = S.filter (fun x => !decide (ltP last x)) ++ S.filter (fun x => decide (ltP last x)) := by
  induction S with
  | nil => rfl
  | cons s S ih =>
    obtain ⟨s1, s2⟩ := List.pairwise_cons.1 hS
    by_cases h : ltP last s
    · have hall : ∀ x ∈ S, ltP last x := fun x hx => ltP_trans h (s1 x hx)
      have e1 : S.filter (fun x => !decide (ltP last x)) = [] := by
        rw [List.filter_eq_nil_iff]
        intro x hx
        simp [hall x hx]
      have e2 : S.filter (fun x => decide (ltP last x)) = S := by
        rw [List.filter_eq_self]
        intro x hx
        simp [hall x hx]
      simp [h, e1, e2]
    · have := ih s2
      rw [List.filter_cons, List.filter_cons]
      simp only [h, decide_false, Bool.not_false, if_true, List.cons_append]
      rw [if_neg (by simp)]
      rw [← this]


theorem sorted_nodup {S : List PlaceV} (hS : Sorted S) : S.Nodup := by
  unfold List.Nodup
  exact List.Pairwise.imp (fun {a b} (h : ltP a b) (e : a = b) => ltP_irrefl b (by rw [e] at h; exact h)) hS
theorem roundP_nodup {S : List PlaceV} (hS : Sorted S) (last : PlaceV) (begun : Bool) : (roundP S last begun).Nodup := by
  unfold roundP
  split
  · have h := sorted_nodup hS
    rw [sorted_split S hS last] at h
    exact (List.perm_append_comm.nodup_iff).1 h
  · exact sorted_nodup hS

/-- R is a turn of S. -/
def Turn (S R : List PlaceV) : Prop := ∃ A B, R = A ++ B ∧ S = B ++ A
theorem roundP_turn {S : List PlaceV} (hS : Sorted S) (last : PlaceV) (begun : Bool) : Turn S (roundP S last begun) := by
  unfold roundP
  split
  · exact ⟨_, _, rfl, sorted_split S hS last⟩
  · exact ⟨[], S, rfl, by simp⟩
/-- At one of them: all behind it, then the others, itself the last. -/
theorem roundP_at {U V : List PlaceV} {x : PlaceV} (hS : Sorted (U ++ x :: V)) : roundP (U ++ x :: V) x true = V ++ U ++ [x] := by
  have h := List.pairwise_append.1 hS
  obtain ⟨h1, h2, h3⟩ := h
  obtain ⟨h4, h5⟩ := List.pairwise_cons.1 h2
  have hU : ∀ y ∈ U, ¬ ltP x y := fun y hy => ltP_asymm (h3 y hy x (by simp))
  have e1 : U.filter (fun y => decide (ltP x y)) = [] := by rw [List.filter_eq_nil_iff]; intro y hy; simp [hU y hy]
  have e2 : U.filter (fun y => !decide (ltP x y)) = U := by rw [List.filter_eq_self]; intro y hy; simp [hU y hy]
  have e3 : V.filter (fun y => decide (ltP x y)) = V := by rw [List.filter_eq_self]; intro y hy; simp [h4 y hy]
  have e4 : V.filter (fun y => !decide (ltP x y)) = [] := by rw [List.filter_eq_nil_iff]; intro y hy; simp [h4 y hy]
  unfold roundP
  rw [if_pos rfl, List.filter_append, List.filter_append, List.filter_cons, List.filter_cons, e1, e2, e3, e4]
  simp [ltP_irrefl]
/-- The next one behind one of a turn is the next one of the turn, round. -/
theorem turn_next {S R : List PlaceV} (hS : Sorted S) (hR : Turn S R) {P Q : List PlaceV} {x : PlaceV} (hx : R = P ++ x :: Q) : (roundP S x true).head? = (Q ++ P ++ [x]).head? := by
  obtain ⟨A, B, rfl, rfl⟩ := hR
  rcases List.append_eq_append_iff.1 hx with ⟨C, rfl, h2⟩ | ⟨C, h1, h2⟩
  · -- x lies in B
    subst h2
    rw [List.append_assoc, List.cons_append] at hS
    have e := roundP_at hS
    rw [List.append_assoc, List.cons_append, e]
    cases Q with
    | nil => cases A <;> simp
    | cons q Q => simp
  · cases C with
    | nil =>
      simp only [List.append_nil, List.nil_append] at h1 h2
      subst h1 h2
      have hS' : Sorted ([] ++ x :: (Q ++ A)) := by simpa using hS
      have e := roundP_at hS'
      rw [List.nil_append] at e
      rw [List.cons_append, e]
      cases Q with
      | nil => cases A <;> simp
      | cons q Q => simp
    | cons c C =>
      rw [List.cons_append] at h2
      injection h2 with h3 h4
      subst h3 h1 h4
      rw [← List.append_assoc] at hS
      have e := roundP_at hS
      rw [← List.append_assoc, e]
      cases C with
      | nil => cases B <;> simp
      | cons q Q => simp

/-- The least of those that p lets by. -/
def IsMin (p : PlaceV → Bool) (l : List PlaceV) (b : PlaceV) : Prop := b ∈ l ∧ p b = true ∧ ∀ x ∈ l, p x = true → ¬ ltP x b
theorem isMin_unique {p : PlaceV → Bool} {l l' : List PlaceV} {a b : PlaceV} (hm : ∀ x, x ∈ l ↔ x ∈ l') (ha : IsMin p l a) (hb : IsMin p l' b) : a = b := by
  rcases ltP_total a b with h | h | h
  · exact absurd h (hb.2.2 a ((hm a).1 ha.1) ha.2.1)
  · exact h
  · exact absurd h (ha.2.2 b ((hm b).2 hb.1) hb.2.1)
theorem filter_head_min {S : List PlaceV} (hS : Sorted S) (p : PlaceV → Bool) {b : PlaceV} (h : (S.filter p).head? = some b) : IsMin p S b := by
  have hb : b ∈ S.filter p := List.mem_of_mem_head? (by rw [h]; rfl)
  refine ⟨(List.mem_filter.1 hb).1, (List.mem_filter.1 hb).2, fun x hx hpx hlt => ?_⟩
  have hF : Sorted (S.filter p) := hS.filter p
  cases hf : S.filter p with
  | nil => rw [hf] at hb; simp at hb
  | cons a r =>
    rw [hf] at h hF
    simp only [List.head?_cons, Option.some.injEq] at h
    subst h
    have hxm : x ∈ a :: r := by rw [← hf]; exact List.mem_filter.2 ⟨hx, hpx⟩
    rcases List.mem_cons.1 hxm with rfl | hxr
    · exact ltP_irrefl _ hlt
    · exact ltP_asymm hlt ((List.pairwise_cons.1 hF).1 x hxr)


/-! Fairness. -/
def ob (begun : Bool) (last x : PlaceV) : Nat := if begun = true ∧ ¬ ltP last x then 1 else 0
def ix (pos x : PlaceV) : Nat := if ltP pos x then 0 else 1
/-- What each had, behind some turns: m times round. -/
def Fair (begun : Bool) (last : PlaceV) (stay : List PlaceV) (had : PlaceV → Nat) (pos : PlaceV) : Prop :=
  ∃ m, (∀ x, had x + ob begun last x ≤ m + ix pos x) ∧ ∀ x ∈ stay, had x + ob begun last x = m + ix pos x
def upd (had : PlaceV → Nat) (p : PlaceV) : PlaceV → Nat := fun x => had x + if x = p then 1 else 0
theorem fair_start (last : PlaceV) (stay : List PlaceV) : Fair true last stay (fun _ => 0) last := by
  refine ⟨0, fun x => ?_, fun x _ => ?_⟩
  · unfold ob ix; by_cases h : ltP last x <;> simp [h]
  · unfold ob ix; by_cases h : ltP last x <;> simp [h]
theorem fair_first {last : PlaceV} {stay l : List PlaceV} (hs : ∀ x ∈ stay, x ∈ l) {p : PlaceV} (hp : IsMin (fun _ => true) l p) : Fair false last stay (upd (fun _ => 0) p) p := by
  refine ⟨0, fun x => ?_, fun x hx => ?_⟩
  · unfold ob ix upd
    by_cases e : x = p
    · subst e; simp [ltP_irrefl]
    · simp [e]
  · unfold ob ix upd
    by_cases e : x = p
    · subst e; simp [ltP_irrefl]
    · have h1 := hp.2.2 x (hs x hx) rfl
      have h2 : ltP p x := by
        rcases ltP_total x p with h | h | h
        · exact absurd h h1
        · exact absurd h e
        · exact h
      simp [e, h2]
theorem fair_step {begun : Bool} {last pos p : PlaceV} {stay l : List PlaceV} {had : PlaceV → Nat} (h : Fair begun last stay had pos) (hs : ∀ x ∈ stay, x ∈ l)
    (hp : IsMin (fun x => decide (ltP pos x)) l p ∨ ((∀ x ∈ l, ¬ ltP pos x) ∧ IsMin (fun _ => true) l p)) : Fair begun last stay (upd had p) p := by
  obtain ⟨m, h1, h2⟩ := h
  rcases hp with hp | ⟨hno, hp⟩
  · have hpp : ltP pos p := by simpa using hp.2.1
    refine ⟨m, fun x => ?_, fun x hx => ?_⟩
    · have := h1 x
      unfold upd
      by_cases e : x = p
      · subst e
        simp only [ix, hpp, ltP_irrefl, if_true, if_false] at this ⊢
        omega
      · have hi : ix pos x ≤ ix p x := by
          unfold ix
          by_cases h3 : ltP p x
          · simp [h3, ltP_trans hpp h3]
          · simp only [h3, if_false]; split <;> omega
        simp only [e, if_false]
        omega
    · have := h2 x hx
      unfold upd
      by_cases e : x = p
      · subst e
        simp only [ix, hpp, ltP_irrefl, if_true, if_false] at this ⊢
        omega
      · have hi : ix pos x = ix p x := by
          unfold ix
          by_cases h3 : ltP p x
          · simp [h3, ltP_trans hpp h3]
          · have h4 : ¬ ltP pos x := fun h4 => by
              rcases ltP_total x p with h5 | h5 | h5
              · exact hp.2.2 x (hs x hx) (by simpa using h4) h5
              · exact e h5
              · exact h3 h5
            simp [h3, h4]
        simp only [e, if_false]
        omega
  · have hnp : ¬ ltP pos p := hno p hp.1
    refine ⟨m + 1, fun x => ?_, fun x hx => ?_⟩
    · have := h1 x
      unfold upd
      by_cases e : x = p
      · subst e
        simp only [ix, hnp, ltP_irrefl, if_false, if_true] at this ⊢
        omega
      · simp only [e, if_false]
        have : ix pos x ≤ 1 := by unfold ix; split <;> omega
        omega
    · have := h2 x hx
      have hnx : ¬ ltP pos x := hno x (hs x hx)
      unfold upd
      by_cases e : x = p
      · subst e
        simp only [ix, hnp, ltP_irrefl, if_false, if_true] at this ⊢
        omega
      · have h3 : ltP p x := by
          rcases ltP_total x p with h5 | h5 | h5
          · exact absurd h5 (hp.2.2 x (hs x hx) rfl)
          · exact absurd h5 e
          · exact h5
        simp only [ix, hnx, h3, e, if_false, if_true] at this ⊢
        omega
/-- None had two more than one that stays. -/
theorem fair_near {begun : Bool} {last pos : PlaceV} {stay : List PlaceV} {had : PlaceV → Nat} (h : Fair begun last stay had pos) {y : PlaceV} (hy : y ∈ stay) (x : PlaceV) : had x ≤ had y + 1 := by
  obtain ⟨m, h1, h2⟩ := h
  have a := h1 x
  have b := h2 y hy
  unfold ob ix at a b
  by_cases hx1 : ltP pos x
  · by_cases hy1 : ltP pos y
    · simp only [hx1, hy1, if_true] at a b
      split at a <;> split at b <;> omega
    · simp only [hx1, hy1, if_true, if_false] at a b
      split at a <;> split at b <;> omega
  · by_cases hy1 : ltP pos y
    · simp only [hx1, hy1, if_true, if_false] at a b
      by_cases ho : begun = true ∧ ¬ ltP last y
      · have hxx : begun = true ∧ ¬ ltP last x := ⟨ho.1, fun hlx => ho.2 (by
          have hxp : ltP x y := by
            rcases ltP_total x pos with h5 | h5 | h5
            · exact ltP_trans h5 hy1
            · rw [h5]; exact hy1
            · exact absurd h5 hx1
          exact ltP_trans hlx hxp)⟩
        rw [if_pos ho] at b
        rw [if_pos hxx] at a
        omega
      · rw [if_neg ho] at b
        split at a <;> omega
    · simp only [hx1, hy1, if_false] at a b
      split at a <;> split at b <;> omega
/-- The picks of some turns, counted. -/
theorem nodup_short {α : Type} [DecidableEq α] : ∀ (ps l : List α), ps.Nodup → (∀ x ∈ ps, x ∈ l) → ps.length ≤ l.length
  | [], l, _, _ => Nat.zero_le _
  | p :: ps, l, hn, hs => by
    obtain ⟨h1, h2⟩ := List.nodup_cons.1 hn
    have hpl := hs p (by simp)
    have := nodup_short ps (l.erase p) h2 (fun x hx => by
      have hne : x ≠ p := fun e => h1 (e ▸ hx)
      exact (List.mem_erase_of_ne hne).2 (hs x (by simp [hx])))
    rw [List.length_erase_of_mem hpl] at this
    have : 0 < l.length := List.length_pos_of_mem hpl
    simp only [List.length_cons]
    omega
def countOf (ps : List PlaceV) : PlaceV → Nat := fun x => ps.count x
theorem countOf_snoc (ps : List PlaceV) (p : PlaceV) : countOf (ps ++ [p]) = upd (countOf ps) p := by
  funext x
  unfold countOf upd
  rw [List.count_append]
  congr 1
  simp only [List.count_cons, List.count_nil]
  by_cases e : x = p
  · subst e; simp
  · have : ¬ p = x := fun h => e h.symm
    simp [e, this]
theorem fair_all {begun : Bool} {last pos : PlaceV} {stay uni ps : List PlaceV} (h : Fair begun last stay (countOf ps) pos) (hu : ∀ x ∈ ps, x ∈ uni) (hl : uni.length < ps.length) : ∀ y ∈ stay, 0 < countOf ps y := by
  intro y hy
  rcases Nat.eq_zero_or_pos (countOf ps y) with h0 | h0
  · exfalso
    have hn : ps.Nodup := by
      rw [List.nodup_iff_count]
      intro x
      have := fair_near h hy x
      rw [h0] at this
      exact this
    have := nodup_short ps uni hn hu
    omega
  · exact h0


/-! Order. -/
theorem round_falls {S : List PlaceV} (hS : Sorted S) (last : PlaceV) {R : List PlaceV} (hR : roundP S last true = R) : ∃ k, k ≤ R.length ∧ ∀ (i : Nat) (h : i + 1 < R.length),
    (i + 1 ≠ k → ltP R[i] R[i + 1]) ∧ (i + 1 = k → ltP last R[i] ∧ ¬ ltP last R[i + 1]) := by
  obtain ⟨A, hA⟩ : ∃ A, S.filter (fun x => decide (ltP last x)) = A := ⟨_, rfl⟩
  obtain ⟨B, hB⟩ : ∃ B, S.filter (fun x => !decide (ltP last x)) = B := ⟨_, rfl⟩
  have e : roundP S last true = A ++ B := by rw [← hA, ← hB]; unfold roundP; rw [if_pos rfl]
  have sA : Sorted A := by rw [← hA]; exact hS.filter _
  have sB : Sorted B := by rw [← hB]; exact hS.filter _
  have mA : ∀ x ∈ A, ltP last x := fun x hx => by rw [← hA] at hx; simpa using (List.mem_filter.1 hx).2
  have mB : ∀ x ∈ B, ¬ ltP last x := fun x hx => by rw [← hB] at hx; simpa using (List.mem_filter.1 hx).2
  rw [e] at hR
  subst hR
  refine ⟨A.length, by simp, fun i h => ⟨fun hne => ?_, fun heq => ?_⟩⟩
  · simp only [List.length_append] at h
    by_cases hi : i + 1 < A.length
    · rw [List.getElem_append_left (by omega), List.getElem_append_left hi]
      exact List.pairwise_iff_getElem.1 sA i (i + 1) (by omega) hi (by omega)
    · rw [List.getElem_append_right (by omega), List.getElem_append_right (by omega)]
      exact List.pairwise_iff_getElem.1 sB _ _ (by omega) (by omega) (by omega)
  · simp only [List.length_append] at h
    rw [List.getElem_append_left (by omega), List.getElem_append_right (by omega)]
    exact ⟨mA _ (List.getElem_mem _), mB _ (List.getElem_mem _)⟩
theorem count_one {R : List PlaceV} (hn : R.Nodup) {x : PlaceV} (hx : x ∈ R) : R.count x = 1 := by
  have h1 := List.nodup_iff_count.1 hn x
  have h2 := List.count_pos_iff.2 hx
  omega

end Go.Proofs.Ytekdggdnkmkldaa
