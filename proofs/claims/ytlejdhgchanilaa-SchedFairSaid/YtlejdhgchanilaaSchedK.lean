/- SchedFair: places with their bounds as arguments; what the turns keep. -/
import Derived.Test.YtlejdhgchanilaaSchedArgs
import Derived.Test.YtlejdhgchanilaaMapPl
namespace Go.Proofs.Ytlejdhgchanilaa
set_option linter.unusedVariables false
set_option linter.unusedSimpArgs false
open Go.ChangeShapes Go.WideShapes Go.ChangeAt Go.RowKit

set_option maxRecDepth 100000 in
theorem Rd.placek {H : Type} {enc : TypeId × Value → H} {w : World} {base : Nat} {cs : List Value} (h : Rd enc Try.prog w base 25 cs) : ∃ p : PlaceV, p.okay ∧ cs = [.int .i64 p.flow, .int .u64 p.gen] := by
  obtain ⟨hc, hf⟩ := h.fields Try.underlying25
  rw [cellsPl] at hc
  match cs, hc with
  | [c0, c1], _ =>
  have f0 : Rd enc Try.prog w _ 3 ((([c0, c1] : List Value).drop 0).take (Try.prog.cellsOf 3)) := hf 0 _ rfl
  have f1 : Rd enc Try.prog w _ 23 ((([c0, c1] : List Value).drop 1).take (Try.prog.cellsOf 23)) := hf 1 _ rfl
  simp only [cellsIntP, cellsU64P, List.drop_zero, List.drop_succ_cons, List.take_succ_cons, List.take_zero] at f0 f1
  obtain ⟨x0, h0, w0⟩ := f0.int Try.underlying3
  obtain ⟨x1, h1, w1⟩ := f1.int Try.underlying23
  simp only [List.cons.injEq, and_true] at h0 h1
  subst h0 h1
  have b1 := wfPl2' w1
  obtain ⟨n1, rfl⟩ := Int.eq_ofNat_of_zero_le b1.1
  exact ⟨⟨x0, n1⟩, ⟨wfPl1' w0, by show n1 < _; omega⟩, rfl⟩
def PlaceK (v : Value) (p : PlaceV) : Prop := PlaceA v p ∧ p.okay
set_option maxRecDepth 100000 in
theorem open_placek {H : Type} {enc : TypeId × Value → H} {W : World} {base b' : Nat} {v : Value} {d : DataW H} {p : List MemPlace} {ts : List TypeId} {ds : List (DataW H)} {j : Nat}
    (hv : Value.okWide Try.prog W .any b' 25 v) (h : DataW.Trod enc Try.prog W base (fun _ => true) true 25 v d p)
    (hsz : (DataW.weightsEach Try.prog ts ds).all (· ≤ reachBytes) = true) (hj : ts[j]? = some 25) (hd : ds[j]? = some d) : ∃ p, PlaceK v p := by
  obtain ⟨cs, rfl, hcs⟩ := okWide_struct Try.underlying25 hv
  have h := Rd.of_arg h hsz hj hd
  obtain ⟨p, h0, h1⟩ := h.placek
  refine ⟨p, ?_, h0⟩
  have h3 : (Value.agg cs).cells = cs := rfl
  rw [h3] at h1
  unfold PlaceA
  congr 1
  exact Array.toList_inj.1 h1
def PlacesK (w : World) (v : Value) (l : List PlaceV) : Prop := Places w v l ∧ ∀ p ∈ l, p.okay
set_option maxRecDepth 100000 in
theorem open_placesk {H : Type} {enc : TypeId × Value → H} {W : World} {base b' : Nat} {v : Value} {d : DataW H} {p : List MemPlace} {ts : List TypeId} {ds : List (DataW H)} {j : Nat}
    (hv : Value.okWide Try.prog W .any b' 22 v) (h : DataW.Trod enc Try.prog W base (fun _ => true) true 22 v d p)
    (hsz : (DataW.weightsEach Try.prog ts ds).all (· ≤ reachBytes) = true) (hj : ts[j]? = some 22) (hd : ds[j]? = some d) : ∃ l, PlacesK W v l := by
  obtain ⟨a, len, cap, hvv⟩ := okWide_slice Try.underlying22 hv
  have h := Rd.of_arg h hsz hj hd
  rw [cells_one hvv] at h
  obtain ⟨n, cap, ⟨a, rfl⟩, hl, hw, hs⟩ := h.sliceR Try.underlying22 cellsPl (by omega)
  rw [bytesPl] at hw
  have hs2 := hs.mono (R' := fun _ cs => ∃ o : PlaceV, o.okay ∧ cs = [.int .i64 o.flow, .int .u64 o.gen]) (fun i cs _ _ hr => hr.placek)
  obtain ⟨l, hlen, hs3⟩ := hs2.choose
  subst hlen
  refine ⟨l, ⟨hs3.mono (fun i cs _ _ ⟨p, h1, h2, h3⟩ => ⟨p, h1, h3⟩), by simp only [reachBytes] at hw; omega⟩, fun p hp => ?_⟩
  obtain ⟨i, hi, rfl⟩ := List.getElem_of_mem hp
  rcases hs3 with ⟨_, _, _, h2⟩ | ⟨b, off, cap', _, _, _, _, h5⟩
  · omega
  · obtain ⟨cs, _, ⟨q, h6, h7, _⟩, _⟩ := h5 i hi
    rw [List.getElem?_eq_getElem hi] at h6
    obtain rfl := Option.some.inj h6
    exact h7
set_option maxRecDepth 100000 in
theorem open_bytesk {H : Type} {enc : TypeId × Value → H} {W : World} {base b' : Nat} {v : Value} {d : DataW H} {p : List MemPlace} {ts : List TypeId} {ds : List (DataW H)} {j : Nat}
    (hv : Value.okWide Try.prog W .any b' 40 v) (h : DataW.Trod enc Try.prog W base (fun _ => true) true 40 v d p)
    (hsz : (DataW.weightsEach Try.prog ts ds).all (· ≤ reachBytes) = true) (hj : ts[j]? = some 40) (hd : ds[j]? = some d) : ∃ xs, Bytes W v xs := by
  obtain ⟨a, len, cap, hvv⟩ := okWide_slice Try.underlying40 hv
  have h := Rd.of_arg h hsz hj hd
  rw [cells_one hvv] at h
  exact h.bytes

theorem IsMin.of {p : PlaceV → Bool} {S l : List PlaceV} {b : PlaceV} (hm : ∀ x, x ∈ S ↔ x ∈ l) (h : IsMin p S b) : IsMin p l b := ⟨(hm b).1 h.1, h.2.1, fun x hx => h.2.2 x ((hm x).2 hx)⟩
theorem pick_min {S l : List PlaceV} (hS : InOrder S l) {last p : PlaceV} {b : Bool} (h : (roundP S last b).head? = some p) :
    (b = false → IsMin (fun _ => true) l p) ∧ (b = true → IsMin (fun x => decide (ltP last x)) l p ∨ ((∀ x ∈ l, ¬ ltP last x) ∧ IsMin (fun _ => true) l p)) := by
  refine ⟨fun hb => ?_, fun hb => ?_⟩
  · subst hb
    unfold roundP at h
    rw [if_neg (by simp)] at h
    refine IsMin.of hS.2 (filter_head_min hS.1 _ ?_)
    rw [List.filter_eq_self.2 (by simp)]
    exact h
  · subst hb
    have e := sorted_split S hS.1 last
    unfold roundP at h
    rw [if_pos rfl] at h
    cases hA : S.filter (fun x => decide (ltP last x)) with
    | nil =>
      rw [hA, List.append_nil] at e
      rw [hA, List.nil_append, ← e] at h
      have hno : ∀ x ∈ S, ¬ ltP last x := fun x hx hlt => by
        have : x ∈ S.filter (fun x => decide (ltP last x)) := List.mem_filter.2 ⟨hx, by simpa using hlt⟩
        rw [hA] at this; cases this
      refine .inr ⟨fun x hx => hno x ((hS.2 x).2 hx), IsMin.of hS.2 (filter_head_min hS.1 _ ?_)⟩
      rw [List.filter_eq_self.2 (by simp)]
      exact h
    | cons a r =>
      rw [hA, List.cons_append, List.head?_cons] at h
      refine .inl (IsMin.of hS.2 (filter_head_min hS.1 _ ?_))
      rw [hA]
      exact h

structure FS (stay U : List PlaceV) (begun : Bool) (last : PlaceV) (i : Nat) (ps : List PlaceV) (at_ : PlaceV) : Prop where
  len : ps.length = i
  uni : ∀ x ∈ ps, x ∈ U
  fair : (i = 0 ∧ at_ = last) ∨ (0 < i ∧ Fair begun last stay (countOf ps) at_)
theorem FS.start (stay U : List PlaceV) (begun : Bool) (last : PlaceV) : FS stay U begun last 0 [] last := ⟨rfl, (fun x hx => by cases hx), .inl ⟨rfl, rfl⟩⟩
theorem FS.step {stay U : List PlaceV} {begun : Bool} {last : PlaceV} {i : Nat} {ps : List PlaceV} {at_ : PlaceV} (h : FS stay U begun last i ps at_) {l S : List PlaceV} (hS : InOrder S l) (hs : ∀ x ∈ stay, x ∈ l) (hl : ∀ x ∈ l, x ∈ U) {p : PlaceV}
    (hp : (roundP S at_ (begun || decide (0 < i))).head? = some p) : FS stay U begun last (i + 1) (ps ++ [p]) p ∧ p ∈ l := by
  obtain ⟨h1, h2⟩ := pick_min hS hp
  have hpl : p ∈ l := by
    cases hb : begun || decide (0 < i) with
    | false => exact (h1 hb).1
    | true => rcases h2 hb with h | h; exact h.1; exact h.2.1
  refine ⟨⟨by rw [List.length_append, h.len]; rfl, fun x hx => ?_, .inr ⟨by omega, ?_⟩⟩, hpl⟩
  · rcases List.mem_append.1 hx with hx | hx
    · exact h.uni x hx
    · obtain rfl := List.mem_singleton.1 hx
      exact hl _ hpl
  · rw [countOf_snoc]
    rcases h.fair with ⟨rfl, rfl⟩ | ⟨hi, hf⟩
    · obtain rfl := List.eq_nil_of_length_eq_zero h.len
      cases begun with
      | false =>
        have : countOf [] = fun _ => 0 := by funext x; rfl
        rw [this]
        exact fair_first hs (h1 rfl)
      | true =>
        have : countOf [] = fun _ => 0 := by funext x; rfl
        rw [this]
        exact fair_step (fair_start _ _) hs (h2 rfl)
    · exact fair_step hf hs (h2 (by simp [hi]))
theorem FS.near {stay U : List PlaceV} {begun : Bool} {last : PlaceV} {i : Nat} {ps : List PlaceV} {at_ : PlaceV} (h : FS stay U begun last i ps at_) (hi : 0 < i) {y : PlaceV} (hy : y ∈ stay) (x : PlaceV) : countOf ps x ≤ countOf ps y + 1 := by
  rcases h.fair with ⟨h0, _⟩ | ⟨_, hf⟩
  · omega
  · exact fair_near hf hy x
theorem FS.all {stay U : List PlaceV} {begun : Bool} {last : PlaceV} {i : Nat} {ps : List PlaceV} {at_ : PlaceV} (h : FS stay U begun last i ps at_) (hi : U.length < i) {y : PlaceV} (hy : y ∈ stay) : 0 < countOf ps y := by
  rcases h.fair with ⟨h0, _⟩ | ⟨_, hf⟩
  · omega
  · exact fair_all hf h.uni (by rw [h.len]; exact hi) y hy
end Go.Proofs.Ytlejdhgchanilaa
