/- Maps by places: numbers at places. -/
import Derived.Test.YtekdggdnkmkldaaMapEnt
import Derived.Test.YtekdggdnkmkldaaSchedB
import Derived.Maps.RangeWalk
namespace Go.Proofs.Ytekdggdnkmkldaa
set_option linter.unusedVariables false
set_option linter.unusedSimpArgs false
set_option maxRecDepth 1500
open Go.RowKit Go.Maps
open Go.WideMaps (KeyLaw)

/-- A place that a program can hold. -/
def PlaceV.okay (p : PlaceV) : Prop := (-9223372036854775808 ≤ p.flow ∧ p.flow < 9223372036854775808) ∧ p.gen < 18446744073709551616
set_option maxRecDepth 100000 in
theorem lawPl : KeyLaw Try.prog 31 := deep_law (P := Try.prog) (m := 10) (by decide) (k := 31) (by kernel_rfl) (by kernel_rfl) (by kernel_rfl)
theorem keyedPl : Keyed Try.prog 31 := Keyed.of_law lawPl
theorem keyTypePl : Try.prog.keyType 31 = true := by kernel_rfl
theorem wfPl1 {n : Int} (h : -9223372036854775808 ≤ n ∧ n < 9223372036854775808) : (Lit.int .i64 n).wf = true := by
  simp only [Lit.wf, Bool.and_eq_true, decide_eq_true_eq]
  have h1 : IntKind.i64.min = -9223372036854775808 := rfl
  have h2 : IntKind.i64.max = 9223372036854775807 := rfl
  omega
theorem wfPl2 {n : Nat} (h : n < 18446744073709551616) : (Lit.int .u64 (n : Int)).wf = true := by
  simp only [Lit.wf, Bool.and_eq_true, decide_eq_true_eq]
  have h1 : IntKind.u64.min = 0 := rfl
  have h2 : IntKind.u64.max = 18446744073709551615 := rfl
  omega
theorem wfPl1' {n : Int} (h : (Lit.int .i64 n).wf = true) : -9223372036854775808 ≤ n ∧ n < 9223372036854775808 := by
  simp only [Lit.wf, Bool.and_eq_true, decide_eq_true_eq] at h
  have h1 : IntKind.i64.min = -9223372036854775808 := rfl
  have h2 : IntKind.i64.max = 9223372036854775807 := rfl
  omega
theorem wfPl2' {n : Int} (h : (Lit.int .u64 n).wf = true) : 0 ≤ n ∧ n < 18446744073709551616 := by
  simp only [Lit.wf, Bool.and_eq_true, decide_eq_true_eq] at h
  have h1 : IntKind.u64.min = 0 := rfl
  have h2 : IntKind.u64.max = 18446744073709551615 := rfl
  omega
theorem cellsPlk : Try.prog.cellsOf 31 = 2 := by kernel_rfl
theorem cellsIk : Try.prog.cellsOf 3 = 1 := by kernel_rfl
theorem cellsUk : Try.prog.cellsOf 27 = 1 := by kernel_rfl
theorem keyPl (p : PlaceV) (h : p.okay) : ∃ kl, keyOf Try.prog 31 (.agg #[.int .i64 p.flow, .int .u64 p.gen]) = some kl := by
  unfold keyOf
  rw [Try.underlying31]
  simp only [keyTypePl, Bool.true_and]
  have hf : (Value.agg #[.int .i64 p.flow, .int .u64 (p.gen : Int)]).formed Try.prog 31 = true := by
    kernel_rfl
  rw [if_pos hf]
  obtain ⟨d, hd⟩ : ∃ d, Try.prog.types.size = d + 1 := Nat.exists_eq_succ_of_ne_zero (fun h => by
    have : (Try.prog.types.size == 0) = false := by kernel_rfl
    rw [h] at this
    cases this)
  rw [hd]
  have h2 : (Value.agg #[.int .i64 p.flow, .int .u64 (p.gen : Int)]).cells.toList = [.int .i64 p.flow, .int .u64 (p.gen : Int)] := rfl
  rw [h2]
  have h1 : Try.prog.keyLits (d + 1 + 1) 31 [.int .i64 p.flow, .int .u64 (p.gen : Int)] = some [.int .i64 p.flow, .int .u64 p.gen] := by
    have e1 : Try.prog.keyLits (d + 1) 3 [.int .i64 p.flow] = some [.int .i64 p.flow] := by
      simp only [Program.keyLits, Try.underlying3, wfPl1 h.1, and_self, if_true]
    have e2 : Try.prog.keyLits (d + 1) 27 [.int .u64 (p.gen : Int)] = some [.int .u64 p.gen] := by
      simp only [Program.keyLits, Try.underlying27, wfPl2 h.2, and_self, if_true]
    simp [Program.keyLits, Try.underlying31, Try.underlying3, Try.underlying27, cellsPlk, cellsIk, cellsUk, wfPl1 h.1, wfPl2 h.2]
  rw [h1]
  exact ⟨_, rfl⟩
theorem keyLits_int {d : Nat} {T : TypeId} {q : IntKind} (hT : Try.prog.underlying T = some (.int q)) {c : Value} {l : List Lit} (h : Try.prog.keyLits (d + 1) T [c] = some l) : ∃ n, c = .int q n ∧ (Lit.int q n).wf = true := by
  cases c <;> simp [Program.keyLits, hT] at h
  obtain ⟨⟨rfl, hw⟩, _⟩ := h
  exact ⟨_, rfl, hw⟩
theorem keyLits_two (d : Nat) (c0 c1 : Value) : Try.prog.keyLits (d + 1) 31 [c0, c1] = (Try.prog.keyLits d 3 [c0]).bind fun a => (Try.prog.keyLits d 27 [c1]).bind fun b => some (a ++ b) := by
  rw [Program.keyLits.eq_def]
  simp only [Try.underlying31]
  simp [cellsPlk, cellsIk, cellsUk]
  cases Try.prog.keyLits d 3 [c0] with
  | none => rfl
  | some a => cases Try.prog.keyLits d 27 [c1] <;> simp
theorem keyPl_inv {v : Value} {kl : Lit} (h : keyOf Try.prog 31 v = some kl) : ∃ p : PlaceV, p.okay ∧ v = .agg #[.int .i64 p.flow, .int .u64 p.gen] := by
  unfold keyOf at h
  rw [Try.underlying31] at h
  simp only [keyTypePl, Bool.true_and] at h
  split at h
  · rename_i hf
    obtain ⟨d, hd⟩ : ∃ d, Try.prog.types.size = d + 1 := Nat.exists_eq_succ_of_ne_zero (fun h => by
      have : (Try.prog.types.size == 0) = false := by kernel_rfl
      rw [h] at this
      cases this)
    rw [hd] at h
    cases v with
    | agg cs =>
      have hs : cs.size = 2 := by
        simp only [Value.formed, Try.underlying31, cellsPlk] at hf
        simpa using hf
      obtain ⟨c0, c1, rfl⟩ : ∃ c0 c1, cs = #[c0, c1] := by
        obtain ⟨l⟩ := cs
        match l, hs with
        | [c0, c1], _ => exact ⟨c0, c1, rfl⟩
      have h2 : (Value.agg #[c0, c1]).cells.toList = [c0, c1] := rfl
      rw [h2] at h
      cases h0 : Try.prog.keyLits (d + 1) 3 [c0] with
      | none =>
        rw [keyLits_two, h0] at h
        cases h
      | some l0 =>
        cases h1 : Try.prog.keyLits (d + 1) 27 [c1] with
        | none =>
          rw [keyLits_two, h0, h1] at h
          cases h
        | some l1 =>
          obtain ⟨n, rfl, w0⟩ := keyLits_int Try.underlying3 h0
          obtain ⟨m, rfl, w1⟩ := keyLits_int Try.underlying27 h1
          have b1 := wfPl2' w1
          obtain ⟨g, rfl⟩ := Int.eq_ofNat_of_zero_le b1.1
          exact ⟨⟨n, g⟩, ⟨wfPl1' w0, by show g < _; omega⟩, rfl⟩
    | _ => simp [Value.formed, Try.underlying31] at hf
  · cases h

/-- T: a map by places of numbers of kind q. -/
structure MapT (T E : TypeId) (q : IntKind) : Prop where
  ht : Try.prog.underlying T = some (.map 31 E)
  he : Try.prog.underlying E = some (.int q)
  hz : ∀ w : World, (zeroValue E).run Try.prog w = .ok (.int q 0) w
/-- The block b is a map of at most n entries: u tells what stands at each place. -/
def MapQ (E : TypeId) (q : IntKind) (w : World) (b n : Nat) (u : PlaceV → Int) : Prop := ∃ D : DataW Unit, w.ownsMap Try.prog 31 (plainElem Try.prog E) b n D ∧ IsMap D ∧ ∀ p : PlaceV, p.okay → ∀ kl, keyOf Try.prog 31 (.agg #[.int .i64 p.flow, .int .u64 p.gen]) = some kl → D.atKey kl (.lit (.int q 0)) = .lit (.int q (u p))
def setQ (u : PlaceV → Int) (p : PlaceV) (x : Int) : PlaceV → Int := fun z => if z = p then x else u z
theorem Ext.ownsMapP {H : Type} {S : Nat → Prop} {w w' : World} {P : Program} {k : TypeId} {R : Value → Option (DataW H × List MemPlace)} {b n : Nat} {D : DataW H} (e : Ext S w w') (h : w.ownsMap P k R b n D) (hb : ¬ S b) : w'.ownsMap P k R b n D := by
  have hlt := h.lt
  obtain ⟨es, clock, h1, h2⟩ := h
  exact ⟨es, clock, (e.block b hlt hb).trans h1, h2⟩
section
variable {T E : TypeId} {q : IntKind} {w w' : World} {b n : Nat} {u : PlaceV → Int}
theorem mapQ_made (w : World) : MapQ E q (w.alloc (.map #[] 0)) w.heap.size 0 (fun _ => 0) := ⟨_, World.ownsMap_made w _ _ _, isMap_empty, fun p _ kl _ => rfl⟩
theorem MapQ.ext {S : Nat → Prop} (h : MapQ E q w b n u) (e : Ext S w w') (hb : ¬ S b) : MapQ E q w' b n u := by
  obtain ⟨D, h1, h2⟩ := h
  exact ⟨D, e.ownsMapP h1 hb, h2⟩
theorem MapQ.mono {m : Nat} (h : MapQ E q w b n u) (hn : n ≤ m) : MapQ E q w b m u := by
  obtain ⟨D, h1, h2⟩ := h
  exact ⟨D, h1.mono hn, h2⟩
theorem MapQ.lt (h : MapQ E q w b n u) : b < w.heap.size := by
  obtain ⟨D, h1, _⟩ := h
  exact h1.lt
theorem MapQ.look (M : MapT T E q) (h : MapQ E q w b n u) (p : PlaceV) (hp : p.okay) : (Instr.lookup T (.map (some b)) (.agg #[.int .i64 p.flow, .int .u64 p.gen]) false).run Try.prog w = .ok (.int q (u p)) w := by
  obtain ⟨D, h1, _, h3⟩ := h
  obtain ⟨kl, hkl⟩ := keyPl p hp
  obtain ⟨c, hrun, hat, _⟩ := h1.lookup_int keyedPl M.ht M.he (M.hz w) hkl
  have h4 := (h3 p hp kl hkl).symm.trans hat
  have h5 : u p = c := (Lit.int.inj (DataW.lit.inj h4)).2
  rw [hrun, h5]
theorem MapQ.put {D : DataW Unit} (h2 : IsMap D) (h3 : ∀ p : PlaceV, p.okay → ∀ kl, keyOf Try.prog 31 (.agg #[.int .i64 p.flow, .int .u64 p.gen]) = some kl → D.atKey kl (.lit (.int q 0)) = .lit (.int q (u p))) (p : PlaceV) (x : Int) {kl : Lit} (hkl : keyOf Try.prog 31 (.agg #[.int .i64 p.flow, .int .u64 p.gen]) = some kl)
    (h1 : w'.ownsMap Try.prog 31 (plainElem Try.prog E) b n (D.put kl (.lit (.int q x)))) : MapQ E q w' b n (setQ u p x) := by
  refine ⟨_, h1, h2.put _ _, fun z hz kl' hkl' => ?_⟩
  unfold setQ
  by_cases e : z = p
  · subst e
    rw [hkl] at hkl'
    cases hkl'
    rw [if_pos rfl]
    exact atKey_put_same h2 (keyedPl.key hkl) _ _
  · rw [if_neg e, atKey_put_other, h3 z hz kl' hkl']
    rintro rfl
    have h9 := keyedPl.inj hkl' hkl
    simp only [Value.agg.injEq, Array.mk.injEq, List.cons.injEq, Value.int.injEq, true_and, and_true] at h9
    exact e (PlaceV.ext' h9.1 (by have := h9.2; omega))
/-- 'm[p] = x' in two steps. -/
theorem MapQ.entry (M : MapT T E q) (h : MapQ E q w b n u) (hn : n < maxLen) (p : PlaceV) (hp : p.okay) :
    ∃ (v0 : Value) (st : Nat) (w1 : World), (Instr.mapEntry T (.map (some b)) (.agg #[.int .i64 p.flow, .int .u64 p.gen])).run Try.prog w = .ok (.tuple #[v0, goInt st]) w1 ∧ Ext (fun k => k = b) w w1 ∧ MapQ E q w1 b (n + 1) u ∧
      ∀ (w2 : World) (x : Int), w2.heap[b]? = w1.heap[b]? → (Lit.int q x).wf = true → ∃ w3, (Instr.entryStore T (.map (some b)) (goInt st) (.int q x)).run Try.prog w2 = .ok () w3 ∧ MapQ E q w3 b (n + 1) (setQ u p x) ∧ Ext (fun k => k = b) w2 w3 := by
  obtain ⟨D, h1, h2, h3⟩ := h
  obtain ⟨kl, hkl⟩ := keyPl p hp
  obtain ⟨v0, st, w1, hr, hg, _, ⟨D1, o1, m1, a1⟩, hs⟩ := mapEntry_own h1 h2 lawPl M.ht M.he M.hz hn hkl
  refine ⟨v0, st, w1, hr, Ext.of_grown hg (fun k hk => (Option.some.inj hk).symm), ⟨D1, o1, m1, fun z hz kl' hk' => (a1 kl').trans (h3 z hz kl' hk')⟩, fun w2 x hw2 hx => ?_⟩
  obtain ⟨w3, hr3, o3, g3⟩ := hs w2 _ _ [] hw2 (plainElem_int M.he hx)
  exact ⟨w3, hr3, MapQ.put h2 h3 p x hkl o3, Ext.of_grown g3 (fun k hk => (Option.some.inj hk).symm)⟩
end
end Go.Proofs.Ytekdggdnkmkldaa
