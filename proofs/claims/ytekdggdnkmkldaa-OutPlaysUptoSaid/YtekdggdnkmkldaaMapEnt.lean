/- 'm[k]++', 'm[k], x = ..' on a map that the call made: the entry, then the store. -/
import Derived.Test.YtekdggdnkmkldaaBase
import Derived.Maps.OwnOps
import Derived.Maps.Views
import Derived.WideKeyEntry
import Derived.DeepKeys5
namespace Go.Proofs.Ytekdggdnkmkldaa
set_option linter.unusedVariables false
set_option linter.unusedSimpArgs false
set_option maxRecDepth 1500
open Go.RowKit Go.Maps Go.ChangeShapes Go.WideShapes Go.MapKept Go.ChangeMaps Go.WideElems
open Go.WideMaps (KeyLaw)

section
variable {P : Program} {k e t : TypeId} {q : IntKind} {w : World} {b n : Nat} {D : DataW Unit}
/-- The entry at a key, made where there is none: what the map reads as, with nought for what is not there, stays. -/
theorem mapEntry_own (h : w.ownsMap P k (plainElem P e) b n D) (hD : IsMap D) (L : KeyLaw P k) (ht : P.underlying t = some (.map k e)) (he : P.underlying e = some (.int q)) (hz : ∀ u : World, (zeroValue e).run P u = .ok (.int q 0) u) (hn : n < maxLen)
    {key : Value} {kl : Lit} (hkey : keyOf P k key = some kl) :
    ∃ (v0 : Value) (st : Nat) (w1 : World), (Instr.mapEntry t (.map (some b)) key).run P w = .ok (.tuple #[v0, goInt st]) w1 ∧ w.grownBy w1 (some b) ∧ w1.heap.size = w.heap.size ∧
      (∃ D1 : DataW Unit, w1.ownsMap P k (plainElem P e) b (n + 1) D1 ∧ IsMap D1 ∧ ∀ kl', D1.atKey kl' (.lit (.int q 0)) = D.atKey kl' (.lit (.int q 0))) ∧
      ∀ (w2 : World) (val : Value) (d : DataW Unit) (ps : List MemPlace), w2.heap[b]? = w1.heap[b]? → plainElem P e val = some (d, ps) → ∃ w3, (Instr.entryStore t (.map (some b)) (goInt st) val).run P w2 = .ok () w3 ∧ w3.ownsMap P k (plainElem P e) b (n + 1) (D.put kl d) ∧ w2.grownBy w3 (some b) := by
  have K := Keyed.of_law L
  have hw0 : (Lit.int q 0).wf = true := by cases q <;> decide
  have hown := h
  obtain ⟨es, clock, hb, F, hs, hDD⟩ := h
  obtain ⟨v0, st, es1, clock1, hrun, hcase, hst⟩ := entry_then_store L ht hz hb F hkey
  have hlt := (Array.getElem?_eq_some_iff.1 hb).1
  have hg1 : w.grownBy (setBlock w b (.map es1 clock1)) (some b) := ⟨rfl, rfl, rfl, by simp [setBlock], fun i _ hi => heap_setBlock_other hb _ (fun e => hi (by rw [e]))⟩
  refine ⟨v0, st, _, hrun, hg1, by simp [setBlock], ?_, fun w2 val d ps hw2 hv => ?_⟩
  · rcases L.find w hkey es.toList F.keys with ⟨h1, h2⟩ | ⟨j, e0, h1, h2, h3⟩
    · have hr : (Instr.mapEntry t (.map (some b)) key).run P w = .ok (.tuple #[.int q 0, goInt clock]) (setBlock w b (.map (es.push ⟨key, .int q 0, clock⟩) (clock + 1))) := by
        simp [Instr.mapEntry, run_underlying ht, MapKept.run_getObj_map hb, L.check w false hkey, h1, hz, MapKept.run_setObj_map _ hb, Result.andThen, setBlock]
      have hu : (Instr.mapUpdate t (.map (some b)) key (.int q 0)).run P w = .ok () (setBlock w b (.map (es.push ⟨key, .int q 0, clock⟩) (clock + 1))) := by
        simp [Instr.mapUpdate, run_underlying ht, MapKept.run_getObj_map hb, L.check w false hkey, h1, MapKept.run_setObj_map _ hb, Result.andThen, setBlock]
      obtain ⟨w', hrun', ho', _⟩ := hown.update K ht hn hkey (plainElem_int he hw0)
      rw [hu] at hrun'
      have e1 := (Result.ok.inj hrun').2
      rw [hr] at hrun
      have e2 := (Result.ok.inj hrun).2
      rw [← e2, e1]
      refine ⟨_, ho', hD.put _ _, fun kl' => ?_⟩
      by_cases e3 : kl' = kl
      · subst e3
        rw [atKey_put_same hD (K.key hkey)]
        have hnh : ∀ x ∈ es.toList, x.key ≠ key := h2
        rcases Maps.fit_look false K ht (hz w) hb F hkey with ⟨_, _, hat⟩ | ⟨e0, y, hx, hk0, _⟩
        · rw [hDD]; exact (hat _).symm
        · exact absurd hk0 (hnh e0 hx)
      · exact atKey_put_other e3 _ _
    · have hj : es[j]? = some e0 := by simpa using h2
      have hsame : es.modify j (fun e => { e with key := key }) = es := by
        apply Array.ext'
        rw [Array.toList_modify, modify_eq_set _ _ _ _ h2]
        have : ({ e0 with key := key } : MapEntry) = e0 := by rw [← h3]
        rw [this]
        exact set_self _ _ _ h2
      have hr : (Instr.mapEntry t (.map (some b)) key).run P w = .ok (.tuple #[e0.val, goInt e0.born]) (setBlock w b (.map es clock)) := by
        simp [Instr.mapEntry, run_underlying ht, MapKept.run_getObj_map hb, L.check w false hkey, h1, hj, h3, L.stays w hkey, hsame, MapKept.run_setObj_map _ hb, Result.andThen, setBlock]
      rw [hr] at hrun
      have e2 := (Result.ok.inj hrun).2
      rw [← e2]
      exact ⟨D, ⟨es, clock, heap_setBlock_same hb _, F, Nat.le_succ_of_le hs, hDD⟩, hD, fun _ => rfl⟩
  · obtain ⟨es', clock', hr2, hu⟩ := hst w2 val (hw2.trans (heap_setBlock_same hb _))
    obtain ⟨w', hrun', ho', _⟩ := hown.update K ht hn hkey hv
    rw [hu] at hrun'
    have e1 := (Result.ok.inj hrun').2
    subst e1
    have hb2 := hw2.trans (heap_setBlock_same hb (.map es1 clock1))
    refine ⟨_, hr2, ?_, ⟨rfl, rfl, rfl, by simp [setBlock], fun i _ hi => heap_setBlock_other hb2 _ (fun e => hi (by rw [e]))⟩⟩
    obtain ⟨es2, clock2, h4, F2, h5, h6⟩ := ho'
    have h7 := (heap_setBlock_same hb (.map es' clock')).symm.trans h4
    simp only [Option.some.injEq, Obj.map.injEq] at h7
    obtain ⟨rfl, rfl⟩ := h7
    exact ⟨es', clock', heap_setBlock_same hb2 _, F2, h5, h6⟩
end

section
variable {P : Program} {ops : Array Oper} {o : Oper} {a : Act} {w : World} {K : Act → World → Prop} {Q : Exit → Act → World → Prop} {E : Prop}
/-! The three operations, at a step of a region that draws its order. -/
theorem step_lookup (hgd : o.guard = none) (m x : Operand) (t : TypeId) (ho : o.op = Op.lookup t m x false) (mv xv : Value) (hm : a.eval m = mv) (hx : a.eval x = xv) (v : Value) (w' : World) (hr : (Instr.lookup t mv xv false).run P w = .ok v w')
    (h : K (a.put o.dst v) w') : if Region.wanted o (yielded ops a.tmps) = true then Oper.wp P o a w K Q else E := by
  have hw : Region.wanted o (yielded ops a.tmps) = true := by simp [Region.wanted, hgd]
  rw [if_pos hw]
  unfold Oper.wp
  simp [execOp, ho, hm, hx, hr, Result.andThen]
  exact h
theorem step_mapEntry (hgd : o.guard = none) (m x : Operand) (t : TypeId) (ho : o.op = Op.mapEntry t m x) (mv xv : Value) (hm : a.eval m = mv) (hx : a.eval x = xv) (v : Value) (w' : World) (hr : (Instr.mapEntry t mv xv).run P w = .ok v w')
    (h : K (a.put o.dst v) w') : if Region.wanted o (yielded ops a.tmps) = true then Oper.wp P o a w K Q else E := by
  have hw : Region.wanted o (yielded ops a.tmps) = true := by simp [Region.wanted, hgd]
  rw [if_pos hw]
  unfold Oper.wp
  simp [execOp, ho, hm, hx, hr, Result.andThen]
  exact h
theorem step_entryStore (hgd : o.guard = none) (m s x : Operand) (t : TypeId) (ho : o.op = Op.entryStore t m s x) (mv sv xv : Value) (hm : a.eval m = mv) (hs : a.eval s = sv) (hx : a.eval x = xv) (w' : World) (hr : (Instr.entryStore t mv sv xv).run P w = .ok () w')
    (h : K (a.put o.dst undef) w') : if Region.wanted o (yielded ops a.tmps) = true then Oper.wp P o a w K Q else E := by
  have hw : Region.wanted o (yielded ops a.tmps) = true := by simp [Region.wanted, hgd]
  rw [if_pos hw]
  unfold Oper.wp
  simp [execOp, ho, hm, hs, hx, hr, Result.andThen]
  exact h
end
end Go.Proofs.Ytekdggdnkmkldaa
