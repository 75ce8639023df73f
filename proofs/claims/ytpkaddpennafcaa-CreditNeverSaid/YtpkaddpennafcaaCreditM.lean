/- CreditNever's maps: what was granted, by the two lives; what was used, by the life. -/
import Derived.Test.YtpkaddpennafcaaWays
import Derived.Maps.OwnOps
import Derived.Maps.Views
import Derived.DeepKeys5
namespace Go.Proofs.Ytpkaddpennafcaa
set_option linter.unusedVariables false
set_option linter.unusedSimpArgs false
open Go.RowKit Go.Maps

theorem lawU : Keyed Try.prog 22 := int_keyed Try.underlying22
set_option maxRecDepth 100000 in
theorem lawG : Keyed Try.prog 87 := Keyed.of_law (deep_law (P := Try.prog) (m := 10) (by decide) (k := 87) (by kernel_rfl) (by kernel_rfl) (by kernel_rfl))
theorem zeroU (w : World) : (zeroValue 22).run Try.prog w = .ok (.int .u64 0) w := by kernel_rfl
theorem wfU (a : Nat) (h : a < 18446744073709551616) : (Lit.int .u64 (a : Int)).wf = true := by
  simp only [Lit.wf, Bool.and_eq_true, decide_eq_true_eq]
  have h1 : IntKind.u64.min = 0 := rfl
  have h2 : IntKind.u64.max = 18446744073709551615 := rfl
  omega
theorem keyU (a : Nat) (h : a < 18446744073709551616) : keyOf Try.prog 22 (.int .u64 a) = some (.int .u64 a) := keyOf_int_mk Try.underlying22 (wfU a h)
theorem keyTypeG : Try.prog.keyType 87 = true := by kernel_rfl
theorem keyG (a b : Nat) (ha : a < 18446744073709551616) (hb : b < 18446744073709551616) : ∃ kl, keyOf Try.prog 87 (.agg #[.int .u64 a, .int .u64 b]) = some kl := by
  unfold keyOf
  rw [Try.underlying87]
  simp only [keyTypeG, Bool.true_and]
  have hf : (Value.agg #[.int .u64 (a : Int), .int .u64 (b : Int)]).formed Try.prog 87 = true := by
    kernel_rfl
  rw [if_pos hf]
  obtain ⟨d, hd⟩ : ∃ d, Try.prog.types.size = d + 1 := Nat.exists_eq_succ_of_ne_zero (fun h => by
    have : (Try.prog.types.size == 0) = false := by kernel_rfl
    rw [h] at this
    cases this)
  rw [hd]
  have h1 : Try.prog.keyLits (d + 1 + 1) 87 [.int .u64 (a : Int), .int .u64 (b : Int)] = some [.int .u64 a, .int .u64 b] := by
    have hc : Try.prog.cellsOf 87 = 2 := by kernel_rfl
    have hc1 : Try.prog.cellsOf 22 = 1 := by kernel_rfl
    have e1 : ∀ x : Nat, x < 18446744073709551616 → Try.prog.keyLits (d + 1) 22 [.int .u64 (x : Int)] = some [.int .u64 x] := fun x hx => by
      simp only [Program.keyLits, Try.underlying22, wfU x hx, and_self, if_true]
    simp [Program.keyLits, Try.underlying87, hc, hc1, List.range_succ, e1 a ha, e1 b hb, wfU a ha, wfU b hb]
  have h2 : (Value.agg #[.int .u64 (a : Int), .int .u64 (b : Int)]).cells.toList = [.int .u64 (a : Int), .int .u64 (b : Int)] := rfl
  rw [h2, h1]
  exact ⟨_, rfl⟩

/-- The block b is a map of at most n entries: u tells what stands at each key. -/
def MapU (w : World) (b n : Nat) (u : Nat → Nat) : Prop := ∃ D : DataW Unit, w.ownsMap Try.prog 22 (plainElem Try.prog 22) b n D ∧ IsMap D ∧ ∀ x : Nat, x < 18446744073709551616 → D.atKey (.int .u64 x) (.lit (.int .u64 0)) = .lit (.int .u64 (u x))
def MapG (w : World) (b n : Nat) (g : Nat → Nat → Nat) : Prop := ∃ D : DataW Unit, w.ownsMap Try.prog 87 (plainElem Try.prog 22) b n D ∧ IsMap D ∧ ∀ x y : Nat, x < 18446744073709551616 → y < 18446744073709551616 → ∀ kl, keyOf Try.prog 87 (.agg #[.int .u64 x, .int .u64 y]) = some kl → D.atKey kl (.lit (.int .u64 0)) = .lit (.int .u64 (g x y))

theorem mapU_made (w : World) : MapU (w.alloc (.map #[] 0)) w.heap.size 0 (fun _ => 0) := ⟨_, World.ownsMap_made w _ _ _, isMap_empty, fun x _ => rfl⟩
theorem mapG_made (w : World) : MapG (w.alloc (.map #[] 0)) w.heap.size 0 (fun _ _ => 0) := ⟨_, World.ownsMap_made w _ _ _, isMap_empty, fun x y _ _ kl _ => rfl⟩
theorem Ext.ownsMap {H : Type} {S : Nat → Prop} {w w' : World} {P : Program} {k : TypeId} {R : Value → Option (DataW H × List MemPlace)} {b n : Nat} {D : DataW H} (e : Ext S w w') (h : w.ownsMap P k R b n D) (hb : ¬ S b) : w'.ownsMap P k R b n D := by
  have hlt := h.lt
  obtain ⟨es, clock, h1, h2⟩ := h
  exact ⟨es, clock, (e.block b hlt hb).trans h1, h2⟩
def updU (u : Nat → Nat) (x v : Nat) : Nat → Nat := fun z => if z = x then v else u z
def updG (g : Nat → Nat → Nat) (x y v : Nat) : Nat → Nat → Nat := fun z t => if z = x ∧ t = y then v else g z t
section
variable {w w' : World} {b n : Nat} {u : Nat → Nat} {g : Nat → Nat → Nat}
theorem MapU.ext {S : Nat → Prop} (h : MapU w b n u) (e : Ext S w w') (hb : ¬ S b) : MapU w' b n u := by
  obtain ⟨D, h1, h2⟩ := h
  exact ⟨D, e.ownsMap h1 hb, h2⟩
theorem MapG.ext {S : Nat → Prop} (h : MapG w b n g) (e : Ext S w w') (hb : ¬ S b) : MapG w' b n g := by
  obtain ⟨D, h1, h2⟩ := h
  exact ⟨D, e.ownsMap h1 hb, h2⟩
theorem MapU.mono {m : Nat} (h : MapU w b n u) (hn : n ≤ m) : MapU w b m u := by
  obtain ⟨D, h1, h2⟩ := h
  exact ⟨D, h1.mono hn, h2⟩
theorem MapG.mono {m : Nat} (h : MapG w b n g) (hn : n ≤ m) : MapG w b m g := by
  obtain ⟨D, h1, h2⟩ := h
  exact ⟨D, h1.mono hn, h2⟩
theorem MapU.lt (h : MapU w b n u) : b < w.heap.size := by
  obtain ⟨D, h1, _⟩ := h
  exact h1.lt
theorem MapG.lt (h : MapG w b n g) : b < w.heap.size := by
  obtain ⟨D, h1, _⟩ := h
  exact h1.lt
theorem MapU.look (h : MapU w b n u) (x : Nat) (hx : x < 18446744073709551616) : (Instr.lookup 90 (.map (some b)) (.int .u64 x) false).run Try.prog w = .ok (.int .u64 (u x)) w := by
  obtain ⟨D, h1, _, h3⟩ := h
  obtain ⟨c, hrun, hat, _⟩ := h1.lookup_int lawU Try.underlying90 Try.underlying22 (zeroU w) (keyU x hx)
  have h4 := (h3 x hx).symm.trans hat
  clear hat h3 hx
  have h5 : u x = c := (Lit.int.inj (DataW.lit.inj h4)).2
  rw [hrun, h5]
theorem MapG.look (h : MapG w b n g) (x y : Nat) (hx : x < 18446744073709551616) (hy : y < 18446744073709551616) : (Instr.lookup 89 (.map (some b)) (.agg #[.int .u64 x, .int .u64 y]) false).run Try.prog w = .ok (.int .u64 (g x y)) w := by
  obtain ⟨D, h1, _, h3⟩ := h
  obtain ⟨kl, hkl⟩ := keyG x y hx hy
  obtain ⟨c, hrun, hat, _⟩ := h1.lookup_int lawG Try.underlying89 Try.underlying22 (zeroU w) hkl
  have h4 := (h3 x y hx hy kl hkl).symm.trans hat
  clear hat h3 hx hy
  have h5 : g x y = c := (Lit.int.inj (DataW.lit.inj h4)).2
  rw [hrun, h5]
theorem MapU.put {D : DataW Unit} (h2 : IsMap D) (h3 : ∀ x : Nat, x < 18446744073709551616 → D.atKey (.int .u64 x) (.lit (.int .u64 0)) = .lit (.int .u64 (u x))) (x v : Nat) (hx : x < 18446744073709551616)
    (h1 : w'.ownsMap Try.prog 22 (plainElem Try.prog 22) b n (D.put (.int .u64 x) (.lit (.int .u64 v)))) : MapU w' b n (updU u x v) := by
  refine ⟨_, h1, h2.put _ _, fun z hz => ?_⟩
  unfold updU
  by_cases e : z = x
  · subst e
    rw [if_pos rfl]
    exact atKey_put_same h2 (lawU.key (keyU z hz)) _ _
  · rw [if_neg e, atKey_put_other (by simp only [ne_eq, Lit.int.injEq, true_and]; omega), h3 z hz]
theorem MapG.put {D : DataW Unit} (h2 : IsMap D) (h3 : ∀ x y : Nat, x < 18446744073709551616 → y < 18446744073709551616 → ∀ kl, keyOf Try.prog 87 (.agg #[.int .u64 x, .int .u64 y]) = some kl → D.atKey kl (.lit (.int .u64 0)) = .lit (.int .u64 (g x y))) (x y v : Nat) {kl : Lit} (hkl : keyOf Try.prog 87 (.agg #[.int .u64 x, .int .u64 y]) = some kl)
    (h1 : w'.ownsMap Try.prog 87 (plainElem Try.prog 22) b n (D.put kl (.lit (.int .u64 v)))) : MapG w' b n (updG g x y v) := by
  refine ⟨_, h1, h2.put _ _, fun z t hz ht kl' hkl' => ?_⟩
  unfold updG
  by_cases e : z = x ∧ t = y
  · obtain ⟨rfl, rfl⟩ := e
    rw [hkl] at hkl'
    cases hkl'
    rw [if_pos (And.intro rfl rfl)]
    exact atKey_put_same h2 (lawG.key hkl) _ _
  · rw [if_neg e, atKey_put_other, h3 z t hz ht kl' hkl']
    rintro rfl
    have := lawG.inj hkl' hkl
    simp only [Value.agg.injEq, Array.mk.injEq, List.cons.injEq, Value.int.injEq, true_and, and_true] at this
    omega
end

end Go.Proofs.Ytpkaddpennafcaa
