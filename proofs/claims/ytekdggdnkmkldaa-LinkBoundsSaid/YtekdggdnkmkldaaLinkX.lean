/- link: maps by two numbers; what is on its way: a slice of structs of four cells. -/
import Derived.Test.YtekdggdnkmkldaaLinkG
import Derived.Maps.OwnOps
import Derived.Maps.Views
import Derived.DeepKeys5
namespace Go.Proofs.Ytekdggdnkmkldaa
set_option linter.unusedVariables false
set_option linter.unusedSimpArgs false
set_option maxRecDepth 1500
open Go.RowKit Go.Maps

set_option maxRecDepth 100000 in
theorem lawG : Keyed Try.prog 93 := Keyed.of_law (deep_law (P := Try.prog) (m := 10) (by decide) (k := 93) (by kernel_rfl) (by kernel_rfl) (by kernel_rfl))
theorem zeroU (w : World) : (zeroValue 27).run Try.prog w = .ok (.int .u64 0) w := by kernel_rfl
theorem wfU (a : Nat) (h : a < 18446744073709551616) : (Lit.int .u64 (a : Int)).wf = true := by
  simp only [Lit.wf, Bool.and_eq_true, decide_eq_true_eq]
  have h1 : IntKind.u64.min = 0 := rfl
  have h2 : IntKind.u64.max = 18446744073709551615 := rfl
  omega
theorem keyTypeG : Try.prog.keyType 93 = true := by kernel_rfl
theorem keyG (a b : Nat) (ha : a < 18446744073709551616) (hb : b < 18446744073709551616) : ∃ kl, keyOf Try.prog 93 (.agg #[.int .u64 a, .int .u64 b]) = some kl := by
  unfold keyOf
  rw [Try.underlying93]
  simp only [keyTypeG, Bool.true_and]
  have hf : (Value.agg #[.int .u64 (a : Int), .int .u64 (b : Int)]).formed Try.prog 93 = true := by
    kernel_rfl
  rw [if_pos hf]
  obtain ⟨d, hd⟩ : ∃ d, Try.prog.types.size = d + 1 := Nat.exists_eq_succ_of_ne_zero (fun h => by
    have : (Try.prog.types.size == 0) = false := by kernel_rfl
    rw [h] at this
    cases this)
  rw [hd]
  have h1 : Try.prog.keyLits (d + 1 + 1) 93 [.int .u64 (a : Int), .int .u64 (b : Int)] = some [.int .u64 a, .int .u64 b] := by
    have hc : Try.prog.cellsOf 93 = 2 := by kernel_rfl
    have hc1 : Try.prog.cellsOf 27 = 1 := by kernel_rfl
    have e1 : ∀ x : Nat, x < 18446744073709551616 → Try.prog.keyLits (d + 1) 27 [.int .u64 (x : Int)] = some [.int .u64 x] := fun x hx => by
      simp only [Program.keyLits, Try.underlying27, wfU x hx, and_self, if_true]
    simp [Program.keyLits, Try.underlying93, hc, hc1, List.range_succ, e1 a ha, e1 b hb, wfU a ha, wfU b hb]
  have h2 : (Value.agg #[.int .u64 (a : Int), .int .u64 (b : Int)]).cells.toList = [.int .u64 (a : Int), .int .u64 (b : Int)] := rfl
  rw [h2, h1]
  exact ⟨_, rfl⟩

/-- The block b is a map of at most n entries: g tells what stands at each two numbers. -/
def MapG (w : World) (b n : Nat) (g : Nat → Nat → Nat) : Prop := ∃ D : DataW Unit, w.ownsMap Try.prog 93 (plainElem Try.prog 27) b n D ∧ IsMap D ∧ ∀ x y : Nat, x < 18446744073709551616 → y < 18446744073709551616 → ∀ kl, keyOf Try.prog 93 (.agg #[.int .u64 x, .int .u64 y]) = some kl → D.atKey kl (.lit (.int .u64 0)) = .lit (.int .u64 (g x y))

theorem mapG_made (w : World) : MapG (w.alloc (.map #[] 0)) w.heap.size 0 (fun _ _ => 0) := ⟨_, World.ownsMap_made w _ _ _, isMap_empty, fun x y _ _ kl _ => rfl⟩
def updG (g : Nat → Nat → Nat) (x y v : Nat) : Nat → Nat → Nat := fun z t => if z = x ∧ t = y then v else g z t
section
variable {w w' : World} {b n : Nat} {g : Nat → Nat → Nat}
theorem MapG.ext {S : Nat → Prop} (h : MapG w b n g) (e : Ext S w w') (hb : ¬ S b) : MapG w' b n g := by
  obtain ⟨D, h1, h2⟩ := h
  exact ⟨D, e.ownsMapP h1 hb, h2⟩
theorem MapG.mono {m : Nat} (h : MapG w b n g) (hn : n ≤ m) : MapG w b m g := by
  obtain ⟨D, h1, h2⟩ := h
  exact ⟨D, h1.mono hn, h2⟩
theorem MapG.lt (h : MapG w b n g) : b < w.heap.size := by
  obtain ⟨D, h1, _⟩ := h
  exact h1.lt
theorem MapG.look (h : MapG w b n g) (x y : Nat) (hx : x < 18446744073709551616) (hy : y < 18446744073709551616) : (Instr.lookup 88 (.map (some b)) (.agg #[.int .u64 x, .int .u64 y]) false).run Try.prog w = .ok (.int .u64 (g x y)) w := by
  obtain ⟨D, h1, _, h3⟩ := h
  obtain ⟨kl, hkl⟩ := keyG x y hx hy
  obtain ⟨c, hrun, hat, _⟩ := h1.lookup_int lawG Try.underlying88 Try.underlying27 (zeroU w) hkl
  have h4 := (h3 x y hx hy kl hkl).symm.trans hat
  clear hat h3 hx hy
  have h5 : g x y = c := (Lit.int.inj (DataW.lit.inj h4)).2
  rw [hrun, h5]
theorem MapG.put {D : DataW Unit} (h2 : IsMap D) (h3 : ∀ x y : Nat, x < 18446744073709551616 → y < 18446744073709551616 → ∀ kl, keyOf Try.prog 93 (.agg #[.int .u64 x, .int .u64 y]) = some kl → D.atKey kl (.lit (.int .u64 0)) = .lit (.int .u64 (g x y))) (x y v : Nat) {kl : Lit} (hkl : keyOf Try.prog 93 (.agg #[.int .u64 x, .int .u64 y]) = some kl)
    (h1 : w'.ownsMap Try.prog 93 (plainElem Try.prog 27) b n (D.put kl (.lit (.int .u64 v)))) : MapG w' b n (updG g x y v) := by
  refine ⟨_, h1, h2.put _ _, fun z t hz ht kl' hkl' => ?_⟩
  unfold updG
  by_cases e : z = x ∧ t = y
  · obtain ⟨rfl, rfl⟩ := e
    rw [hkl] at hkl'
    cases hkl'
    rw [if_pos (And.intro rfl rfl)]
    exact atKey_put_same h2 (lawG.key hkl) _ _
  · rw [if_neg e, atKey_put_other, h3 z t hz ht kl' hkl']
    rintro rfl
    have := lawG.inj hkl' hkl
    simp only [Value.agg.injEq, Array.mk.injEq, List.cons.injEq, Value.int.injEq, true_and, and_true] at this
    omega
end

structure TW where
  kind : Int
  life : Nat
  dst : Nat
  n : Nat
def TW.cells (o : TW) : List Value := [.int .i64 o.kind, .int .u64 o.life, .int .u64 o.dst, .int .u64 o.n]
def tcells : List TW → List Value
  | [] => []
  | o :: r => o.cells ++ tcells r
theorem tcells_length : ∀ l : List TW, (tcells l).length = l.length * 4
  | [] => rfl
  | o :: r => by rw [tcells, List.length_append, tcells_length r, List.length_cons]; simp [TW.cells]; omega
theorem tcells_append : ∀ a b : List TW, tcells (a ++ b) = tcells a ++ tcells b
  | [], b => rfl
  | o :: r, b => by rw [List.cons_append, tcells, tcells_append r b, tcells, List.append_assoc]
theorem tcells_get : ∀ (l : List TW) (i : Nat) (hi : i < l.length) (j : Nat), j < 4 → (tcells l)[i * 4 + j]? = l[i].cells[j]?
  | o :: r, 0, _, j, hj => by rw [tcells, List.getElem?_append_left (by simp [TW.cells]; omega)]; simp
  | o :: r, i + 1, hi, j, hj => by
    rw [tcells, List.getElem?_append_right (by simp [TW.cells]; omega)]
    simp only [List.getElem_cons_succ]
    rw [← tcells_get r i (by simpa using hi) j hj]
    congr 1
    simp [TW.cells]; omega
theorem tcells_take (l : List TW) (k : Nat) : (tcells l).take (k * 4) = tcells (l.take k) := by
  by_cases h : k ≤ l.length
  · have : tcells l = tcells (l.take k) ++ tcells (l.drop k) := by rw [← tcells_append, List.take_append_drop]
    rw [this, List.take_left' (by rw [tcells_length, List.length_take]; omega)]
  · rw [List.take_of_length_le (by rw [tcells_length]; omega), List.take_of_length_le (by omega)]
theorem tcells_drop (l : List TW) (k : Nat) : (tcells l).drop (k * 4) = tcells (l.drop k) := by
  by_cases h : k ≤ l.length
  · have : tcells l = tcells (l.take k) ++ tcells (l.drop k) := by rw [← tcells_append, List.take_append_drop]
    rw [this, List.drop_left' (by rw [tcells_length, List.length_take]; omega)]
  · rw [List.drop_of_length_le (by rw [tcells_length]; omega), List.drop_of_length_le (by omega)]; rfl
theorem tcells_one (l : List TW) : ∀ u ∈ tcells l, u.oneCell' = true := by
  induction l with
  | nil => intro u hu; simp [tcells] at hu
  | cons o r ih =>
    intro u hu
    rw [tcells, List.mem_append] at hu
    rcases hu with h | h
    · simp only [TW.cells, List.mem_cons, List.not_mem_nil, or_false] at h
      rcases h with rfl | rfl | rfl | rfl <;> rfl
    · exact ih u h

def Tws (w : World) (v : Value) (l : List TW) : Prop := OwnS w 91 4 v l.length (tcells l)

theorem infoTold : (Try.prog.info? 91).map (fun i => (i.zero, i.size, i.bytes)) = some (some (.agg #[.int .i64 0, .int .u64 0, .int .u64 0, .int .u64 0]), 4, 32) := by kernel_rfl

theorem Tws.at {w : World} {v : Value} {l : List TW} (h : Tws w v l) (i : Nat) (hi : i < l.length) :
    ∃ g off cap, v = .slice (some ⟨g, off, none⟩) l.length cap ∧ g < w.heap.size ∧ ∀ j, j < 4 → w.cell? ⟨g, off + i * 4 + j, none⟩ = l[i].cells[j]? := by
  obtain ⟨g, off, cap, hv, hg, _, _⟩ := OwnS.cells h (i * 4) (by omega)
  refine ⟨g, off, cap, hv, hg, fun j hj => ?_⟩
  obtain ⟨g', off', cap', hv', _, hc, _⟩ := OwnS.cells h (i * 4 + j) (by omega)
  rw [hv] at hv'
  simp only [Value.slice.injEq, Option.some.injEq, Addr.mk.injEq] at hv'
  obtain ⟨⟨rfl, rfl, _⟩, _, rfl⟩ := hv'
  rw [Nat.add_assoc, hc, tcells_get l i hi j hj]

/-- One, laid into a block of its own, as a source of append. -/
theorem src_told {w : World} {b : Nat} {ty : TypeId} {fr : Nat × Nat} (o : TW) (hb : w.heap[b]? = some (.cells #[.int .i64 o.kind, .int .u64 o.life, .int .u64 o.dst, .int .u64 o.n] ty fr)) :
    Src Try.prog 4 89 (.slice (some ⟨b, 0, none⟩) 1 1) 1 (tcells [o]) w := by
  refine Src.ofSlice w Try.underlying89 ⟨b, 0, none⟩ 1 1 _ rfl (fun j u hj => ?_) (tcells_one _)
  have hplain : (⟨b, 0, none⟩ : Addr).add j = ⟨b, 0 + j, none⟩ := by unfold Addr.add; split <;> simp_all
  have : tcells [o] = [.int .i64 o.kind, .int .u64 o.life, .int .u64 o.dst, .int .u64 o.n] := rfl
  rw [hplain, cell_of_heap hb, ← hj, this, Nat.zero_add]
  simp

/-- The first k of them, with no place behind. -/
theorem Tws.pre {w : World} {g off n cap : Nat} {l : List TW} (h : Tws w (.slice (some ⟨g, off, none⟩) n cap) l) (k : Nat) (hk : k ≤ l.length) : Tws w (.slice (some ⟨g, off, none⟩) k k) (l.take k) := by
  have hl : (l.take k).length = k := by rw [List.length_take]; omega
  rcases h.2 with ⟨h0, _⟩ | ⟨g', off', cap', cur, h0, hg, h1, h2, h3, h4⟩
  · cases h0
  · simp only [Value.slice.injEq, Option.some.injEq, Addr.mk.injEq] at h0
    obtain ⟨⟨rfl, rfl, _⟩, _, rfl⟩ := h0
    refine ⟨tcells_length _, .inr ⟨g, off, k, cur, by rw [hl], hg, by omega, by omega, ?_, fun i hi => ?_⟩⟩
    · have : k * 4 ≤ cap * 4 := by omega
      omega
    · rw [hl] at hi
      rw [← tcells_take, List.getElem?_take, if_pos (by omega)]
      exact h4 i (by omega)
/-- What is behind the k-th, as a source of append. -/
theorem Tws.suf {w : World} {g off n cap : Nat} {l : List TW} (h : Tws w (.slice (some ⟨g, off, none⟩) n cap) l) (k : Nat) (hk : k < l.length) {a : Option Addr} {c2 : Nat} (ha : k + 1 < cap → a = some ⟨g, off + (k + 1) * 4, none⟩) (hn : ∃ a', a = some a') :
    Src Try.prog 4 89 (.slice a (l.length - (k + 1)) c2) (l.length - (k + 1)) (tcells (l.drop (k + 1))) w := by
  obtain ⟨a', rfl⟩ := hn
  rcases h.2 with ⟨h0, _⟩ | ⟨g', off', cap', cur, h0, hg, h1, h2, h3, h4⟩
  · cases h0
  · simp only [Value.slice.injEq, Option.some.injEq, Addr.mk.injEq] at h0
    obtain ⟨⟨rfl, rfl, _⟩, _, rfl⟩ := h0
    refine Src.ofSlice w Try.underlying89 a' _ _ _ (by rw [tcells_length, List.length_drop]) (fun j u hj => ?_) (tcells_one _)
    rw [← tcells_drop, List.getElem?_drop] at hj
    have hjl := (List.getElem?_eq_some_iff.1 hj).1
    rw [tcells_length] at hjl
    have := ha (by omega)
    simp only [Option.some.injEq] at this
    subst this
    have hplain : (⟨g, off + (k + 1) * 4, none⟩ : Addr).add j = ⟨g, off + (k + 1) * 4 + j, none⟩ := by unfold Addr.add; split <;> simp_all
    rw [hplain, cell_of_heap hg, Nat.add_assoc, h4 _ (by omega), hj]

end Go.Proofs.Ytekdggdnkmkldaa
