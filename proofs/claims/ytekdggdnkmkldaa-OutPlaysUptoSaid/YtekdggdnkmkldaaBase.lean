/- Words on memory: worlds that grow, slices that hold a list of cells. -/
import Derived.WalkKit
import Derived.Lib.Hide
import Derived.Laws.CopyOwn
import Derived.Deep.AppendSrc
namespace Go.Proofs.Ytekdggdnkmkldaa
set_option linter.unusedVariables false
set_option linter.unusedSimpArgs false
set_option maxRecDepth 1500
open Go.RowKit

/-- Of the blocks that were there only those of S may have changed. -/
structure Ext (S : Nat → Prop) (w w' : World) : Prop where
  os : w'.os = w.os
  tape : w'.tape = w.tape
  output : w'.output = w.output
  size : w.heap.size ≤ w'.heap.size
  block : ∀ k, k < w.heap.size → ¬ S k → w'.heap[k]? = w.heap[k]?

/-- Nothing that was there has changed. -/
abbrev Grows (w w' : World) : Prop := Ext (fun _ => False) w w'

theorem Ext.refl (S : Nat → Prop) (w : World) : Ext S w w := ⟨rfl, rfl, rfl, Nat.le_refl _, fun _ _ _ => rfl⟩
theorem Ext.trans {S : Nat → Prop} {a b c : World} (h : Ext S a b) (k : Ext S b c) : Ext S a c :=
  ⟨k.os.trans h.os, k.tape.trans h.tape, k.output.trans h.output, Nat.le_trans h.size k.size,
    fun i hi hs => (k.block i (Nat.lt_of_lt_of_le hi h.size) hs).trans (h.block i hi hs)⟩
theorem Ext.mono {S T : Nat → Prop} {a b : World} (h : Ext S a b) (hst : ∀ k, k < a.heap.size → S k → T k) : Ext T a b :=
  ⟨h.os, h.tape, h.output, h.size, fun i hi hs => h.block i hi (fun hh => hs (hst i hi hh))⟩
theorem Ext.alloc {S : Nat → Prop} {a w : World} (h : Ext S a w) (o : Obj) : Ext S a (w.alloc o) :=
  h.trans ⟨rfl, rfl, rfl, by simp, fun k hk _ => Below.heap_alloc _ _ _ (by omega)⟩
theorem Ext.drew {S : Nat → Prop} {a w : World} (h : Ext S a w) : Ext S a w.drew := ⟨h.os, h.tape, h.output, h.size, h.block⟩
theorem Ext.setCell {S : Nat → Prop} {a w : World} (h : Ext S a w) (p : Addr) (hp : a.heap.size ≤ p.block ∨ S p.block) (u : Value) : Ext S a (w.setCell p u) := by
  refine ⟨h.os, h.tape, h.output, by simpa [World.setCell] using h.size, fun k hk hs => ?_⟩
  rw [Below.heap_setCell _ _ _ _ (by rintro rfl; rcases hp with hp | hp; omega; exact hs hp)]
  exact h.block k hk hs
theorem Ext.below {S : Nat → Prop} {a b : World} {B : Nat} (h : Ext S a b) (hB : B ≤ a.heap.size) (hs : ∀ k, S k → B ≤ k) : Below B a b :=
  ⟨h.os, h.tape, h.output, h.size, fun k hk => h.block k (by omega) (fun hh => by have := hs k hh; omega)⟩
theorem Ext.of_grown {S : Nat → Prop} {a b : World} {row : Option Nat} (h : a.grownBy b row) (hs : ∀ k, row = some k → S k) : Ext S a b :=
  ⟨h.os, h.tape, h.output, h.size, fun k hk hn => h.block k hk (fun e => hn (hs k e.symm))⟩
theorem Ext.of_below {a b : World} (h : Below a.heap.size a b) : Grows a b :=
  ⟨h.os, h.tape, h.output, h.size, fun k hk _ => h.block k hk⟩
theorem Ext.cell {S : Nat → Prop} {w w' : World} (h : Ext S w w') {p : Addr} (hp : p.block < w.heap.size) (hs : ¬ S p.block) : w'.cell? p = w.cell? p :=
  World.cell?_of_block (w := w) (h.block p.block hp hs)
theorem Ext.lift {S : Nat → Prop} {a b : World} (h : Grows a b) : Ext S a b := h.mono (fun _ _ h => h.elim)
theorem Ext.ofBase {a b : World} {B : Nat} (h : Grows a b) (hB : B ≤ a.heap.size) : Below B a b := Ext.below h hB (fun _ h => h.elim)

theorem Ext.to_below {w w' : World} (h : Grows w w') : Below w.heap.size w w' := Ext.ofBase h (Nat.le_refl _)

/-- The slice value v has n elements, whose cells are cs. -/
def Row (w : World) (v : Value) (n : Nat) (cs : List Value) : Prop :=
  (∃ a cap, v = .slice a 0 cap ∧ n = 0 ∧ cs = []) ∨
  ∃ b off cap, v = .slice (some ⟨b, off, none⟩) n cap ∧ n ≤ cap ∧ cap ≤ maxLen ∧ b < w.heap.size ∧
    ∀ i, i < cs.length → w.cell? ⟨b, off + i, none⟩ = some (cs.getD i undef)

/-- A slice of bytes. -/
def Bytes (w : World) (v : Value) (xs : List Int) : Prop :=
  Row w v xs.length (xs.map (Value.int .u8)) ∧ (∀ x ∈ xs, 0 ≤ x ∧ x < 256) ∧ xs.length ≤ 140737488351232

theorem Row.keeps {w w' : World} {v : Value} {n : Nat} {cs : List Value} (h : Row w v n cs) (hs : w.heap.size ≤ w'.heap.size)
    (hb : ∀ k, v.ownBlock = some k → k < w.heap.size → w'.heap[k]? = w.heap[k]?) : Row w' v n cs := by
  rcases h with h | ⟨b, off, cap, rfl, h1, h2, h3, h4⟩
  · exact .inl h
  · exact .inr ⟨b, off, cap, rfl, h1, h2, by omega, fun i hi => (World.cell?_of_block (w := w) (hb b rfl h3)).trans (h4 i hi)⟩
theorem Bytes.grows {w w' : World} {v : Value} {xs : List Int} (h : Bytes w v xs) (g : Grows w w') : Bytes w' v xs :=
  ⟨h.1.keeps g.size (fun k _ hk => g.block k hk (fun h => h)), h.2⟩
theorem Bytes.ext {S : Nat → Prop} {w w' : World} {v : Value} {xs : List Int} (h : Bytes w v xs) (g : Ext S w w') (hs : ∀ k, v.ownBlock = some k → k < w.heap.size → ¬ S k) : Bytes w' v xs :=
  ⟨h.1.keeps g.size (fun k hk hl => g.block k hl (hs k hk hl)), h.2⟩

theorem Bytes.take {w : World} {a : Option Addr} {n cap : Nat} {xs : List Int} (h : Bytes w (.slice a n cap) xs) (m : Nat) (hm : m ≤ n) : Bytes w (.slice a m cap) (xs.take m) := by
  refine ⟨?_, fun x hx => h.2.1 x (List.mem_of_mem_take hx), by rw [List.length_take]; have := h.2.2; omega⟩
  rcases h.1 with ⟨a', cap', h1, h2, h3⟩ | ⟨b, off, cap', h1, h2, h3, h4, h5⟩
  · simp only [Value.slice.injEq] at h1
    obtain ⟨rfl, rfl, rfl⟩ := h1
    obtain rfl : m = 0 := by omega
    exact .inl ⟨a, cap, rfl, by simp, by simp⟩
  · simp only [Value.slice.injEq] at h1
    obtain ⟨rfl, rfl, rfl⟩ := h1
    have hl : (xs.take m).length = m := by rw [List.length_take]; omega
    refine .inr ⟨b, off, cap, by rw [hl], by omega, h3, h4, fun i hi => ?_⟩
    have hi' : i < m := by rw [List.length_map, hl] at hi; exact hi
    rw [h5 i (by simp; omega)]
    simp [List.getD, List.getElem?_take, hi']

/-- Where the first byte stands that is not nought; or -1. -/
def leadOf (xs : List Int) : Int := if xs.findIdx (· != 0) < xs.length then (xs.findIdx (· != 0) : Nat) else -1

theorem ret_int {k : IntKind} {a b : Int} (h : a = b) : Ending.returned (.int k a) = .returned (.int k b) := by rw [h]
theorem ret_bool {a b : Bool} (h : a = b) : Ending.returned (.bool a) = .returned (.bool b) := by rw [h]

theorem Bytes.cases {w : World} {v : Value} {xs : List Int} (h : Bytes w v xs) :
    (∃ a cap, v = .slice a 0 cap ∧ xs = []) ∨ ∃ b off cap, v = .slice (some ⟨b, off, none⟩) xs.length cap ∧ xs.length ≤ cap ∧ cap ≤ maxLen ∧ b < w.heap.size ∧
    ∀ i, i < xs.length → w.cell? ⟨b, off + i, none⟩ = some (.int .u8 (xs.getD i 0)) := by
  rcases h.1 with ⟨a, cap, rfl, h1, h2⟩ | ⟨b, off, cap, rfl, h1, h2, h3, h4⟩
  · exact .inl ⟨a, cap, rfl, by simpa using h2⟩
  · refine .inr ⟨b, off, cap, rfl, h1, h2, h3, fun i hi => ?_⟩
    rw [h4 i (by simpa using hi)]
    simp [List.getD, List.getElem?_eq_getElem hi]

/-- Bytes as a block holds them. -/
def u8s (l : List Int) : Array Value := (l.map (Value.int .u8)).toArray
theorem u8s_size (l : List Int) : (u8s l).size = l.length := by simp [u8s]
theorem u8s_get (l : List Int) (i : Nat) (h : i < l.length) : (u8s l)[i]? = some (.int .u8 (l.getD i 0)) := by
  simp [u8s, List.getD, List.getElem?_eq_getElem h]
theorem u8s_set (l : List Int) (i : Nat) (x : Int) : (u8s l).setIfInBounds i (.int .u8 x) = u8s (l.set i x) := by
  apply Array.ext'
  simp [u8s, List.map_set]

theorem cell_of_heap {w : World} {b : Nat} {cs : Array Value} {t : TypeId} {fr : Nat × Nat} (h : w.heap[b]? = some (.cells cs t fr)) (i : Nat) : w.cell? ⟨b, i, none⟩ = cs[i]? := by
  simp [World.cell?, h]
theorem frozen_of_heap {w : World} {b : Nat} {cs : Array Value} {t : TypeId} (h : w.heap[b]? = some (.cells cs t (0, 0))) (i : Nat) : w.frozen? ⟨b, i, none⟩ = false := by
  simp [World.frozen?, h]
theorem heap_lt {w : World} {b : Nat} {o : Obj} (h : w.heap[b]? = some o) : b < w.heap.size := (Array.getElem?_eq_some_iff.1 h).1
theorem setCell_heap {w : World} {b : Nat} {cs : Array Value} {t : TypeId} {fr : Nat × Nat} (h : w.heap[b]? = some (.cells cs t fr)) (i : Nat) (x : Value) :
    (w.setCell ⟨b, i, none⟩ x).heap[b]? = some (.cells (cs.setIfInBounds i x) t fr) := by
  simp [World.setCell, Array.getElem?_modify, h]

/-- A row of bytes that lies alone in its block, from the head on. -/
theorem Bytes.of_heap {w : World} {b n cap : Nat} {xs : List Int} {t : TypeId} {fr : Nat × Nat} (h : w.heap[b]? = some (.cells (u8s xs) t fr)) (hn : n = xs.length) (hc : n ≤ cap) (hm : cap ≤ maxLen)
    (hx : ∀ x ∈ xs, 0 ≤ x ∧ x < 256) (hl : xs.length ≤ 140737488351232) : Bytes w (.slice (some ⟨b, 0, none⟩) n cap) xs := by
  subst hn
  refine ⟨.inr ⟨b, 0, cap, rfl, hc, hm, heap_lt h, fun i hi => ?_⟩, hx, hl⟩
  have hi' : i < xs.length := by simpa using hi
  rw [Nat.zero_add, cell_of_heap h, u8s_get _ _ hi']
  simp [List.getD, List.getElem?_eq_getElem hi']

/-- The first list laid over the second one. -/
def over (cur xs : List Int) : List Int := xs.take cur.length ++ cur.drop xs.length
theorem over_length (cur xs : List Int) : (over cur xs).length = cur.length := by simp [over]; omega

theorem wpList_copy_bytes {P : Program} {w : World} {ops : Array Oper} {rest : List Oper} {o : Oper} {a : Act} {Q : Exit → Act → World → Prop} (hgd : o.guard = none) (d s : Operand) (T : TypeId)
    (ho : o.op = .call { callee := .builtin .copy, args := #[d, s], argTypes := #[T, T] }) (elem : TypeId) (hu : P.underlying T = some (.slice elem)) (hsz : (P.info? elem).map (·.size) = some 1)
    (g n cap : Nat) (cur : List Int) (t : TypeId) (v : Value) (xs : List Int) (hd : a.eval d = .slice (some ⟨g, 0, none⟩) n cap) (hs : a.eval s = v) (hv : Bytes w v xs) (hn : cur.length = n)
    (hg : w.heap[g]? = some (.cells (u8s cur) t (0, 0)))
    (h : ∀ w', w'.heap[g]? = some (.cells (u8s (over cur xs)) t (0, 0)) → Ext (fun k => k = g) w w' → wpList P ops Q rest (a.put o.dst (goInt ((min xs.length n : Nat) : Int))) w') :
    wpList P ops Q (o :: rest) a w := by
  subst hn
  have key : ∀ (w' : World), w'.heap[g]? = some (.cells (splice (cur.map (Value.int .u8)) 0 ((xs.take cur.length).map (Value.int .u8))).toArray t (0, 0)) → w'.heap[g]? = some (.cells (u8s (over cur xs)) t (0, 0)) := by
    intro w' hw
    rw [hw]
    congr 3
    simp only [over, splice, List.take_zero, List.nil_append, List.map_append, List.map_drop, List.length_map, List.length_take, Nat.zero_add]
    by_cases hl : xs.length ≤ cur.length
    · rw [show min cur.length xs.length = xs.length by omega]
    · rw [show min cur.length xs.length = cur.length by omega]
      rw [List.drop_eq_nil_of_le (by simp), List.drop_eq_nil_of_le (by simp; omega)]
  rcases hv.cases with ⟨va, vcap, rfl, rfl⟩ | ⟨b, off, vcap, rfl, hcap, hmax, hlt, hcell⟩
  · refine wpList_copy_nothing hgd d s T T ho elem hu hsz _ va _ _ 0 vcap hd hs (Nat.zero_min _) ?_
    have := h w (by rw [hg]; simp [over]) (Ext.refl _ _)
    simpa using this
  · by_cases h0 : min xs.length cur.length = 0
    · refine wpList_copy_nothing hgd d s T T ho elem hu hsz _ _ _ _ _ _ hd hs h0 ?_
      have := h w (by
        rw [hg]
        congr 3
        unfold over
        rcases Nat.eq_zero_or_pos xs.length with h1 | h1
        · rw [List.eq_nil_of_length_eq_zero h1]; simp
        · have h2 : cur.length = 0 := by omega
          rw [List.eq_nil_of_length_eq_zero h2]; simp) (Ext.refl _ _)
      rw [h0] at this
      exact this
    · have hmin : ((xs.take cur.length).map (Value.int .u8)).length = Nat.min xs.length cur.length := by simp only [List.length_map, List.length_take]; exact Nat.min_comm _ _
      refine wpList_copy_own hgd d s T T ho elem hu hsz g 0 cur.length cap ⟨b, off, none⟩ xs.length vcap hd hs (u8s cur) t hg ((xs.take cur.length).map (Value.int .u8)) hmin ?_ ?_ ?_ ?_
      · intro j x hj
        have hjl : j < (xs.take cur.length).length := by
          obtain ⟨hh, _⟩ := List.getElem?_eq_some_iff.1 hj
          simpa using hh
        have hjx : j < xs.length := by simp at hjl; omega
        have hplain : (⟨b, off, none⟩ : Addr).add j = ⟨b, off + j, none⟩ := by unfold Addr.add; split <;> simp_all
        rw [hplain, hcell j hjx, ← hj]
        simp only [List.length_take] at hjl
        rw [List.getElem?_map, List.getElem?_take, if_pos (by omega)]
        simp [List.getD, List.getElem?_eq_getElem hjx]
      · rw [u8s_size, hmin]; have := Nat.min_le_right xs.length cur.length; show 0 + min _ _ ≤ _; omega
      · intro x hx; obtain ⟨y, _, rfl⟩ := List.mem_map.1 hx; rfl
      · have := h (w.setRow g ((u8s cur).toList.take 0 ++ ((xs.take cur.length).map (Value.int .u8) ++ (u8s cur).toList.drop (0 + ((xs.take cur.length).map (Value.int .u8)).length))).toArray) (by
          apply key
          rw [setRow_heap w g _ _ t _ hg]
          rfl) ⟨rfl, rfl, rfl, by simp [World.setRow], fun k _ hk => setRow_other w g k _ hk⟩
        rw [hmin] at this ⊢
        exact this

/-- n noughts, as a block holds them. -/
def zeros (n : Nat) : List Int := List.replicate n 0
theorem zeros_length (n : Nat) : (zeros n).length = n := by simp [zeros]

theorem cell_heap {w : World} {b i : Nat} {cs : Array Value} {t : TypeId} {fr : Nat × Nat} {v : Value} (h : w.heap[b]? = some (.cells cs t fr)) (hi : cs[i]? = some v) : w.cell? ⟨b, i, none⟩ = some v :=
  (cell_of_heap h i).trans hi
theorem heap_alloc_get (w : World) (o : Obj) (k : Nat) : (w.alloc o).heap[k]? = if k = w.heap.size then some o else w.heap[k]? := by
  show (w.heap.push o)[k]? = _
  rw [Array.getElem?_push]

theorem Bytes.nil (w : World) : Bytes w (.slice none 0 0) [] := ⟨.inl ⟨none, 0, rfl, rfl, rfl⟩, by simp, by simp⟩

/-- append, whatever the source, onto a slice that the call owns (or a nil one): both arms. -/
theorem run_append_src {P : Program} (w : World) (t tx ty e : TypeId) (i : TypeInfo) (z : Value) (size bytes : Nat) (ht : P.underlying t = some (.slice e)) (hi : P.info? e = some i) (hz : i.zero = some z)
    (hsize : i.size = size) (hby : i.bytes = bytes) (hzs : z.cells.size = size) (v : Value) (n : Nat) (xs : List Value) (hown : w.ownsRow 0 e size v n xs)
    (x : Value) (m : Nat) (news : List Value) (hs : Src P size tx x m news w) (h63 : n + m ≤ maxLen) (hbytes : (n + m) * bytes ≤ 140737488355328) :
    ∃ v' w', (Builtin.append_ #[t, tx] ty #[v, x]).run P w = .ok v' w' ∧ w'.ownsRow 0 e size v' (n + m) (xs ++ news) ∧ w.grownBy w' v.ownBlock ∧
      (v'.ownBlock = v.ownBlock ∨ v'.ownBlock = some w.heap.size) := by
  subst hsize hby
  have hl : news.length = m * i.size := hs.newsLen
  have hlen : (xs ++ news).length = (n + m) * i.size := by rw [List.length_append, hown.1, hl, Nat.add_mul]
  have grown : ∀ (old : Nat), old < n + m → ∀ (row : Option Nat),
      (w.drew.alloc (.cells ((xs ++ news).toArray ++ Builtin.zeroCells z.cells (grownCap w (n + m) old e - (n + m))) e)).ownsRow 0 e i.size
        (.slice (some ⟨w.heap.size, 0, none⟩) (n + m) (grownCap w (n + m) old e)) (n + m) (xs ++ news) ∧
      w.grownBy (w.drew.alloc (.cells ((xs ++ news).toArray ++ Builtin.zeroCells z.cells (grownCap w (n + m) old e - (n + m))) e)) row := by
    intro old ho row
    have hge := grownCap_ge w (n + m) old e
    have hcm : grownCap w (n + m) old e ≤ maxLen := grownCap_le_maxLen w (n + m) old e h63
    refine ⟨⟨hlen, .inr ⟨w.heap.size, _, _, rfl, Nat.zero_le _, heap_alloc_new w.drew _, hge, hcm, ?_, ?_⟩⟩, ⟨rfl, rfl, rfl, by simp, fun k hk _ => Below.heap_alloc w.drew _ k hk⟩⟩
    · rw [Array.size_append, size_zeroCells, hzs]
      simp only [List.size_toArray]
      rw [hlen, ← Nat.add_mul]
      congr 1
      omega
    · rw [Array.toList_append, ← hlen]
      exact List.take_left
  rcases hown.2 with ⟨rfl, rfl⟩ | ⟨g, cap, cur, rfl, hbg, hg, hnc, hcm, hcs, htake⟩
  · have hx : xs = [] := List.eq_nil_of_length_eq_zero (by simpa using hown.1)
    subst hx
    by_cases hm : m = 0
    · subst hm
      have hn : news = [] := List.eq_nil_of_length_eq_zero (by simpa using hl)
      subst hn
      refine ⟨.slice none 0 0, w, ?_, World.ownsRow_nil w 0 e i.size, ⟨rfl, rfl, rfl, Nat.le_refl _, fun _ _ _ => rfl⟩, .inl rfl⟩
      have hc := hs.cells
      rcases hs.kind with ⟨e', hk⟩ | hk <;> simp [Builtin.append_, run_underlying ht, run_underlying hk, sizeOf, typeInfo, hi, hs.len, hc]
    · have h63' : ((0 + m : Nat) : Int) ≤ 9223372036854775807 := by simp only [maxLen] at h63; omega
      have hr := run_append_grow_src (P := P) w t tx ty e i z ht hi hz none 0 0 [] (by simp [Builtin.firstCells]) x m news hs (by omega) h63' (growslice_fits (by omega) hbytes)
      have hgr := grown 0 (by omega) (Value.ownBlock (.slice none 0 0))
      exact ⟨_, _, hr, hgr.1, hgr.2, .inr rfl⟩
  · by_cases hroom : n + m ≤ cap
    · have hfit : n * i.size + news.length ≤ cur.size := by rw [hl, hcs, ← Nat.add_mul]; exact Nat.mul_le_mul_right _ hroom
      have hst := run_storeCells_at P g (n * i.size) e news 0 cur w hg (by simpa using hfit) hs.one
      simp only [Nat.add_zero] at hst
      have hr : (Builtin.append_ #[t, tx] ty #[.slice (some ⟨g, 0, none⟩) n cap, x]).run P w = .ok (.slice (some ⟨g, 0, none⟩) (n + m) cap)
          (w.setRow g (cur.toList.take (n * i.size) ++ news ++ cur.toList.drop (n * i.size + news.length)).toArray) := by
        rcases hs.kind with ⟨e', hk⟩ | hk <;> simp [Builtin.append_, run_underlying ht, run_underlying hk, sizeOf, typeInfo, hi, hs.len, hroom, hs.cells, Addr.add_lit, hst]
      refine ⟨_, _, hr, ⟨hlen, .inr ⟨g, cap, _, rfl, hbg, setRow_heap w g cur _ e _ hg, hroom, hcm, ?_, ?_⟩⟩, ⟨rfl, rfl, rfl, by simp, fun k _ hk => setRow_other w g k _ (fun e => hk (by simp [Value.ownBlock, e]))⟩, .inl rfl⟩
      · simp only [List.size_toArray, List.length_append, List.length_take, List.length_drop, Array.length_toList]
        omega
      · rw [htake, ← hlen]
        exact List.take_left
    · have holds : ∀ j u, xs[j]? = some u → w.cell? ((⟨g, 0, none⟩ : Addr).add j) = some u := hown.cells (g := g) rfl
      have hold : (Builtin.firstCells i.size n (.slice (some ⟨g, 0, none⟩) n cap)).run P w.drew = .ok xs.toArray w.drew :=
        run_firstCells_some w.drew i.size n ⟨g, 0, none⟩ n cap xs hown.1 (by simpa using holds)
      have h63' : ((n + m : Nat) : Int) ≤ 9223372036854775807 := by simp only [maxLen] at h63; omega
      have hr := run_append_grow_src (P := P) w t tx ty e i z ht hi hz (some ⟨g, 0, none⟩) n cap xs hold x m news hs (by omega) h63' (growslice_fits (by omega) hbytes)
      have hgr := grown cap (by omega) (Value.ownBlock (.slice (some ⟨g, 0, none⟩) n cap))
      exact ⟨_, _, hr, hgr.1, hgr.2, .inr rfl⟩

theorem wpList_append_src {P : Program} {w : World} {ops : Array Oper} {rest : List Oper} {o : Oper} {a : Act} {Q : Exit → Act → World → Prop} (hgd : o.guard = none) (s x : Operand) (t tx : TypeId)
    (ho : o.op = .call { callee := .builtin .append, args := #[s, x], argTypes := #[t, tx] }) (e : TypeId) (z : Value) (size bytes : Nat) (ht : P.underlying t = some (.slice e))
    (hinfo : (P.info? e).map (fun i => (i.zero, i.size, i.bytes)) = some (some z, size, bytes)) (hzs : z.cells.size = size)
    (v xv : Value) (hv : a.eval s = v) (hxv : a.eval x = xv) (n : Nat) (xs : List Value) (hown : w.ownsRow 0 e size v n xs) (m : Nat) (news : List Value) (hs : Src P size tx xv m news w)
    (h63 : n + m ≤ maxLen) (hbytes : (n + m) * bytes ≤ 140737488355328)
    (h : ∀ v' w', w'.ownsRow 0 e size v' (n + m) (xs ++ news) → w.grownBy w' v.ownBlock → (v'.ownBlock = v.ownBlock ∨ v'.ownBlock = some w.heap.size) → wpList P ops Q rest (a.put o.dst v') w') :
    wpList P ops Q (o :: rest) a w := by
  refine wpList_plain hgd fun K hK => ?_
  obtain ⟨i, hi, hz0, hz1, hz2⟩ := info_parts hinfo
  obtain ⟨v', w', hr, h2, h3, h4⟩ := run_append_src (P := P) w t tx o.type e i z size bytes ht hi hz0 hz1 hz2 hzs v n xs hown xv m news hs h63 hbytes
  unfold Oper.wp execOp
  simp only [ho, resolve, invoke, builtin, Sem.run_bind, Sem.run_pure, Result.andThen_ok, List.map_toArray, List.map_cons, List.map_nil, hv, hxv, hr]
  exact hK _ _ (h v' w' h2 h3 h4)

theorem ownsRow_ext {S : Nat → Prop} {w w' : World} {e : TypeId} {size : Nat} {v : Value} {n : Nat} {xs : List Value} (h : w.ownsRow 0 e size v n xs) (g : Ext S w w') (hs : ∀ k, v.ownBlock = some k → ¬ S k) : w'.ownsRow 0 e size v n xs := by
  refine ⟨h.1, ?_⟩
  rcases h.2 with h0 | ⟨b, cap, cur, rfl, hb, hg, rest⟩
  · exact .inl h0
  · exact .inr ⟨b, cap, cur, rfl, hb, (g.block b (heap_lt hg) (hs b rfl)).trans hg, rest⟩
theorem ownsRow_grows {w w' : World} {e : TypeId} {size : Nat} {v : Value} {n : Nat} {xs : List Value} (h : w.ownsRow 0 e size v n xs) (g : Grows w w') : w'.ownsRow 0 e size v n xs :=
  ownsRow_ext h g (fun _ _ h => h)

/-- .. at a step of a region that draws its order. -/
theorem step_append_src {P : Program} {ops : Array Oper} {o : Oper} {a : Act} {w : World} {K : Act → World → Prop} {Q : Exit → Act → World → Prop} {E : Prop} (hgd : o.guard = none) (s x : Operand) (t tx : TypeId)
    (ho : o.op = .call { callee := .builtin .append, args := #[s, x], argTypes := #[t, tx] }) (e : TypeId) (z : Value) (size bytes : Nat) (ht : P.underlying t = some (.slice e))
    (hinfo : (P.info? e).map (fun i => (i.zero, i.size, i.bytes)) = some (some z, size, bytes)) (hzs : z.cells.size = size)
    (v xv : Value) (hv : a.eval s = v) (hxv : a.eval x = xv) (n : Nat) (xs : List Value) (hown : w.ownsRow 0 e size v n xs) (m : Nat) (news : List Value) (hs : Src P size tx xv m news w)
    (h63 : n + m ≤ maxLen) (hbytes : (n + m) * bytes ≤ 140737488355328)
    (h : ∀ v' w', w'.ownsRow 0 e size v' (n + m) (xs ++ news) → w.grownBy w' v.ownBlock → (v'.ownBlock = v.ownBlock ∨ v'.ownBlock = some w.heap.size) → K (a.put o.dst v') w') :
    if Region.wanted o (yielded ops a.tmps) = true then Oper.wp P o a w K Q else E := by
  have hw : Region.wanted o (yielded ops a.tmps) = true := by simp [Region.wanted, hgd]
  rw [if_pos hw]
  obtain ⟨i, hi, hz0, hz1, hz2⟩ := info_parts hinfo
  obtain ⟨v', w', hr, h2, h3, h4⟩ := run_append_src (P := P) w t tx o.type e i z size bytes ht hi hz0 hz1 hz2 hzs v n xs hown xv m news hs h63 hbytes
  unfold Oper.wp execOp
  simp only [ho, resolve, invoke, builtin, Sem.run_bind, Sem.run_pure, Result.andThen_ok, List.map_toArray, List.map_cons, List.map_nil, hv, hxv, hr]
  exact h v' w' h2 h3 h4

/-- One value that was laid into a block of its own, as a source of append. -/
theorem src_one {P : Program} {w : World} {t e b : Nat} {ty : TypeId} {x : Value} {fr : Nat × Nat} (ht : P.underlying t = some (.slice e)) (hb : w.heap[b]? = some (.cells #[x] ty fr)) (h1 : x.oneCell' = true) : Src P 1 t (.slice (some ⟨b, 0, none⟩) 1 1) 1 [x] w := by
  refine Src.ofSlice w ht ⟨b, 0, none⟩ 1 1 [x] rfl (fun j u hj => ?_) (fun u hu => ?_)
  · obtain ⟨hjl, rfl⟩ := List.getElem?_eq_some_iff.1 hj
    obtain rfl : j = 0 := by simp at hjl; omega
    exact cell_heap hb rfl
  · simp at hu; subst hu; exact h1

/-- Bytes, as a source of append. -/
theorem Bytes.src {P : Program} {w : World} {v : Value} {xs : List Int} (h : Bytes w v xs) {t e : TypeId} (ht : P.underlying t = some (.slice e)) : Src P 1 t v xs.length (xs.map (Value.int .u8)) w := by
  rcases h.cases with ⟨a, cap, rfl, rfl⟩ | ⟨b, off, cap, rfl, hcap, hmax, hlt, hcell⟩
  · cases a with
    | none => exact Src.ofNil w ht cap
    | some x => exact Src.ofSlice w ht x 0 cap [] (by simp) (by simp) (by simp)
  · refine Src.ofSlice w ht ⟨b, off, none⟩ xs.length cap _ (by simp) (fun j u hj => ?_) (fun u hu => ?_)
    · obtain ⟨hjl, rfl⟩ := List.getElem?_eq_some_iff.1 hj
      have hjx : j < xs.length := by simpa using hjl
      have hplain : (⟨b, off, none⟩ : Addr).add j = ⟨b, off + j, none⟩ := by unfold Addr.add; split <;> simp_all
      rw [hplain, hcell j hjx]
      simp [List.getD, List.getElem?_eq_getElem hjx]
    · obtain ⟨y, _, rfl⟩ := List.mem_map.1 hu
      rfl

/-- A row of bytes that the call owns, as bytes. -/
theorem Bytes.of_owns {w : World} {e : TypeId} {v : Value} {xs : List Int} {n : Nat} (h : w.ownsRow 0 e 1 v n (xs.map (Value.int .u8))) (hx : ∀ x ∈ xs, 0 ≤ x ∧ x < 256) (hl : xs.length ≤ 140737488351232) : Bytes w v xs := by
  have hn : n = xs.length := by have := h.1; simp at this; omega
  subst hn
  refine ⟨?_, hx, hl⟩
  rcases h.2 with ⟨rfl, h0⟩ | ⟨g, cap, cur, rfl, _, hg, hnc, hcm, hcs, htake⟩
  · exact .inl ⟨none, 0, rfl, h0, by simp [List.eq_nil_of_length_eq_zero h0]⟩
  · refine .inr ⟨g, 0, cap, rfl, hnc, hcm, heap_lt hg, fun i hi => ?_⟩
    have hi' : i < xs.length := by simpa using hi
    rw [Nat.zero_add, cell_of_heap hg]
    have : (cur.toList.take (xs.length * 1))[i]? = (xs.map (Value.int .u8))[i]? := by rw [htake]
    rw [List.getElem?_take, if_pos (by omega)] at this
    rw [Array.getElem?_toList] at this
    rw [this]
    simp [List.getD, List.getElem?_eq_getElem hi']

end Go.Proofs.Ytekdggdnkmkldaa
