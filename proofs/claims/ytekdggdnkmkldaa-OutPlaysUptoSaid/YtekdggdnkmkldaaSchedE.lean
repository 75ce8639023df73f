/- sched: the sort of Round, by the shelf. -/
import Derived.Test.YtekdggdnkmkldaaSchedD
import Derived.Shelf.SlSortCmp.NoneTotal
import Derived.Shelf.SlicesE.Clone
import Derived.Shelf.SlicesQ.IndexFunc
import Derived.Shelf.SlGeneric
import Derived.Shelf.Lay
import Derived.Ground.SlsfProg
import Derived.Ground.SlgnProg
import Derived.Ground.SlgfProg
namespace Go.Proofs.Ytekdggdnkmkldaa
set_option linter.unusedVariables false
set_option linter.unusedSimpArgs false
set_option maxRecDepth 1500
open Go.Shelf Go.RowKit Go.Lib Go.Sort
shelf_lay_g SlLaysF0.n6 Slsf 6 at Try 94 as sortPl
shelf_lay_g SlLaysE0.n41 Slgn 41 at Try 93 as clonePl
shelf_lay_g SlLaysH0.n6 Slgf 6 at Try 98 as indexPl

instance : Inhabited PlaceV := ⟨⟨0, 0⟩⟩
def encPl (x : PlaceV) : List Value := [.int .i64 x.flow, .int .u64 x.gen]
theorem swoPl : SWO (ltOf cmpP) := by
  have e : ∀ x y, ltOf cmpP x y = decide (ltP x y) := fun x y => by
    unfold ltOf
    simp only [cmpP_lt]
  refine ⟨fun x => ?_, fun x y z h1 h2 => ?_, fun x y z h1 h2 => ?_⟩
  · rw [e]; simp [ltP_irrefl]
  · rw [e] at *; simp at *; exact ltP_trans h1 h2
  · rw [e] at *
    simp only [decide_eq_false_iff_not] at *
    intro h3
    rcases ltP_total y x with h | h | h
    · exact h2 (ltP_trans h h3)
    · subst h; exact h2 h3
    · exact h1 h
theorem cmpLaysPl (blk off size : Nat) (w : World) : CmpLays Try.prog 95 #[] encPl 2 cmpP blk off size w := fun _ _ _ _ x y => compare_any x y _
theorem flat_pl (l : List PlaceV) (j : Nat) (hj : j < l.length * 2) : (plcells l)[j]? = some ((flatK encPl 2 l.toArray)[j]!) := by
  have h := get_flatK encPl 2 l.toArray j (by simpa using hj)
  rw [h]
  have hq : j / 2 < l.length := by omega
  have e1 : (l.toArray)[j / 2]! = l[j / 2] := by simp [hq]
  rw [e1]
  obtain ⟨g1, g2⟩ := plcells_get l (j / 2) hq
  generalize l[j / 2] = x at g1 g2 ⊢
  have : j % 2 = 0 ∨ j % 2 = 1 := by omega
  rcases this with h0 | h0
  · rw [show j / 2 * 2 = j by omega] at g1
    rw [h0, g1]; rfl
  · rw [show j / 2 * 2 + 1 = j by omega] at g2
    rw [h0, g2]; rfl
theorem sort_block {w : World} {blk : Nat} {cur : Array Value} {e : TypeId} {fr : Nat × Nat} (h : w.heap[blk]? = some (.cells cur e fr)) (off n : Nat) (d : Array PlaceV) (os : Array Obj) :
    ∃ cur', (sortWorldK encPl 2 w blk off n d os).heap[blk]? = some (.cells cur' e fr) ∧ cur'.size = cur.size := by
  have hlt := heap_lt h
  refine ⟨putCells id off (flatK encPl 2 d) cur, ?_, by simp [putCells]⟩
  simp only [sortWorldK, grow, putRowK, putRow, mapBlock, Sort.ahead]
  rw [Array.getElem?_append_left (by simpa using hlt), Array.getElem?_modify, if_pos rfl, h]
  rfl
theorem sort_ext (w : World) (blk off n : Nat) (d : Array PlaceV) (os : Array Obj) : Ext (fun k => k = blk) w (sortWorldK encPl 2 w blk off n d os) := by
  refine ⟨rfl, rfl, rfl, size_sortWorldK_c encPl 2 w blk off n d os, fun k hk hne => ?_⟩
  simp only [sortWorldK, grow, putRowK, putRow, mapBlock, Sort.ahead]
  rw [Array.getElem?_append_left (by simpa using hk), Array.getElem?_modify, if_neg (fun e => hne e.symm)]

theorem sort_any (v : Value) (d : List PlaceV) (w : World) (h : OwnP w v d) (hl : d.length ≤ 2097152) :
    Calls Try.prog 94 #[v, .func (.func 95) #[] #[]] w fun e w' => e = .returned (.tuple #[]) ∧ ∃ d', d'.Perm d ∧ Weak d' ∧ OwnP w' v d' ∧ Ext (fun k => v.ownBlock = some k) w w' := by
  have h' := h
  rcases h'.2 with ⟨rfl, h0⟩ | ⟨g, off, cap, cur, rfl, hg, h1, h2, h3, h4⟩
  · obtain rfl := List.eq_nil_of_length_eq_zero h0
    refine (AnyF.slices_SortFunc_none { sortPl with } none 0 _ w).mono ?_
    rintro e w' ⟨rfl, rfl⟩
    exact ⟨rfl, [], List.Perm.refl _, List.Pairwise.nil, h, Ext.refl _ _⟩
  · have eg : ∀ args w, (callFunc 95 args).run Try.prog w = .ok (.enter 95 args) w := enters_of Try.func95 (by kernel_rfl) rfl
    have hH : HoldsK encPl 2 w g off d.toArray := fun j hj => by
      have hj2 : j < d.length * 2 := by simpa using hj
      rw [cell_of_heap hg, h4 j hj2, flat_pl d j hj2]
      exact ⟨rfl, frozen_of_heap hg _⟩
    have hcon := AnyQ.slices_SortFunc sortPl 2 Try.isAgg31 Try.sizeOf31 encPl (fun _ => rfl) (fun x u hu => by simp [encPl] at hu; rcases hu with rfl | rfl <;> rfl) cmpP swoPl 95 #[] g off cap d.toArray w eg (cmpLaysPl g off d.toArray.size w) hH (heap_lt hg) (by simp; omega)
    change Calls Try.prog 94 _ _ _ at hcon
    rw [List.size_toArray] at hcon
    refine hcon.mono ?_
    rintro e w' ⟨rfl, d', n, os, hp, hs, rfl⟩
    obtain ⟨hp1, _, hp3⟩ := hp
    have hsz : d'.size = d.length := by simpa using hp1
    obtain ⟨cur', hb, hcs⟩ := sort_block hg off n d' os
    have hH' := holdsK_sortWorldK encPl 2 w g off n d.toArray d' os (heap_lt hg) hH (by simpa using hsz)
    have hlen : d'.toList.length = d.length := by simpa using hsz
    refine ⟨rfl, d'.toList, ?_, ?_, ?_, (sort_ext w g off n d' os).mono (fun k _ hk => by rw [hk]; rfl)⟩
    · have e1 : (d'.extract 0 d.length).toList = d'.toList := by rw [← hsz]; simp
      have e2 : (d.toArray.extract 0 d.length).toList = d := by simp
      rw [e1, e2] at hp3
      exact hp3
    · refine List.pairwise_iff_getElem.2 (fun i j hi hj hij => ?_)
      have := hs i j (Nat.zero_le _) hij (by simpa [hsz] using hj)
      unfold ltOf at this
      simp only [decide_eq_false_iff_not, cmpP_lt] at this
      have hi' : i < d'.size := by simpa using hi
      have hj' : j < d'.size := by simpa using hj
      rw [getElem!_pos d' i hi', getElem!_pos d' j hj'] at this
      simpa using this
    · refine ⟨plcells_length _, .inr ⟨g, off, cap, cur', by rw [hlen], hb, by omega, h2, by omega, fun i hi => ?_⟩⟩
      rw [hlen] at hi
      have h9 := (hH' i (by simp; omega)).1
      rw [cell_of_heap hb] at h9
      rw [h9, flat_pl d'.toList i (by omega)]
      simp

end Go.Proofs.Ytekdggdnkmkldaa
