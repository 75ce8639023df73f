/- sched: the sort of Round, by the shelf. -/
import Derived.Test.YtekdggdnkmkldaaSchedD
import Derived.Shelf.SlSortCmp.NoneTotal
import Derived.Shelf.SlicesE.Clone
import Derived.Shelf.SlicesQ.IndexFunc
import Derived.Shelf.SlGeneric
import Derived.Ground.SlsfProg
import Derived.Ground.SlgnProg
import Derived.Ground.SlgfProg
namespace Go.Proofs.Ytekdggdnkmkldaa
set_option linter.unusedVariables false
set_option linter.unusedSimpArgs false
set_option maxRecDepth 1500
open Go.Shelf Go.RowKit Go.Lib Go.Sort
def sortPl_ren : Go.Shelf.Ren := ⟨fun | 6 => 94 | 15 => 102 | 14 => 101 | 28 => 115 | 29 => 116 | 20 => 107 | 21 => 108 | 22 => 109 | 23 => 110 | 24 => 111 | 25 => 112 | 26 => 113 | 27 => 114 | 46 => 119 | 47 => 120 | 48 => 121 | 49 => 122 | 50 => 123 | 57 => 124 | n => n, fun | 22 => 63 | 24 => 31 | 25 => 167 | 3 => 3 | 39 => 174 | 0 => 0 | 53 => 189 | 55 => 27 | 4 => 4 | 46 => 182 | 45 => 181 | 50 => 186 | 5 => 5 | 9 => 9 | 66 => 192 | 70 => 195 | 76 => 197 | 77 => 198 | n => n, fun | n => n⟩
theorem sortPl : Go.Proofs.SlLaysF0.n6 Try.prog sortPl_ren := {
  mixed := by kernel_rfl
  f6 := ⟨Try.f94.name, by decide, Try.func94.trans (congrArg some (by kernel_rfl))⟩
  f14 := ⟨Try.f101.name, by decide, Try.func101.trans (congrArg some (by kernel_rfl))⟩
  f15 := Try.func102.trans (congrArg some (by kernel_rfl))
  f20 := ⟨Try.f107.name, by decide, Try.func107.trans (congrArg some (by kernel_rfl))⟩
  f21 := ⟨Try.f108.name, by decide, Try.func108.trans (congrArg some (by kernel_rfl))⟩
  f22 := ⟨Try.f109.name, by decide, Try.func109.trans (congrArg some (by kernel_rfl))⟩
  f23 := ⟨Try.f110.name, by decide, Try.func110.trans (congrArg some (by kernel_rfl))⟩
  f24 := ⟨Try.f111.name, by decide, Try.func111.trans (congrArg some (by kernel_rfl))⟩
  f25 := ⟨Try.f112.name, by decide, Try.func112.trans (congrArg some (by kernel_rfl))⟩
  f26 := ⟨Try.f113.name, by decide, Try.func113.trans (congrArg some (by kernel_rfl))⟩
  f27 := ⟨Try.f114.name, by decide, Try.func114.trans (congrArg some (by kernel_rfl))⟩
  f28 := Try.func115.trans (congrArg some (by kernel_rfl))
  f29 := Try.func116.trans (congrArg some (by kernel_rfl))
  f46 := ⟨Try.f119.name, by decide, Try.func119.trans (congrArg some (by kernel_rfl))⟩
  f47 := Try.func120.trans (congrArg some (by kernel_rfl))
  f48 := Try.func121.trans (congrArg some (by kernel_rfl))
  f49 := ⟨Try.f122.name, by decide, Try.func122.trans (congrArg some (by kernel_rfl))⟩
  f50 := ⟨Try.f123.name, by decide, Try.func123.trans (congrArg some (by kernel_rfl))⟩
  f57 := ⟨Try.f124.name, by decide, Try.func124.trans (congrArg some (by kernel_rfl))⟩
  t0 := Try.underlying0
  a0 := Try.isAgg0
  z0 := Try.sizeOf0
  v0 := Try.zeroValue0
  t3 := Try.underlying3
  a3 := Try.isAgg3
  z3 := Try.sizeOf3
  v3 := Try.zeroValue3
  t4 := Try.underlying4
  a4 := Try.isAgg4
  z4 := Try.sizeOf4
  v4 := Try.zeroValue4
  t5 := Try.underlying5
  a5 := Try.isAgg5
  z5 := Try.sizeOf5
  v5 := Try.zeroValue5
  t9 := Try.underlying9
  a9 := Try.isAgg9
  z9 := Try.sizeOf9
  v9 := Try.zeroValue9
  t22 := Try.underlying63
  a22 := Try.isAgg63
  z22 := Try.sizeOf63
  v22 := Try.zeroValue63
  t25 := Try.underlying167
  a25 := Try.isAgg167
  z25 := Try.sizeOf167
  v25 := Try.zeroValue167
  t39 := Try.underlying174
  a39 := Try.isAgg174
  z39 := Try.sizeOf174
  v39 := Try.zeroValue174
  t45 := Try.underlying181
  a45 := Try.isAgg181
  z45 := Try.sizeOf181
  v45 := Try.zeroValue181
  t46 := Try.underlying182
  a46 := Try.isAgg182
  z46 := Try.sizeOf182
  v46 := Try.zeroValue182
  t50 := Try.underlying186
  a50 := Try.isAgg186
  z50 := Try.sizeOf186
  v50 := Try.zeroValue186
  t53 := Try.underlying189
  a53 := Try.isAgg189
  z53 := Try.sizeOf189
  v53 := Try.zeroValue189
  t55 := Try.underlying27
  a55 := Try.isAgg27
  z55 := Try.sizeOf27
  v55 := Try.zeroValue27
  t66 := Try.underlying192
  a66 := Try.isAgg192
  z66 := Try.sizeOf192
  v66 := Try.zeroValue192
  t70 := Try.underlying195
  a70 := Try.isAgg195
  z70 := Try.sizeOf195
  v70 := Try.zeroValue195
  t76 := Try.underlying197
  a76 := Try.isAgg197
  z76 := Try.sizeOf197
  v76 := Try.zeroValue197
  t77 := Try.underlying198
  a77 := Try.isAgg198
  z77 := Try.sizeOf198
  v77 := Try.zeroValue198 }
def clonePl_ren : Go.Shelf.Ren := ⟨fun | 41 => 93 | n => n, fun | 22 => 63 | 23 => 31 | 4 => 4 | n => n, fun | n => n⟩
theorem clonePl : Go.Proofs.SlLaysE0.n41 Try.prog clonePl_ren := {
  mixed := by kernel_rfl
  f41 := ⟨Try.f93.name, by decide, Try.func93.trans (congrArg some (by kernel_rfl))⟩
  t4 := Try.underlying4
  a4 := Try.isAgg4
  z4 := Try.sizeOf4
  v4 := Try.zeroValue4
  t22 := Try.underlying63
  a22 := Try.isAgg63
  z22 := Try.sizeOf63
  v22 := Try.zeroValue63 }
def indexPl_ren : Go.Shelf.Ren := ⟨fun | 6 => 98 | n => n, fun | 22 => 63 | 23 => 31 | 25 => 168 | 3 => 3 | 0 => 0 | 4 => 4 | n => n, fun | n => n⟩
theorem indexPl : Go.Proofs.SlLaysH0.n6 Try.prog indexPl_ren := {
  mixed := by kernel_rfl
  f6 := ⟨Try.f98.name, by decide, Try.func98.trans (congrArg some (by kernel_rfl))⟩
  t0 := Try.underlying0
  a0 := Try.isAgg0
  z0 := Try.sizeOf0
  v0 := Try.zeroValue0
  t3 := Try.underlying3
  a3 := Try.isAgg3
  z3 := Try.sizeOf3
  v3 := Try.zeroValue3
  t4 := Try.underlying4
  a4 := Try.isAgg4
  z4 := Try.sizeOf4
  v4 := Try.zeroValue4
  t22 := Try.underlying63
  a22 := Try.isAgg63
  z22 := Try.sizeOf63
  v22 := Try.zeroValue63
  t25 := Try.underlying168
  a25 := Try.isAgg168
  z25 := Try.sizeOf168
  v25 := Try.zeroValue168 }

instance : Inhabited PlaceV := ⟨⟨0, 0⟩⟩
def encPl (x : PlaceV) : List Value := [.int .i64 x.flow, .int .u64 x.gen]
theorem swoPl : SWO (ltOf cmpP) := by
  have e : ∀ x y, ltOf cmpP x y = decide (ltP x y) := fun x y => by
    unfold ltOf
    simp only [cmpP_lt]
  refine ⟨fun x => ?_, fun x y z h1 h2 => ?_, fun x y z h1 h2 => ?_⟩
  · rw [e]; simp [ltP_irrefl]
  · rw [e] at *; simp at *; exact ltP_trans h1 h2
  · rw [e] at *
    simp only [decide_eq_false_iff_not] at *
    intro h3
    rcases ltP_total y x with h | h | h
    · exact h2 (ltP_trans h h3)
    · subst h; exact h2 h3
    · exact h1 h
theorem cmpLaysPl (blk off size : Nat) (w : World) : CmpLays Try.prog 95 #[] encPl 2 cmpP blk off size w := fun _ _ _ _ x y => compare_any x y _
theorem flat_pl (l : List PlaceV) (j : Nat) (hj : j < l.length * 2) : (plcells l)[j]? = some ((flatK encPl 2 l.toArray)[j]!) := by
  have h := get_flatK encPl 2 l.toArray j (by simpa using hj)
  rw [h]
  have hq : j / 2 < l.length := by omega
  have e1 : (l.toArray)[j / 2]! = l[j / 2] := by simp [hq]
  rw [e1]
  obtain ⟨g1, g2⟩ := plcells_get l (j / 2) hq
  generalize l[j / 2] = x at g1 g2 ⊢
  have : j % 2 = 0 ∨ j % 2 = 1 := by omega
  rcases this with h0 | h0
  · rw [show j / 2 * 2 = j by omega] at g1
    rw [h0, g1]; rfl
  · rw [show j / 2 * 2 + 1 = j by omega] at g2
    rw [h0, g2]; rfl
theorem sort_block {w : World} {blk : Nat} {cur : Array Value} {e : TypeId} {fr : Nat × Nat} (h : w.heap[blk]? = some (.cells cur e fr)) (off n : Nat) (d : Array PlaceV) (os : Array Obj) :
    ∃ cur', (sortWorldK encPl 2 w blk off n d os).heap[blk]? = some (.cells cur' e fr) ∧ cur'.size = cur.size := by
  have hlt := heap_lt h
  refine ⟨putCells id off (flatK encPl 2 d) cur, ?_, by simp [putCells]⟩
  simp only [sortWorldK, grow, putRowK, putRow, mapBlock, Sort.ahead]
  rw [Array.getElem?_append_left (by simpa using hlt), Array.getElem?_modify, if_pos rfl, h]
  rfl
theorem sort_ext (w : World) (blk off n : Nat) (d : Array PlaceV) (os : Array Obj) : Ext (fun k => k = blk) w (sortWorldK encPl 2 w blk off n d os) := by
  refine ⟨rfl, rfl, rfl, size_sortWorldK_c encPl 2 w blk off n d os, fun k hk hne => ?_⟩
  simp only [sortWorldK, grow, putRowK, putRow, mapBlock, Sort.ahead]
  rw [Array.getElem?_append_left (by simpa using hk), Array.getElem?_modify, if_neg (fun e => hne e.symm)]

theorem sort_any (v : Value) (d : List PlaceV) (w : World) (h : OwnP w v d) (hl : d.length ≤ 2097152) :
    Calls Try.prog 94 #[v, .func (.func 95) #[] #[]] w fun e w' => e = .returned (.tuple #[]) ∧ ∃ d', d'.Perm d ∧ Weak d' ∧ OwnP w' v d' ∧ Ext (fun k => v.ownBlock = some k) w w' := by
  have h' := h
  rcases h'.2 with ⟨rfl, h0⟩ | ⟨g, off, cap, cur, rfl, hg, h1, h2, h3, h4⟩
  · obtain rfl := List.eq_nil_of_length_eq_zero h0
    refine (AnyF.slices_SortFunc_none { sortPl with } none 0 _ w).mono ?_
    rintro e w' ⟨rfl, rfl⟩
    exact ⟨rfl, [], List.Perm.refl _, List.Pairwise.nil, h, Ext.refl _ _⟩
  · have eg : ∀ args w, (callFunc 95 args).run Try.prog w = .ok (.enter 95 args) w := enters_of Try.func95 (by kernel_rfl) rfl
    have hH : HoldsK encPl 2 w g off d.toArray := fun j hj => by
      have hj2 : j < d.length * 2 := by simpa using hj
      rw [cell_of_heap hg, h4 j hj2, flat_pl d j hj2]
      exact ⟨rfl, frozen_of_heap hg _⟩
    have hcon := AnyQ.slices_SortFunc sortPl 2 Try.isAgg31 Try.sizeOf31 encPl (fun _ => rfl) (fun x u hu => by simp [encPl] at hu; rcases hu with rfl | rfl <;> rfl) cmpP swoPl 95 #[] g off cap d.toArray w eg (cmpLaysPl g off d.toArray.size w) hH (heap_lt hg) (by simp; omega)
    change Calls Try.prog 94 _ _ _ at hcon
    rw [List.size_toArray] at hcon
    refine hcon.mono ?_
    rintro e w' ⟨rfl, d', n, os, hp, hs, rfl⟩
    obtain ⟨hp1, _, hp3⟩ := hp
    have hsz : d'.size = d.length := by simpa using hp1
    obtain ⟨cur', hb, hcs⟩ := sort_block hg off n d' os
    have hH' := holdsK_sortWorldK encPl 2 w g off n d.toArray d' os (heap_lt hg) hH (by simpa using hsz)
    have hlen : d'.toList.length = d.length := by simpa using hsz
    refine ⟨rfl, d'.toList, ?_, ?_, ?_, (sort_ext w g off n d' os).mono (fun k _ hk => by rw [hk]; rfl)⟩
    · have e1 : (d'.extract 0 d.length).toList = d'.toList := by rw [← hsz]; simp
      have e2 : (d.toArray.extract 0 d.length).toList = d := by simp
      rw [e1, e2] at hp3
      exact hp3
    · refine List.pairwise_iff_getElem.2 (fun i j hi hj hij => ?_)
      have := hs i j (Nat.zero_le _) hij (by simpa [hsz] using hj)
      unfold ltOf at this
      simp only [decide_eq_false_iff_not, cmpP_lt] at this
      have hi' : i < d'.size := by simpa using hi
      have hj' : j < d'.size := by simpa using hj
      rw [getElem!_pos d' i hi', getElem!_pos d' j hj'] at this
      simpa using this
    · refine ⟨plcells_length _, .inr ⟨g, off, cap, cur', by rw [hlen], hb, by omega, h2, by omega, fun i hi => ?_⟩⟩
      rw [hlen] at hi
      have h9 := (hH' i (by simp; omega)).1
      rw [cell_of_heap hb] at h9
      rw [h9, flat_pl d'.toList i (by omega)]
      simp

end Go.Proofs.Ytekdggdnkmkldaa
