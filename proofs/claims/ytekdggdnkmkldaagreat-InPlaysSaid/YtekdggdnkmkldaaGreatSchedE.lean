/- sched: the sort of Round, by the shelf. -/
import Derived.Test.YtekdggdnkmkldaaGreatSchedD
import Derived.Shelf.SlSortCmp.NoneTotal
import Derived.Shelf.SlicesE.Clone
import Derived.Shelf.SlicesQ.IndexFunc
import Derived.Shelf.SlGeneric
import Derived.Ground.SlsfProg
import Derived.Ground.SlgnProg
import Derived.Ground.SlgfProg
namespace Go.Proofs.YtekdggdnkmkldaaGreat
set_option linter.unusedVariables false
set_option linter.unusedSimpArgs false
set_option maxRecDepth 1500
open Go.Shelf Go.RowKit Go.Lib Go.Sort
def sortPl_ren : Go.Shelf.Ren := ⟨fun | 6 => 74 | 15 => 85 | 14 => 84 | 28 => 102 | 29 => 103 | 20 => 94 | 21 => 95 | 22 => 96 | 23 => 97 | 24 => 98 | 25 => 99 | 26 => 100 | 27 => 101 | 46 => 106 | 47 => 107 | 48 => 108 | 49 => 109 | 50 => 110 | 57 => 111 | n => n, fun | 22 => 102 | 24 => 68 | 25 => 138 | 3 => 3 | 39 => 146 | 0 => 0 | 53 => 161 | 55 => 31 | 4 => 4 | 46 => 154 | 45 => 153 | 50 => 158 | 5 => 5 | 9 => 9 | 66 => 164 | 70 => 167 | 76 => 169 | 77 => 170 | n => n, fun | n => n⟩
theorem sortPl : Go.Proofs.SlLaysF0.n6 Tryz.prog sortPl_ren := {
  mixed := by kernel_rfl
  f6 := ⟨Tryz.f74.name, by decide, Tryz.func74.trans (congrArg some (by kernel_rfl))⟩
  f14 := ⟨Tryz.f84.name, by decide, Tryz.func84.trans (congrArg some (by kernel_rfl))⟩
  f15 := Tryz.func85.trans (congrArg some (by kernel_rfl))
  f20 := ⟨Tryz.f94.name, by decide, Tryz.func94.trans (congrArg some (by kernel_rfl))⟩
  f21 := ⟨Tryz.f95.name, by decide, Tryz.func95.trans (congrArg some (by kernel_rfl))⟩
  f22 := ⟨Tryz.f96.name, by decide, Tryz.func96.trans (congrArg some (by kernel_rfl))⟩
  f23 := ⟨Tryz.f97.name, by decide, Tryz.func97.trans (congrArg some (by kernel_rfl))⟩
  f24 := ⟨Tryz.f98.name, by decide, Tryz.func98.trans (congrArg some (by kernel_rfl))⟩
  f25 := ⟨Tryz.f99.name, by decide, Tryz.func99.trans (congrArg some (by kernel_rfl))⟩
  f26 := ⟨Tryz.f100.name, by decide, Tryz.func100.trans (congrArg some (by kernel_rfl))⟩
  f27 := ⟨Tryz.f101.name, by decide, Tryz.func101.trans (congrArg some (by kernel_rfl))⟩
  f28 := Tryz.func102.trans (congrArg some (by kernel_rfl))
  f29 := Tryz.func103.trans (congrArg some (by kernel_rfl))
  f46 := ⟨Tryz.f106.name, by decide, Tryz.func106.trans (congrArg some (by kernel_rfl))⟩
  f47 := Tryz.func107.trans (congrArg some (by kernel_rfl))
  f48 := Tryz.func108.trans (congrArg some (by kernel_rfl))
  f49 := ⟨Tryz.f109.name, by decide, Tryz.func109.trans (congrArg some (by kernel_rfl))⟩
  f50 := ⟨Tryz.f110.name, by decide, Tryz.func110.trans (congrArg some (by kernel_rfl))⟩
  f57 := ⟨Tryz.f111.name, by decide, Tryz.func111.trans (congrArg some (by kernel_rfl))⟩
  t0 := Tryz.underlying0
  a0 := Tryz.isAgg0
  z0 := Tryz.sizeOf0
  v0 := Tryz.zeroValue0
  t3 := Tryz.underlying3
  a3 := Tryz.isAgg3
  z3 := Tryz.sizeOf3
  v3 := Tryz.zeroValue3
  t4 := Tryz.underlying4
  a4 := Tryz.isAgg4
  z4 := Tryz.sizeOf4
  v4 := Tryz.zeroValue4
  t5 := Tryz.underlying5
  a5 := Tryz.isAgg5
  z5 := Tryz.sizeOf5
  v5 := Tryz.zeroValue5
  t9 := Tryz.underlying9
  a9 := Tryz.isAgg9
  z9 := Tryz.sizeOf9
  v9 := Tryz.zeroValue9
  t22 := Tryz.underlying102
  a22 := Tryz.isAgg102
  z22 := Tryz.sizeOf102
  v22 := Tryz.zeroValue102
  t25 := Tryz.underlying138
  a25 := Tryz.isAgg138
  z25 := Tryz.sizeOf138
  v25 := Tryz.zeroValue138
  t39 := Tryz.underlying146
  a39 := Tryz.isAgg146
  z39 := Tryz.sizeOf146
  v39 := Tryz.zeroValue146
  t45 := Tryz.underlying153
  a45 := Tryz.isAgg153
  z45 := Tryz.sizeOf153
  v45 := Tryz.zeroValue153
  t46 := Tryz.underlying154
  a46 := Tryz.isAgg154
  z46 := Tryz.sizeOf154
  v46 := Tryz.zeroValue154
  t50 := Tryz.underlying158
  a50 := Tryz.isAgg158
  z50 := Tryz.sizeOf158
  v50 := Tryz.zeroValue158
  t53 := Tryz.underlying161
  a53 := Tryz.isAgg161
  z53 := Tryz.sizeOf161
  v53 := Tryz.zeroValue161
  t55 := Tryz.underlying31
  a55 := Tryz.isAgg31
  z55 := Tryz.sizeOf31
  v55 := Tryz.zeroValue31
  t66 := Tryz.underlying164
  a66 := Tryz.isAgg164
  z66 := Tryz.sizeOf164
  v66 := Tryz.zeroValue164
  t70 := Tryz.underlying167
  a70 := Tryz.isAgg167
  z70 := Tryz.sizeOf167
  v70 := Tryz.zeroValue167
  t76 := Tryz.underlying169
  a76 := Tryz.isAgg169
  z76 := Tryz.sizeOf169
  v76 := Tryz.zeroValue169
  t77 := Tryz.underlying170
  a77 := Tryz.isAgg170
  z77 := Tryz.sizeOf170
  v77 := Tryz.zeroValue170 }
def clonePl_ren : Go.Shelf.Ren := ⟨fun | 41 => 73 | n => n, fun | 22 => 102 | 23 => 68 | 4 => 4 | n => n, fun | n => n⟩
theorem clonePl : Go.Proofs.SlLaysE0.n41 Tryz.prog clonePl_ren := {
  mixed := by kernel_rfl
  f41 := ⟨Tryz.f73.name, by decide, Tryz.func73.trans (congrArg some (by kernel_rfl))⟩
  t4 := Tryz.underlying4
  a4 := Tryz.isAgg4
  z4 := Tryz.sizeOf4
  v4 := Tryz.zeroValue4
  t22 := Tryz.underlying102
  a22 := Tryz.isAgg102
  z22 := Tryz.sizeOf102
  v22 := Tryz.zeroValue102 }
def indexPl_ren : Go.Shelf.Ren := ⟨fun | 6 => 78 | n => n, fun | 22 => 102 | 23 => 68 | 25 => 139 | 3 => 3 | 0 => 0 | 4 => 4 | n => n, fun | n => n⟩
theorem indexPl : Go.Proofs.SlLaysH0.n6 Tryz.prog indexPl_ren := {
  mixed := by kernel_rfl
  f6 := ⟨Tryz.f78.name, by decide, Tryz.func78.trans (congrArg some (by kernel_rfl))⟩
  t0 := Tryz.underlying0
  a0 := Tryz.isAgg0
  z0 := Tryz.sizeOf0
  v0 := Tryz.zeroValue0
  t3 := Tryz.underlying3
  a3 := Tryz.isAgg3
  z3 := Tryz.sizeOf3
  v3 := Tryz.zeroValue3
  t4 := Tryz.underlying4
  a4 := Tryz.isAgg4
  z4 := Tryz.sizeOf4
  v4 := Tryz.zeroValue4
  t22 := Tryz.underlying102
  a22 := Tryz.isAgg102
  z22 := Tryz.sizeOf102
  v22 := Tryz.zeroValue102
  t25 := Tryz.underlying139
  a25 := Tryz.isAgg139
  z25 := Tryz.sizeOf139
  v25 := Tryz.zeroValue139 }

instance : Inhabited PlaceV := ⟨⟨0, 0⟩⟩
def encPl (x : PlaceV) : List Value := [.int .i64 x.flow, .int .u64 x.gen]
theorem swoPl : SWO (ltOf cmpP) := by
  have e : ∀ x y, ltOf cmpP x y = decide (ltP x y) := fun x y => by
    unfold ltOf
    simp only [cmpP_lt]
  refine ⟨fun x => ?_, fun x y z h1 h2 => ?_, fun x y z h1 h2 => ?_⟩
  · rw [e]; simp [ltP_irrefl]
  · rw [e] at *; simp at *; exact ltP_trans h1 h2
  · rw [e] at *
    simp only [decide_eq_false_iff_not] at *
    intro h3
    rcases ltP_total y x with h | h | h
    · exact h2 (ltP_trans h h3)
    · subst h; exact h2 h3
    · exact h1 h
theorem cmpLaysPl (blk off size : Nat) (w : World) : CmpLays Tryz.prog 75 #[] encPl 2 cmpP blk off size w := fun _ _ _ _ x y => compare_any x y _
theorem flat_pl (l : List PlaceV) (j : Nat) (hj : j < l.length * 2) : (plcells l)[j]? = some ((flatK encPl 2 l.toArray)[j]!) := by
  have h := get_flatK encPl 2 l.toArray j (by simpa using hj)
  rw [h]
  have hq : j / 2 < l.length := by omega
  have e1 : (l.toArray)[j / 2]! = l[j / 2] := by simp [hq]
  rw [e1]
  obtain ⟨g1, g2⟩ := plcells_get l (j / 2) hq
  generalize l[j / 2] = x at g1 g2 ⊢
  have : j % 2 = 0 ∨ j % 2 = 1 := by omega
  rcases this with h0 | h0
  · rw [show j / 2 * 2 = j by omega] at g1
    rw [h0, g1]; rfl
  · rw [show j / 2 * 2 + 1 = j by omega] at g2
    rw [h0, g2]; rfl
theorem sort_block {w : World} {blk : Nat} {cur : Array Value} {e : TypeId} {fr : Nat × Nat} (h : w.heap[blk]? = some (.cells cur e fr)) (off n : Nat) (d : Array PlaceV) (os : Array Obj) :
    ∃ cur', (sortWorldK encPl 2 w blk off n d os).heap[blk]? = some (.cells cur' e fr) ∧ cur'.size = cur.size := by
  have hlt := heap_lt h
  refine ⟨putCells id off (flatK encPl 2 d) cur, ?_, by simp [putCells]⟩
  simp only [sortWorldK, grow, putRowK, putRow, mapBlock, Sort.ahead]
  rw [Array.getElem?_append_left (by simpa using hlt), Array.getElem?_modify, if_pos rfl, h]
  rfl
theorem sort_ext (w : World) (blk off n : Nat) (d : Array PlaceV) (os : Array Obj) : Ext (fun k => k = blk) w (sortWorldK encPl 2 w blk off n d os) := by
  refine ⟨rfl, rfl, rfl, size_sortWorldK_c encPl 2 w blk off n d os, fun k hk hne => ?_⟩
  simp only [sortWorldK, grow, putRowK, putRow, mapBlock, Sort.ahead]
  rw [Array.getElem?_append_left (by simpa using hk), Array.getElem?_modify, if_neg (fun e => hne e.symm)]

theorem sort_any (v : Value) (d : List PlaceV) (w : World) (h : OwnP w v d) (hl : d.length ≤ 2097152) :
    Calls Tryz.prog 74 #[v, .func (.func 75) #[] #[]] w fun e w' => e = .returned (.tuple #[]) ∧ ∃ d', d'.Perm d ∧ Weak d' ∧ OwnP w' v d' ∧ Ext (fun k => v.ownBlock = some k) w w' := by
  have h' := h
  rcases h'.2 with ⟨rfl, h0⟩ | ⟨g, off, cap, cur, rfl, hg, h1, h2, h3, h4⟩
  · obtain rfl := List.eq_nil_of_length_eq_zero h0
    refine (AnyF.slices_SortFunc_none { sortPl with } none 0 _ w).mono ?_
    rintro e w' ⟨rfl, rfl⟩
    exact ⟨rfl, [], List.Perm.refl _, List.Pairwise.nil, h, Ext.refl _ _⟩
  · have eg : ∀ args w, (callFunc 75 args).run Tryz.prog w = .ok (.enter 75 args) w := enters_of Tryz.func75 (by kernel_rfl) rfl
    have hH : HoldsK encPl 2 w g off d.toArray := fun j hj => by
      have hj2 : j < d.length * 2 := by simpa using hj
      rw [cell_of_heap hg, h4 j hj2, flat_pl d j hj2]
      exact ⟨rfl, frozen_of_heap hg _⟩
    have hcon := AnyQ.slices_SortFunc sortPl 2 Tryz.isAgg68 Tryz.sizeOf68 encPl (fun _ => rfl) (fun x u hu => by simp [encPl] at hu; rcases hu with rfl | rfl <;> rfl) cmpP swoPl 75 #[] g off cap d.toArray w eg (cmpLaysPl g off d.toArray.size w) hH (heap_lt hg) (by simp; omega)
    change Calls Tryz.prog 74 _ _ _ at hcon
    rw [List.size_toArray] at hcon
    refine hcon.mono ?_
    rintro e w' ⟨rfl, d', n, os, hp, hs, rfl⟩
    obtain ⟨hp1, _, hp3⟩ := hp
    have hsz : d'.size = d.length := by simpa using hp1
    obtain ⟨cur', hb, hcs⟩ := sort_block hg off n d' os
    have hH' := holdsK_sortWorldK encPl 2 w g off n d.toArray d' os (heap_lt hg) hH (by simpa using hsz)
    have hlen : d'.toList.length = d.length := by simpa using hsz
    refine ⟨rfl, d'.toList, ?_, ?_, ?_, (sort_ext w g off n d' os).mono (fun k _ hk => by rw [hk]; rfl)⟩
    · have e1 : (d'.extract 0 d.length).toList = d'.toList := by rw [← hsz]; simp
      have e2 : (d.toArray.extract 0 d.length).toList = d := by simp
      rw [e1, e2] at hp3
      exact hp3
    · refine List.pairwise_iff_getElem.2 (fun i j hi hj hij => ?_)
      have := hs i j (Nat.zero_le _) hij (by simpa [hsz] using hj)
      unfold ltOf at this
      simp only [decide_eq_false_iff_not, cmpP_lt] at this
      have hi' : i < d'.size := by simpa using hi
      have hj' : j < d'.size := by simpa using hj
      rw [getElem!_pos d' i hi', getElem!_pos d' j hj'] at this
      simpa using this
    · refine ⟨plcells_length _, .inr ⟨g, off, cap, cur', by rw [hlen], hb, by omega, h2, by omega, fun i hi => ?_⟩⟩
      rw [hlen] at hi
      have h9 := (hH' i (by simp; omega)).1
      rw [cell_of_heap hb] at h9
      rw [h9, flat_pl d'.toList i (by omega)]
      simp

end Go.Proofs.YtekdggdnkmkldaaGreat
