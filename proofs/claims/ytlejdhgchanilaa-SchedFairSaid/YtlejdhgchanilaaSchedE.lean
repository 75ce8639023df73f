/- sched: the sort of Round, by the shelf. -/
import Derived.Test.YtlejdhgchanilaaSchedD
import Derived.Shelf.SlSortCmp.NoneTotal
import Derived.Shelf.SlicesE.Clone
import Derived.Shelf.SlicesQ.IndexFunc
import Derived.Shelf.SlGeneric
import Derived.Ground.SlsfProg
import Derived.Ground.SlgnProg
import Derived.Ground.SlgfProg
namespace Go.Proofs.Ytlejdhgchanilaa
set_option linter.unusedVariables false
set_option linter.unusedSimpArgs false
open Go.Shelf Go.RowKit Go.Lib Go.Sort
def sortPl_ren : Go.Shelf.Ren := ⟨fun | 6 => 18 | 15 => 27 | 14 => 26 | 28 => 39 | 29 => 40 | 20 => 31 | 21 => 32 | 22 => 33 | 23 => 34 | 24 => 35 | 25 => 36 | 26 => 37 | 27 => 38 | 46 => 41 | 47 => 42 | 48 => 43 | 49 => 44 | 50 => 45 | 57 => 46 | n => n, fun | 22 => 26 | 24 => 28 | 25 => 36 | 3 => 3 | 39 => 54 | 0 => 0 | 53 => 69 | 55 => 23 | 4 => 4 | 46 => 62 | 45 => 61 | 50 => 66 | 5 => 5 | 9 => 9 | 66 => 71 | 70 => 75 | 76 => 77 | 77 => 78 | n => n, fun | n => n⟩
theorem sortPl : Go.Proofs.SlLaysF0.n6 Try.prog sortPl_ren := {
  mixed := by kernel_rfl
  f6 := ⟨Try.f18.name, by decide, Try.func18.trans (congrArg some (by kernel_rfl))⟩
  f14 := ⟨Try.f26.name, by decide, Try.func26.trans (congrArg some (by kernel_rfl))⟩
  f15 := Try.func27.trans (congrArg some (by kernel_rfl))
  f20 := ⟨Try.f31.name, by decide, Try.func31.trans (congrArg some (by kernel_rfl))⟩
  f21 := ⟨Try.f32.name, by decide, Try.func32.trans (congrArg some (by kernel_rfl))⟩
  f22 := ⟨Try.f33.name, by decide, Try.func33.trans (congrArg some (by kernel_rfl))⟩
  f23 := ⟨Try.f34.name, by decide, Try.func34.trans (congrArg some (by kernel_rfl))⟩
  f24 := ⟨Try.f35.name, by decide, Try.func35.trans (congrArg some (by kernel_rfl))⟩
  f25 := ⟨Try.f36.name, by decide, Try.func36.trans (congrArg some (by kernel_rfl))⟩
  f26 := ⟨Try.f37.name, by decide, Try.func37.trans (congrArg some (by kernel_rfl))⟩
  f27 := ⟨Try.f38.name, by decide, Try.func38.trans (congrArg some (by kernel_rfl))⟩
  f28 := Try.func39.trans (congrArg some (by kernel_rfl))
  f29 := Try.func40.trans (congrArg some (by kernel_rfl))
  f46 := ⟨Try.f41.name, by decide, Try.func41.trans (congrArg some (by kernel_rfl))⟩
  f47 := Try.func42.trans (congrArg some (by kernel_rfl))
  f48 := Try.func43.trans (congrArg some (by kernel_rfl))
  f49 := ⟨Try.f44.name, by decide, Try.func44.trans (congrArg some (by kernel_rfl))⟩
  f50 := ⟨Try.f45.name, by decide, Try.func45.trans (congrArg some (by kernel_rfl))⟩
  f57 := ⟨Try.f46.name, by decide, Try.func46.trans (congrArg some (by kernel_rfl))⟩
  t0 := Try.underlying0
  a0 := Try.isAgg0
  z0 := Try.sizeOf0
  v0 := Try.zeroValue0
  t3 := Try.underlying3
  a3 := Try.isAgg3
  z3 := Try.sizeOf3
  v3 := Try.zeroValue3
  t4 := Try.underlying4
  a4 := Try.isAgg4
  z4 := Try.sizeOf4
  v4 := Try.zeroValue4
  t5 := Try.underlying5
  a5 := Try.isAgg5
  z5 := Try.sizeOf5
  v5 := Try.zeroValue5
  t9 := Try.underlying9
  a9 := Try.isAgg9
  z9 := Try.sizeOf9
  v9 := Try.zeroValue9
  t22 := Try.underlying26
  a22 := Try.isAgg26
  z22 := Try.sizeOf26
  v22 := Try.zeroValue26
  t25 := Try.underlying36
  a25 := Try.isAgg36
  z25 := Try.sizeOf36
  v25 := Try.zeroValue36
  t39 := Try.underlying54
  a39 := Try.isAgg54
  z39 := Try.sizeOf54
  v39 := Try.zeroValue54
  t45 := Try.underlying61
  a45 := Try.isAgg61
  z45 := Try.sizeOf61
  v45 := Try.zeroValue61
  t46 := Try.underlying62
  a46 := Try.isAgg62
  z46 := Try.sizeOf62
  v46 := Try.zeroValue62
  t50 := Try.underlying66
  a50 := Try.isAgg66
  z50 := Try.sizeOf66
  v50 := Try.zeroValue66
  t53 := Try.underlying69
  a53 := Try.isAgg69
  z53 := Try.sizeOf69
  v53 := Try.zeroValue69
  t55 := Try.underlying23
  a55 := Try.isAgg23
  z55 := Try.sizeOf23
  v55 := Try.zeroValue23
  t66 := Try.underlying71
  a66 := Try.isAgg71
  z66 := Try.sizeOf71
  v66 := Try.zeroValue71
  t70 := Try.underlying75
  a70 := Try.isAgg75
  z70 := Try.sizeOf75
  v70 := Try.zeroValue75
  t76 := Try.underlying77
  a76 := Try.isAgg77
  z76 := Try.sizeOf77
  v76 := Try.zeroValue77
  t77 := Try.underlying78
  a77 := Try.isAgg78
  z77 := Try.sizeOf78
  v77 := Try.zeroValue78 }
def clonePl_ren : Go.Shelf.Ren := ⟨fun | 41 => 17 | n => n, fun | 22 => 26 | 23 => 28 | 4 => 4 | n => n, fun | n => n⟩
theorem clonePl : Go.Proofs.SlLaysE0.n41 Try.prog clonePl_ren := {
  mixed := by kernel_rfl
  f41 := ⟨Try.f17.name, by decide, Try.func17.trans (congrArg some (by kernel_rfl))⟩
  t4 := Try.underlying4
  a4 := Try.isAgg4
  z4 := Try.sizeOf4
  v4 := Try.zeroValue4
  t22 := Try.underlying26
  a22 := Try.isAgg26
  z22 := Try.sizeOf26
  v22 := Try.zeroValue26 }
def indexPl_ren : Go.Shelf.Ren := ⟨fun | 6 => 21 | n => n, fun | 22 => 26 | 23 => 28 | 25 => 46 | 3 => 3 | 0 => 0 | 4 => 4 | n => n, fun | n => n⟩
theorem indexPl : Go.Proofs.SlLaysH0.n6 Try.prog indexPl_ren := {
  mixed := by kernel_rfl
  f6 := ⟨Try.f21.name, by decide, Try.func21.trans (congrArg some (by kernel_rfl))⟩
  t0 := Try.underlying0
  a0 := Try.isAgg0
  z0 := Try.sizeOf0
  v0 := Try.zeroValue0
  t3 := Try.underlying3
  a3 := Try.isAgg3
  z3 := Try.sizeOf3
  v3 := Try.zeroValue3
  t4 := Try.underlying4
  a4 := Try.isAgg4
  z4 := Try.sizeOf4
  v4 := Try.zeroValue4
  t22 := Try.underlying26
  a22 := Try.isAgg26
  z22 := Try.sizeOf26
  v22 := Try.zeroValue26
  t25 := Try.underlying46
  a25 := Try.isAgg46
  z25 := Try.sizeOf46
  v25 := Try.zeroValue46 }

instance : Inhabited PlaceV := ⟨⟨0, 0⟩⟩
def encPl (x : PlaceV) : List Value := [.int .i64 x.flow, .int .u64 x.gen]
theorem swoPl : SWO (ltOf cmpP) := by
  have e : ∀ x y, ltOf cmpP x y = decide (ltP x y) := fun x y => by
    unfold ltOf
    simp only [cmpP_lt]
  refine ⟨fun x => ?_, fun x y z h1 h2 => ?_, fun x y z h1 h2 => ?_⟩
  · rw [e]; simp [ltP_irrefl]
  · rw [e] at *; simp at *; exact ltP_trans h1 h2
  · rw [e] at *
    simp only [decide_eq_false_iff_not] at *
    intro h3
    rcases ltP_total y x with h | h | h
    · exact h2 (ltP_trans h h3)
    · subst h; exact h2 h3
    · exact h1 h
theorem cmpLaysPl (blk off size : Nat) (w : World) : CmpLays Try.prog 13 #[] encPl 2 cmpP blk off size w := fun _ _ _ _ x y => compare_any x y _
theorem flat_pl (l : List PlaceV) (j : Nat) (hj : j < l.length * 2) : (plcells l)[j]? = some ((flatK encPl 2 l.toArray)[j]!) := by
  have h := get_flatK encPl 2 l.toArray j (by simpa using hj)
  rw [h]
  have hq : j / 2 < l.length := by omega
  have e1 : (l.toArray)[j / 2]! = l[j / 2] := by simp [hq]
  rw [e1]
  obtain ⟨g1, g2⟩ := plcells_get l (j / 2) hq
  generalize l[j / 2] = x at g1 g2 ⊢
  have : j % 2 = 0 ∨ j % 2 = 1 := by omega
  rcases this with h0 | h0
  · rw [show j / 2 * 2 = j by omega] at g1
    rw [h0, g1]; rfl
  · rw [show j / 2 * 2 + 1 = j by omega] at g2
    rw [h0, g2]; rfl
theorem sort_block {w : World} {blk : Nat} {cur : Array Value} {e : TypeId} {fr : Nat × Nat} (h : w.heap[blk]? = some (.cells cur e fr)) (off n : Nat) (d : Array PlaceV) (os : Array Obj) :
    ∃ cur', (sortWorldK encPl 2 w blk off n d os).heap[blk]? = some (.cells cur' e fr) ∧ cur'.size = cur.size := by
  have hlt := heap_lt h
  refine ⟨putCells id off (flatK encPl 2 d) cur, ?_, by simp [putCells]⟩
  simp only [sortWorldK, grow, putRowK, putRow, mapBlock, Sort.ahead]
  rw [Array.getElem?_append_left (by simpa using hlt), Array.getElem?_modify, if_pos rfl, h]
  rfl
theorem sort_ext (w : World) (blk off n : Nat) (d : Array PlaceV) (os : Array Obj) : Ext (fun k => k = blk) w (sortWorldK encPl 2 w blk off n d os) := by
  refine ⟨rfl, rfl, rfl, size_sortWorldK_c encPl 2 w blk off n d os, fun k hk hne => ?_⟩
  simp only [sortWorldK, grow, putRowK, putRow, mapBlock, Sort.ahead]
  rw [Array.getElem?_append_left (by simpa using hk), Array.getElem?_modify, if_neg (fun e => hne e.symm)]

theorem sort_any (v : Value) (d : List PlaceV) (w : World) (h : OwnP w v d) (hl : d.length ≤ 2097152) :
    Calls Try.prog 18 #[v, .func (.func 13) #[] #[]] w fun e w' => e = .returned (.tuple #[]) ∧ ∃ d', d'.Perm d ∧ Weak d' ∧ OwnP w' v d' ∧ Ext (fun k => v.ownBlock = some k) w w' := by
  have h' := h
  rcases h'.2 with ⟨rfl, h0⟩ | ⟨g, off, cap, cur, rfl, hg, h1, h2, h3, h4⟩
  · obtain rfl := List.eq_nil_of_length_eq_zero h0
    refine (AnyF.slices_SortFunc_none { sortPl with } none 0 _ w).mono ?_
    rintro e w' ⟨rfl, rfl⟩
    exact ⟨rfl, [], List.Perm.refl _, List.Pairwise.nil, h, Ext.refl _ _⟩
  · have eg : ∀ args w, (callFunc 13 args).run Try.prog w = .ok (.enter 13 args) w := enters_of Try.func13 (by kernel_rfl) rfl
    have hH : HoldsK encPl 2 w g off d.toArray := fun j hj => by
      have hj2 : j < d.length * 2 := by simpa using hj
      rw [cell_of_heap hg, h4 j hj2, flat_pl d j hj2]
      exact ⟨rfl, frozen_of_heap hg _⟩
    have hcon := AnyQ.slices_SortFunc sortPl 2 Try.isAgg28 Try.sizeOf28 encPl (fun _ => rfl) (fun x u hu => by simp [encPl] at hu; rcases hu with rfl | rfl <;> rfl) cmpP swoPl 13 #[] g off cap d.toArray w eg (cmpLaysPl g off d.toArray.size w) hH (heap_lt hg) (by simp; omega)
    change Calls Try.prog 18 _ _ _ at hcon
    rw [List.size_toArray] at hcon
    refine hcon.mono ?_
    rintro e w' ⟨rfl, d', n, os, hp, hs, rfl⟩
    obtain ⟨hp1, _, hp3⟩ := hp
    have hsz : d'.size = d.length := by simpa using hp1
    obtain ⟨cur', hb, hcs⟩ := sort_block hg off n d' os
    have hH' := holdsK_sortWorldK encPl 2 w g off n d.toArray d' os (heap_lt hg) hH (by simpa using hsz)
    have hlen : d'.toList.length = d.length := by simpa using hsz
    refine ⟨rfl, d'.toList, ?_, ?_, ?_, (sort_ext w g off n d' os).mono (fun k _ hk => by rw [hk]; rfl)⟩
    · have e1 : (d'.extract 0 d.length).toList = d'.toList := by rw [← hsz]; simp
      have e2 : (d.toArray.extract 0 d.length).toList = d := by simp
      rw [e1, e2] at hp3
      exact hp3
    · refine List.pairwise_iff_getElem.2 (fun i j hi hj hij => ?_)
      have := hs i j (Nat.zero_le _) hij (by simpa [hsz] using hj)
      unfold ltOf at this
      simp only [decide_eq_false_iff_not, cmpP_lt] at this
      have hi' : i < d'.size := by simpa using hi
      have hj' : j < d'.size := by simpa using hj
      rw [getElem!_pos d' i hi', getElem!_pos d' j hj'] at this
      simpa using this
    · refine ⟨plcells_length _, .inr ⟨g, off, cap, cur', by rw [hlen], hb, by omega, h2, by omega, fun i hi => ?_⟩⟩
      rw [hlen] at hi
      have h9 := (hH' i (by simp; omega)).1
      rw [cell_of_heap hb] at h9
      rw [h9, flat_pl d'.toList i (by omega)]
      simp

end Go.Proofs.Ytlejdhgchanilaa
