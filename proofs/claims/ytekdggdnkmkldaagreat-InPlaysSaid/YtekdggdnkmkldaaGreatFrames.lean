/- Lists of frames that a call owns; two lists of frames compared. -/
import Derived.Test.YtekdggdnkmkldaaGreatQueueD
import Derived.Test.YtekdggdnkmkldaaGreatEqual
namespace Go.Proofs.YtekdggdnkmkldaaGreat
set_option linter.unusedVariables false
set_option linter.unusedSimpArgs false
set_option maxRecDepth 1500
open Go.RowKit

theorem Bytes.ext2 {S : Nat → Prop} {w w' : World} {v : Value} {xs : List Int} (h : Bytes w v xs) (g : Ext S w w') (hs : ∀ k, v.ownBlock = some k → xs ≠ [] → ¬ S k) : Bytes w' v xs := by
  by_cases hx : xs = []
  · subst hx
    rcases h.cases with ⟨a, cap, rfl, _⟩ | ⟨b, off, cap, rfl, _⟩
    · exact ⟨.inl ⟨a, cap, rfl, rfl, rfl⟩, h.2⟩
    · exact ⟨.inl ⟨_, cap, rfl, rfl, rfl⟩, h.2⟩
  · exact h.ext g (fun k hk _ => hs k hk hx)

/-- A slice of byte slices, as it reads now. -/
def Fr (w : World) (v : Value) (fs : List (List Int)) : Prop :=
  ∃ vs : List Value, vs.length = fs.length ∧ Row w v fs.length vs ∧ ∀ (i : Nat) (f : List Int), fs[i]? = some f → ∃ u, vs[i]? = some u ∧ Bytes w u f

/-- A slice of byte slices that the call appends to: the frames' blocks lie in F, its own block does not. -/
def OwnFrames (w : World) (v : Value) (F : Nat → Prop) (fs : List (List Int)) : Prop :=
  ∃ vs : List Value, w.ownsRow 0 34 1 v fs.length vs ∧ (∀ (i : Nat) (f : List Int), fs[i]? = some f → ∃ u, vs[i]? = some u ∧ Bytes w u f ∧ ∀ k, u.ownBlock = some k → f ≠ [] → F k) ∧
    ∀ k, v.ownBlock = some k → ¬ F k

theorem row_of_owns {w : World} {e : TypeId} {v : Value} {n : Nat} {vs : List Value} (h : w.ownsRow 0 e 1 v n vs) : Row w v n vs := by
  have hn : vs.length = n := by have := h.1; omega
  rcases h.2 with ⟨rfl, h0⟩ | ⟨g, cap, cur, rfl, _, hg, hnc, hcm, hcs, htake⟩
  · exact .inl ⟨none, 0, rfl, h0, List.eq_nil_of_length_eq_zero (by omega)⟩
  · refine .inr ⟨g, 0, cap, rfl, hnc, hcm, heap_lt hg, fun i hi => ?_⟩
    rw [Nat.zero_add, cell_of_heap hg]
    have : (cur.toList.take (n * 1))[i]? = vs[i]? := by rw [htake]
    rw [List.getElem?_take, if_pos (by omega), Array.getElem?_toList] at this
    rw [this, List.getElem?_eq_getElem hi]
    simp [List.getD, List.getElem?_eq_getElem hi]

theorem OwnFrames.fr {w : World} {v : Value} {F : Nat → Prop} {fs : List (List Int)} (h : OwnFrames w v F fs) : Fr w v fs := by
  obtain ⟨vs, h1, h2, h3⟩ := h
  refine ⟨vs, by have := h1.1; omega, row_of_owns h1, fun i f hf => ?_⟩
  obtain ⟨u, hu, hb, _⟩ := h2 i f hf
  exact ⟨u, hu, hb⟩
theorem OwnFrames.nil (w : World) (F : Nat → Prop) : OwnFrames w (.slice none 0 0) F [] :=
  ⟨[], World.ownsRow_nil _ _ _ _, fun i f hf => by simp at hf, fun k hk => by simp [Value.ownBlock] at hk⟩
theorem OwnFrames.lt {w : World} {v : Value} {F : Nat → Prop} {fs : List (List Int)} (h : OwnFrames w v F fs) : ∀ k, v.ownBlock = some k → k < w.heap.size := by
  obtain ⟨vs, h1, _⟩ := h
  exact fun k hk => (h1.lt k hk).2
theorem OwnFrames.keeps {w w' : World} {v : Value} {F F' T : Nat → Prop} {fs : List (List Int)} (h : OwnFrames w v F fs) (e : Ext T w w') (hv : ∀ k, v.ownBlock = some k → ¬ T k ∧ ¬ F' k) (hF : ∀ k, F k → ¬ T k) (hFF : ∀ k, F k → F' k) : OwnFrames w' v F' fs := by
  obtain ⟨vs, h1, h2, h3⟩ := h
  refine ⟨vs, ownsRow_ext h1 e (fun k hk => (hv k hk).1), fun i f hf => ?_, fun k hk => (hv k hk).2⟩
  obtain ⟨u, hu, hb, hk⟩ := h2 i f hf
  exact ⟨u, hu, hb.ext2 e (fun k h4 h5 => hF k (hk k h4 h5)), fun k h4 h5 => hFF k (hk k h4 h5)⟩

/-- Behind 'append(in, x)', x bytes in blocks of F'. -/
theorem OwnFrames.snoc {w w' : World} {v v' u : Value} {F F' : Nat → Prop} {fs : List (List Int)} {f : List Int} {vs : List Value}
    (hfs : ∀ (i : Nat) (g : List Int), fs[i]? = some g → ∃ u, vs[i]? = some u ∧ Bytes w u g ∧ ∀ k, u.ownBlock = some k → g ≠ [] → F k) (hlen : vs.length = fs.length) (hv : ∀ k, v.ownBlock = some k → ¬ F' k)
    (hFF : ∀ k, F k → F' k) (hFs : ∀ k, F' k → k < w.heap.size) (hu : Bytes w u f) (huF : ∀ k, u.ownBlock = some k → f ≠ [] → F' k)
    (hown : w'.ownsRow 0 34 1 v' (fs.length + 1) (vs ++ [u])) (hgr : w.grownBy w' v.ownBlock) (hblk : v'.ownBlock = v.ownBlock ∨ v'.ownBlock = some w.heap.size) : OwnFrames w' v' F' (fs ++ [f]) := by
  have e : Ext (fun k => v.ownBlock = some k) w w' := Ext.of_grown hgr (fun k hk => hk)
  refine ⟨vs ++ [u], by simpa using hown, fun i g hg => ?_, fun k hk hF => ?_⟩
  · rcases Nat.lt_or_ge i fs.length with hi | hi
    · rw [List.getElem?_append_left hi] at hg
      obtain ⟨x, hx, hb, hk⟩ := hfs i g hg
      exact ⟨x, by rw [List.getElem?_append_left (by omega)]; exact hx, hb.ext2 e (fun k h1 h2 h3 => hv k h3 (hFF k (hk k h1 h2))), fun k h1 h2 => hFF k (hk k h1 h2)⟩
    · rw [List.getElem?_append_right hi] at hg
      obtain rfl : i = fs.length := by
        rcases Nat.lt_or_ge 0 (i - fs.length) with h1 | h1
        · rw [List.getElem?_eq_none (by simp; omega)] at hg; cases hg
        · omega
      simp at hg
      subst hg
      exact ⟨u, by rw [List.getElem?_append_right (by omega)]; simp [hlen], hu.ext2 e (fun k h1 h2 h3 => hv k h3 (huF k h1 h2)), huF⟩
  · rcases hblk with h1 | h1
    · rw [h1] at hk; exact hv k hk hF
    · rw [h1] at hk
      simp only [Option.some.injEq] at hk
      have := hFs k hF
      omega

theorem Row.get {w : World} {v : Value} {n : Nat} {vs : List Value} (h : Row w v n vs) (hn : vs.length = n) {i : Nat} {u : Value} (hi : vs[i]? = some u) :
    ∃ b off cap, v = .slice (some ⟨b, off, none⟩) n cap ∧ w.cell? ⟨b, off + i, none⟩ = some u := by
  have hil : i < vs.length := (List.getElem?_eq_some_iff.1 hi).1
  rcases h with ⟨a, cap, rfl, h0, rfl⟩ | ⟨b, off, cap, rfl, h1, h2, h3, h4⟩
  · simp at hil
  · refine ⟨b, off, cap, rfl, ?_⟩
    rw [h4 i hil]
    simp [List.getD, hi]

theorem strs_ne {xs ys : List Int} (hx : ∀ x ∈ xs, 0 ≤ x ∧ x < 256) (hy : ∀ x ∈ ys, 0 ≤ x ∧ x < 256) : (!((strOfNums xs).toList == (strOfNums ys).toList)) = !decide (xs = ys) := by rw [strOfNums_inj hx hy]

set_option maxHeartbeats 1600000 in
theorem same_any (va vb : Value) (fs gs : List (List Int)) (w : World) (ha : Fr w va fs) (hb : Fr w vb gs) (hf : fs.length ≤ 140737488351232) (hg : gs.length ≤ 140737488351232) :
    Calls Tryz.prog 18 #[va, vb] w fun e w' => e = .returned (.bool (decide (fs = gs))) ∧ Grows w w' := by
  obtain ⟨vs, hvl, hvr, hv⟩ := ha
  obtain ⟨us, hul, hur, hu⟩ := hb
  obtain ⟨aa, ca, rfl⟩ : ∃ a cap, va = .slice a fs.length cap := by
    rcases hvr with ⟨a, cap, h1, h2, _⟩ | ⟨b, off, cap, h1, _⟩
    · exact ⟨a, cap, by rw [h1, h2]⟩
    · exact ⟨_, cap, h1⟩
  obtain ⟨ab, cb, rfl⟩ : ∃ a cap, vb = .slice a gs.length cap := by
    rcases hur with ⟨a, cap, h1, h2, _⟩ | ⟨b, off, cap, h1, _⟩
    · exact ⟨a, cap, by rw [h1, h2]⟩
    · exact ⟨_, cap, h1⟩
  by_cases hl : fs.length = gs.length
  · rw [← hl]
    rw [← hl] at hur
    have HV := Lib.hid hv
    have HU := Lib.hid hu
    have HVR := Lib.hid hvr
    have HUR := Lib.hid hur
    have HL := Lib.hid hl
    have HVL := Lib.hid hvl
    have HUL := Lib.hid hul
    clear hv hu hvr hur hl hvl hul
    go_enter Tryz.func18, Tryz.ntmps18
    go_wp2
    go_loopg [5] fs.length (fun k c wr => ∃ j : Nat, j ≤ fs.length ∧ k = fs.length - j ∧ c = .int .i64 (j : Nat) ∧ (∀ i, i < j → fs[i]? = gs[i]?) ∧ Grows w wr)
    case atStart => exact ⟨0, by omega, by omega, rfl, fun i hi => by omega, Ext.refl _ _⟩
    case round =>
      obtain ⟨j, hj, hk, rfl, heq, hg0⟩ := hrel
      have HK := Lib.hid hk
      have HE := Lib.hid heq
      have HG := Lib.hid hg0
      clear hk heq hg0
      by_cases hlt : j < fs.length
      · have hlt2 : j < gs.length := by have := HL.out; omega
        obtain ⟨x, hx, hbx⟩ := HV.out j fs[j] (List.getElem?_eq_getElem hlt)
        obtain ⟨y, hy, hby⟩ := HU.out j gs[j] (List.getElem?_eq_getElem hlt2)
        obtain ⟨b1, o1, c1, e1, k1⟩ := HVR.out.get HVL.out hx
        obtain ⟨b2, o2, c2, e2, k2⟩ := HUR.out.get (HUL.out.trans HL.out.symm) hy
        simp only [Value.slice.injEq] at e1 e2
        obtain ⟨rfl, _, rfl⟩ := e1
        obtain ⟨rfl, _, rfl⟩ := e2
        have l1 := World.block_lt_of_cell? _ _ k1
        have l2 := World.block_lt_of_cell? _ _ k2
        have m1 := (HG.out.cell l1 (fun h => h)).trans k1
        have m2 := (HG.out.cell l2 (fun h => h)).trans k2
        have cv1 := fun n => conv_bytes (w := wr.drewN n) ((hbx.grows HG.out).grows ⟨rfl, rfl, rfl, Nat.le_refl _, fun _ _ _ => rfl⟩)
        have cv2 := fun n => conv_bytes (w := wr.drewN n) ((hby.grows HG.out).grows ⟨rfl, rfl, rfl, Nat.le_refl _, fun _ _ _ => rfl⟩)
        have i1 : (0 : Int) ≤ (j : Int) := by omega
        have i2 : (j : Int) < (fs.length : Int) := by omega
        have hss := strOfNums_inj hbx.2.1 hby.2.1
        have HS := Lib.hid hss
        clear k1 k2 hx hy hss
        by_cases heq : fs[j] = gs[j]
        · have hst : ((strOfNums fs[j]).toList == (strOfNums gs[j]).toList) = true := by rw [HS.out]; simp [heq]
          have HQ := Lib.hid heq
          clear heq
          go_wp2
          go_quiet (fail)
          go_wp2
          go_roundg (fs.length - (j + 1))
          case measure => have := HK.out; omega
          case rel =>
            refine ⟨j + 1, by omega, rfl, by go_num, fun i hi => ?_, ⟨HG.out.os, HG.out.tape, HG.out.output, HG.out.size, HG.out.block⟩⟩
            rcases Nat.lt_or_ge i j with h1 | h1
            · exact HE.out i h1
            · obtain rfl : i = j := by omega
              rw [List.getElem?_eq_getElem hlt, List.getElem?_eq_getElem hlt2, HQ.out]
        · have hst : ((strOfNums fs[j]).toList == (strOfNums gs[j]).toList) = false := by rw [HS.out]; simp [heq]
          have HQ := Lib.hid heq
          clear heq
          go_wp2
          go_quiet (fail)
          go_wp2
          go_ret
          refine ⟨ret_bool ?_, ⟨HG.out.os, HG.out.tape, HG.out.output, HG.out.size, HG.out.block⟩⟩
          have : fs ≠ gs := fun h => HQ.out (by subst h; rfl)
          simp [this]
      · go_wp2
        go_ret
        refine ⟨ret_bool ?_, HG.out⟩
        have : fs = gs := by
          apply List.ext_getElem?
          intro i
          rcases Nat.lt_or_ge i fs.length with h1 | h1
          · exact HE.out i (by omega)
          · rw [List.getElem?_eq_none h1, List.getElem?_eq_none (by have := HL.out; omega)]
        simp [this]
  · have hl0 : decide (fs.length = gs.length) = false := by simp [hl]
    have hl1 : (fs.length == gs.length) = false := by simp [hl]
    have hl2 : ((fs.length : Int) == (gs.length : Int)) = false := by simp; omega
    have hne : fs ≠ gs := fun h => hl (by rw [h])
    clear hl
    go_enter Tryz.func18, Tryz.ntmps18
    go_wp2
    all_goals (go_ret; exact ⟨ret_bool (by simp [hne]), Ext.refl _ _⟩)
end Go.Proofs.YtekdggdnkmkldaaGreat
