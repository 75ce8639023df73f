/- The answer's queue: New, Own, Push, Pop. -/
import Derived.Test.YtekdggdnkmkldaaGreatQueueE
import Derived.Test.YtekdggdnkmkldaaGreatFrames2
import Derived.Deep.DeepCutAuto
import Derived.Deep.RegionHeld3
namespace Go.Proofs.YtekdggdnkmkldaaGreat
set_option linter.unusedVariables false
set_option linter.unusedSimpArgs false
set_option maxRecDepth 1500
open Go.RowKit

/-- The answer's queue at block r: all that it needs lies in S. -/
def RefQ (w : World) (r : Nat) (S : Nat → Prop) (places : Nat) (fs : List (List Int)) : Prop :=
  ∃ (vl : Value) (F : Nat → Prop) (ty : TypeId), w.heap[r]? = some (.cells #[.int .i64 places, vl] ty (0, 0)) ∧ OwnF w vl F fs ∧ S r ∧ (∀ k, F k → S k ∧ k ≠ r ∧ k < w.heap.size) ∧ (∀ k, vl.ownBlock = some k → S k ∧ k ≠ r) ∧
    1 ≤ places ∧ places ≤ 64 ∧ fs.length ≤ places

theorem RefQ.lt {w : World} {r : Nat} {S : Nat → Prop} {places : Nat} {fs : List (List Int)} (h : RefQ w r S places fs) : r < w.heap.size := by
  obtain ⟨_, _, _, h1, _⟩ := h
  exact heap_lt h1
theorem RefQ.keeps {w w' : World} {r : Nat} {S T : Nat → Prop} {places : Nat} {fs : List (List Int)} (h : RefQ w r S places fs) (e : Ext T w w') (hT : ∀ k, S k → ¬ T k) : RefQ w' r S places fs := by
  obtain ⟨vl, F, ty, h1, h2, h3, h4, h5, h6⟩ := h
  exact ⟨vl, F, ty, (e.block r (heap_lt h1) (hT r h3)).trans h1, h2.keeps e (fun k hk => ⟨hT k (h5 k hk).1, h2.out k hk⟩) (fun k hk => hT k (h4 k hk).1) (fun _ h => h), h3, fun k hk => ⟨(h4 k hk).1, (h4 k hk).2.1, Nat.lt_of_lt_of_le (h4 k hk).2.2 e.size⟩, h5, h6⟩
theorem RefQ.grows {w w' : World} {r : Nat} {S : Nat → Prop} {places : Nat} {fs : List (List Int)} (h : RefQ w r S places fs) (e : Grows w w') : RefQ w' r S places fs := h.keeps e (fun _ _ h => h)

theorem refq_new (p : Nat) (w : World) (h1 : 1 ≤ p) (h2 : p ≤ 64) :
    Calls Tryz.prog 27 #[.int .i64 p] w fun e w' => e = .returned (.tuple #[.pointer (some ⟨w.heap.size, 0, none⟩), .int .i64 0]) ∧
      RefQ w' w.heap.size (fun k => k = w.heap.size) p [] ∧ Grows w w' := by
  have i1 : ¬ (p : Int) < 1 := by omega
  have i2 : ¬ (64 : Int) < (p : Int) := by omega
  go_enter Tryz.func27, Tryz.ntmps27
  go_wp2
  go_ret2
  exact ⟨rfl, ⟨_, fun _ => False, _, heap_alloc_new w _, OwnF.nil _ _, rfl, fun _ h => h.elim, fun k hk => by simp [Value.ownBlock] at hk, h1, h2, Nat.zero_le _⟩, Ext.alloc (Ext.refl _ _) _⟩
theorem refq_new_no (p : Int) (w : World) (h : p < 1 ∨ 64 < p) :
    Calls Tryz.prog 27 #[.int .i64 p] w fun e w' => e = .returned (.tuple #[.pointer none, .int .i64 1]) ∧ w = w' := by
  rcases h with h | h
  · go_enter Tryz.func27, Tryz.ntmps27
    go_wp2
    go_ret2
    exact ⟨rfl, rfl⟩
  · have h' : 1 ≤ p := by omega
    go_enter Tryz.func27, Tryz.ntmps27
    go_wp2
    go_ret2
    exact ⟨rfl, rfl⟩

/-- Own: the bytes in new memory. -/
theorem refown_any (v : Value) (xs : List Int) (w : World) (hb : Bytes w v xs) :
    Calls Tryz.prog 59 #[v] w fun e w' => ∃ v', e = .returned v' ∧ OwnS w' 5 1 v' xs.length (xs.map (Value.int .u8)) ∧ Grows w w' ∧ ∀ k, v'.ownBlock = some k → w.heap.size ≤ k := by
  have hsrc := hb.src (t := 34) (e := 5) Tryz.underlying34
  have hl := hb.2.2
  go_enter Tryz.func59, Tryz.ntmps59
  go_wp2_with (at_builtin; refine wpList_append_ownS rfl (.tmp 4) (.tmp 5) 34 34 rfl 5 (.int .u8 0) 1 1 Tryz.underlying34 infoU8 rfl _ _ rfl rfl 0 [] (OwnS.nil _ _ _) xs.length (xs.map (Value.int .u8)) hsrc (by unfold maxLen; omega) (by omega) ?_)
  intro v' w' hown hgr hblk
  have hx : OwnS w' 5 1 v' xs.length (xs.map (Value.int .u8)) := by simpa only [Nat.zero_add, List.nil_append] using hown
  have hg : Grows w w' := Ext.of_grown (S := fun _ => False) hgr (fun k hk => by simp [Value.ownBlock] at hk)
  have H := Lib.hid (And.intro hx (And.intro hg (show ∀ k, v'.ownBlock = some k → w.heap.size ≤ k from fun k hk => by
    rcases hblk with h | h
    · rw [h] at hk; simp [Value.ownBlock] at hk
    · rw [h] at hk; simp only [Option.some.injEq] at hk; omega)))
  clear hx hg hown hgr hblk hsrc
  go_wp2
  go_ret
  exact ⟨_, rfl, H.out⟩

theorem OwnS.bytes {w : World} {v : Value} {xs : List Int} (h : OwnS w 5 1 v xs.length (xs.map (Value.int .u8))) (hx : ∀ x ∈ xs, 0 ≤ x ∧ x < 256) (hl : xs.length ≤ 140737488351232) : Bytes w v xs := ⟨row_of_ownS h, hx, hl⟩

theorem OwnS.srcq {w : World} {e t : TypeId} {v : Value} {n : Nat} {xs : List Value} (h : OwnS w e 1 v n xs) (ht : Tryz.prog.underlying t = some (.slice e)) (h1 : ∀ u ∈ xs, u.oneCell' = true) : Src Tryz.prog 1 t v n xs w := by
  rcases h.2 with ⟨rfl, rfl⟩ | ⟨g, off, cap, cur, rfl, hg, _, _, _, h4⟩
  · obtain rfl := List.eq_nil_of_length_eq_zero (show xs.length = 0 by have := h.1; omega)
    exact Src.ofNil w ht 0
  · refine Src.ofSlice w ht ⟨g, off, none⟩ n cap _ h.1 (fun j u hj => ?_) h1
    have hjl := (List.getElem?_eq_some_iff.1 hj).1
    have hplain : (⟨g, off, none⟩ : Addr).add j = ⟨g, off + j, none⟩ := by unfold Addr.add; split <;> simp_all
    rw [hplain, cell_of_heap hg, h4 j (by have := h.1; omega), hj]
theorem Bytes.one {w : World} {u : Value} {f : List Int} (h : Bytes w u f) : u.oneCell' = true := by
  rcases h.cases with ⟨a, cap, rfl, _⟩ | ⟨b, off, cap, rfl, _⟩ <;> rfl
theorem frames_one {w : World} {vs : List Value} {fs : List (List Int)} {F : Nat → Prop} (hl : vs.length = fs.length) (h : ∀ (i : Nat) (f : List Int), fs[i]? = some f → ∃ u, vs[i]? = some u ∧ Bytes w u f ∧ ∀ k, u.ownBlock = some k → f ≠ [] → F k) : ∀ u ∈ vs, u.oneCell' = true := by
  intro u hu
  obtain ⟨i, hi, rfl⟩ := List.getElem_of_mem hu
  obtain ⟨x, hx, hb, _⟩ := h i (fs[i]'(by omega)) (List.getElem?_eq_getElem _)
  rw [List.getElem?_eq_getElem hi] at hx
  obtain rfl := Option.some.inj hx
  exact hb.one

set_option maxHeartbeats 1600000 in
theorem refq_push (r p : Nat) (S : Nat → Prop) (fs : List (List Int)) (v : Value) (xs : List Int) (w : World) (h : RefQ w r S p fs) (hb : Bytes w v xs) :
    Calls Tryz.prog 33 #[.pointer (some ⟨r, 0, none⟩), v] w fun e w' =>
      (70000 < xs.length ∧ e = .returned (.int .i64 3) ∧ Grows w w') ∨ (xs.length ≤ 70000 ∧ fs.length = p ∧ e = .returned (.int .i64 7) ∧ Grows w w') ∨
      (xs.length ≤ 70000 ∧ fs.length < p ∧ e = .returned (.int .i64 0) ∧ RefQ w' r (grownTo S w w') p (fs ++ [xs]) ∧ Ext (fun k => k = r) w w') := by
  obtain ⟨va, vc, rfl⟩ : ∃ a cap, v = .slice a xs.length cap := by
    rcases hb.cases with ⟨a, cap, rfl, rfl⟩ | ⟨b, off, cap, rfl, _⟩
    · exact ⟨a, cap, rfl⟩
    · exact ⟨_, cap, rfl⟩
  have HB := Lib.hid hb
  clear hb
  by_cases hx : xs.length ≤ 70000
  · have hx' : ¬ (70000 : Int) < (xs.length : Int) := by omega
    have h' := h
    obtain ⟨vl, F, ty, h1, h2, h3, h4, h5, h6, h7, h8⟩ := h'
    obtain ⟨la, lc, rfl⟩ := h2.form
    have c0 := cell_of_heap h1 0
    have c1 := cell_of_heap h1 1
    have f1 := frozen_of_heap h1 1
    simp at c0 c1
    by_cases hf : fs.length = p
    · have hp : (p : Int) ≤ (fs.length : Int) := by omega
      have HH := Lib.hid (And.intro hf hx)
      clear h1 h2 h3 h4 h5 h hf hx
      go_enter Tryz.func33, Tryz.ntmps33
      go_upto_region 3 with fail
      go_quiet (fail)
      go_wp2
      go_ret
      exact .inr (.inl ⟨HH.out.2, HH.out.1, rfl, ⟨rfl, rfl, rfl, Nat.le_refl _, fun _ _ _ => rfl⟩⟩)
    · have hp : ¬ (p : Int) ≤ (fs.length : Int) := by omega
      obtain ⟨vs, ho, hvs, hvb⟩ := h2
      have hlt := heap_lt h1
      have HH := Lib.hid (And.intro h1 (And.intro h3 (And.intro h4 (And.intro h5 (And.intro h6 (And.intro h7 (And.intro h8 (And.intro hx (And.intro hf (And.intro ho (And.intro hvs (And.intro hvb hlt))))))))))))
      clear h1 h3 h4 h5 h hx hf ho hvs hvb h6 h8
      go_enter Tryz.func33, Tryz.ntmps33
      go_upto_region 3 with fail
      go_quiet (fail)
      have g1 : Grows w (w.drewN nq) := ⟨rfl, rfl, rfl, Nat.le_refl _, fun _ _ _ => rfl⟩
      have G1 := Lib.hid g1
      have c1 := (g1.cell (p := ⟨r, 1, none⟩) HH.out.2.2.2.2.2.2.2.2.2.2.2.2 (fun h => h)).trans c1
      have ho := HH.out.2.2.2.2.2.2.2.2.2.1.grows g1
      have hvl : vs.length = fs.length := by have := HH.out.2.2.2.2.2.2.2.2.2.1.1; omega
      have hsrc := OwnS.srcq (t := 53) ho Tryz.underlying53 (frames_one hvl HH.out.2.2.2.2.2.2.2.2.2.2.1)
      have h64 : fs.length ≤ 64 := by have := HH.out.2.2.2.2.2.2.1; omega
      clear c0 f1 g1 ho
      generalize w.drewN nq = w1 at G1 c1 hsrc ⊢
      go_wp2_with (at_builtin; refine wpList_append_ownS rfl (.tmp 19) (.tmp 23) 53 53 rfl 34 (.slice none 0 0) 1 24 Tryz.underlying53 infoBytes rfl _ _ rfl rfl 0 [] (OwnS.nil _ _ _) fs.length vs hsrc (by unfold maxLen; omega) (by omega) ?_)
      intro v1 w2 hown2 hgr2 hblk2
      have ho2 : OwnS w2 34 1 v1 fs.length vs := by simpa only [Nat.zero_add, List.nil_append] using hown2
      have g2 : Grows w1 w2 := Ext.of_grown (S := fun _ => False) hgr2 (fun k hk => by simp [Value.ownBlock] at hk)
      have hb2 : ∀ k, v1.ownBlock = some k → w1.heap.size ≤ k := fun k hk => by
        rcases hblk2 with h | h
        · rw [h] at hk; simp [Value.ownBlock] at hk
        · rw [h] at hk; simp only [Option.some.injEq] at hk; omega
      have K2 := Lib.hid (And.intro ho2 (And.intro (G1.out.trans g2) (And.intro (fun k hk => Nat.le_trans G1.out.size (hb2 k hk)) g2)))
      clear hown2 hgr2 hblk2 ho2 g2 hb2 hsrc c1
      go_wp2_with fail
      refine (refown_any _ xs w2 (HB.out.grows K2.out.2.1)).mono ?_
      rintro e w3 ⟨v', rfl, ho3, g3, hf3⟩
      obtain ⟨xa, xc, rfl⟩ := OwnS.form ho3
      have hv' : Bytes w3 (.slice xa xs.length xc) xs := OwnS.bytes ho3 HB.out.2.1 HB.out.2.2
      have K3 := Lib.hid (And.intro hv' (And.intro g3 (And.intro hf3 ho3)))
      have own5 := OwnS.grows K2.out.1 (g3.trans ((Ext.refl (fun _ => False) w3).alloc (.cells #[.slice xa xs.length xc] 34)))
      clear hv' ho3 g3 hf3
      go_wp2_with (at_builtin; refine wpList_append_ownS rfl (.tmp 26) (.tmp 29) 53 53 rfl 34 (.slice none 0 0) 1 24 Tryz.underlying53 infoBytes rfl _ _ rfl rfl fs.length vs own5 1 [.slice xa xs.length xc] (src_one Tryz.underlying53 (heap_alloc_new w3 _) rfl) (by unfold maxLen; omega) (by omega) ?_)
      intro v2 w5 hown5 hgr5 hblk5
      obtain ⟨qa, qc, rfl⟩ := OwnS.form hown5
      have g4 : Grows w3 (w3.alloc (.cells #[.slice xa xs.length xc] 34)) := (Ext.refl _ _).alloc _
      have gw4 : Grows w (w3.alloc (.cells #[.slice xa xs.length xc] 34)) := (K2.out.2.1.trans K3.out.2.1).trans g4
      have s4 := gw4.size
      have s3 := (K2.out.2.1).size
      have e5 : Ext (fun k => v1.ownBlock = some k) (w3.alloc (.cells #[.slice xa xs.length xc] 34)) w5 := Ext.of_grown hgr5 (fun k hk => hk)
      have gw5 : Grows w w5 := (gw4.lift.trans e5).mono (fun k hk hh => by have := K2.out.2.2.1 k hh; omega)
      have hof : OwnF w5 (.slice qa (fs.length + 1) qc) (fun k => F k ∨ ((Value.slice xa xs.length xc).ownBlock = some k ∧ w.heap.size ≤ k)) (fs ++ [xs]) := by
        refine OwnF.snoc (F := F) (fun i g hg => ?_) hvl (fun k hk hF => ?_) (fun k hk => .inl hk) (fun k hk => ?_) (K3.out.1.grows g4) (fun k hk _ => .inr ⟨hk, by have := K3.out.2.2.1 k hk; omega⟩) hown5 hgr5 (by simpa using hblk5)
        · obtain ⟨u, hu, hb, hk⟩ := HH.out.2.2.2.2.2.2.2.2.2.2.1 i g hg
          exact ⟨u, hu, hb.grows gw4, hk⟩
        · have h1 := K2.out.2.2.1 k hk
          rcases hF with h | ⟨h, _⟩
          · have := (HH.out.2.2.1 k h).2.2; omega
          · have h2 := K3.out.2.2.1 k h
            have h3 := OwnS.lt K2.out.1 k hk
            omega
        · rcases hk with h | ⟨h, _⟩
          · have := (HH.out.2.2.1 k h).2.2; omega
          · have h2 := OwnS.lt K3.out.2.2.2 k h
            have := g4.size; omega
      have hr5 := (gw5.block r HH.out.2.2.2.2.2.2.2.2.2.2.2.2 (fun h => h)).trans HH.out.1
      have c1 := cell_of_heap hr5 1
      have f1 := frozen_of_heap hr5 1
      simp at c1
      have hl2 : ∀ k, (Value.slice qa (fs.length + 1) qc).ownBlock = some k → w.heap.size ≤ k ∧ k < w5.heap.size := fun k hk => by
        refine ⟨?_, hof.lt k hk⟩
        rcases hblk5 with h | h
        · exact K2.out.2.2.1 k (h ▸ hk)
        · rw [h] at hk; simp only [Option.some.injEq] at hk; have := (K2.out.2.1.trans K3.out.2.1).size; omega
      have hx5 : ∀ k, (Value.slice xa xs.length xc).ownBlock = some k → k < w5.heap.size := fun k hk => by
        have h2 := OwnS.lt K3.out.2.2.2 k hk
        have := g4.size; have := e5.size; omega
      have HF := Lib.hid (And.intro hof (And.intro hr5 (And.intro gw5 (And.intro hl2 hx5))))
      clear g4 gw4 s4 s3 e5 gw5 hof hr5 hl2 hx5 hown5 hgr5 hblk5 own5 K3 K2 G1
      go_wp2
      go_ret
      refine .inr (.inr ⟨HH.out.2.2.2.2.2.2.2.1, by have := HH.out.2.2.2.2.2.2.1; have := HH.out.2.2.2.2.2.2.2.2.1; omega, rfl, ?_, Ext.setCell (S := fun k => k = r) HF.out.2.2.1.lift ⟨r, 1, none⟩ (Or.inr rfl) _⟩)
      have hsz := HF.out.2.2.1.size
      have hne : ∀ k, w.heap.size ≤ k → k ≠ r := fun k hk => by have := HH.out.2.2.2.2.2.2.2.2.2.2.2.2; omega
      have hset : Ext (fun k => k = r) w5 (w5.setCell ⟨r, 1, none⟩ (.slice qa (fs.length + 1) qc)) := Ext.setCell (S := fun k => k = r) (Ext.refl _ _) ⟨r, 1, none⟩ (Or.inr rfl) _
      refine ⟨(.slice qa (fs.length + 1) qc), (fun k => F k ∨ ((Value.slice xa xs.length xc).ownBlock = some k ∧ w.heap.size ≤ k)), ty, setCell_heap HF.out.2.1 1 (.slice qa (fs.length + 1) qc), HF.out.1.keeps hset (fun k hk => ⟨hne k (HF.out.2.2.2.1 k hk).1, HF.out.1.out k hk⟩) (fun k hk => ?_) (fun _ h => h), .inl HH.out.2.1, fun k hk => ?_, fun k hk => ⟨.inr (by simpa using HF.out.2.2.2.1 k hk), hne k (HF.out.2.2.2.1 k hk).1⟩, HH.out.2.2.2.2.1, HH.out.2.2.2.2.2.1, by rw [List.length_append, List.length_singleton]; have := HH.out.2.2.2.2.2.2.1; have := HH.out.2.2.2.2.2.2.2.2.1; omega⟩
      · rcases hk with h | ⟨_, h⟩
        · exact (HH.out.2.2.1 k h).2.1
        · exact hne k h
      · rcases hk with h | ⟨h0, h⟩
        · have h9 := HH.out.2.2.1 k h
          exact ⟨.inl h9.1, h9.2.1, by simp; omega⟩
        · exact ⟨.inr ⟨h, by have := HF.out.2.2.2.2 k h0; simpa using this⟩, hne k h, by have := HF.out.2.2.2.2 k h0; simpa using this⟩
  · have hx' : (70000 : Int) < (xs.length : Int) := by omega
    have HH := Lib.hid hx
    clear h hx
    go_enter Tryz.func33, Tryz.ntmps33
    go_wp2
    go_ret
    exact .inl ⟨by have := HH.out; omega, rfl, ⟨rfl, rfl, rfl, Nat.le_refl _, fun _ _ _ => rfl⟩⟩

theorem refq_pop_none (r p : Nat) (S : Nat → Prop) (w : World) (h : RefQ w r S p []) :
    Calls Tryz.prog 12 #[.pointer (some ⟨r, 0, none⟩)] w fun e w' => e = .returned (.tuple #[.slice none 0 0, .bool false]) ∧ w = w' := by
  obtain ⟨vl, F, ty, h1, h2, h3, h4, h5, h6, h7, h8⟩ := h
  obtain ⟨la, lc, rfl⟩ := h2.form
  have c1 := cell_of_heap h1 1
  simp at c1
  clear h1 h2 h3 h4 h5
  go_enter Tryz.func12, Tryz.ntmps12
  go_wp2
  go_ret2
  exact ⟨rfl, rfl⟩
/-- The first frame, taken. -/
def RPopped (w : World) (r p : Nat) (S : Nat → Prop) (f : List Int) (rest : List (List Int)) (e : Ending) (w' : World) : Prop :=
  ∃ a c, e = .returned (.tuple #[.slice a f.length c, .bool true]) ∧ Bytes w' (.slice a f.length c) f ∧ RefQ w' r S p rest ∧ Ext (fun k => k = r) w w'
set_option maxHeartbeats 1600000 in
theorem refq_pop_some (r p : Nat) (S : Nat → Prop) (f : List Int) (rest : List (List Int)) (w : World) (h : RefQ w r S p (f :: rest)) :
    Calls Tryz.prog 12 #[.pointer (some ⟨r, 0, none⟩)] w (RPopped w r p S f rest) := by
  obtain ⟨vl, F, ty, h1, h2, h3, h4, h5, h6, h7, h8⟩ := h
  obtain ⟨la, lc, rfl⟩ := h2.form
  have c0 := cell_of_heap h1 0
  have c1 := cell_of_heap h1 1
  have f1 := frozen_of_heap h1 1
  simp at c0 c1
  have hl : (f :: rest).length = rest.length + 1 := List.length_cons
  have h2' := h2
  obtain ⟨vs, ho, hvs, hvb⟩ := h2'
  obtain ⟨u, hu, hb, hk⟩ := hvs 0 f rfl
  obtain ⟨ua, uc, rfl⟩ : ∃ a cap, u = .slice a f.length cap := by
    rcases hb.cases with ⟨a, cap, rfl, rfl⟩ | ⟨b, off, cap, rfl, _⟩
    · exact ⟨a, cap, rfl⟩
    · exact ⟨_, cap, rfl⟩
  rw [hl] at h2
  rcases ho.2 with ⟨h0, _⟩ | ⟨g, off, cap, cur, h0, hg, hnc, hcm, hcs, hcell⟩
  · injection h0 with _ h9 _
    rw [hl] at h9
    cases h9
  injection h0 with e1 e2 e3
  subst e1 e3
  clear e2
  have hc0 : w.cell? ⟨g, off, none⟩ = some (.slice ua f.length uc) := by
    have := hcell 0 (by rw [hl]; omega)
    rw [hu] at this
    rw [cell_of_heap hg]
    simpa using this
  have hn0 : (((rest.length + 1 : Nat) : Int) == 0) = false := by simp; omega
  have hn1 : (0 : Int) < ((rest.length + 1 : Nat) : Int) := by omega
  have hn2 : (1 : Int) ≤ ((rest.length + 1 : Nat) : Int) := by omega
  have hgr : ∀ k, (Value.slice (some ⟨g, off, none⟩) (f :: rest).length lc).ownBlock = some k → k ≠ r := fun k hk => (h5 k hk).2
  have hset : ∀ x : Value, Ext (fun k => k = r) w (w.setCell ⟨r, 1, none⟩ x) := fun x => Ext.setCell (S := fun k => k = r) (Ext.refl _ _) ⟨r, 1, none⟩ (Or.inr rfl) _
  have hne : ∀ k, (Value.slice ua f.length uc).ownBlock = some k → f ≠ [] → k ≠ r := fun k h9 h10 => (h4 k (hk k h9 h10)).2.1
  have hlc : rest.length + 1 ≤ lc := by rw [hl] at hnc; exact hnc
  have HH := Lib.hid (And.intro h1 (And.intro h2 (And.intro h3 (And.intro h4 (And.intro h5 (And.intro h6 (And.intro h7 (And.intro h8 (And.intro hb (And.intro hne hset))))))))))
  have hcl : (lc : Int) = (lc : Int) := rfl
  have hc2 : ((rest.length + 1 : Nat) : Int) ≤ (lc : Int) := by omega
  have hc3 : (1 : Int) ≤ (lc : Int) := by omega
  generalize hnn : rest.length + 1 = n at hn0 hn1 hn2 hc2 c1 HH
  clear h1 h2 h3 h4 h5 ho hvs hvb hb hk hu hg hcell hcs hcm hgr hset hne
  by_cases hc : lc = 1
  · subst hc
    go_enter Tryz.func12, Tryz.ntmps12
    go_wp2
    go_ret2
    refine ⟨ua, uc, rfl, HH.out.2.2.2.2.2.2.2.2.1.ext2 (HH.out.2.2.2.2.2.2.2.2.2.2 _) HH.out.2.2.2.2.2.2.2.2.2.1, ?_, HH.out.2.2.2.2.2.2.2.2.2.2 _⟩
    have hx := HH.out.2.2.2.2.2.2.2.2.2.2
    refine ⟨_, F, ty, setCell_heap HH.out.1 1 _, ((HH.out.2.1.tail (a := (some ⟨g, off, none⟩)) hnn.symm (fun h => by omega) (fun h => rfl)).keeps (hx _) (fun k hk => ⟨(HH.out.2.2.2.2.1 k hk).2, HH.out.2.1.out k hk⟩) (fun k hk => (HH.out.2.2.2.1 k hk).2.1) (fun _ h => h)), HH.out.2.2.1, fun k hk => ⟨(HH.out.2.2.2.1 k hk).1, (HH.out.2.2.2.1 k hk).2.1, by have := (HH.out.2.2.2.1 k hk).2.2; simpa using this⟩, fun k hk => HH.out.2.2.2.2.1 k hk, HH.out.2.2.2.2.2.1, HH.out.2.2.2.2.2.2.1, by have := HH.out.2.2.2.2.2.2.2.1; rw [hl] at this; omega⟩
  · go_enter Tryz.func12, Tryz.ntmps12
    go_wp2
    go_ret2
    refine ⟨ua, uc, rfl, HH.out.2.2.2.2.2.2.2.2.1.ext2 (HH.out.2.2.2.2.2.2.2.2.2.2 _) HH.out.2.2.2.2.2.2.2.2.2.1, ?_, HH.out.2.2.2.2.2.2.2.2.2.2 _⟩
    have hx := HH.out.2.2.2.2.2.2.2.2.2.2
    refine ⟨_, F, ty, setCell_heap HH.out.1 1 _, ((HH.out.2.1.tail (a := (some ⟨g, off + 1, none⟩)) hnn.symm (fun h => rfl) (fun h => absurd h hc)).keeps (hx _) (fun k hk => ⟨(HH.out.2.2.2.2.1 k hk).2, HH.out.2.1.out k hk⟩) (fun k hk => (HH.out.2.2.2.1 k hk).2.1) (fun _ h => h)), HH.out.2.2.1, fun k hk => ⟨(HH.out.2.2.2.1 k hk).1, (HH.out.2.2.2.1 k hk).2.1, by have := (HH.out.2.2.2.1 k hk).2.2; simpa using this⟩, fun k hk => HH.out.2.2.2.2.1 k hk, HH.out.2.2.2.2.2.1, HH.out.2.2.2.2.2.2.1, by have := HH.out.2.2.2.2.2.2.2.1; rw [hl] at this; omega⟩
end Go.Proofs.YtekdggdnkmkldaaGreat
