/- LinkBounds: no frame goes out beyond what was granted, never are there more frames than places, and behind a probe and a grant that come the sender may send as many as there are free places; whatever is lost, doubled, late, whichever end begins anew; no condition. -/
import Derived.Test.YtekdggdnkmkldaaLinkE
import Derived.Test.YtekdggdnkmkldaaOpen
namespace Go.Proofs.Ytekdggdnkmkldaa
set_option linter.unusedVariables false
set_option linter.unusedSimpArgs false
set_option maxRecDepth 1500
open Go.ChangeShapes Go.WideShapes Go.ChangeAt Go.RowKit Go.Maps

theorem cellsStepB : Try.prog.cellsOf 95 = 2 := by kernel_rfl
theorem bytesStepB : Try.prog.bytesOf 95 = 16 := by kernel_rfl
structure StepB where
  what : Int
  nn : Nat
def StepB.cells (o : StepB) : List Value := [.int .i64 o.what, .int .u8 (o.nn : Nat)]
def StepsB (w : World) (v : Value) (l : List StepB) : Prop := SliceR w v l.length 2 (fun i cs => ∃ o, l[i]? = some o ∧ cs = o.cells ∧ o.nn < 256) ∧ l.length * 16 ≤ 140737488351232
set_option maxRecDepth 100000 in
theorem open_stepsB {H : Type} {enc : TypeId × Value → H} {W : World} {base b' : Nat} {v : Value} {d : DataW H} {p : List MemPlace} {ts : List TypeId} {ds : List (DataW H)} {j : Nat}
    (hv : Value.okWide Try.prog W .any b' 87 v) (h : DataW.Trod enc Try.prog W base (fun _ => true) true 87 v d p)
    (hsz : (DataW.weightsEach Try.prog ts ds).all (· ≤ reachBytes) = true) (hj : ts[j]? = some 87) (hd : ds[j]? = some d) : ∃ xs, StepsB W v xs := by
  obtain ⟨a, len, cap, hvv⟩ := okWide_slice Try.underlying87 hv
  have h := Rd.of_arg h hsz hj hd
  rw [cells_one hvv] at h
  obtain ⟨n, cap, ⟨a, rfl⟩, hl, hw, hs⟩ := h.sliceR Try.underlying87 cellsStepB (by omega)
  rw [bytesStepB] at hw
  have hs2 := hs.mono (R' := fun _ cs => ∃ o : StepB, cs = o.cells ∧ o.nn < 256) (fun i cs _ hc hr => by
    obtain ⟨_, hf⟩ := hr.fields Try.underlying95
    match cs, hc with
    | [c0, c1], _ =>
    have f0 : Rd enc Try.prog W _ 3 ((([c0, c1] : List Value).drop 0).take (Try.prog.cellsOf 3)) := hf 0 _ rfl
    have f1 : Rd enc Try.prog W _ 5 ((([c0, c1] : List Value).drop 1).take (Try.prog.cellsOf 5)) := hf 1 _ rfl
    simp only [cellsIntT, cells8, List.drop_zero, List.drop_succ_cons, List.take_succ_cons, List.take_zero] at f0 f1
    obtain ⟨x0, h0, w0⟩ := f0.int Try.underlying3
    obtain ⟨x1, h1, w1⟩ := f1.int Try.underlying5
    simp only [List.cons.injEq, and_true] at h0 h1
    subst h0 h1
    obtain ⟨b1, b2⟩ := wf_u8' w1
    obtain ⟨n1, rfl⟩ := Int.eq_ofNat_of_zero_le b1
    exact ⟨⟨x0, n1⟩, rfl, by show n1 < 256; omega⟩)
  obtain ⟨l, hlen, hs3⟩ := hs2.choose
  subst hlen
  exact ⟨l, hs3, by simp only [reachBytes] at hw; omega⟩
theorem StepsB.form {w : World} {v : Value} {xs : List StepB} (h : StepsB w v xs) : ∃ a cap, v = .slice a xs.length cap := by
  rcases h.1 with ⟨a, cap, h1, h2⟩ | ⟨b, off, cap, rfl, _⟩
  · exact ⟨a, cap, by rw [h1, h2]⟩
  · exact ⟨_, _, rfl⟩
theorem StepsB.at {w : World} {v : Value} {xs : List StepB} (h : StepsB w v xs) (i : Nat) (hi : i < xs.length) : ∃ b off cap, v = .slice (some ⟨b, off, none⟩) xs.length cap ∧ b < w.heap.size ∧ w.cell? ⟨b, off + i * 2, none⟩ = some (.int .i64 xs[i].what) ∧ w.cell? ⟨b, off + i * 2 + 1, none⟩ = some (.int .u8 (xs[i].nn : Nat)) ∧ xs[i].nn < 256 := by
  rcases h.1 with ⟨a, cap, h1, h2⟩ | ⟨b, off, cap, rfl, _, _, hb, h5⟩
  · omega
  · obtain ⟨cs, _, ⟨o, ho, rfl, hlt⟩, hc⟩ := h5 i hi
    rw [List.getElem?_eq_getElem hi] at ho
    obtain rfl := Option.some.inj ho
    exact ⟨b, off, cap, rfl, hb, hc 0 (by omega), hc 1 (by omega), hlt⟩
theorem Boxes.add {bs : List Nat} {vs : List Value} {z : Frm} {w : World} (h : Boxes bs vs z w) (v : Value) (ty : TypeId) : Boxes (bs ++ [w.heap.size]) (vs ++ [v]) z (w.alloc (.cells #[v] ty)) := by
  have g : Grows w (w.alloc (.cells #[v] ty)) := (Ext.refl _ _).alloc _
  refine ⟨by rw [List.length_append, List.length_append, h.1]; rfl, ?_, fun j b u hb hu => ?_, fun b hb => ?_, Frm.step h.2.2.2.2 g (fun _ h => h.elim)⟩
  · rw [List.nodup_append]
    refine ⟨h.2.1, by simp, fun a ha c hc => ?_⟩
    obtain rfl := List.mem_singleton.1 hc
    have := h.lt a ha
    omega
  · rcases Nat.lt_or_ge j bs.length with hj | hj
    · rw [List.getElem?_append_left hj] at hb
      rw [List.getElem?_append_left (by rw [← h.1]; exact hj)] at hu
      obtain ⟨ty', h1⟩ := h.2.2.1 j b u hb hu
      exact ⟨ty', (g.block b (heap_lt h1) (fun h => h)).trans h1⟩
    · rw [List.getElem?_append_right hj] at hb
      rw [List.getElem?_append_right (by rw [← h.1]; exact hj), ← h.1] at hu
      have hz : j - bs.length = 0 := by
        have := (List.getElem?_eq_some_iff.1 hb).1
        simp at this
        omega
      rw [hz] at hb hu
      simp only [List.getElem?_cons_zero, Option.some.injEq] at hb hu
      subst hb hu
      exact ⟨ty, heap_alloc_new w _⟩
  · rcases List.mem_append.1 hb with hb | hb
    · exact h.2.2.2.1 b hb
    · obtain rfl := List.mem_singleton.1 hb
      exact .inl h.2.2.2.2.size
theorem Ctx.addBox {S : (Frm → World → Prop) → Frm → World → Prop} (c : Ctx S) {bs : List Nat} {vs : List Value} {z : Frm} {w : World} (h : S (Boxes bs vs) z w) (v : Value) (ty : TypeId) : S (Boxes (bs ++ [w.heap.size]) (vs ++ [v])) z (w.alloc (.cells #[v] ty)) := by
  obtain ⟨F, h1, _, h3⟩ := c.foc h
  exact h3 (parts_boxes _ _) (h1.add v ty)
theorem Boxes.nil (w : World) : Boxes [] [] (Frm.of w) w := ⟨rfl, List.nodup_nil, fun j b v hb => by simp at hb, fun b hb => by simp at hb, Ext.refl _ _⟩

theorem at_popT {z : Frm} {w : World} {i : Nat} {x : InV} (h : InAt z w i x) : Calls Try.prog 18 #[.pointer (some ⟨i, 0, none⟩)] w fun e w' => (∃ v, e = .returned v) ∧ InAt z w' i { x with fs := x.fs.tail } := by
  rcases hx : x.fs with _ | ⟨f, rest⟩
  · refine (at_pop_none h hx).mono ?_
    rintro e w' ⟨rfl, rfl⟩
    refine ⟨⟨_, rfl⟩, ?_⟩
    have e1 : ({ x with fs := ([] : List (List Int)).tail } : InV) = x := by cases x; simp only at hx; subst hx; rfl
    rw [e1]
    exact h
  · refine (at_pop_ok h f rest hx).mono ?_
    rintro e w' ⟨b, _, rfl, _, h2⟩
    exact ⟨⟨_, rfl⟩, h2⟩
theorem Tws.pre2 {w : World} {g off n cap : Nat} {l : List TW} (h : Tws w (.slice (some ⟨g, off, none⟩) n cap) l) (k : Nat) (hk : k ≤ l.length) (c2 : Nat) : Src Try.prog 4 89 (.slice (some ⟨g, off, none⟩) k c2) k (tcells (l.take k)) w := by
  rcases h.2 with ⟨h0, _⟩ | ⟨g', off', cap', cur, h0, hg, h1, h2, h3, h4⟩
  · cases h0
  · simp only [Value.slice.injEq, Option.some.injEq, Addr.mk.injEq] at h0
    obtain ⟨⟨rfl, rfl, _⟩, _, rfl⟩ := h0
    refine Src.ofSlice w Try.underlying89 ⟨g, off, none⟩ _ _ _ (by rw [tcells_length, List.length_take, Nat.min_eq_left hk]) (fun j u hj => ?_) (tcells_one _)
    have hjl := (List.getElem?_eq_some_iff.1 hj).1
    rw [tcells_length, List.length_take, Nat.min_eq_left hk] at hjl
    rw [← tcells_take, List.getElem?_take, if_pos hjl] at hj
    have hplain : (⟨g, off, none⟩ : Addr).add j = ⟨g, off + j, none⟩ := by unfold Addr.add; split <;> simp_all
    rw [hplain, cell_of_heap hg, h4 _ (by omega), hj]
theorem Tws.ext {S : Nat → Prop} {w w' : World} {v : Value} {l : List TW} (h : Tws w v l) (e : Ext S w w') (hs : ∀ b, v.ownBlock = some b → ¬ S b) : Tws w' v l := OwnS.ext h e hs
theorem own_empty (w : World) (e : TypeId) (k : Nat) : OwnS (w.alloc (.cells #[] e)) e k (.slice (some ⟨w.heap.size, 0, none⟩) 0 0) 0 [] :=
  ⟨by simp, .inr ⟨w.heap.size, 0, 0, #[], rfl, heap_alloc_new w _, Nat.le_refl _, Nat.zero_le _, by simp, fun i hi => by omega⟩⟩
/-- One of the way is gone, into new memory. -/
theorem Star.setWay {b : BL} {n peer o i gm heard : Nat} {vw : Value} {k : Nat} {x : OutV} {y : InV} {j : Nat} {g : Nat → Nat → Nat} {l l' : List TW} {z : Frm} {A B : Frm → World → Prop} (pA : Parts A) (pB : Parts B) {wz W1 w5 w6 : World} {v1 v2 : Value} {be : Nat}
    (H : Star (Star (SB b n peer o i gm heard vw k x y j g l) A) B z wz) (g1 : Grows wz W1) (hbe : wz.heap.size ≤ be) (hg5 : W1.grownBy w5 (some be)) (hb5 : v1.ownBlock = some be ∨ v1.ownBlock = some W1.heap.size) (hg6 : w5.grownBy w6 v1.ownBlock) (hb6 : v2.ownBlock = v1.ownBlock ∨ v2.ownBlock = some w5.heap.size) (ho : Tws w6 v2 l') :
    Star (Star (SB b n peer o i gm heard v2 k x y j g l') A) B z (w6.setCell ⟨b.w, 0, none⟩ v2) ∧ w6.cell? ⟨b.w, 0, none⟩ = some vw ∧ w6.frozen? ⟨b.w, 0, none⟩ = false := by
  have s1 := g1.size
  have e5 : Ext (fun c => c = be) W1 w5 := Ext.of_grown hg5 (fun c hc => (Option.some.inj hc).symm)
  have e6 : Ext (fun c => v1.ownBlock = some c) w5 w6 := Ext.of_grown hg6 (fun c hc => hc)
  have hv1 : ∀ c, v1.ownBlock = some c → wz.heap.size ≤ c := fun c hc => by
    rcases hb5 with h | h <;> (rw [h] at hc; simp only [Option.some.injEq] at hc; omega)
  have s5 := e5.size
  have hv2 : ∀ c, v2.ownBlock = some c → wz.heap.size ≤ c := fun c hc => by
    rcases hb6 with h | h
    · exact hv1 c (h ▸ hc)
    · rw [h] at hc; simp only [Option.some.injEq] at hc; omega
  have gr : Grows wz w6 := by
    have e : Ext (fun c => c = be ∨ v1.ownBlock = some c) wz w6 := (g1.mono (fun _ _ h => h.elim)).trans ((e5.mono (fun _ _ h => .inl h)).trans (e6.mono (fun _ _ h => .inr h)))
    exact e.mono (fun c hc h => by
      rcases h with h | h
      · omega
      · have := hv1 c h; omega)
  obtain ⟨F, h1, _, h3⟩ := (Ctx.comp (S := fun X => Star X B) (Ctx.left pB) (Ctx.left pA)).foc H
  obtain ⟨a1, a2⟩ := h1.setWay gr ho hv2
  exact ⟨h3 parts_sb a1, a2⟩
set_option maxHeartbeats 32000000 in
theorem LinkBounds_walk (places : Int) (v : Value) (xs : List StepB) (w : World) (h0 : (Lit.int .u8 places).wf = true) (h1 : StepsB w v xs) :
    Calls Try.prog 7 #[.int .u8 places, v] w fun e w' => e = .returned (.bool true) ∧ Below w.heap.size w w' := by
  obtain ⟨p1, p2⟩ := wf_u8' h0
  obtain ⟨va, vc, rfl⟩ := h1.form
  have AC := Lib.hid h1
  have hxl := h1.2
  clear h0 h1
  have hmm := @run_makeMap Try.prog
  go_enter Try.func7, Try.ntmps7
  go_upto_region 2 with fail
  have m1 : 1 ≤ 1 + places % 64 := by omega
  have m2 : 1 + places % 64 ≤ 64 := by omega
  generalize hmm2 : 1 + places % 64 = m at m1 m2 ⊢
  clear hmm2 p1 p2
  obtain ⟨n, rfl⟩ := Int.eq_ofNat_of_zero_le (show 0 ≤ m by omega)
  have n1 : 1 ≤ n := by omega
  have n2 : n ≤ 64 := by omega
  clear m1 m2
  have B1 := Lib.hid ((Boxes.nil w).add (.int .i64 (n : Nat)) 3)
  generalize w.alloc (.cells #[.int .i64 (n : Nat)] 3) = wa at B1 ⊢
  generalize w.heap.size = bn at B1 ⊢
  go_upto_region 3 with fail
  have B2 := Lib.hid (B1.out.add (.int .u64 1) 27)
  clear B1
  go_wp2_with fail
  generalize wa.alloc (.cells #[.int .u64 1] 27) = wb at B2 ⊢
  generalize wa.heap.size = bp at B2 ⊢
  refine (out_new 1 1 wb (by omega) (by unfold Most; omega) (by omega) (by omega)).mono ?_
  rintro e wc ⟨o, rfl, ho⟩
  have B3 := Lib.hid ((Ctx.left (parts_outb o 0 (newV 1 1))).addBox (Star.mkR (parts_boxes _ _) (parts_outb o 0 (newV 1 1)) B2.out ho) (.pointer (some ⟨o, 0, none⟩)) 23)
  clear B2 ho
  have kn : (wc.alloc (.cells #[.pointer (some ⟨o, 0, none⟩)] 23)).cell? ⟨bn, 0, none⟩ = some (.int .i64 n) := by
    obtain ⟨F, hbx⟩ := (Ctx.left (parts_outb o 0 (newV 1 1))).gets B3.out
    exact (hbx.at 0 bn _ rfl rfl).1
  go_wp2_with fail
  generalize wc.alloc (.cells #[.pointer (some ⟨o, 0, none⟩)] 23) = wd at B3 kn ⊢
  generalize wc.heap.size = bo at B3 ⊢
  refine (in_new n wd n1 n2).mono ?_
  rintro e we ⟨i, rfl, hi⟩
  have B4 := Lib.hid ((Ctx.comp (S := fun X => Star X (InB i ⟨n, [], 0, 0, 0⟩)) (Ctx.left (parts_inb i ⟨n, [], 0, 0, 0⟩)) (Ctx.left (parts_outb o 0 (newV 1 1)))).addBox (Star.mkR (parts_star (parts_boxes _ _) (parts_outb o 0 (newV 1 1))) (parts_inb i ⟨n, [], 0, 0, 0⟩) B3.out hi) (.pointer (some ⟨i, 0, none⟩)) 37)
  clear B3 hi kn
  go_wp2_with fail
  generalize we.alloc (.cells #[.pointer (some ⟨i, 0, none⟩)] 37) = wf at B4 ⊢
  generalize we.heap.size = bi at B4 ⊢
  refine (awake22 _).mono ?_
  rintro e wg ⟨rfl, gg⟩
  have B5 := Lib.hid ((parts_star (parts_star (parts_boxes _ _) (parts_outb o 0 (newV 1 1))) (parts_inb i ⟨n, [], 0, 0, 0⟩)).more B4.out gg)
  clear B4 gg
  have hmo : MapO wg.heap.size 0 (fun _ _ => 0) (Frm.of wg) (wg.alloc (.map #[] 0)) := ⟨mapG_made wg, .inl (Nat.le_refl _), (Ext.refl _ _).alloc _⟩
  have b6 := Star.mkR (parts_star (parts_star (parts_boxes _ _) (parts_outb o 0 (newV 1 1))) (parts_inb i ⟨n, [], 0, 0, 0⟩)) (parts_mapo wg.heap.size 0 (fun _ _ => 0)) B5.out hmo
  have cM : Ctx (fun X => Star (Star (Star X (OutB o 0 (newV 1 1))) (InB i ⟨n, [], 0, 0, 0⟩)) (MapO wg.heap.size 0 (fun _ _ => 0))) := Ctx.comp (Ctx.left (parts_mapo _ _ _)) (Ctx.comp (Ctx.left (parts_inb _ _)) (Ctx.left (parts_outb _ _ _)))
  have b7 := cM.addBox b6 (.map (some wg.heap.size)) 88
  have b8 := cM.addBox b7 (.int .u64 0) 27
  have b9 := cM.addBox b8 (.slice none 0 0) 89
  have b10 := Star.mkR (cM.parts (parts_boxes _ _)) (parts_slt (.slice none 0 0) []) b9 (SlO.nil _ _ (Frm.of _) _ (Ext.refl _ _))
  have B10 := Lib.hid b10
  clear b6 b7 b8 b9 b10 hmo cM B5
  go_upto_region 12 with (with_reducible refine held_e (n := 12) ?_)
  unfold HeldE
  go_step
  clear hmm
  have hs1 : (wg.alloc (.map #[] 0)).heap.size = wg.heap.size + 1 := alloc_size1 _ _
  have hs2 : ((wg.alloc (.map #[] 0)).alloc (.cells #[.map (some wg.heap.size)] 88)).heap.size = wg.heap.size + 1 + 1 := by rw [alloc_size1, hs1]
  have hs3 : (((wg.alloc (.map #[] 0)).alloc (.cells #[.map (some wg.heap.size)] 88)).alloc (.cells #[.int .u64 0] 27)).heap.size = wg.heap.size + 1 + 1 + 1 := by rw [alloc_size1, hs2]
  have b11 := B10.out
  rw [hs1, hs2, hs3] at b11
  have B11 := Lib.hid (show SB ⟨bn, bp, bo, bi, wg.heap.size + 1, wg.heap.size + 1 + 1, wg.heap.size + 1 + 1 + 1⟩ n 1 o i wg.heap.size 0 (.slice none 0 0) 0 (newV 1 1) ⟨n, [], 0, 0, 0⟩ 0 (fun _ _ => 0) [] (Frm.of w) ((((wg.alloc (.map #[] 0)).alloc (.cells #[.map (some wg.heap.size)] 88)).alloc (.cells #[.int .u64 0] 27)).alloc (.cells #[.slice none 0 0] 89)) from b11)
  clear b11 B10 hs1 hs2 hs3
  generalize (((wg.alloc (.map #[] 0)).alloc (.cells #[.map (some wg.heap.size)] 88)).alloc (.cells #[.int .u64 0] 27)).alloc (.cells #[.slice none 0 0] 89) = wh at B11 ⊢
  generalize wg.heap.size + 1 + 1 + 1 = bw at B11 ⊢
  generalize wg.heap.size + 1 + 1 = bh at B11 ⊢
  generalize wg.heap.size + 1 = bg at B11 ⊢
  generalize wg.heap.size = gm at B11 ⊢
  obtain ⟨b, hb⟩ : ∃ b : BL, (⟨bn, bp, bo, bi, bg, bh, bw⟩ : BL) = b := ⟨_, rfl⟩
  rw [hb] at B11
  obtain ⟨e1, e2, e3, e4, e5, e6, e7⟩ : bn = b.n ∧ bp = b.p ∧ bo = b.o ∧ bi = b.i ∧ bg = b.g ∧ bh = b.h ∧ bw = b.w := by subst hb; exact ⟨rfl, rfl, rfl, rfl, rfl, rfl, rfl⟩
  clear hb
  subst e1 e2 e3 e4 e5 e6 e7
  go_cut [6] (fun s6 w' => ∃ (q life peer o i heard k j : Nat) (vw : Value) (x : OutV) (y : InV) (g : Nat → Nat → Nat) (l : List TW), q ≤ 200 ∧ s6 = .int .u64 (life : Nat) ∧ k ≤ q ∧ j ≤ q ∧ LB n life peer heard x y g l q ∧ SB b n peer o i gm heard vw k x y j g l (Frm.of w) w')
  case first =>
    go_wp2_with fail
    go_loopg [6, 53] xs.length (fun kq s6 c wr => ∃ (q life peer o i heard k j : Nat) (vw : Value) (x : OutV) (y : InV) (g : Nat → Nat → Nat) (l : List TW), q ≤ xs.length ∧ q ≤ 200 ∧ kq = xs.length - q ∧ c = .int .i64 (q : Nat) ∧ s6 = .int .u64 (life : Nat) ∧ k ≤ q ∧ j ≤ q ∧ LB n life peer heard x y g l q ∧ SB b n peer o i gm heard vw k x y j g l (Frm.of w) wr)
    case atStart => exact ⟨0, 1, 1, o, i, 0, 0, 0, _, _, _, _, _, by omega, by omega, by omega, rfl, rfl, by omega, by omega, LB.start n n1 n2, B11.out⟩
    case round =>
      obtain ⟨q, life, peer, o, i, heard, k, j, vw, x, y, g, l, hq, hq2, hkq, rfl, rfl, hk, hj, hL, hS⟩ := hrel
      have HK := Lib.hid hkq
      have HL := Lib.hid hL
      have HS := Lib.hid hS
      clear hkq hL hS B11
      by_cases hlt : q < xs.length
      · have j0 : (0 : Int) ≤ (q : Int) := by omega
        have j1 : (q : Int) < (xs.length : Int) := by omega
        obtain ⟨bl, off, cap, e, hbl, hc0, hc1, hn8⟩ := AC.out.at q hlt
        injection e with e1 e2 e3
        subst e1 e3
        clear e2
        have hg : Grows w wr := parts_sb.gw HS.out
        have c0 := (hg.cell (p := ⟨bl, off + q * 2, none⟩) hbl (fun h => h)).trans hc0
        have c1 := (hg.cell (p := ⟨bl, off + q * 2 + 1, none⟩) hbl (fun h => h)).trans hc1
        clear hc0 hc1 hg
        generalize xs[q] = sp at c0 c1 hn8
        obtain ⟨what, nn⟩ := sp
        simp only at c0 c1 hn8
        by_cases h200 : q < 200
        · have j2 : ((q : Int) == 200) = false := by simp; omega
          have HA := Lib.hid (Star.mkR parts_sb (parts_blk wr.heap.size (.cells #[.int .i64 what, .int .u8 (nn : Nat)] 95 (0, 0))) HS.out (Blk.new wr _))
          go_upto_region 17 with (with_reducible refine held_e (n := 17) ?_)
          unfold HeldE
          go_step
          clear c0 c1 HS
          generalize wr.alloc (.cells #[.int .i64 what, .int .u8 (nn : Nat)] 95) = wa at HA ⊢
          generalize wr.heap.size = bs at HA ⊢
          obtain ⟨wva, wvc, rfl⟩ := (Star.l parts_sb HA.out).way.form
          have hl200 : l.length ≤ 200 := by have := HL.out.ll; omega
          go_cut [19] (fun s w' => ∃ a : Int, s = .int .i64 a ∧ ((l = [] ∧ a = -1) ∨ ∃ m : Nat, m < l.length ∧ a = (m : Int)) ∧ w' = wa)
          case first =>
            have k1 : wa.cell? ⟨bs, 1, none⟩ = some (.int .u8 nn) := by rw [cell_of_heap (Star.r (parts_blk _ _) HA.out).1]; rfl
            have k7 := (Star.l parts_sb HA.out).cells.2.2.2.2.2.2
            by_cases hl0 : l.length = 0
            · have HZ := Lib.hid (List.eq_nil_of_length_eq_zero hl0)
              have x1 : ((l.length : Nat) : Int) = 0 := by omega
              go_wp2
              go_meet
              exact ⟨-1, rfl, .inl ⟨HZ.out, rfl⟩, rfl⟩
            · have x1 : (0 : Int) < (l.length : Int) := by omega
              have x2 : ((l.length : Int) == 0) = false := beq_eq_false_iff_ne.2 (by omega)
              obtain ⟨m, hm⟩ : ∃ m, nn % l.length = m := ⟨_, rfl⟩
              have x3 : (nn : Int) % (l.length : Int) = (m : Int) := by rw [← hm]; rfl
              have x4 : (nn : Int).tmod (l.length : Int) = (m : Int) := by rw [← hm]; rfl
              have hml : m < l.length := by rw [← hm]; exact Nat.mod_lt _ (by omega)
              clear hm
              go_wp2
              go_meet
              exact ⟨_, rfl, .inr ⟨m, hml, rfl⟩, rfl⟩
          case rest =>
            obtain ⟨a, rfl, hat, rfl⟩ := hcut
            have HAT := Lib.hid hat
            clear hat
            have k0 : wc.cell? ⟨bs, 0, none⟩ = some (.int .i64 what) := by rw [cell_of_heap (Star.r (parts_blk _ _) HA.out).1]; rfl
            have hw : what = 0 ∨ what = 3 ∨ (what = 1 ∨ what = 2) ∨ what = 4 ∨ what = 5 ∨ what = 6 ∨ what = 7 ∨ what = 8 ∨ ((what == 0) = false ∧ (what == 3) = false ∧ (what < 1 ∨ (1 ≤ what ∧ 2 < what)) ∧ (what == 4) = false ∧ (what == 5) = false ∧ (what == 6) = false ∧ (what == 7) = false ∧ (what == 8) = false) := by simp; omega
            rcases hw with rfl | rfl | hw | rfl | rfl | rfl | rfl | rfl | hw
            · as_aux_lemma =>
              have c3 := (Star.l parts_sb HA.out).cells.2.2.1
              have htl : ((x.told.length : Nat) : Int) = 1 := by have := HL.out.tl; omega
              by_cases hu : x.used < x.gr
              · have HU := Lib.hid (HL.out.useOk (by omega) hu)
                have hxb : x.used ≤ 200 := by have := HL.out.xu; omega
                go_wp2_with fail
                refine (Star.opL (A' := SB b n peer o i gm heard (.slice wva l.length wvc) (k + 1) (x.use ⟨0, 0⟩) y j g l) (Q := fun e _ => e = .returned (.tuple #[.int .u64 ((x.used + 1 : Nat) : Int), .int .u64 (x.used : Nat), .int .i64 0])) HA.out parts_sb (parts_blk _ _) (fun z h => h.callO (fun z h => use_T h ⟨0, 0⟩ (by decide) (by rw [htl]; decide) (by decide) hu (by unfold maxLen; omega) x.used HL.out.xs (by omega) 0 0 _ _ rfl rfl rfl rfl))).mono ?_
                rintro e w2 ⟨rfl, h2⟩
                have hs2 := Star.l parts_sb h2
                have L := hs2.map.look life heard (by have := HL.out.lf; omega) (by have := HL.out.hp; have := HL.out.pe; omega)
                obtain ⟨gv, hgv⟩ : ∃ gv, g life heard = gv := ⟨_, rfl⟩
                have hle := HU.out.2
                rw [hgv] at L hle
                obtain ⟨us, hus⟩ : ∃ us, x.used + 1 = us := ⟨_, rfl⟩
                rw [hus] at hle ⊢
                have x1 : ¬ ((gv : Int) < (us : Int)) := by omega
                obtain ⟨r1, r2, r3, r4, r5, r6, r7⟩ := hs2.cells
                have H2 := Lib.hid (And.intro hs2 hus)
                clear hle hgv h2 hs2 r1 r2 r3 r4 k0 c3 hu htl
                have own5 := (H2.out.1.way).grows ((Ext.refl (fun _ => False) w2).alloc (.cells #[.int .i64 0, .int .u64 life, .int .u64 0, .int .u64 us] 91))
                go_wp2_with (at_builtin; refine wpList_append_ownS rfl (.tmp 89) (.tmp 93) 89 89 rfl 91 (.agg #[.int .i64 0, .int .u64 0, .int .u64 0, .int .u64 0]) 4 32 Try.underlying89 infoTold rfl _ _ rfl rfl l.length (tcells l) own5 1 (tcells [(⟨0, life, 0, us⟩ : TW)]) (src_told (⟨0, life, 0, us⟩ : TW) (heap_alloc_new w2 _)) (by unfold maxLen; omega) (by omega) ?_)
                intro v' w5 hown5 hgr5 hblk5
                obtain ⟨qa, qc, rfl⟩ := OwnS.form hown5
                obtain ⟨hN5, c5, f5⟩ := H2.out.1.push (⟨0, life, 0, us⟩ : TW) ((Ext.refl _ w2).alloc _) hown5 hgr5 (by simpa using hblk5)
                have A := Lib.hid (And.intro (by have := HU.out.1; rw [H2.out.2] at this; exact this : LB n life peer heard (x.use ⟨0, 0⟩) y g (l ++ [⟨0, life, 0, us⟩]) (q + 1)) hN5)
                clear hN5 hown5 hgr5 hblk5 own5 L r5 r6 r7 x1
                go_wp2
                go_roundg (xs.length - (q + 1))
                case measure => have := HK.out; omega
                case rel => exact ⟨q + 1, life, peer, o, i, heard, k + 1, j, _, _, _, _, _, by omega, by omega, rfl, by go_num, rfl, by omega, by omega, A.out.1, A.out.2⟩
              · go_wp2_with fail
                refine (Star.opL (A' := SB b n peer o i gm heard (.slice wva l.length wvc) k x y j g l) (Q := fun e _ => e = .returned (.tuple #[.int .u64 0, .int .u64 0, .int .i64 26])) HA.out parts_sb (parts_blk _ _) (fun z h => h.callO (fun z h => (use_noT h 0 0 (by decide) (by rw [htl]; decide) (by decide) (by omega)).mono (fun e w' hh => ⟨hh.1, h.more hh.2⟩)))).mono ?_
                rintro e w2 ⟨rfl, h2⟩
                have A := Lib.hid (And.intro (HL.out.next (by omega)) (Star.l parts_sb h2))
                clear h2 k0 c3 hu htl
                go_wp2
                go_roundg (xs.length - (q + 1))
                case measure => have := HK.out; omega
                case rel => exact ⟨q + 1, life, peer, o, i, heard, k, j, _, _, _, _, _, by omega, by omega, rfl, by go_num, rfl, by omega, by omega, A.out.1, A.out.2⟩
            · as_aux_lemma =>
              have c7 := (Star.l parts_sb HA.out).cells.2.2.2.2.2.2
              rcases HAT.out with ⟨hl0, rfl⟩ | ⟨m, hm, rfl⟩
              · have A := Lib.hid (And.intro (HL.out.next (by omega)) (Star.l parts_sb HA.out))
                clear c7
                go_wp2
                go_roundg (xs.length - (q + 1))
                case measure => have := HK.out; omega
                case rel => exact ⟨q + 1, life, peer, o, i, heard, k, j, _, _, _, _, _, by omega, by omega, rfl, by go_num, rfl, by omega, by omega, A.out.1, A.out.2⟩
              · have m0 : (0 : Int) ≤ (m : Int) := by omega
                have m1 : (m : Int) < (l.length : Int) := by omega
                obtain ⟨gw, off2, cap2, hv, hgw, hcw⟩ := (Star.l parts_sb HA.out).way.at m hm
                injection hv with e1 e2 e3
                subst e1 e3
                clear e2
                obtain ⟨t, ht⟩ : ∃ t, l[m] = t := ⟨_, rfl⟩
                rw [ht] at hcw
                have htm : t ∈ l := ht ▸ List.getElem_mem hm
                have HD := Lib.hid (HL.out.dupOk (by omega) t htm)
                clear htm ht
                obtain ⟨tk, tl, td, tn⟩ := t
                have d0 := hcw 0 (by omega)
                have d1 := hcw 1 (by omega)
                have d2 := hcw 2 (by omega)
                have d3 := hcw 3 (by omega)
                simp only [TW.cells, List.getElem?_cons_zero, List.getElem?_cons_succ, Nat.add_zero] at d0 d1 d2 d3
                have ga : Grows wc (wc.alloc (.cells #[.int .i64 tk, .int .u64 tl, .int .u64 td, .int .u64 tn] 91)) := (Ext.refl _ _).alloc _
                have d0a := keepc ga d0
                have d1a := keepc ga d1
                have d2a := keepc ga d2
                have d3a := keepc ga d3
                have c7a := keepc ga c7
                have HB := Lib.hid (Star.l parts_sb HA.out)
                clear hcw ga
                go_upto_region 28 with fail
                clear k0
                go_region_law (first
                  | (refine step_append_ownS (by rfl) (.tmp 109) (.tmp 114) 89 89 (by rfl) 91 (.agg #[.int .i64 0, .int .u64 0, .int .u64 0, .int .u64 0]) 4 32 Try.underlying89 infoTold rfl _ _ (by rfl) (by rfl) l.length (tcells l) (OwnS.grows HB.out.way (by first | exact (Ext.refl _ _).alloc _ | exact ((Ext.refl _ _).alloc _).drew | exact ((Ext.refl _ _).drew).alloc _)) 1 (tcells [(⟨tk, tl, td, tn⟩ : TW)]) (src_told (⟨tk, tl, td, tn⟩ : TW) (heap_alloc_new _ _)) (by unfold maxLen; omega) (by omega) ?_; intro v' w5 hown5 hgr5 hblk5; obtain ⟨hN5, c5, f5⟩ := HB.out.push (⟨tk, tl, td, tn⟩ : TW) (by first | exact (Ext.refl _ _).alloc _ | exact ((Ext.refl _ _).alloc _).drew | exact ((Ext.refl _ _).drew).alloc _) hown5 hgr5 hblk5; obtain ⟨qa, qc, rfl⟩ := OwnS.form hown5))
                all_goals
                  have A := Lib.hid (And.intro HD.out hN5)
                  clear hN5 hown5 hgr5 hblk5 c5 f5 d0 d1 d2 d3 d0a d1a d2a d3a c7 c7a HB HD HA
                  go_wp2
                  go_roundg (xs.length - (q + 1))
                  case measure => have := HK.out; omega
                  case rel => exact ⟨q + 1, life, peer, o, i, heard, k, j, _, _, _, _, _, by omega, by omega, rfl, by go_num, rfl, by omega, by omega, A.out.1, A.out.2⟩
            · as_aux_lemma =>
              have c7 := (Star.l parts_sb HA.out).cells.2.2.2.2.2.2
              rcases HAT.out with ⟨hl0, rfl⟩ | ⟨m, hm, rfl⟩
              · have A := Lib.hid (And.intro (HL.out.next (by omega)) (Star.l parts_sb HA.out))
                clear c7
                rcases hw with rfl | rfl
                · clear HA
                  go_wp2
                  go_roundg (xs.length - (q + 1))
                  case measure => have := HK.out; omega
                  case rel => exact ⟨q + 1, life, peer, o, i, heard, k, j, _, _, _, _, _, by omega, by omega, rfl, by go_num, rfl, by omega, by omega, A.out.1, A.out.2⟩
                · clear HA
                  go_wp2
                  go_roundg (xs.length - (q + 1))
                  case measure => have := HK.out; omega
                  case rel => exact ⟨q + 1, life, peer, o, i, heard, k, j, _, _, _, _, _, by omega, by omega, rfl, by go_num, rfl, by omega, by omega, A.out.1, A.out.2⟩
              · have m0 : (0 : Int) ≤ (m : Int) := by omega
                have m1 : (m : Int) < (l.length : Int) := by omega
                have w0 : (what == 0) = false := by simp; omega
                have w3 : (what == 3) = false := by simp; omega
                have w1 : (1 : Int) ≤ what := by omega
                have w2 : what ≤ 2 := by omega
                have hway := (Star.l parts_sb HA.out).way
                obtain ⟨gw, off2, cap2, hv, hgw, hcw⟩ := hway.at m hm
                injection hv with e1 e2 e3
                subst e1 e3
                clear e2
                have hcap : l.length ≤ wvc := by
                  rcases hway.2 with ⟨h0, _⟩ | ⟨_, _, _, _, h0, _, h1, _⟩
                  · cases h0
                  · injection h0 with _ _ e3
                    omega
                have m2 : (m : Int) ≤ (wvc : Int) := by omega
                have m3 : (m : Int) + 1 ≤ (l.length : Int) := by omega
                have m4 : (l.length : Int) ≤ (wvc : Int) := by omega
                have m5 : (0 : Int) ≤ (m : Int) + 1 := by omega
                obtain ⟨t, ht⟩ : ∃ t, l[m] = t := ⟨_, rfl⟩
                rw [ht] at hcw
                have htm : t ∈ l := ht ▸ List.getElem_mem hm
                have HD := Lib.hid (And.intro (HL.out.dropOk (by omega) m) ((HL.out.next (by omega)).ok t htm))
                clear htm ht
                obtain ⟨tk, tl, td, tn⟩ := t
                have d0 := hcw 0 (by omega)
                have d1 := hcw 1 (by omega)
                have d2 := hcw 2 (by omega)
                have d3 := hcw 3 (by omega)
                simp only [TW.cells, List.getElem?_cons_zero, List.getElem?_cons_succ, Nat.add_zero] at d0 d1 d2 d3
                have HZ := Lib.hid (Star.mkR (parts_star parts_sb (parts_blk _ _)) (parts_blk wc.heap.size (.cells #[.int .i64 tk, .int .u64 tl, .int .u64 td, .int .u64 tn] 91 (0, 0))) HA.out (Blk.new wc _))
                clear hcw hway
                go_upto_region 31 with fail
                clear d0 d1 d2 d3 k0 c7
                generalize wc.alloc (.cells #[.int .i64 tk, .int .u64 tl, .int .u64 td, .int .u64 tn] 91) = wz at HZ ⊢
                generalize wc.heap.size = b23 at HZ ⊢
                have hsz := Star.l parts_sb (Star.l (parts_star parts_sb (parts_blk _ _)) HZ.out)
                have c7 := hsz.cells.2.2.2.2.2.2
                have c7a := keepc ((Ext.refl (fun _ => False) wz).alloc (.cells #[] 91)) c7
                have HWy := Lib.hid hsz.way
                have hgz : gw < wz.heap.size := OwnS.lt hsz.way gw rfl
                have hbz : b.w < wz.heap.size := cell_lt c7
                clear hsz
                have HZ2 := Lib.hid HZ.out
                clear HA c7a
                have c7a := keepc ((Ext.refl (fun _ => False) wz).alloc (.cells #[] 91)) c7
                have hE := own_empty wz 91 4
                have HE := Lib.hid hE
                clear hE
                have q5 : IntKind.i64.wrap ((m : Int) + 1) = (m : Int) + 1 := by rw [IntKind.wrap_i64]; omega
                have q6 : (((m : Int) + 1).toNat) = m + 1 := by omega
                by_cases hz : m + 1 < wvc
                · as_aux_lemma =>
                  have hz2 : ¬ wvc = m + 1 := by omega
                  go_region_law (first
                    | (refine step_append_ownS (by rfl) (.tmp 133) (.tmp 136) 89 89 (by rfl) 91 (.agg #[.int .i64 0, .int .u64 0, .int .u64 0, .int .u64 0]) 4 32 Try.underlying89 infoTold rfl _ _ (by rfl) (by rfl) 0 [] (by first | exact HE.out | exact HE.out.grows ((Ext.refl _ _).drew) | exact own_empty wz.drew _ _) m (tcells (l.take m)) (Tws.pre2 (OwnS.grows HWy.out (by first | exact (Ext.refl _ _).alloc _ | exact ((Ext.refl _ _).alloc _).drew | exact ((Ext.refl _ _).drew).alloc _)) m (by omega) _) (by unfold maxLen; omega) (by omega) ?_; intro v1 w5 hown5 hgr5 hblk5
                       have hown5b : OwnS w5 91 4 v1 m (tcells (l.take m)) := by simpa using hown5
                       clear hown5
                       have e15 : Ext (fun c => c = wz.heap.size) wz w5 := Ext.trans (by first | exact (Ext.refl _ _).alloc _ | exact ((Ext.refl _ _).alloc _).drew | exact ((Ext.refl _ _).drew).alloc _) (Ext.of_grown hgr5 (fun c hc => (Option.some.inj hc).symm))
                       have HW5 := Lib.hid (Tws.ext HWy.out e15 (fun c hc h => by simp only [Value.ownBlock, Option.some.injEq] at hc; omega))
                       have c75 := (e15.cell (p := ⟨b.w, 0, none⟩) hbz (fun h => by simp only at h; omega)).trans c7
                       clear e15
                       obtain ⟨va5, vc5, rfl⟩ := OwnS.form hown5b)
                    | (refine step_append_ownS (by rfl) (.tmp 137) (.tmp 141) 89 89 (by rfl) 91 (.agg #[.int .i64 0, .int .u64 0, .int .u64 0, .int .u64 0]) 4 32 Try.underlying89 infoTold rfl _ _ (by rfl) (by rfl) m (tcells (l.take m)) hown5b (l.length - (m + 1)) (tcells (l.drop (m + 1))) (Tws.suf HW5.out m hm (by intro h; (first | rfl | omega | (simp; done) | (simp; omega))) ⟨_, rfl⟩) (by unfold maxLen; omega) (by omega) ?_; intro v2 w6 hown6 hgr6 hblk6
                       obtain ⟨hN6, c6, f6⟩ := Star.setWay (parts_blk _ _) (parts_blk _ _) HZ2.out (by first | exact (Ext.refl _ _).alloc _ | exact ((Ext.refl _ _).alloc _).drew | exact ((Ext.refl _ _).drew).alloc _) (Nat.le_refl _) hgr5 hblk5 hgr6 hblk6 (l' := l.take m ++ l.drop (m + 1)) (by unfold Tws; rw [List.length_append, List.length_take, List.length_drop, tcells_append, Nat.min_eq_left (by omega)]; exact hown6)
                       obtain ⟨va6, vc6, rfl⟩ := OwnS.form hown6))
                  all_goals
                    as_aux_lemma =>
                      have A := Lib.hid hN6
                      clear hN6 hown5b hgr5 hblk5 hown6 hgr6 hblk6 c6 f6 HW5 c75 c7 c7a HZ HZ2 HE HWy
                      have hb7 := (Star.r (parts_blk _ _) (Star.l (parts_star parts_sb (parts_blk _ _)) A.out)).1
                      have hb8 := (Star.r (parts_blk _ _) A.out).1
                      have k0 := cell_of_heap hb7 0
                      simp only [List.getElem?_toArray, List.getElem?_cons_zero] at k0
                      obtain ⟨t0, t1, t2, t3⟩ := told_cells hb8
                      have HS7 := Lib.hid (Star.l parts_sb (Star.l (parts_star parts_sb (parts_blk _ _)) A.out))
                      clear hb7 hb8 A w0 w1 w2 w3
                      rcases hw with rfl | rfl
                      · go_wp2_with fail
                        refine (comes_any HS7.out HD.out.1 ⟨tk, tl, td, tn⟩ HD.out.2).mono ?_
                        rintro e w9 ⟨rfl, h9⟩
                        have A := Lib.hid (And.intro (HD.out.1.come ⟨tk, tl, td, tn⟩ HD.out.2) h9)
                        clear h9 k0 t0 t1 t2 t3 HS7 HD
                        go_wp2
                        go_roundg (xs.length - (q + 1))
                        case measure => have := HK.out; omega
                        case rel => exact ⟨q + 1, life, peer, o, i, _, k, j, _, _, _, _, _, by omega, by omega, rfl, by go_num, rfl, by omega, by omega, A.out.1, A.out.2⟩
                      · have A := Lib.hid (And.intro HD.out.1 HS7.out)
                        clear t0 t1 t2 t3 HS7 HD
                        go_wp2
                        go_roundg (xs.length - (q + 1))
                        case measure => have := HK.out; omega
                        case rel => exact ⟨q + 1, life, peer, o, i, heard, k, j, _, _, _, _, _, by omega, by omega, rfl, by go_num, rfl, by omega, by omega, A.out.1, A.out.2⟩
                · as_aux_lemma =>
                  have hz2 : (wvc = m + 1) = True := eq_true (by omega)
                  go_region_law (first
                    | (refine step_append_ownS (by rfl) (.tmp 133) (.tmp 136) 89 89 (by rfl) 91 (.agg #[.int .i64 0, .int .u64 0, .int .u64 0, .int .u64 0]) 4 32 Try.underlying89 infoTold rfl _ _ (by rfl) (by rfl) 0 [] (by first | exact HE.out | exact HE.out.grows ((Ext.refl _ _).drew) | exact own_empty wz.drew _ _) m (tcells (l.take m)) (Tws.pre2 (OwnS.grows HWy.out (by first | exact (Ext.refl _ _).alloc _ | exact ((Ext.refl _ _).alloc _).drew | exact ((Ext.refl _ _).drew).alloc _)) m (by omega) _) (by unfold maxLen; omega) (by omega) ?_; intro v1 w5 hown5 hgr5 hblk5
                       have hown5b : OwnS w5 91 4 v1 m (tcells (l.take m)) := by simpa using hown5
                       clear hown5
                       have e15 : Ext (fun c => c = wz.heap.size) wz w5 := Ext.trans (by first | exact (Ext.refl _ _).alloc _ | exact ((Ext.refl _ _).alloc _).drew | exact ((Ext.refl _ _).drew).alloc _) (Ext.of_grown hgr5 (fun c hc => (Option.some.inj hc).symm))
                       have HW5 := Lib.hid (Tws.ext HWy.out e15 (fun c hc h => by simp only [Value.ownBlock, Option.some.injEq] at hc; omega))
                       have c75 := (e15.cell (p := ⟨b.w, 0, none⟩) hbz (fun h => by simp only at h; omega)).trans c7
                       clear e15
                       obtain ⟨va5, vc5, rfl⟩ := OwnS.form hown5b)
                    | (refine step_append_ownS (by rfl) (.tmp 137) (.tmp 141) 89 89 (by rfl) 91 (.agg #[.int .i64 0, .int .u64 0, .int .u64 0, .int .u64 0]) 4 32 Try.underlying89 infoTold rfl _ _ (by rfl) (by rfl) m (tcells (l.take m)) hown5b (l.length - (m + 1)) (tcells (l.drop (m + 1))) (Tws.suf HW5.out m hm (by intro h; (first | rfl | omega | (simp; done) | (simp; omega))) ⟨_, rfl⟩) (by unfold maxLen; omega) (by omega) ?_; intro v2 w6 hown6 hgr6 hblk6
                       obtain ⟨hN6, c6, f6⟩ := Star.setWay (parts_blk _ _) (parts_blk _ _) HZ2.out (by first | exact (Ext.refl _ _).alloc _ | exact ((Ext.refl _ _).alloc _).drew | exact ((Ext.refl _ _).drew).alloc _) (Nat.le_refl _) hgr5 hblk5 hgr6 hblk6 (l' := l.take m ++ l.drop (m + 1)) (by unfold Tws; rw [List.length_append, List.length_take, List.length_drop, tcells_append, Nat.min_eq_left (by omega)]; exact hown6)
                       obtain ⟨va6, vc6, rfl⟩ := OwnS.form hown6))
                  all_goals
                    as_aux_lemma =>
                      have A := Lib.hid hN6
                      clear hN6 hown5b hgr5 hblk5 hown6 hgr6 hblk6 c6 f6 HW5 c75 c7 c7a HZ HZ2 HE HWy
                      have hb7 := (Star.r (parts_blk _ _) (Star.l (parts_star parts_sb (parts_blk _ _)) A.out)).1
                      have hb8 := (Star.r (parts_blk _ _) A.out).1
                      have k0 := cell_of_heap hb7 0
                      simp only [List.getElem?_toArray, List.getElem?_cons_zero] at k0
                      obtain ⟨t0, t1, t2, t3⟩ := told_cells hb8
                      have HS7 := Lib.hid (Star.l parts_sb (Star.l (parts_star parts_sb (parts_blk _ _)) A.out))
                      clear hb7 hb8 A w0 w1 w2 w3
                      rcases hw with rfl | rfl
                      · go_wp2_with fail
                        refine (comes_any HS7.out HD.out.1 ⟨tk, tl, td, tn⟩ HD.out.2).mono ?_
                        rintro e w9 ⟨rfl, h9⟩
                        have A := Lib.hid (And.intro (HD.out.1.come ⟨tk, tl, td, tn⟩ HD.out.2) h9)
                        clear h9 k0 t0 t1 t2 t3 HS7 HD
                        go_wp2
                        go_roundg (xs.length - (q + 1))
                        case measure => have := HK.out; omega
                        case rel => exact ⟨q + 1, life, peer, o, i, _, k, j, _, _, _, _, _, by omega, by omega, rfl, by go_num, rfl, by omega, by omega, A.out.1, A.out.2⟩
                      · have A := Lib.hid (And.intro HD.out.1 HS7.out)
                        clear t0 t1 t2 t3 HS7 HD
                        go_wp2
                        go_roundg (xs.length - (q + 1))
                        case measure => have := HK.out; omega
                        case rel => exact ⟨q + 1, life, peer, o, i, heard, k, j, _, _, _, _, _, by omega, by omega, rfl, by go_num, rfl, by omega, by omega, A.out.1, A.out.2⟩
            · as_aux_lemma =>
              have c4 := (Star.l parts_sb HA.out).cells.2.2.2.1
              go_wp2_with fail
              refine ((Star.l parts_sb HA.out).callI (Q := fun e _ => ∃ v, e = .returned v) (fun z h => at_popT h)).mono ?_
              rintro e w2 ⟨⟨u, rfl⟩, h2⟩
              have hLn := HL.out.next (by omega)
              have A := Lib.hid (And.intro (hLn.inn (y' := { y with fs := y.fs.tail }) rfl hLn.ypl hLn.ys hLn.yg) h2)
              clear h2 k0 c4 HA hLn
              go_wp2
              go_roundg (xs.length - (q + 1))
              case measure => have := HK.out; omega
              case rel => exact ⟨q + 1, life, peer, o, i, heard, k, j, _, _, _, _, _, by omega, by omega, rfl, by go_num, rfl, by omega, by omega, A.out.1, A.out.2⟩
            · as_aux_lemma =>
              by_cases hy : y.peer = 0
              · go_wp2_with fail
                refine (lb_zero (Star.l parts_sb HA.out) hy).mono ?_
                rintro e w2 ⟨rfl, rfl⟩
                have A := Lib.hid (And.intro (HL.out.next (by omega)) (Star.l parts_sb HA.out))
                clear k0 HA
                go_wp2
                go_roundg (xs.length - (q + 1))
                case measure => have := HK.out; omega
                case rel => exact ⟨q + 1, life, peer, o, i, heard, k, j, _, _, _, _, _, by omega, by omega, rfl, by go_num, rfl, by omega, by omega, A.out.1, A.out.2⟩
              · obtain ⟨F, hI⟩ := (Star.l parts_sb HA.out).inn
                have hful := hI.full
                obtain ⟨fr, hfr⟩ : ∃ fr, y.fs.length + fr = y.places := ⟨_, Nat.add_sub_cancel' hful.1⟩
                have HX := Lib.hid hfr
                clear hI hful hfr
                go_wp2_with fail
                refine (lb_grant (Star.l parts_sb HA.out) HL.out (by omega) (by omega) fr HX.out hy _ rfl).mono ?_
                rintro e w2 ⟨rfl, vw2, h2⟩
                have A := Lib.hid (And.intro (HL.out.grantOk (by omega) fr HX.out hy _ rfl).1 h2)
                clear h2 k0 HA
                go_wp2
                go_roundg (xs.length - (q + 1))
                case measure => have := HK.out; omega
                case rel => exact ⟨q + 1, life, peer, o, i, heard, k, (j+1), _, _, _, _, _, by omega, by omega, rfl, by go_num, rfl, by omega, by omega, A.out.1, A.out.2⟩
            · as_aux_lemma =>
              have c7 := (Star.l parts_sb HA.out).cells.2.2.2.2.2.2
              have c3 := (Star.l parts_sb HA.out).cells.2.2.1
              have ga : Grows wc (wc.alloc (.cells #[.int .i64 1, .int .u64 life, .int .u64 0, .int .u64 x.used] 91)) := (Ext.refl _ _).alloc _
              have c7a := keepc ga c7
              have c3a := keepc ga c3
              have HB := Lib.hid (Star.l parts_sb HA.out)
              obtain ⟨F, hO⟩ := HB.out.out
              have HO := Lib.hid hO
              clear ga hO
              go_upto_region 39 with fail
              clear k0
              go_region_law (first
                | (go_simp; go_at_call 21; refine (out_sent (HO.out.more (by first | exact Ext.refl _ _ | exact (Ext.refl _ _).drew | exact (Ext.refl _ _).alloc _ | exact ((Ext.refl _ _).alloc _).drew | exact ((Ext.refl _ _).drew).alloc _))).mono ?_; rintro e w9 ⟨rfl, rfl⟩)
                | (refine step_append_ownS (by rfl) (.tmp 168) (.tmp 173) 89 89 (by rfl) 91 (.agg #[.int .i64 0, .int .u64 0, .int .u64 0, .int .u64 0]) 4 32 Try.underlying89 infoTold rfl _ _ (by rfl) (by rfl) l.length (tcells l) (OwnS.grows HB.out.way (by first | exact (Ext.refl _ _).alloc _ | exact ((Ext.refl _ _).alloc _).drew | exact ((Ext.refl _ _).drew).alloc _)) 1 (tcells [(⟨1, life, 0, x.used⟩ : TW)]) (src_told (⟨1, life, 0, x.used⟩ : TW) (heap_alloc_new _ _)) (by unfold maxLen; omega) (by omega) ?_; intro v' w5 hown5 hgr5 hblk5; obtain ⟨hN5, c5, f5⟩ := HB.out.push (⟨1, life, 0, x.used⟩ : TW) (by first | exact (Ext.refl _ _).alloc _ | exact ((Ext.refl _ _).alloc _).drew | exact ((Ext.refl _ _).drew).alloc _) hown5 hgr5 hblk5; obtain ⟨qa, qc, rfl⟩ := OwnS.form hown5))
              all_goals
                have A := Lib.hid (And.intro (HL.out.probeOk (by omega)) hN5)
                clear hN5 hown5 hgr5 hblk5 c5 f5 c7 c7a c3 c3a HB HO HA
                go_wp2
                go_roundg (xs.length - (q + 1))
                case measure => have := HK.out; omega
                case rel => exact ⟨q + 1, life, peer, o, i, heard, k, j, _, _, _, _, _, by omega, by omega, rfl, by go_num, rfl, by omega, by omega, A.out.1, A.out.2⟩
            · as_aux_lemma =>
              have hlf := HL.out.lf
              have hll : (life : Int) + 1 = ((life + 1 : Nat) : Int) := by omega
              obtain ⟨lf2, hlf2⟩ : ∃ lf2, life + 1 = lf2 := ⟨_, rfl⟩
              rw [hlf2] at hll
              go_wp2_with fail
              refine (out_new lf2 1 wc (by omega) (by unfold Most; omega) (by omega) (by omega)).mono ?_
              rintro e w2 ⟨o2, rfl, h2⟩
              obtain ⟨hN, c3, f3⟩ := (Star.l parts_sb HA.out).newO h2
              have HN := Lib.hid hN
              have c6 := HN.out.cells.2.2.2.2.2.1
              have f6 := HN.out.free.2.2.2.1
              have hN2 := HN.out.setHeard 0
              have hr := HL.out.rebornOk (by omega)
              rw [hlf2] at hr
              have A := Lib.hid (And.intro hr hN2)
              clear h2 hN hN2 hr HN HA k0 hlf2
              go_wp2
              go_roundg (xs.length - (q + 1))
              case measure => have := HK.out; omega
              case rel => exact ⟨q + 1, lf2, peer, o2, i, 0, 0, j, _, _, _, _, _, by omega, by omega, rfl, by go_num, rfl, by omega, by omega, A.out.1, A.out.2⟩
            · as_aux_lemma =>
              have c2 := (Star.l parts_sb HA.out).cells.2.1
              have f2 := (Star.l parts_sb HA.out).free.1
              have hpe := HL.out.pe
              have hpp : (peer : Int) + 1 = ((peer + 1 : Nat) : Int) := by omega
              obtain ⟨pe2, hpe2⟩ : ∃ pe2, peer + 1 = pe2 := ⟨_, rfl⟩
              rw [hpe2] at hpp
              have HN := Lib.hid ((Star.l parts_sb HA.out).setPeer pe2)
              have c1 := HN.out.cells.1
              go_wp2_with fail
              refine (in_new n _ n1 n2).mono ?_
              rintro e w2 ⟨i2, rfl, h2⟩
              obtain ⟨hN, c4, f4⟩ := HN.out.newI h2
              have hr := HL.out.peerOk (by omega)
              rw [hpe2] at hr
              have A := Lib.hid (And.intro hr hN)
              clear h2 hN hr HN HA k0 hpe2 c1 c2 f2
              go_wp2
              go_roundg (xs.length - (q + 1))
              case measure => have := HK.out; omega
              case rel => exact ⟨q + 1, life, pe2, o, i2, heard, k, j, _, _, _, _, _, by omega, by omega, rfl, by go_num, rfl, by omega, by omega, A.out.1, A.out.2⟩
            · as_aux_lemma =>
              have A := Lib.hid (And.intro (HL.out.next (by omega)) (Star.l parts_sb HA.out))
              obtain ⟨t0, t3, t12, t4, t5, t6, t7, t8⟩ := hw
              rcases t12 with t1 | ⟨t1, t2⟩
              · clear HA
                go_wp2
                go_roundg (xs.length - (q + 1))
                case measure => have := HK.out; omega
                case rel => exact ⟨q + 1, life, peer, o, i, heard, k, j, _, _, _, _, _, by omega, by omega, rfl, by go_num, rfl, by omega, by omega, A.out.1, A.out.2⟩
              · clear HA
                go_wp2
                go_roundg (xs.length - (q + 1))
                case measure => have := HK.out; omega
                case rel => exact ⟨q + 1, life, peer, o, i, heard, k, j, _, _, _, _, _, by omega, by omega, rfl, by go_num, rfl, by omega, by omega, A.out.1, A.out.2⟩
        · obtain rfl : q = 200 := by omega
          have A := Lib.hid (And.intro HL.out (HS.out.more ((Ext.refl (fun _ => False) wr).alloc (.cells #[.int .i64 what, .int .u8 (nn : Nat)] 95))))
          clear HS
          go_wp2
          go_meet
          exact ⟨200, life, peer, o, i, heard, k, j, _, _, _, _, _, by omega, rfl, by omega, by omega, A.out.1, A.out.2⟩
      · have j1 : ¬ (q : Int) < (xs.length : Int) := by omega
        go_wp2
        go_meet
        exact ⟨q, life, peer, o, i, heard, k, j, _, _, _, _, _, hq2, rfl, hk, hj, HL.out, HS.out⟩
  case rest =>
    obtain ⟨q, life, peer, o, i, heard, k, j, vw, x, y, g, l, hq, rfl, hk, hj, hL, hS⟩ := hcut
    have HL := Lib.hid hL
    have HS := Lib.hid hS
    have hlf := hL.lf
    have htok : TWok life peer q g ⟨1, life, 0, x.used⟩ := ⟨⟨hlf.1, Nat.le_refl _⟩, .inl ⟨.inr rfl, hL.xu⟩⟩
    have HT := Lib.hid htok
    have c3 := hS.cells.2.2.1
    obtain ⟨F, hO⟩ := hS.out
    have HO := Lib.hid hO
    clear hL hS htok hO B11
    go_wp2_with fail
    refine (out_sent HO.out).mono ?_
    rintro e w2 ⟨rfl, rfl⟩
    clear c3 HO
    go_wp2_with fail
    refine (comes_any HS.out HL.out ⟨1, life, 0, x.used⟩ HT.out).mono ?_
    rintro e w2 ⟨rfl, h2⟩
    have hL2 := HL.out.come ⟨1, life, 0, x.used⟩ HT.out
    have hX : comeX x ⟨1, life, 0, x.used⟩ = x := rfl
    have hY : comeY y ⟨1, life, 0, x.used⟩ = y.saw life x.used := rfl
    have hH : comeH x heard ⟨1, life, 0, x.used⟩ = heard := rfl
    rw [hX, hY, hH] at h2 hL2
    have hsE : sawE y.peer life x.used = 0 := by
      unfold sawE
      have := HL.out.ypl
      have := HL.out.k2
      have := HL.out.xu
      rw [if_pos (by unfold Most; omega), if_neg (by omega)]
    have hyp : (y.saw life x.used).peer = life := by show sawP _ _ _ = _; unfold sawP; rw [hsE, if_pos rfl]
    have hys : x.used ≤ (y.saw life x.used).seen := by show _ ≤ sawS _ _ _ _; unfold sawS; rw [hsE, if_pos rfl]; split <;> omega
    obtain ⟨y1, hy1⟩ : ∃ y1, y.saw life x.used = y1 := ⟨_, rfl⟩
    rw [hy1] at h2 hL2 hyp hys
    clear hX hY hH hsE hy1
    have H2 := Lib.hid (And.intro h2 (And.intro hL2 (And.intro hyp hys)))
    obtain ⟨F2, hI⟩ := h2.inn
    have hful := hI.full
    obtain ⟨fr, hfr⟩ : ∃ fr, y1.fs.length + fr = y1.places := ⟨_, Nat.add_sub_cancel' hful.1⟩
    obtain ⟨G, hG⟩ : ∃ G, grantG y1.gr y1.seen fr = G := ⟨_, rfl⟩
    have HX := Lib.hid (And.intro hfr hG)
    clear h2 hL2 hyp hys hI hful hfr hG HS HT
    go_wp2_with fail
    refine (lb_grant H2.out.1 H2.out.2.1 (by omega) (by omega) fr HX.out.1 (by rw [H2.out.2.2.1]; omega) G HX.out.2).mono ?_
    rintro e w3 ⟨rfl, vw3, h3⟩
    have hg3 := H2.out.2.1.grantOk (by omega) fr HX.out.1 (by rw [H2.out.2.2.1]; omega) G HX.out.2
    obtain ⟨g3, hg3d⟩ : ∃ g3, updG g y1.peer peer (max (g y1.peer peer) G) = g3 := ⟨_, rfl⟩
    rw [hg3d] at h3 hg3
    rw [H2.out.2.2.1] at h3 hg3
    have htl : ((l ++ [(⟨2, life, peer, G⟩ : TW)]).length : Nat) = l.length + 1 := by rw [List.length_append]; rfl
    have hway := h3.way
    obtain ⟨gw, off2, cap2, hv, hgw, hcw⟩ := hway.at l.length (by rw [htl]; omega)
    rw [htl] at hv
    subst hv
    have hlast : (l ++ [(⟨2, life, peer, G⟩ : TW)])[l.length]'(by rw [htl]; omega) = ⟨2, life, peer, G⟩ := by simp
    rw [hlast] at hcw
    have d0 := hcw 0 (by omega)
    have d1 := hcw 1 (by omega)
    have d2 := hcw 2 (by omega)
    have d3 := hcw 3 (by omega)
    simp only [TW.cells, List.getElem?_cons_zero, List.getElem?_cons_succ, Nat.add_zero] at d0 d1 d2 d3
    have c7 := h3.cells.2.2.2.2.2.2
    have hll : l.length ≤ 201 := by have := HL.out.ll; omega
    have H3 := Lib.hid (And.intro h3 hg3)
    have hsub : ((l.length + 1 : Nat) : Int) - 1 = (l.length : Int) := by omega
    have z0 : (0 : Int) ≤ (l.length : Int) := by omega
    have z1 : (l.length : Int) < ((l.length + 1 : Nat) : Int) := by omega
    clear h3 hg3 hcw hway hlast hg3d hgw
    go_wp2_with fail
    have tok := H3.out.2.1.ok ⟨2, life, peer, G⟩ (by simp)
    refine (comes_any H3.out.1 H3.out.2.1 ⟨2, life, peer, G⟩ tok).mono ?_
    rintro e w4 ⟨rfl, h4⟩
    have hX : comeX x ⟨2, life, peer, G⟩ = x.credit peer life G := rfl
    rw [hX] at h4
    have hE : takeE x.own x.peer peer life G = 0 := by
      unfold takeE
      have a1 := HL.out.own
      have a2 := HL.out.xp
      have a3 := HL.out.hp
      have a4 := HL.out.pe
      have a5 := H3.out.2.2.1
      rw [if_pos (by unfold Most; omega), if_neg (by omega)]
    have hgr : G ≤ (x.credit peer life G).gr := by
      show _ ≤ takeG _ _ _ _ _ _
      unfold takeG
      rw [hE, if_pos rfl]
      split <;> omega
    have hus : (x.credit peer life G).used = x.used := rfl
    have htd : (x.credit peer life G).told.length = 1 := HL.out.tl
    have hsn : (x.credit peer life G).sent ⟨0, 0⟩ = (x.used : Int) := HL.out.xs
    obtain ⟨x4, hx4⟩ : ∃ x4, x.credit peer life G = x4 := ⟨_, rfl⟩
    obtain ⟨he4, hhe4⟩ : ∃ he4, comeH x heard ⟨2, life, peer, G⟩ = he4 := ⟨_, rfl⟩
    obtain ⟨y4, hy4⟩ : ∃ y4, comeY { y1 with peer := life, gr := G } ⟨2, life, peer, G⟩ = y4 := ⟨_, rfl⟩
    have hyf : y4.fs = y1.fs := by rw [← hy4]; rfl
    have h4' : SB b n peer o i gm he4 (.slice (some ⟨gw, off2, none⟩) (l.length + 1) cap2) k x4 y4 (j + 1) g3 (l ++ [(⟨2, life, peer, G⟩ : TW)]) (Frm.of w) w4 := by
      rw [← hx4, ← hhe4, ← hy4]
      exact h4
    rw [hx4] at hgr hus htd hsn
    have hye : y1.places = n := H2.out.2.1.yp
    have hbig : x4.used + fr ≤ x4.gr := by
      have a1 := H2.out.2.2.2
      have a2 := H3.out.2.2.2
      omega
    have hxu : x.used ≤ 201 := by have := HL.out.xu; omega
    have H4 := Lib.hid (And.intro h4' (And.intro hbig (And.intro hus (And.intro htd hsn))))
    obtain ⟨F4, hI4⟩ := h4'.inn
    obtain ⟨m, hm⟩ : ∃ m, y4.fs.length = m := ⟨_, rfl⟩
    have hnm : (n : Int) - (m : Int) = (fr : Int) := by have a1 := HX.out.1; rw [← hyf, hm] at a1; omega
    have hfr64 : fr ≤ 64 := by have a1 := HX.out.1; omega
    have hm64 : m ≤ 64 := by have a1 := HX.out.1; rw [← hyf, hm] at a1; omega
    have c1 := h4'.cells.1
    have c4 := h4'.cells.2.2.2.1
    have HI4 := Lib.hid (And.intro hI4 hm)
    clear tok h4 hX hE hgr hus htd hsn hx4 hhe4 hy4 hyf h4' hye hbig hI4 hm d0 d1 d2 d3 c7 hsub z0 z1 htl H3 H2
    go_upto_region 53 with fail
    go_region_held3 (fun w' => w'.cell? ⟨b.n, 0, none⟩ = some (.int .i64 n) ∧ w'.cell? ⟨b.i, 0, none⟩ = some (.pointer (some ⟨i, 0, none⟩)))
      (first
        | go_keep)
      (first
        | (go_at_call 23; refine (at_len (HI4.out.1.more (by first | exact Ext.refl _ _ | exact (Ext.refl _ _).drew)) m HI4.out.2).mono ?_; rintro e w5 ⟨rfl, rfl⟩))
    all_goals
      have H5 := Lib.hid (And.intro (H4.out.1.more (Ext.drewN_r 1)) H4.out.2)
      clear c1 c4 HI4
      go_wp2_with fail
      go_loopg [221] fr (fun kr c wr => ∃ (r : Nat) (x' : OutV), r ≤ fr ∧ kr = fr - r ∧ c = .int .i64 (r : Nat) ∧ x'.used = x.used + r ∧ x'.gr = x4.gr ∧ x'.told.length = 1 ∧ x'.sent ⟨0, 0⟩ = (x'.used : Int) ∧ SB b n peer o i gm he4 (.slice (some ⟨gw, off2, none⟩) (l.length + 1) cap2) (k + r) x' y4 (j + 1) g3 (l ++ [(⟨2, life, peer, G⟩ : TW)]) (Frm.of w) wr)
      case atStart => exact ⟨0, x4, by omega, by omega, rfl, H5.out.2.2.1, rfl, H5.out.2.2.2.1, by rw [H5.out.2.2.1]; exact H5.out.2.2.2.2, H5.out.1⟩
      case round =>
        obtain ⟨r, x', hr, hkr, rfl, hu, hgr, htd, hsn, hS⟩ := hrel
        have HKR := Lib.hid hkr
        have HS := Lib.hid hS
        clear hkr hS
        by_cases hrf : r < fr
        · have r1 : (r : Int) < (fr : Int) := by omega
          have c3 := HS.out.cells.2.2.1
          have hlt : x'.used < x'.gr := by have := H5.out.2.1; have := H5.out.2.2.1; omega
          have hxb : x'.used ≤ 300 := by omega
          have htl : ((x'.told.length : Nat) : Int) = 1 := by omega
          have HU := Lib.hid (And.intro hu (And.intro hgr (And.intro htd hsn)))
          clear hu hgr htd hsn
          go_wp2_with fail
          refine (HS.out.callO (k' := k + r + 1) (x' := x'.use ⟨0, 0⟩) (Q := fun e _ => e = .returned (.tuple #[.int .u64 ((x'.used + 1 : Nat) : Int), .int .u64 (x'.used : Nat), .int .i64 0])) (fun z h => use_T h ⟨0, 0⟩ (by decide) (by rw [htl]; decide) (by decide) hlt (by unfold maxLen; omega) x'.used HU.out.2.2.2 (by omega) 0 0 _ _ rfl rfl rfl rfl)).mono ?_
          rintro e w6 ⟨rfl, h6⟩
          have A := Lib.hid h6
          clear h6 c3 hlt htl
          go_wp2
          go_roundg (fr - (r + 1))
          case measure => have := HKR.out; omega
          case rel => exact ⟨r + 1, x'.use ⟨0, 0⟩, by omega, rfl, by go_num, by show x'.used + 1 = _; have := HU.out.1; omega, HU.out.2.1, HU.out.2.2.1, by
            show (if (⟨0, 0⟩ : PlaceV) = ⟨0, 0⟩ then x'.sent ⟨0, 0⟩ + 1 else x'.sent ⟨0, 0⟩) = ((x'.used + 1 : Nat) : Int)
            rw [if_pos rfl, HU.out.2.2.2]
            rfl, A.out⟩
        · have r1 : ¬ (r : Int) < (fr : Int) := by omega
          have HG := Lib.hid (show Grows w wr from parts_sb.gw HS.out)
          go_wp2
          go_ret
          exact ⟨rfl, Ext.to_below HG.out⟩
namespace LinkBoundsShell
theorem own : ownKnob Try.prog.godebug = none := by kernel_rfl
theorem laidOut : laidOutB Try.prog = true := by kernel_rfl
set_option maxRecDepth 100000 in
theorem lifted (os : Os) (started : os.Started) (H : Type) (enc : TypeId × Value → H) :
    ReturnsInHanded {} Try.checked os 7 .any (Rows.linkBoundsSpec.pre6 enc Try.prog Try.f7 Rows.linkBoundsRow.domain false) (Rows.linkBoundsSpec.post enc Try.prog Try.f7 false true false false) := by
  refine returnsInHanded_of_change_sized (C := Try.checked) own started (by kernel_rfl) Try.func7
    (ChangeSpec.witness6 (enc := enc) (C := Try.checked) false ⟨#[], #[.int .u8 0, .slice none 0 0], []⟩ 8 (by kernel_rfl) (by kernel_rfl) (by kernel_rfl) (by kernel_rfl)) ?_
  intro W base args ds gs before hval0 hW hcnd hsz0 _
  have hval : ∀ (j : Nat) t v, Try.f7.params[j]? = some t → args[j]? = some v → Value.okWide Try.prog W .any base t v := hval0
  have hsz : (DataW.weightsEach Try.prog (Try.f7.params.toList ++ Rows.linkBoundsSpec.plain.varTypes Try.prog) (ds ++ gs)).all (· ≤ reachBytes) = true := hsz0
  have hW' := hW
  obtain ⟨p, q, hA0, hV, rfl, hfz, hnd⟩ := hW
  have hA : DataW.TrodAll enc Try.prog W 0 (fun _ => true) true Try.f7.params.toList args.toList ds p := hA0
  rw [Try.params7] at hA hval hsz
  obtain ⟨v0, vs0, d0, ds0, p0, q0, hargs, rfl, rfl, h0, r0⟩ := trodAll_cons hA
  obtain ⟨v1, vs1, d1, ds1, p1, q1, rfl, rfl, rfl, h1, r1⟩ := trodAll_cons r0
  obtain ⟨rfl, rfl, rfl⟩ := trodAll_nil r1
  obtain rfl : args = #[v0, v1] := by cases args; simp_all
  obtain ⟨rfl, rfl⟩ := trodVars_none hV
  have k0 := h0
  have lt0 : ∀ x ∈ p0, x.block < W.heap.size := by obtain ⟨m, hm⟩ := k0; exact DataW.trod_lt m _ _ _ hm
  have k1 := h1
  have lt1 : ∀ x ∈ p1, x.block < W.heap.size := by obtain ⟨m, hm⟩ := k1; exact DataW.trod_lt m _ _ _ hm
  obtain ⟨a0, rfl, rfl, rfl, w0⟩ := open_int Try.underlying5 (hval 0 5 v0 rfl rfl) h0
  obtain ⟨a1, w1⟩ := open_stepsB (hval 1 87 v1 rfl rfl) h1 hsz (j := 1) rfl rfl
  clear hA0 hval0 hsz0
  refine (LinkBounds_walk a0 v1 a1 W w0 w1).mono fun e W' ⟨he, bel⟩ => ?_
  subst he
  exact ⟨_, rfl, _, _, _, [], _, [], hW', trodAll_mk1 (shut_bool Try.underlying4 _), (trodAll_cons_mk (Below.trod laidOut (by kernel_rfl) (of_decide_eq_true (by kernel_rfl)) k0 bel lt0) (trodAll_cons_mk (Below.trod laidOut (by kernel_rfl) (of_decide_eq_true (by kernel_rfl)) k1 bel lt1) trodAll_mk0)), rfl, bel.frame _, fun h => by cases h⟩
theorem over : Rows.linkBoundsRow.holds Try.pinned (OpenSpec.ofChange Rows.linkBoundsSpec) :=
  OpenClaim.holds_of_wide 7 Try.f7 rfl rfl rfl rfl rfl rfl rfl ⟨rfl, rfl, rfl, rfl, rfl⟩ rfl rfl rfl rfl rfl (by kernel_rfl) Try.func7 (by kernel_rfl)
    (of_decide_eq_true (by kernel_rfl)) (by unfold Func.isWrapper; first | (rw [if_pos (by decide +kernel)]; kernel_rfl) | (rw [if_neg (by decide +kernel)]; exact ⟨rfl, rfl⟩))
    (fun os started H enc _ => lifted os started H enc)
end LinkBoundsShell
theorem LinkBounds_holds : Rows.LinkBoundsSaid := LinkBoundsShell.over
#print axioms LinkBounds_holds
end Go.Proofs.Ytekdggdnkmkldaa
