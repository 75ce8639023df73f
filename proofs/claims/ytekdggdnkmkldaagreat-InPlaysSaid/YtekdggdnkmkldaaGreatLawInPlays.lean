/- InPlays: rows of calls of an In are answered as the document says; at any number of places, any calls; no condition. -/
import Derived.Test.YtekdggdnkmkldaaGreatLinkR
import Derived.Test.YtekdggdnkmkldaaGreatOpen
import Derived.Deep.DeepCutAuto
import Derived.Deep.RegionHeld3
namespace Go.Proofs.YtekdggdnkmkldaaGreat
set_option linter.unusedVariables false
set_option linter.unusedSimpArgs false
set_option maxRecDepth 1500
open Go.ChangeShapes Go.WideShapes Go.ChangeAt Go.RowKit

/-- A statement at which the walk is to stand still. -/
def HeldI (p : Prop) : Prop := p
theorem held_i {n : Nat} {P : Program} {ops : Array Oper} {b : Bool} {d rest : Code} {Q : Exit → Act → World → Prop} {a : Act} {w : World} (h : HeldI ((Code.seq (Code.seq (Code.region n ops b) d) rest).wp P Q a w)) :
    (Code.seq (Code.seq (Code.region n ops b) d) rest).wp P Q a w := h
theorem Bytes.form {w : World} {u : Value} {l : List Int} (h : Bytes w u l) : ∃ a cap, u = .slice a l.length cap := by
  rcases h.cases with ⟨a, cap, rfl, h0⟩ | ⟨b, off, cap, rfl, _⟩
  · exact ⟨a, cap, by rw [h0]; rfl⟩
  · exact ⟨_, cap, rfl⟩
theorem act_cells {w : World} {b : Nat} {aw af awd : Int} {al att acn an : Nat} {u1 u2 u3 : Value} {ty : TypeId} (h : w.heap[b]? = some (.cells #[.int .i64 aw, .int .i64 af, .int .i64 awd, .int .u64 al, .int .u64 att, .int .u64 acn, .int .u64 an, u1, u2, u3] ty (0, 0))) :
    w.cell? ⟨b, 3, none⟩ = some (.int .u64 al) ∧ w.cell? ⟨b, 6, none⟩ = some (.int .u64 an) ∧ w.cell? ⟨b, 9, none⟩ = some u3 := by
  refine ⟨?_, ?_, ?_⟩ <;> (rw [cell_of_heap h]; rfl)
theorem Star.dropLR {A B C : Frm → World → Prop} {z : Frm} {w : World} (pa : Parts A) (h : Star (Star A C) B z w) : Star A B z w := by
  obtain ⟨F, G, h1, h2⟩ := h
  exact ⟨F, G, Star.l pa h1, h2⟩
theorem dec_self {α : Type} [DecidableEq α] (a : α) : decide (a = a) = true := by simp

set_option maxHeartbeats 16000000 in
theorem InPlays_walk (places : Int) (v : Value) (xs : List ActL) (w : World) (h0 : (Lit.int .i64 places).wf = true) (h1 : ActLs w v xs) :
    Calls Tryz.prog 3 #[.int .i64 places, v] w fun e w' => e = .returned (.bool true) ∧ Below w.heap.size w w' := by
  obtain ⟨va, vc, rfl⟩ := h1.form
  have AC := Lib.hid h1
  have hxl := h1.2
  clear h0 h1
  by_cases hp : places < 1 ∨ 64 < places
  · have HP := Lib.hid hp
    clear hp
    go_enter Tryz.func3, Tryz.ntmps3
    go_wp2_with fail
    refine (awake22 _).mono ?_
    rintro e w1 ⟨rfl, hg1⟩
    have HG := Lib.hid hg1
    clear hg1
    go_wp2_with fail
    refine (in_new_no places _ HP.out).mono ?_
    rintro e w2 ⟨rfl, rfl⟩
    go_wp2_with fail
    refine (rin_new_no places _ HP.out).mono ?_
    rintro e w2 ⟨rfl, rfl⟩
    go_wp2
    go_ret
    exact ⟨rfl, Ext.to_below HG.out⟩
  · obtain ⟨p, rfl⟩ := Int.eq_ofNat_of_zero_le (show 0 ≤ places by omega)
    have p1 : 1 ≤ p := by omega
    have p2 : p ≤ 64 := by omega
    clear hp
    go_enter Tryz.func3, Tryz.ntmps3
    go_wp2_with fail
    refine (awake22 _).mono ?_
    rintro e w1 ⟨rfl, hg1⟩
    have HG := Lib.hid hg1
    clear hg1
    go_wp2_with fail
    refine (in_new p w1 p1 p2).mono ?_
    rintro e w2 ⟨i, rfl, hi⟩
    have HI := Lib.hid ((parts_ino i _).lift (z := Frm.of w) (w := w1) (F := fun _ => False) hi (fun _ h => h.elim) HG.out)
    clear hi HG
    go_wp2_with fail
    refine (rin_new p w2 p1 p2).mono ?_
    rintro e w3 ⟨j, q, r, rfl, hr⟩
    have HS := Lib.hid (Star.mkR (parts_ino i _) (parts_rino j q r _) HI.out hr)
    clear hr HI
    go_wp2
    go_loopg [45] xs.length (fun k c wr => ∃ (m : Nat) (x : InV), m ≤ xs.length ∧ m ≤ 100 ∧ k = xs.length - m ∧ c = .int .i64 (m : Nat) ∧ Star (InO i x) (RInO j q r x) (Frm.of w) wr)
    case atStart => exact ⟨0, _, by omega, by omega, by omega, rfl, HS.out⟩
    case round =>
      obtain ⟨m, x, hm, hm1, hk, rfl, hS⟩ := hrel
      have HK := Lib.hid hk
      have HI := Lib.hid hS
      have HW := Lib.hid (show Grows w wr from (parts_ino i x).gw (Star.l (parts_ino i x) hS))
      clear hk hS HS
      by_cases hlt : m < xs.length
      · have j0 : (0 : Int) ≤ (m : Int) := by omega
        have j1 : (m : Int) < (xs.length : Int) := by omega
        obtain ⟨bl, off, cap, cs, e, hbl, hac, hcs⟩ := AC.out.at m hlt
        injection e with e1 e2 e3
        subst e1 e3
        clear e2
        generalize xs[m] = a at hac
        obtain ⟨u1, u2, u3, rfl, hac2⟩ := hac
        obtain ⟨a1, k1, rfl⟩ := hac2.1.form
        obtain ⟨a2, k2, rfl⟩ := hac2.2.1.1
        obtain ⟨a3, k3, rfl⟩ := hac2.2.2.1.form
        have hcc : ∀ k, wr.cell? ⟨bl, k, none⟩ = w.cell? ⟨bl, k, none⟩ := fun k => HW.out.cell (p := ⟨bl, k, none⟩) hbl (fun h => h)
        have c0 := (hcc _).trans (hcs 0 (by omega))
        have c1 := (hcc _).trans (hcs 1 (by omega))
        have c2 := (hcc _).trans (hcs 2 (by omega))
        have c3 := (hcc _).trans (hcs 3 (by omega))
        have c4 := (hcc _).trans (hcs 4 (by omega))
        have c5 := (hcc _).trans (hcs 5 (by omega))
        have c6 := (hcc _).trans (hcs 6 (by omega))
        have c7 := (hcc _).trans (hcs 7 (by omega))
        have c8 := (hcc _).trans (hcs 8 (by omega))
        have c9 := (hcc _).trans (hcs 9 (by omega))
        simp only [List.getElem?_cons_zero, List.getElem?_cons_succ, Nat.add_zero] at c0 c1 c2 c3 c4 c5 c6 c7 c8 c9
        clear hcs hcc
        have HB := Lib.hid hac2.2.2.1
        clear hac2
        obtain ⟨aw, af, awd, al, att, acn, an, ars, aow, abb⟩ := a
        simp only at c0 c1 c2 c3 c4 c5 c6 c7 c8 c9 HB
        by_cases h100 : m < 100
        · have j2 : ((m : Int) == 100) = false := by simp; omega
          have HA := Lib.hid (show PPg (InO i x) (RInO j q r x) wr.heap.size (.cells #[.int .i64 aw, .int .i64 af, .int .i64 awd, .int .u64 al, .int .u64 att, .int .u64 acn, .int .u64 an, .slice a1 ars.length k1, .slice a2 aow.length k2, .slice a3 abb.length k3] 36) w (wr.alloc (.cells #[.int .i64 aw, .int .i64 af, .int .i64 awd, .int .u64 al, .int .u64 att, .int .u64 acn, .int .u64 an, .slice a1 ars.length k1, .slice a2 aow.length k2, .slice a3 abb.length k3] 36)) from Star.mkR (parts_star (parts_ino i x) (parts_rino j q r x)) (parts_blk _ _) HI.out (Blk.new wr _))
          go_upto_region 14 with (with_reducible refine held_i (n := 14) ?_)
          unfold HeldI
          go_step
          clear c0 c1 c2 c3 c4 c5 c6 c7 c8 c9
          generalize wr.alloc (.cells #[.int .i64 aw, .int .i64 af, .int .i64 awd, .int .u64 al, .int .u64 att, .int .u64 acn, .int .u64 an, .slice a1 ars.length k1, .slice a2 aow.length k2, .slice a3 abb.length k3] 36) = wa at HA ⊢
          generalize wr.heap.size = b10 at HA ⊢
          have HBy := Lib.hid (fun (w' : World) (g : Grows w w') => HB.out.grows g)
          go_cut [11, 12] (fun s1 s2 w' => ∃ (E : Int) (y : InV), s1 = .int .i64 E ∧ s2 = .int .i64 E ∧ Star (InO i y) (RInO j q r y) (Frm.of w) w')
          case first =>
            have k0 := cell_of_heap HA.out.blk 0
            simp at k0
            have hw : aw = 5 ∨ aw = 6 ∨ aw = 7 ∨ aw = 8 ∨ ((aw == 5) = false ∧ (aw == 6) = false ∧ (aw == 7) = false ∧ (aw == 8) = false) := by simp; omega
            rcases hw with rfl | rfl | rfl | rfl | ⟨t0, t1, t2, t3⟩
            · go_upto_region 16 with fail
              clear k0
              obtain ⟨k3', k6', k9'⟩ := act_cells HA.out.blk
              obtain ⟨E, hE⟩ : ∃ E, dataE x al an abb.length = E := ⟨_, rfl⟩
              have HD := Lib.hid (PPg.more (w' := wa.drew) (parts_ino _ _) (parts_rino _ _ _ _) HA.out (Ext.drewN_r 1))
              have HE := Lib.hid hE
              clear hE
              go_region_held3 (fun w' => w'.cell? ⟨b10, 3, none⟩ = some (.int .u64 al) ∧ w'.cell? ⟨b10, 6, none⟩ = some (.int .u64 an) ∧ w'.cell? ⟨b10, 9, none⟩ = some (.slice a3 abb.length k3))
                (first
                  | go_keep
                  | exact act_cells h6.blk
                  | exact act_cells h5.blk)
                (first
                  | (go_at_call 7; with_reducible refine (pp_data HD.out (parts_rino _ _ _ _) al an _ abb (HBy.out _ (HD.out.grows (parts_ino _ _) (parts_rino _ _ _ _))) E HE.out).mono ?_; rintro e w5 ⟨rfl, h5⟩)
                  | (go_at_call 8; with_reducible refine (pp_rdata h5 (parts_ino _ _) al an _ abb (HBy.out _ (h5.grows (parts_ino _ _) (parts_rino _ _ _ _))) E HE.out).mono ?_; rintro e w6 ⟨rfl, h6⟩))
              all_goals
                have A := Lib.hid (h6.both (parts_ino _ _) (parts_rino _ _ _ _))
                clear h5 h6 k3' k6' k9' HA HD HE
                go_wp2
                go_meet
                exact ⟨E, _, rfl, rfl, A.out⟩
            · go_upto_region 18 with fail
              clear k0
              obtain ⟨k3', k6', k9'⟩ := act_cells HA.out.blk
              have kj := (RInAt.cells (HA.out.snd (parts_ino _ _) (parts_rino _ _ _ _))).1.2
              obtain ⟨E, hE⟩ : ∃ E, sawE x.peer al an = E := ⟨_, rfl⟩
              have HD := Lib.hid (PPg.more (w' := wa.drew) (parts_ino _ _) (parts_rino _ _ _ _) HA.out (Ext.drewN_r 1))
              have HE := Lib.hid hE
              clear hE k9'
              go_region_held3 (fun w' => w'.cell? ⟨b10, 3, none⟩ = some (.int .u64 al) ∧ w'.cell? ⟨b10, 6, none⟩ = some (.int .u64 an) ∧ w'.cell? ⟨j, 1, none⟩ = some (.pointer (some ⟨r, 0, none⟩)))
                (first
                  | go_keep
                  | exact ⟨(act_cells h6.blk).1, (act_cells h6.blk).2.1, (RInAt.cells (h6.snd (parts_ino _ _) (parts_rino _ _ _ _))).1.2⟩
                  | exact ⟨(act_cells h5.blk).1, (act_cells h5.blk).2.1, (RInAt.cells (h5.snd (parts_ino _ _) (parts_rino _ _ _ _))).1.2⟩)
                (first
                  | (go_at_call 9; with_reducible refine (pp_probe HD.out (parts_rino _ _ _ _) al an E HE.out).mono ?_; rintro e w5 ⟨rfl, h5⟩)
                  | (go_at_call 10; with_reducible refine (pp_rsaw h5 (parts_ino _ _) al an E HE.out).mono ?_; rintro e w6 ⟨rfl, h6⟩))
              all_goals
                have A := Lib.hid (h6.both (parts_ino _ _) (parts_rino _ _ _ _))
                clear h5 h6 k3' k6' kj HA HD HE
                go_wp2
                go_meet
                exact ⟨E, _, rfl, rfl, A.out⟩
            · rcases hx : x.fs with _ | ⟨f, rest⟩
              · have HX := Lib.hid hx
                clear hx
                go_wp2_with fail
                refine (at_pop_none (HA.out.fst (parts_ino _ _) (parts_rino _ _ _ _)) HX.out).mono ?_
                rintro e w5 ⟨rfl, rfl⟩
                have kj := (RInAt.cells (HA.out.snd (parts_ino _ _) (parts_rino _ _ _ _))).1.1
                go_wp2_with fail
                refine (rin_pop_none (HA.out.snd (parts_ino _ _) (parts_rino _ _ _ _)) HX.out).mono ?_
                rintro e w6 ⟨rfl, rfl⟩
                go_wp2_with fail
                refine (equal_any _ _ [] [] _ (Bytes.nil _) (Bytes.nil _)).mono ?_
                rintro e w7 ⟨rfl, rfl⟩
                rw [dec_self]
                clear kj
                go_wp2
                go_meet
                exact ⟨0, x, rfl, rfl, HA.out.both (parts_ino _ _) (parts_rino _ _ _ _)⟩
              · have HX := Lib.hid hx
                clear hx
                go_wp2_with fail
                refine (pp_pop HA.out (parts_rino _ _ _ _) f rest HX.out).mono ?_
                rintro e w5 ⟨c, rfl, h5⟩
                have H5 := Lib.hid h5
                clear h5 HA
                have kj := (RInAt.cells (H5.out.snd (parts_star (parts_ino _ _) (parts_bytes _ _)) (parts_rino _ _ _ _))).1.1
                go_wp2_with fail
                refine (pp_rpop H5.out (parts_star (parts_ino _ _) (parts_bytes _ _)) f rest HX.out).mono ?_
                rintro e w6 ⟨⟨a, cc, rfl, hb6⟩, h6⟩
                have H6 := Lib.hid (And.intro h6 hb6)
                clear h6 hb6 H5 kj
                go_wp2_with fail
                refine (equal_any _ _ f f _ (Star.r (parts_bytes _ _) (H6.out.1.fst (parts_star (parts_ino _ _) (parts_bytes _ _)) (parts_rino _ _ _ _))).1 H6.out.2).mono ?_
                rintro e w7 ⟨rfl, rfl⟩
                rw [dec_self]
                have HR := Lib.hid (Star.dropLR (parts_ino _ _) (H6.out.1.both (parts_star (parts_ino _ _) (parts_bytes _ _)) (parts_rino _ _ _ _)))
                clear H6
                go_wp2
                go_meet
                exact ⟨0, _, rfl, rfl, HR.out⟩
            · have hful := InAt.full (HA.out.fst (parts_ino _ _) (parts_rino _ _ _ _))
              obtain ⟨fr, hfr⟩ : ∃ fr, x.fs.length + fr = x.places := ⟨_, Nat.add_sub_cancel' hful.1⟩
              obtain ⟨G, hG⟩ : ∃ G, grantG x.gr x.seen fr = G := ⟨_, rfl⟩
              have HX := Lib.hid (And.intro hfr hG)
              clear hfr hG hful
              go_wp2_with fail
              refine (pp_grant HA.out (parts_rino _ _ _ _) fr HX.out.1 G HX.out.2).mono ?_
              rintro e w5 ⟨rfl, h5⟩
              have H5 := Lib.hid h5
              clear h5 HA
              go_wp2_with fail
              refine (pp_rgrant H5.out (parts_ino _ _) fr HX.out.1 G HX.out.2).mono ?_
              rintro e w6 ⟨rfl, h6⟩
              have H6 := Lib.hid (h6.both (parts_ino _ _) (parts_rino _ _ _ _))
              clear h6 H5
              go_wp2
              go_meet
              exact ⟨0, _, rfl, rfl, H6.out⟩
            · go_wp2
              go_meet
              exact ⟨0, x, rfl, rfl, HA.out.both (parts_ino _ _) (parts_rino _ _ _ _)⟩
          case rest =>
            clear HA
            obtain ⟨E, y, rfl, rfl, hS2⟩ := hcut
            obtain ⟨⟨c0, c1⟩, ⟨la, lc, c2, hfr⟩, c3⟩ := RInAt.cells (Star.r (parts_rino j q r y) hS2)
            have HSI := Lib.hid (show InAt (Frm.of w) wc i y from Star.l (parts_ino i y) hS2)
            have HS := Lib.hid (And.intro hS2 hfr)
            have hful := HSI.out.full
            have HL := Lib.hid (show y.fs.length ≤ 140737488351232 by omega)
            clear hS2 hfr hful
            go_upto_region 30 with fail
            go_region_held3 (fun w' => w'.cell? ⟨j, 0, none⟩ = some (.pointer (some ⟨q, 0, none⟩)) ∧ w'.cell? ⟨j, 1, none⟩ = some (.pointer (some ⟨r, 0, none⟩)) ∧ w'.cell? ⟨q, 1, none⟩ = some (.slice la y.fs.length lc) ∧ w'.cell? ⟨r, 1, none⟩ = some (.int .u64 y.peer))
              (first
                | go_keep
                | exact ⟨keepc (((Ext.refl (fun _ => False) wc).drew).trans (g5.trans g6)) c0, keepc (((Ext.refl (fun _ => False) wc).drew).trans (g5.trans g6)) c1, keepc (((Ext.refl (fun _ => False) wc).drew).trans (g5.trans g6)) c2, keepc (((Ext.refl (fun _ => False) wc).drew).trans (g5.trans g6)) c3⟩
                | exact ⟨keepc (((Ext.refl (fun _ => False) wc).drew).trans g5) c0, keepc (((Ext.refl (fun _ => False) wc).drew).trans g5) c1, keepc (((Ext.refl (fun _ => False) wc).drew).trans g5) c2, keepc (((Ext.refl (fun _ => False) wc).drew).trans g5) c3⟩)
              (first
                | (go_at_call 16; refine (at_len (HSI.out.more (by first | exact Ext.refl _ _ | exact (Ext.refl _ _).drew)) y.fs.length rfl).mono ?_; rintro e w5 ⟨rfl, rfl⟩)
                | (go_at_call 17; refine (at_life (HSI.out.more (by first | exact Ext.refl _ _ | exact (Ext.refl _ _).drew)) y.peer rfl).mono ?_; rintro e w5 ⟨rfl, rfl⟩)
                | (go_at_call 19; refine (at_all_fr (HSI.out.more (by first | exact Ext.refl _ _ | exact (Ext.refl _ _).drew))).mono ?_; rintro e w5 ⟨aa, ac, rfl, hfa, g5⟩)
                | (go_at_call 18; refine (same_any _ _ y.fs y.fs _ hfa (by exact HS.out.2.growsW (((Ext.refl (fun _ => False) wc).drew).trans g5)) HL.out HL.out).mono ?_; rintro e w6 ⟨rfl, g6⟩; rw [dec_self]))
            all_goals
              have A := Lib.hid ((parts_star (parts_ino i y) (parts_rino j q r y)).more HS.out.1 (((Ext.refl (fun _ => False) wc).drew).trans (g5.trans g6)))
              clear g5 g6 hfa HS HSI c0 c1 c2 c3
              go_wp2
              go_roundg (xs.length - (m + 1))
              case measure => have := HK.out; omega
              case rel => exact ⟨m + 1, y, by omega, by omega, rfl, by go_num, A.out⟩
        · obtain rfl : m = 100 := by omega
          have HG := Lib.hid (HW.out.alloc (.cells #[.int .i64 aw, .int .i64 af, .int .i64 awd, .int .u64 al, .int .u64 att, .int .u64 acn, .int .u64 an, .slice a1 ars.length k1, .slice a2 aow.length k2, .slice a3 abb.length k3] 36))
          go_wp2
          go_ret
          exact ⟨rfl, Ext.to_below HG.out⟩
      · have j1 : ¬ (m : Int) < (xs.length : Int) := by omega
        go_wp2
        go_ret
        exact ⟨rfl, Ext.to_below HW.out⟩
namespace InPlaysShell
theorem own : ownKnob Tryz.prog.godebug = none := by kernel_rfl
theorem laidOut : laidOutB Tryz.prog = true := by kernel_rfl
set_option maxRecDepth 100000 in
theorem lifted (os : Os) (started : os.Started) (H : Type) (enc : TypeId × Value → H) :
    ReturnsInHanded {} Tryz.checked os 3 .any (Rows.inPlaysSpec.pre6 enc Tryz.prog Tryz.f3 Rows.inPlaysRow.domain false) (Rows.inPlaysSpec.post enc Tryz.prog Tryz.f3 false true false false) := by
  refine returnsInHanded_of_change_sized (C := Tryz.checked) own started (by kernel_rfl) Tryz.func3
    (ChangeSpec.witness6 (enc := enc) (C := Tryz.checked) false ⟨#[], #[.int .i64 0, .slice none 0 0], []⟩ 8 (by kernel_rfl) (by kernel_rfl) (by kernel_rfl) (by kernel_rfl)) ?_
  intro W base args ds gs before hval0 hW hcnd hsz0 _
  have hval : ∀ (j : Nat) t v, Tryz.f3.params[j]? = some t → args[j]? = some v → Value.okWide Tryz.prog W .any base t v := hval0
  have hsz : (DataW.weightsEach Tryz.prog (Tryz.f3.params.toList ++ Rows.inPlaysSpec.plain.varTypes Tryz.prog) (ds ++ gs)).all (· ≤ reachBytes) = true := hsz0
  have hW' := hW
  obtain ⟨p, q, hA0, hV, rfl, hfz, hnd⟩ := hW
  have hA : DataW.TrodAll enc Tryz.prog W 0 (fun _ => true) true Tryz.f3.params.toList args.toList ds p := hA0
  rw [Tryz.params3] at hA hval hsz
  obtain ⟨v0, vs0, d0, ds0, p0, q0, hargs, rfl, rfl, h0, r0⟩ := trodAll_cons hA
  obtain ⟨v1, vs1, d1, ds1, p1, q1, rfl, rfl, rfl, h1, r1⟩ := trodAll_cons r0
  obtain ⟨rfl, rfl, rfl⟩ := trodAll_nil r1
  obtain rfl : args = #[v0, v1] := by cases args; simp_all
  obtain ⟨rfl, rfl⟩ := trodVars_none hV
  have k0 := h0
  have lt0 : ∀ x ∈ p0, x.block < W.heap.size := by obtain ⟨m, hm⟩ := k0; exact DataW.trod_lt m _ _ _ hm
  have k1 := h1
  have lt1 : ∀ x ∈ p1, x.block < W.heap.size := by obtain ⟨m, hm⟩ := k1; exact DataW.trod_lt m _ _ _ hm
  obtain ⟨a0, rfl, rfl, rfl, w0⟩ := open_int Tryz.underlying3 (hval 0 3 v0 rfl rfl) h0
  obtain ⟨a1, w1⟩ := open_actLs (hval 1 22 v1 rfl rfl) h1 hsz (j := 1) rfl rfl
  clear hA0 hval0 hsz0
  refine (InPlays_walk a0 v1 a1 W w0 w1).mono fun e W' ⟨he, bel⟩ => ?_
  subst he
  exact ⟨_, rfl, _, _, _, [], _, [], hW', trodAll_mk1 (shut_bool Tryz.underlying4 _), (trodAll_cons_mk (Below.trod laidOut (by kernel_rfl) (of_decide_eq_true (by kernel_rfl)) k0 bel lt0) (trodAll_cons_mk (Below.trod laidOut (by kernel_rfl) (of_decide_eq_true (by kernel_rfl)) k1 bel lt1) trodAll_mk0)), rfl, bel.frame _, fun h => by cases h⟩
theorem over : Rows.inPlaysRow.holds Tryz.pinned (OpenSpec.ofChange Rows.inPlaysSpec) :=
  OpenClaim.holds_of_wide 3 Tryz.f3 rfl rfl rfl rfl rfl rfl rfl ⟨rfl, rfl, rfl, rfl, rfl⟩ rfl rfl rfl rfl rfl (by kernel_rfl) Tryz.func3 (by kernel_rfl)
    (of_decide_eq_true (by kernel_rfl)) (by unfold Func.isWrapper; first | (rw [if_pos (by decide +kernel)]; kernel_rfl) | (rw [if_neg (by decide +kernel)]; exact ⟨rfl, rfl⟩))
    (fun os started H enc _ => lifted os started H enc)
end InPlaysShell
theorem InPlays_holds : Rows.InPlaysSaid := InPlaysShell.over
#print axioms InPlays_holds
end Go.Proofs.YtekdggdnkmkldaaGreat
