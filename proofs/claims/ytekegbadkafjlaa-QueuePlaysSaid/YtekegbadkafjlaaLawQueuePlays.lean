/- QueuePlays: rows of calls are answered as the document says, whatever is done to what was handed in and out; at any number of places, any calls; no condition. -/
import Derived.Test.YtekegbadkafjlaaQueueF
import Derived.Deep.DeepCutAuto
import Derived.Deep.RegionHeld3
namespace Go.Proofs.Ytekegbadkafjlaa
set_option linter.unusedVariables false
set_option linter.unusedSimpArgs false
open Go.ChangeShapes Go.WideShapes Go.ChangeAt Go.RowKit

/-- A statement at which the walk is to stand still. -/
def HeldQ (p : Prop) : Prop := p
theorem held_q {n : Nat} {P : Program} {ops : Array Oper} {b : Bool} {d rest : Code} {Q : Exit → Act → World → Prop} {a : Act} {w : World} (h : HeldQ ((Code.seq (Code.seq (Code.region n ops b) d) rest).wp P Q a w)) :
    (Code.seq (Code.seq (Code.region n ops b) d) rest).wp P Q a w := h
def OKF (fs : List (List Int)) : Prop := ∀ f ∈ fs, f.length ≤ 70000 ∧ ∀ x ∈ f, 0 ≤ x ∧ x < 256
theorem OKF.push {p : Nat} {fs : List (List Int)} {xs : List Int} (h : OKF fs) (hx : ∀ x ∈ xs, 0 ≤ x ∧ x < 256) : OKF (pushF p fs xs) := by
  unfold pushF
  split
  · rename_i h0
    intro f hf
    rcases List.mem_append.1 hf with hf | hf
    · exact h f hf
    · obtain rfl := List.mem_singleton.1 hf
      refine ⟨?_, hx⟩
      rcases Nat.lt_or_ge 70000 f.length with h1 | h1
      · rw [pushE_3 h1] at h0; omega
      · exact h1
  · exact h
theorem OKF.tail {f : List Int} {fs : List (List Int)} (h : OKF (f :: fs)) : OKF fs := fun g hg => h g (List.mem_cons_of_mem _ hg)
theorem OKF.nil : OKF [] := fun f hf => by cases hf
theorem cell_grow {w w' : World} (g : Grows w w') {p : Addr} {v : Value} (h : w.cell? p = some v) : w'.cell? p = some v := by
  have hb : p.block < w.heap.size := by
    rcases Nat.lt_or_ge p.block w.heap.size with h1 | h1
    · exact h1
    · unfold World.cell? at h
      rw [Array.getElem?_eq_none h1] at h
      cases h
  exact (g.cell hb (fun h => h)).trans h
theorem Fr.grows {w w' : World} {v : Value} {fs : List (List Int)} (h : Fr w v fs) (g : Grows w w') : Fr w' v fs := by
  obtain ⟨vs, h1, h2, h3⟩ := h
  refine ⟨vs, h1, h2.keeps g.size (fun k _ hk => g.block k hk (fun h => h)), fun i f hf => ?_⟩
  obtain ⟨u, hu, hb⟩ := h3 i f hf
  exact ⟨u, hu, hb.grows g⟩
theorem QP.lts {w wr : World} {q r p : Nat} {fs gs : List (List Int)} (h : QP w wr q r p fs gs) : q < wr.heap.size ∧ r < wr.heap.size := by
  obtain ⟨Sq, Sr, h⟩ := h
  exact ⟨h.qa.lt, h.ra.lt⟩

set_option maxRecDepth 4000 in
set_option maxHeartbeats 64000000 in
theorem QueuePlays_walk (a0 : Int) (v1 : Value) (xs : List ActV) (w : World) (h0 : (Lit.int .i64 a0).wf = true) (h1 : Acts w v1 xs) :
    Calls Try.prog 9 #[.int .i64 a0, v1] w fun e w' => e = .returned (.bool true) ∧ Below w.heap.size w w' := by
  obtain ⟨va, vc, rfl⟩ := h1.form
  have AC := Lib.hid h1
  clear h0 h1
  by_cases hp : a0 < 1 ∨ 64 < a0
  · have HP := Lib.hid hp
    clear hp
    go_enter Try.func9, Try.ntmps9
    go_wp2_with fail
    refine (queueAwake _).mono ?_
    rintro e w1 ⟨rfl, hg1⟩
    have HG := Lib.hid hg1
    clear hg1
    go_wp2_with fail
    refine (new_no a0 _ HP.out).mono ?_
    rintro e w2 ⟨rfl, rfl⟩
    go_wp2_with fail
    refine (refq_new_no a0 _ HP.out).mono ?_
    rintro e w2 ⟨rfl, rfl⟩
    go_wp2
    go_ret
    exact ⟨rfl, Ext.to_below HG.out⟩
  · obtain ⟨p, rfl⟩ := Int.eq_ofNat_of_zero_le (show 0 ≤ a0 by omega)
    have hp1 : 1 ≤ p := by omega
    have hp2 : p ≤ 64 := by omega
    clear hp
    go_enter Try.func9, Try.ntmps9
    go_wp2_with fail
    refine (queueAwake _).mono ?_
    rintro e w1 ⟨rfl, hg1⟩
    go_wp2_with fail
    obtain ⟨q, hq⟩ : ∃ q, w1.heap.size = q := ⟨_, rfl⟩
    refine (new_yes p _ hp1 hp2).mono ?_
    rintro e w2 ⟨rfl, hq2, hg2⟩
    rw [hq] at hq2 ⊢
    have HA := Lib.hid (And.intro hg1 (And.intro hq (And.intro hq2 hg2)))
    clear hg1 hq hq2 hg2
    go_wp2_with fail
    obtain ⟨r, hr⟩ : ∃ r, w2.heap.size = r := ⟨_, rfl⟩
    refine (refq_new p _ hp1 hp2).mono ?_
    rintro e w3 ⟨rfl, hr2, hg3⟩
    rw [hr] at hr2 ⊢
    have hqp : QP w w3 q r p [] [] := QP.start HA.out.2.2.1 HA.out.1 HA.out.2.1 HA.out.2.2.2 hr hr2 hg3
    have HQ := Lib.hid hqp
    clear HA hr hr2 hg3 hqp
    go_wp2
    go_loopg [50] xs.length (fun k c wr => ∃ (j : Nat) (fs : List (List Int)), j ≤ xs.length ∧ j ≤ 200 ∧ k = xs.length - j ∧ c = .int .i64 (j : Nat) ∧ QP w wr q r p fs fs ∧ OKF fs)
    case atStart => exact ⟨0, [], by omega, by omega, by omega, rfl, HQ.out, OKF.nil⟩
    case round =>
      obtain ⟨j, fs, hj, hj1, hk, rfl, hI, hok⟩ := hrel
      have HK := Lib.hid hk
      have HI := Lib.hid (And.intro hI hok)
      clear hk hI hok HQ
      by_cases hlt : j < xs.length
      · have j0 : (0 : Int) ≤ (j : Int) := by omega
        have j1 : (j : Int) < (xs.length : Int) := by omega
        obtain ⟨bl, off, cap, ba, bc, e, hbl, ⟨c0, c1⟩, hby⟩ := AC.out.at j hlt
        injection e with e1 e2 e3
        subst e1 e3
        clear e2
        have c0 := (HI.out.1.grows.cell (p := ⟨bl, off + j * 2, none⟩) hbl (fun h => h)).trans c0
        have c1 := (HI.out.1.grows.cell (p := ⟨bl, off + j * 2 + 1, none⟩) hbl (fun h => h)).trans c1
        generalize xs[j] = o at c0 c1 hby
        obtain ⟨what, b⟩ := o
        simp only at c0 c1 hby
        have hbb := hby.2.2
        obtain ⟨bn, hbn⟩ : ∃ bn, b.length = bn := ⟨_, rfl⟩
        rw [hbn] at c1 hby hbb
        have HB := Lib.hid (And.intro hby hbn)
        clear hby hbn
        by_cases h200 : j < 200
        · have j2 : ((j : Int) == 200) = false := by simp; omega
          have hA := HI.out.1.more (w' := wr.alloc (.cells #[.int .i64 what, .slice ba bn bc] 62)) ((Ext.refl _ _).alloc _)
          have k10 := heap_alloc_new wr (.cells #[.int .i64 what, .slice ba bn bc] 62 (0, 0))
          have h10 := HI.out.1.lts
          have HA := Lib.hid (And.intro hA (And.intro k10 (And.intro (show wr.heap.size ≠ q by omega) (show wr.heap.size ≠ r by omega))))
          clear hA k10 h10
          go_upto_region 13 with (with_reducible refine held_q (n := 13) ?_)
          unfold HeldQ
          go_step
          clear c0 c1
          generalize wr.alloc (.cells #[.int .i64 what, .slice ba bn bc] 62) = wa at HA ⊢
          generalize wr.heap.size = b10 at HA ⊢
          go_cut [] (fun w' => ∃ fs', QP w w' q r p fs' fs' ∧ OKF fs')
          case first =>
            have k0 := cell_of_heap HA.out.2.1 0
            have k1 := cell_of_heap HA.out.2.1 1
            simp at k0 k1
            have hw : what = 0 ∨ what = 1 ∨ what = 2 ∨ what = 3 ∨ (((what == 0) = false ∧ (what == 1) = false) ∧ (what == 2) = false ∧ (what == 3) = false) := by simp; omega
            rcases hw with rfl | rfl | rfl | rfl | ⟨⟨k0', k1'⟩, k2', k3'⟩
            · have hbA : Bytes wa (.slice ba bn bc) b := HB.out.1.grows HA.out.1.grows
              have hbn := HB.out.2
              subst hbn
              go_wp2_with fail
              refine (refown_any _ b wa hbA).mono ?_
              rintro e w4 ⟨v', rfl, ho4, hg4, hf4⟩
              obtain ⟨oa, oc, rfl⟩ := OwnS.form ho4
              obtain ⟨E, hE⟩ : ∃ E, pushE p fs.length b.length = E := ⟨_, rfl⟩
              have hb4 := HA.out.2.1
              have l4 := heap_lt hb4
              have k1 := cell_grow hg4 k1
              have HO := Lib.hid (And.intro (HA.out.1.x (X := fun k => (Value.slice oa b.length oc).ownBlock = some k) hg4 (fun k hk => ⟨hf4 k hk, OwnS.lt ho4 k hk⟩)) (And.intro hE (And.intro (OwnS.bytes ho4 HB.out.1.2.1 HB.out.1.2.2) (And.intro (hbA.grows hg4) (And.intro ho4 hf4)))))
              have HN := Lib.hid (And.intro (Nat.lt_of_lt_of_le l4 hg4.size) (And.intro HA.out.2.2.1 (And.intro HA.out.2.2.2 HA.out.1.lts)))
              have HA2 := Lib.hid HA.out.1.grows
              clear hbA ho4 hg4 hf4 hE hb4 l4 k0 HA
              go_upto_region 16 with fail
              go_region_held3 (fun w' => w'.cell? ⟨b10, 1, none⟩ = some (.slice ba b.length bc))
                (first
                  | go_keep
                  | exact (he5.cell (p := ⟨b10, 1, none⟩) HN.out.1 HN.out.2.1).trans k1
                  | exact (he6.cell (p := ⟨b10, 1, none⟩) (Nat.lt_of_lt_of_le HN.out.1 he5.size) HN.out.2.2.1).trans ‹_›)
                (first
                  | (go_at_call 22; refine (qpx_push (HO.out.1.more (by first | exact Ext.refl _ _ | exact (Ext.refl _ _).drew)) _ b (HO.out.2.2.1.grows (by first | exact Ext.refl _ _ | exact (Ext.refl _ _).drew)) E HO.out.2.1).mono ?_; rintro e w5 ⟨rfl, hqp5, he5⟩)
                  | (go_at_call 31; refine (qpx_rpush hqp5 _ b (HB.out.1.grows hqp5.qp.grows) E HO.out.2.1).mono ?_; rintro e w6 ⟨rfl, hqp6, he6⟩))
              all_goals
                have hok6 : OKF (pushF p fs b) := HI.out.2.push HB.out.1.2.1
                have hnew : ∀ k, (Value.slice oa b.length oc).ownBlock = some k → wa.heap.size ≤ k := HO.out.2.2.2.2.2
                have hqn : ∀ k, (Value.slice oa b.length oc).ownBlock = some k → k ≠ q ∧ k ≠ r ∧ w.heap.size ≤ k := fun k hk => by
                  have := hnew k hk; have := HN.out.2.2.2; have := HA2.out.size; omega
                have e56 : Ext (fun k => k = q ∨ k = r) w4 w6 := (((Ext.refl _ w4).drew).trans (he5.mono (fun _ _ h => .inl h))).trans (he6.mono (fun _ _ h => .inr h))
                have HP6 := Lib.hid (And.intro hqp6 (And.intro hok6 (And.intro hqn e56)))
                clear hqp5 hqp6 he5 he6 hok6 hnew hqn e56 k1
                rcases HO.out.2.2.2.2.1.2 with ⟨h0, hl0⟩ | ⟨g, go_, gc, cur, h0, hgg, hgr⟩
                · injection h0 with e1 e2 e3
                  subst e1 e3
                  have hb0 : b = [] := List.eq_nil_of_length_eq_zero hl0
                  have HB0 := Lib.hid hb0
                  have HQ0 := Lib.hid HP6.out.1.qp
                  have HOK := Lib.hid HP6.out.2.1
                  clear HP6 HO hb0 HB
                  generalize b.length = bn at hl0 ⊢
                  subst hl0
                  go_wp2
                  refine wp_loop_rounds 1 ?_
                  rw [rounds_succ]
                  go_wp2
                  go_meet
                  case rel => exact ⟨_, HQ0.out, HOK.out⟩
                · injection h0 with e1 e2 e3
                  subst e1 e3
                  clear e2 hgg hgr
                  have hbuf := (Buf.of_own HO.out.2.2.2.2.1 HB.out.1.2.1).ext HP6.out.2.2.2 (fun hh => by have := HP6.out.2.2.1 g rfl; omega)
                  have HBF := Lib.hid hbuf
                  clear hbuf
                  go_wp2
                  go_loopg [74] b.length (fun k c wx => ∃ m : Nat, m ≤ b.length ∧ k = b.length - m ∧ c = .int .i64 (m : Nat) ∧ Buf wx g go_ b.length ∧ Ext (fun k => k = g) w6 wx)
                  case atStart => exact ⟨0, by omega, by omega, rfl, HBF.out, Ext.refl _ _⟩
                  case round =>
                    obtain ⟨m, hm, hkm, rfl, hbuf, hext⟩ := hrel
                    have HM := Lib.hid (And.intro hkm (And.intro hbuf hext))
                    clear hkm hbuf hext
                    by_cases hml : m < b.length
                    · have m0 : (0 : Int) ≤ (m : Int) := by omega
                      have m1 : (m : Int) < (b.length : Int) := by omega
                      obtain ⟨x, hx, hxf, hxb⟩ := HM.out.2.1.at m hml
                      skip
                      go_wp2
                      clear hx hxf
                      go_roundg (b.length - (m + 1))
                      case measure => have := HM.out.1; omega
                      case rel => exact ⟨m + 1, by omega, rfl, by go_num, HM.out.2.1.set g _ _ (by have := bounds_u8 (wf_bits .xor .u8 x 255); omega), Ext.setCell (S := fun k => k = g) HM.out.2.2 ⟨g, _, none⟩ (Or.inr rfl) _⟩
                    · have m1 : ¬ (m : Int) < (b.length : Int) := by omega
                      (go_wp2; go_meet; (case rel => exact ⟨_, HP6.out.1.write (HM.out.2.2.mono (fun k _ hk => by rw [hk]; rfl)) (fun k hk => (HP6.out.2.2.1 k hk).2.2), HP6.out.2.1⟩))
            · clear k1 HB
              cases fs with
              | nil =>
                go_wp2_with fail
                refine (qp_pop_none HA.out.1).mono ?_
                rintro e w4 ⟨rfl, rfl⟩
                go_wp2_with fail
                refine (qp_rpop_none HA.out.1).mono ?_
                rintro e w4 ⟨rfl, rfl⟩
                go_wp2_with fail
                refine (equal_any _ _ _ _ _ (Bytes.nil _) (Bytes.nil _)).mono ?_
                rintro e w4 ⟨rfl, rfl⟩
                go_wp2
                go_meet
                case rel => exact ⟨[], HA.out.1, OKF.nil⟩
              | cons f rest =>
                have hf7 := (HI.out.2 f (by simp)).1
                go_wp2_with fail
                refine (qp_pop HA.out.1).mono ?_
                rintro e w4 ⟨b4, rfl, hb4, hn4, hq4⟩
                have H4 := Lib.hid (And.intro hb4 (And.intro hq4 hn4))
                clear hb4 hq4 hn4
                go_wp2_with fail
                refine (qp_rpop H4.out.2.1).mono ?_
                rintro e w5 ⟨a5, c5, rfl, hb5, hq5, e5⟩
                have x5 : Bytes w5 (.slice (some ⟨b4, 0, none⟩) f.length f.length) f := H4.out.1.ext e5 (fun k hk _ => by
                  simp only [Value.ownBlock, Option.some.injEq] at hk
                  have := H4.out.2.2; have := HA.out.1.lts; omega)
                have H5 := Lib.hid (And.intro x5 (And.intro hb5 hq5))
                clear x5 hb5 hq5 e5
                go_wp2_with fail
                refine (equal_any _ _ _ _ _ H5.out.1 H5.out.2.1).mono ?_
                rintro e w6 ⟨rfl, rfl⟩
                have hdd : decide (f = f) = true := by simp
                go_wp2
                go_meet
                case rel => exact ⟨rest, H5.out.2.2, HI.out.2.tail⟩
            · clear k1 HB
              obtain ⟨la, lc, l1, lf, lfr, lr⟩ := HA.out.1.cells
              cases fs with
              | nil =>
                go_wp2_with fail
                refine (qp_peek_none HA.out.1).mono ?_
                rintro e w4 ⟨rfl, rfl⟩
                go_wp2
                clear l1 lf
                refine wp_loop_rounds 1 ?_
                rw [rounds_succ]
                go_wp2
                go_meet
                case rel => exact ⟨[], HA.out.1, OKF.nil⟩
              | cons f rest =>
                have hf7 := (HI.out.2 f (by simp)).1
                obtain ⟨fb, fo, fc, ya, yc, ev, fbl, fcell, fB, _⟩ := lfr.at 0 (by simp)
                injection ev with e1 e2 e3
                subst e1 e3
                clear e2
                simp only [List.getElem_cons_zero, Nat.add_zero] at fcell fB
                go_wp2_with fail
                refine (qp_peek HA.out.1).mono ?_
                rintro e w4 ⟨b4, rfl, hb4, hn4, hu4, hg4⟩
                have l1 := cell_grow hg4 l1
                have fcell := cell_grow hg4 fcell
                have n1 : (0 : Int) < (((f :: rest).length : Nat) : Int) := by rw [List.length_cons]; omega
                have H4 := Lib.hid (And.intro hb4 (And.intro (fB.grows hg4) (And.intro hn4 (And.intro hu4 hg4))))
                clear hb4 hn4 hu4 hg4 lf lfr lr fB fbl
                generalize (f :: rest).length = rl at n1 l1
                have n2 : 0 < rl := by omega
                go_wp2_with fail
                refine (equal_any _ _ _ _ _ H4.out.1 H4.out.2.1).mono ?_
                rintro e w6 ⟨rfl, rfl⟩
                have hdd : decide (f = f) = true := by simp
                clear l1 fcell
                go_wp2
                go_loopg [136] f.length (fun k c wx => ∃ m : Nat, m ≤ f.length ∧ k = f.length - m ∧ c = .int .i64 (m : Nat) ∧ Buf wx b4 0 f.length ∧ Ext (fun k => k = b4) w4 wx)
                case atStart => exact ⟨0, by omega, by omega, rfl, H4.out.2.2.2.1, Ext.refl _ _⟩
                case round =>
                  obtain ⟨m, hm, hkm, rfl, hbuf, hext⟩ := hrel
                  have HM := Lib.hid (And.intro hkm (And.intro hbuf hext))
                  clear hkm hbuf hext
                  by_cases hml : m < f.length
                  · have m0 : (0 : Int) ≤ (m : Int) := by omega
                    have m1 : (m : Int) < (f.length : Int) := by omega
                    obtain ⟨x, hx, hxf, hxb⟩ := HM.out.2.1.at m hml
                    (rw [Nat.zero_add] at hx hxf)
                    go_wp2
                    clear hx hxf
                    go_roundg (f.length - (m + 1))
                    case measure => have := HM.out.1; omega
                    case rel => exact ⟨m + 1, by omega, rfl, by go_num, HM.out.2.1.set b4 _ _ (by have := bounds_u8 (wf_bits .xor .u8 x 255); omega), Ext.setCell (S := fun k => k = b4) HM.out.2.2 ⟨b4, _, none⟩ (Or.inr rfl) _⟩
                  · have m1 : ¬ (m : Int) < (f.length : Int) := by omega
                    (go_wp2; go_meet; (case rel => exact ⟨_, HA.out.1.newer H4.out.2.2.2.2 HM.out.2.2 (fun k hk => hk ▸ H4.out.2.2.1), HI.out.2⟩))
            · clear k1 HB
              go_wp2_with fail
              refine (qp_clear HA.out.1).mono ?_
              rintro e w4 ⟨rfl, hq4⟩
              obtain ⟨la, lc, l1, lf, lfr, lr⟩ := hq4.cells
              have H4 := Lib.hid hq4
              clear lfr hq4
              go_wp2
              go_meet
              case rel => exact ⟨[], H4.out.rclear, OKF.nil⟩
            · go_wp2
              go_meet
              case rel => exact ⟨fs, HA.out.1, HI.out.2⟩
          case rest =>
          obtain ⟨fs', hq', hok'⟩ := hcut
          have HC := Lib.hid (And.intro hq' hok')
          clear hq' hok' HA HI
          go_wp2_with fail
          refine (qp_all HC.out.1 HC.out.2).mono ?_
          rintro e w4 ⟨aa, ac, vs, rfl, hfl, hfr, hg4⟩
          obtain ⟨la, lc, l1, lf, lfr, lr⟩ := (HC.out.1.more hg4).cells
          obtain ⟨n, hn⟩ : ∃ n, fs'.length = n := ⟨_, rfl⟩
          have hsm := HC.out.1.small
          rw [hn] at hfl hfr l1 lfr hsm
          have H4 := Lib.hid (And.intro hfl (And.intro hfr (And.intro hg4 (And.intro lfr (And.intro lr hn)))))
          clear hfl hfr hg4 lfr lr hn lf
          obtain ⟨hs1, _, hs3⟩ := hsm
          have hwp : IntKind.i64.wrap ((p : Int) - (n : Int)) = (p : Int) - (n : Int) := by rw [IntKind.wrap_i64]; omega
          have hwp2 : wrap64 ((p : Int) - (n : Int)) = (p : Int) - (n : Int) := by unfold wrap64; omega
          go_upto_region 41 with fail
          have HGR := Lib.hid (And.intro (HC.out.1.more H4.out.2.2.1) (And.intro hs1 hs3))
          have l1r := H4.out.2.2.2.2.1
          clear hs1 hs3
          go_region_held3 (fun w' => w'.cell? ⟨r, 1, none⟩ = some (.slice la n lc))
            (first
              | go_keep
              | exact cell_grow (((Ext.refl (fun _ => False) w4).drew).trans hg5) l1
              | exact cell_grow (((Ext.refl (fun _ => False) w4).drew).trans (hg5.trans hg6)) l1)
            (first
              | (go_at_call 24; refine (qp_len (HGR.out.1.more (by first | exact Ext.refl _ _ | exact (Ext.refl _ _).drew))).mono ?_; rintro e w5 ⟨rfl, rfl⟩; rw [H4.out.2.2.2.2.2])
              | (go_at_call 25; refine (qp_free (HGR.out.1.more (by first | exact Ext.refl _ _ | exact (Ext.refl _ _).drew)) _ (by rw [H4.out.2.2.2.2.2])).mono ?_; rintro e w5 ⟨rfl, hg5⟩)
              | (go_at_call 33; refine (same_any _ _ fs' fs' _ (by exact H4.out.2.1.grows (((Ext.refl (fun _ => False) w4).drew).trans hg5)) (by exact H4.out.2.2.2.1.grows (((Ext.refl (fun _ => False) w4).drew).trans hg5)) (by have := HGR.out.2; have := H4.out.2.2.2.2.2; omega) (by have := HGR.out.2; have := H4.out.2.2.2.2.2; omega)).mono ?_; rintro e w6 ⟨rfl, hg6⟩; rw [show decide (fs' = fs') = true by simp]))
          · have g46 : Grows w4 w6 := ((Ext.refl (fun _ => False) w4).drew).trans (hg5.trans hg6)
            obtain ⟨lo, hlo⟩ : ∃ lo, wc.heap.size = lo := ⟨_, rfl⟩
            have hfl := H4.out.1.grows g46
            rw [hlo] at hfl
            have HF := Lib.hid (And.intro hfl (And.intro (H4.out.2.2.1.trans g46) hlo))
            clear hfl g46 hg5 hg6 l1 l1r hwp hwp2 hlo H4
            go_wp2
            go_loopg [186] n (fun k c wx => ∃ i : Nat, i ≤ n ∧ k = n - i ∧ c = .int .i64 (i : Nat) ∧ FL lo wx (.slice aa n ac) n vs ∧ Ext (fun k => lo ≤ k) w6 wx)
            case atStart => exact ⟨0, by omega, by omega, rfl, HF.out.1, Ext.refl _ _⟩
            case round =>
              obtain ⟨i, hi, hki, rfl, hfl, hext⟩ := hrel
              have HX := Lib.hid (And.intro hki (And.intro hfl hext))
              clear hki hfl hext
              by_cases hin : i < n
              · have i0 : (0 : Int) ≤ (i : Int) := by omega
                have i1 : (i : Int) < (n : Int) := by omega
                obtain ⟨g, off', cap', b, l, ev, hcell, hlb, hbuf, hl7, hvs⟩ := HX.out.2.1.at i hin
                injection ev with e1 e2 e3
                subst e1 e3
                clear e2
                have HV := Lib.hid (And.intro hvs (And.intro hlb hbuf))
                clear hvs hlb hbuf
                go_wp2
                clear hcell
                go_loopg [192] l (fun k c wy => ∃ m : Nat, m ≤ l ∧ k = l - m ∧ c = .int .i64 (m : Nat) ∧ FL lo wy (.slice (some ⟨g, off', none⟩) n ac) n vs ∧ Buf wy b 0 l ∧ Ext (fun k => lo ≤ k) w6 wy)
                case atStart => exact ⟨0, by omega, by omega, rfl, HX.out.2.1, HV.out.2.2, HX.out.2.2⟩
                case round =>
                  obtain ⟨m, hm, hkm, rfl, hfl, hbuf, hext⟩ := hrel
                  have HY := Lib.hid (And.intro hkm (And.intro hfl (And.intro hbuf hext)))
                  clear hkm hfl hbuf hext
                  by_cases hml : m < l
                  · have m0 : (0 : Int) ≤ (m : Int) := by omega
                    have m1 : (m : Int) < (l : Int) := by omega
                    obtain ⟨x, hx, hxf, hxb⟩ := HY.out.2.2.1.at m hml
                    rw [Nat.zero_add] at hx hxf
                    go_wp2
                    clear hx hxf
                    go_roundg (l - (m + 1))
                    case measure => have := HY.out.1; omega
                    case rel =>
                      have hxy : 0 ≤ bits .xor .u8 x 255 ∧ bits .xor .u8 x 255 < 256 := by have := bounds_u8 (wf_bits .xor .u8 x 255); omega
                      exact ⟨m + 1, by omega, rfl, by go_num, HY.out.2.1.set HV.out.1 _ _ hxy, HY.out.2.2.1.set b _ _ hxy, Ext.setCell (S := fun k => lo ≤ k) HY.out.2.2.2 ⟨b, _, none⟩ (Or.inr HV.out.2.1) _⟩
                  · have m1 : ¬ (m : Int) < (l : Int) := by omega
                    go_wp2
                    go_roundg (n - (i + 1))
                    case measure => have := HX.out.1; omega
                    case rel => exact ⟨i + 1, by omega, rfl, by go_num, HY.out.2.1, HY.out.2.2.2⟩
              · have i1 : ¬ (i : Int) < (n : Int) := by omega
                go_wp2
                go_roundg (xs.length - (j + 1))
                case measure => have := HK.out; omega
                case rel => exact ⟨j + 1, fs', by omega, by omega, rfl, by go_num, HC.out.1.newer HF.out.2.1 HX.out.2.2 (fun k hk => by have := HF.out.2.2; omega), HC.out.2⟩
        · have h9 : j = 200 := by omega
          subst h9
          have HE := Lib.hid ((HI.out.1.grows).alloc (.cells #[.int .i64 what, .slice ba bn bc] 62))
          go_wp2
          go_ret
          exact ⟨rfl, Ext.to_below HE.out⟩
      · have j1 : ¬ (j : Int) < (xs.length : Int) := by omega
        go_wp2
        go_ret
        exact ⟨rfl, Ext.to_below HI.out.1.grows⟩
namespace QueuePlaysShell
theorem own : ownKnob Try.prog.godebug = none := by kernel_rfl
theorem laidOut : laidOutB Try.prog = true := by kernel_rfl
set_option maxRecDepth 100000 in
theorem lifted (os : Os) (started : os.Started) (H : Type) (enc : TypeId × Value → H) :
    ReturnsInHanded {} Try.checked os 9 .any (Rows.queuePlaysSpec.pre6 enc Try.prog Try.f9 Rows.queuePlaysRow.domain false) (Rows.queuePlaysSpec.post enc Try.prog Try.f9 false true false false) := by
  refine returnsInHanded_of_change_sized (C := Try.checked) own started (by kernel_rfl) Try.func9
    (ChangeSpec.witness6 (enc := enc) (C := Try.checked) false ⟨#[], #[.int .i64 0, .slice none 0 0], []⟩ 8 (by kernel_rfl) (by kernel_rfl) (by kernel_rfl) (by kernel_rfl)) ?_
  intro W base args ds gs before hval0 hW hcnd hsz0 _
  have hval : ∀ (j : Nat) t v, Try.f9.params[j]? = some t → args[j]? = some v → Value.okWide Try.prog W .any base t v := hval0
  have hsz : (DataW.weightsEach Try.prog (Try.f9.params.toList ++ Rows.queuePlaysSpec.plain.varTypes Try.prog) (ds ++ gs)).all (· ≤ reachBytes) = true := hsz0
  have hW' := hW
  obtain ⟨p, q, hA0, hV, rfl, hfz, hnd⟩ := hW
  have hA : DataW.TrodAll enc Try.prog W 0 (fun _ => true) true Try.f9.params.toList args.toList ds p := hA0
  rw [Try.params9] at hA hval hsz
  obtain ⟨v0, vs0, d0, ds0, p0, q0, hargs, rfl, rfl, h0, r0⟩ := trodAll_cons hA
  obtain ⟨v1, vs1, d1, ds1, p1, q1, rfl, rfl, rfl, h1, r1⟩ := trodAll_cons r0
  obtain ⟨rfl, rfl, rfl⟩ := trodAll_nil r1
  obtain rfl : args = #[v0, v1] := by cases args; simp_all
  obtain ⟨rfl, rfl⟩ := trodVars_none hV
  have k0 := h0
  have lt0 : ∀ x ∈ p0, x.block < W.heap.size := by obtain ⟨m, hm⟩ := k0; exact DataW.trod_lt m _ _ _ hm
  have k1 := h1
  have lt1 : ∀ x ∈ p1, x.block < W.heap.size := by obtain ⟨m, hm⟩ := k1; exact DataW.trod_lt m _ _ _ hm
  obtain ⟨a0, rfl, rfl, rfl, w0⟩ := open_int Try.underlying3 (hval 0 3 v0 rfl rfl) h0
  obtain ⟨a1, w1⟩ := open_acts (hval 1 57 v1 rfl rfl) h1 hsz (j := 1) rfl rfl
  clear hA0 hval0 hsz0
  refine (QueuePlays_walk a0 v1 a1 W w0 w1).mono fun e W' ⟨he, bel⟩ => ?_
  subst he
  exact ⟨_, rfl, _, _, _, [], _, [], hW', trodAll_mk1 (shut_bool Try.underlying4 _), (trodAll_cons_mk (Below.trod laidOut (by kernel_rfl) (of_decide_eq_true (by kernel_rfl)) k0 bel lt0) (trodAll_cons_mk (Below.trod laidOut (by kernel_rfl) (of_decide_eq_true (by kernel_rfl)) k1 bel lt1) trodAll_mk0)), rfl, bel.frame _, fun h => by cases h⟩
theorem over : Rows.queuePlaysRow.holds Try.pinned (OpenSpec.ofChange Rows.queuePlaysSpec) :=
  OpenClaim.holds_of_wide 9 Try.f9 rfl rfl rfl rfl rfl rfl rfl ⟨rfl, rfl, rfl, rfl, rfl⟩ rfl rfl rfl rfl rfl (by kernel_rfl) Try.func9 (by kernel_rfl)
    (of_decide_eq_true (by kernel_rfl)) (by unfold Func.isWrapper; first | (rw [if_pos (by decide +kernel)]; kernel_rfl) | (rw [if_neg (by decide +kernel)]; exact ⟨rfl, rfl⟩))
    (fun os started H enc _ => lifted os started H enc)
end QueuePlaysShell
theorem QueuePlays_holds : Rows.QueuePlaysSaid := QueuePlaysShell.over
#print axioms QueuePlays_holds
end Go.Proofs.Ytekegbadkafjlaa
