/- OutPlays: rows of calls of an Out are answered as the document says; at any life, any number of flows, any calls whose data are of bulk at most 1048576 (the given bound); no other condition. -/
import Derived.Test.YtekdggdnkmkldaaAnsP
import Derived.Test.YtekdggdnkmkldaaAnsB
import Derived.Test.YtekdggdnkmkldaaOpen
import Derived.Deep.DeepCutAuto
import Derived.Deep.RegionHeld3
import Derived.Deep.CondSized
namespace Go.Proofs.Ytekdggdnkmkldaa
set_option linter.unusedVariables false
set_option linter.unusedSimpArgs false
set_option maxRecDepth 1500
open Go.ChangeShapes Go.WideShapes Go.ChangeAt Go.RowKit

/-- A statement at which the walk is to stand still. -/
def HeldO (p : Prop) : Prop := p
theorem held_o {n : Nat} {P : Program} {ops : Array Oper} {b : Bool} {d rest : Code} {Q : Exit → Act → World → Prop} {a : Act} {w : World} (h : HeldO ((Code.seq (Code.seq (Code.region n ops b) d) rest).wp P Q a w)) :
    (Code.seq (Code.seq (Code.region n ops b) d) rest).wp P Q a w := h
theorem row_cells {w : World} {b : Nat} {c0 c1 c2 c3 c4 c5 c6 c7 c8 c9 : Value} {ty : TypeId} (h : w.heap[b]? = some (.cells #[c0, c1, c2, c3, c4, c5, c6, c7, c8, c9] ty (0, 0))) :
    w.cell? ⟨b, 0, none⟩ = some c0 ∧ w.cell? ⟨b, 1, none⟩ = some c1 ∧ w.cell? ⟨b, 2, none⟩ = some c2 ∧ w.cell? ⟨b, 3, none⟩ = some c3 ∧ w.cell? ⟨b, 4, none⟩ = some c4 ∧ w.cell? ⟨b, 5, none⟩ = some c5 ∧ w.cell? ⟨b, 6, none⟩ = some c6 ∧ w.cell? ⟨b, 7, none⟩ = some c7 ∧ w.cell? ⟨b, 8, none⟩ = some c8 := by
  refine ⟨?_, ?_, ?_, ?_, ?_, ?_, ?_, ?_, ?_⟩ <;> (rw [cell_of_heap h]; rfl)

theorem formB {w : World} {u : Value} {l : List Int} (h : Bytes w u l) : ∃ a cap, u = .slice a l.length cap := by
  rcases h.cases with ⟨a, cap, rfl, h0⟩ | ⟨b, off, cap, rfl, _⟩
  · exact ⟨a, cap, by rw [h0]; rfl⟩
  · exact ⟨_, cap, rfl⟩
section
variable {A : Frm → World → Prop} {r s n b : Nat} {y : OutV} {w wr : World} {c0 c1 c2 c3 c4 c5 c6 c7 c8 c9 : Value} {ty : TypeId}
theorem PPq.cells0 (h : PPq A (ROutO r s n y) b (.cells #[c0, c1, c2, c3, c4, c5, c6, c7, c8, c9] ty (0, 0)) w wr) (pa : Parts A) : wr.cell? ⟨b, 3, none⟩ = some c3 ∧ wr.cell? ⟨b, 4, none⟩ = some c4 ∧ wr.cell? ⟨b, 6, none⟩ = some c6 ∧ wr.cell? ⟨r, 0, none⟩ = some (.pointer (some ⟨s, 0, none⟩)) := by
  obtain ⟨_, _, _, k3, k4, _, k6, _, _⟩ := row_cells h.blk
  exact ⟨k3, k4, k6, (ROutAt.cells (h.snd pa (parts_routo _ _ _ _))).1⟩
theorem PPq.cells1 (h : PPq A (ROutO r s n y) b (.cells #[c0, c1, c2, c3, c4, c5, c6, c7, c8, c9] ty (0, 0)) w wr) : wr.cell? ⟨b, 1, none⟩ = some c1 ∧ wr.cell? ⟨b, 3, none⟩ = some c3 ∧ wr.cell? ⟨b, 5, none⟩ = some c5 ∧ wr.cell? ⟨b, 6, none⟩ = some c6 ∧ wr.cell? ⟨b, 7, none⟩ = some c7 := by
  obtain ⟨_, k1, _, k3, _, k5, k6, k7, _⟩ := row_cells h.blk
  exact ⟨k1, k3, k5, k6, k7⟩
end
theorem known_r {w0 : Frm} {w : World} {o s n : Nat} {x : OutV} (h : ROutAt w0 w o s n x) (f : Int) (B : Nat) (b : Bool) (hk : x.known f = (B, b)) : Calls Try.prog 30 #[.pointer (some ⟨o, 0, none⟩), .int .i64 f] w fun e w' => e = .returned (.tuple #[.int .u64 B, .bool b]) ∧ w = w' := by
  obtain ⟨vt, vl, ts, es, c, h, _⟩ := h
  exact rout_known h f B b hk
theorem rank_r {w0 : Frm} {w : World} {o s n : Nat} {x : OutV} (h : ROutAt w0 w o s n x) (f : Int) (gen : Nat) (r : Nat) (hr : x.rank f gen = r) : Calls Try.prog 31 #[.pointer (some ⟨o, 0, none⟩), .int .i64 f, .int .u64 gen] w fun e w' => e = .returned (.int .i64 (r : Nat)) ∧ w = w' := by
  obtain ⟨vt, vl, ts, es, c, h, _⟩ := h
  exact rout_rank h f gen r hr
theorem two_cells {w : World} {b : Nat} {u0 u1 : Value} {ty : TypeId} (h : w.heap[b]? = some (.cells #[u0, u1] ty (0, 0))) : w.cell? ⟨b, 0, none⟩ = some u0 ∧ w.cell? ⟨b, 1, none⟩ = some u1 ∧ w.frozen? ⟨b, 0, none⟩ = false ∧ w.frozen? ⟨b, 1, none⟩ = false := by
  refine ⟨?_, ?_, frozen_of_heap h 0, frozen_of_heap h 1⟩ <;> (rw [cell_of_heap h]; rfl)
theorem store_two {w : World} {b : Nat} {u0 u1 : Value} {ty : TypeId} (h : w.heap[b]? = some (.cells #[u0, u1] ty (0, 0))) (v0 v1 : Value) : ((w.setCell ⟨b, 0, none⟩ v0).setCell ⟨b, 1, none⟩ v1).heap[b]? = some (.cells #[v0, v1] ty (0, 0)) := by
  rw [setCell_heap (setCell_heap h 0 v0) 1 v1]
  rfl
theorem store_other {w : World} {b c : Nat} (hc : c ≠ b) (v0 v1 : Value) : ((w.setCell ⟨b, 0, none⟩ v0).setCell ⟨b, 1, none⟩ v1).heap[c]? = w.heap[c]? := by
  by_cases hl : c < w.heap.size
  · exact (Ext.setCell (S := fun k => k = b) (Ext.setCell (S := fun k => k = b) (Ext.refl _ _) ⟨b, 0, none⟩ (Or.inr rfl) v0) ⟨b, 1, none⟩ (Or.inr rfl) v1).block c hl hc
  · rw [Array.getElem?_eq_none (by simp; omega), Array.getElem?_eq_none (by omega)]
theorem PPq.out {p r s n b : Nat} {x : OutV} {o : Obj} {w wr : World} (h : PPq (OutO p n x) (ROutO r s n x) b o w wr) : OutAt (Frm.of w) wr p n x := h.fst (parts_outo _ _ _) (parts_routo _ _ _ _)
theorem PPq.rout {p r s n b : Nat} {x : OutV} {o : Obj} {w wr : World} (h : PPq (OutO p n x) (ROutO r s n x) b o w wr) : ROutAt (Frm.of w) wr r s n x := h.snd (parts_outo _ _ _) (parts_routo _ _ _ _)
/-- Both answers to Use. -/
theorem uses {p r s n : Nat} {x : OutV} {z : Frm} {wr : World} (h0 : Star (OutO p n x) (ROutO r s n x) z wr) (F : Int) (N : Nat) (hN : N < 18446744073709551616) (hn : n ≤ 1000) : ∃ (U V E : Int) (y : OutV) (n' : Nat), n' ≤ n + 1 ∧
    (∀ (b : Nat) (o : Obj) (w w1 : World), PPq (OutO p n x) (ROutO r s n x) b o w w1 → Calls Try.prog 13 #[.pointer (some ⟨p, 0, none⟩), .agg #[.int .i64 F, .int .u64 N]] w1 fun e w' => e = .returned (.tuple #[.int .u64 U, .int .u64 V, .int .i64 E]) ∧ PPq (OutO p n' y) (ROutO r s n x) b o w w') ∧
    (∀ (b : Nat) (o : Obj) (w w1 : World), PPq (OutO p n' y) (ROutO r s n x) b o w w1 → Calls Try.prog 32 #[.pointer (some ⟨r, 0, none⟩), .agg #[.int .i64 F, .int .u64 N]] w1 fun e w' => e = .returned (.tuple #[.int .u64 U, .int .u64 V, .int .i64 E]) ∧ PPq (OutO p n' y) (ROutO r s n' y) b o w w') := by
  obtain ⟨hm, ht⟩ := OutAt.facts (Star.l (parts_outo p n x) h0)
  obtain ⟨cnt, hc, hcn⟩ := ROutAt.sent (Star.r (parts_routo r s n x) h0) ⟨F, N⟩
  by_cases ha : F < 0 ∨ (x.told.length : Int) ≤ F
  · refine ⟨0, 0, 1, x, n, by omega, fun b o w w1 h => ?_, fun b o w w1 h => ?_⟩
    · refine (ouse_arg (h.fst (parts_outo _ _ _) (parts_routo _ _ _ _)) ⟨F, N⟩ ha).mono ?_
      rintro e w' ⟨rfl, g⟩
      exact ⟨rfl, h.more (parts_outo _ _ _) (parts_routo _ _ _ _) g⟩
    · refine (rout_use_arg (h.snd (parts_outo _ _ _) (parts_routo _ _ _ _)) ⟨F, N⟩ ha).mono ?_
      rintro e w' ⟨rfl, g⟩
      exact ⟨rfl, h.more (parts_outo _ _ _) (parts_routo _ _ _ _) g⟩
  · obtain ⟨i, rfl⟩ := Int.eq_ofNat_of_zero_le (show 0 ≤ F by omega)
    by_cases hu : x.gr ≤ x.used
    · refine ⟨0, 0, 26, x, n, by omega, fun b o w w1 h => ?_, fun b o w w1 h => ?_⟩
      · refine (use_noT (h.fst (parts_outo _ _ _) (parts_routo _ _ _ _)) i N (by omega) (by omega) (by omega) hu).mono ?_
        rintro e w' ⟨rfl, g⟩
        exact ⟨rfl, h.more (parts_outo _ _ _) (parts_routo _ _ _ _) g⟩
      · refine (rout_use_no (h.snd (parts_outo _ _ _) (parts_routo _ _ _ _)) i (by omega) N hu).mono ?_
        rintro e w' ⟨rfl, g⟩
        exact ⟨rfl, h.more (parts_outo _ _ _) (parts_routo _ _ _ _) g⟩
    · refine ⟨((x.used + 1 : Nat) : Int), cnt, 0, x.use ⟨i, N⟩, n + 1, by omega, fun b o w w1 h => ?_, fun b o w w1 h => ?_⟩
      · exact pq_use h (parts_routo _ _ _ _) ⟨i, N⟩ (by show (0 : Int) ≤ i; omega) (by show (i : Int) < x.told.length; omega) hN (by omega) hn cnt hc hcn i N _ cnt rfl rfl rfl rfl
      · exact pq_ruse h (parts_outo _ _ _) ⟨i, N⟩ (by show (0 : Int) ≤ i; omega) (by show (i : Int) < x.told.length; omega) (by omega) hm hn cnt hc i N _ cnt rfl rfl rfl rfl

set_option maxHeartbeats 16000000 in
theorem OutPlays_walk (life flows : Int) (v : Value) (xs : List ActL) (w : World) (h0 : (Lit.int .u64 life).wf = true) (h1 : (Lit.int .i64 flows).wf = true) (h2 : ActLs w v xs) (h3 : ∀ a ∈ xs, (a.own.map List.length).sum ≤ 1048576) :
    Calls Try.prog 5 #[.int .u64 life, .int .i64 flows, v] w fun e w' => e = .returned (.bool true) ∧ Below w.heap.size w w' := by
  obtain ⟨va, vc, rfl⟩ := h2.form
  have AC := Lib.hid h2
  have HX := Lib.hid h3
  have hxl := h2.2
  have hl0 := (wf64' h0).1
  clear h1 h2 h3
  obtain ⟨lf, rfl⟩ := Int.eq_ofNat_of_zero_le hl0
  clear h0 hl0
  by_cases hp : ¬ (1 ≤ lf ∧ lf ≤ Most) ∨ flows < 1 ∨ 4 < flows
  · have HP := Lib.hid hp
    clear hp
    go_enter Try.func5, Try.ntmps5
    go_wp2_with fail
    refine (awake22 _).mono ?_
    rintro e w1 ⟨rfl, hg1⟩
    have HG := Lib.hid hg1
    clear hg1
    go_wp2_with fail
    refine (out_new_no lf flows _ HP.out).mono ?_
    rintro e w2 ⟨rfl, rfl⟩
    go_wp2_with fail
    refine (rout_new_no lf flows _ HP.out).mono ?_
    rintro e w2 ⟨rfl, hg2⟩
    have HG2 := Lib.hid (HG.out.trans hg2)
    clear hg2 HG
    go_wp2
    go_ret
    exact ⟨rfl, Ext.to_below HG2.out⟩
  · obtain ⟨p, rfl⟩ := Int.eq_ofNat_of_zero_le (show 0 ≤ flows by omega)
    have p1 : 1 ≤ p := by omega
    have p2 : p ≤ 4 := by omega
    have HL := Lib.hid (show 1 ≤ lf ∧ lf ≤ Most from Classical.byContradiction fun h => hp (.inl h))
    clear hp
    go_enter Try.func5, Try.ntmps5
    go_wp2_with fail
    refine (awake22 _).mono ?_
    rintro e w1 ⟨rfl, hg1⟩
    have HG := Lib.hid hg1
    clear hg1
    go_wp2_with fail
    refine (out_new lf p w1 HL.out.1 HL.out.2 p1 p2).mono ?_
    rintro e w2 ⟨o, rfl, hi⟩
    have HI := Lib.hid ((parts_outo o 0 _).lift (z := Frm.of w) (w := w1) (F := fun _ => False) hi (fun _ h => h.elim) HG.out)
    clear hi HG
    go_wp2_with fail
    refine (rout_new lf p w2 HL.out.1 HL.out.2 p1 p2).mono ?_
    rintro e w3 ⟨r, s, rfl, hr⟩
    have HS := Lib.hid (Star.mkR (parts_outo o 0 _) (parts_routo r s 0 _) HI.out hr)
    clear hr HI HL
    go_wp2
    go_loopg [55] xs.length (fun k c wr => ∃ (m n : Nat) (x : OutV), m ≤ xs.length ∧ m ≤ 100 ∧ n ≤ m ∧ k = xs.length - m ∧ c = .int .i64 (m : Nat) ∧ Star (OutO o n x) (ROutO r s n x) (Frm.of w) wr)
    case atStart => exact ⟨0, 0, _, by omega, by omega, by omega, by omega, rfl, HS.out⟩
    case round =>
      obtain ⟨m, n, x, hm, hm1, hn, hk, rfl, hS⟩ := hrel
      have HK := Lib.hid (And.intro hk hn)
      have HI := Lib.hid hS
      have HW := Lib.hid (show Grows w wr from (parts_outo o n x).gw (Star.l (parts_outo o n x) hS))
      clear hk hn hS HS
      by_cases hlt : m < xs.length
      · have j0 : (0 : Int) ≤ (m : Int) := by omega
        have j1 : (m : Int) < (xs.length : Int) := by omega
        obtain ⟨bl, off, cap, cs, e, hbl, hac, hcs⟩ := AC.out.at m hlt
        injection e with e1 e2 e3
        subst e1 e3
        clear e2
        have hox := HX.out xs[m] (List.getElem_mem hlt)
        generalize xs[m] = a at hac hox
        obtain ⟨u1, u2, u3, rfl, hac2⟩ := hac
        obtain ⟨a1, k1, rfl⟩ := hac2.1.form
        obtain ⟨a2, k2, rfl⟩ := hac2.2.1.1
        obtain ⟨a3, k3, rfl⟩ := formB hac2.2.2.1
        have hcc : ∀ k, wr.cell? ⟨bl, k, none⟩ = w.cell? ⟨bl, k, none⟩ := fun k => HW.out.cell (p := ⟨bl, k, none⟩) hbl (fun h => h)
        have c0 := (hcc _).trans (hcs 0 (by omega))
        have c1 := (hcc _).trans (hcs 1 (by omega))
        have c2 := (hcc _).trans (hcs 2 (by omega))
        have c3 := (hcc _).trans (hcs 3 (by omega))
        have c4 := (hcc _).trans (hcs 4 (by omega))
        have c5 := (hcc _).trans (hcs 5 (by omega))
        have c6 := (hcc _).trans (hcs 6 (by omega))
        have c7 := (hcc _).trans (hcs 7 (by omega))
        have c8 := (hcc _).trans (hcs 8 (by omega))
        have c9 := (hcc _).trans (hcs 9 (by omega))
        simp only [List.getElem?_cons_zero, List.getElem?_cons_succ, Nat.add_zero] at c0 c1 c2 c3 c4 c5 c6 c7 c8 c9
        clear hcs hcc
        have HB := Lib.hid (And.intro hac2 hox)
        clear hac2 hox
        obtain ⟨aw, af, awd, al, att, acn, an, ars, aow, abb⟩ := a
        simp only at c0 c1 c2 c3 c4 c5 c6 c7 c8 c9 HB
        by_cases h100 : m < 100
        · have j2 : ((m : Int) == 100) = false := by simp; omega
          have HA := Lib.hid (show PPq (OutO o n x) (ROutO r s n x) wr.heap.size (.cells #[.int .i64 aw, .int .i64 af, .int .i64 awd, .int .u64 al, .int .u64 att, .int .u64 acn, .int .u64 an, .slice a1 ars.length k1, .slice a2 aow.length k2, .slice a3 abb.length k3] 70) w (wr.alloc (.cells #[.int .i64 aw, .int .i64 af, .int .i64 awd, .int .u64 al, .int .u64 att, .int .u64 acn, .int .u64 an, .slice a1 ars.length k1, .slice a2 aow.length k2, .slice a3 abb.length k3] 70)) from Star.mkR (parts_star (parts_outo o n x) (parts_routo r s n x)) (parts_blk _ _) HI.out (Blk.new wr _))
          go_upto_region 14 with (with_reducible refine held_o (n := 14) ?_)
          unfold HeldO
          go_step
          clear c0 c1 c2 c3 c4 c5 c6 c7 c8 c9
          generalize wr.alloc (.cells #[.int .i64 aw, .int .i64 af, .int .i64 awd, .int .u64 al, .int .u64 att, .int .u64 acn, .int .u64 an, .slice a1 ars.length k1, .slice a2 aow.length k2, .slice a3 abb.length k3] 70) = wa at HA ⊢
          generalize wr.heap.size = b10 at HA ⊢
          have HR := Lib.hid (fun (w' : World) (g : Grows w w') => (HB.out.1.1.grows g : Rs w' (.slice a1 ars.length k1) ars))
          have HRR := Lib.hid (fun (w' : World) (g : Grows w w') => (HB.out.1.2.1.grows g : Rss w' (.slice a2 aow.length k2) aow))
          go_cut [13, 14] (fun s1 s2 w' => ∃ (E : Int) (y : OutV) (f : Int) (g : Nat), s1 = .int .i64 E ∧ s2 = .int .i64 E ∧ g < 18446744073709551616 ∧ PPq (OutO o n y) (ROutO r s n y) b10 (.cells #[.int .i64 aw, .int .i64 f, .int .i64 awd, .int .u64 al, .int .u64 att, .int .u64 acn, .int .u64 g, .slice a1 ars.length k1, .slice a2 aow.length k2, .slice a3 abb.length k3] 70) w w')
          case first =>
            have k0 := cell_of_heap HA.out.blk 0
            simp at k0
            have hw : aw = 0 ∨ aw = 1 ∨ aw = 2 ∨ aw = 4 ∨ ((aw == 0) = false ∧ (aw == 1) = false ∧ (aw == 2) = false ∧ (aw == 4) = false) := by simp; omega
            rcases hw with rfl | rfl | rfl | rfl | ⟨t0, t1, t2, t3⟩
            · as_aux_lemma =>
              go_upto_region 16 with fail
              clear k0
              obtain ⟨_, _, _, k3', k4', _, k6', _, _⟩ := row_cells HA.out.blk
              have kr := (ROutAt.cells (HA.out.snd (parts_outo _ _ _) (parts_routo _ _ _ _))).1
              obtain ⟨E, hE⟩ : ∃ E, takeE x.own x.peer al att an = E := ⟨_, rfl⟩
              have HD := Lib.hid (PPq.more (w' := wa.drew) (parts_outo _ _ _) (parts_routo _ _ _ _) HA.out (Ext.drewN_r 1))
              have HE := Lib.hid hE
              have HN := Lib.hid HB.out.1.2.2.2.2.2.2.2
              clear hE
              go_region_held3 (fun w' => w'.cell? ⟨b10, 3, none⟩ = some (.int .u64 al) ∧ w'.cell? ⟨b10, 4, none⟩ = some (.int .u64 att) ∧ w'.cell? ⟨b10, 6, none⟩ = some (.int .u64 an) ∧ w'.cell? ⟨r, 0, none⟩ = some (.pointer (some ⟨s, 0, none⟩)))
                (first
                  | go_keep
                  | exact h6.cells0 (parts_outo _ _ _)
                  | exact h5.cells0 (parts_outo _ _ _))
                (first
                  | (go_at_call 10; with_reducible refine (pq_credit HD.out (parts_routo _ _ _ _) al att an E HE.out).mono ?_; rintro e w5 ⟨rfl, h5⟩)
                  | (go_at_call 27; with_reducible refine (pq_rtake h5 (parts_outo _ _ _) al att an E HE.out).mono ?_; rintro e w6 ⟨rfl, h6⟩))
              all_goals
                have A := Lib.hid h6
                clear h5 h6 k3' k4' k6' kr HA HD HE
                go_wp2
                go_meet
                exact ⟨E, _, af, an, rfl, rfl, HN.out, A.out⟩
            · as_aux_lemma =>
              go_upto_region 18 with fail
              clear k0
              obtain ⟨k1', k3', k5', k6', k7'⟩ := HA.out.cells1
              obtain ⟨E, hE⟩ : ∃ E, feedE x af al acn an ars = E := ⟨_, rfl⟩
              have HD := Lib.hid (PPq.more (w' := wa.drew) (parts_outo _ _ _) (parts_routo _ _ _ _) HA.out (Ext.drewN_r 1))
              have HE := Lib.hid hE
              have HN := Lib.hid HB.out.1.2.2.2.2.2.2.2
              clear hE
              go_region_held3 (fun w' => w'.cell? ⟨b10, 1, none⟩ = some (.int .i64 af) ∧ w'.cell? ⟨b10, 3, none⟩ = some (.int .u64 al) ∧ w'.cell? ⟨b10, 5, none⟩ = some (.int .u64 acn) ∧ w'.cell? ⟨b10, 6, none⟩ = some (.int .u64 an) ∧ w'.cell? ⟨b10, 7, none⟩ = some (.slice a1 ars.length k1))
                (first
                  | go_keep
                  | exact h6.cells1
                  | exact h5.cells1)
                (first
                  | (go_at_call 11; with_reducible refine (pq_feed HD.out (parts_routo _ _ _ _) af al acn an _ ars (HR.out _ (HD.out.grows (parts_outo _ _ _) (parts_routo _ _ _ _))) HN.out E HE.out).mono ?_; rintro e w5 ⟨rfl, h5⟩)
                  | (go_at_call 28; with_reducible refine (pq_rfeed h5 (parts_outo _ _ _) af al acn an _ ars (HR.out _ (h5.grows (parts_outo _ _ _) (parts_routo _ _ _ _))) E HE.out).mono ?_; rintro e w6 ⟨rfl, h6⟩))
              all_goals
                have A := Lib.hid h6
                clear h5 h6 k1' k3' k5' k6' k7' HA HD HE
                go_wp2
                go_meet
                exact ⟨E, _, af, an, rfl, rfl, HN.out, A.out⟩
            · as_aux_lemma =>
              obtain ⟨F, E, G, hG, hp1, hp2⟩ := picks x awd aow (fun W' => Nat.le_trans (mayOwn_sum x W' aow) HB.out.2) HB.out.1.2.1.okay
              have HP := Lib.hid (And.intro hG (And.intro hp1 hp2))
              clear hG hp1 hp2
              go_upto_region 22 with fail
              clear k0
              have ga : Grows wa ((wa.alloc (.cells #[.int .i64 0, .int .u64 0] 31)).alloc (.cells #[.int .i64 0, .int .u64 0] 74)) := ((Ext.refl _ _).alloc _).alloc _
              have h15 : ((wa.alloc (.cells #[.int .i64 0, .int .u64 0] 31)).alloc (.cells #[.int .i64 0, .int .u64 0] 74)).heap[wa.heap.size]? = some (.cells #[.int .i64 0, .int .u64 0] 31) := by simp only [heap_alloc_get, World.size_alloc, ↓reduceIte]; (repeat (first | rw [if_pos (by omega)] | rw [if_neg (by omega)])); try rfl
              have h16 : ((wa.alloc (.cells #[.int .i64 0, .int .u64 0] 31)).alloc (.cells #[.int .i64 0, .int .u64 0] 74)).heap[wa.heap.size + 1]? = some (.cells #[.int .i64 0, .int .u64 0] 74) := by simp only [heap_alloc_get, World.size_alloc, ↓reduceIte]; (repeat (first | rw [if_pos (by omega)] | rw [if_neg (by omega)])); try rfl
              generalize ((wa.alloc (.cells #[.int .i64 0, .int .u64 0] 31)).alloc (.cells #[.int .i64 0, .int .u64 0] 74)) = wb at ga h15 h16 ⊢
              obtain ⟨b16, e16⟩ : ∃ b16, wa.heap.size + 1 = b16 := ⟨_, rfl⟩
              rw [e16] at h16 ⊢
              obtain ⟨b15, e15⟩ : ∃ b15, wa.heap.size = b15 := ⟨_, rfl⟩
              rw [e15] at h15 ⊢
              have HZ := Lib.hid (show b15 ≠ b16 ∧ wa.heap.size ≤ b15 ∧ wa.heap.size ≤ b16 by omega)
              clear e15 e16
              have HB2 := Lib.hid (PPq.more (parts_outo _ _ _) (parts_routo _ _ _ _) HA.out ga)
              have GW := Lib.hid (And.intro ga (And.intro h15 h16))
              clear ga h15 h16
              obtain ⟨_, _, k2', _, _, _, _, _, k8'⟩ := row_cells HB2.out.blk
              go_wp2_with fail
              refine (HP.out.2.1 _ _ _ _ _ (HB2.out.fst (parts_outo _ _ _) (parts_routo _ _ _ _)) (HRR.out _ (HB2.out.grows (parts_outo _ _ _) (parts_routo _ _ _ _)))).mono ?_
              rintro e w5 ⟨rfl, g5⟩
              have h15 := (g5.block b15 (heap_lt GW.out.2.1) (fun h => h)).trans GW.out.2.1
              have h16 := (g5.block b16 (heap_lt GW.out.2.2) (fun h => h)).trans GW.out.2.2
              obtain ⟨f0, f1, z0, z1⟩ := two_cells h15
              have GX := Lib.hid (And.intro (GW.out.1.trans g5) (And.intro h15 h16))
              clear GW HB2 g5 h15 h16 k2' k8'
              go_upto_region 23 with fail
              clear f0 f1 z0 z1
              have h15 := store_two GX.out.2.1 (.int .i64 F) (.int .u64 G)
              have h16 := (store_other (Ne.symm HZ.out.1) (.int .i64 F) (.int .u64 G)).trans GX.out.2.2
              have ga := Ext.setCell (Ext.setCell GX.out.1 ⟨b15, 0, none⟩ (Or.inl HZ.out.2.1) (.int .i64 F)) ⟨b15, 1, none⟩ (Or.inl HZ.out.2.1) (.int .u64 G)
              generalize ((w5.setCell ⟨b15, 0, none⟩ (.int .i64 F)).setCell ⟨b15, 1, none⟩ (.int .u64 G)) = w6 at h15 h16 ga ⊢
              have HB2 := Lib.hid (PPq.more (parts_outo _ _ _) (parts_routo _ _ _ _) HA.out ga)
              have GW := Lib.hid (And.intro ga (And.intro h15 h16))
              clear ga h15 h16 GX
              obtain ⟨_, _, k2', _, _, _, _, _, k8'⟩ := row_cells HB2.out.blk
              go_wp2_with fail
              refine (HP.out.2.2 _ _ _ _ _ _ (HB2.out.snd (parts_outo _ _ _) (parts_routo _ _ _ _)) (HRR.out _ (HB2.out.grows (parts_outo _ _ _) (parts_routo _ _ _ _)))).mono ?_
              rintro e w7 ⟨rfl, g7⟩
              have h15 := (g7.block b15 (heap_lt GW.out.2.1) (fun h => h)).trans GW.out.2.1
              have h16 := (g7.block b16 (heap_lt GW.out.2.2) (fun h => h)).trans GW.out.2.2
              obtain ⟨f0, f1, z0, z1⟩ := two_cells h16
              have GX := Lib.hid (And.intro (GW.out.1.trans g7) (And.intro h15 h16))
              clear GW HB2 g7 h15 h16 k2' k8'
              go_upto_region 24 with fail
              clear f0 f1 z0 z1
              have h16 := store_two GX.out.2.2 (.int .i64 F) (.int .u64 G)
              have h15 := (store_other HZ.out.1 (.int .i64 F) (.int .u64 G)).trans GX.out.2.1
              have ga := Ext.setCell (Ext.setCell GX.out.1 ⟨b16, 0, none⟩ (Or.inl HZ.out.2.2) (.int .i64 F)) ⟨b16, 1, none⟩ (Or.inl HZ.out.2.2) (.int .u64 G)
              generalize ((w7.setCell ⟨b16, 0, none⟩ (.int .i64 F)).setCell ⟨b16, 1, none⟩ (.int .u64 G)) = w8 at h15 h16 ga ⊢
              have HB2 := Lib.hid (PPq.more (parts_outo _ _ _) (parts_routo _ _ _ _) HA.out ga)
              obtain ⟨f0, f1, _, _⟩ := two_cells h15
              obtain ⟨f2, f3, _, _⟩ := two_cells h16
              clear ga h15 h16 GX
              by_cases hE : E = 0
              · subst hE
                obtain ⟨_, k1', _, _, _, _, k6', _, _⟩ := row_cells HB2.out.blk
                have z1' := frozen_of_heap HB2.out.blk 1
                have z6' := frozen_of_heap HB2.out.blk 6
                go_wp2_with fail
                have q1 : ¬ b16 = b10 := by have := heap_lt HA.out.blk; have := HZ.out.2.2; omega
                have q2 : ¬ b10 = b16 := fun h => q1 h.symm
                go_region
                have A := Lib.hid (PPq.more (parts_outo _ _ _) (parts_routo _ _ _ _) (PPq.set (parts_outo _ _ _) (parts_routo _ _ _ _) (PPq.set (parts_outo _ _ _) (parts_routo _ _ _ _) HB2.out 1 (.int .i64 F)) 6 (.int .u64 G)) (Ext.drew (Ext.refl _ _)))
                clear k1' k6' z1' z6' f0 f1 f2 f3 q1 q2
                go_wp2
                go_meet
                exact ⟨0, x, F, G, rfl, rfl, HP.out.1, A.out⟩
              · have hE' : (E == 0) = false := by simpa using hE
                go_wp2
                go_meet
                exact ⟨E, x, af, an, rfl, rfl, HB.out.1.2.2.2.2.2.2.2, HB2.out⟩
            · as_aux_lemma =>
              obtain ⟨_, k1', _, _, _, _, k6', _, _⟩ := row_cells HA.out.blk
              obtain ⟨B, b, hk⟩ : ∃ B b, x.known af = (B, b) := ⟨_, _, rfl⟩
              obtain ⟨rk, hrk⟩ : ∃ rk, x.rank af an = rk := ⟨_, rfl⟩
              have HK2 := Lib.hid (And.intro hk hrk)
              have HN := Lib.hid HB.out.1.2.2.2.2.2.2.2
              clear hk hrk
              go_wp2_with fail
              refine (out_known (HA.out.fst (parts_outo _ _ _) (parts_routo _ _ _ _)) af B b HK2.out.1).mono ?_
              rintro e w5 ⟨rfl, rfl⟩
              clear k0
              go_wp2_with fail
              refine (known_r (HA.out.snd (parts_outo _ _ _) (parts_routo _ _ _ _)) af B b HK2.out.1).mono ?_
              rintro e w5 ⟨rfl, rfl⟩
              have HD := Lib.hid (PPq.more (w' := wa.drew) (parts_outo _ _ _) (parts_routo _ _ _ _) HA.out (Ext.drewN_r 1))
              go_upto_region 31 with fail
              go_region_held3 (fun w' => w'.cell? ⟨b10, 1, none⟩ = some (.int .i64 af) ∧ w'.cell? ⟨b10, 6, none⟩ = some (.int .u64 an))
                (first
                  | go_keep
                  | exact ⟨(HD.out.more (parts_outo _ _ _) (parts_routo _ _ _ _) g5).cells1.1, (HD.out.more (parts_outo _ _ _) (parts_routo _ _ _ _) g5).cells1.2.2.2.1⟩)
                (first
                  | (go_at_call 20; with_reducible refine (out_rank HD.out.out af an rk HK2.out.2).mono ?_; rintro e w5 ⟨rfl, g5⟩)
                  | (go_at_call 31; with_reducible refine (rank_r (HD.out.more (parts_outo _ _ _) (parts_routo _ _ _ _) g5).rout af an rk HK2.out.2).mono ?_; rintro e w6 ⟨rfl, rfl⟩))
              all_goals
                have A := Lib.hid (HD.out.more (parts_outo _ _ _) (parts_routo _ _ _ _) g5)
                clear g5 k1' k6' HA HD HK2
                go_wp2
                go_meet
                exact ⟨0, x, af, an, rfl, rfl, HN.out, A.out⟩
            · go_wp2
              go_meet
              exact ⟨0, x, af, an, rfl, rfl, HB.out.1.2.2.2.2.2.2.2, HA.out⟩
          case rest =>
            clear HA
            obtain ⟨E, y, f, g, rfl, rfl, hg, hP⟩ := hcut
            have HC := Lib.hid (And.intro hg hP)
            clear hg hP
            go_upto_region 35 with (with_reducible refine held_o (n := 35) ?_)
            unfold HeldO
            go_step
            go_cut [] (fun w' => ∃ (y' : OutV) (n' : Nat), n' ≤ n + 1 ∧ Star (OutO o n' y') (ROutO r s n' y') (Frm.of w) w')
            case first =>
              obtain ⟨k0, k1', _, _, _, _, k6', _, _⟩ := row_cells HC.out.2.blk
              obtain ⟨U, V, E2, y2, n2, hn2, hu1, hu2⟩ := uses (HC.out.2.both (parts_outo _ _ _) (parts_routo _ _ _ _)) f g HC.out.1 (by have := HK.out; omega)
              have HU := Lib.hid (And.intro hn2 (And.intro hu1 hu2))
              clear hn2 hu1 hu2
              have hU : aw = 3 ∨ (aw = 2 ∧ E = 0) ∨ ((aw == 3) = false ∧ (aw == 2) = false) ∨ (aw = 2 ∧ (E == 0) = false) := by simp; omega
              rcases hU with rfl | ⟨rfl, rfl⟩ | ⟨t0, t1⟩ | ⟨rfl, t0⟩
              · as_aux_lemma =>
                go_wp2_with fail
                refine (HU.out.2.1 _ _ _ _ HC.out.2).mono ?_
                rintro e w5 ⟨rfl, h5⟩
                have H5 := Lib.hid h5
                clear h5 k0 k1' k6'
                obtain ⟨_, k1', _, _, _, _, k6', _, _⟩ := row_cells H5.out.blk
                go_wp2_with fail
                refine (HU.out.2.2 _ _ _ _ H5.out).mono ?_
                rintro e w6 ⟨rfl, h6⟩
                have A := Lib.hid (h6.both (parts_outo _ _ _) (parts_routo _ _ _ _))
                clear h6 H5 k1' k6'
                go_wp2
                go_meet
                exact ⟨y2, n2, HU.out.1, A.out⟩
              · as_aux_lemma =>
                go_wp2_with fail
                refine (HU.out.2.1 _ _ _ _ HC.out.2).mono ?_
                rintro e w5 ⟨rfl, h5⟩
                have H5 := Lib.hid h5
                clear h5 k0 k1' k6'
                obtain ⟨_, k1', _, _, _, _, k6', _, _⟩ := row_cells H5.out.blk
                go_wp2_with fail
                refine (HU.out.2.2 _ _ _ _ H5.out).mono ?_
                rintro e w6 ⟨rfl, h6⟩
                have A := Lib.hid (h6.both (parts_outo _ _ _) (parts_routo _ _ _ _))
                clear h6 H5 k1' k6'
                go_wp2
                go_meet
                exact ⟨y2, n2, HU.out.1, A.out⟩
              · go_wp2
                go_meet
                exact ⟨y, n, by omega, HC.out.2.both (parts_outo _ _ _) (parts_routo _ _ _ _)⟩
              · go_wp2
                go_meet
                exact ⟨y, n, by omega, HC.out.2.both (parts_outo _ _ _) (parts_routo _ _ _ _)⟩
            case rest =>
              obtain ⟨y', n', hn', hS2⟩ := hcut
              obtain ⟨c0, c1, c2⟩ := ROutAt.cells (Star.r (parts_routo _ _ _ _) hS2)
              have HSI := Lib.hid (show OutAt (Frm.of w) wc o n' y' from Star.l (parts_outo _ _ _) hS2)
              have HS := Lib.hid (And.intro hn' hS2)
              clear hn' hS2
              go_upto_region 40 with fail
              go_quiet
                (first
                  | (go_at_call 21; exact quiet_same (out_sent ((parts_outo _ _ _).more HSI.out (Ext.drewN_r _))))
                  | (go_at_call 22; exact quiet_same (out_granted ((parts_outo _ _ _).more HSI.out (Ext.drewN_r _)))))
              have A := Lib.hid ((parts_star (parts_outo o n' y') (parts_routo r s n' y')).more HS.out.2 (Ext.drewN_r nq))
              clear c0 c1 c2 HSI
              go_wp2
              go_roundg (xs.length - (m + 1))
              case measure => have := HK.out; omega
              case rel => exact ⟨m + 1, n', y', by omega, by omega, by have := HK.out; have := HS.out; omega, by omega, by go_num, A.out⟩
        · obtain rfl : m = 100 := by omega
          have HG := Lib.hid (HW.out.alloc (.cells #[.int .i64 aw, .int .i64 af, .int .i64 awd, .int .u64 al, .int .u64 att, .int .u64 acn, .int .u64 an, .slice a1 ars.length k1, .slice a2 aow.length k2, .slice a3 abb.length k3] 70))
          go_wp2
          go_ret
          exact ⟨rfl, Ext.to_below HG.out⟩
      · have j1 : ¬ (m : Int) < (xs.length : Int) := by omega
        go_wp2
        go_ret
        exact ⟨rfl, Ext.to_below HW.out⟩
namespace OutPlaysShell
theorem own : ownKnob Try.prog.godebug = none := by kernel_rfl
theorem laidOut : laidOutB Try.prog = true := by kernel_rfl
/-- What the bound says of the calls. -/
theorem short {H : Type} {n m : Int} {d : DataW H} (hk : Rows.uptoSmall H [.lit (.int .u64 n), .lit (.int .i64 m), d] = true) : Rows.uptoBulk d ≤ 1048576 := by
  have h : Rows.uptoBulkAll [DataW.lit (H := H) (.int .u64 n), .lit (.int .i64 m), d] ≤ 1048576 := of_decide_eq_true hk
  simp only [Rows.uptoBulkAll, Rows.uptoBulk] at h
  omega
set_option maxRecDepth 100000 in
theorem lifted (os : Os) (started : os.Started) (H : Type) (enc : TypeId × Value → H) (F : Stop.Interp) :
    ReturnsInHanded {} Try.checked os 5 .any ((Rows.OpenSpec.upto Rows.outPlaysSpec).pre6 enc Try.prog Try.f5 Rows.outPlaysUptoRow.domain false) (((Rows.OpenSpec.upto Rows.outPlaysSpec).at F).post enc Try.prog Try.f5 false true false false) := by
  refine returnsInHanded_of_cond_sized (C := Try.checked) (s := Rows.OpenSpec.upto Rows.outPlaysSpec) (k := Rows.uptoSmall) rfl own started (by kernel_rfl) Try.func5
    (OpenSpec.witness (enc := enc) (C := Try.checked) (s := Rows.OpenSpec.upto Rows.outPlaysSpec) (k := Rows.uptoSmall) rfl false ⟨#[], #[.int .u64 0, .int .i64 0, .slice none 0 0], []⟩ 8 (by kernel_rfl) (by kernel_rfl) (by kernel_rfl)
      (x := ([.lit (.int .u64 0), .lit (.int .i64 0), .nil], [], [])) (by kernel_rfl) rfl (by kernel_rfl)) ?_
  intro W base args ds gs before hval0 hW hcnd hk hsz0 _
  have hval : ∀ (j : Nat) t v, Try.f5.params[j]? = some t → args[j]? = some v → Value.okWide Try.prog W .any base t v := hval0
  have hsz : (DataW.weightsEach Try.prog (Try.f5.params.toList ++ Rows.outPlaysSpec.plain.varTypes Try.prog) (ds ++ gs)).all (· ≤ reachBytes) = true := hsz0
  have hW' := hW
  obtain ⟨p, q, hA0, hV, rfl, hfz, hnd⟩ := hW
  have hA : DataW.TrodAll enc Try.prog W 0 (fun _ => true) true Try.f5.params.toList args.toList ds p := hA0
  rw [Try.params5] at hA hval hsz
  obtain ⟨v0, vs0, d0, ds0, p0, q0, hargs, rfl, rfl, h0, r0⟩ := trodAll_cons hA
  obtain ⟨v1, vs1, d1, ds1, p1, q1, rfl, rfl, rfl, h1, r1⟩ := trodAll_cons r0
  obtain ⟨v2, vs2, d2, ds2, p2, q2, rfl, rfl, rfl, h2, r2⟩ := trodAll_cons r1
  obtain ⟨rfl, rfl, rfl⟩ := trodAll_nil r2
  obtain rfl : args = #[v0, v1, v2] := by cases args; simp_all
  obtain ⟨rfl, rfl⟩ := trodVars_none hV
  have k0 := h0
  have lt0 : ∀ x ∈ p0, x.block < W.heap.size := by obtain ⟨m, hm⟩ := k0; exact DataW.trod_lt m _ _ _ hm
  have k1 := h1
  have lt1 : ∀ x ∈ p1, x.block < W.heap.size := by obtain ⟨m, hm⟩ := k1; exact DataW.trod_lt m _ _ _ hm
  have k2 := h2
  have lt2 : ∀ x ∈ p2, x.block < W.heap.size := by obtain ⟨m, hm⟩ := k2; exact DataW.trod_lt m _ _ _ hm
  obtain ⟨a0, rfl, rfl, rfl, w0⟩ := open_int Try.underlying27 (hval 0 27 v0 rfl rfl) h0
  obtain ⟨a1, rfl, rfl, rfl, w1⟩ := open_int Try.underlying3 (hval 1 3 v1 rfl rfl) h1
  obtain ⟨a2, w2⟩ := open_actLs (hval 2 65 v2 rfl rfl) h2 hsz (j := 2) rfl rfl
  have hb : ∀ a ∈ a2, (a.own.map List.length).sum ≤ 1048576 := by
    obtain ⟨va, vc, rfl⟩ := w2.form
    obtain ⟨fuel, hf⟩ := k2
    have := short hk
    intro a ha
    exact Nat.le_trans (actLs_bulk ⟨fuel, p2, hf⟩ w2 a ha) this
  clear hA0 hval0 hsz0
  refine (OutPlays_walk a0 a1 v2 a2 W w0 w1 w2 hb).mono fun e W' ⟨he, bel⟩ => ?_
  subst he
  exact ⟨_, rfl, _, _, _, [], _, [], hW', trodAll_mk1 (shut_bool Try.underlying4 _), (trodAll_cons_mk (Below.trod laidOut (by kernel_rfl) (of_decide_eq_true (by kernel_rfl)) k0 bel lt0) (trodAll_cons_mk (Below.trod laidOut (by kernel_rfl) (of_decide_eq_true (by kernel_rfl)) k1 bel lt1) (trodAll_cons_mk (Below.trod laidOut (by kernel_rfl) (of_decide_eq_true (by kernel_rfl)) k2 bel lt2) trodAll_mk0))), rfl, bel.frame _, fun h => by cases h⟩
theorem over : Rows.outPlaysUptoRow.holds Try.pinned (Rows.OpenSpec.upto Rows.outPlaysSpec) :=
  OpenClaim.holds_of_cond 5 Try.f5 rfl rfl rfl rfl rfl rfl rfl ⟨rfl, rfl, rfl, rfl, rfl⟩ rfl rfl rfl rfl rfl (by kernel_rfl) Try.func5 (by kernel_rfl)
    (of_decide_eq_true (by kernel_rfl)) (by unfold Func.isWrapper; first | (rw [if_pos (by decide +kernel)]; kernel_rfl) | (rw [if_neg (by decide +kernel)]; exact ⟨rfl, rfl⟩))
    (fun os started H enc _ F => lifted os started H enc F)
end OutPlaysShell
theorem OutPlays_holds : Rows.OutPlaysUptoSaid := OutPlaysShell.over
#print axioms OutPlays_holds
end Go.Proofs.Ytekdggdnkmkldaa
