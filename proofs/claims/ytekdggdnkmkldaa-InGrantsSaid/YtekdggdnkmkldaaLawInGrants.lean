/- InGrants: what is granted to one life of a sender never falls, and is between what was seen with the free places and what was seen with all places; at any number of places, any calls; no condition. -/
import Derived.Test.YtekdggdnkmkldaaLinkB
import Derived.Test.YtekdggdnkmkldaaLinkT
import Derived.Test.YtekdggdnkmkldaaOpen
import Derived.Deep.DeepCutAuto
import Derived.Deep.RegionHeld3
namespace Go.Proofs.Ytekdggdnkmkldaa
set_option linter.unusedVariables false
set_option linter.unusedSimpArgs false
set_option maxRecDepth 1500
open Go.ChangeShapes Go.WideShapes Go.ChangeAt Go.RowKit

/-- A statement at which the walk is to stand still. -/
def HeldI (p : Prop) : Prop := p
theorem held_i {n : Nat} {P : Program} {ops : Array Oper} {b : Bool} {d rest : Code} {Q : Exit → Act → World → Prop} {a : Act} {w : World} (h : HeldI ((Code.seq (Code.seq (Code.region n ops b) d) rest).wp P Q a w)) :
    (Code.seq (Code.seq (Code.region n ops b) d) rest).wp P Q a w := h
/-- What a call leaves. -/
def GStep (x y : InV) (lf seq : Nat) (E : Int) : Prop := y.places = x.places ∧ ((E = 0 ∧ ¬ lf < x.peer ∧ y.peer = lf ∧ y.gr = (if x.peer < lf then 0 else x.gr) ∧ y.seen = (if x.peer < lf then seq else max seq x.seen)) ∨ ((E == 0) = false ∧ y.peer = x.peer ∧ y.gr = x.gr ∧ y.seen = x.seen))
theorem gstep_saw (x : InV) (lf seq : Nat) (h1 : 1 ≤ lf) (h2 : lf ≤ 4) (h3 : seq < 1048576) : GStep x (x.saw lf seq) lf seq (sawE x.peer lf seq) := by
  have hm : (1 ≤ lf ∧ lf ≤ Most) ∧ seq ≤ Most := by unfold Most; omega
  refine ⟨rfl, ?_⟩
  by_cases h : lf < x.peer
  · have hE : sawE x.peer lf seq = 22 := by unfold sawE; rw [if_pos hm, if_pos h]
    refine .inr ⟨by rw [hE]; rfl, ?_, ?_, ?_⟩
    · show sawP _ _ _ = _; unfold sawP; rw [hE]; rfl
    · show sawG _ _ _ _ = _; unfold sawG; rw [hE]; rfl
    · show sawS _ _ _ _ = _; unfold sawS; rw [hE]; rfl
  · have hE : sawE x.peer lf seq = 0 := by unfold sawE; rw [if_pos hm, if_neg h]
    refine .inl ⟨hE, h, ?_, ?_, ?_⟩
    · show sawP _ _ _ = _; unfold sawP; rw [hE]; rfl
    · show sawG _ _ _ _ = _; unfold sawG; rw [hE]; rfl
    · show sawS _ _ _ _ = _; unfold sawS; rw [hE]; rfl
theorem gstep_data (x : InV) (lf seq : Nat) (xs : List Int) (h1 : 1 ≤ lf) (h2 : lf ≤ 4) (h3 : seq < 1048576) (hx : xs.length ≤ 70000) : GStep x (x.data lf seq xs) lf seq (dataE x lf seq xs.length) := by
  have hm : (1 ≤ lf ∧ lf ≤ Most) ∧ seq ≤ Most := by unfold Most; omega
  unfold InV.data
  by_cases h : lf < x.peer
  · have hE : dataE x lf seq xs.length = 22 := by unfold dataE; rw [if_pos hm, if_pos h]
    rw [hE, if_neg (by decide)]
    exact ⟨rfl, .inr ⟨rfl, rfl, rfl, rfl⟩⟩
  · by_cases hf : x.fs.length < x.places
    · have hE : dataE x lf seq xs.length = 0 := by unfold dataE; rw [if_pos hm, if_neg h, if_neg (by omega), if_pos hf]
      rw [hE, if_pos rfl]
      have h9 := gstep_saw { x with fs := x.fs ++ [xs] } lf seq h1 h2 h3
      have hE2 : sawE x.peer lf seq = 0 := by unfold sawE; rw [if_pos hm, if_neg h]
      have h10 : GStep { x with fs := x.fs ++ [xs] } (InV.saw { x with fs := x.fs ++ [xs] } lf seq) lf seq 0 := by rw [← hE2]; exact h9
      exact h10
    · have hE : dataE x lf seq xs.length = 7 := by unfold dataE; rw [if_pos hm, if_neg h, if_neg (by omega), if_neg hf]
      rw [hE, if_neg (by decide)]
      exact ⟨rfl, .inr ⟨rfl, rfl, rfl, rfl⟩⟩
theorem Bytes.form {w : World} {u : Value} {l : List Int} (h : Bytes w u l) : ∃ a cap, u = .slice a l.length cap := by
  rcases h.cases with ⟨a, cap, rfl, h0⟩ | ⟨b, off, cap, rfl, _⟩
  · exact ⟨a, cap, by rw [h0]; rfl⟩
  · exact ⟨_, cap, rfl⟩
theorem grant_laws (last seen n m fr G : Nat) (h1 : last ≤ seen + n) (h2 : seen < 1048576) (h3 : m + fr = n) (h4 : n ≤ 64) (hG : grantG last seen fr = G) : last ≤ G ∧ G ≤ seen + n ∧ seen + (n - m) ≤ G := by
  unfold grantG Most at hG
  omega

set_option maxHeartbeats 16000000 in
theorem InGrants_walk (places : Int) (v : Value) (xs : List ActL) (w : World) (h0 : (Lit.int .u8 places).wf = true) (h1 : ActLs w v xs) :
    Calls Try.prog 6 #[.int .u8 places, v] w fun e w' => e = .returned (.bool true) ∧ Below w.heap.size w w' := by
  obtain ⟨p1, p2⟩ := wf_u8' h0
  obtain ⟨va, vc, rfl⟩ := h1.form
  have AC := Lib.hid h1
  have hxl := h1.2
  clear h0 h1
  go_enter Try.func6, Try.ntmps6
  go_wp2_with fail
  have m1 : 1 ≤ 1 + places % 64 := by omega
  have m2 : 1 + places % 64 ≤ 64 := by omega
  generalize hmm2 : 1 + places % 64 = m at m1 m2 ⊢
  clear hmm2 p1 p2
  obtain ⟨n, rfl⟩ := Int.eq_ofNat_of_zero_le (show 0 ≤ m by omega)
  have n1 : 1 ≤ n := by omega
  have n2 : n ≤ 64 := by omega
  clear m1 m2
  refine (in_new n w n1 n2).mono ?_
  rintro e w1 ⟨i, rfl, hi⟩
  have HI := Lib.hid hi
  clear hi
  go_wp2_with fail
  refine (awake22 _).mono ?_
  rintro e w2 ⟨rfl, hg2⟩
  have HI2 := Lib.hid (HI.out.more hg2)
  clear HI hg2
  go_wp2
  go_loopg [8, 9, 10, 35] xs.length (fun k s8 s9 s10 c wr => ∃ (j : Nat) (x : InV), j ≤ xs.length ∧ j ≤ 150 ∧ k = xs.length - j ∧ c = .int .i64 (j : Nat) ∧ s8 = .int .u64 (x.peer : Nat) ∧ s9 = .int .u64 (x.seen : Nat) ∧ s10 = .int .u64 (x.gr : Nat) ∧ x.gr ≤ x.seen + n ∧ x.seen < 1048576 ∧ x.places = n ∧ x.peer ≤ 4 ∧ InAt (Frm.of w) wr i x)
  case atStart => exact ⟨0, _, by omega, by omega, by omega, rfl, rfl, rfl, rfl, by simp, by simp, rfl, by simp, HI2.out⟩
  case round =>
    obtain ⟨j, x, hj, hj1, hk, rfl, rfl, rfl, rfl, hgr, hsn, hpl, hpe, hI⟩ := hrel
    have HK := Lib.hid hk
    have HI := Lib.hid hI
    clear hk hI HI2
    by_cases hlt : j < xs.length
    · have j0 : (0 : Int) ≤ (j : Int) := by omega
      have j1 : (j : Int) < (xs.length : Int) := by omega
      obtain ⟨bl, off, cap, cs, e, hbl, hac, hcs⟩ := AC.out.at j hlt
      injection e with e1 e2 e3
      subst e1 e3
      clear e2
      generalize xs[j] = a at hac
      obtain ⟨u1, u2, u3, rfl, hac2⟩ := hac
      obtain ⟨a1, k1, rfl⟩ := hac2.1.form
      obtain ⟨a2, k2, rfl⟩ := hac2.2.1.1
      obtain ⟨a3, k3, rfl⟩ := hac2.2.2.1.form
      have hcc : ∀ k, wr.cell? ⟨bl, k, none⟩ = w.cell? ⟨bl, k, none⟩ := fun k => HI.out.gw.cell (p := ⟨bl, k, none⟩) hbl (fun h => h)
      have c0 := (hcc _).trans (hcs 0 (by omega))
      have c1 := (hcc _).trans (hcs 1 (by omega))
      have c2 := (hcc _).trans (hcs 2 (by omega))
      have c3 := (hcc _).trans (hcs 3 (by omega))
      have c4 := (hcc _).trans (hcs 4 (by omega))
      have c5 := (hcc _).trans (hcs 5 (by omega))
      have c6 := (hcc _).trans (hcs 6 (by omega))
      have c7 := (hcc _).trans (hcs 7 (by omega))
      have c8 := (hcc _).trans (hcs 8 (by omega))
      have c9 := (hcc _).trans (hcs 9 (by omega))
      simp only [List.getElem?_cons_zero, List.getElem?_cons_succ, Nat.add_zero] at c0 c1 c2 c3 c4 c5 c6 c7 c8 c9
      clear hcs hcc
      have HB := Lib.hid (And.intro hac2.2.2.2.1 hac2.2.2.2.2)
      clear hac2
      obtain ⟨aw, af, awd, al, att, acn, an, ars, aow, abb⟩ := a
      simp only at c0 c1 c2 c3 c4 c5 c6 c7 c8 c9 HB
      by_cases h150 : j < 150
      · have j2 : ((j : Int) == 150) = false := by simp; omega
        have hA := HI.out.more ((Ext.refl (fun _ => False) wr).alloc (.cells #[.int .i64 aw, .int .i64 af, .int .i64 awd, .int .u64 al, .int .u64 att, .int .u64 acn, .int .u64 an, .slice a1 ars.length k1, .slice a2 aow.length k2, .slice a3 abb.length k3] 70))
        have k10 := heap_alloc_new wr (.cells #[.int .i64 aw, .int .i64 af, .int .i64 awd, .int .u64 al, .int .u64 att, .int .u64 acn, .int .u64 an, .slice a1 ars.length k1, .slice a2 aow.length k2, .slice a3 abb.length k3] 70 (0, 0))
        have HA := Lib.hid (And.intro hA k10)
        clear hA k10
        go_upto_region 10 with fail
        clear c0 c1 c2 c3 c4 c5 c6 c7 c8 c9
        generalize wr.alloc (.cells #[.int .i64 aw, .int .i64 af, .int .i64 awd, .int .u64 al, .int .u64 att, .int .u64 acn, .int .u64 an, .slice a1 ars.length k1, .slice a2 aow.length k2, .slice a3 abb.length k3] 70) = wa at HA ⊢
        generalize wr.heap.size = b10 at HA ⊢
        have k0 := cell_of_heap HA.out.2 0
        have k3 := cell_of_heap HA.out.2 3
        have k6 := cell_of_heap HA.out.2 6
        simp at k0 k3 k6
        go_quiet (fail)
        have HA2 := Lib.hid (And.intro (HA.out.1.more (Ext.drewN_r nq)) (show (wa.drewN nq).heap[b10]? = _ from HA.out.2))
        clear HA k0 k3 k6
        generalize wa.drewN nq = wb at HA2 ⊢
        have q1 : 1 ≤ 1 + (al : Int) % 4 ∧ 1 + (al : Int) % 4 ≤ 4 := by omega
        have q2 : 0 ≤ (an : Int) % 1048576 ∧ (an : Int) % 1048576 < 1048576 := by omega
        generalize 1 + (al : Int) % 4 = lfi at q1 ⊢
        generalize (an : Int) % 1048576 = sqi at q2 ⊢
        obtain ⟨lf, rfl⟩ := Int.eq_ofNat_of_zero_le (show 0 ≤ lfi by omega)
        obtain ⟨sq, rfl⟩ := Int.eq_ofNat_of_zero_le q2.1
        have l1 : 1 ≤ lf := by omega
        have l2 : lf ≤ 4 := by omega
        have l3 : sq < 1048576 := by omega
        clear q1 q2
        have k0 := cell_of_heap HA2.out.2 0
        simp at k0
        go_upto_region 12 with (with_reducible refine held_i (n := 12) ?_)
        unfold HeldI
        go_step
        go_cut [15] (fun s w' => ∃ (E : Int) (y : InV), s = .int .i64 E ∧ GStep x y lf sq E ∧ InAt (Frm.of w) w' i y)
        case first =>
          go_upto_region 13 with fail
          generalize aw.tmod 4 = t
          have hw : t = 0 ∨ t = 1 ∨ t = 2 ∨ ((t == 0) = false ∧ (t == 1) = false ∧ (t == 2) = false) := by simp; omega
          have kc := fun (w : World) (C : Array Value) (n c : Nat) => Lib.run_convert_bytes_const (P := Try.prog) w 41 5 C n c Try.underlying41 Try.underlying5
          clear k0
          rcases hw with rfl | rfl | rfl | ⟨t0, t1, t2⟩
          · go_wp2_with fail
            refine (in_data (HA2.out.1.more ((Ext.refl (fun _ => False) wb).alloc _)) lf sq _ [120] (lit1 wb 120 (by omega)) _ rfl).mono ?_
            rintro e w5 ⟨rfl, h5⟩
            have HR := Lib.hid (And.intro (gstep_data x lf sq [120] l1 l2 l3 (by simp)) h5)
            clear h5 HA2
            generalize dataE x lf sq ([120] : List Int).length = E at HR ⊢
            go_wp2
            go_meet
            exact ⟨E, _, rfl, HR.out.1, HR.out.2⟩
          · go_wp2_with fail
            refine (at_probe HA2.out.1 lf sq _ rfl).mono ?_
            rintro e w5 ⟨rfl, h5⟩
            have HR := Lib.hid (And.intro (gstep_saw x lf sq l1 l2 l3) h5)
            clear h5 HA2
            generalize sawE x.peer lf sq = E at HR ⊢
            go_wp2
            go_meet
            exact ⟨E, _, rfl, HR.out.1, HR.out.2⟩
          · go_wp2_with fail
            refine (at_pop HA2.out.1).mono ?_
            rintro e w5 ⟨u, rfl, fs, h5⟩
            have HR := Lib.hid h5
            clear h5 HA2
            go_wp2
            go_meet
            exact ⟨6, { x with fs := fs }, rfl, ⟨rfl, .inr ⟨rfl, rfl, rfl, rfl⟩⟩, HR.out⟩
          · go_wp2
            go_meet
            exact ⟨6, _, rfl, ⟨rfl, .inr ⟨rfl, rfl, rfl, rfl⟩⟩, HA2.out.1⟩
        case rest =>
          clear HA2 k0
          obtain ⟨E, ⟨yp, yf, ye, yg, ys⟩, rfl, ⟨hp, hst⟩, hI2⟩ := hcut
          obtain ⟨f1, _, _⟩ := hI2.full
          simp only at hp hst f1
          rw [hpl] at hp
          subst hp
          obtain ⟨fr, hfr⟩ : ∃ fr, yf.length + fr = yp := ⟨_, Nat.add_sub_cancel' f1⟩
          obtain ⟨m, hm⟩ : ∃ m, yf.length = m := ⟨_, rfl⟩
          rw [hm] at f1 hfr
          have f2 : (m : Int) ≤ (yp : Int) := by omega
          rcases hst with ⟨rfl, s1, rfl, s3, s4⟩ | ⟨s1, rfl, rfl, rfl⟩
          · by_cases hgt : x.peer < ye
            · rw [if_pos hgt] at s3 s4
              subst s3 s4
              have g1 : (x.peer : Int) < (ye : Int) := by omega
              obtain ⟨G, hG⟩ : ∃ G, grantG 0 ys fr = G := ⟨_, rfl⟩
              obtain ⟨L1, L2, L3⟩ := grant_laws 0 ys yp m fr G (by omega) l3 hfr n2 hG
              have HI2 := Lib.hid (And.intro hI2 (And.intro hm (And.intro hfr (And.intro hG (And.intro L1 (And.intro L2 L3))))))
              clear hI2 hm hfr hG L1 L2 L3 s1
              go_wp2_with fail
              refine (at_life HI2.out.1 ye rfl).mono ?_
              rintro e w6 ⟨rfl, rfl⟩
              go_wp2_with fail
              refine (at_grant HI2.out.1 fr (by show yf.length + fr = yp; rw [HI2.out.2.1]; exact HI2.out.2.2.1) G HI2.out.2.2.2.1).mono ?_
              rintro e w7 ⟨rfl, h7⟩
              have HI3 := Lib.hid (And.intro h7 HI2.out.2)
              have e1 : ((G : Int) < (0 : Int)) = False := eq_false (by have := HI3.out.2.2.2.2.1; omega)
              have e2 : ((ys : Int) + (yp : Int) < (G : Int)) = False := eq_false (by have := HI3.out.2.2.2.2.2.1; omega)
              have e3 : ((G : Int) < (ys : Int) + ((yp : Int) - (m : Int))) = False := eq_false (by have := HI3.out.2.2.2.2.2.2; omega)
              have bs : ys < 1048576 := by omega
              clear h7 HI2
              go_wp2_with fail
              refine (at_len HI3.out.1 m HI3.out.2.1).mono ?_
              rintro e w8 ⟨rfl, rfl⟩
              go_wp2
              go_roundg (xs.length - (j + 1))
              case measure => have := HK.out; omega
              case rel => exact ⟨j + 1, ⟨yp, yf, ye, G, ys⟩, by omega, by omega, rfl, by go_num, rfl, rfl, rfl, HI3.out.2.2.2.2.2.1, bs, rfl, by omega, HI3.out.1⟩
            · rw [if_neg hgt] at s3 s4
              have s5 : ye = x.peer := by omega
              subst s3 s4 s5
              obtain ⟨G, hG⟩ : ∃ G, grantG x.gr (max sq x.seen) fr = G := ⟨_, rfl⟩
              obtain ⟨L1, L2, L3⟩ := grant_laws x.gr (max sq x.seen) yp m fr G (by omega) (by omega) hfr n2 hG
              have HI2 := Lib.hid (And.intro hI2 (And.intro hm (And.intro hfr (And.intro hG (And.intro L1 (And.intro L2 L3))))))
              have hmx : max (x.seen : Int) (sq : Int) = ((max sq x.seen : Nat) : Int) := by omega
              have hms : max sq x.seen < 1048576 := by omega
              generalize max sq x.seen = ys at HI2 hmx hms ⊢
              clear hI2 hm hfr hG L1 L2 L3 s1
              go_wp2_with fail
              refine (at_life HI2.out.1 x.peer rfl).mono ?_
              rintro e w6 ⟨rfl, rfl⟩
              clear hgt
              go_wp2_with fail
              refine (at_grant HI2.out.1 fr (by show yf.length + fr = yp; rw [HI2.out.2.1]; exact HI2.out.2.2.1) G HI2.out.2.2.2.1).mono ?_
              rintro e w7 ⟨rfl, h7⟩
              have HI3 := Lib.hid (And.intro h7 HI2.out.2)
              have e1 : ((G : Int) < (x.gr : Int)) = False := eq_false (by have := HI3.out.2.2.2.2.1; omega)
              have e2 : ((ys : Int) + (yp : Int) < (G : Int)) = False := eq_false (by have := HI3.out.2.2.2.2.2.1; omega)
              have e3 : ((G : Int) < (ys : Int) + ((yp : Int) - (m : Int))) = False := eq_false (by have := HI3.out.2.2.2.2.2.2; omega)
              have bs : ys < 1048576 := by omega
              clear h7 HI2
              go_wp2_with fail
              refine (at_len HI3.out.1 m HI3.out.2.1).mono ?_
              rintro e w8 ⟨rfl, rfl⟩
              go_wp2
              go_roundg (xs.length - (j + 1))
              case measure => have := HK.out; omega
              case rel => exact ⟨j + 1, ⟨yp, yf, x.peer, G, ys⟩, by omega, by omega, rfl, by go_num, rfl, rfl, rfl, HI3.out.2.2.2.2.2.1, bs, rfl, by omega, HI3.out.1⟩
          · obtain ⟨G, hG⟩ : ∃ G, grantG x.gr x.seen fr = G := ⟨_, rfl⟩
            obtain ⟨L1, L2, L3⟩ := grant_laws x.gr x.seen yp m fr G (by omega) (by omega) hfr n2 hG
            have HI2 := Lib.hid (And.intro hI2 (And.intro hm (And.intro hfr (And.intro hG (And.intro L1 (And.intro L2 L3))))))
            clear hI2 hm hfr hG L1 L2 L3
            go_wp2_with fail
            refine (at_life HI2.out.1 x.peer rfl).mono ?_
            rintro e w6 ⟨rfl, rfl⟩
            go_wp2_with fail
            refine (at_grant HI2.out.1 fr (by show yf.length + fr = yp; rw [HI2.out.2.1]; exact HI2.out.2.2.1) G HI2.out.2.2.2.1).mono ?_
            rintro e w7 ⟨rfl, h7⟩
            have HI3 := Lib.hid (And.intro h7 HI2.out.2)
            have e1 : ((G : Int) < (x.gr : Int)) = False := eq_false (by have := HI3.out.2.2.2.2.1; omega)
            have e2 : ((x.seen : Int) + (yp : Int) < (G : Int)) = False := eq_false (by have := HI3.out.2.2.2.2.2.1; omega)
            have e3 : ((G : Int) < (x.seen : Int) + ((yp : Int) - (m : Int))) = False := eq_false (by have := HI3.out.2.2.2.2.2.2; omega)
            have bs : x.seen < 1048576 := by omega
            clear h7 HI2
            go_wp2_with fail
            refine (at_len HI3.out.1 m HI3.out.2.1).mono ?_
            rintro e w8 ⟨rfl, rfl⟩
            go_wp2
            go_roundg (xs.length - (j + 1))
            case measure => have := HK.out; omega
            case rel => exact ⟨j + 1, ⟨yp, yf, x.peer, G, x.seen⟩, by omega, by omega, rfl, by go_num, rfl, rfl, rfl, HI3.out.2.2.2.2.2.1, bs, rfl, by omega, HI3.out.1⟩
      · obtain rfl : j = 150 := by omega
        have HG := Lib.hid (show Grows w _ from (HI.out.more ((Ext.refl (fun _ => False) wr).alloc (.cells #[.int .i64 aw, .int .i64 af, .int .i64 awd, .int .u64 al, .int .u64 att, .int .u64 acn, .int .u64 an, .slice a1 ars.length k1, .slice a2 aow.length k2, .slice a3 abb.length k3] 70))).gw)
        go_wp2
        go_ret
        exact ⟨rfl, Ext.to_below HG.out⟩
    · have j1 : ¬ (j : Int) < (xs.length : Int) := by omega
      have HG := Lib.hid (show Grows w _ from HI.out.gw)
      go_wp2
      go_ret
      exact ⟨rfl, Ext.to_below HG.out⟩
namespace InGrantsShell
theorem own : ownKnob Try.prog.godebug = none := by kernel_rfl
theorem laidOut : laidOutB Try.prog = true := by kernel_rfl
set_option maxRecDepth 100000 in
theorem lifted (os : Os) (started : os.Started) (H : Type) (enc : TypeId × Value → H) :
    ReturnsInHanded {} Try.checked os 6 .any (Rows.inGrantsSpec.pre6 enc Try.prog Try.f6 Rows.inGrantsRow.domain false) (Rows.inGrantsSpec.post enc Try.prog Try.f6 false true false false) := by
  refine returnsInHanded_of_change_sized (C := Try.checked) own started (by kernel_rfl) Try.func6
    (ChangeSpec.witness6 (enc := enc) (C := Try.checked) false ⟨#[], #[.int .u8 0, .slice none 0 0], []⟩ 8 (by kernel_rfl) (by kernel_rfl) (by kernel_rfl) (by kernel_rfl)) ?_
  intro W base args ds gs before hval0 hW hcnd hsz0 _
  have hval : ∀ (j : Nat) t v, Try.f6.params[j]? = some t → args[j]? = some v → Value.okWide Try.prog W .any base t v := hval0
  have hsz : (DataW.weightsEach Try.prog (Try.f6.params.toList ++ Rows.inGrantsSpec.plain.varTypes Try.prog) (ds ++ gs)).all (· ≤ reachBytes) = true := hsz0
  have hW' := hW
  obtain ⟨p, q, hA0, hV, rfl, hfz, hnd⟩ := hW
  have hA : DataW.TrodAll enc Try.prog W 0 (fun _ => true) true Try.f6.params.toList args.toList ds p := hA0
  rw [Try.params6] at hA hval hsz
  obtain ⟨v0, vs0, d0, ds0, p0, q0, hargs, rfl, rfl, h0, r0⟩ := trodAll_cons hA
  obtain ⟨v1, vs1, d1, ds1, p1, q1, rfl, rfl, rfl, h1, r1⟩ := trodAll_cons r0
  obtain ⟨rfl, rfl, rfl⟩ := trodAll_nil r1
  obtain rfl : args = #[v0, v1] := by cases args; simp_all
  obtain ⟨rfl, rfl⟩ := trodVars_none hV
  have k0 := h0
  have lt0 : ∀ x ∈ p0, x.block < W.heap.size := by obtain ⟨m, hm⟩ := k0; exact DataW.trod_lt m _ _ _ hm
  have k1 := h1
  have lt1 : ∀ x ∈ p1, x.block < W.heap.size := by obtain ⟨m, hm⟩ := k1; exact DataW.trod_lt m _ _ _ hm
  obtain ⟨a0, rfl, rfl, rfl, w0⟩ := open_int Try.underlying5 (hval 0 5 v0 rfl rfl) h0
  obtain ⟨a1, w1⟩ := open_actLs (hval 1 65 v1 rfl rfl) h1 hsz (j := 1) rfl rfl
  clear hA0 hval0 hsz0
  refine (InGrants_walk a0 v1 a1 W w0 w1).mono fun e W' ⟨he, bel⟩ => ?_
  subst he
  exact ⟨_, rfl, _, _, _, [], _, [], hW', trodAll_mk1 (shut_bool Try.underlying4 _), (trodAll_cons_mk (Below.trod laidOut (by kernel_rfl) (of_decide_eq_true (by kernel_rfl)) k0 bel lt0) (trodAll_cons_mk (Below.trod laidOut (by kernel_rfl) (of_decide_eq_true (by kernel_rfl)) k1 bel lt1) trodAll_mk0)), rfl, bel.frame _, fun h => by cases h⟩
theorem over : Rows.inGrantsRow.holds Try.pinned (OpenSpec.ofChange Rows.inGrantsSpec) :=
  OpenClaim.holds_of_wide 6 Try.f6 rfl rfl rfl rfl rfl rfl rfl ⟨rfl, rfl, rfl, rfl, rfl⟩ rfl rfl rfl rfl rfl (by kernel_rfl) Try.func6 (by kernel_rfl)
    (of_decide_eq_true (by kernel_rfl)) (by unfold Func.isWrapper; first | (rw [if_pos (by decide +kernel)]; kernel_rfl) | (rw [if_neg (by decide +kernel)]; exact ⟨rfl, rfl⟩))
    (fun os started H enc _ => lifted os started H enc)
end InGrantsShell
theorem InGrants_holds : Rows.InGrantsSaid := InGrantsShell.over
#print axioms InGrants_holds
end Go.Proofs.Ytekdggdnkmkldaa
