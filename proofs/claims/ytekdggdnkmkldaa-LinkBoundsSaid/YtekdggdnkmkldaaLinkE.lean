/- link: LinkBounds' closure: what comes. -/
import Derived.Test.YtekdggdnkmkldaaLinkD
import Derived.Deep.DeepCutAuto
import Derived.Deep.RegionHeld3
import Derived.Deep.RegionLaw
namespace Go.Proofs.Ytekdggdnkmkldaa
set_option linter.unusedVariables false
set_option linter.unusedSimpArgs false
set_option maxRecDepth 1500
open Go.RowKit

def comeY (y : InV) (t : TW) : InV := if t.kind = 0 then y.data t.life t.n [((t.n % 256 : Nat) : Int)] else if t.kind = 1 then y.saw t.life t.n else y
def comeX (x : OutV) (t : TW) : OutV := if t.kind = 2 then x.credit t.dst t.life t.n else x
def comeH (x : OutV) (heard : Nat) (t : TW) : Nat := if t.kind = 2 then (if takeE x.own x.peer t.dst t.life t.n = 0 then t.dst else heard) else heard
theorem LB.come {n life peer heard : Nat} {x : OutV} {y : InV} {g : Nat → Nat → Nat} {l : List TW} {k : Nat} (h : LB n life peer heard x y g l k) (t : TW) (ht : TWok life peer k g t) : LB n life peer (comeH x heard t) (comeX x t) (comeY y t) g l k := by
  have ht2 := ht
  obtain ⟨⟨a1, a2⟩, hk⟩ := ht
  unfold comeH comeX comeY
  rcases hk with ⟨b1, b2⟩ | ⟨b1, b2⟩
  · rcases b1 with b1 | b1
    · rw [b1, if_neg (by decide), if_neg (by decide), if_pos rfl]
      exact (h.dataOk t.life t.n _ (by simp) a1 a2 b2).2
    · rw [b1, if_neg (by decide), if_neg (by decide), if_neg (by decide), if_pos rfl]
      exact (h.sawOk t.life t.n a1 a2 b2).2
  · rcases h.creditOk t ht2 b1 with ⟨h1, h2⟩ | ⟨h1, h2⟩
    · simp [b1, h1]; exact h2
    · simp [b1, h1]; exact h2
/-- A statement at which the walk is to stand still. -/
def HeldE (p : Prop) : Prop := p
theorem held_e {n : Nat} {P : Program} {ops : Array Oper} {b : Bool} {d rest : Code} {Q : Exit → Act → World → Prop} {a : Act} {w : World} (h : HeldE ((Code.seq (Code.seq (Code.region n ops b) d) rest).wp P Q a w)) :
    (Code.seq (Code.seq (Code.region n ops b) d) rest).wp P Q a w := h
theorem told_cells {w : World} {b : Nat} {kind : Int} {lf ds nn : Nat} {ty : TypeId} (h : w.heap[b]? = some (.cells #[.int .i64 kind, .int .u64 lf, .int .u64 ds, .int .u64 nn] ty (0, 0))) :
    w.cell? ⟨b, 0, none⟩ = some (.int .i64 kind) ∧ w.cell? ⟨b, 1, none⟩ = some (.int .u64 lf) ∧ w.cell? ⟨b, 2, none⟩ = some (.int .u64 ds) ∧ w.cell? ⟨b, 3, none⟩ = some (.int .u64 nn) := by
  refine ⟨?_, ?_, ?_, ?_⟩ <;> (rw [cell_of_heap h]; rfl)
theorem lit1b (w : World) (x : Int) (hx : 0 ≤ x ∧ x < 256) : Bytes (w.alloc (.cells #[.int .u8 x] 5)) (.slice (some ⟨w.heap.size, 0, none⟩) 1 1) [x] :=
  Bytes.of_heap (heap_alloc_new w _) rfl (Nat.le_refl _) (by unfold maxLen; omega) (by simpa using hx) (by simp)
section
variable {b : BL} {n life peer o i gm heard : Nat} {vw : Value} {k : Nat} {x : OutV} {y : InV} {j : Nat} {g : Nat → Nat → Nat} {l : List TW} {kk : Nat} {z : Frm} {w w' : World}
set_option maxHeartbeats 4000000 in
theorem comes_any (h : SB b n peer o i gm heard vw k x y j g l z w) (hl : LB n life peer heard x y g l kk) (t : TW) (ht : TWok life peer kk g t) :
    Calls Try.prog 33 #[.agg #[.int .i64 t.kind, .int .u64 t.life, .int .u64 t.dst, .int .u64 t.n], .pointer (some ⟨b.i, 0, none⟩), .pointer (some ⟨b.o, 0, none⟩), .pointer (some ⟨b.h, 0, none⟩), .pointer (some ⟨b.n, 0, none⟩)] w fun e w' => e = .returned (.bool true) ∧
      SB b n peer o i gm (comeH x heard t) vw k (comeX x t) (comeY y t) j g l z w' := by
  have hc := hl.come t ht
  have HC := Lib.hid (And.intro hl (And.intro ht hc))
  have hkd : t.kind = 0 ∨ t.kind = 1 ∨ t.kind = 2 := by
    obtain ⟨_, hk⟩ := ht
    rcases hk with ⟨b1, _⟩ | ⟨b1, _⟩ <;> omega
  have HK := Lib.hid hkd
  have HB0 := Lib.hid (Star.mkR parts_sb (parts_blk w.heap.size (.cells #[.int .i64 t.kind, .int .u64 t.life, .int .u64 t.dst, .int .u64 t.n] 91 (0, 0))) h (Blk.new w _))
  have hnb : t.n < 18446744073709551616 := by
    obtain ⟨_, hk⟩ := ht
    have := hl.k2
    rcases hk with ⟨_, b1⟩ | ⟨_, _, b1, _⟩ <;> omega
  clear h hl ht hc hkd
  obtain ⟨kind, lf, ds, nn⟩ := t
  simp only at HB0 HK hnb
  go_enter Try.func33, Try.ntmps33
  go_upto_region 1 with (with_reducible refine held_e (n := 1) ?_)
  unfold HeldE
  go_step
  generalize w.alloc (.cells #[.int .i64 kind, .int .u64 lf, .int .u64 ds, .int .u64 nn] 91) = w1 at HB0 ⊢
  generalize w.heap.size = b5 at HB0 ⊢
  go_cut [] (fun w' => SB b n peer o i gm (comeH x heard ⟨kind, lf, ds, nn⟩) vw k (comeX x ⟨kind, lf, ds, nn⟩) (comeY y ⟨kind, lf, ds, nn⟩) j g l z w')
  case first =>
    have hs := Star.l parts_sb HB0.out
    obtain ⟨q1, q2, q3, q4, q5, q6, q7⟩ := hs.cells
    obtain ⟨k0, k1, k2, k3⟩ := told_cells (Star.r (parts_blk _ _) HB0.out).1
    have hfr := hs.free.2.2.2.1
    clear hs
    rcases HK.out with rfl | rfl | rfl
    · have hE := (HC.out.1.dataOk lf nn [((nn % 256 : Nat) : Int)] (by simp) HC.out.2.1.1.1 HC.out.2.1.1.2 (by
        rcases HC.out.2.1.2 with ⟨_, b2⟩ | ⟨b1, _⟩
        · exact b2
        · exact absurd (show (0 : Int) = 2 from b1) (by decide))).1
      have hmod : ((nn : Int) % 256) = ((nn % 256 : Nat) : Int) := by omega
      have HE := Lib.hid (And.intro hE hmod)
      clear hE hmod q1 q2 q3 q5 q6 q7 hfr k2
      go_wp2_with fail
      rw [HE.out.2]
      refine (Star.opL (A' := SB b n peer o i gm heard vw k x (y.data lf nn [((nn % 256 : Nat) : Int)]) j g l) (Q := fun e _ => e = .returned (.int .i64 (dataE y lf nn [((nn % 256 : Nat) : Int)].length))) ((parts_star parts_sb (parts_blk _ _)).more HB0.out ((Ext.refl (fun _ => False) w1).alloc _)) parts_sb (parts_blk _ _) (fun z h => h.callI (fun z h => in_data h lf nn _ [((nn % 256 : Nat) : Int)] (lit1b w1 _ (by omega)) _ rfl))).mono ?_
      rintro e w2 ⟨rfl, h2⟩
      have H2 := Lib.hid (Star.l parts_sb h2)
      clear h2 HB0 k0 k1 k3 q4
      rcases HE.out.1 with hE | hE | hE
      · rw [hE]
        go_wp2
        go_meet
        exact H2.out
      · rw [hE]
        go_wp2
        go_meet
        exact H2.out
      · rw [hE]
        go_wp2
        go_meet
        exact H2.out
    · have hE := (HC.out.1.sawOk lf nn HC.out.2.1.1.1 HC.out.2.1.1.2 (by
        rcases HC.out.2.1.2 with ⟨_, b2⟩ | ⟨b1, _⟩
        · exact b2
        · exact absurd (show (1 : Int) = 2 from b1) (by decide))).1
      have HE := Lib.hid hE
      clear hE q1 q2 q3 q5 q6 q7 hfr k2
      go_wp2_with fail
      refine (Star.opL (A' := SB b n peer o i gm heard vw k x (y.saw lf nn) j g l) (Q := fun e _ => e = .returned (.int .i64 (sawE y.peer lf nn))) HB0.out parts_sb (parts_blk _ _) (fun z h => h.callI (fun z h => at_probe h lf nn _ rfl))).mono ?_
      rintro e w2 ⟨rfl, h2⟩
      have H2 := Lib.hid (Star.l parts_sb h2)
      clear h2 HB0 k0 k1 k3 q4
      rcases HE.out with hE | hE
      · rw [hE]
        go_wp2
        go_meet
        exact H2.out
      · rw [hE]
        go_wp2
        go_meet
        exact H2.out
    · have hE := HC.out.1.creditOk _ HC.out.2.1 rfl
      have HE := Lib.hid hE
      clear hE q1 q2 q4 q5 q6 q7 hfr
      go_wp2_with fail
      refine (Star.opL (A' := SB b n peer o i gm heard vw k (x.credit ds lf nn) y j g l) (Q := fun e _ => e = .returned (.int .i64 (takeE x.own x.peer ds lf nn))) HB0.out parts_sb (parts_blk _ _) (fun z h => h.callO (fun z h => out_credit h ds lf nn _ rfl))).mono ?_
      rintro e w2 ⟨rfl, h2⟩
      have hb2 := (Star.r (parts_blk _ _) h2).1
      have H2 := Lib.hid (Star.l parts_sb h2)
      clear h2 HB0 k0 k1 k2 k3 q3
      obtain ⟨_, _, k2, _⟩ := told_cells hb2
      have q6 := H2.out.cells.2.2.2.2.2.1
      have hfr := H2.out.free.2.2.2.1
      clear hb2
      rcases HE.out with ⟨hE, _⟩ | ⟨hE, _⟩
      · have h3 := H2.out.setHeard ds
        have hh : comeH x heard ⟨2, lf, ds, nn⟩ = ds := by unfold comeH; simp [hE]
        have H3 := Lib.hid (show SB b n peer o i gm (comeH x heard ⟨2, lf, ds, nn⟩) vw k (x.credit ds lf nn) y j g l z (w2.setCell ⟨b.h, 0, none⟩ (.int .u64 (ds : Nat))) from by rw [hh]; exact h3)
        rw [hE]
        clear hE h3 hh
        go_wp2
        go_meet
        exact H3.out
      · have hh : comeH x heard ⟨2, lf, ds, nn⟩ = heard := by unfold comeH; simp [hE]
        have H3 := Lib.hid (show SB b n peer o i gm (comeH x heard ⟨2, lf, ds, nn⟩) vw k (x.credit ds lf nn) y j g l z w2 from by rw [hh]; exact H2.out)
        rw [hE]
        clear hE hh
        go_wp2
        go_meet
        exact H3.out
  case rest =>
    have HS := Lib.hid hcut
    obtain ⟨q1, q2, q3, q4, q5, q6, q7⟩ := HS.out.cells
    obtain ⟨F, hI⟩ := HS.out.inn
    have HI := Lib.hid hI
    have hful := hI.full
    have hpl := HC.out.2.2.yp
    obtain ⟨m, hm⟩ : ∃ m, (comeY y ⟨kind, lf, ds, nn⟩).fs.length = m := ⟨_, rfl⟩
    have hmn : (m : Int) ≤ (n : Int) := by omega
    have HM := Lib.hid hm
    clear hcut hI hful hpl hm q2 q3 q5 q6 q7 HB0
    go_upto_region 16 with fail
    go_region_held3 (fun w' => w'.cell? ⟨b.i, 0, none⟩ = some (.pointer (some ⟨i, 0, none⟩)) ∧ w'.cell? ⟨b.n, 0, none⟩ = some (.int .i64 n))
      (first
        | go_keep)
      (first
        | (go_at_call 23; refine (at_len (HI.out.more (by first | exact Ext.refl _ _ | exact (Ext.refl _ _).drew)) m HM.out).mono ?_; rintro e w5 ⟨rfl, rfl⟩))
    all_goals
      clear q1 q4 HI
      have A := Lib.hid (HS.out.more (Ext.drewN_r 1))
      go_wp2
      go_ret
      exact ⟨rfl, A.out⟩
end

theorem two_cell {w : World} {g : Nat} {v0 v1 : Value} {ty : TypeId} (h : w.heap[g]? = some (.cells #[v0, v1] ty (0, 0))) : (w.cell? ⟨g, 0, none⟩ = some v0 ∧ w.frozen? ⟨g, 0, none⟩ = false) ∧ w.cell? ⟨g, 1, none⟩ = some v1 ∧ w.frozen? ⟨g, 1, none⟩ = false := by
  refine ⟨⟨?_, frozen_of_heap h 0⟩, ?_, frozen_of_heap h 1⟩ <;> (rw [cell_of_heap h]; rfl)
section
variable {b : BL} {n life peer o i gm heard : Nat} {vw : Value} {k : Nat} {x : OutV} {y : InV} {j : Nat} {g : Nat → Nat → Nat} {l : List TW} {kk : Nat} {z : Frm} {w w' : World}
theorem lb_zero (h : SB b n peer o i gm heard vw k x y j g l z w) (hy : y.peer = 0) : Calls Try.prog 34 #[.pointer (some ⟨b.i, 0, none⟩), .pointer (some ⟨b.p, 0, none⟩), .pointer (some ⟨b.g, 0, none⟩), .pointer (some ⟨b.w, 0, none⟩)] w fun e w' => e = .returned (.tuple #[]) ∧ w = w' := by
  obtain ⟨q1, q2, q3, q4, q5, q6, q7⟩ := h.cells
  obtain ⟨F, hI⟩ := h.inn
  have HI := Lib.hid (And.intro hI hy)
  clear h hI hy q1 q2 q3 q5 q6 q7
  go_enter Try.func34, Try.ntmps34
  go_wp2_with fail
  refine (at_life HI.out.1 0 (by rw [HI.out.2]; rfl)).mono ?_
  rintro e w5 ⟨rfl, rfl⟩
  go_wp2
  exact bodyPost_ret (results_none rfl _ _ _) rfl ⟨rfl, rfl⟩
theorem Star.grantS {A : Frm → World → Prop} (pa : Parts A) (h : Star (SB b n peer o i gm heard vw k x y j g l) A z w) (hj : j < maxLen) (p q v : Nat) (hp : p < 18446744073709551616) (hq : q < 18446744073709551616) (hv : v < 18446744073709551616) : ∃ w' : World, (Instr.mapUpdate 88 (.map (some gm)) (.agg #[.int .u64 p, .int .u64 q]) (.int .u64 v)).run Try.prog w = .ok () w' ∧ Star (SB b n peer o i gm heard vw k x y (j + 1) (updG g p q v) l) A z w' := by
  obtain ⟨F, G, h1, h2, h3, h4, h5⟩ := h
  obtain ⟨w', hr, hs⟩ := h1.grant hj p q v hp hq hv
  exact ⟨w', hr, Star.stepL parts_sb pa h2 h3 h4 h5 hs⟩
set_option maxHeartbeats 4000000 in
theorem lb_grant (h : SB b n peer o i gm heard vw k x y j g l z w) (hl : LB n life peer heard x y g l kk) (hk : kk ≤ 200) (hj : j < 1000000) (fr : Nat) (hfr : y.fs.length + fr = y.places) (hy : y.peer ≠ 0) (G : Nat) (hG : grantG y.gr y.seen fr = G) :
    Calls Try.prog 34 #[.pointer (some ⟨b.i, 0, none⟩), .pointer (some ⟨b.p, 0, none⟩), .pointer (some ⟨b.g, 0, none⟩), .pointer (some ⟨b.w, 0, none⟩)] w fun e w' => e = .returned (.tuple #[]) ∧
      ∃ vw', SB b n peer o i gm heard vw' k x { y with gr := G } (j + 1) (updG g y.peer peer (max (g y.peer peer) G)) (l ++ [⟨2, y.peer, peer, G⟩]) z w' := by
  obtain ⟨q1, q2, q3, q4, q5, q6, q7⟩ := h.cells
  obtain ⟨F, hI⟩ := h.inn
  obtain ⟨yp, hyp⟩ : ∃ yp, y.peer = yp := ⟨_, rfl⟩
  have b1 : peer < 1000 := by have := hl.pe; have := hl.k2; omega
  have b2 : yp < 1000 := by have := hl.ypl; have := hl.lf; have := hl.k2; omega
  have b3 := hl.grantOk hk fr hfr hy G hG
  have b4 := hl.gb y.peer peer
  have b5 : l.length ≤ 201 := by have := hl.ll; omega
  have y0 : ((yp : Int) == 0) = false := by simp; omega
  have HI := Lib.hid (And.intro hI (And.intro hfr (And.intro hG hyp)))
  have HS := Lib.hid h
  have HB := Lib.hid (And.intro b1 (And.intro b2 (And.intro b3.2.1 b4)))
  clear h hI hfr hG hy hl b3 b4 q1 q2 q3 q5 q6 q7
  go_enter Try.func34, Try.ntmps34
  go_wp2_with fail
  refine (at_life HI.out.1 yp (by rw [HI.out.2.2.2])).mono ?_
  rintro e w5 ⟨rfl, rfl⟩
  go_wp2_with fail
  refine (HS.out.callI (Q := fun e _ => e = .returned (.tuple #[.int .u64 (G : Nat), .int .i64 0])) (fun z h => at_grant h fr HI.out.2.1 G HI.out.2.2.1)).mono ?_
  rintro e w1 ⟨rfl, h1⟩
  have H1 := Lib.hid h1
  clear h1 HS q4 y0
  obtain ⟨q1, q2, q3, q4, q5, q6, q7⟩ := H1.out.cells
  obtain ⟨F1, hI1⟩ := H1.out.inn
  have HI1 := Lib.hid hI1
  clear hI1 q1 q3 q5 q6 q7
  go_upto_region 2 with fail
  go_cut [6] (fun s w' => ∃ c : Nat, s = .pointer (some ⟨c, 0, none⟩) ∧ Star (SB b n peer o i gm heard vw k x { y with gr := G } j g l) (Blk c (.cells #[.int .u64 (yp : Nat), .int .u64 (peer : Nat)] 93 (0, 0))) z w')
  case first =>
    go_region_held3 (fun w' => w'.cell? ⟨b.i, 0, none⟩ = some (.pointer (some ⟨i, 0, none⟩)) ∧ w'.cell? ⟨b.p, 0, none⟩ = some (.int .u64 peer))
      (first
        | go_keep)
      (first
        | (go_at_call 25; refine (at_life (HI1.out.more (by first | exact Ext.refl _ _ | exact (Ext.refl _ _).drew | exact (Ext.refl _ _).alloc _ | exact ((Ext.refl _ _).alloc _).drew | exact ((Ext.refl _ _).drew).alloc _)) yp (by show (y.peer : Int) = _; rw [HI.out.2.2.2])).mono ?_; rintro e w9 ⟨rfl, rfl⟩))
    all_goals
      clear q2 q4
      go_wp2
      go_meet
      first
        | exact ⟨_, rfl, (parts_star parts_sb (parts_blk _ _)).more (Star.mkR parts_sb (parts_blk _ _) H1.out (Blk.new w1 _)) ((Ext.refl _ _).drew)⟩
        | exact ⟨_, rfl, Star.mkR parts_sb (parts_blk _ _) (H1.out.more ((Ext.refl _ _).drew)) (Blk.new w1.drew _)⟩
  case rest =>
    obtain ⟨c, rfl, hS⟩ := hcut
    have HS := Lib.hid hS
    clear hS HI1 q2 q4
    obtain ⟨gv, hgv⟩ : ∃ gv, g y.peer peer = gv := ⟨_, rfl⟩
    obtain ⟨mx, hmx0⟩ : ∃ mx, max gv G = mx := ⟨_, rfl⟩
    have hmx : max (gv : Int) (G : Int) = (mx : Int) := by omega
    have hSd := (parts_star parts_sb (parts_blk _ _)).more HS.out ((Ext.refl (fun _ => False) wc).drew)
    have hb := HB.out
    rw [hgv] at hb
    obtain ⟨w3, hr3, hS3⟩ := Star.grantS (parts_blk _ _) hSd (by unfold maxLen; omega) yp peer mx (by omega) (by omega) (by omega)
    have L := (Star.l parts_sb hSd).map.look yp peer (by omega) (by omega)
    rw [show g yp peer = gv by rw [← hyp]; exact hgv] at L
    obtain ⟨q1, q2, q3, q4, q5, q6, q7⟩ := (Star.l parts_sb HS.out).cells
    have hkc := two_cell (Star.r (parts_blk _ _) HS.out).1
    obtain ⟨⟨k0, _⟩, k1, _⟩ := hkc
    have S3 : w3.cell? ⟨b.g, 0, none⟩ = some (.map (some gm)) ∧ w3.cell? ⟨c, 0, none⟩ = some (.int .u64 yp) ∧ w3.cell? ⟨c, 1, none⟩ = some (.int .u64 peer) :=
      ⟨(Star.l parts_sb hS3).cells.2.2.2.2.1, (two_cell (Star.r (parts_blk _ _) hS3).1).1.1, (two_cell (Star.r (parts_blk _ _) hS3).1).2.1⟩
    have HS3 := Lib.hid (And.intro S3 (Star.l parts_sb hS3))
    have HG := Lib.hid (And.intro hgv hmx0)
    clear S3 hS3 hSd hgv hmx0 hb q1 q2 q3 q4 q6 q7
    go_upto_region 3 with fail
    go_region_held3 (fun w' => w'.cell? ⟨b.g, 0, none⟩ = some (.map (some gm)) ∧ w'.cell? ⟨c, 0, none⟩ = some (.int .u64 yp) ∧ w'.cell? ⟨c, 1, none⟩ = some (.int .u64 peer))
      (first
        | go_keep
        | exact HS3.out.1)
      (fail)
    all_goals
      have H3 := Lib.hid HS3.out.2
      have hwf := (HS3.out.2.way).form
      clear HS3 HS H1 L hr3 k0 k1 q5
      obtain ⟨wa, wcp, rfl⟩ := hwf
      obtain ⟨q1, q2, q3, q4, q5, q6, q7⟩ := H3.out.cells
      obtain ⟨F3, hI3⟩ := H3.out.inn
      have HI3 := Lib.hid hI3
      clear hI3 q1 q3 q5 q6
      obtain ⟨_, qa2, _, qa4, _, _, qa7⟩ := (H3.out.more ((Ext.refl (fun _ => False) w3).alloc (.cells #[.int .i64 2, .int .u64 (yp : Nat), .int .u64 (peer : Nat), .int .u64 (G : Nat)] 91))).cells
      go_upto_region 4 with fail
      go_region_law (first
        | (go_simp; go_at_call 25; refine (at_life (HI3.out.more (by first | exact Ext.refl _ _ | exact (Ext.refl _ _).drew | exact (Ext.refl _ _).alloc _ | exact ((Ext.refl _ _).alloc _).drew | exact ((Ext.refl _ _).drew).alloc _)) yp (by show (y.peer : Int) = _; rw [HI.out.2.2.2])).mono ?_; rintro e w9 ⟨rfl, rfl⟩)
        | (refine step_append_ownS (by rfl) (.tmp 26) (.tmp 32) 89 89 (by rfl) 91 (.agg #[.int .i64 0, .int .u64 0, .int .u64 0, .int .u64 0]) 4 32 Try.underlying89 infoTold rfl _ _ (by rfl) (by rfl) l.length (tcells l) (OwnS.grows H3.out.way (by first | exact (Ext.refl _ _).alloc _ | exact ((Ext.refl _ _).alloc _).drew | exact ((Ext.refl _ _).drew).alloc _)) 1 (tcells [(⟨2, yp, peer, G⟩ : TW)]) (src_told (⟨2, yp, peer, G⟩ : TW) (heap_alloc_new _ _)) (by unfold maxLen; omega) (by omega) ?_; intro v' w5 hown5 hgr5 hblk5; obtain ⟨hN5, c5, f5⟩ := H3.out.push (⟨2, yp, peer, G⟩ : TW) (by first | exact (Ext.refl _ _).alloc _ | exact ((Ext.refl _ _).alloc _).drew | exact ((Ext.refl _ _).drew).alloc _) hown5 hgr5 hblk5; obtain ⟨qa, qc, rfl⟩ := OwnS.form hown5))
      all_goals
        have e1 : updG g yp peer mx = updG g y.peer peer (max (g y.peer peer) G) := by rw [HG.out.1, HG.out.2, hyp]
        have e2 : (⟨2, yp, peer, G⟩ : TW) = ⟨2, y.peer, peer, G⟩ := by rw [hyp]
        rw [e1, e2] at hN5
        have A := Lib.hid hN5
        clear e1 e2 hN5 hown5 hgr5 hblk5 c5 f5 q2 q4 q7 qa2 qa4 qa7 H3 HI3
        go_wp2
        go_end0
        exact ⟨rfl, _, A.out⟩
end
end Go.Proofs.Ytekdggdnkmkldaa
