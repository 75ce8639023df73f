/- CreditNever: nothing is used that was not granted, whatever is lost, doubled or late, whoever begins anew. -/
import Derived.Test.YtpkaddpennafcaaCreditW
import Derived.Test.YtpkaddpennafcaaCreditN
import Derived.Deep.LoopGhost
import Derived.Deep.DeepCutAuto
import Derived.Deep.RegionHeld3
import Derived.Laws.MathBits
namespace Go.Proofs.Ytpkaddpennafcaa
set_option linter.unusedVariables false
set_option linter.unusedSimpArgs false
open Go.ChangeShapes Go.WideShapes Go.ChangeAt Go.RowKit

theorem Ways.cap2 {w : World} {g off n cap : Nat} {l : List WayV} (h : Ways w (.slice (some ⟨g, off, none⟩) n cap) l) : n ≤ cap ∧ cap ≤ maxLen := by
  rcases h.2 with ⟨h0, _⟩ | ⟨g', off', cap', cur, h0, hg, h1, h2, h3, h4⟩
  · cases h0
  · simp only [Value.slice.injEq, Option.some.injEq, Addr.mk.injEq] at h0
    obtain ⟨_, rfl, rfl⟩ := h0
    exact ⟨h1, h2⟩
theorem and7i (z : Int) : bits .and .i64 z 7 = z % 8 := by 
  have hx : ∀ a : BitVec 64, (a &&& BitVec.ofInt 64 7).toNat = a.toNat % 8 := by
    intro a
    rw [show BitVec.ofInt 64 7 = 7#64 by decide]
    simp only [BitVec.toNat_and, BitVec.toNat_ofNat]
    exact Nat.and_two_pow_sub_one_eq_mod a.toNat 3
  have h9 := hx (BitVec.ofInt 64 z)
  have hb : ((BitVec.ofInt 64 z).toNat : Int) = z % 18446744073709551616 := by
    rw [BitVec.toNat_ofInt]; omega
  show IntKind.i64.wrap (((BitVec.ofInt 64 z &&& BitVec.ofInt 64 7).toNat : Nat) : Int) = z % 8
  rw [h9]
  rw [IntKind.wrap_i64]
  omega
theorem tmod_natN (a b : Nat) : (a : Int).tmod (b : Int) = ((a % b : Nat) : Int) := rfl
section
variable {ls lr P G U rP rG S : Nat} {g : Nat → Nat → Nat} {u : Nat → Nat} {l : List WayV} {j : Nat}
theorem NP.b1 (h : NP ls lr P G U rP rG S g u l j) : ls < 18446744073709551616 := by have := h.l1; have := h.jh; omega
theorem NP.b2 (h : NP ls lr P G U rP rG S g u l j) : lr < 18446744073709551616 := by have := h.l2; have := h.jh; omega
theorem NP.b3 (h : NP ls lr P G U rP rG S g u l j) : P < 18446744073709551616 := by have := h.b2; have := h.pl; omega
theorem NP.b4 (h : NP ls lr P G U rP rG S g u l j) : rP < 18446744073709551616 := by have := h.b1; have := h.rl; omega
theorem NP.b5 (h : NP ls lr P G U rP rG S g u l j) : U + 1 < 18446744073709551616 := by have := h.used; have := h.ub ls; have := h.jh; omega
theorem b6 {n : Nat} (h : n ≤ 108) : n < 18446744073709551616 := by omega
theorem b7 {n : Nat} (h : n ≤ 1000) : n < maxLen := by unfold maxLen; omega
end

section
variable {w wr : World} {s r c gm um ls lr P G U rP rG S : Nat} {g : Nat → Nat → Nat} {u : Nat → Nat} {l : List WayV} {vw : Value} {j : Nat}
theorem nv_use (h : NV w wr s r c gm um ls lr P G U rP rG S g u l vw j) (hlt : U < G) (n : Nat) (hn : U + 1 = n) : Calls Try.prog 34 #[.pointer (some ⟨s, 0, none⟩)] wr fun e w' => e = .returned (.tuple #[.int .u64 n, .int .i64 0]) ∧
    SR w w' s ls P G n r 8 rP rG S ∧ NS w w' s r c gm um ls lr j g u l vw := by
  subst hn
  refine (use_ok _ _ _ _ _ _ h.sr.snd hlt).mono ?_
  rintro e w' ⟨rfl, h1, he⟩
  exact ⟨rfl, h.sr.sstep h1 he, h.ns.sext he⟩
theorem nv_grant (h : NV w wr s r c gm um ls lr P G U rP rG S g u l vw j) (x : Int) (f : Nat) (hx : x = (f : Int)) (hf : f ≤ 7) (n : Nat) (hn : grantG rG S f = n) : Calls Try.prog 40 #[.pointer (some ⟨r, 0, none⟩), .int .i64 x] wr fun e w' => e = .returned (.tuple #[.int .u64 n, .int .i64 0]) ∧
    SR w w' s ls P G U r 8 rP n S ∧ NS w w' s r c gm um ls lr j g u l vw := by
  subst hx hn
  refine (grant_ok _ _ _ _ _ _ f h.sr.rcv (by omega)).mono ?_
  rintro e w' ⟨rfl, h1, he⟩
  exact ⟨rfl, h.sr.rstep h1 he, h.ns.rext he⟩
end


/-- A statement at which the walk is to stand still. -/
def HeldN (p : Prop) : Prop := p
theorem held_no {n : Nat} {P : Program} {ops : Array Oper} {b : Bool} {d rest : Code} {Q : Exit → Act → World → Prop} {a : Act} {w : World} (h : HeldN ((Code.seq (Code.seq (Code.region n ops b) d) rest).wp P Q a w)) :
    (Code.seq (Code.seq (Code.region n ops b) d) rest).wp P Q a w := h
def Cells4 (w : World) (c : Nat) (x y z t : Value) : Prop := w.cell? ⟨c, 0, none⟩ = some x ∧ w.cell? ⟨c, 1, none⟩ = some y ∧ w.cell? ⟨c, 2, none⟩ = some z ∧ w.cell? ⟨c, 3, none⟩ = some t
theorem cells4 {T : Nat → Prop} {w w' : World} {c : Nat} {x y z t : Value} (e : Ext T w w') (hc : c < w.heap.size) (hT : ¬ T c) (h : Cells4 w c x y z t) : Cells4 w' c x y z t :=
  ⟨(e.cell hc hT).trans h.1, (e.cell hc hT).trans h.2.1, (e.cell hc hT).trans h.2.2.1, (e.cell hc hT).trans h.2.2.2⟩
theorem cells4_new (w : World) (x y z t : Value) (ty : TypeId) : Cells4 (w.alloc (.cells #[x, y, z, t] ty)) w.heap.size x y z t :=
  ⟨by rw [cell_of_heap (heap_alloc_new w _)]; simp, by rw [cell_of_heap (heap_alloc_new w _)]; simp, by rw [cell_of_heap (heap_alloc_new w _)]; simp, by rw [cell_of_heap (heap_alloc_new w _)]; simp⟩
set_option maxRecDepth 4000 in
set_option maxHeartbeats 64000000 in
theorem CreditNever_walk (v : Value) (xs : List StepV) (w : World) (h0 : Steps w v xs) :
    Calls Try.prog 8 #[v] w fun e w' => e = .returned (.bool true) ∧ Below w.heap.size w w' := by
  obtain ⟨va, vc, rfl⟩ := h0.form
  have NS' := Lib.hid h0
  clear h0
  have hmm := @run_makeMap Try.prog
  go_enter Try.func8, Try.ntmps8
  go_wp2_with fail
  obtain ⟨cb, hcb⟩ : ∃ cb, w.heap.size = cb := ⟨_, rfl⟩
  have hc0 := heap_alloc_new w (.cells #[.int .u64 ((1 : Nat) : Int), .int .u64 ((1 : Nat) : Int)] 87 (0, 0))
  have g1 : Grows w (w.alloc (.cells #[.int .u64 ((1 : Nat) : Int), .int .u64 ((1 : Nat) : Int)] 87 (0, 0))) := (Ext.refl _ w).alloc _
  rw [hcb] at hc0 ⊢
  change Calls _ _ _ (w.alloc (.cells #[.int .u64 ((1 : Nat) : Int), .int .u64 ((1 : Nat) : Int)] 87 (0, 0))) _
  generalize w.alloc (.cells #[.int .u64 ((1 : Nat) : Int), .int .u64 ((1 : Nat) : Int)] 87 (0, 0)) = w1 at hc0 g1 ⊢
  obtain ⟨s, hs⟩ : ∃ s, w1.heap.size = s := ⟨_, rfl⟩
  refine (sn_new (w := w1) 1 (Nat.le_of_eq hs) (Ext.refl _ _) hs (by omega) (by decide)).mono ?_
  have HC := Lib.hid (And.intro hcb (And.intro hc0 g1))
  have HS := Lib.hid hs
  clear hcb hc0 g1 hs
  rintro e w2 ⟨rfl, H'⟩
  have HH := Lib.hid H'
  clear H'
  go_wp2_with fail
  obtain ⟨r, hr⟩ : ∃ r, w2.heap.size = r := ⟨_, rfl⟩
  refine (sr_join HH.out hr 8 (by omega) (by omega)).mono ?_
  rintro e w3 ⟨rfl, H'⟩
  clear HH hr
  have HH := Lib.hid H'
  clear H'
  go_wp2
  have hNV : NV w ((w3.alloc (.map #[] 0)).alloc (.map #[] 0)) s r cb w3.heap.size (w3.heap.size + 1) 1 1 0 0 0 0 0 0 (fun _ _ => 0) (fun _ => 0) [] (.slice none 0 0) 0 := by
    obtain ⟨hcb, hc0, g1⟩ := HC.out
    have hs := HS.out
    have h3 := HH.out
    have g3 : Grows w3 ((w3.alloc (.map #[] 0)).alloc (.map #[] 0)) := ((Ext.refl _ _).alloc _).alloc _
    have l1 := heap_lt hc0
    have l2 := h3.grows.size
    have l3 := h3.snd.lt
    have l4 := h3.rcv.lt
    have l5 := g1.size
    have l6 := h3.sb
    have l7 := h3.rb
    have hm := mapU_made (w3.alloc (.map #[] 0))
    rw [show (w3.alloc (.map #[] 0)).heap.size = w3.heap.size + 1 by simp] at hm
    refine ⟨⟨h3.snd.ext g3 (fun h => h), h3.rcv.ext g3 (fun h => h), by omega, by omega, h3.ne, (g1.trans h3.grows).trans g3⟩, ⟨⟨_, (g3.block cb (by omega) (fun h => h)).trans ((h3.grows.block cb l1 (fun h => h)).trans hc0)⟩, (mapG_made w3).ext (S := fun _ => False) ((Ext.refl _ _).alloc _) (fun h => h), hm, OwnS.nil _ _ _, fun k hk => by simp [Value.ownBlock] at hk, by omega⟩, ?_⟩
    exact ⟨by omega, by omega, by omega, by omega, rfl, fun _ _ => rfl, fun _ => Nat.le_refl _, rfl, fun _ _ => rfl, fun _ _ _ => rfl, fun _ _ => by omega, .inl ⟨rfl, rfl⟩, by omega, by simp, by omega⟩
  have HA := Lib.hid hNV
  clear hNV HH HC HS hmm
  generalize (w3.alloc (.map #[] 0)).alloc (.map #[] 0) = w5 at HA ⊢
  generalize w3.heap.size + 1 = um at HA ⊢
  generalize w3.heap.size = gm at HA ⊢
  go_loopg [4, 6, 8, 11, 12] xs.length (fun k sv rv vw kv c wr => ∃ (j s r ls lr P G U rP rG S : Nat) (g : Nat → Nat → Nat) (u : Nat → Nat) (l : List WayV), j ≤ xs.length ∧ k = xs.length - j ∧ j ≤ 100 ∧ c = .int .i64 (j : Nat) ∧ sv = .pointer (some ⟨s, 0, none⟩) ∧ rv = .pointer (some ⟨r, 0, none⟩) ∧ kv = .int .u64 (P : Nat) ∧ NV w wr s r cb gm um ls lr P G U rP rG S g u l vw j ∧ l.length ≤ j)
  case atStart => exact ⟨0, s, r, 1, 1, 0, 0, 0, 0, 0, 0, _, _, [], by omega, by omega, by omega, rfl, rfl, rfl, rfl, HA.out, by simp⟩
  case round =>
    obtain ⟨j, s, r, ls, lr, P, G, U, rP, rG, S, g, u, l, hj, hk, hj1, rfl, rfl, rfl, rfl, hI, hfew⟩ := hrel
    have HK := Lib.hid hk
    have HI := Lib.hid hI
    clear hk hI HA
    by_cases hlt : j < xs.length
    · by_cases h100 : j < 100
      · have hj0 : (j : Int) < 100 := by omega
        have hj2 : (j : Int) < (xs.length : Int) := by omega
        have hj3 : (0 : Int) ≤ (j : Int) := by omega
        obtain ⟨b, off, cap, e, hbl, hcell, hxb⟩ := NS'.out.at j hlt
        injection e with e1 e2 e3
        subst e1 e3
        clear e2
        generalize xs[j] = o at hcell hxb
        obtain ⟨what, free, pos, stays⟩ := o
        have c0 := (HI.out.sr.grows.cell hbl (fun h => h)).trans (hcell 0 (by omega))
        have c1 := (HI.out.sr.grows.cell hbl (fun h => h)).trans (hcell 1 (by omega))
        have c2 := (HI.out.sr.grows.cell hbl (fun h => h)).trans (hcell 2 (by omega))
        have c3 := (HI.out.sr.grows.cell hbl (fun h => h)).trans (hcell 3 (by omega))
        simp only [StepV.cells, Nat.add_zero, List.getElem?_cons_zero, List.getElem?_cons_succ] at c0 c1 c2 c3
        have XB := Lib.hid hxb
        clear hbl hcell hxb
        obtain ⟨ua, uc, rfl⟩ := OwnS.form HI.out.ns.ways
        have HA := Lib.hid (HI.out.more ((Ext.refl _ wr).alloc (.cells #[.int .i64 what, .int .i64 free, .int .u16 pos, .bool stays] 92)))
        have hA0 : (wr.alloc (.cells #[.int .i64 what, .int .i64 free, .int .u16 pos, .bool stays] 92)).heap[wr.heap.size]? = some (.cells #[.int .i64 what, .int .i64 free, .int .u16 pos, .bool stays] 92 (0, 0)) := heap_alloc_new wr _
        have A0 := Lib.hid hA0
        clear hA0
        have hw : (what = 0 ∨ what = 1 ∨ what = 2) ∨ what = 3 ∨ what = 4 ∨ ((what = 5 ∨ what = 6 ∨ what = 7) ∧ ((what == 0) = false ∧ (what == 1) = false) ∧ ((what == 2) = false ∧ (what == 3) = false) ∧ (what == 4) = false) ∨ what = 8 ∨ (((what == 0) = false ∧ (what == 1) = false) ∧ ((what == 2) = false ∧ (what == 3) = false) ∧ ((what == 4) = false ∧ (what == 5) = false) ∧ ((what == 6) = false ∧ (what == 7) = false) ∧ ((what == 8) = false)) := by simp; omega
        rcases hw with hw | rfl | rfl | ⟨hw, ⟨k0, k1⟩, ⟨k2, k3⟩, k4⟩ | rfl | ⟨⟨k0, k1⟩, ⟨k2, k3⟩, ⟨k4, k5⟩, ⟨k6, k7⟩, k8⟩
        · as_aux_lemma =>
          go_upto_region 17 with (with_reducible refine held_no (n := 17) ?_)
          unfold HeldN
          go_step
          go_cut [65] (fun v65 w' => v65 = .bool true ∧ w' = wr.alloc (.cells #[.int .i64 what, .int .i64 free, .int .u16 pos, .bool stays] 92))
          case first =>
            rcases hw with rfl | rfl | rfl
            all_goals
              go_wp2
              go_meet
              case rel => exact ⟨rfl, rfl⟩
          case rest =>
          obtain ⟨rfl, rfl⟩ := hcut
          clear hw
          go_wp2_with fail
          generalize wr.alloc (.cells #[.int .i64 what, .int .i64 free, .int .u16 pos, .bool stays] 92) = wa at HA ⊢
          clear A0 c0 c1 c2 c3
          by_cases hu : U < G
          · refine (sr_may HA.out.sr true (by simp [hu])).mono ?_
            rintro e w9 ⟨rfl, rfl⟩
            go_wp2_with fail
            obtain ⟨n, hn⟩ : ∃ n, U + 1 = n := ⟨_, rfl⟩
            refine (nv_use HA.out hu n hn).mono ?_
            rintro e wb ⟨rfl, hsr, hns⟩
            have hnp := HA.out.np.use hu (by omega)
            have L1 := hns.mg.look P ls HA.out.np.b3 HA.out.np.b1
            have L2 := hns.mu.look ls HA.out.np.b1
            rw [HA.out.np.used] at L2
            have hnb := HA.out.np.b5
            rw [hn] at hnp hnb
            have x0 := hns.cells.1
            have hge := hnp.2
            generalize g P ls = gp at L1 hge
            have q1 : ¬ ((gp : Int) < (n : Int)) := by omega
            have q2 : IntKind.u64.wrap ((U : Int) + 1) = (n : Int) := by rw [IntKind.wrap_u64]; omega
            obtain ⟨D, hown, hDm, hDa⟩ := hns.mu
            have HD := Lib.hid (And.intro hDm hDa)
            have HN := Lib.hid (And.intro hsr (And.intro hns (And.intro hnp.1 (And.intro hnb HA.out.np.b1))))
            clear hsr hns hnp hnb hDm hDa hn hge HA
            go_wp2_with (at_mapUpdate; refine wpList_mapUpdate_own _ rfl _ _ _ 90 rfl 22 22 lawU Try.underlying90 _ um j D rfl hown (b7 (by omega)) _ _ _ rfl rfl (keyU ls HN.out.2.2.2.2) _ [] (plainElem_int Try.underlying22 (wfU n HN.out.2.2.2.1)) ?_)
            intro w4 hown4 hg4
            have hmu := MapU.put HD.out.1 HD.out.2 ls n HN.out.2.2.2.2 hown4
            have hB : NV w w4 s r cb gm um ls lr P G n rP rG S g (updU u ls n) l (.slice ua l.length uc) (j + 1) :=
              ⟨HN.out.1.side (T := fun k => k = um) (Ext.of_grown hg4 (fun k hk => (Option.some.inj hk).symm)) (fun e => HN.out.2.1.dis.2.2.2.1.1 e.symm) (fun e => HN.out.2.1.dis.2.2.2.1.2 e.symm) (fun k hk => hk ▸ HN.out.2.1.dis.1.2.2), HN.out.2.1.putU hmu hg4, HN.out.2.2.1⟩
            have HB := Lib.hid hB
            clear hB hmu hown4 hg4 hown HD HN L1 L2 q1 q2 x0
            have x0 := HB.out.ns.cells.1
            generalize hwb : w4 = wb at HB x0 ⊢
            clear hwb
            have own5 := OwnS.grows HB.out.ns.ways ((Ext.refl (fun _ => False) wb).alloc (.cells #[.bool false, .int .u64 ls, .int .u64 0, .int .u64 n] 94))
            go_wp2_with (at_builtin; refine wpList_append_ownS rfl (.tmp 103) (.tmp 108) 88 88 rfl 94 (.agg #[.bool false, .int .u64 0, .int .u64 0, .int .u64 0]) 4 32 Try.underlying88 infoWay rfl _ _ rfl rfl l.length (wcells l) own5 1 (wcells [⟨false, ls, 0, n⟩]) (src_way ⟨false, ls, 0, n⟩ (heap_alloc_new wb _)) (by unfold maxLen; omega) (by omega) ?_)
            intro v' w6 hown6 hgr6 hblk6
            have I6 := (HB.out.more ((Ext.refl (fun _ => False) wb).alloc (.cells #[.bool false, .int .u64 ls, .int .u64 0, .int .u64 n] 94))).push ⟨false, ls, 0, n⟩ (by have h1 := HB.out.np.l1; have h2 := HB.out.np.used; unfold wayOk; rw [if_neg (by simp)]; simp only; omega) (by unfold Ways; rw [wcells_append, List.length_append]; exact hown6) hgr6 (by simpa using hblk6)
            clear own5 hown6 hgr6 hblk6 HB
            have HB := Lib.hid I6
            have HL := Lib.hid (show (l ++ [(⟨false, ls, 0, n⟩ : WayV)]).length ≤ j + 1 by simp; omega)
            clear I6
            go_wp2
            go_roundg (xs.length - (j + 1))
            case measure => have := HK.out; omega
            case rel => exact ⟨j + 1, _, _, _, _, _, _, _, _, _, _, _, _, _, by omega, rfl, by omega, by go_num, rfl, rfl, rfl, HB.out, HL.out⟩
          · refine (sr_may HA.out.sr false (by simp [hu])).mono ?_
            rintro e w9 ⟨rfl, rfl⟩
            go_wp2_with fail
            refine (sr_use_no HA.out.sr (by omega)).mono ?_
            rintro e wb ⟨rfl, rfl⟩
            have HB := Lib.hid (HA.out.relax (by omega))
            have HL := Lib.hid (show l.length ≤ j + 1 by omega)
            clear HA
            go_wp2
            go_roundg (xs.length - (j + 1))
            case measure => have := HK.out; omega
            case rel => exact ⟨j + 1, _, _, _, _, _, _, _, _, _, _, _, _, _, by omega, rfl, by omega, by go_num, rfl, rfl, rfl, HB.out, HL.out⟩
        · as_aux_lemma =>
          go_upto_region 30 with fail
          generalize wr.alloc (.cells #[.int .i64 3, .int .i64 free, .int .u16 pos, .bool stays] 92) = wa at HA ⊢
          clear A0 c0 c1 c2 c3
          have x0 := HA.out.ns.cells.1
          have HU := Lib.hid (show wayOk ls lr g u ⟨false, ls, 0, U⟩ by have h1 := HA.out.np.l1; have h2 := HA.out.np.used; unfold wayOk; rw [if_neg (by simp)]; simp only; omega)
          go_region_held3 (fun w' => w'.cell? ⟨cb, 0, none⟩ = some (.int .u64 ls))
            (first
              | go_keep
              | exact hx5)
            (first
              | (go_at_call 44; refine (sr_sent (HA.out.sr.more (by first | exact Ext.refl _ _ | exact (Ext.refl _ _).drew | exact (Ext.refl _ _).alloc _ | exact ((Ext.refl _ _).alloc _).drew | exact ((Ext.refl _ _).drew).alloc _))).mono ?_; rintro e w9 ⟨rfl, rfl⟩)
              | (refine step_append_ownS (by rfl) (.tmp 112) (.tmp 118) 88 88 (by rfl) 94 (.agg #[.bool false, .int .u64 0, .int .u64 0, .int .u64 0]) 4 32 Try.underlying88 infoWay rfl _ _ (by rfl) (by rfl) l.length (wcells l) (OwnS.grows HA.out.ns.ways (by first | exact (Ext.refl _ _).alloc _ | exact ((Ext.refl _ _).alloc _).drew | exact ((Ext.refl _ _).drew).alloc _)) 1 (wcells [(⟨false, ls, 0, U⟩ : WayV)]) (src_way (⟨false, ls, 0, U⟩ : WayV) (heap_alloc_new _ _)) (by unfold maxLen; omega) (by omega) ?_; intro v' w5 hown5 hgr5 hblk5; have hN5 := NV.push (NV.more (HA.out.relax (by omega)) (by first | exact (Ext.refl _ _).alloc _ | exact ((Ext.refl _ _).alloc _).drew | exact ((Ext.refl _ _).drew).alloc _)) (⟨false, ls, 0, U⟩ : WayV) HU.out (by unfold Ways; rw [wcells_append, List.length_append]; exact hown5) hgr5 hblk5; have hx5 := hN5.ns.cells.1))
          all_goals
            have HB := Lib.hid hN5
            have HL := Lib.hid (show (l ++ [(⟨false, ls, 0, U⟩ : WayV)]).length ≤ j + 1 by simp; omega)
            clear hown5 hgr5 hblk5 hN5 hx5 HA
            go_wp2
            go_roundg (xs.length - (j + 1))
            case measure => have := HK.out; omega
            case rel => exact ⟨j + 1, _, _, _, _, _, _, _, _, _, _, _, _, _, by omega, rfl, by omega, by go_num, rfl, rfl, rfl, HB.out, HL.out⟩
        · as_aux_lemma =>
          go_wp2_with fail
          generalize wr.alloc (.cells #[.int .i64 4, .int .i64 free, .int .u16 pos, .bool stays] 92) = wa at HA ⊢
          clear A0 c0 c1 c2 c3
          obtain ⟨n, hn⟩ : ∃ n, grantG rG S (free % 8).toNat = n := ⟨_, rfl⟩
          refine (nv_grant HA.out _ (free % 8).toNat (by rw [and7i]; omega) (by omega) n hn).mono ?_
          rintro e wb ⟨rfl, hsr, hns⟩
          have hnp := (HA.out.relax (by omega)).np.grant (free % 8).toNat (by omega)
          rw [hn] at hnp
          have HN := Lib.hid (And.intro hsr (And.intro hns hnp))
          clear hsr hns hnp hn HA
          have x1 := HN.out.2.1.cells.2.1
          go_upto_region 35 with fail
          go_cut [19] (fun v19 w' => ∃ q : Nat, v19 = .pointer (some ⟨q, 0, none⟩) ∧ SR w w' s ls P G U r 8 rP n S ∧ NS w w' s r cb gm um ls lr j g u l (.slice ua l.length uc) ∧ w'.cell? ⟨q, 0, none⟩ = some (.int .u64 lr) ∧ w'.cell? ⟨q, 1, none⟩ = some (.int .u64 rP))
          case first =>
            go_region_held3 (fun w' => w'.cell? ⟨cb, 1, none⟩ = some (.int .u64 lr))
              (first
                | go_keep)
              (first
                | (go_at_call 46; refine (sr_life (HN.out.1.more (by first | exact Ext.refl _ _ | exact (Ext.refl _ _).drew | exact (Ext.refl _ _).alloc _ | exact ((Ext.refl _ _).alloc _).drew | exact ((Ext.refl _ _).drew).alloc _))).mono ?_; rintro e w9 ⟨rfl, rfl⟩))
            all_goals
              clear x1
              go_wp2
              go_meet
              case rel =>
                have q0 : ∀ (k : Nat) (x : Value), (#[.int .u64 lr, .int .u64 rP] : Array Value)[k]? = some x → (wb.alloc (.cells #[.int .u64 lr, .int .u64 rP] 87)).cell? ⟨wb.heap.size, k, none⟩ = some x := fun k x hx => by rw [cell_of_heap (heap_alloc_new wb _)]; exact hx
                exact ⟨wb.heap.size, rfl, HN.out.1.more (by first | exact Ext.refl _ _ | exact (Ext.refl _ _).drew | exact (Ext.refl _ _).alloc _ | exact ((Ext.refl _ _).alloc _).drew | exact ((Ext.refl _ _).drew).alloc _), HN.out.2.1.more (by first | exact Ext.refl _ _ | exact (Ext.refl _ _).drew | exact (Ext.refl _ _).alloc _ | exact ((Ext.refl _ _).alloc _).drew | exact ((Ext.refl _ _).drew).alloc _), q0 0 _ rfl, q0 1 _ rfl⟩
          case rest =>
          obtain ⟨q, rfl, hsr, hns, y0, y1⟩ := hcut
          have hnp := HN.out.2.2
          have HE := Lib.hid (And.intro hsr (And.intro hns hnp))
          clear HN hsr hns hnp x1
          have L1 := HE.out.2.1.mg.look lr rP HE.out.2.2.1.b2 HE.out.2.2.1.b4
          obtain ⟨gk, hgk⟩ : ∃ gk, g lr rP = gk := ⟨_, rfl⟩
          rw [hgk] at L1
          have hn1 := HE.out.2.2.2.1
          have hn2 := HE.out.2.2.2.2.1
          have hn3 := HE.out.2.2.2.2.2
          rw [hgk] at hn1 hn2
          obtain ⟨kl, hkl⟩ := keyG lr rP HE.out.2.2.1.b2 HE.out.2.2.1.b4
          obtain ⟨D, hown, hDm, hDa⟩ := HE.out.2.1.mg
          have HD := Lib.hid (And.intro hDm (And.intro hDa hkl))
          have HG := Lib.hid hgk
          have q1 : ¬ ((n : Int) < (gk : Int)) := by omega
          have q3 : S ≤ 1000 := by have := HE.out.2.2.1.su; have := HE.out.2.2.1.ub rP; omega
          have q4 : IntKind.u64.wrap ((S : Int) + 8) = (S : Int) + 8 := by rw [IntKind.wrap_u64]; omega
          clear hDm hDa hkl hgk hn1 q3
          have HC9 := Lib.hid (And.intro hn2 hn3)
          clear hn2 hn3
          by_cases hq : n ≤ S + 8
          · have q2 : ¬ ((S : Int) + 8 < (n : Int)) := by omega
            clear hq
            go_wp2_with fail
            refine (sr_seen HE.out.1).mono ?_
            rintro e w9 ⟨rfl, rfl⟩
            go_wp2_with (at_mapUpdate; refine wpList_mapUpdate_own _ rfl _ _ _ 89 rfl 87 22 lawG Try.underlying89 _ gm j D rfl hown (b7 (by omega)) _ _ _ rfl rfl HD.out.2.2 _ [] (plainElem_int Try.underlying22 (wfU n (b6 HC9.out.2))) ?_)
            intro w4 hown4 hg4
            have hmg := MapG.put HD.out.1 HD.out.2.1 lr rP n HD.out.2.2 hown4
            have hB : NV w w4 s r cb gm um ls lr P G U rP n S (updG g lr rP n) u l (.slice ua l.length uc) (j + 1) :=
              ⟨HE.out.1.side (T := fun k => k = gm) (Ext.of_grown hg4 (fun k hk => (Option.some.inj hk).symm)) (fun e => HE.out.2.1.dis.2.2.1.1 e.symm) (fun e => HE.out.2.1.dis.2.2.1.2 e.symm) (fun k hk => hk ▸ HE.out.2.1.dis.1.2.1), HE.out.2.1.putG hmg hg4, HE.out.2.2.1⟩
            clear HE y0 y1
            have HE := Lib.hid hB
            clear hB hmg hown4 hg4 hown HD L1 q1 q2 q4 HG HC9
            try clear q5
            have HU := Lib.hid (show wayOk ls lr (updG g lr rP n) u ⟨true, lr, rP, n⟩ by have h1 := HE.out.np.l2; have h2 := HE.out.np.rl; unfold wayOk updG; rw [if_pos rfl]; simp only [and_self, if_true]; omega)
            go_upto_region 39 with fail
            have x1 := HE.out.ns.cells.2.1
            go_region_held3 (fun w' => w'.cell? ⟨cb, 1, none⟩ = some (.int .u64 lr))
              (first
                | go_keep
                | exact hx5)
              (first
                | (go_at_call 46; refine (sr_life (HE.out.sr.more (by first | exact Ext.refl _ _ | exact (Ext.refl _ _).drew | exact (Ext.refl _ _).alloc _ | exact ((Ext.refl _ _).alloc _).drew | exact ((Ext.refl _ _).drew).alloc _))).mono ?_; rintro e w9 ⟨rfl, rfl⟩)
                | (refine step_append_ownS (by rfl) (.tmp 159) (.tmp 166) 88 88 (by rfl) 94 (.agg #[.bool false, .int .u64 0, .int .u64 0, .int .u64 0]) 4 32 Try.underlying88 infoWay rfl _ _ (by rfl) (by rfl) l.length (wcells l) (OwnS.grows HE.out.ns.ways (by first | exact (Ext.refl _ _).alloc _ | exact ((Ext.refl _ _).alloc _).drew | exact ((Ext.refl _ _).drew).alloc _)) 1 (wcells [(⟨true, lr, rP, n⟩ : WayV)]) (src_way (⟨true, lr, rP, n⟩ : WayV) (heap_alloc_new _ _)) (by unfold maxLen; omega) (by omega) ?_; intro v' w5 hown5 hgr5 hblk5; have hN5 := NV.push (NV.more HE.out (by first | exact (Ext.refl _ _).alloc _ | exact ((Ext.refl _ _).alloc _).drew | exact ((Ext.refl _ _).drew).alloc _)) (⟨true, lr, rP, n⟩ : WayV) HU.out (by unfold Ways; rw [wcells_append, List.length_append]; exact hown5) hgr5 hblk5; have hx5 := hN5.ns.cells.2.1))
            all_goals
              have HB := Lib.hid hN5
              have HL := Lib.hid (show (l ++ [(⟨true, lr, rP, n⟩ : WayV)]).length ≤ j + 1 by simp; omega)
              clear hown5 hgr5 hblk5 hN5 hx5 HE
              go_wp2
              go_roundg (xs.length - (j + 1))
              case measure => have := HK.out; omega
              case rel => exact ⟨j + 1, _, _, _, _, _, _, _, _, _, _, _, _, _, by omega, rfl, by omega, by go_num, rfl, rfl, rfl, HB.out, HL.out⟩
          · have q2 : ((S : Int) + 8 < (n : Int)) := by omega
            have q5 : ¬ ((gk : Int) < (n : Int)) := by have := HC9.out.1; omega
            clear hq
            go_wp2_with fail
            refine (sr_seen HE.out.1).mono ?_
            rintro e w9 ⟨rfl, rfl⟩
            go_wp2_with (at_mapUpdate; refine wpList_mapUpdate_own _ rfl _ _ _ 89 rfl 87 22 lawG Try.underlying89 _ gm j D rfl hown (b7 (by omega)) _ _ _ rfl rfl HD.out.2.2 _ [] (plainElem_int Try.underlying22 (wfU n (b6 HC9.out.2))) ?_)
            intro w4 hown4 hg4
            have hmg := MapG.put HD.out.1 HD.out.2.1 lr rP n HD.out.2.2 hown4
            have hB : NV w w4 s r cb gm um ls lr P G U rP n S (updG g lr rP n) u l (.slice ua l.length uc) (j + 1) :=
              ⟨HE.out.1.side (T := fun k => k = gm) (Ext.of_grown hg4 (fun k hk => (Option.some.inj hk).symm)) (fun e => HE.out.2.1.dis.2.2.1.1 e.symm) (fun e => HE.out.2.1.dis.2.2.1.2 e.symm) (fun k hk => hk ▸ HE.out.2.1.dis.1.2.1), HE.out.2.1.putG hmg hg4, HE.out.2.2.1⟩
            clear HE y0 y1
            have HE := Lib.hid hB
            clear hB hmg hown4 hg4 hown HD L1 q1 q2 q4 HG HC9
            try clear q5
            have HU := Lib.hid (show wayOk ls lr (updG g lr rP n) u ⟨true, lr, rP, n⟩ by have h1 := HE.out.np.l2; have h2 := HE.out.np.rl; unfold wayOk updG; rw [if_pos rfl]; simp only [and_self, if_true]; omega)
            go_upto_region 39 with fail
            have x1 := HE.out.ns.cells.2.1
            go_region_held3 (fun w' => w'.cell? ⟨cb, 1, none⟩ = some (.int .u64 lr))
              (first
                | go_keep
                | exact hx5)
              (first
                | (go_at_call 46; refine (sr_life (HE.out.sr.more (by first | exact Ext.refl _ _ | exact (Ext.refl _ _).drew | exact (Ext.refl _ _).alloc _ | exact ((Ext.refl _ _).alloc _).drew | exact ((Ext.refl _ _).drew).alloc _))).mono ?_; rintro e w9 ⟨rfl, rfl⟩)
                | (refine step_append_ownS (by rfl) (.tmp 159) (.tmp 166) 88 88 (by rfl) 94 (.agg #[.bool false, .int .u64 0, .int .u64 0, .int .u64 0]) 4 32 Try.underlying88 infoWay rfl _ _ (by rfl) (by rfl) l.length (wcells l) (OwnS.grows HE.out.ns.ways (by first | exact (Ext.refl _ _).alloc _ | exact ((Ext.refl _ _).alloc _).drew | exact ((Ext.refl _ _).drew).alloc _)) 1 (wcells [(⟨true, lr, rP, n⟩ : WayV)]) (src_way (⟨true, lr, rP, n⟩ : WayV) (heap_alloc_new _ _)) (by unfold maxLen; omega) (by omega) ?_; intro v' w5 hown5 hgr5 hblk5; have hN5 := NV.push (NV.more HE.out (by first | exact (Ext.refl _ _).alloc _ | exact ((Ext.refl _ _).alloc _).drew | exact ((Ext.refl _ _).drew).alloc _)) (⟨true, lr, rP, n⟩ : WayV) HU.out (by unfold Ways; rw [wcells_append, List.length_append]; exact hown5) hgr5 hblk5; have hx5 := hN5.ns.cells.2.1))
            all_goals
              have HB := Lib.hid hN5
              have HL := Lib.hid (show (l ++ [(⟨true, lr, rP, n⟩ : WayV)]).length ≤ j + 1 by simp; omega)
              clear hown5 hgr5 hblk5 hN5 hx5 HE
              go_wp2
              go_roundg (xs.length - (j + 1))
              case measure => have := HK.out; omega
              case rel => exact ⟨j + 1, _, _, _, _, _, _, _, _, _, _, _, _, _, by omega, rfl, by omega, by go_num, rfl, rfl, rfl, HB.out, HL.out⟩
        · as_aux_lemma =>
          go_upto_region 40 with (with_reducible refine held_no (n := 40) ?_)
          unfold HeldN
          go_step
          go_cut [168] (fun v168 w' => v168 = .bool true ∧ w' = wr.alloc (.cells #[.int .i64 what, .int .i64 free, .int .u16 pos, .bool stays] 92))
          case first =>
            clear k0 k1 k2 k3 k4
            rcases hw with rfl | rfl | rfl
            all_goals
              go_wp2
              go_meet
              case rel => exact ⟨rfl, rfl⟩
          case rest =>
          obtain ⟨rfl, rfl⟩ := hcut
          clear hw k0 k1 k2 k3 k4
          go_upto_region 43 with fail
          have HP := Lib.hid (show (wr.alloc (.cells #[.int .i64 what, .int .i64 free, .int .u16 pos, .bool stays] 92)).cell? ⟨wr.heap.size, 2, none⟩ = some (.int .u16 pos) ∧ (wr.alloc (.cells #[.int .i64 what, .int .i64 free, .int .u16 pos, .bool stays] 92)).cell? ⟨wr.heap.size, 3, none⟩ = some (.bool stays) from ⟨by rw [cell_of_heap A0.out 2]; simp, by rw [cell_of_heap A0.out 3]; simp⟩)
          have HS := Lib.hid (heap_lt A0.out)
          clear A0 c0 c1 c2 c3
          generalize wr.alloc (.cells #[.int .i64 what, .int .i64 free, .int .u16 pos, .bool stays] 92) = wa at HA HP HS ⊢
          generalize wr.heap.size = c at HP HS ⊢
          by_cases hl : l.length = 0
          · have hl0 : (l.length : Int) = 0 := by omega
            have HB := Lib.hid (HA.out.relax (by omega))
            have HL := Lib.hid (show l.length ≤ j + 1 by omega)
            clear HA HP HS
            go_wp2
            go_roundg (xs.length - (j + 1))
            case measure => have := HK.out; omega
            case rel => exact ⟨j + 1, _, _, _, _, _, _, _, _, _, _, _, _, _, by omega, rfl, by omega, by go_num, rfl, rfl, rfl, HB.out, HL.out⟩
          · have hl0 : ((l.length : Int) == 0) = false := by rw [beq_eq_false_iff_ne]; omega
            obtain ⟨k, hk⟩ : ∃ k, pos % l.length = k := ⟨_, rfl⟩
            have hk1 : k < l.length := by rw [← hk]; exact Nat.mod_lt _ (by omega)
            have hk2 : (wrap64 (pos : Int)).tmod (l.length : Int) = (k : Int) := by rw [show wrap64 (pos : Int) = (pos : Int) by have := XB.out.2.2; simp only at this; simp only [wrap64]; omega, tmod_natN, hk]
            obtain ⟨g4, off2, cap2, e, hgl, hcc⟩ := Ways.at HA.out.ns.ways k hk1
            injection e with e1 e2 e3
            subst e1 e3
            clear e2
            obtain ⟨x, hx⟩ : ∃ x, l[k] = x := ⟨_, rfl⟩
            have hxm : x ∈ l := hx ▸ List.getElem_mem _
            have HX := Lib.hid (HA.out.np.wn x hxm)
            rw [hx] at hcc
            clear hx hxm
            obtain ⟨credit, xlife, xdest, xn⟩ := x
            have d0 := hcc 0 (by omega)
            have d1 := hcc 1 (by omega)
            have d2 := hcc 2 (by omega)
            have d3 := hcc 3 (by omega)
            simp only [WayV.cells, Nat.add_zero, List.getElem?_cons_zero, List.getElem?_cons_succ] at d0 d1 d2 d3
            obtain ⟨c2, c3⟩ := HP.out
            have k1 : (0 : Int) ≤ (k : Int) := by omega
            have k2 : (k : Int) < (l.length : Int) := by omega
            clear hcc
            go_upto_region 46 with fail
            have HY := Lib.hid (cells4_new wa (.bool credit) (.int .u64 xlife) (.int .u64 xdest) (.int .u64 xn) 94)
            have hg9 : Grows wa (wa.alloc (.cells #[.bool credit, .int .u64 xlife, .int .u64 xdest, .int .u64 xn] 94)) := (Ext.refl _ _).alloc _
            have HB := Lib.hid (HA.out.more hg9)
            have HP2 := Lib.hid ((hg9.cell (p := ⟨c, 3, none⟩) HS.out (fun h => h)).trans HP.out.2)
            have HZ9 := Lib.hid (And.intro (heap_lt (heap_alloc_new wa (.cells #[.bool credit, .int .u64 xlife, .int .u64 xdest, .int .u64 xn] 94))) (And.intro (Nat.ne_of_gt HA.out.sr.snd.lt) (Nat.ne_of_gt HA.out.sr.rcv.lt)))
            have HV := Lib.hid (show ∀ b', (Value.slice (some ⟨g4, off2, none⟩) l.length uc).ownBlock = some b' → b' ≠ wa.heap.size from fun b' hb' => by simp only [Value.ownBlock, Option.some.injEq] at hb'; omega)
            clear d0 d1 d2 d3 c2 c3 HA HP HS hg9 hgl
            generalize wa.alloc (.cells #[.bool credit, .int .u64 xlife, .int .u64 xdest, .int .u64 xn] 94) = wb at HB HY HP2 HZ9 ⊢
            generalize wa.heap.size = c9 at HY HV HZ9 ⊢
            have c3 := HP2.out
            go_upto_if 187 with fail
            go_cut [8] (fun s' w' => ∃ l2, NV w w' s r cb gm um ls lr P G U rP rG S g u l2 s' j ∧ l2.length ≤ j ∧ c9 < w'.heap.size ∧ Cells4 w' c9 (.bool credit) (.int .u64 xlife) (.int .u64 xdest) (.int .u64 xn))
            case first =>
              as_aux_lemma =>
                cases stays with
                | true =>
                  go_wp2
                  go_meet
                  case rel => exact ⟨l, HB.out, hfew, HZ9.out.1, HY.out⟩
                | false =>
                  obtain ⟨hcap, hcm⟩ := Ways.cap2 HB.out.ns.ways
                  have q1 : (k : Int) ≤ (uc : Int) := by omega
                  have q2 : (k : Int) + 1 ≤ (uc : Int) := by omega
                  have q3 : (k : Int) + 1 ≤ (l.length : Int) := by omega
                  have q4 : (l.length : Int) ≤ (uc : Int) := by omega
                  have q6 : (0 : Int) ≤ (k : Int) + 1 := by omega
                  have q5 : IntKind.i64.wrap ((k : Int) + 1) = (k : Int) + 1 := by rw [IntKind.wrap_i64]; simp only [maxLen] at hcm; omega
                  have hpre0 : (l.take k).length = k := by rw [List.length_take]; omega
                  have HPRE := Lib.hid (show OwnS wb.drew 94 4 (.slice (some ⟨g4, off2, none⟩) k k) k (wcells (l.take k)) from by have := OwnS.grows (Ways.pre HB.out.ns.ways k (by omega)) ((Ext.refl (fun _ => False) wb).drew); rw [hpre0] at this; exact this)
                  have HWD := Lib.hid (show Ways wb.drew (.slice (some ⟨g4, off2, none⟩) l.length uc) l from OwnS.grows HB.out.ns.ways ((Ext.refl (fun _ => False) wb).drew))
                  have hsum : k + (l.length - (k + 1)) ≤ 200 := by omega
                  by_cases hz : k + 1 < uc
                  · have hz1 : (k : Int) + 1 < (uc : Int) := by omega
                    have hz2 : ¬ uc = k + 1 := by omega
                    go_wp2_with fail
                    go_region_held3 (fun w' => True)
                      (trivial)
                      (first
                        | (refine step_append_ownS (by rfl) (.tmp 191) (.tmp 195) 88 88 (by rfl) 94 (.agg #[.bool false, .int .u64 0, .int .u64 0, .int .u64 0]) 4 32 Try.underlying88 infoWay rfl _ _ (by rfl) (by rfl) k (wcells (l.take k)) HPRE.out (l.length - (k + 1)) (wcells (l.drop (k + 1))) (Ways.suf HWD.out k hk1 (by intro h; (first | rfl | omega | (simp; done) | (simp; omega))) ⟨_, rfl⟩) (by unfold maxLen; omega) (by omega) ?_; intro v' w3 hown3 hgr3 hblk3))
                    all_goals
                      have he3 : Ext (fun b' => (Value.slice (some ⟨g4, off2, none⟩) k k).ownBlock = some b') wb.drew w3 := Ext.of_grown hgr3 (fun _ hk => hk)
                      have A := Lib.hid (And.intro (NV.cut (HB.out.more ((Ext.refl _ wb).drew)) (l.take k ++ l.drop (k + 1)) (fun x hx => by
                        rcases List.mem_append.1 hx with hx | hx
                        · exact List.mem_of_mem_take hx
                        · exact List.mem_of_mem_drop hx) (by unfold Ways; rw [wcells_append, List.length_append, hpre0, List.length_drop]; exact hown3) hgr3 hblk3) (And.intro (show c9 < w3.heap.size from Nat.lt_of_lt_of_le HZ9.out.1 he3.size) (cells4 he3 HZ9.out.1 (fun hb => HV.out _ hb rfl) HY.out)))
                      clear he3 hown3 hgr3 hblk3
                      go_wp2
                      go_meet
                      case rel => exact ⟨_, A.out.1, by rw [List.length_append, List.length_take, List.length_drop]; omega, A.out.2⟩
                  · have hz2 : (uc = k + 1) = True := eq_true (by omega)
                    go_wp2_with fail
                    go_region_held3 (fun w' => True)
                      (trivial)
                      (first
                        | (refine step_append_ownS (by rfl) (.tmp 191) (.tmp 195) 88 88 (by rfl) 94 (.agg #[.bool false, .int .u64 0, .int .u64 0, .int .u64 0]) 4 32 Try.underlying88 infoWay rfl _ _ (by rfl) (by rfl) k (wcells (l.take k)) HPRE.out (l.length - (k + 1)) (wcells (l.drop (k + 1))) (Ways.suf HWD.out k hk1 (by intro h; (first | rfl | omega | (simp; done) | (simp; omega))) ⟨_, rfl⟩) (by unfold maxLen; omega) (by omega) ?_; intro v' w3 hown3 hgr3 hblk3))
                    all_goals
                      have he3 : Ext (fun b' => (Value.slice (some ⟨g4, off2, none⟩) k k).ownBlock = some b') wb.drew w3 := Ext.of_grown hgr3 (fun _ hk => hk)
                      have A := Lib.hid (And.intro (NV.cut (HB.out.more ((Ext.refl _ wb).drew)) (l.take k ++ l.drop (k + 1)) (fun x hx => by
                        rcases List.mem_append.1 hx with hx | hx
                        · exact List.mem_of_mem_take hx
                        · exact List.mem_of_mem_drop hx) (by unfold Ways; rw [wcells_append, List.length_append, hpre0, List.length_drop]; exact hown3) hgr3 hblk3) (And.intro (show c9 < w3.heap.size from Nat.lt_of_lt_of_le HZ9.out.1 he3.size) (cells4 he3 HZ9.out.1 (fun hb => HV.out _ hb rfl) HY.out)))
                      clear he3 hown3 hgr3 hblk3
                      go_wp2
                      go_meet
                      case rel => exact ⟨_, A.out.1, by rw [List.length_append, List.length_take, List.length_drop]; omega, A.out.2⟩
            case rest =>
            obtain ⟨l2, hI2, hf2, hz9, hy⟩ := hcut
            have HZ := Lib.hid (And.intro hz9 HZ9.out.2)
            clear HZ9 hz9
            have HZ9 := HZ
            clear HZ
            have HL := Lib.hid (show l2.length ≤ j + 1 by omega)
            have HA := Lib.hid hI2
            clear HB HY hI2 hf2 c3 HP2 hk1 hk2 k1 k2 hl hl0
            have HY := Lib.hid hy
            obtain ⟨y0, y1, y2, y3⟩ := hy
            cases credit with
            | true =>
              have hx9 : (1 ≤ xlife ∧ xlife ≤ lr) ∧ xdest ≤ ls ∧ xn ≤ g xlife xdest := by have := HX.out; unfold wayOk at this; rwa [if_pos rfl] at this
              by_cases hd : xdest = ls
              · subst hd
                by_cases hp : P ≤ xlife
                · as_aux_lemma =>
                  go_wp2_with fail
                  refine (nv_take_ext HA.out xlife xn hx9 hp).mono ?_
                  rintro e w' ⟨rfl, ⟨G', H'⟩, he⟩
                  have hcy := cells4 he HZ9.out.1 HZ9.out.2.1 HY.out
                  have HB := Lib.hid (H'.relax (by omega))
                  clear H' HA he y0 y1 y2 y3 HY
                  obtain ⟨y0, y1, y2, y3⟩ := hcy
                  have x0 := HB.out.ns.cells.1
                  have hp2 : (P : Int) ≤ (xlife : Int) := by omega
                  go_wp2
                  go_roundg (xs.length - (j + 1))
                  case measure => have := HK.out; omega
                  case rel => exact ⟨j + 1, _, _, _, _, _, _, _, _, _, _, _, _, _, by omega, rfl, by omega, by go_num, rfl, rfl, rfl, HB.out, HL.out⟩
                · as_aux_lemma =>
                  go_wp2_with fail
                  refine (nv_take_no HA.out xlife xdest xn hx9 (by omega)).mono ?_
                  rintro e w' ⟨rfl, H', he⟩
                  have hcy := cells4 he HZ9.out.1 HZ9.out.2.1 HY.out
                  have HB := Lib.hid (H'.relax (by omega))
                  clear H' HA he y0 y1 y2 y3 HY
                  obtain ⟨y0, y1, y2, y3⟩ := hcy
                  have x0 := HB.out.ns.cells.1
                  have hp2 : ¬ (P : Int) ≤ (xlife : Int) := by omega
                  go_wp2
                  go_roundg (xs.length - (j + 1))
                  case measure => have := HK.out; omega
                  case rel => exact ⟨j + 1, _, _, _, _, _, _, _, _, _, _, _, _, _, by omega, rfl, by omega, by go_num, rfl, rfl, rfl, HB.out, HL.out⟩
              · as_aux_lemma =>
                go_wp2_with fail
                refine (nv_take_no HA.out xlife xdest xn hx9 (by omega)).mono ?_
                rintro e w' ⟨rfl, H', he⟩
                have hcy := cells4 he HZ9.out.1 HZ9.out.2.1 HY.out
                have HB := Lib.hid (H'.relax (by omega))
                clear H' HA he y0 y1 y2 y3 HY
                obtain ⟨y0, y1, y2, y3⟩ := hcy
                have x0 := HB.out.ns.cells.1
                have hd2 : ((xdest : Int) == (ls : Int)) = false := by rw [beq_eq_false_iff_ne]; omega
                go_wp2
                go_roundg (xs.length - (j + 1))
                case measure => have := HK.out; omega
                case rel => exact ⟨j + 1, _, _, _, _, _, _, _, _, _, _, _, _, _, by omega, rfl, by omega, by go_num, rfl, rfl, rfl, HB.out, HL.out⟩
            | false =>
              have hx9 : (1 ≤ xlife ∧ xlife ≤ ls) ∧ xn ≤ u xlife := by have := HX.out; unfold wayOk at this; rwa [if_neg (by simp)] at this
              go_wp2_with fail
              refine (sr_life HA.out.sr).mono ?_
              rintro e w' ⟨rfl, rfl⟩
              go_upto_region 55 with fail
              have HX9 := Lib.hid hx9
              clear hx9
              by_cases hp : rP ≤ xlife
              · have hp2 : (rP : Int) ≤ (xlife : Int) := by omega
                as_aux_lemma =>
                  go_region_held3 (fun w' => w'.cell? ⟨c9, 1, none⟩ = some (.int .u64 xlife) ∧ w'.cell? ⟨c9, 3, none⟩ = some (.int .u64 xn))
                    (first
                      | go_keep
                      | exact ⟨(he9.cell (p := ⟨c9, 1, none⟩) HZ9.out.1 HZ9.out.2.2).trans HY.out.2.1, (he9.cell (p := ⟨c9, 3, none⟩) HZ9.out.1 HZ9.out.2.2).trans HY.out.2.2.2⟩)
                    (first
                      | (go_at_call 38; refine (nv_saw (HA.out.more (by first | exact Ext.refl _ _ | exact (Ext.refl _ _).drew | exact (Ext.refl _ _).alloc _ | exact ((Ext.refl _ _).alloc _).drew | exact ((Ext.refl _ _).drew).alloc _)) xlife xn HX9.out 0 (if_pos hp)).mono ?_; rintro e w9 ⟨rfl, ⟨P', G', S', H9⟩, he9⟩))
                  all_goals
                    have HB := Lib.hid (H9.relax (by omega))
                    clear H9 he9 HA y0 y1 y2 y3 HY hp
                    have L2 := HB.out.ns.mu.look P' HB.out.np.b4
                    have hsu := HB.out.np.su
                    generalize u P' = up at L2 hsu
                    have q1 : ¬ ((up : Int) < (S' : Int)) := by omega
                    clear hsu
                    go_wp2_with fail
                    refine (sr_seen HB.out.sr).mono ?_
                    rintro e w10 ⟨rfl, rfl⟩
                    go_wp2_with fail
                    refine (sr_life HB.out.sr).mono ?_
                    rintro e w10 ⟨rfl, rfl⟩
                    go_wp2
                    go_roundg (xs.length - (j + 1))
                    case measure => have := HK.out; omega
                    case rel => exact ⟨j + 1, _, _, _, _, _, _, _, _, _, _, _, _, _, by omega, rfl, by omega, by go_num, rfl, rfl, rfl, HB.out, HL.out⟩
              · have hp2 : ¬ (rP : Int) ≤ (xlife : Int) := by omega
                as_aux_lemma =>
                  go_region_held3 (fun w' => w'.cell? ⟨c9, 1, none⟩ = some (.int .u64 xlife) ∧ w'.cell? ⟨c9, 3, none⟩ = some (.int .u64 xn))
                    (first
                      | go_keep
                      | exact ⟨(he9.cell (p := ⟨c9, 1, none⟩) HZ9.out.1 HZ9.out.2.2).trans HY.out.2.1, (he9.cell (p := ⟨c9, 3, none⟩) HZ9.out.1 HZ9.out.2.2).trans HY.out.2.2.2⟩)
                    (first
                      | (go_at_call 38; refine (nv_saw (HA.out.more (by first | exact Ext.refl _ _ | exact (Ext.refl _ _).drew | exact (Ext.refl _ _).alloc _ | exact ((Ext.refl _ _).alloc _).drew | exact ((Ext.refl _ _).drew).alloc _)) xlife xn HX9.out 22 (if_neg hp)).mono ?_; rintro e w9 ⟨rfl, ⟨P', G', S', H9⟩, he9⟩))
                  all_goals
                    have HB := Lib.hid (H9.relax (by omega))
                    clear H9 he9 HA y0 y1 y2 y3 HY hp
                    have L2 := HB.out.ns.mu.look P' HB.out.np.b4
                    have hsu := HB.out.np.su
                    generalize u P' = up at L2 hsu
                    have q1 : ¬ ((up : Int) < (S' : Int)) := by omega
                    clear hsu
                    go_wp2_with fail
                    refine (sr_seen HB.out.sr).mono ?_
                    rintro e w10 ⟨rfl, rfl⟩
                    go_wp2_with fail
                    refine (sr_life HB.out.sr).mono ?_
                    rintro e w10 ⟨rfl, rfl⟩
                    go_wp2
                    go_roundg (xs.length - (j + 1))
                    case measure => have := HK.out; omega
                    case rel => exact ⟨j + 1, _, _, _, _, _, _, _, _, _, _, _, _, _, by omega, rfl, by omega, by go_num, rfl, rfl, rfl, HB.out, HL.out⟩
        · as_aux_lemma =>
          go_upto_region 60 with fail
          generalize wr.alloc (.cells #[.int .i64 8, .int .i64 free, .int .u16 pos, .bool stays] 92) = wa at HA ⊢
          clear A0 c0 c1 c2 c3
          have hl := HA.out.ns.live (ls + 1)
          have hb := HA.out.np.b1
          have hb2 := HA.out.np.l1
          have x0 := HA.out.ns.cells.1
          have xf := HA.out.ns.cells.2.2.1
          have hwr : IntKind.u64.wrap ((ls : Int) + 1) = ((ls + 1 : Nat) : Int) := by rw [IntKind.wrap_u64]; omega
          have x1 := hl.1.cells.1
          clear hl hb
          obtain ⟨ls', hls⟩ : ∃ ls', ls + 1 = ls' := ⟨_, rfl⟩
          rw [hls] at hwr x1
          have H2 := Lib.hid (And.intro hls hb2)
          clear hls hb2
          go_wp2_with fail
          refine (newSender_ok ls' _ (by have := H2.out; omega) (by have := H2.out; simp only [Most]; omega)).mono ?_
          rintro e w9 ⟨rfl, h9, hg9⟩
          have hB : NV w w9 wa.heap.size r cb gm um ls' lr 0 0 0 rP rG S g u l (.slice ua l.length uc) (j + 1) := by
            have hls := H2.out.1
            subst hls
            exact HA.out.snew (by omega) (by simpa using h9) hg9
          have HB := Lib.hid hB
          have HL := Lib.hid (show l.length ≤ j + 1 by omega)
          clear hB h9 hg9 x0 xf x1 hwr HA H2
          go_wp2
          go_roundg (xs.length - (j + 1))
          case measure => have := HK.out; omega
          case rel => exact ⟨j + 1, _, _, _, _, _, _, _, _, _, _, _, _, _, by omega, rfl, by omega, by go_num, by simp; done, rfl, rfl, HB.out, HL.out⟩
        · as_aux_lemma =>
          go_upto_region 15 with fail
          generalize wr.alloc (.cells #[.int .i64 what, .int .i64 free, .int .u16 pos, .bool stays] 92) = wa at HA ⊢
          clear A0 c0 c1 c2 c3
          have hl := HA.out.ns.live (lr + 1)
          have hb2 := HA.out.np.l2
          have x0 := HA.out.ns.cells.2.1
          have xf := HA.out.ns.cells.2.2.2
          have hwr : IntKind.u64.wrap ((lr : Int) + 1) = ((lr + 1 : Nat) : Int) := by rw [IntKind.wrap_u64]; omega
          clear hl
          obtain ⟨lr', hls⟩ : ∃ lr', lr + 1 = lr' := ⟨_, rfl⟩
          rw [hls] at hwr
          have H2 := Lib.hid (And.intro hls hb2)
          clear hls hb2
          go_wp2_with fail
          refine (newReceiver_ok 8 _ (by omega) (by omega)).mono ?_
          rintro e w9 ⟨rfl, h9, hg9⟩
          have hB : NV w w9 s wa.heap.size cb gm um ls lr' P G U 0 0 0 g u l (.slice ua l.length uc) (j + 1) := by
            have hls := H2.out.1
            subst hls
            exact HA.out.rnew (by omega) (by simpa using h9) hg9
          have HB := Lib.hid hB
          have HL := Lib.hid (show l.length ≤ j + 1 by omega)
          clear hB h9 hg9 x0 xf hwr HA H2
          go_wp2
          go_roundg (xs.length - (j + 1))
          case measure => have := HK.out; omega
          case rel => exact ⟨j + 1, _, _, _, _, _, _, _, _, _, _, _, _, _, by omega, rfl, by omega, by go_num, rfl, by simp; done, rfl, HB.out, HL.out⟩
      · have h100' : ¬ (j : Int) < 100 := by omega
        have hj2 : (j : Int) < (xs.length : Int) := by omega
        go_wp2_with fail
        refine (credit_wakes _).mono ?_
        rintro e w' ⟨rfl, hg⟩
        have HE := Lib.hid (HI.out.sr.grows.trans hg)
        clear hg
        go_wp2
        go_ret
        exact ⟨rfl, Ext.to_below HE.out⟩
    · have hj2 : ¬ (j : Int) < (xs.length : Int) := by omega
      go_wp2_with fail
      refine (credit_wakes _).mono ?_
      rintro e w' ⟨rfl, hg⟩
      have HE := Lib.hid (HI.out.sr.grows.trans hg)
      clear hg
      go_wp2
      go_ret
      exact ⟨rfl, Ext.to_below HE.out⟩
namespace CreditNeverShell
theorem own : ownKnob Try.prog.godebug = none := by kernel_rfl
theorem laidOut : laidOutB Try.prog = true := by kernel_rfl
set_option maxRecDepth 100000 in
theorem lifted (os : Os) (started : os.Started) (H : Type) (enc : TypeId × Value → H) :
    ReturnsInHanded {} Try.checked os 8 .any (Rows.creditNeverSpec.pre6 enc Try.prog Try.f8 Rows.creditNeverRow.domain false) (Rows.creditNeverSpec.post enc Try.prog Try.f8 false true false false) := by
  refine returnsInHanded_of_change_sized (C := Try.checked) own started (by kernel_rfl) Try.func8
    (ChangeSpec.witness6 (enc := enc) (C := Try.checked) false ⟨#[], #[.slice none 0 0], []⟩ 8 (by kernel_rfl) (by kernel_rfl) (by kernel_rfl) (by kernel_rfl)) ?_
  intro W base args ds gs before hval0 hW hcnd hsz0 _
  have hval : ∀ (j : Nat) t v, Try.f8.params[j]? = some t → args[j]? = some v → Value.okWide Try.prog W .any base t v := hval0
  have hsz : (DataW.weightsEach Try.prog (Try.f8.params.toList ++ Rows.creditNeverSpec.plain.varTypes Try.prog) (ds ++ gs)).all (· ≤ reachBytes) = true := hsz0
  have hW' := hW
  obtain ⟨p, q, hA0, hV, rfl, hfz, hnd⟩ := hW
  have hA : DataW.TrodAll enc Try.prog W 0 (fun _ => true) true Try.f8.params.toList args.toList ds p := hA0
  rw [Try.params8] at hA hval hsz
  obtain ⟨v0, vs0, d0, ds0, p0, q0, hargs, rfl, rfl, h0, r0⟩ := trodAll_cons hA
  obtain ⟨rfl, rfl, rfl⟩ := trodAll_nil r0
  obtain rfl : args = #[v0] := by cases args; simp_all
  obtain ⟨rfl, rfl⟩ := trodVars_none hV
  have k0 := h0
  have lt0 : ∀ x ∈ p0, x.block < W.heap.size := by obtain ⟨m, hm⟩ := k0; exact DataW.trod_lt m _ _ _ hm
  obtain ⟨a0, w0⟩ := open_steps (hval 0 86 v0 rfl rfl) h0 hsz (j := 0) rfl rfl
  clear hA0 hval0 hsz0
  refine (CreditNever_walk v0 a0 W w0).mono fun e W' ⟨he, bel⟩ => ?_
  subst he
  exact ⟨_, rfl, _, _, _, [], _, [], hW', trodAll_mk1 (shut_bool Try.underlying4 _), (trodAll_cons_mk (Below.trod laidOut (by kernel_rfl) (of_decide_eq_true (by kernel_rfl)) k0 bel lt0) trodAll_mk0), rfl, bel.frame _, fun h => by cases h⟩
theorem over : Rows.creditNeverRow.holds Try.pinned (OpenSpec.ofChange Rows.creditNeverSpec) :=
  OpenClaim.holds_of_wide 8 Try.f8 rfl rfl rfl rfl rfl rfl rfl ⟨rfl, rfl, rfl, rfl, rfl⟩ rfl rfl rfl rfl rfl (by kernel_rfl) Try.func8 (by kernel_rfl)
    (of_decide_eq_true (by kernel_rfl)) (by unfold Func.isWrapper; first | (rw [if_pos (by decide +kernel)]; kernel_rfl) | (rw [if_neg (by decide +kernel)]; exact ⟨rfl, rfl⟩))
    (fun os started H enc _ => lifted os started H enc)
end CreditNeverShell
theorem CreditNever_holds : Rows.CreditNeverSaid := CreditNeverShell.over
#print axioms CreditNever_holds
end Go.Proofs.Ytpkaddpennafcaa
