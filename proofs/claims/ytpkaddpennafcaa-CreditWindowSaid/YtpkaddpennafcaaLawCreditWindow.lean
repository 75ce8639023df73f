/- CreditWindow: in one life of both, what was used is at most what the receiver saw and its places besides. -/
import Derived.Test.YtpkaddpennafcaaCreditW
import Derived.Test.YtpkaddpennafcaaWays
import Derived.Deep.LoopGhost
import Derived.Deep.DeepCutAuto
import Derived.Laws.MathBits
namespace Go.Proofs.Ytpkaddpennafcaa
set_option linter.unusedVariables false
set_option linter.unusedSimpArgs false
open Go.ChangeShapes Go.WideShapes Go.ChangeAt Go.RowKit

/-- The state at a round's head. -/
structure Wind (w wr : World) (s r most P G U rP rG S : Nat) (l : List WayV) (vw : Value) (j : Nat) : Prop where
  sr : SR w wr s 1 P G U r most rP rG S
  ways : Ways wr vw l
  fresh : ∀ k, vw.ownBlock = some k → w.heap.size ≤ k ∧ k ≠ s ∧ k ≠ r
  pp : (P = 0 ∧ G = 0) ∨ P = 1
  rr : (rP = 0 ∧ S = 0) ∨ rP = 1
  wn : ∀ x ∈ l, if x.credit = true then x.n ≤ S + most else x.n ≤ U
  gs : G ≤ S + most
  rg : rG ≤ S + most
  ug : U ≤ G
  uj : U ≤ j
  su : S ≤ U
  mo : 1 ≤ most ∧ most ≤ 64
  jh : j ≤ 100

section
variable {w wr w' : World} {s r most P G U rP rG S : Nat} {l : List WayV} {vw : Value} {j : Nat}
theorem Wind.more (h : Wind w wr s r most P G U rP rG S l vw j) (g : Grows wr w') : Wind w w' s r most P G U rP rG S l vw j :=
  ⟨h.sr.more g, OwnS.grows h.ways g, h.fresh, h.pp, h.rr, h.wn, h.gs, h.rg, h.ug, h.uj, h.su, h.mo, h.jh⟩
theorem wind_use_no (h : Wind w wr s r most P G U rP rG S l vw j) (hlt : G ≤ U) : Calls Try.prog 34 #[.pointer (some ⟨s, 0, none⟩)] wr fun e w' => e = .returned (.tuple #[.int .u64 0, .int .i64 26]) ∧ wr = w' := sr_use_no h.sr hlt
theorem wind_use_ok (h : Wind w wr s r most P G U rP rG S l vw j) (hlt : U < G) (hj : j + 1 ≤ 100) (n : Nat) (hn : U + 1 = n) : Calls Try.prog 34 #[.pointer (some ⟨s, 0, none⟩)] wr fun e w' => e = .returned (.tuple #[.int .u64 n, .int .i64 0]) ∧
    Wind w w' s r most P G n rP rG S l vw (j + 1) := by
  subst hn
  refine (use_ok _ _ _ _ _ _ h.sr.snd hlt).mono ?_
  rintro e w' ⟨rfl, h1, he⟩
  have := h.uj
  have := h.su
  refine ⟨rfl, h.sr.sstep h1 he, OwnS.ext h.ways he (fun b hb hs => (h.fresh b hb).2.1 hs), h.fresh, h.pp, h.rr, fun x hx => ?_, h.gs, h.rg, by omega, by omega, by omega, h.mo, hj⟩
  have := h.wn x hx
  split
  · rename_i hc; rw [if_pos hc] at this; exact this
  · rename_i hc; rw [if_neg hc] at this; omega
theorem Wind.relax (h : Wind w wr s r most P G U rP rG S l vw j) (hj : j + 1 ≤ 100) : Wind w wr s r most P G U rP rG S l vw (j + 1) :=
  ⟨h.sr, h.ways, h.fresh, h.pp, h.rr, h.wn, h.gs, h.rg, h.ug, Nat.le_succ_of_le h.uj, h.su, h.mo, hj⟩
theorem wind_take (h : Wind w wr s r most P G U rP rG S l vw j) (n : Nat) (hn : n ≤ S + most) : Calls Try.prog 36 #[.pointer (some ⟨s, 0, none⟩), .int .u64 1, .int .u64 1, .int .u64 n] wr fun e w' => ∃ P' G' : Nat, e = .returned (.int .i64 0) ∧
    Wind w w' s r most P' G' U rP rG S l vw j := by
  have h1 := h.pp
  have h2 := h.mo
  have h3 := h.su
  have h4 := h.uj
  have h5 := h.jh
  have h6 := h.ug
  have h7 := h.gs
  have hE : takeE 1 P 1 1 n = 0 := by rw [takeE, if_pos (by simp only [Most]; omega), if_neg (by omega)]
  have hP : takeP 1 P 1 1 n = 1 := by rw [takeP, hE, if_pos rfl]
  refine (take_any _ _ _ _ _ _ 1 1 n h.sr.snd).mono ?_
  rintro e w' ⟨rfl, hs, he⟩
  have hG : takeG 1 P G 1 1 n ≤ S + most ∧ U ≤ takeG 1 P G 1 1 n := by
    rw [takeG, hE, if_pos rfl]
    split <;> omega
  rw [hP] at hs
  exact ⟨1, _, by rw [hE], h.sr.sstep hs he, OwnS.ext h.ways he (fun b hb hs => (h.fresh b hb).2.1 hs), h.fresh, .inr rfl, h.rr, h.wn, hG.1, h.rg, hG.2, h.uj, h.su, h.mo, h.jh⟩
theorem wind_saw (h : Wind w wr s r most P G U rP rG S l vw j) (n : Nat) (hn : n ≤ U) : Calls Try.prog 38 #[.pointer (some ⟨r, 0, none⟩), .int .u64 1, .int .u64 n] wr fun e w' => ∃ P' G' S' : Nat, e = .returned (.int .i64 0) ∧
    Wind w w' s r most P G U P' G' S' l vw j := by
  have h1 := h.rr
  have h2 := h.mo
  have h3 := h.su
  have h4 := h.uj
  have h5 := h.jh
  have h6 := h.ug
  have h7 := h.gs
  have h8 := h.rg
  have hE : sawE rP 1 n = 0 := by rw [sawE, if_pos (by simp only [Most]; omega), if_neg (by omega)]
  have hP : sawP rP 1 n = 1 := by rw [sawP, hE, if_pos rfl]
  refine (saw_any _ _ _ _ _ _ 1 n h.sr.rcv).mono ?_
  rintro e w' ⟨rfl, hs, he⟩
  have hS : S ≤ sawS rP S 1 n ∧ sawS rP S 1 n ≤ U := by
    rw [sawS, hE, if_pos rfl]
    split <;> omega
  have hG : sawG rP rG 1 n ≤ S + most := by
    rw [sawG, hE, if_pos rfl]
    split <;> omega
  rw [hP] at hs
  refine ⟨1, _, _, by rw [hE], h.sr.rstep hs he, OwnS.ext h.ways he (fun b hb hs => (h.fresh b hb).2.2 hs), h.fresh, h.pp, .inr rfl, fun x hx => ?_, by omega, by omega, h.ug, h.uj, hS.2, h.mo, h.jh⟩
  have := h.wn x hx
  split
  · rename_i hc; rw [if_pos hc] at this; omega
  · rename_i hc; rw [if_neg hc] at this; exact this
theorem wind_grant (h : Wind w wr s r most P G U rP rG S l vw j) (x : Int) (f : Nat) (hx : x = (f : Int)) (hf : f ≤ most) : Calls Try.prog 40 #[.pointer (some ⟨r, 0, none⟩), .int .i64 x] wr fun e w' => ∃ n : Nat, e = .returned (.tuple #[.int .u64 n, .int .i64 0]) ∧ n ≤ S + most ∧
    Wind w w' s r most P G U rP n S l vw j := by
  subst hx
  have h8 := h.rg
  refine (grant_ok _ _ _ _ _ _ f h.sr.rcv hf).mono ?_
  rintro e w' ⟨rfl, hs, he⟩
  have hG : max rG (min (S + f) Most) ≤ S + most := by
    simp only [Most]; omega
  exact ⟨_, rfl, hG, h.sr.rstep hs he, OwnS.ext h.ways he (fun b hb hs => (h.fresh b hb).2.2 hs), h.fresh, h.pp, h.rr, h.wn, h.gs, hG, h.ug, h.uj, h.su, h.mo, h.jh⟩
/-- One more on its way. -/
theorem Wind.push (h : Wind w wr s r most P G U rP rG S l vw j) (x : WayV) (hx : if x.credit = true then x.n ≤ S + most else x.n ≤ U) {v' : Value} (h1 : Ways w' v' (l ++ [x])) (hg : wr.grownBy w' vw.ownBlock) (hb : v'.ownBlock = vw.ownBlock ∨ v'.ownBlock = some wr.heap.size) :
    Wind w w' s r most P G U rP rG S (l ++ [x]) v' j := by
  have he : Ext (fun k => vw.ownBlock = some k) wr w' := Ext.of_grown hg (fun k hk => hk)
  have hs := h.sr.snd.lt
  have hr := h.sr.rcv.lt
  have hw := h.sr.grows.size
  refine ⟨⟨h.sr.snd.ext he (fun e => (h.fresh _ e).2.1 rfl), h.sr.rcv.ext he (fun e => (h.fresh _ e).2.2 rfl), h.sr.sb, h.sr.rb, h.sr.ne, ?_⟩, h1, fun k hk => ?_, h.pp, h.rr, fun y hy => ?_, h.gs, h.rg, h.ug, h.uj, h.su, h.mo, h.jh⟩
  · exact (h.sr.grows.lift.trans he).mono (fun k hk hh => by have := (h.fresh k hh).1; omega)
  · rcases hb with hb | hb
    · exact h.fresh k (hb ▸ hk)
    · rw [hb] at hk
      simp only [Option.some.injEq] at hk
      omega
  · rcases List.mem_append.1 hy with hy | hy
    · exact h.wn y hy
    · simp only [List.mem_singleton] at hy
      subst hy
      exact hx
/-- .. one fewer. -/
theorem Wind.cut (h : Wind w wr s r most P G U rP rG S l vw j) (l2 : List WayV) (hl : ∀ x ∈ l2, x ∈ l) {v' : Value} (h1 : Ways w' v' l2) (hg : wr.grownBy w' vw.ownBlock) (hb : v'.ownBlock = vw.ownBlock ∨ v'.ownBlock = some wr.heap.size) :
    Wind w w' s r most P G U rP rG S l2 v' j := by
  have he : Ext (fun k => vw.ownBlock = some k) wr w' := Ext.of_grown hg (fun k hk => hk)
  have hs := h.sr.snd.lt
  have hr := h.sr.rcv.lt
  have hw := h.sr.grows.size
  refine ⟨⟨h.sr.snd.ext he (fun e => (h.fresh _ e).2.1 rfl), h.sr.rcv.ext he (fun e => (h.fresh _ e).2.2 rfl), h.sr.sb, h.sr.rb, h.sr.ne, ?_⟩, h1, fun k hk => ?_, h.pp, h.rr, fun y hy => h.wn y (hl y hy), h.gs, h.rg, h.ug, h.uj, h.su, h.mo, h.jh⟩
  · exact (h.sr.grows.lift.trans he).mono (fun k hk hh => by have := (h.fresh k hh).1; omega)
  · rcases hb with hb | hb
    · exact h.fresh k (hb ▸ hk)
    · rw [hb] at hk
      simp only [Option.some.injEq] at hk
      omega
end

theorem Ways.cap {w : World} {g off n cap : Nat} {l : List WayV} (h : Ways w (.slice (some ⟨g, off, none⟩) n cap) l) : n ≤ cap ∧ cap ≤ maxLen := by
  rcases h.2 with ⟨h0, _⟩ | ⟨g', off', cap', cur, h0, hg, h1, h2, h3, h4⟩
  · cases h0
  · simp only [Value.slice.injEq, Option.some.injEq, Addr.mk.injEq] at h0
    obtain ⟨_, rfl, rfl⟩ := h0
    exact ⟨h1, h2⟩
theorem and127i (z : Int) : bits .and .i64 z 127 = z % 128 := by 
  have hx : ∀ a : BitVec 64, (a &&& BitVec.ofInt 64 127).toNat = a.toNat % 128 := by
    intro a
    rw [show BitVec.ofInt 64 127 = 127#64 by decide]
    simp only [BitVec.toNat_and, BitVec.toNat_ofNat]
    exact Nat.and_two_pow_sub_one_eq_mod a.toNat 7
  have h9 := hx (BitVec.ofInt 64 z)
  have hb : ((BitVec.ofInt 64 z).toNat : Int) = z % 18446744073709551616 := by
    rw [BitVec.toNat_ofInt]; omega
  show IntKind.i64.wrap (((BitVec.ofInt 64 z &&& BitVec.ofInt 64 127).toNat : Nat) : Int) = z % 128
  rw [h9]
  rw [IntKind.wrap_i64]
  omega
theorem tmod_nat (z : Int) (m : Nat) (h : 0 ≤ z) : z.tmod ((m : Int) + 1) = ((z.toNat % (m + 1) : Nat) : Int) := by
  obtain ⟨n, rfl⟩ := Int.eq_ofNat_of_zero_le h
  rfl
theorem tmod_nat' (a b : Nat) : (a : Int).tmod (b : Int) = ((a % b : Nat) : Int) := rfl
theorem le_of_mod (a m : Nat) : a % (m + 1) ≤ m := Nat.le_of_lt_succ (Nat.mod_lt a (Nat.succ_pos m))

set_option maxRecDepth 4000 in
set_option maxHeartbeats 8000000 in
theorem CreditWindow_walk (v : Value) (xs : List StepV) (places : Int) (w : World) (h0 : Steps w v xs) (h1 : (Lit.int .u8 places).wf = true) :
    Calls Try.prog 11 #[v, .int .u8 places] w fun e w' => e = .returned (.bool true) ∧ Below w.heap.size w w' := by
  obtain ⟨va, vc, rfl⟩ := h0.form
  obtain ⟨p1, p2⟩ := wf_u8' h1
  have NS := Lib.hid h0
  clear h0 h1
  go_enter Try.func11, Try.ntmps11
  go_wp2_with fail
  have m1 : 1 ≤ 1 + places % 64 := by omega
  have m2 : 1 + places % 64 ≤ 64 := by omega
  generalize 1 + places % 64 = most at m1 m2 ⊢
  obtain ⟨most, rfl⟩ := Int.eq_ofNat_of_zero_le (show 0 ≤ most by omega)
  obtain ⟨s, hs⟩ : ∃ s, w.heap.size = s := ⟨_, rfl⟩
  have HZ := Lib.hid hs
  clear hs
  refine (sn_new 1 (Nat.le_of_eq HZ.out) (Ext.refl _ _) HZ.out (by omega) (by decide)).mono ?_
  rintro e w' ⟨rfl, H'⟩
  have HH := Lib.hid H'
  clear H'
  go_wp2_with fail
  obtain ⟨r, hr⟩ : ∃ r, w'.heap.size = r := ⟨_, rfl⟩
  refine (sr_join HH.out hr most (by omega) (by omega)).mono ?_
  rintro e w' ⟨rfl, H'⟩
  clear HH hr
  have HH := Lib.hid H'
  clear H'
  go_wp2
  go_loopg [10, 11] xs.length (fun k vw c wr => ∃ (j P G U rP rG S : Nat) (l : List WayV), j ≤ xs.length ∧ j ≤ 100 ∧ k = xs.length - j ∧ c = .int .i64 (j : Nat) ∧ Wind w wr s r most P G U rP rG S l vw j ∧ l.length ≤ j)
  case atStart => exact ⟨0, 0, 0, 0, 0, 0, 0, [], by omega, by omega, by omega, rfl, ⟨HH.out, OwnS.nil _ _ _, fun k hk => by simp [Value.ownBlock] at hk, .inl ⟨rfl, rfl⟩, .inl ⟨rfl, rfl⟩, by simp, by omega, by omega, by omega, by omega, by omega, by omega, by omega⟩, by simp⟩
  case round =>
    obtain ⟨j, P, G, U, rP, rG, S, l, hj, hj1, hk, rfl, hI, hfew⟩ := hrel
    have HK := Lib.hid hk
    have HI := Lib.hid hI
    clear hk hI HH
    by_cases hlt : j < xs.length
    · by_cases h100 : j < 100
      · have hj0 : (j : Int) < 100 := by omega
        have hj2 : (j : Int) < (xs.length : Int) := by omega
        have hj3 : (0 : Int) ≤ (j : Int) := by omega
        obtain ⟨b, off, cap, e, hbl, hcell, hxb⟩ := NS.out.at j hlt
        injection e with e1 e2 e3
        subst e1 e3
        clear e2
        generalize xs[j] = o at hcell hxb
        obtain ⟨what, free, pos, stays⟩ := o
        have c0 := (HI.out.sr.grows.cell hbl (fun h => h)).trans (hcell 0 (by omega))
        have c1 := (HI.out.sr.grows.cell hbl (fun h => h)).trans (hcell 1 (by omega))
        have c2 := (HI.out.sr.grows.cell hbl (fun h => h)).trans (hcell 2 (by omega))
        have c3 := (HI.out.sr.grows.cell hbl (fun h => h)).trans (hcell 3 (by omega))
        simp only [StepV.cells, Nat.add_zero, List.getElem?_cons_zero, List.getElem?_cons_succ] at c0 c1 c2 c3
        have XB := Lib.hid hxb
        clear hbl hcell hxb
        obtain ⟨ua, uc, rfl⟩ := OwnS.form HI.out.ways
        have HA := Lib.hid (HI.out.more ((Ext.refl _ wr).alloc (.cells #[.int .i64 what, .int .i64 free, .int .u16 pos, .bool stays] 92)))
        have hA0 : (wr.alloc (.cells #[.int .i64 what, .int .i64 free, .int .u16 pos, .bool stays] 92)).heap[wr.heap.size]? = some (.cells #[.int .i64 what, .int .i64 free, .int .u16 pos, .bool stays] 92 (0, 0)) := heap_alloc_new wr _
        have A0 := Lib.hid hA0
        clear hA0
        have hw : what = 0 ∨ what = 1 ∨ what = 2 ∨ what = 3 ∨ what = 4 ∨ (((what == 0) = false ∧ (what == 1) = false) ∧ ((what == 2) = false ∧ (what == 3) = false) ∧ ((what == 4) = false)) := by simp; omega
        rcases hw with rfl | rfl | rfl | rfl | rfl | ⟨⟨k0, k1⟩, ⟨k2, k3⟩, k4⟩
        ·
          go_wp2_with fail
          generalize wr.alloc (.cells #[.int .i64 0, .int .i64 free, .int .u16 pos, .bool stays] 92) = wa at HA ⊢
          clear A0 c0 c1 c2 c3
          by_cases hu : U < G
          · obtain ⟨n, hn⟩ : ∃ n, U + 1 = n := ⟨_, rfl⟩
            refine (wind_use_ok HA.out hu (by omega) n hn).mono ?_
            rintro e wb ⟨rfl, H'⟩
            have HB := Lib.hid H'
            clear H' HA
            have own5 := OwnS.grows HB.out.ways ((Ext.refl (fun _ => False) wb).alloc (.cells #[.bool false, .int .u64 0, .int .u64 0, .int .u64 n] 94))
            go_wp2_with (at_builtin; refine wpList_append_ownS rfl (.tmp 100) (.tmp 103) 88 88 rfl 94 (.agg #[.bool false, .int .u64 0, .int .u64 0, .int .u64 0]) 4 32 Try.underlying88 infoWay rfl _ _ rfl rfl l.length (wcells l) own5 1 (wcells [⟨false, 0, 0, n⟩]) (src_way ⟨false, 0, 0, n⟩ (heap_alloc_new wb _)) (by unfold maxLen; omega) (by omega) ?_)
            intro v' w6 hown6 hgr6 hblk6
            have I6 := (HB.out.more ((Ext.refl (fun _ => False) wb).alloc (.cells #[.bool false, .int .u64 0, .int .u64 0, .int .u64 n] 94))).push ⟨false, 0, 0, n⟩ (by simp) (by unfold Ways; rw [wcells_append, List.length_append]; exact hown6) hgr6 (by simpa using hblk6)
            clear own5 hown6 hgr6 hblk6 HB
            have HB := Lib.hid I6
            have HL := Lib.hid (show (l ++ [(⟨false, 0, 0, n⟩ : WayV)]).length ≤ j + 1 by simp; omega)
            clear I6
            have b1 : ¬ ((S : Int) + (most : Int) < (n : Int)) := by have := HB.out.ug; have := HB.out.gs; omega
            have b2 : ¬ ((S : Int) + (most : Int) < (G : Int)) := by have := HB.out.gs; omega
            have b3 : (S : Int) ≤ 100 := by have := HB.out.su; have := HB.out.uj; have := HB.out.jh; omega
            go_wp2_with fail
            refine (sr_sent HB.out.sr).mono ?_
            rintro e w9 ⟨rfl, rfl⟩
            go_wp2_with fail
            refine (sr_seen HB.out.sr).mono ?_
            rintro e w9 ⟨rfl, rfl⟩
            go_wp2_with fail
            refine (sr_granted HB.out.sr).mono ?_
            rintro e w9 ⟨rfl, rfl⟩
            go_wp2_with fail
            refine (sr_seen HB.out.sr).mono ?_
            rintro e w9 ⟨rfl, rfl⟩
            go_wp2
            go_roundg (xs.length - (j + 1))
            case measure => have := HK.out; omega
            case rel => exact ⟨j + 1, _, _, _, _, _, _, _, by omega, by omega, rfl, by go_num, HB.out, HL.out⟩
          · refine (wind_use_no HA.out (by omega)).mono ?_
            rintro e wb ⟨rfl, rfl⟩
            have HB := Lib.hid (HA.out.relax (by omega))
            have HL := Lib.hid (show l.length ≤ j + 1 by omega)
            clear HA
            have b1 : ¬ ((S : Int) + (most : Int) < (U : Int)) := by have := HB.out.ug; have := HB.out.gs; omega
            have b2 : ¬ ((S : Int) + (most : Int) < (G : Int)) := by have := HB.out.gs; omega
            have b3 : (S : Int) ≤ 100 := by have := HB.out.su; have := HB.out.uj; have := HB.out.jh; omega
            go_wp2_with fail
            refine (sr_sent HB.out.sr).mono ?_
            rintro e w9 ⟨rfl, rfl⟩
            go_wp2_with fail
            refine (sr_seen HB.out.sr).mono ?_
            rintro e w9 ⟨rfl, rfl⟩
            go_wp2_with fail
            refine (sr_granted HB.out.sr).mono ?_
            rintro e w9 ⟨rfl, rfl⟩
            go_wp2_with fail
            refine (sr_seen HB.out.sr).mono ?_
            rintro e w9 ⟨rfl, rfl⟩
            go_wp2
            go_roundg (xs.length - (j + 1))
            case measure => have := HK.out; omega
            case rel => exact ⟨j + 1, _, _, _, _, _, _, _, by omega, by omega, rfl, by go_num, HB.out, HL.out⟩
        ·
          go_wp2_with fail
          generalize wr.alloc (.cells #[.int .i64 1, .int .i64 free, .int .u16 pos, .bool stays] 92) = wa at HA ⊢
          clear A0 c0 c1 c2 c3
          by_cases hu : U < G
          · obtain ⟨n, hn⟩ : ∃ n, U + 1 = n := ⟨_, rfl⟩
            refine (wind_use_ok HA.out hu (by omega) n hn).mono ?_
            rintro e wb ⟨rfl, H'⟩
            have HB := Lib.hid H'
            clear H' HA
            have own5 := OwnS.grows HB.out.ways ((Ext.refl (fun _ => False) wb).alloc (.cells #[.bool false, .int .u64 0, .int .u64 0, .int .u64 n] 94))
            go_wp2_with (at_builtin; refine wpList_append_ownS rfl (.tmp 100) (.tmp 103) 88 88 rfl 94 (.agg #[.bool false, .int .u64 0, .int .u64 0, .int .u64 0]) 4 32 Try.underlying88 infoWay rfl _ _ rfl rfl l.length (wcells l) own5 1 (wcells [⟨false, 0, 0, n⟩]) (src_way ⟨false, 0, 0, n⟩ (heap_alloc_new wb _)) (by unfold maxLen; omega) (by omega) ?_)
            intro v' w6 hown6 hgr6 hblk6
            have I6 := (HB.out.more ((Ext.refl (fun _ => False) wb).alloc (.cells #[.bool false, .int .u64 0, .int .u64 0, .int .u64 n] 94))).push ⟨false, 0, 0, n⟩ (by simp) (by unfold Ways; rw [wcells_append, List.length_append]; exact hown6) hgr6 (by simpa using hblk6)
            clear own5 hown6 hgr6 hblk6 HB
            have HB := Lib.hid I6
            have HL := Lib.hid (show (l ++ [(⟨false, 0, 0, n⟩ : WayV)]).length ≤ j + 1 by simp; omega)
            clear I6
            have b1 : ¬ ((S : Int) + (most : Int) < (n : Int)) := by have := HB.out.ug; have := HB.out.gs; omega
            have b2 : ¬ ((S : Int) + (most : Int) < (G : Int)) := by have := HB.out.gs; omega
            have b3 : (S : Int) ≤ 100 := by have := HB.out.su; have := HB.out.uj; have := HB.out.jh; omega
            go_wp2_with fail
            refine (sr_sent HB.out.sr).mono ?_
            rintro e w9 ⟨rfl, rfl⟩
            go_wp2_with fail
            refine (sr_seen HB.out.sr).mono ?_
            rintro e w9 ⟨rfl, rfl⟩
            go_wp2_with fail
            refine (sr_granted HB.out.sr).mono ?_
            rintro e w9 ⟨rfl, rfl⟩
            go_wp2_with fail
            refine (sr_seen HB.out.sr).mono ?_
            rintro e w9 ⟨rfl, rfl⟩
            go_wp2
            go_roundg (xs.length - (j + 1))
            case measure => have := HK.out; omega
            case rel => exact ⟨j + 1, _, _, _, _, _, _, _, by omega, by omega, rfl, by go_num, HB.out, HL.out⟩
          · refine (wind_use_no HA.out (by omega)).mono ?_
            rintro e wb ⟨rfl, rfl⟩
            have HB := Lib.hid (HA.out.relax (by omega))
            have HL := Lib.hid (show l.length ≤ j + 1 by omega)
            clear HA
            have b1 : ¬ ((S : Int) + (most : Int) < (U : Int)) := by have := HB.out.ug; have := HB.out.gs; omega
            have b2 : ¬ ((S : Int) + (most : Int) < (G : Int)) := by have := HB.out.gs; omega
            have b3 : (S : Int) ≤ 100 := by have := HB.out.su; have := HB.out.uj; have := HB.out.jh; omega
            go_wp2_with fail
            refine (sr_sent HB.out.sr).mono ?_
            rintro e w9 ⟨rfl, rfl⟩
            go_wp2_with fail
            refine (sr_seen HB.out.sr).mono ?_
            rintro e w9 ⟨rfl, rfl⟩
            go_wp2_with fail
            refine (sr_granted HB.out.sr).mono ?_
            rintro e w9 ⟨rfl, rfl⟩
            go_wp2_with fail
            refine (sr_seen HB.out.sr).mono ?_
            rintro e w9 ⟨rfl, rfl⟩
            go_wp2
            go_roundg (xs.length - (j + 1))
            case measure => have := HK.out; omega
            case rel => exact ⟨j + 1, _, _, _, _, _, _, _, by omega, by omega, rfl, by go_num, HB.out, HL.out⟩
        ·
          go_wp2_with fail
          generalize wr.alloc (.cells #[.int .i64 2, .int .i64 free, .int .u16 pos, .bool stays] 92) = wa at HA ⊢
          clear A0 c0 c1 c2 c3
          by_cases hu : U < G
          · obtain ⟨n, hn⟩ : ∃ n, U + 1 = n := ⟨_, rfl⟩
            refine (wind_use_ok HA.out hu (by omega) n hn).mono ?_
            rintro e wb ⟨rfl, H'⟩
            have HB := Lib.hid H'
            clear H' HA
            have own5 := OwnS.grows HB.out.ways ((Ext.refl (fun _ => False) wb).alloc (.cells #[.bool false, .int .u64 0, .int .u64 0, .int .u64 n] 94))
            go_wp2_with (at_builtin; refine wpList_append_ownS rfl (.tmp 100) (.tmp 103) 88 88 rfl 94 (.agg #[.bool false, .int .u64 0, .int .u64 0, .int .u64 0]) 4 32 Try.underlying88 infoWay rfl _ _ rfl rfl l.length (wcells l) own5 1 (wcells [⟨false, 0, 0, n⟩]) (src_way ⟨false, 0, 0, n⟩ (heap_alloc_new wb _)) (by unfold maxLen; omega) (by omega) ?_)
            intro v' w6 hown6 hgr6 hblk6
            have I6 := (HB.out.more ((Ext.refl (fun _ => False) wb).alloc (.cells #[.bool false, .int .u64 0, .int .u64 0, .int .u64 n] 94))).push ⟨false, 0, 0, n⟩ (by simp) (by unfold Ways; rw [wcells_append, List.length_append]; exact hown6) hgr6 (by simpa using hblk6)
            clear own5 hown6 hgr6 hblk6 HB
            have HB := Lib.hid I6
            have HL := Lib.hid (show (l ++ [(⟨false, 0, 0, n⟩ : WayV)]).length ≤ j + 1 by simp; omega)
            clear I6
            have b1 : ¬ ((S : Int) + (most : Int) < (n : Int)) := by have := HB.out.ug; have := HB.out.gs; omega
            have b2 : ¬ ((S : Int) + (most : Int) < (G : Int)) := by have := HB.out.gs; omega
            have b3 : (S : Int) ≤ 100 := by have := HB.out.su; have := HB.out.uj; have := HB.out.jh; omega
            go_wp2_with fail
            refine (sr_sent HB.out.sr).mono ?_
            rintro e w9 ⟨rfl, rfl⟩
            go_wp2_with fail
            refine (sr_seen HB.out.sr).mono ?_
            rintro e w9 ⟨rfl, rfl⟩
            go_wp2_with fail
            refine (sr_granted HB.out.sr).mono ?_
            rintro e w9 ⟨rfl, rfl⟩
            go_wp2_with fail
            refine (sr_seen HB.out.sr).mono ?_
            rintro e w9 ⟨rfl, rfl⟩
            go_wp2
            go_roundg (xs.length - (j + 1))
            case measure => have := HK.out; omega
            case rel => exact ⟨j + 1, _, _, _, _, _, _, _, by omega, by omega, rfl, by go_num, HB.out, HL.out⟩
          · refine (wind_use_no HA.out (by omega)).mono ?_
            rintro e wb ⟨rfl, rfl⟩
            have HB := Lib.hid (HA.out.relax (by omega))
            have HL := Lib.hid (show l.length ≤ j + 1 by omega)
            clear HA
            have b1 : ¬ ((S : Int) + (most : Int) < (U : Int)) := by have := HB.out.ug; have := HB.out.gs; omega
            have b2 : ¬ ((S : Int) + (most : Int) < (G : Int)) := by have := HB.out.gs; omega
            have b3 : (S : Int) ≤ 100 := by have := HB.out.su; have := HB.out.uj; have := HB.out.jh; omega
            go_wp2_with fail
            refine (sr_sent HB.out.sr).mono ?_
            rintro e w9 ⟨rfl, rfl⟩
            go_wp2_with fail
            refine (sr_seen HB.out.sr).mono ?_
            rintro e w9 ⟨rfl, rfl⟩
            go_wp2_with fail
            refine (sr_granted HB.out.sr).mono ?_
            rintro e w9 ⟨rfl, rfl⟩
            go_wp2_with fail
            refine (sr_seen HB.out.sr).mono ?_
            rintro e w9 ⟨rfl, rfl⟩
            go_wp2
            go_roundg (xs.length - (j + 1))
            case measure => have := HK.out; omega
            case rel => exact ⟨j + 1, _, _, _, _, _, _, _, by omega, by omega, rfl, by go_num, HB.out, HL.out⟩
        ·
          go_wp2_with fail
          generalize wr.alloc (.cells #[.int .i64 3, .int .i64 free, .int .u16 pos, .bool stays] 92) = wa at HA ⊢
          clear A0 c0 c1 c2 c3
          refine (sr_sent HA.out.sr).mono ?_
          rintro e wb ⟨rfl, rfl⟩
          have HB := Lib.hid (HA.out.relax (by omega))
          clear HA
          generalize hwb : wa = wb at HB ⊢
          clear hwb
          have own5 := OwnS.grows HB.out.ways ((Ext.refl (fun _ => False) wb).alloc (.cells #[.bool false, .int .u64 0, .int .u64 0, .int .u64 U] 94))
          go_wp2_with (at_builtin; refine wpList_append_ownS rfl (.tmp 107) (.tmp 111) 88 88 rfl 94 (.agg #[.bool false, .int .u64 0, .int .u64 0, .int .u64 0]) 4 32 Try.underlying88 infoWay rfl _ _ rfl rfl l.length (wcells l) own5 1 (wcells [⟨false, 0, 0, U⟩]) (src_way ⟨false, 0, 0, U⟩ (heap_alloc_new wb _)) (by unfold maxLen; omega) (by omega) ?_)
          intro v' w6 hown6 hgr6 hblk6
          have I6 := (HB.out.more ((Ext.refl (fun _ => False) wb).alloc (.cells #[.bool false, .int .u64 0, .int .u64 0, .int .u64 U] 94))).push ⟨false, 0, 0, U⟩ (by simp) (by unfold Ways; rw [wcells_append, List.length_append]; exact hown6) hgr6 (by simpa using hblk6)
          clear own5 hown6 hgr6 hblk6 HB
          have HB := Lib.hid I6
          have HL := Lib.hid (show (l ++ [(⟨false, 0, 0, U⟩ : WayV)]).length ≤ j + 1 by simp; omega)
          clear I6
          have b1 : ¬ ((S : Int) + (most : Int) < (U : Int)) := by have := HB.out.ug; have := HB.out.gs; omega
          have b2 : ¬ ((S : Int) + (most : Int) < (G : Int)) := by have := HB.out.gs; omega
          have b3 : (S : Int) ≤ 100 := by have := HB.out.su; have := HB.out.uj; have := HB.out.jh; omega
          go_wp2_with fail
          refine (sr_sent HB.out.sr).mono ?_
          rintro e w9 ⟨rfl, rfl⟩
          go_wp2_with fail
          refine (sr_seen HB.out.sr).mono ?_
          rintro e w9 ⟨rfl, rfl⟩
          go_wp2_with fail
          refine (sr_granted HB.out.sr).mono ?_
          rintro e w9 ⟨rfl, rfl⟩
          go_wp2_with fail
          refine (sr_seen HB.out.sr).mono ?_
          rintro e w9 ⟨rfl, rfl⟩
          go_wp2
          go_roundg (xs.length - (j + 1))
          case measure => have := HK.out; omega
          case rel => exact ⟨j + 1, _, _, _, _, _, _, _, by omega, by omega, rfl, by go_num, HB.out, HL.out⟩
        ·
          go_wp2_with fail
          clear A0 c0 c1 c2 c3
          generalize wr.alloc (.cells #[.int .i64 4, .int .i64 free, .int .u16 pos, .bool stays] 92) = wa at HA ⊢
          refine (wind_grant HA.out _ ((free % 128).toNat % (most + 1)) (by rw [and127i]; exact tmod_nat _ _ (by omega)) (le_of_mod _ _)).mono ?_
          rintro e wb ⟨n, rfl, hn, H'⟩
          have HN := Lib.hid hn
          have HB := Lib.hid (H'.relax (by omega))
          clear H' HA hn
          have own5 := OwnS.grows HB.out.ways ((Ext.refl (fun _ => False) wb).alloc (.cells #[.bool true, .int .u64 0, .int .u64 0, .int .u64 n] 94))
          go_wp2_with (at_builtin; refine wpList_append_ownS rfl (.tmp 128) (.tmp 131) 88 88 rfl 94 (.agg #[.bool false, .int .u64 0, .int .u64 0, .int .u64 0]) 4 32 Try.underlying88 infoWay rfl _ _ rfl rfl l.length (wcells l) own5 1 (wcells [⟨true, 0, 0, n⟩]) (src_way ⟨true, 0, 0, n⟩ (heap_alloc_new wb _)) (by unfold maxLen; omega) (by omega) ?_)
          intro v' w6 hown6 hgr6 hblk6
          have I6 := (HB.out.more ((Ext.refl (fun _ => False) wb).alloc (.cells #[.bool true, .int .u64 0, .int .u64 0, .int .u64 n] 94))).push ⟨true, 0, 0, n⟩ (by simpa using HN.out) (by unfold Ways; rw [wcells_append, List.length_append]; exact hown6) hgr6 (by simpa using hblk6)
          clear own5 hown6 hgr6 hblk6 HB
          have HB := Lib.hid I6
          have HL := Lib.hid (show (l ++ [(⟨true, 0, 0, n⟩ : WayV)]).length ≤ j + 1 by simp; omega)
          clear I6
          have b1 : ¬ ((S : Int) + (most : Int) < (U : Int)) := by have := HB.out.ug; have := HB.out.gs; omega
          have b2 : ¬ ((S : Int) + (most : Int) < (G : Int)) := by have := HB.out.gs; omega
          have b3 : (S : Int) ≤ 100 := by have := HB.out.su; have := HB.out.uj; have := HB.out.jh; omega
          go_wp2_with fail
          refine (sr_sent HB.out.sr).mono ?_
          rintro e w9 ⟨rfl, rfl⟩
          go_wp2_with fail
          refine (sr_seen HB.out.sr).mono ?_
          rintro e w9 ⟨rfl, rfl⟩
          go_wp2_with fail
          refine (sr_granted HB.out.sr).mono ?_
          rintro e w9 ⟨rfl, rfl⟩
          go_wp2_with fail
          refine (sr_seen HB.out.sr).mono ?_
          rintro e w9 ⟨rfl, rfl⟩
          go_wp2
          go_roundg (xs.length - (j + 1))
          case measure => have := HK.out; omega
          case rel => exact ⟨j + 1, _, _, _, _, _, _, _, by omega, by omega, rfl, by go_num, HB.out, HL.out⟩
        ·
          go_upto_region 12 with fail
          have HP := Lib.hid (show (wr.alloc (.cells #[.int .i64 what, .int .i64 free, .int .u16 pos, .bool stays] 92)).cell? ⟨wr.heap.size, 2, none⟩ = some (.int .u16 pos) ∧ (wr.alloc (.cells #[.int .i64 what, .int .i64 free, .int .u16 pos, .bool stays] 92)).cell? ⟨wr.heap.size, 3, none⟩ = some (.bool stays) from ⟨by rw [cell_of_heap A0.out 2]; simp, by rw [cell_of_heap A0.out 3]; simp⟩)
          have HS := Lib.hid (heap_lt A0.out)
          clear A0 c0 c1 c2 c3
          generalize wr.alloc (.cells #[.int .i64 what, .int .i64 free, .int .u16 pos, .bool stays] 92) = wa at HA HP HS ⊢
          generalize wr.heap.size = c at HP HS ⊢
          by_cases hl : l.length = 0
          · have hl0 : (l.length : Int) = 0 := by omega
            go_wp2
            go_roundg (xs.length - (j + 1))
            case measure => have := HK.out; omega
            case rel => exact ⟨j + 1, _, _, _, _, _, _, _, by omega, by omega, rfl, by go_num, HA.out.relax (by omega), by omega⟩
          · have hl0 : ((l.length : Int) == 0) = false := by rw [beq_eq_false_iff_ne]; omega
            obtain ⟨k, hk⟩ : ∃ k, pos % l.length = k := ⟨_, rfl⟩
            have hk1 : k < l.length := by rw [← hk]; exact Nat.mod_lt _ (by omega)
            have hk2 : (wrap64 (pos : Int)).tmod (l.length : Int) = (k : Int) := by rw [show wrap64 (pos : Int) = (pos : Int) by have := XB.out.2.2; simp only at this; simp only [wrap64]; omega, tmod_nat', hk]
            obtain ⟨g, off2, cap2, e, hgl, hcc⟩ := Ways.at HA.out.ways k hk1
            injection e with e1 e2 e3
            subst e1 e3
            clear e2
            obtain ⟨x, hx⟩ : ∃ x, l[k] = x := ⟨_, rfl⟩
            have hxm : x ∈ l := hx ▸ List.getElem_mem _
            have HX := Lib.hid (HA.out.wn x hxm)
            rw [hx] at hcc
            clear hx hxm
            obtain ⟨credit, xlife, xdest, xn⟩ := x
            have d0 := hcc 0 (by omega)
            have d1 := hcc 1 (by omega)
            have d2 := hcc 2 (by omega)
            have d3 := hcc 3 (by omega)
            simp only [WayV.cells, Nat.add_zero, List.getElem?_cons_zero, List.getElem?_cons_succ] at d0 d1 d2 d3
            obtain ⟨c2, c3⟩ := HP.out
            have k1 : (0 : Int) ≤ (k : Int) := by omega
            have k2 : (k : Int) < (l.length : Int) := by omega
            clear hcc
            go_upto_region 15 with fail
            have HY := Lib.hid (show (wa.alloc (.cells #[.bool credit, .int .u64 xlife, .int .u64 xdest, .int .u64 xn] 94)).cell? ⟨wa.heap.size, 0, none⟩ = some (.bool credit) ∧ (wa.alloc (.cells #[.bool credit, .int .u64 xlife, .int .u64 xdest, .int .u64 xn] 94)).cell? ⟨wa.heap.size, 3, none⟩ = some (.int .u64 xn) from ⟨by rw [cell_of_heap (heap_alloc_new wa _) 0]; simp, by rw [cell_of_heap (heap_alloc_new wa _) 3]; simp⟩)
            have hg9 : Grows wa (wa.alloc (.cells #[.bool credit, .int .u64 xlife, .int .u64 xdest, .int .u64 xn] 94)) := (Ext.refl _ _).alloc _
            have HB := Lib.hid (HA.out.more hg9)
            have HP2 := Lib.hid ((hg9.cell (p := ⟨c, 3, none⟩) HS.out (fun h => h)).trans HP.out.2)
            have HZ9 := Lib.hid (heap_lt (heap_alloc_new wa (.cells #[.bool credit, .int .u64 xlife, .int .u64 xdest, .int .u64 xn] 94)))
            have HV := Lib.hid (show ∀ b', (Value.slice (some ⟨g, off2, none⟩) l.length uc).ownBlock = some b' → b' ≠ wa.heap.size from fun b' hb' => by simp only [Value.ownBlock, Option.some.injEq] at hb'; omega)
            clear d0 d1 d2 d3 c2 c3 HA HP HS hg9 hgl
            generalize wa.alloc (.cells #[.bool credit, .int .u64 xlife, .int .u64 xdest, .int .u64 xn] 94) = wb at HB HY HP2 HZ9 ⊢
            generalize wa.heap.size = c9 at HY HV HZ9 ⊢
            have c3 := HP2.out
            go_upto_if 69 with fail
            go_cut [10] (fun s' w' => ∃ l2, Wind w w' s r most P G U rP rG S l2 s' j ∧ l2.length ≤ j ∧ w'.cell? ⟨c9, 0, none⟩ = some (.bool credit) ∧ w'.cell? ⟨c9, 3, none⟩ = some (.int .u64 xn))
            case first =>
              cases stays with
              | true =>
                go_wp2
                go_meet
                case rel => exact ⟨l, HB.out, hfew, HY.out.1, HY.out.2⟩
              | false =>
                obtain ⟨hcap, hcm⟩ := Ways.cap HB.out.ways
                have q1 : (k : Int) ≤ (uc : Int) := by omega
                have q2 : (k : Int) + 1 ≤ (uc : Int) := by omega
                have q3 : (k : Int) + 1 ≤ (l.length : Int) := by omega
                have q4 : (l.length : Int) ≤ (uc : Int) := by omega
                have q6 : (0 : Int) ≤ (k : Int) + 1 := by omega
                have q5 : IntKind.i64.wrap ((k : Int) + 1) = (k : Int) + 1 := by rw [IntKind.wrap_i64]; simp only [maxLen] at hcm; omega
                have hpre0 : (l.take k).length = k := by rw [List.length_take]; omega
                have HPRE := Lib.hid (show OwnS wb.drew 94 4 (.slice (some ⟨g, off2, none⟩) k k) k (wcells (l.take k)) from by have := OwnS.grows (Ways.pre HB.out.ways k (by omega)) ((Ext.refl (fun _ => False) wb).drew); rw [hpre0] at this; exact this)
                have HWD := Lib.hid (show Ways wb.drew (.slice (some ⟨g, off2, none⟩) l.length uc) l from OwnS.grows HB.out.ways ((Ext.refl (fun _ => False) wb).drew))
                have hsum : k + (l.length - (k + 1)) ≤ 200 := by omega
                by_cases hz : k + 1 < uc
                · have hz1 : (k : Int) + 1 < (uc : Int) := by omega
                  have hz2 : ¬ uc = k + 1 := by omega
                  go_wp2_with fail
                  go_region_held3 (fun w' => True)
                    (trivial)
                    (first
                      | (refine step_append_ownS (by rfl) (.tmp 73) (.tmp 77) 88 88 (by rfl) 94 (.agg #[.bool false, .int .u64 0, .int .u64 0, .int .u64 0]) 4 32 Try.underlying88 infoWay rfl _ _ (by rfl) (by rfl) k (wcells (l.take k)) HPRE.out (l.length - (k + 1)) (wcells (l.drop (k + 1))) (Ways.suf HWD.out k hk1 (by intro h; (first | rfl | omega | (simp; done) | (simp; omega))) ⟨_, rfl⟩) (by unfold maxLen; omega) (by omega) ?_; intro v' w3 hown3 hgr3 hblk3))
                  all_goals
                    have he3 : Ext (fun b' => (Value.slice (some ⟨g, off2, none⟩) k k).ownBlock = some b') wb.drew w3 := Ext.of_grown hgr3 (fun _ hk => hk)
                    have A := Lib.hid (And.intro (Wind.cut (HB.out.more ((Ext.refl _ wb).drew)) (l.take k ++ l.drop (k + 1)) (fun x hx => by
                      rcases List.mem_append.1 hx with hx | hx
                      · exact List.mem_of_mem_take hx
                      · exact List.mem_of_mem_drop hx) (by unfold Ways; rw [wcells_append, List.length_append, hpre0, List.length_drop]; exact hown3) hgr3 hblk3) (And.intro ((he3.cell (p := ⟨c9, 0, none⟩) HZ9.out (fun hb => HV.out _ hb rfl)).trans HY.out.1) ((he3.cell (p := ⟨c9, 3, none⟩) HZ9.out (fun hb => HV.out _ hb rfl)).trans HY.out.2)))
                    clear he3 hown3 hgr3 hblk3
                    go_wp2
                    go_meet
                    case rel => exact ⟨_, A.out.1, by rw [List.length_append, List.length_take, List.length_drop]; omega, A.out.2.1, A.out.2.2⟩
                · have hz2 : (uc = k + 1) = True := eq_true (by omega)
                  go_wp2_with fail
                  go_region_held3 (fun w' => True)
                    (trivial)
                    (first
                      | (refine step_append_ownS (by rfl) (.tmp 73) (.tmp 77) 88 88 (by rfl) 94 (.agg #[.bool false, .int .u64 0, .int .u64 0, .int .u64 0]) 4 32 Try.underlying88 infoWay rfl _ _ (by rfl) (by rfl) k (wcells (l.take k)) HPRE.out (l.length - (k + 1)) (wcells (l.drop (k + 1))) (Ways.suf HWD.out k hk1 (by intro h; (first | rfl | omega | (simp; done) | (simp; omega))) ⟨_, rfl⟩) (by unfold maxLen; omega) (by omega) ?_; intro v' w3 hown3 hgr3 hblk3))
                  all_goals
                    have he3 : Ext (fun b' => (Value.slice (some ⟨g, off2, none⟩) k k).ownBlock = some b') wb.drew w3 := Ext.of_grown hgr3 (fun _ hk => hk)
                    have A := Lib.hid (And.intro (Wind.cut (HB.out.more ((Ext.refl _ wb).drew)) (l.take k ++ l.drop (k + 1)) (fun x hx => by
                      rcases List.mem_append.1 hx with hx | hx
                      · exact List.mem_of_mem_take hx
                      · exact List.mem_of_mem_drop hx) (by unfold Ways; rw [wcells_append, List.length_append, hpre0, List.length_drop]; exact hown3) hgr3 hblk3) (And.intro ((he3.cell (p := ⟨c9, 0, none⟩) HZ9.out (fun hb => HV.out _ hb rfl)).trans HY.out.1) ((he3.cell (p := ⟨c9, 3, none⟩) HZ9.out (fun hb => HV.out _ hb rfl)).trans HY.out.2)))
                    clear he3 hown3 hgr3 hblk3
                    go_wp2
                    go_meet
                    case rel => exact ⟨_, A.out.1, by rw [List.length_append, List.length_take, List.length_drop]; omega, A.out.2.1, A.out.2.2⟩
            case rest =>
            obtain ⟨l2, hI2, hf2, hy1, hy2⟩ := hcut
            clear HB HY
            have HB := Lib.hid (hI2.relax (by omega))
            have HL := Lib.hid (show l2.length ≤ j + 1 by omega)
            clear hI2 hf2
            cases credit with
            | true =>
              have hx9 : xn ≤ S + most := by simpa using HX.out
              go_wp2_with fail
              refine (wind_take HB.out xn hx9).mono ?_
              rintro e w' ⟨P', G', rfl, H'⟩
              clear HB
              have HB := Lib.hid H'
              clear H'
              have b1 : ¬ ((S : Int) + (most : Int) < (U : Int)) := by have := HB.out.ug; have := HB.out.gs; omega
              have b2 : ¬ ((S : Int) + (most : Int) < (G' : Int)) := by have := HB.out.gs; omega
              have b3 : (S : Int) ≤ 100 := by have := HB.out.su; have := HB.out.uj; have := HB.out.jh; omega
              go_wp2_with fail
              refine (sr_sent HB.out.sr).mono ?_
              rintro e w9 ⟨rfl, rfl⟩
              go_wp2_with fail
              refine (sr_seen HB.out.sr).mono ?_
              rintro e w9 ⟨rfl, rfl⟩
              go_wp2_with fail
              refine (sr_granted HB.out.sr).mono ?_
              rintro e w9 ⟨rfl, rfl⟩
              go_wp2_with fail
              refine (sr_seen HB.out.sr).mono ?_
              rintro e w9 ⟨rfl, rfl⟩
              go_wp2
              go_roundg (xs.length - (j + 1))
              case measure => have := HK.out; omega
              case rel => exact ⟨j + 1, _, _, _, _, _, _, _, by omega, by omega, rfl, by go_num, HB.out, HL.out⟩
            | false =>
              have hx9 : xn ≤ U := by simpa using HX.out
              go_wp2_with fail
              refine (wind_saw HB.out xn hx9).mono ?_
              rintro e w' ⟨P', G', S', rfl, H'⟩
              clear HB
              have HB := Lib.hid H'
              clear H'
              have b1 : ¬ ((S' : Int) + (most : Int) < (U : Int)) := by have := HB.out.ug; have := HB.out.gs; omega
              have b2 : ¬ ((S' : Int) + (most : Int) < (G : Int)) := by have := HB.out.gs; omega
              have b3 : (S' : Int) ≤ 100 := by have := HB.out.su; have := HB.out.uj; have := HB.out.jh; omega
              go_wp2_with fail
              refine (sr_sent HB.out.sr).mono ?_
              rintro e w9 ⟨rfl, rfl⟩
              go_wp2_with fail
              refine (sr_seen HB.out.sr).mono ?_
              rintro e w9 ⟨rfl, rfl⟩
              go_wp2_with fail
              refine (sr_granted HB.out.sr).mono ?_
              rintro e w9 ⟨rfl, rfl⟩
              go_wp2_with fail
              refine (sr_seen HB.out.sr).mono ?_
              rintro e w9 ⟨rfl, rfl⟩
              go_wp2
              go_roundg (xs.length - (j + 1))
              case measure => have := HK.out; omega
              case rel => exact ⟨j + 1, _, _, _, _, _, _, _, by omega, by omega, rfl, by go_num, HB.out, HL.out⟩
      · have h100' : ¬ (j : Int) < 100 := by omega
        have hj2 : (j : Int) < (xs.length : Int) := by omega
        go_wp2_with fail
        refine (credit_wakes _).mono ?_
        rintro e w' ⟨rfl, hg⟩
        have HE := Lib.hid (HI.out.sr.grows.trans hg)
        clear hg
        go_wp2
        go_ret
        exact ⟨rfl, Ext.to_below HE.out⟩
    · have hj2 : ¬ (j : Int) < (xs.length : Int) := by omega
      go_wp2_with fail
      refine (credit_wakes _).mono ?_
      rintro e w' ⟨rfl, hg⟩
      have HE := Lib.hid (HI.out.sr.grows.trans hg)
      clear hg
      go_wp2
      go_ret
      exact ⟨rfl, Ext.to_below HE.out⟩
namespace CreditWindowShell
theorem own : ownKnob Try.prog.godebug = none := by kernel_rfl
theorem laidOut : laidOutB Try.prog = true := by kernel_rfl
set_option maxRecDepth 100000 in
theorem lifted (os : Os) (started : os.Started) (H : Type) (enc : TypeId × Value → H) :
    ReturnsInHanded {} Try.checked os 11 .any (Rows.creditWindowSpec.pre6 enc Try.prog Try.f11 Rows.creditWindowRow.domain false) (Rows.creditWindowSpec.post enc Try.prog Try.f11 false true false false) := by
  refine returnsInHanded_of_change_sized (C := Try.checked) own started (by kernel_rfl) Try.func11
    (ChangeSpec.witness6 (enc := enc) (C := Try.checked) false ⟨#[], #[.slice none 0 0, .int .u8 0], []⟩ 8 (by kernel_rfl) (by kernel_rfl) (by kernel_rfl) (by kernel_rfl)) ?_
  intro W base args ds gs before hval0 hW hcnd hsz0 _
  have hval : ∀ (j : Nat) t v, Try.f11.params[j]? = some t → args[j]? = some v → Value.okWide Try.prog W .any base t v := hval0
  have hsz : (DataW.weightsEach Try.prog (Try.f11.params.toList ++ Rows.creditWindowSpec.plain.varTypes Try.prog) (ds ++ gs)).all (· ≤ reachBytes) = true := hsz0
  have hW' := hW
  obtain ⟨p, q, hA0, hV, rfl, hfz, hnd⟩ := hW
  have hA : DataW.TrodAll enc Try.prog W 0 (fun _ => true) true Try.f11.params.toList args.toList ds p := hA0
  rw [Try.params11] at hA hval hsz
  obtain ⟨v0, vs0, d0, ds0, p0, q0, hargs, rfl, rfl, h0, r0⟩ := trodAll_cons hA
  obtain ⟨v1, vs1, d1, ds1, p1, q1, rfl, rfl, rfl, h1, r1⟩ := trodAll_cons r0
  obtain ⟨rfl, rfl, rfl⟩ := trodAll_nil r1
  obtain rfl : args = #[v0, v1] := by cases args; simp_all
  obtain ⟨rfl, rfl⟩ := trodVars_none hV
  have k0 := h0
  have lt0 : ∀ x ∈ p0, x.block < W.heap.size := by obtain ⟨m, hm⟩ := k0; exact DataW.trod_lt m _ _ _ hm
  have k1 := h1
  have lt1 : ∀ x ∈ p1, x.block < W.heap.size := by obtain ⟨m, hm⟩ := k1; exact DataW.trod_lt m _ _ _ hm
  obtain ⟨a0, w0⟩ := open_steps (hval 0 86 v0 rfl rfl) h0 hsz (j := 0) rfl rfl
  obtain ⟨a1, rfl, rfl, rfl, w1⟩ := open_int Try.underlying5 (hval 1 5 v1 rfl rfl) h1
  clear hA0 hval0 hsz0
  refine (CreditWindow_walk v0 a0 a1 W w0 w1).mono fun e W' ⟨he, bel⟩ => ?_
  subst he
  exact ⟨_, rfl, _, _, _, [], _, [], hW', trodAll_mk1 (shut_bool Try.underlying4 _), (trodAll_cons_mk (Below.trod laidOut (by kernel_rfl) (of_decide_eq_true (by kernel_rfl)) k0 bel lt0) (trodAll_cons_mk (Below.trod laidOut (by kernel_rfl) (of_decide_eq_true (by kernel_rfl)) k1 bel lt1) trodAll_mk0)), rfl, bel.frame _, fun h => by cases h⟩
theorem over : Rows.creditWindowRow.holds Try.pinned (OpenSpec.ofChange Rows.creditWindowSpec) :=
  OpenClaim.holds_of_wide 11 Try.f11 rfl rfl rfl rfl rfl rfl rfl ⟨rfl, rfl, rfl, rfl, rfl⟩ rfl rfl rfl rfl rfl (by kernel_rfl) Try.func11 (by kernel_rfl)
    (of_decide_eq_true (by kernel_rfl)) (by unfold Func.isWrapper; first | (rw [if_pos (by decide +kernel)]; kernel_rfl) | (rw [if_neg (by decide +kernel)]; exact ⟨rfl, rfl⟩))
    (fun os started H enc _ => lifted os started H enc)
end CreditWindowShell
theorem CreditWindow_holds : Rows.CreditWindowSaid := CreditWindowShell.over
#print axioms CreditWindow_holds
end Go.Proofs.Ytpkaddpennafcaa
