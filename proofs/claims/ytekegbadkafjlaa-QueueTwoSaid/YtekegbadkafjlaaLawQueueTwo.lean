/- QueueTwo: two queues do not stand in each other's way, a cleared one takes as many as a new one; at any numbers of places and any frames; no condition. -/
import Derived.Test.YtekegbadkafjlaaQueueTwo
import Derived.Deep.DeepCutAuto
namespace Go.Proofs.Ytekegbadkafjlaa
set_option linter.unusedVariables false
set_option linter.unusedSimpArgs false
open Go.ChangeShapes Go.WideShapes Go.ChangeAt Go.RowKit

theorem Two.start {w w1 w2 : World} {p q n m : Nat} (hp : w.heap.size = p) (hq : w1.heap.size = q) (h1 : QueueAt w1 p (fun k => k = p) n []) (g1 : Grows w w1) (h2 : QueueAt w2 q (fun k => k = q) m []) (g2 : Grows w1 w2) :
    Two w w2 p q n m [] [] [] [] (.slice none 0 0) (.slice none 0 0) := by
  have l1 := h1.lt
  have l2 := h2.lt
  have s1 := g1.size
  have s2 := g2.size
  refine ⟨fun k => if k = p then 1 else 2, _, _, h1.grows g2, h2, fun k hk => ?_, fun k hk => ?_, OwnF.nil _ _, OwnF.nil _ _, fun k hk => by simp [Value.ownBlock] at hk, fun k hk => by simp [Value.ownBlock] at hk, g1.trans g2⟩
  · subst hk
    exact ⟨if_pos rfl, by omega, by omega⟩
  · subst hk
    exact ⟨if_neg (by omega), by omega, by omega⟩

theorem Bytes.blk {w : World} {u : Value} {f : List Int} (h : Bytes w u f) : ∀ k, u.ownBlock = some k → f ≠ [] → k < w.heap.size := by
  intro k hk hf
  rcases h.cases with ⟨a, c, rfl, h0⟩ | ⟨b2, off2, c, rfl, hle, hc, hb, _⟩
  · exact absurd h0 hf
  · simp only [Value.ownBlock, Option.some.injEq] at hk
    subst hk
    exact hb

theorem two_popy {w wr : World} {p q n m : Nat} {xp xq xs ys : List (List Int)} {vx vy : Value} {f : List Int} {rest : List (List Int)} (h : Two w wr p q n m xp xq xs ys vx vy) (hx : xq = f :: rest) :
    Calls Try.prog 23 #[.pointer (some ⟨q, 0, none⟩)] wr fun e w' => ∃ b, e = .returned (.tuple #[.slice (some ⟨b, 0, none⟩) f.length f.length, .bool true]) ∧
      Bytes w' (.slice (some ⟨b, 0, none⟩) f.length f.length) f ∧ Two w w' p q n m xp rest xs ys vx vy := by
  refine (two_pop h.swap hx).mono ?_
  rintro e w' ⟨b, rfl, hB, h2⟩
  exact ⟨b, rfl, hB, h2.swap⟩

set_option maxRecDepth 1000000 in
set_option maxHeartbeats 8000000 in
theorem QueueTwo_walk (a b : Int) (v1 : Value) (fs : List (List Int)) (w : World) (h0 : (Lit.int .u8 a).wf = true) (h1 : (Lit.int .u8 b).wf = true) (h2 : Frames w v1 fs) :
    Calls Try.prog 10 #[.int .u8 a, .int .u8 b, v1] w fun e w' => e = .returned (.bool true) ∧ Below w.heap.size w w' := by
  obtain ⟨p1, p2⟩ := wf_u8' h0
  obtain ⟨p3, p4⟩ := wf_u8' h1
  clear h0 h1
  have hfl := h2.2
  have hfr := h2.fr
  obtain ⟨a1, c1, rfl⟩ := hfr.form
  have FR := Lib.hid hfr
  clear h2 hfr
  go_enter Try.func10, Try.ntmps10
  go_wp2_with fail
  have m1 : 1 ≤ 1 + a % 64 := by omega
  have m2 : 1 + a % 64 ≤ 64 := by omega
  have m3 : 1 ≤ 1 + b % 64 := by omega
  have m4 : 1 + b % 64 ≤ 64 := by omega
  generalize hmm2 : 1 + a % 64 = na at m1 m2 ⊢
  generalize hmm3 : 1 + b % 64 = nb at m3 m4 ⊢
  clear hmm2 hmm3
  obtain ⟨n, rfl⟩ := Int.eq_ofNat_of_zero_le (show 0 ≤ na by omega)
  obtain ⟨m, rfl⟩ := Int.eq_ofNat_of_zero_le (show 0 ≤ nb by omega)
  refine (new_yes n w (by omega) (by omega)).mono ?_
  rintro e w1 ⟨rfl, hq, hg⟩
  generalize hpp : w.heap.size = p at hq ⊢
  have HPP := Lib.hid hpp
  clear hpp
  have HQ1 := Lib.hid hq
  have HG1 := Lib.hid hg
  clear hq hg
  go_wp2_with fail
  refine (new_yes m w1 (by omega) (by omega)).mono ?_
  rintro e w2 ⟨rfl, hq, hg⟩
  generalize hqq : w1.heap.size = q at hq ⊢
  have I0 := Two.start HPP.out hqq HQ1.out HG1.out hq hg
  clear hqq hq hg HQ1 HG1 HPP
  have HI := Lib.hid I0
  clear I0
  go_wp2_with fail
  refine (queueAwake _).mono ?_
  rintro e w3 ⟨rfl, hg2⟩
  have I0 := HI.out.more hg2
  have HI := Lib.hid I0
  clear I0 hg2
  go_wp2
  go_loopg [13, 14, 49] fs.length (fun k vx vy c wr => ∃ (j : Nat) (xs ys : List (List Int)), j ≤ fs.length ∧ j ≤ 100 ∧ k = fs.length - j ∧ c = .int .i64 (j : Nat) ∧ Two w wr p q n m xs ys xs ys vx vy)
  case atStart => exact ⟨0, [], [], by omega, by omega, by omega, rfl, HI.out⟩
  case round =>
    obtain ⟨j, xs, ys, hj, hj1, hk, rfl, hI⟩ := hrel
    have HK := Lib.hid hk
    have HI2 := Lib.hid hI
    clear hk hI
    by_cases hlt : j < fs.length
    · by_cases h100 : j < 100
      · have hj0 : ((j : Int) == 100) = false := by simp; omega
        obtain ⟨b, off, cap, ua, uc, e, hbl2, hcell, hby, hle⟩ := FR.out.at j hlt
        simp only [Value.slice.injEq] at e
        obtain ⟨rfl, _, rfl⟩ := e
        have hcr := (HI2.out.grows.cell hbl2 (fun h => h)).trans hcell
        clear hcell
        have i1 : (0 : Int) ≤ (j : Int) := by omega
        have i2 : (j : Int) < (fs.length : Int) := by omega
        have hlb := hby.2.2
        obtain ⟨len, hlen⟩ : ∃ len, fs[j].length = len := ⟨_, rfl⟩
        rw [hlen] at hcr hby hle hlb
        have HL := Lib.hid hlen
        clear hlen
        obtain ⟨f, hf⟩ : ∃ f, fs[j].take 50 = f := ⟨_, rfl⟩
        have hf50 : f.length ≤ 50 := by rw [← hf, List.length_take]; omega
        have hpre : (len ≤ 50 ∧ Bytes w (.slice ua len uc) f) ∨ (50 < len ∧ Bytes w (.slice ua 50 uc) f) := by
          by_cases h : len ≤ 50
          · refine .inl ⟨h, ?_⟩
            have := HL.out
            rw [← hf, List.take_of_length_le (by omega)]
            exact hby
          · refine .inr ⟨by omega, ?_⟩
            rw [← hf]
            exact hby.take 50 (by omega)
        clear hf hby
        have HP := Lib.hid hpre
        clear hpre
        go_upto_region 11 with fail
        go_cut [16] (fun s w' => ∃ l, s = .slice ua l uc ∧ w' = wr ∧ Bytes w (.slice ua l uc) f)
        case first =>
          rcases HP.out with ⟨hlc, hbt⟩ | ⟨hlc, hbt⟩
          all_goals
            have HB := Lib.hid hbt
            clear hbt
            go_wp2
            go_meet
            case rel => exact ⟨_, rfl, rfl, HB.out⟩
        case rest =>
        obtain ⟨l, rfl, rfl, hbt⟩ := hcut
        have HB := Lib.hid hbt
        clear hbt HP hcr
        go_upto_region 12 with fail
        go_cut [69] (fun s w' => (s = .bool true ∧ Two w w' p q n m (xs ++ [f]) ys xs ys u13 u14) ∨ (s = .bool false ∧ Two w w' p q n m xs ys xs ys u13 u14))
        case first =>
          by_cases hm : (j : Int) % 2 = 0
          · have hmb : ((j : Int) % 2 == 0) = true := by simpa using hm
            go_wp2_with fail
            refine (two_push HI2.out HB.out (by omega)).mono ?_
            rintro e w' (⟨_, rfl, I⟩ | ⟨_, rfl, I⟩)
            · go_wp2
              go_meet
              case rel => exact .inr ⟨rfl, I⟩
            · go_wp2
              go_meet
              case rel => exact .inl ⟨rfl, I⟩
          · have hmb : ((j : Int) % 2 == 0) = false := by simpa using hm
            go_wp2
            go_meet
            case rel => exact .inr ⟨rfl, HI2.out⟩
        case rest =>
        have HC := Lib.hid hcut
        clear hcut HI2
        go_upto_if 69 with fail
        go_cut [13] (fun s w' => ∃ xs', Two w w' p q n m xs' ys xs' ys s u14)
        case first =>
          rcases HC.out with ⟨rfl, I⟩ | ⟨rfl, I⟩
          ·
            obtain ⟨vs, ho1, ho2, _⟩ := I.x
            have own5 := ho1.grows ((Ext.refl (fun _ => False) wc).alloc (.cells #[.slice ua l uc] 22))
            have hfew := I.fewp
            simp only [List.length_append, List.length_cons, List.length_nil] at hfew
            go_wp2_with (at_builtin; refine wpList_append_ownS rfl (.tmp 70) (.tmp 72) 43 43 rfl 22 (.slice none 0 0) 1 24 Try.underlying43 infoBytes rfl _ _ rfl rfl xs.length vs own5 1 [.slice ua l uc] (src_one Try.underlying43 (heap_alloc_new wc _) rfl) (by unfold maxLen; omega) (by omega) ?_)
            intro v'' w6 hown6 hgr6 hblk6
            have I6 := I.xapp HB.out (HB.out.blk) ho2 (by have := ho1.1; omega) (by simpa using hown6) hgr6 (by simpa using hblk6)
            go_wp2
            go_meet
            case rel => exact ⟨_, I6.swap.swap⟩
          · go_wp2
            go_meet
            case rel => exact ⟨xs, I⟩
        case rest =>
        obtain ⟨xs, hI⟩ := hcut
        have HI2 := Lib.hid hI
        clear hI HC
        go_upto_region 14 with fail
        go_cut [82] (fun s w' => (s = .bool true ∧ Two w w' p q n m xs (ys ++ [f]) xs ys u13 u14) ∨ (s = .bool false ∧ Two w w' p q n m xs ys xs ys u13 u14))
        case first =>
          by_cases hm : (j : Int) % 3 = 0
          · have hmb : ((j : Int) % 3 != 0) = false := by simpa using hm
            go_wp2
            go_meet
            case rel => exact .inr ⟨rfl, HI2.out⟩
          · have hmb : ((j : Int) % 3 != 0) = true := by simpa using hm
            go_wp2_with fail
            refine (two_push HI2.out.swap HB.out (by omega)).mono ?_
            rintro e w' (⟨_, rfl, I⟩ | ⟨_, rfl, I⟩)
            · go_wp2
              go_meet
              case rel => exact .inr ⟨rfl, I.swap⟩
            · go_wp2
              go_meet
              case rel => exact .inl ⟨rfl, I.swap⟩
        case rest =>
        have HC := Lib.hid hcut
        clear hcut HI2
        go_upto_if 82 with fail
        go_cut [14] (fun s w' => ∃ ys', Two w w' p q n m xs ys' xs ys' u13 s)
        case first =>
          rcases HC.out with ⟨rfl, I⟩ | ⟨rfl, I⟩
          ·
            obtain ⟨vs, ho1, ho2, _⟩ := I.swap.x
            have own5 := ho1.grows ((Ext.refl (fun _ => False) wc).alloc (.cells #[.slice ua l uc] 22))
            have hfew := I.swap.fewp
            simp only [List.length_append, List.length_cons, List.length_nil] at hfew
            go_wp2_with (at_builtin; refine wpList_append_ownS rfl (.tmp 83) (.tmp 85) 43 43 rfl 22 (.slice none 0 0) 1 24 Try.underlying43 infoBytes rfl _ _ rfl rfl ys.length vs own5 1 [.slice ua l uc] (src_one Try.underlying43 (heap_alloc_new wc _) rfl) (by unfold maxLen; omega) (by omega) ?_)
            intro v'' w6 hown6 hgr6 hblk6
            have I6 := I.swap.xapp HB.out (HB.out.blk) ho2 (by have := ho1.1; omega) (by simpa using hown6) hgr6 (by simpa using hblk6)
            go_wp2
            go_meet
            case rel => exact ⟨_, I6.swap⟩
          · go_wp2
            go_meet
            case rel => exact ⟨ys, I⟩
        case rest =>
        obtain ⟨ys, hI⟩ := hcut
        have HI2 := Lib.hid hI
        clear hI HC
        go_upto_if 89 with fail
        go_cut [13] (fun s w' => ∃ xs', Two w w' p q n m xs' ys xs' ys s u14)
        case first =>
          by_cases hm : (j : Int) % 7 = 6
          · go_wp2_with fail
            refine (two_clear HI2.out).mono ?_
            rintro e w' ⟨rfl, I⟩
            go_wp2
            go_meet
            case rel => exact ⟨[], I.xnil⟩
          · go_wp2
            go_meet
            case rel => exact ⟨xs, HI2.out⟩
        case rest =>
        obtain ⟨xs, hI⟩ := hcut
        obtain ⟨ya, yc, rfl⟩ := hI.swap.x.form
        have HI2 := Lib.hid hI
        clear hI
        go_upto_region 19 with fail
        go_cut [99] (fun s w' => w' = wc ∧ ((s = .bool true ∧ 0 < ys.length) ∨ s = .bool false))
        case first =>
          by_cases hm : (j : Int) % 5 = 4
          · have hmb : ((j : Int) % 5 == 4) = true := by simpa using hm
            by_cases hy : 0 < ys.length
            · have hyb : (0 : Int) < (ys.length : Int) := by omega
              go_wp2
              go_meet
              case rel => exact ⟨rfl, .inl ⟨rfl, hy⟩⟩
            · have hyb : ¬ (0 : Int) < (ys.length : Int) := by omega
              go_wp2
              go_meet
              case rel => exact ⟨rfl, .inr rfl⟩
          · have hmb : ((j : Int) % 5 == 4) = false := by simpa using hm
            go_wp2
            go_meet
            case rel => exact ⟨rfl, .inr rfl⟩
        case rest =>
        obtain ⟨rfl, hcase⟩ := hcut
        have HC := Lib.hid hcase
        clear hcase
        go_upto_if 99 with fail
        go_cut [14] (fun s w' => ∃ ys', Two w w' p q n m xs ys' xs ys' u13 s)
        case first =>
          rcases HC.out with ⟨rfl, hy⟩ | rfl
          · have I := HI2.out
            obtain ⟨y0, yr, hys⟩ : ∃ y0 yr, ys = y0 :: yr := by
              cases ys with
              | nil => exact absurd hy (by simp)
              | cons y0 yr => exact ⟨y0, yr, rfl⟩
            have hyl : ys.length = yr.length + 1 := by rw [hys]; simp
            generalize hyn : ys.length = yn at I hyl hy ⊢
            go_wp2_with fail
            refine (two_popy I hys).mono ?_
            rintro e w7 ⟨bx, rfl, Bx, I7⟩
            obtain ⟨eb, eoff, ecap, ea, ec, ee, _, ecell, eB, _⟩ := I7.swap.x.fr.at 0 (by omega)
            simp only [Value.slice.injEq] at ee
            obtain ⟨rfl, _, rfl⟩ := ee
            have hg0 : ys[0]'(by omega) = y0 := by simp [hys]
            rw [hg0] at ecell eB
            simp only [Nat.add_zero] at ecell
            have HI7 := Lib.hid I7
            have hbx := Bx.2.2
            have hy1 : (0 : Int) < (yn : Int) := by omega
            have hy2 : (1 : Int) ≤ (yn : Int) := by omega
            clear I7
            go_wp2_with fail
            refine (equal_any _ _ _ _ _ Bx eB).mono ?_
            rintro e w8 ⟨rfl, rfl⟩
            clear Bx eB ecell
            have I7 := HI7.out
            rw [hys] at I7
            by_cases hyc : yc = 1
            · subst hyc
              have I8 := (I7.swap.xtail (a := some ⟨eb, eoff, none⟩) hyl (fun h => by omega) (fun _ => rfl)).swap
              simp only [hyl, Nat.add_sub_cancel, Nat.sub_self] at I8
              have HI8 := Lib.hid I8
              clear I7 I8
              go_wp2
              go_meet
              case rel => exact ⟨yr, HI8.out⟩
            · have I8 := (I7.swap.xtail (a := some ⟨eb, eoff + 1, none⟩) hyl (fun _ => rfl) (fun h => absurd h hyc)).swap
              simp only [hyl, Nat.add_sub_cancel] at I8
              have HI8 := Lib.hid I8
              clear I7 I8
              go_wp2
              go_meet
              case rel => exact ⟨yr, HI8.out⟩
          · go_wp2
            go_meet
            case rel => exact ⟨ys, HI2.out⟩
        case rest =>
        obtain ⟨ys, hI⟩ := hcut
        obtain ⟨xa, xc, rfl⟩ := hI.x.form
        have HI2 := Lib.hid hI
        clear hI HC
        go_wp2_with fail
        refine (two_all HI2.out).mono ?_
        rintro e w4 ⟨aa, al, ac, rfl, Ba, I⟩
        go_wp2_with fail
        refine (two_same I Ba rfl).mono ?_
        rintro e w5 ⟨rfl, I⟩
        clear Ba
        go_wp2_with fail
        refine (two_all I.swap).mono ?_
        rintro e w6 ⟨aa, al, ac, rfl, Ba, I⟩
        go_wp2_with fail
        refine (two_same I Ba rfl).mono ?_
        rintro e w7 ⟨rfl, I⟩
        clear Ba
        have I := I.swap
        go_wp2_with fail
        refine (two_free I).mono ?_
        rintro e w7 ⟨rfl, I⟩
        have HI3 := Lib.hid I
        clear I
        have hfew := HI3.out.fewp
        go_wp2
        go_roundg (fs.length - (j + 1))
        case measure => have := HK.out; omega
        case rel => exact ⟨j + 1, xs, ys, by omega, by omega, rfl, by go_num, HI3.out⟩
      · obtain rfl : j = 100 := by omega
        obtain ⟨b, off, cap, ua, uc, e, hbl2, hcell, hby, hle⟩ := FR.out.at 100 hlt
        simp only [Value.slice.injEq] at e
        obtain ⟨rfl, _, rfl⟩ := e
        have hcr := (HI2.out.grows.cell hbl2 (fun h => h)).trans hcell
        have i2 : (100 : Int) < (fs.length : Int) := by omega
        clear hcell hby hle
        go_wp2
        go_ret
        exact ⟨rfl, Ext.to_below HI2.out.grows⟩
    · go_wp2
      go_ret
      exact ⟨rfl, Ext.to_below HI2.out.grows⟩
namespace QueueTwoShell
theorem own : ownKnob Try.prog.godebug = none := by kernel_rfl
theorem laidOut : laidOutB Try.prog = true := by kernel_rfl
set_option maxRecDepth 100000 in
theorem lifted (os : Os) (started : os.Started) (H : Type) (enc : TypeId × Value → H) :
    ReturnsInHanded {} Try.checked os 10 .any (Rows.queueTwoSpec.pre6 enc Try.prog Try.f10 Rows.queueTwoRow.domain false) (Rows.queueTwoSpec.post enc Try.prog Try.f10 false true false false) := by
  refine returnsInHanded_of_change_sized (C := Try.checked) own started (by kernel_rfl) Try.func10
    (ChangeSpec.witness6 (enc := enc) (C := Try.checked) false ⟨#[], #[.int .u8 0, .int .u8 0, .slice none 0 0], []⟩ 8 (by kernel_rfl) (by kernel_rfl) (by kernel_rfl) (by kernel_rfl)) ?_
  intro W base args ds gs before hval0 hW hcnd hsz0 _
  have hval : ∀ (j : Nat) t v, Try.f10.params[j]? = some t → args[j]? = some v → Value.okWide Try.prog W .any base t v := hval0
  have hsz : (DataW.weightsEach Try.prog (Try.f10.params.toList ++ Rows.queueTwoSpec.plain.varTypes Try.prog) (ds ++ gs)).all (· ≤ reachBytes) = true := hsz0
  have hW' := hW
  obtain ⟨p, q, hA0, hV, rfl, hfz, hnd⟩ := hW
  have hA : DataW.TrodAll enc Try.prog W 0 (fun _ => true) true Try.f10.params.toList args.toList ds p := hA0
  rw [Try.params10] at hA hval hsz
  obtain ⟨v0, vs0, d0, ds0, p0, q0, hargs, rfl, rfl, h0, r0⟩ := trodAll_cons hA
  obtain ⟨v1, vs1, d1, ds1, p1, q1, rfl, rfl, rfl, h1, r1⟩ := trodAll_cons r0
  obtain ⟨v2, vs2, d2, ds2, p2, q2, rfl, rfl, rfl, h2, r2⟩ := trodAll_cons r1
  obtain ⟨rfl, rfl, rfl⟩ := trodAll_nil r2
  obtain rfl : args = #[v0, v1, v2] := by cases args; simp_all
  obtain ⟨rfl, rfl⟩ := trodVars_none hV
  have k0 := h0
  have lt0 : ∀ x ∈ p0, x.block < W.heap.size := by obtain ⟨m, hm⟩ := k0; exact DataW.trod_lt m _ _ _ hm
  have k1 := h1
  have lt1 : ∀ x ∈ p1, x.block < W.heap.size := by obtain ⟨m, hm⟩ := k1; exact DataW.trod_lt m _ _ _ hm
  have k2 := h2
  have lt2 : ∀ x ∈ p2, x.block < W.heap.size := by obtain ⟨m, hm⟩ := k2; exact DataW.trod_lt m _ _ _ hm
  obtain ⟨a0, rfl, rfl, rfl, w0⟩ := open_int Try.underlying5 (hval 0 5 v0 rfl rfl) h0
  obtain ⟨a1, rfl, rfl, rfl, w1⟩ := open_int Try.underlying5 (hval 1 5 v1 rfl rfl) h1
  obtain ⟨a2, w2⟩ := open_frames (hval 2 43 v2 rfl rfl) h2 hsz (j := 2) rfl rfl
  clear hA0 hval0 hsz0
  refine (QueueTwo_walk a0 a1 v2 a2 W w0 w1 w2).mono fun e W' ⟨he, bel⟩ => ?_
  subst he
  exact ⟨_, rfl, _, _, _, [], _, [], hW', trodAll_mk1 (shut_bool Try.underlying4 _), (trodAll_cons_mk (Below.trod laidOut (by kernel_rfl) (of_decide_eq_true (by kernel_rfl)) k0 bel lt0) (trodAll_cons_mk (Below.trod laidOut (by kernel_rfl) (of_decide_eq_true (by kernel_rfl)) k1 bel lt1) (trodAll_cons_mk (Below.trod laidOut (by kernel_rfl) (of_decide_eq_true (by kernel_rfl)) k2 bel lt2) trodAll_mk0))), rfl, bel.frame _, fun h => by cases h⟩
theorem over : Rows.queueTwoRow.holds Try.pinned (OpenSpec.ofChange Rows.queueTwoSpec) :=
  OpenClaim.holds_of_wide 10 Try.f10 rfl rfl rfl rfl rfl rfl rfl ⟨rfl, rfl, rfl, rfl, rfl⟩ rfl rfl rfl rfl rfl (by kernel_rfl) Try.func10 (by kernel_rfl)
    (of_decide_eq_true (by kernel_rfl)) (by unfold Func.isWrapper; first | (rw [if_pos (by decide +kernel)]; kernel_rfl) | (rw [if_neg (by decide +kernel)]; exact ⟨rfl, rfl⟩))
    (fun os started H enc _ => lifted os started H enc)
end QueueTwoShell
theorem QueueTwo_holds : Rows.QueueTwoSaid := QueueTwoShell.over
#print axioms QueueTwo_holds
end Go.Proofs.Ytekegbadkafjlaa
