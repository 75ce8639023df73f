/- RanksPlays: what was told last, behind any tellings, as the document says. -/
import Derived.Test.YtpkaddpennafcaaRanksP
import Derived.Deep.LoopGhost
import Derived.Deep.DeepCutAuto
import Derived.Deep.RegionHeld3
namespace Go.Proofs.Ytpkaddpennafcaa
set_option linter.unusedVariables false
set_option linter.unusedSimpArgs false
open Go.ChangeShapes Go.WideShapes Go.ChangeAt Go.RowKit

theorem keep4 {s c : Nat} {w w' : World} {x y z u : Option Value} (he : Ext (fun k => k = s) w w') (hc : c < w.heap.size) (hs : ¬ c = s) (h : w.cell? ⟨c, 0, none⟩ = x ∧ w.cell? ⟨c, 1, none⟩ = y ∧ w.cell? ⟨c, 2, none⟩ = z ∧ w.cell? ⟨c, 3, none⟩ = u) :
    w'.cell? ⟨c, 0, none⟩ = x ∧ w'.cell? ⟨c, 1, none⟩ = y ∧ w'.cell? ⟨c, 2, none⟩ = z ∧ w'.cell? ⟨c, 3, none⟩ = u :=
  ⟨(he.cell hc hs).trans h.1, (he.cell hc hs).trans h.2.1, (he.cell hc hs).trans h.2.2.1, (he.cell hc hs).trans h.2.2.2⟩

/-- Behind the takes: what is at hand. -/
structure PP (w wx : World) (t q L C B : Nat) (l : List RankA) (S Q : Nat → Prop) (ob : Nat) (m : Value) (l3 : List RankA) (cs : Array Value) (ty : TypeId) : Prop where
  rp : RP w wx t q L C B l L C B l S Q
  own : OwnS wx 39 2 m l3.length (racells l3)
  blk : wx.heap[ob]? = some (.cells cs ty (0, 0))
  mb : ∀ k, m.ownBlock = some k → w.heap.size ≤ k ∧ ¬ S k ∧ ¬ Q k ∧ k ≠ ob

/-- One rank of the call's own list is changed. -/
theorem PP.step {w wx : World} {t q L C B : Nat} {l : List RankA} {S Q : Nat → Prop} {ob g off n cap : Nat} {l3 : List RankA} {cs : Array Value} {ty : TypeId} (h : PP w wx t q L C B l S Q ob (.slice (some ⟨g, off, none⟩) n cap) l3 cs ty) (k : Nat) (hk : k < l3.length) (hn : n = l3.length) (y : Int) :
    ∃ l4 : List RankA, l4.length = l3.length ∧ PP w (wx.setCell ⟨g, off + k * 2 + 1, none⟩ (.int .i64 y)) t q L C B l S Q ob (.slice (some ⟨g, off, none⟩) n cap) l4 cs ty := by
  have hg := h.mb g rfl
  have e : Ext (fun k => k = g) wx (wx.setCell ⟨g, off + k * 2 + 1, none⟩ (.int .i64 y)) := (Ext.refl _ _).setT_r _ _
  subst hn
  refine ⟨l3.set k ⟨(l3.getD k ⟨0, 0⟩).gen, y⟩, by simp, h.rp.ext e (fun k hk => by subst hk; exact ⟨hg.1, hg.2.1, hg.2.2.1⟩), ?_, (e.block ob (heap_lt h.blk) (fun e => hg.2.2.2 e.symm)).trans h.blk, h.mb⟩
  rw [racells_set l3 k y hk, List.length_set, Nat.add_assoc]
  exact h.own.set (k * 2 + 1) (by omega) _
theorem PP.more {w wx w' : World} {t q L C B : Nat} {l : List RankA} {S Q : Nat → Prop} {ob : Nat} {m : Value} {l3 : List RankA} {cs : Array Value} {ty : TypeId} (h : PP w wx t q L C B l S Q ob m l3 cs ty) (g : Grows wx w') : PP w w' t q L C B l S Q ob m l3 cs ty :=
  ⟨h.rp.more g, h.own.grows g, (g.block ob (heap_lt h.blk) (fun h => h)).trans h.blk, h.mb⟩
theorem PP.at {w wx : World} {t q L C B : Nat} {l : List RankA} {S Q : Nat → Prop} {ob : Nat} {m : Value} {l3 : List RankA} {cs : Array Value} {ty : TypeId} (h : PP w wx t q L C B l S Q ob m l3 cs ty) (k : Nat) (hk : k < l3.length) :
    ∃ g off cap, m = .slice (some ⟨g, off, none⟩) l3.length cap ∧ wx.cell? ⟨g, off + k * 2 + 1, none⟩ = some (.int .i64 l3[k].rank) ∧ wx.frozen? ⟨g, off + k * 2 + 1, none⟩ = false := by
  obtain ⟨g, off, cap, hv, _, hc, hf⟩ := OwnS.cells h.own (k * 2 + 1) (by omega)
  rw [(racells_get l3 k hk).2, ← Nat.add_assoc] at hc
  rw [← Nat.add_assoc] at hf
  exact ⟨g, off, cap, hv, hc, hf⟩

theorem idx0 (x y z : Int) (w : World) : (Instr.index 43 (.agg #[.int .u64 x, .int .u64 y, .int .u64 z]) (.int .i64 0)).run Try.prog w = .ok (.int .u64 x) w := by kernel_rfl
theorem idx1 (x y z : Int) (w : World) : (Instr.index 43 (.agg #[.int .u64 x, .int .u64 y, .int .u64 z]) (.int .i64 1)).run Try.prog w = .ok (.int .u64 y) w := by kernel_rfl
theorem idx2 (x y z : Int) (w : World) : (Instr.index 43 (.agg #[.int .u64 x, .int .u64 y, .int .u64 z]) (.int .i64 2)).run Try.prog w = .ok (.int .u64 z) w := by kernel_rfl
theorem rcells_kept : ∀ l : List RankA, (∀ r ∈ l, 1 ≤ r.rank) → rcells (kept l) = racells l
  | [], _ => rfl
  | r :: rest, h => by
    have h1 := h r (by simp)
    show rcells (⟨r.gen, r.rank.toNat⟩ :: kept rest) = _
    rw [rcells, racells, rcells_kept rest (fun x hx => h x (by simp [hx]))]
    congr 3
    simp only
    omega
theorem quiet_drew_r {P : Program} {f : FuncId} {args : Array Value} {w : World} {n : Nat} {v : Value} (h : Calls P f args (w.drewN n) fun e w' => e = .returned v ∧ ∃ m, w' = (w.drewN n).drewN m) :
    Calls P f args (w.drewN n) fun e w'' => e = .returned v ∧ ∃ m, w'' = w.drewN m :=
  h.mono fun _ _ ⟨he, m, hm⟩ => ⟨he, n + m, hm.trans (World.drewN_drewN _ _ _)⟩

set_option maxRecDepth 4000 in
set_option maxHeartbeats 16000000 in
theorem RanksPlays_walk (v0 : Value) (xs : List TellV) (gen own width : Int) (w : World) (h0 : Tells w v0 xs) (h1 : (Lit.int .u64 gen).wf = true) (h2 : (Lit.int .i64 own).wf = true) (h3 : (Lit.int .i64 width).wf = true) :
    Calls Try.prog 4 #[v0, .int .u64 gen, .int .i64 own, .int .i64 width] w fun e w' => e = .returned (.bool true) ∧ Below w.heap.size w w' := by
  obtain ⟨a1, a2⟩ := wf64' h1
  obtain ⟨gen, rfl⟩ := Int.eq_ofNat_of_zero_le a1
  obtain ⟨va, vc, rfl⟩ := h0.form
  have NS := Lib.hid h0
  clear h0 h1 h2 h3 a1 a2
  go_enter Try.func4, Try.ntmps4
  go_wp2_with fail
  refine (told_new w).mono ?_
  rintro e w1 ⟨rfl, hn, hg⟩
  have HN := Lib.hid (And.intro hn hg)
  clear hn hg
  go_upto_region 2 with fail
  have hh2 : (w1.alloc (.cells #[.int .u64 0, .int .u64 0, .int .u64 0, .slice none 0 0] 36)).heap[w1.heap.size]? = some (.cells #[.int .u64 ((0 : Nat) : Int), .int .u64 ((0 : Nat) : Int), .int .u64 ((0 : Nat) : Int), .slice none 0 0] 36 (0, 0)) := heap_alloc_new w1 _
  have hg2 : Grows w1 (w1.alloc (.cells #[.int .u64 0, .int .u64 0, .int .u64 0, .slice none 0 0] 36)) := (Ext.refl _ _).alloc _
  have hlt2 : w1.heap.size < (w1.alloc (.cells #[.int .u64 0, .int .u64 0, .int .u64 0, .slice none 0 0] 36)).heap.size := by simp
  generalize w1.alloc (.cells #[.int .u64 0, .int .u64 0, .int .u64 0, .slice none 0 0] 36) = w2 at hh2 hg2 hlt2 ⊢
  have R0 : RP w w2 w.heap.size w1.heap.size 0 0 0 [] 0 0 0 [] (fun k => k = w.heap.size) (fun k => k = w1.heap.size) := by
    have hlt := HN.out.1.lt
    have hs := HN.out.2.size
    have hs2 := hg2.size
    exact ⟨HN.out.1.ext hg2 (fun _ _ h => h), ⟨⟨_, _, hh2, OwnS.nil _ _ _, fun b hb => by simp [Value.ownBlock] at hb⟩, rfl⟩, fun k hk => by omega, fun k hk => by omega, by simp, by simp, HN.out.2.trans hg2⟩
  have HR := Lib.hid R0
  clear R0 HN hh2 hg2 hlt2
  generalize w.heap.size = t at HR ⊢
  generalize w1.heap.size = q at HR ⊢
  go_wp2
  go_loopg [11] xs.length (fun k c wr => ∃ (j L C B : Nat) (l : List RankA) (St Sq : Nat → Prop), j ≤ xs.length ∧ j ≤ 60 ∧ k = xs.length - j ∧ c = .int .i64 (j : Nat) ∧ RP w wr t q L C B l L C B l St Sq)
  case atStart => exact ⟨0, 0, 0, 0, [], _, _, by omega, by omega, by omega, rfl, HR.out⟩
  case round =>
    obtain ⟨j, L, C, B, l, St, Sq, hj, hj1, hk, rfl, hI⟩ := hrel
    have HK := Lib.hid hk
    clear HR
    have HR := Lib.hid hI
    clear hk hI
    by_cases hlt : j < xs.length
    · by_cases h60 : j < 60
      · have hj0 : (j : Int) < 60 := by omega
        have hj2 : (j : Int) < (xs.length : Int) := by omega
        have hj3 : (0 : Int) ≤ (j : Int) := by omega
        obtain ⟨b, off, cap, u, e, hbl, ⟨hc0, hc1, hc2, hc3⟩, hrs, hb0, hb1, hb2⟩ := NS.out.at j hlt
        injection e with e1 e2 e3
        subst e1 e3
        clear e2
        generalize xs[j] = o at hc0 hc1 hc2 hc3 hrs hb0 hb1 hb2
        obtain ⟨life, count, base, ol⟩ := o
        obtain ⟨ua, uc, rfl⟩ := hrs.form
        have c0 := (HR.out.grows.cell hbl (fun h => h)).trans hc0
        have c1 := (HR.out.grows.cell hbl (fun h => h)).trans hc1
        have c2 := (HR.out.grows.cell hbl (fun h => h)).trans hc2
        have c3 := (HR.out.grows.cell hbl (fun h => h)).trans hc3
        have HO := Lib.hid hrs
        have HBB := Lib.hid (And.intro hb0 (And.intro hb1 hb2))
        simp only at c0 c1 c2 c3
        clear hbl hc0 hc1 hc2 hc3 hrs hb0 hb1 hb2
        simp only at HO HBB
        go_upto_region 6 with fail
        have hob := heap_alloc_new wr (.cells #[.int .u64 life, .int .u64 count, .int .u64 base, .slice ua ol.length uc] 25)
        have hga : Grows wr (wr.alloc (.cells #[.int .u64 life, .int .u64 count, .int .u64 base, .slice ua ol.length uc] 25)) := (Ext.refl _ _).alloc _
        obtain ⟨ob, hobs⟩ : ∃ ob, wr.heap.size = ob := ⟨_, rfl⟩
        have has : ob < (wr.alloc (.cells #[.int .u64 life, .int .u64 count, .int .u64 base, .slice ua ol.length uc] 25)).heap.size := by rw [← hobs]; simp
        rw [hobs] at hob ⊢
        generalize wr.alloc (.cells #[.int .u64 life, .int .u64 count, .int .u64 base, .slice ua ol.length uc] 25) = wa at hob hga has ⊢
        clear c0 c1 c2 c3
        have c3 := cell_of_heap hob 3
        simp at c3
        have hsrc := (HO.out.grows (HR.out.grows.trans hga)).src
        have own5 := OwnS.nil wa 39 2
        have hlen := HO.out.2
        have OA := Lib.hid (And.intro hob (And.intro hga (And.intro hobs has)))
        clear hob hga hobs has
        go_wp2_with (at_builtin; refine wpList_append_ownS rfl (.const (.slice none 0 0)) (.tmp 38) 23 23 rfl 39 (.agg #[.int .u64 0, .int .i64 0]) 2 16 Try.underlying23 infoRank rfl _ _ rfl rfl 0 [] own5 ol.length (racells ol) hsrc (by unfold maxLen; omega) (by omega) ?_)
        intro v' w6 hown6 hgr6 hblk6
        have hg6 : Grows wa w6 := (Ext.of_grown (S := fun k => (Value.slice none 0 0).ownBlock = some k) hgr6 (fun _ hk => hk)).mono (fun k hk hh => by simp [Value.ownBlock] at hh)
        have hmb : ∀ k, v'.ownBlock = some k → wa.heap.size ≤ k ∧ k < w6.heap.size := by
          intro k hk
          refine ⟨?_, hown6.lt k hk⟩
          rcases hblk6 with h | h
          · rw [h] at hk; simp [Value.ownBlock] at hk
          · rw [h] at hk; exact Nat.le_of_eq (Option.some.inj hk)
        obtain ⟨ma, mc, rfl⟩ := OwnS.form hown6
        have MA := Lib.hid (And.intro hown6 (And.intro hmb hg6))
        clear hown6 hmb hg6 hgr6 hblk6 own5 hsrc c3
        have R6 := Lib.hid (HR.out.more (OA.out.2.1.trans MA.out.2.2))
        go_wp2_with fail
        refine (told_copy R6.out.told).mono ?_
        rintro e w7 ⟨rfl, hc7, hg7⟩
        have oh7 := ((MA.out.2.2.trans hg7).block ob OA.out.2.2.2 (fun h => h)).trans OA.out.1
        have C7 := Lib.hid (And.intro hc7 (And.intro hg7 oh7))
        have c0 := cell_of_heap oh7 0
        have c1 := cell_of_heap oh7 1
        have c2 := cell_of_heap oh7 2
        simp at c0 c1 c2
        clear hc7 hg7 oh7
        obtain ⟨c, hcc⟩ : ∃ c, w6.heap.size = c := ⟨_, rfl⟩
        have HCC := Lib.hid hcc
        rw [hcc]
        clear hcc
        have hmr7 : Rs w7 (.slice ma ol.length mc) ol := Rs.of_owns (MA.out.1.grows C7.out.2.1) HO.out.okay hlen
        have hc7 := C7.out.1
        rw [HCC.out] at hc7
        have T7 := Lib.hid (And.intro hc7 hmr7)
        clear hc7 hmr7
        go_wp2_with fail
        refine (told_take_any T7.out.1 _ (Int.toNat _) count base (Int.toNat_of_nonneg (by first | omega | (rw [IntKind.wrap_u64]; omega) | (simp only [wrap64]; omega))).symm _ ol T7.out.2 HBB.out.2.2).mono ?_
        rintro e w8 ⟨E8, rfl, he8⟩
        have hcb : ob < c ∧ (∀ k, (Value.slice ma ol.length mc).ownBlock = some k → ob < k ∧ k < c) ∧ w.heap.size ≤ c := by
          have s1 := MA.out.2.2.size
          have s2 := OA.out
          have s3 := HCC.out
          have s4 := R6.out.grows.size
          refine ⟨by omega, fun k hk => by have := MA.out.2.1 k hk; omega, by omega⟩
        have hR8 : RP w w8 t q L C B l L C B l St Sq := (R6.out.more C7.out.2.1).ext he8 (fun k hk => by
          subst hk
          refine ⟨hcb.2.2, fun h => ?_, fun h => ?_⟩
          · have := R6.out.st _ h; have := HCC.out; omega
          · have := R6.out.sq _ h; have := HCC.out; omega)
        have hM8 := (MA.out.1.grows C7.out.2.1).ext he8 (fun k hk e => by have := hcb.2.1 k hk; omega)
        have hs7 : ob < w7.heap.size := heap_lt C7.out.2.2
        have oh8 := (he8.block ob hs7 (by have := hcb.1; omega)).trans C7.out.2.2
        have hmr8 : Rs w8 (.slice ma ol.length mc) ol := Rs.of_owns hM8 HO.out.okay hlen
        have hsz8 : c < w8.heap.size := by have := he8.size; have := T7.out.1.lt; omega
        have hst : ∀ k, (St k ∨ Sq k) → k < ob := by
          intro k hk
          have s2 := OA.out.2.2.1
          rcases hk with hk | hk
          · have := HR.out.st k hk; omega
          · have := HR.out.sq k hk; omega
        have R8 := Lib.hid (And.intro hR8 (And.intro hM8 (And.intro hmr8 (And.intro oh8 (And.intro hcb (And.intro hsz8 hst))))))
        clear c0 c1 c2 T7 C7 MA R6 hs7 hM8 hmr8 hcb hsz8 he8 hR8 hst
        have c0 := cell_of_heap oh8 0
        have c1 := cell_of_heap oh8 1
        have c2 := cell_of_heap oh8 2
        have c3 := cell_of_heap oh8 3
        simp at c0 c1 c2 c3
        have HC := Lib.hid (And.intro c0 (And.intro c1 (And.intro c2 c3)))
        clear oh8
        go_wp2_with fail
        by_cases hE : takeRE L C life count base ol = 0
        · have HE := Lib.hid hE
          clear hE
          go_region_held3 (fun w' => w'.cell? ⟨ob, 0, none⟩ = some (.int .u64 life) ∧ w'.cell? ⟨ob, 1, none⟩ = some (.int .u64 count) ∧ w'.cell? ⟨ob, 2, none⟩ = some (.int .u64 base) ∧ w'.cell? ⟨ob, 3, none⟩ = some (.slice ua ol.length uc))
            (first
              | go_keep
              | exact keep4 he10 (Nat.lt_of_lt_of_le (Nat.lt_trans R8.out.2.2.2.2.1.1 R8.out.2.2.2.2.2.1) he9.size) (fun e => by have := R8.out.2.2.2.2.2.2 q (.inr R8.out.1.ref.own); omega) (keep4 he9 (Nat.lt_trans R8.out.2.2.2.2.1.1 R8.out.2.2.2.2.2.1) (fun e => by have := R8.out.2.2.2.2.2.2 t (.inl R8.out.1.told.own); omega) HC.out)
              | exact keep4 he9 (Nat.lt_trans R8.out.2.2.2.2.1.1 R8.out.2.2.2.2.2.1) (fun e => by have := R8.out.2.2.2.2.2.2 t (.inl R8.out.1.told.own); omega) HC.out)
            (first
              | (go_at_call 14; refine (rp_take_ok (R8.out.1.more (Ext.drewN_r _)) life count base _ ol (R8.out.2.2.1.grows (Ext.drewN_r _)) HBB.out.2.2 HE.out).mono ?_; rintro e w9 ⟨rfl, ⟨St2, R9, hS2⟩, he9⟩)
              | (go_at_call 20; refine (rp_rtake_ok R9 life count base _ ol (HO.out.grows R9.grows) (fun b hb hne e => by have := HO.out.blk hne b hb; have := R8.out.1.sq q R8.out.1.ref.own; omega) HE.out).mono ?_; rintro e w10 ⟨rfl, ⟨Sq2, R10, hQ2⟩, he10⟩))
          all_goals
            have hP : PP w w10 t q life count base ol St2 Sq2 ob (.slice ma ol.length mc) ol #[.int .u64 life, .int .u64 count, .int .u64 base, .slice ua ol.length uc] 25 := by
              have htm := R8.out.2.2.2.2.1
              have hst := R8.out.2.2.2.2.2.2
              have ht := hst t (.inl R8.out.1.told.own)
              have hq := hst q (.inr R8.out.1.ref.own)
              have hsz := R8.out.2.2.2.2.2.1
              have hs9 : w8.heap.size ≤ w9.heap.size := he9.size
              refine ⟨R10, ((R8.out.2.1.grows (Ext.drewN_r 1)).ext he9 (fun k hk e => by have := htm.2.1 k hk; omega)).ext he10 (fun k hk e => by have := htm.2.1 k hk; omega), (he10.block ob (by omega) (by omega)).trans ((he9.block ob (show ob < w8.heap.size by omega) (by omega)).trans R8.out.2.2.2.1), fun k hk => ?_⟩
              have hk1 := htm.2.1 k hk
              have hws := HR.out.grows.size
              have hoo := OA.out.2.2.1
              refine ⟨by omega, fun h => ?_, fun h => ?_, by omega⟩
              · rcases hS2 k h with h | h
                · have := hst k (.inl h); omega
                · have h' : w8.heap.size ≤ k := h; omega
              · rcases hQ2 k h with h | h
                · have := hst k (.inr h); omega
                · have h' : w9.heap.size ≤ k := h; omega
            have P := Lib.hid hP
            clear hP R9 hS2 he9 R10 hQ2 he10 c0 c1 c2 c3 HC R8
          go_wp2
          go_loopg [15] ol.length (fun k i wx => ∃ (n : Nat) (l3 : List RankA), l3.length = ol.length ∧ k = ol.length - n ∧ n ≤ ol.length ∧ i = .int .i64 (n : Nat) ∧ PP w wx t q life count base ol St2 Sq2 ob (.slice ma ol.length mc) l3 #[.int .u64 life, .int .u64 count, .int .u64 base, .slice ua ol.length uc] 25)
          case atStart => exact ⟨0, ol, rfl, by omega, by omega, rfl, P.out⟩
          case round =>
            obtain ⟨n, l3, hl3, hk3, hn3, rfl, hP3⟩ := hrel
            have K3 := Lib.hid hk3
            clear P hk3
            have P := Lib.hid hP3
            clear hP3
            by_cases hlt3 : n < ol.length
            · obtain ⟨g, moff, mcap, hv, hmc, hmf⟩ := P.out.at n (by omega)
              rw [hl3] at hv
              injection hv with e1 e2 e3
              subst e1 e3
              clear e2
              have n1 : (0 : Int) ≤ (n : Int) := by omega
              have n2 : (n : Int) < (ol.length : Int) := by omega
              generalize l3[n].rank = x at hmc
              go_wp2
              go_roundg (ol.length - (n + 1))
              case measure => have := K3.out; omega
              case rel =>
                obtain ⟨l4, h4, hP4⟩ := P.out.step n (by omega) (by omega) _
                exact ⟨n + 1, l4, by omega, rfl, by omega, by go_num, hP4⟩
            · have n2 : ¬ (n : Int) < (ol.length : Int) := by omega
              go_wp2_with fail
              refine (told_ranks P.out.rp.told).mono ?_
              rintro e w11 ⟨vr, rfl, hor, hfr, hgr⟩
              rw [kept_length, rcells_kept ol (fun r hr => (P.out.rp.ok r hr).2)] at hor
              have hP2 : PP w w11 t q life count base ol St2 Sq2 ob vr ol #[.int .u64 life, .int .u64 count, .int .u64 base, .slice ua ol.length uc] 25 := by
                have hob := heap_lt P.out.blk
                have hws := P.out.rp.grows.size
                exact ⟨P.out.rp.more hgr, hor, (hgr.block ob hob (fun h => h)).trans P.out.blk, fun k hk => by
                  have h1 := hfr k hk
                  refine ⟨by omega, fun h => ?_, fun h => ?_, by omega⟩
                  · have := P.out.rp.st k h; omega
                  · have := P.out.rp.sq k h; omega⟩
              clear P hor hfr hgr
              obtain ⟨ra, rc, rfl⟩ := OwnS.form hP2.own
              have P := Lib.hid hP2
              clear hP2
              obtain ⟨rty, rvs, rhh, rho, _⟩ := P.out.rp.ref.blk
              have q0 := cell_of_heap rhh 0
              have q2 := cell_of_heap rhh 2
              have q3 := cell_of_heap rhh 3
              simp at q0 q2 q3
              have hl16 : (ol).length ≤ 16 := by have := P.out.rp.told.b4; rwa [kept_length] at this
              have hs1 : Rs w11 (.slice ra (ol).length rc) ol := Rs.of_owns P.out.own (fun r hr => (P.out.rp.ok r hr).1) (by omega)
              have hs2 : Rs w11 rvs ol := Rs.of_owns rho (fun r hr => (P.out.rp.ok r hr).1) (by omega)
              obtain ⟨rva, rvc, rfl⟩ := hs2.form
              have RS := Lib.hid (And.intro hs1 (And.intro hs2 hl16))
              clear rhh rho hs1 hs2 hl16
              go_wp2_with fail
              go_quiet (first
                | (go_at_call 22; exact quiet_drew_r (refsame_any _ _ ol _ (RS.out.1.grows (Ext.drewN_r _)) (RS.out.2.1.grows (Ext.drewN_r _))))
                | (go_at_call 15; exact quiet_same_r (told_known (P.out.rp.more (Ext.drewN_r _)).told))
                | (go_at_call 23; exact quiet_same_r (told_life (P.out.rp.more (Ext.drewN_r _)).told))
                | (go_at_call 24; exact quiet_same_r (told_base (P.out.rp.more (Ext.drewN_r _)).told)))
              clear q0 q2 q3
              go_wp2
              have P0 := Lib.hid (P.out.more (Ext.drewN_r nq))
              clear P RS
              generalize w11.drewN nq = w12 at P0 ⊢
              go_loopg [17] (ol).length (fun k i wx => ∃ (n : Nat) (l3 : List RankA), l3.length = (ol).length ∧ k = (ol).length - n ∧ n ≤ (ol).length ∧ i = .int .i64 (n : Nat) ∧ PP w wx t q life count base ol St2 Sq2 ob (.slice ra (ol).length rc) l3 #[.int .u64 life, .int .u64 count, .int .u64 base, .slice ua ol.length uc] 25)
              case atStart => exact ⟨0, ol, rfl, by omega, by omega, rfl, P0.out⟩
              case round =>
                obtain ⟨n5, l5, hl5, hk5, hn5, rfl, hP5⟩ := hrel
                have K5 := Lib.hid hk5
                clear P0 hk5
                have P := Lib.hid hP5
                clear hP5
                have hlen5 : (ol).length ≤ 16 := by have := P.out.rp.told.b4; rwa [kept_length] at this
                by_cases hlt5 : n5 < (ol).length
                · obtain ⟨g, moff, mcap, hv, hmc, hmf⟩ := P.out.at n5 (by omega)
                  rw [hl5] at hv
                  injection hv with e1 e2 e3
                  subst e1 e3
                  clear e2
                  have n1 : (0 : Int) ≤ (n5 : Int) := by omega
                  have n2 : (n5 : Int) < ((ol).length : Int) := by omega
                  generalize l5[n5].rank = x at hmc
                  go_wp2
                  go_roundg ((ol).length - (n5 + 1))
                  case measure => have := K5.out; omega
                  case rel =>
                    obtain ⟨l6, h6, hP6⟩ := P.out.step n5 (by omega) (by omega) _
                    exact ⟨n5 + 1, l6, by omega, rfl, by omega, by go_num, hP6⟩
                · have n2 : ¬ (n5 : Int) < ((ol).length : Int) := by omega
                  have c2 := cell_of_heap P.out.blk 2
                  simp at c2
                  obtain ⟨b1, hb1⟩ : ∃ b1 : Nat, IntKind.u64.wrap ((base : Int) + 1) = (b1 : Int) := ⟨(IntKind.u64.wrap ((base : Int) + 1)).toNat, by rw [IntKind.wrap_u64]; omega⟩
                  go_wp2
                  have R := Lib.hid P.out.rp
                  clear P c2 hb1
                  go_loopg [144] 3 (fun k i wx => ∃ n : Nat, k = 3 - n ∧ n ≤ 3 ∧ i = .int .i64 (n : Nat) ∧ RP w wx t q life count base ol life count base ol St2 Sq2)
                  case atStart => exact ⟨0, by omega, by omega, rfl, R.out⟩
                  case round =>
                    obtain ⟨n7, hk7, hn7, rfl, hR7⟩ := hrel
                    have K7 := Lib.hid hk7
                    clear R hk7
                    have R := Lib.hid hR7
                    clear hR7
                    have hc7 : n7 = 0 ∨ n7 = 1 ∨ n7 = 2 ∨ n7 = 3 := by omega
                    rcases hc7 with rfl | rfl | rfl | rfl
                    ·
                      have hix := idx0
                      go_wp2_with fail
                      refine (told_rank R.out.told gen).mono ?_
                      rintro e wy ⟨rfl, hg⟩
                      have R2 := Lib.hid (R.out.more hg)
                      clear R hg
                      go_wp2_with fail
                      refine (refrank_any R2.out.ref hlen5 gen (fun r hr => (R2.out.ok r hr).2)).mono ?_
                      rintro e wz ⟨rfl, rfl⟩
                      go_wp2_with fail
                      refine (told_wants R2.out.told gen own width).mono ?_
                      rintro e wy2 ⟨rfl, hg⟩
                      have R := Lib.hid (R2.out.more hg)
                      clear R2 hg
                      go_wp2_with fail
                      refine (refwants_any R.out.ref hlen5 (fun r hr => (R.out.ok r hr).2) R.out.told.b3 gen own width).mono ?_
                      rintro e wz2 ⟨rfl, rfl⟩
                      go_wp2
                      go_roundg (3 - 1)
                      case measure => have := K7.out; omega
                      case rel => exact ⟨1, rfl, by omega, by go_num, R.out⟩
                    ·
                      have hix := idx1
                      go_wp2_with fail
                      refine (told_rank R.out.told base).mono ?_
                      rintro e wy ⟨rfl, hg⟩
                      have R2 := Lib.hid (R.out.more hg)
                      clear R hg
                      go_wp2_with fail
                      refine (refrank_any R2.out.ref hlen5 base (fun r hr => (R2.out.ok r hr).2)).mono ?_
                      rintro e wz ⟨rfl, rfl⟩
                      go_wp2_with fail
                      refine (told_wants R2.out.told base own width).mono ?_
                      rintro e wy2 ⟨rfl, hg⟩
                      have R := Lib.hid (R2.out.more hg)
                      clear R2 hg
                      go_wp2_with fail
                      refine (refwants_any R.out.ref hlen5 (fun r hr => (R.out.ok r hr).2) R.out.told.b3 base own width).mono ?_
                      rintro e wz2 ⟨rfl, rfl⟩
                      go_wp2
                      go_roundg (3 - 2)
                      case measure => have := K7.out; omega
                      case rel => exact ⟨2, rfl, by omega, by go_num, R.out⟩
                    ·
                      have hix := idx2
                      go_wp2_with fail
                      refine (told_rank R.out.told b1).mono ?_
                      rintro e wy ⟨rfl, hg⟩
                      have R2 := Lib.hid (R.out.more hg)
                      clear R hg
                      go_wp2_with fail
                      refine (refrank_any R2.out.ref hlen5 b1 (fun r hr => (R2.out.ok r hr).2)).mono ?_
                      rintro e wz ⟨rfl, rfl⟩
                      go_wp2_with fail
                      refine (told_wants R2.out.told b1 own width).mono ?_
                      rintro e wy2 ⟨rfl, hg⟩
                      have R := Lib.hid (R2.out.more hg)
                      clear R2 hg
                      go_wp2_with fail
                      refine (refwants_any R.out.ref hlen5 (fun r hr => (R.out.ok r hr).2) R.out.told.b3 b1 own width).mono ?_
                      rintro e wz2 ⟨rfl, rfl⟩
                      go_wp2
                      go_roundg (3 - 3)
                      case measure => have := K7.out; omega
                      case rel => exact ⟨3, rfl, by omega, by go_num, R.out⟩
                    · go_wp2
                      go_roundg (xs.length - (j + 1))
                      case measure => have := HK.out; omega
                      case rel => exact ⟨j + 1, _, _, _, _, _, _, by omega, by omega, rfl, by go_num, R.out⟩
        · obtain ⟨E, hEE⟩ : ∃ E, takeRE L C life count base ol = E := ⟨_, rfl⟩
          rw [hEE] at hE
          have HE := Lib.hid (And.intro hEE hE)
          clear hEE hE
          go_region_held3 (fun w' => w'.cell? ⟨ob, 0, none⟩ = some (.int .u64 life) ∧ w'.cell? ⟨ob, 1, none⟩ = some (.int .u64 count) ∧ w'.cell? ⟨ob, 2, none⟩ = some (.int .u64 base) ∧ w'.cell? ⟨ob, 3, none⟩ = some (.slice ua ol.length uc))
            (first
              | go_keep
              | exact keep4 (s := 0) ((he9.trans he10).mono (fun _ _ h => h.elim)) (Nat.lt_trans R8.out.2.2.2.2.1.1 R8.out.2.2.2.2.2.1) (by have := R8.out.2.2.2.2.2.2 t (.inl R8.out.1.told.own); omega) HC.out
              | exact keep4 (s := 0) (he9.mono (fun _ _ h => h.elim)) (Nat.lt_trans R8.out.2.2.2.2.1.1 R8.out.2.2.2.2.2.1) (by have := R8.out.2.2.2.2.2.2 t (.inl R8.out.1.told.own); omega) HC.out)
            (first
              | (go_at_call 14; refine (rp_take_no (R8.out.1.more (Ext.drewN_r _)) life count base _ ol (R8.out.2.2.1.grows (Ext.drewN_r _)) HBB.out.2.2 E HE.out.1 HE.out.2).mono ?_; rintro e w9 ⟨rfl, he9⟩)
              | (go_at_call 20; refine (rp_rtake_no ((R8.out.1.more (Ext.drewN_r _)).more he9) life count base _ ol (HO.out.grows ((R8.out.1.more (Ext.drewN_r _)).more he9).grows) E HE.out.1 HE.out.2).mono ?_; rintro e w10 ⟨rfl, he10⟩))
          all_goals
            have hP : PP w w10 t q L C B l St Sq ob (.slice ma ol.length mc) ol #[.int .u64 life, .int .u64 count, .int .u64 base, .slice ua ol.length uc] 25 := by
              have hg10 : Grows w8 w10 := ((Ext.drewN_r 1 : Grows w8 (w8.drewN 1)).trans he9).trans he10
              refine ⟨R8.out.1.more hg10, R8.out.2.1.grows hg10, (hg10.block ob (Nat.lt_trans R8.out.2.2.2.2.1.1 R8.out.2.2.2.2.2.1) (fun h => h)).trans R8.out.2.2.2.1, fun k hk => ?_⟩
              have hk1 := R8.out.2.2.2.2.1.2.1 k hk
              have hws := HR.out.grows.size
              have hoo := OA.out.2.2.1
              have hst := R8.out.2.2.2.2.2.2
              exact ⟨by omega, fun h => by have := hst k (.inl h); omega, fun h => by have := hst k (.inr h); omega, by omega⟩
            have P := Lib.hid hP
            clear hP he9 he10 c0 c1 c2 c3 HC R8
          go_wp2
          go_loopg [15] ol.length (fun k i wx => ∃ (n : Nat) (l3 : List RankA), l3.length = ol.length ∧ k = ol.length - n ∧ n ≤ ol.length ∧ i = .int .i64 (n : Nat) ∧ PP w wx t q L C B l St Sq ob (.slice ma ol.length mc) l3 #[.int .u64 life, .int .u64 count, .int .u64 base, .slice ua ol.length uc] 25)
          case atStart => exact ⟨0, ol, rfl, by omega, by omega, rfl, P.out⟩
          case round =>
            obtain ⟨n, l3, hl3, hk3, hn3, rfl, hP3⟩ := hrel
            have K3 := Lib.hid hk3
            clear P hk3
            have P := Lib.hid hP3
            clear hP3
            by_cases hlt3 : n < ol.length
            · obtain ⟨g, moff, mcap, hv, hmc, hmf⟩ := P.out.at n (by omega)
              rw [hl3] at hv
              injection hv with e1 e2 e3
              subst e1 e3
              clear e2
              have n1 : (0 : Int) ≤ (n : Int) := by omega
              have n2 : (n : Int) < (ol.length : Int) := by omega
              generalize l3[n].rank = x at hmc
              go_wp2
              go_roundg (ol.length - (n + 1))
              case measure => have := K3.out; omega
              case rel =>
                obtain ⟨l4, h4, hP4⟩ := P.out.step n (by omega) (by omega) _
                exact ⟨n + 1, l4, by omega, rfl, by omega, by go_num, hP4⟩
            · have n2 : ¬ (n : Int) < (ol.length : Int) := by omega
              go_wp2_with fail
              refine (told_ranks P.out.rp.told).mono ?_
              rintro e w11 ⟨vr, rfl, hor, hfr, hgr⟩
              rw [kept_length, rcells_kept l (fun r hr => (P.out.rp.ok r hr).2)] at hor
              have hP2 : PP w w11 t q L C B l St Sq ob vr l #[.int .u64 life, .int .u64 count, .int .u64 base, .slice ua ol.length uc] 25 := by
                have hob := heap_lt P.out.blk
                have hws := P.out.rp.grows.size
                exact ⟨P.out.rp.more hgr, hor, (hgr.block ob hob (fun h => h)).trans P.out.blk, fun k hk => by
                  have h1 := hfr k hk
                  refine ⟨by omega, fun h => ?_, fun h => ?_, by omega⟩
                  · have := P.out.rp.st k h; omega
                  · have := P.out.rp.sq k h; omega⟩
              clear P hor hfr hgr
              obtain ⟨ra, rc, rfl⟩ := OwnS.form hP2.own
              have P := Lib.hid hP2
              clear hP2
              obtain ⟨rty, rvs, rhh, rho, _⟩ := P.out.rp.ref.blk
              have q0 := cell_of_heap rhh 0
              have q2 := cell_of_heap rhh 2
              have q3 := cell_of_heap rhh 3
              simp at q0 q2 q3
              have hl16 : (l).length ≤ 16 := by have := P.out.rp.told.b4; rwa [kept_length] at this
              have hs1 : Rs w11 (.slice ra (l).length rc) l := Rs.of_owns P.out.own (fun r hr => (P.out.rp.ok r hr).1) (by omega)
              have hs2 : Rs w11 rvs l := Rs.of_owns rho (fun r hr => (P.out.rp.ok r hr).1) (by omega)
              obtain ⟨rva, rvc, rfl⟩ := hs2.form
              have RS := Lib.hid (And.intro hs1 (And.intro hs2 hl16))
              clear rhh rho hs1 hs2 hl16
              go_wp2_with fail
              go_quiet (first
                | (go_at_call 22; exact quiet_drew_r (refsame_any _ _ l _ (RS.out.1.grows (Ext.drewN_r _)) (RS.out.2.1.grows (Ext.drewN_r _))))
                | (go_at_call 15; exact quiet_same_r (told_known (P.out.rp.more (Ext.drewN_r _)).told))
                | (go_at_call 23; exact quiet_same_r (told_life (P.out.rp.more (Ext.drewN_r _)).told))
                | (go_at_call 24; exact quiet_same_r (told_base (P.out.rp.more (Ext.drewN_r _)).told)))
              clear q0 q2 q3
              go_wp2
              have P0 := Lib.hid (P.out.more (Ext.drewN_r nq))
              clear P RS
              generalize w11.drewN nq = w12 at P0 ⊢
              go_loopg [17] (l).length (fun k i wx => ∃ (n : Nat) (l3 : List RankA), l3.length = (l).length ∧ k = (l).length - n ∧ n ≤ (l).length ∧ i = .int .i64 (n : Nat) ∧ PP w wx t q L C B l St Sq ob (.slice ra (l).length rc) l3 #[.int .u64 life, .int .u64 count, .int .u64 base, .slice ua ol.length uc] 25)
              case atStart => exact ⟨0, l, rfl, by omega, by omega, rfl, P0.out⟩
              case round =>
                obtain ⟨n5, l5, hl5, hk5, hn5, rfl, hP5⟩ := hrel
                have K5 := Lib.hid hk5
                clear P0 hk5
                have P := Lib.hid hP5
                clear hP5
                have hlen5 : (l).length ≤ 16 := by have := P.out.rp.told.b4; rwa [kept_length] at this
                by_cases hlt5 : n5 < (l).length
                · obtain ⟨g, moff, mcap, hv, hmc, hmf⟩ := P.out.at n5 (by omega)
                  rw [hl5] at hv
                  injection hv with e1 e2 e3
                  subst e1 e3
                  clear e2
                  have n1 : (0 : Int) ≤ (n5 : Int) := by omega
                  have n2 : (n5 : Int) < ((l).length : Int) := by omega
                  generalize l5[n5].rank = x at hmc
                  go_wp2
                  go_roundg ((l).length - (n5 + 1))
                  case measure => have := K5.out; omega
                  case rel =>
                    obtain ⟨l6, h6, hP6⟩ := P.out.step n5 (by omega) (by omega) _
                    exact ⟨n5 + 1, l6, by omega, rfl, by omega, by go_num, hP6⟩
                · have n2 : ¬ (n5 : Int) < ((l).length : Int) := by omega
                  have c2 := cell_of_heap P.out.blk 2
                  simp at c2
                  obtain ⟨b1, hb1⟩ : ∃ b1 : Nat, IntKind.u64.wrap ((base : Int) + 1) = (b1 : Int) := ⟨(IntKind.u64.wrap ((base : Int) + 1)).toNat, by rw [IntKind.wrap_u64]; omega⟩
                  go_wp2
                  have R := Lib.hid P.out.rp
                  clear P c2 hb1
                  go_loopg [144] 3 (fun k i wx => ∃ n : Nat, k = 3 - n ∧ n ≤ 3 ∧ i = .int .i64 (n : Nat) ∧ RP w wx t q L C B l L C B l St Sq)
                  case atStart => exact ⟨0, by omega, by omega, rfl, R.out⟩
                  case round =>
                    obtain ⟨n7, hk7, hn7, rfl, hR7⟩ := hrel
                    have K7 := Lib.hid hk7
                    clear R hk7
                    have R := Lib.hid hR7
                    clear hR7
                    have hc7 : n7 = 0 ∨ n7 = 1 ∨ n7 = 2 ∨ n7 = 3 := by omega
                    rcases hc7 with rfl | rfl | rfl | rfl
                    ·
                      have hix := idx0
                      go_wp2_with fail
                      refine (told_rank R.out.told gen).mono ?_
                      rintro e wy ⟨rfl, hg⟩
                      have R2 := Lib.hid (R.out.more hg)
                      clear R hg
                      go_wp2_with fail
                      refine (refrank_any R2.out.ref hlen5 gen (fun r hr => (R2.out.ok r hr).2)).mono ?_
                      rintro e wz ⟨rfl, rfl⟩
                      go_wp2_with fail
                      refine (told_wants R2.out.told gen own width).mono ?_
                      rintro e wy2 ⟨rfl, hg⟩
                      have R := Lib.hid (R2.out.more hg)
                      clear R2 hg
                      go_wp2_with fail
                      refine (refwants_any R.out.ref hlen5 (fun r hr => (R.out.ok r hr).2) R.out.told.b3 gen own width).mono ?_
                      rintro e wz2 ⟨rfl, rfl⟩
                      go_wp2
                      go_roundg (3 - 1)
                      case measure => have := K7.out; omega
                      case rel => exact ⟨1, rfl, by omega, by go_num, R.out⟩
                    ·
                      have hix := idx1
                      go_wp2_with fail
                      refine (told_rank R.out.told base).mono ?_
                      rintro e wy ⟨rfl, hg⟩
                      have R2 := Lib.hid (R.out.more hg)
                      clear R hg
                      go_wp2_with fail
                      refine (refrank_any R2.out.ref hlen5 base (fun r hr => (R2.out.ok r hr).2)).mono ?_
                      rintro e wz ⟨rfl, rfl⟩
                      go_wp2_with fail
                      refine (told_wants R2.out.told base own width).mono ?_
                      rintro e wy2 ⟨rfl, hg⟩
                      have R := Lib.hid (R2.out.more hg)
                      clear R2 hg
                      go_wp2_with fail
                      refine (refwants_any R.out.ref hlen5 (fun r hr => (R.out.ok r hr).2) R.out.told.b3 base own width).mono ?_
                      rintro e wz2 ⟨rfl, rfl⟩
                      go_wp2
                      go_roundg (3 - 2)
                      case measure => have := K7.out; omega
                      case rel => exact ⟨2, rfl, by omega, by go_num, R.out⟩
                    ·
                      have hix := idx2
                      go_wp2_with fail
                      refine (told_rank R.out.told b1).mono ?_
                      rintro e wy ⟨rfl, hg⟩
                      have R2 := Lib.hid (R.out.more hg)
                      clear R hg
                      go_wp2_with fail
                      refine (refrank_any R2.out.ref hlen5 b1 (fun r hr => (R2.out.ok r hr).2)).mono ?_
                      rintro e wz ⟨rfl, rfl⟩
                      go_wp2_with fail
                      refine (told_wants R2.out.told b1 own width).mono ?_
                      rintro e wy2 ⟨rfl, hg⟩
                      have R := Lib.hid (R2.out.more hg)
                      clear R2 hg
                      go_wp2_with fail
                      refine (refwants_any R.out.ref hlen5 (fun r hr => (R.out.ok r hr).2) R.out.told.b3 b1 own width).mono ?_
                      rintro e wz2 ⟨rfl, rfl⟩
                      go_wp2
                      go_roundg (3 - 3)
                      case measure => have := K7.out; omega
                      case rel => exact ⟨3, rfl, by omega, by go_num, R.out⟩
                    · go_wp2
                      go_roundg (xs.length - (j + 1))
                      case measure => have := HK.out; omega
                      case rel => exact ⟨j + 1, _, _, _, _, _, _, by omega, by omega, rfl, by go_num, R.out⟩
      · have h60' : ¬ (j : Int) < 60 := by omega
        have hj2 : (j : Int) < (xs.length : Int) := by omega
        go_wp2_with fail
        refine (ranks_wakes _).mono ?_
        rintro e w9 ⟨rfl, hg⟩
        have HE := Lib.hid (HR.out.grows.trans hg)
        clear hg
        go_wp2
        go_ret
        exact ⟨rfl, Ext.to_below HE.out⟩
    · have hj2 : ¬ (j : Int) < (xs.length : Int) := by omega
      go_wp2_with fail
      refine (ranks_wakes _).mono ?_
      rintro e w9 ⟨rfl, hg⟩
      have HE := Lib.hid (HR.out.grows.trans hg)
      clear hg
      go_wp2
      go_ret
      exact ⟨rfl, Ext.to_below HE.out⟩
namespace RanksPlaysShell
theorem own : ownKnob Try.prog.godebug = none := by kernel_rfl
theorem laidOut : laidOutB Try.prog = true := by kernel_rfl
set_option maxRecDepth 100000 in
theorem lifted (os : Os) (started : os.Started) (H : Type) (enc : TypeId × Value → H) :
    ReturnsInHanded {} Try.checked os 4 .any (Rows.ranksPlaysSpec.pre6 enc Try.prog Try.f4 Rows.ranksPlaysRow.domain false) (Rows.ranksPlaysSpec.post enc Try.prog Try.f4 false true false false) := by
  refine returnsInHanded_of_change_sized (C := Try.checked) own started (by kernel_rfl) Try.func4
    (ChangeSpec.witness6 (enc := enc) (C := Try.checked) false ⟨#[], #[.slice none 0 0, .int .u64 0, .int .i64 0, .int .i64 0], []⟩ 8 (by kernel_rfl) (by kernel_rfl) (by kernel_rfl) (by kernel_rfl)) ?_
  intro W base args ds gs before hval0 hW hcnd hsz0 _
  have hval : ∀ (j : Nat) t v, Try.f4.params[j]? = some t → args[j]? = some v → Value.okWide Try.prog W .any base t v := hval0
  have hsz : (DataW.weightsEach Try.prog (Try.f4.params.toList ++ Rows.ranksPlaysSpec.plain.varTypes Try.prog) (ds ++ gs)).all (· ≤ reachBytes) = true := hsz0
  have hW' := hW
  obtain ⟨p, q, hA0, hV, rfl, hfz, hnd⟩ := hW
  have hA : DataW.TrodAll enc Try.prog W 0 (fun _ => true) true Try.f4.params.toList args.toList ds p := hA0
  rw [Try.params4] at hA hval hsz
  obtain ⟨v0, vs0, d0, ds0, p0, q0, hargs, rfl, rfl, h0, r0⟩ := trodAll_cons hA
  obtain ⟨v1, vs1, d1, ds1, p1, q1, rfl, rfl, rfl, h1, r1⟩ := trodAll_cons r0
  obtain ⟨v2, vs2, d2, ds2, p2, q2, rfl, rfl, rfl, h2, r2⟩ := trodAll_cons r1
  obtain ⟨v3, vs3, d3, ds3, p3, q3, rfl, rfl, rfl, h3, r3⟩ := trodAll_cons r2
  obtain ⟨rfl, rfl, rfl⟩ := trodAll_nil r3
  obtain rfl : args = #[v0, v1, v2, v3] := by cases args; simp_all
  obtain ⟨rfl, rfl⟩ := trodVars_none hV
  have k0 := h0
  have lt0 : ∀ x ∈ p0, x.block < W.heap.size := by obtain ⟨m, hm⟩ := k0; exact DataW.trod_lt m _ _ _ hm
  have k1 := h1
  have lt1 : ∀ x ∈ p1, x.block < W.heap.size := by obtain ⟨m, hm⟩ := k1; exact DataW.trod_lt m _ _ _ hm
  have k2 := h2
  have lt2 : ∀ x ∈ p2, x.block < W.heap.size := by obtain ⟨m, hm⟩ := k2; exact DataW.trod_lt m _ _ _ hm
  have k3 := h3
  have lt3 : ∀ x ∈ p3, x.block < W.heap.size := by obtain ⟨m, hm⟩ := k3; exact DataW.trod_lt m _ _ _ hm
  obtain ⟨a0, w0⟩ := open_tells (hval 0 34 v0 rfl rfl) h0 hsz (j := 0) rfl rfl
  obtain ⟨a1, rfl, rfl, rfl, w1⟩ := open_int Try.underlying22 (hval 1 22 v1 rfl rfl) h1
  obtain ⟨a2, rfl, rfl, rfl, w2⟩ := open_int Try.underlying3 (hval 2 3 v2 rfl rfl) h2
  obtain ⟨a3, rfl, rfl, rfl, w3⟩ := open_int Try.underlying3 (hval 3 3 v3 rfl rfl) h3
  clear hA0 hval0 hsz0
  refine (RanksPlays_walk v0 a0 a1 a2 a3 W w0 w1 w2 w3).mono fun e W' ⟨he, bel⟩ => ?_
  subst he
  exact ⟨_, rfl, _, _, _, [], _, [], hW', trodAll_mk1 (shut_bool Try.underlying4 _), (trodAll_cons_mk (Below.trod laidOut (by kernel_rfl) (of_decide_eq_true (by kernel_rfl)) k0 bel lt0) (trodAll_cons_mk (Below.trod laidOut (by kernel_rfl) (of_decide_eq_true (by kernel_rfl)) k1 bel lt1) (trodAll_cons_mk (Below.trod laidOut (by kernel_rfl) (of_decide_eq_true (by kernel_rfl)) k2 bel lt2) (trodAll_cons_mk (Below.trod laidOut (by kernel_rfl) (of_decide_eq_true (by kernel_rfl)) k3 bel lt3) trodAll_mk0)))), rfl, bel.frame _, fun h => by cases h⟩
theorem over : Rows.ranksPlaysRow.holds Try.pinned (OpenSpec.ofChange Rows.ranksPlaysSpec) :=
  OpenClaim.holds_of_wide 4 Try.f4 rfl rfl rfl rfl rfl rfl rfl ⟨rfl, rfl, rfl, rfl, rfl⟩ rfl rfl rfl rfl rfl (by kernel_rfl) Try.func4 (by kernel_rfl)
    (of_decide_eq_true (by kernel_rfl)) (by unfold Func.isWrapper; first | (rw [if_pos (by decide +kernel)]; kernel_rfl) | (rw [if_neg (by decide +kernel)]; exact ⟨rfl, rfl⟩))
    (fun os started H enc _ => lifted os started H enc)
end RanksPlaysShell
theorem RanksPlays_holds : Rows.RanksPlaysSaid := RanksPlaysShell.over
#print axioms RanksPlays_holds
end Go.Proofs.Ytpkaddpennafcaa
