/- DrawAll (a tied card): what is drawn is never nothing, and is drawn by itself, whatever stands behind and without its last noughts; at any draw, any bytes behind, any rows and turn; the row lists two of Go's tables (utf8's), whose contents this proof does not use. -/
import Derived.Test.YtiokikiombhcnaaDoorDrawT
import Derived.Test.YtiokikiombhcnaaDoorOpen
import Derived.Test.YtiokikiombhcnaaDoorRead
import Derived.Test.YtiokikiombhcnaaDoorCards
import Derived.Test.YtiokikiombhcnaaDoorTie
import Derived.Deep.DeepHandedRow
import Derived.Deep.DeepCutAuto
import Derived.Deep.QuietTactic
namespace Go.Proofs.YtiokikiombhcnaaDoor
set_option linter.unusedVariables false
set_option linter.unusedSimpArgs false
open Go.ChangeShapes Go.WideShapes Go.ChangeAt Go.RowKit

theorem formA {w : World} {u : Value} {l : List Int} (h : Bytes w u l) : ∃ a cap, u = .slice a l.length cap := by
  rcases h.cases with ⟨a, cap, rfl, h0⟩ | ⟨b, off, cap, rfl, _⟩
  · exact ⟨a, cap, by rw [h0]; rfl⟩
  · exact ⟨_, cap, rfl⟩
theorem grows_drewN (w : World) (n : Nat) : Grows w (w.drewN n) := ⟨rfl, rfl, rfl, Nat.le_refl _, fun _ _ _ => rfl⟩
theorem made_grows {w w' : World} {ty : TypeId} (h : (w.alloc (.cells #[] ty)).grownBy w' (some w.heap.size)) : Grows w w' :=
  (Ext.trans (Ext.alloc (Ext.refl (fun k => k = w.heap.size) w) (.cells #[] ty)) (Ext.of_grown h (by simp))).mono (fun k hk hh => by omega)
theorem made_blk {w : World} {ty : TypeId} {u : Option Nat} (h : u = some w.heap.size ∨ u = some (w.alloc (.cells #[] ty)).heap.size) : ∀ j, u = some j → w.heap.size ≤ j := by
  intro j hj
  rcases h with h | h
  · rw [h] at hj
    injection hj with hj
    omega
  · rw [h] at hj
    injection hj with hj
    simp at hj
    omega
set_option maxHeartbeats 2000000 in
theorem DrawAll_walk (u1 u2 : Value) (xs ys : List Int) (r t : Nat) (w : World) (h1 : Bytes w u1 xs) (h2 : Bytes w u2 ys) (hr : r < 256) (ht : t < 256) :
    Calls Tryd.prog 3 #[.agg #[u1, u2, .int .u8 r, .int .u8 t]] w fun e w' => e = .returned (.bool true) ∧ Below w.heap.size w w' := by
  obtain ⟨a1, c1, rfl⟩ := formA h1
  obtain ⟨a2, c2, rfl⟩ := formA h2
  have HA := Lib.hid (And.intro h1 h2)
  clear h1 h2
  go_enter Tryd.func3, Tryd.ntmps3
  go_upto_region 1 with fail
  go_quiet (fail)
  go_wp2_with fail
  obtain ⟨n, hn, n1, n2⟩ : ∃ n : Nat, (1 + (r : Int) % 255) = n ∧ 1 ≤ n ∧ n ≤ 255 := ⟨1 + r % 255, by omega, by omega, by omega⟩
  rw [hn]
  obtain ⟨k, hk, k1⟩ : ∃ k : Nat, ((t : Int) % (n : Int)) = k ∧ k < n := ⟨t % n, (Int.natCast_emod t n).symm, Nat.mod_lt _ n1⟩
  rw [hk]
  have G1 : Grows w ((w.alloc (.cells #[.slice a1 xs.length c1, .slice a2 ys.length c2, .int .u8 r, .int .u8 t] 24)).drewN nq) := ((Ext.refl _ _).alloc _).trans (grows_drewN _ _)
  generalize ((w.alloc (.cells #[.slice a1 xs.length c1, .slice a2 ys.length c2, .int .u8 r, .int .u8 t] 24)).drewN nq) = w1 at G1 ⊢
  clear hn hk hr ht
  obtain ⟨cs, hcs⟩ : ∃ cs, coefsOf xs n k = cs := ⟨_, rfl⟩
  have hlen : cs.length = n := by rw [← hcs, coefsOf_length]
  have hlead : ¬ leadOf cs < 0 := by rw [← hcs]; exact coefsOf_lead xs n k k1
  refine (coefs_int _ _ _ _ _ (HA.out.1.grows G1) (by omega) (by omega) (by omega) (by omega)).mono ?_
  rintro e w2 hd
  obtain ⟨b1, hb1, rfl, hh1, C1, hg2⟩ := hd.out (m := n) (ys := cs) HA.out.1.2.1 (by omega) (by omega) (by omega) hcs
  have hd0 : decide (leadOf cs < 0) = false := by simp [hlead]
  have HL := Lib.hid (And.intro hlen hlead)
  clear hd hlen hlead hcs
  go_wp2_with (
    first
    | (go_at_call 5; refine (awake_true _).mono ?_; rintro e w3 ⟨rfl, hg3⟩; have C3 := C1.grows hg3)
    | (go_at_call 6; refine (isZero_any _ cs _ C3).mono ?_; rintro e w4 ⟨rfl, rfl⟩)
    | (at_builtin; refine wpList_append_src rfl (.tmp 51) (.tmp 52) 22 22 rfl 5 (.int .u8 0) 1 1 Tryd.underlying22 infoU8 rfl _ _ rfl rfl 0 [] (World.ownsRow_made (size := 1) w3 #[] 0 (e := 5) (Nat.zero_le _) (by unfold maxLen; omega) rfl) cs.length (cs.map (Value.int .u8)) ((C3.grows ((Ext.refl _ _).alloc _)).src (P := Tryd.prog) Tryd.underlying22) (by have := C3.2.2; unfold maxLen; omega) (by have := C3.2.2; omega) ?_; intro v5 w5 hown5 hgr5 hblk5; have S2 := (HA.out.2.grows (((G1.trans hg2).trans hg3).trans (made_grows hgr5))).src (P := Tryd.prog) Tryd.underlying22)
    | (at_builtin; refine wpList_append_src rfl (.tmp 53) (.tmp 54) 22 22 rfl 5 (.int .u8 0) 1 1 Tryd.underlying22 infoU8 rfl _ _ rfl rfl _ _ hown5 ys.length (ys.map (Value.int .u8)) S2 (by have := HL.out.1; have := HA.out.2.2.2; unfold maxLen; omega) (by have := HL.out.1; have := HA.out.2.2.2; omega) ?_; intro v6 w6 hown6 hgr6 hblk6))
  have hv5 := made_blk hblk5
  have G36 : Grows w3 w6 := (Ext.trans (Ext.lift (made_grows hgr5)) (Ext.of_grown (S := fun j => w3.heap.size ≤ j) hgr6 hv5)).mono (fun j hj hh => by omega)
  have L6 : Long w6 v6 (cs ++ ys) := Long.of_owns (by simpa using hown6) (fun x hx => (List.mem_append.1 hx).elim (C3.2.1 x) (HA.out.2.2.1 x))
  have GA : Grows w w6 := ((G1.trans hg2).trans hg3).trans G36
  have C6 := C3.grows G36
  have hh6 : w6.heap[b1]? = some (.cells (u8s cs) 5 (0, 0)) := ((hg3.trans G36).block b1 (heap_lt hh1.out) (fun h => h)).trans hh1.out
  have HC := Lib.hid (And.intro GA (And.intro C6 hh6))
  have hb6 := heap_lt hh6
  clear S2 hown5 hgr5 hblk5 hown6 hgr6 hblk6 hv5 G36 GA C6 hh6 C3 C1 hh1 hg2 hg3 G1
  have LL : ¬ leadOf cs < 0 := by have := HL.out.2; omega
  refine (coefs_long v6 (cs ++ ys) n k w6 L6 n1 n2 k1).mono ?_
  rintro e w7 ⟨b7, hb7, rfl, hh7, hg7⟩
  rw [coefsOf_behind cs ys n k HL.out.1 LL] at hh7
  have C7 : Bytes w7 (.slice (some ⟨b7, 0, none⟩) n n) cs := Bytes.of_heap hh7 HL.out.1.symm (Nat.le_refl _) (by unfold maxLen; omega) HC.out.2.1.2.1 (by have := HL.out.1; omega)
  have X7 := HC.out.2.1.grows hg7
  have hx7 := (hg7.block b1 hb6 (fun h => h)).trans HC.out.2.2
  have H7 := Lib.hid (And.intro (HC.out.1.trans hg7) (And.intro hx7 LL))
  clear L6 hh7 HC hb6 hg7 hx7 LL
  go_wp2_with (
    first
    | (go_at_call 7; refine (equal_any _ _ cs cs w7 X7 C7).mono ?_; rintro e w8 ⟨rfl, rfl⟩; rw [decide_eq_true (rfl : cs = cs)])
    | (go_at_call 8; refine (trim_n b1 n n cs _ HL.out.1 (Nat.le_refl _) (by unfold maxLen; omega) n1 (fun j hj => (cell_of_heap H7.out.2.1 j).trans (u8s_get cs j hj))).mono ?_; rintro e w9 ⟨q, hq, rfl, rfl, hz⟩; have HZ := Lib.hid hz; clear hz)
    | (go_at_call 4; refine (coefs_int _ (cs.take q) _ _ _ (X7.take q hq) (by omega) (by omega) (by omega) (by omega)).mono ?_; rintro e w10 hd; obtain ⟨b10, hb10, rfl, hh10, C10, hg10⟩ := hd.out (m := n) (ys := cs) (fun x hx => X7.2.1 x (List.mem_of_mem_take hx)) (by omega) (by omega) (by omega) (coefsOf_trim cs q n k HL.out.1 hq HZ.out (by have := H7.out.2.2; omega)); clear hd hh10)
    | (go_at_call 7; refine (equal_any _ _ cs cs _ (X7.grows hg10) C10).mono ?_; rintro e w11 ⟨rfl, rfl⟩; rw [decide_eq_true (rfl : cs = cs)]))
  go_ret
  exact ⟨rfl, Ext.to_below (H7.out.1.trans hg10)⟩

theorem cellsAll : Tryd.prog.cellsOf 24 = 4 := by kernel_rfl
set_option maxRecDepth 100000 in
theorem open_all {H : Type} {enc : TypeId × Value → H} {W : World} {base b' : Nat} {v : Value} {d : DataW H} {p : List MemPlace} {ts : List TypeId} {ds : List (DataW H)} {j : Nat}
    (hv : Value.okWide Tryd.prog W .any b' 24 v) (h : DataW.Trod enc Tryd.prog W base (fun _ => true) true 24 v d p)
    (hsz : (DataW.weightsEach Tryd.prog ts ds).all (· ≤ reachBytes) = true) (hj : ts[j]? = some 24) (hd : ds[j]? = some d) :
    ∃ (u1 u2 : Value) (xs ys : List Int) (r t : Nat), v = .agg #[u1, u2, .int .u8 r, .int .u8 t] ∧ Bytes W u1 xs ∧ Bytes W u2 ys ∧ r < 256 ∧ t < 256 := by
  obtain ⟨l, rfl, _⟩ := okWide_struct Tryd.underlying24 hv
  obtain ⟨hc, hf⟩ := (Rd.of_arg h hsz hj hd).fields Tryd.underlying24
  rw [cellsAll] at hc
  obtain ⟨l⟩ := l
  replace hc : l.length = 4 := hc
  obtain ⟨c0, c1, c2, c3, rfl⟩ : ∃ c0 c1 c2 c3, l = [c0, c1, c2, c3] := by
    match l, hc with
    | [c0, c1, c2, c3], _ => exact ⟨c0, c1, c2, c3, rfl⟩
  have f0 : Rd enc Tryd.prog W base 22 ((([c0, c1, c2, c3] : List Value).drop 0).take (Tryd.prog.cellsOf 22)) := hf 0 _ rfl
  have f1 : Rd enc Tryd.prog W base 22 ((([c0, c1, c2, c3] : List Value).drop 1).take (Tryd.prog.cellsOf 22)) := hf 1 _ rfl
  have f2 : Rd enc Tryd.prog W base 5 ((([c0, c1, c2, c3] : List Value).drop 2).take (Tryd.prog.cellsOf 5)) := hf 2 _ rfl
  have f3 : Rd enc Tryd.prog W base 5 ((([c0, c1, c2, c3] : List Value).drop 3).take (Tryd.prog.cellsOf 5)) := hf 3 _ rfl
  simp only [cellsU8, cellsBytes, List.drop_zero, List.drop_succ_cons, List.take_succ_cons, List.take_zero] at f0 f1 f2 f3
  obtain ⟨xs, hx⟩ := f0.bytes
  obtain ⟨ys, hy⟩ := f1.bytes
  obtain ⟨x2, h2, w2⟩ := f2.int Tryd.underlying5
  obtain ⟨x3, h3, w3⟩ := f3.int Tryd.underlying5
  simp only [List.cons.injEq, and_true] at h2 h3
  subst h2 h3
  have b2 := wf_u8' w2
  have b3 := wf_u8' w3
  obtain ⟨r, rfl⟩ := Int.eq_ofNat_of_zero_le b2.1
  obtain ⟨t, rfl⟩ := Int.eq_ofNat_of_zero_le b3.1
  exact ⟨c0, c1, xs, ys, r, t, rfl, hx, hy, by omega, by omega⟩

namespace DrawAllShell
theorem own : ownKnob Tryd.prog.godebug = none := by kernel_rfl
theorem laidOut : laidOutB Tryd.prog = true := by kernel_rfl
/-- A variable's block, filled. -/
def fillTab (l : List Nat) : Obj → Obj
  | .cells _ t frozen => .cells (l.map fun (n : Nat) => Value.int .u8 n).toArray t frozen
  | o => o
/-- A world for the witness: the settled one, the two tables holding what is listed. -/
noncomputable def laidWorld (os : Os) : World :=
  { World.holding Tryd.prog os ⟨#[], #[], []⟩ with heap := ((World.holding Tryd.prog os ⟨#[], #[], []⟩).heap.modify 0 (fillTab Go.Pinned.utf8FirstZ)).modify 1 (fillTab [128, 191, 160, 191, 128, 159, 144, 191, 128, 143, 0, 0, 0, 0, 0, 0, 0, 0, 0, 0, 0, 0, 0, 0, 0, 0, 0, 0, 0, 0, 0, 0]) }
abbrev arg : Value := .agg #[.slice none 0 0, .slice none 0 0, .int .u8 0, .int .u8 0]
set_option maxRecDepth 100000 in
theorem laid_met (os : Os) : laidMet Tryd.prog Rows.drawAllRow.laid ((laidWorld os).forCall (fun _ _ => 0) ⟨#[], #[arg], []⟩).memory :=
  laidMet_of_run' 8 (by kernel_rfl) (by kernel_rfl)
theorem reads (os : Os) {H : Type} (enc : TypeId × Value → H) : ∃ places, DataW.whole enc Tryd.prog ((laidWorld os).forCall (fun _ _ => 0) ⟨#[], #[arg], []⟩).memory Tryd.f3.params.toList Rows.drawAllSpec.vars false #[arg].toList 8 = some ([.agg [.nil, .nil, .lit (.int .u8 0), .lit (.int .u8 0)]], [], places) :=
  ⟨[], by kernel_rfl⟩
set_option maxRecDepth 100000 in
theorem lifted (os : Os) (started : os.Started) (H : Type) (enc : TypeId × Value → H) (F : Stop.Interp) :
    ReturnsInHanded {} Tryd.checked os 3 .any ((OpenSpec.ofChange Rows.drawAllSpec).preRow enc Tryd.prog Tryd.f3 Rows.drawAllRow.domain false Rows.drawAllRow.laid) (((OpenSpec.ofChange Rows.drawAllSpec).at F).post enc Tryd.prog Tryd.f3 false true false false) := by
  obtain ⟨places, hx⟩ := reads os enc
  refine returnsInHanded_of_row (C := Tryd.checked) (s := OpenSpec.ofChange Rows.drawAllSpec) own started (by kernel_rfl) Tryd.func3
    (witness_row_at (enc := enc) (C := Tryd.checked) false (laidWorld os) #[arg] rfl (by kernel_rfl) (by kernel_rfl) (by kernel_rfl)
      (OpenSpec.preRow_of_cond 8 hx (by kernel_rfl) (fun k hk => by cases hk) (by kernel_rfl) (laid_met os))) ?_
  intro W base args ds gs before hval0 hW _ _ hsz0 _ _ _
  have hval : ∀ (j : Nat) t v, Tryd.f3.params[j]? = some t → args[j]? = some v → Value.okWide Tryd.prog W .any base t v := hval0
  have hsz : (DataW.weightsEach Tryd.prog (Tryd.f3.params.toList ++ Rows.drawAllSpec.plain.varTypes Tryd.prog) (ds ++ gs)).all (· ≤ reachBytes) = true := hsz0
  have hW' := hW
  obtain ⟨p, q, hA0, hV, rfl, hfz, hnd⟩ := hW
  have hA : DataW.TrodAll enc Tryd.prog W 0 (fun _ => true) true Tryd.f3.params.toList args.toList ds p := hA0
  rw [Tryd.params3] at hA hval hsz
  obtain ⟨v0, vs0, d0, ds0, p0, q0, hargs, rfl, rfl, h0, r0⟩ := trodAll_cons hA
  obtain ⟨rfl, rfl, rfl⟩ := trodAll_nil r0
  obtain rfl : args = #[v0] := by cases args; simp_all
  obtain ⟨rfl, rfl⟩ := trodVars_none hV
  have k0 := h0
  have lt0 : ∀ x ∈ p0, x.block < W.heap.size := by obtain ⟨m, hm⟩ := k0; exact DataW.trod_lt m _ _ _ hm
  obtain ⟨u1, u2, xs, ys, r, t, rfl, w1, w2, w3, w4⟩ := open_all (hval 0 24 v0 rfl rfl) h0 hsz (j := 0) rfl rfl
  clear hA0 hval0 hsz0
  refine (DrawAll_walk u1 u2 xs ys r t W w1 w2 w3 w4).mono fun e W' ⟨he, bel⟩ => ?_
  subst he
  exact ⟨_, rfl, _, _, _, [], _, [], hW', trodAll_mk1 (shut_bool Tryd.underlying4 _), (trodAll_cons_mk (Below.trod laidOut (by kernel_rfl) (of_decide_eq_true (by kernel_rfl)) k0 bel lt0) trodAll_mk0), rfl, bel.frame _, fun h => by cases h⟩
theorem said : Rows.DrawAllSaid :=
  OpenClaim.holds_of_cond 3 Tryd.f3 rfl rfl rfl rfl rfl rfl rfl ⟨rfl, rfl, rfl, rfl, rfl⟩ rfl rfl rfl rfl rfl (by kernel_rfl) Tryd.func3 (by kernel_rfl)
    (of_decide_eq_true (by kernel_rfl)) (by unfold Func.isWrapper; first | (rw [if_pos (by decide +kernel)]; kernel_rfl) | (rw [if_neg (by decide +kernel)]; exact ⟨rfl, rfl⟩))
    (fun os started H enc _ F => by rw [OpenClaim.pre_eq_preRow]; exact lifted os started H enc F)
/-- No parameter wants a stand-in; the program's own looks are off. -/
theorem plain (f : FuncId) (fn : Func) (hf : Tryd.pinned.checked.prog.funcNamed "braidwork/braidworklaw11.DrawAll" = some f) (hfn : Tryd.pinned.checked.prog.funcs[f]? = some fn) :
    false = Tryd.pinned.checked.prog.looks [] ∧ ∀ (j : Nat) t, fn.params[j]? = some t → Tryd.pinned.checked.prog.wantsStandIn t = false := by
  obtain rfl : f = 3 := Option.some.inj ((show Tryd.prog.funcNamed "braidwork/braidworklaw11.DrawAll" = some 3 by kernel_rfl).symm.trans hf) |>.symm
  obtain rfl : fn = Tryd.f3 := (Option.some.inj (Tryd.func3.symm.trans hfn)).symm
  refine ⟨by kernel_rfl, fun j t ht => ?_⟩
  rw [Tryd.params3] at ht
  obtain rfl : t = 24 := by simpa using Array.mem_of_getElem? ht
  exact (show Tryd.prog.wantsStandIn 24 = false by kernel_rfl)
end DrawAllShell
theorem DrawAll_holds : Rows.DrawAllCardSaid :=
  Claim7.holds_tied_plain_at .later [] _ _ _ _ DrawAllShell.said (fun _ h => by cases h) (by kernel_rfl) (fun _ h => by cases h) drawAll_row_tie rfl ⟨rfl, rfl⟩ (by kernel_rfl) rfl DrawAllShell.plain (by kernel_rfl)
#print axioms DrawAll_holds
end Go.Proofs.YtiokikiombhcnaaDoor
