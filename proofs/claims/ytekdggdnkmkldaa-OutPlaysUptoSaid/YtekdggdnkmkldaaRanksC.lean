/- ranks: Take. -/
import Derived.Test.YtekdggdnkmkldaaRanksB
import Derived.BigQuiet
namespace Go.Proofs.Ytekdggdnkmkldaa
set_option linter.unusedVariables false
set_option linter.unusedSimpArgs false
set_option maxRecDepth 1500
open Go.ChangeShapes Go.WideShapes Go.ChangeAt Go.RowKit


theorem quiet_same_r {P : Program} {f : FuncId} {args : Array Value} {w : World} {n : Nat} {v : Value} (h : Calls P f args (w.drewN n) fun e w' => e = .returned v ∧ w.drewN n = w') :
    Calls P f args (w.drewN n) fun e w'' => e = .returned v ∧ ∃ m, w'' = w.drewN m :=
  h.mono fun _ _ ⟨he, hm⟩ => ⟨he, n, hm.symm⟩
theorem Ext.drewN_r {S : Nat → Prop} {w : World} (n : Nat) : Ext S w (w.drewN n) := ⟨rfl, rfl, rfl, Nat.le_refl _, fun _ _ _ => rfl⟩

theorem mayL_mem {fin : Nat} : ∀ (l : List RankA) (n : Nat), mayL fin n l = true → (∀ r ∈ l, n ≤ r.gen ∧ r.gen < fin ∧ 1 ≤ r.rank ∧ r.rank ≤ 255) ∧ n + l.length ≤ max n fin
  | [], n, _ => ⟨fun r hr => by simp at hr, by simp; omega⟩
  | r :: rest, n, h => by
    rw [mayL, Bool.and_eq_true] at h
    have h1 := of_decide_eq_true h.1
    obtain ⟨h2, h3⟩ := mayL_mem rest (r.gen + 1) h.2
    refine ⟨fun x hx => ?_, by rw [List.length_cons]; omega⟩
    rcases List.mem_cons.1 hx with rfl | hx
    · exact h1
    · have := h2 x hx
      omega

/-- What Take keeps of what comes. -/
def kept (l : List RankA) : List RankV := l.map fun r => ⟨r.gen, r.rank.toNat⟩
theorem kept_length (l : List RankA) : (kept l).length = l.length := by simp [kept]

theorem pcells_step (l : List RankA) (j : Nat) (hj : j < l.length) (g x : Nat) (h : l[j].gen = g ∧ l[j].rank.toNat = x) : pcells ((kept l).take (j + 1)) = pcells ((kept l).take j) ++ [.complex .f64 (fl g) (fl x)] := by
  have hl : j < (kept l).length := by rw [kept_length]; exact hj
  rw [List.take_succ_eq_append_getElem hl, pcells, pcells, List.map_append]
  congr 1
  simp [kept, h.1, h.2]
theorem run_store_complex_r (P : Program) (w : World) (a : Addr) (m : Mode) (k : FloatKind) (x y : Nat) : (store a (.complex k x y) m).run P w = stored P w a (.complex k x y) m := run_store P w a _ m rfl
attribute [local go_sem] run_store_complex_r

theorem Ext.setT_r {t : Nat} {a w : World} (h : Ext (fun k => k = t) a w) (i : Nat) (u : Value) : Ext (fun k => k = t) a (w.setCell ⟨t, i, none⟩ u) := Ext.setCell (S := fun k => k = t) h ⟨t, i, none⟩ (Or.inr rfl) u
theorem infoPair : (Try.prog.info? 140).map (fun i => (i.zero, i.size, i.bytes)) = some (some (.complex .f64 0 0), 1, 16) := by kernel_rfl

theorem told_take_arg {w : World} {t : Nat} {S : Nat → Prop} {life0 count0 base0 : Nat} {l0 : List RankV} (h : ToldAt w t S life0 count0 base0 l0) (life count base : Nat) (v : Value) (l : List RankA) (hr : Rs w v l) (hbb : base < 18446744073709551616) (hm : mayB life count base l = false) :
    Calls Try.prog 40 #[.pointer (some ⟨t, 0, none⟩), .int .u64 life, .int .u64 count, .int .u64 base, v] w fun e w' => e = .returned (.int .i64 1) ∧ Grows w w' := by
  have hn := told_none h
  have h2 := rmay_any life count base v l w hr hbb
  rw [hm] at h2
  clear hbb h hr hm
  go_enter Try.func40, Try.ntmps40
  go_wp2_with fail
  refine hn.mono ?_
  rintro e w9 ⟨rfl, rfl⟩
  go_wp2_with fail
  refine h2.mono ?_
  rintro e w9 ⟨rfl, hg⟩
  go_wp2
  go_ret
  exact ⟨rfl, hg⟩

theorem told_take_old {w : World} {t : Nat} {S : Nat → Prop} {life0 count0 base0 : Nat} {l0 : List RankV} (h : ToldAt w t S life0 count0 base0 l0) (life count base : Nat) (v : Value) (l : List RankA) (hr : Rs w v l) (hbb : base < 18446744073709551616) (hm : mayB life count base l = true) (hl : life ≤ MostC) (hc : count ≤ MostC) (hb : laterB life count life0 count0 = false) :
    Calls Try.prog 40 #[.pointer (some ⟨t, 0, none⟩), .int .u64 life, .int .u64 count, .int .u64 base, v] w fun e w' => e = .returned (.int .i64 22) ∧ Grows w w' := by
  have hn := told_none h
  have h2 := rmay_any life count base v l w hr hbb
  rw [hm] at h2
  have hlat := fun w => later_any life count life0 count0 hl hc h.b1 h.b2 w
  rw [hb] at hlat
  have HT := Lib.hid h
  clear hbb h hr hm hl hc hb
  go_enter Try.func40, Try.ntmps40
  go_wp2_with fail
  refine hn.mono ?_
  rintro e w9 ⟨rfl, rfl⟩
  go_wp2_with fail
  refine h2.mono ?_
  rintro e w1 ⟨rfl, hg⟩
  obtain ⟨ty, vs, hh, _⟩ := (HT.out.ext hg (fun _ _ h => h)).blk
  have c1 := cell_of_heap hh 1
  simp at c1
  go_wp2_with fail
  go_quiet (first
    | (go_at_call 76; exact quiet_same_r (rof_any life count _))
    | (go_at_call 77; exact quiet_same_r (hlat _)))
  go_wp2
  go_ret
  exact ⟨rfl, hg.trans (Ext.drewN_r _)⟩

set_option maxHeartbeats 4000000 in
theorem told_take_ok {w : World} {t : Nat} {S : Nat → Prop} {life0 count0 base0 : Nat} {l0 : List RankV} (h : ToldAt w t S life0 count0 base0 l0) (life count base : Nat) (v : Value) (l : List RankA) (hr : Rs w v l) (hbb : base < 18446744073709551616) (hm : mayB life count base l = true) (hl : life ≤ MostC) (hc : count ≤ MostC) (hb : laterB life count life0 count0 = true) :
    Calls Try.prog 40 #[.pointer (some ⟨t, 0, none⟩), .int .u64 life, .int .u64 count, .int .u64 base, v] w fun e w' => e = .returned (.int .i64 0) ∧
      ToldAt w' t (fun k => S k ∨ w.heap.size ≤ k) life count base (kept l) ∧ Ext (fun k => k = t) w w' := by
  have hn := told_none h
  have h2 := rmay_any life count base v l w hr hbb
  rw [hm] at h2
  have hlat := fun w => later_any life count life0 count0 hl hc h.b1 h.b2 w
  rw [hb] at hlat
  have HT := Lib.hid h
  have hbase : base ≤ MostG ∧ mayL (finOf base) base l = true := by
    rw [mayB] at hm
    simp only [Bool.and_eq_true, decide_eq_true_eq] at hm
    exact ⟨hm.2.1, hm.2.2⟩
  have hpos : 1 ≤ life := by
    rw [mayB] at hm
    simp only [Bool.and_eq_true, decide_eq_true_eq] at hm
    exact hm.1.1.1
  have HP := Lib.hid hpos
  clear hpos
  have hmem := mayL_mem l base hbase.2
  have h16 : l.length ≤ 16 := by have := hmem.2; simp only [finOf] at this; omega
  have HM := Lib.hid (And.intro hmem.1 (And.intro hbase.1 (And.intro hl hc)))
  obtain ⟨va, vc, rfl⟩ := hr.form
  have NS := Lib.hid hr
  clear hbb h hr hm hl hc hb hmem hbase
  go_enter Try.func40, Try.ntmps40
  go_wp2_with fail
  refine hn.mono ?_
  rintro e w9 ⟨rfl, rfl⟩
  go_wp2_with fail
  refine h2.mono ?_
  rintro e w1 ⟨rfl, hg⟩
  obtain ⟨ty, vs, hh, _⟩ := (HT.out.ext hg (fun _ _ h => h)).blk
  have c1 := cell_of_heap hh 1
  simp at c1
  go_wp2_with fail
  go_quiet (first
    | (go_at_call 76; exact quiet_same_r (rof_any life count _))
    | (go_at_call 77; exact quiet_same_r (hlat _)))
  have HG1 := Lib.hid hg
  clear hg hh c1
  go_wp2
  have HGW := Lib.hid ((HG1.out.trans (Ext.drewN_r nq) : Grows w (w1.drewN nq)))
  clear HG1
  generalize w1.drewN nq = w2 at HGW ⊢
  go_loopg [36, 11] l.length (fun k i x wr => ∃ j : Nat, k = l.length - j ∧ j ≤ l.length ∧ i = .int .i64 (j : Nat) ∧ OwnS wr 140 1 x j (pcells ((kept l).take j)) ∧ Grows w wr ∧ ∀ b, x.ownBlock = some b → w.heap.size ≤ b)
  case atStart => exact ⟨0, by omega, by omega, rfl, OwnS.nil _ _ _, HGW.out, fun b hb => by simp [Value.ownBlock] at hb⟩
  case round =>
    obtain ⟨j, hk, hj, rfl, ho, hg, hf⟩ := hrel
    have HK := Lib.hid hk
    have HG := Lib.hid hg
    have HO := Lib.hid (And.intro ho hf)
    clear hk hg ho hf HGW
    by_cases hlt : j < l.length
    · obtain ⟨b, off, cap, e, hbl, hc0, hc1, hok⟩ := NS.out.at j hlt
      injection e with e1 e2 e3
      subst e1 e3
      clear e2
      have c0 := (HG.out.cell hbl (fun h => h)).trans hc0
      have c1 := (HG.out.cell hbl (fun h => h)).trans hc1
      have j1 : (0 : Int) ≤ (j : Int) := by omega
      have j2 : (j : Int) < (l.length : Int) := by omega
      have hx := HM.out.1 l[j] (List.getElem_mem _)
      obtain ⟨g, hgg⟩ : ∃ g, l[j].gen = g := ⟨_, rfl⟩
      obtain ⟨x, hxx⟩ : ∃ x, l[j].rank.toNat = x := ⟨_, rfl⟩
      have hxx' : l[j].rank = (x : Int) := by omega
      have hx1 : (x : Int) ≤ 255 := by omega
      rw [hgg] at c0
      rw [hxx'] at c1
      have HX := Lib.hid (And.intro hgg hxx)
      clear hbl hc0 hc1 hok hgg hxx hxx' hx
      obtain ⟨ua, uc, rfl⟩ := OwnS.form HO.out.1
      go_wp2_with fail
      refine (rof_any g x _).mono ?_
      rintro e w9 ⟨rfl, rfl⟩
      have hwa : Grows wr (wr.alloc (.cells #[.int .u64 g, .int .i64 x] 62)) := (Ext.refl _ _).alloc _
      generalize wr.alloc (.cells #[.int .u64 g, .int .i64 x] 62) = wa at hwa ⊢
      have own5 := (HO.out.1.grows hwa).grows ((Ext.refl (fun _ => False) wa).alloc (.cells #[.complex .f64 (fl g) (fl x)] 140))
      have HW := Lib.hid ((HG.out.trans hwa).alloc (.cells #[.complex .f64 (fl g) (fl x)] 140))
      clear hwa
      go_wp2_with (at_builtin; refine wpList_append_ownS rfl (.tmp 40) (.tmp 47) 141 141 rfl 140 (.complex .f64 0 0) 1 16 Try.underlying141 infoPair rfl _ _ rfl rfl j (pcells ((kept l).take j)) own5 1 [.complex .f64 (fl g) (fl x)] (src_one Try.underlying141 (heap_alloc_new wa _) rfl) (by unfold maxLen; omega) (by omega) ?_)
      intro v' w6 hown6 hgr6 hblk6
      have A := Lib.hid (And.intro hown6 (And.intro hgr6 hblk6))
      clear own5 hown6 hgr6 hblk6
      go_wp2
      go_roundg (l.length - (j + 1))
      case measure => have := HK.out; omega
      case rel =>
        obtain ⟨a1, a2, a3⟩ := A.out
        have hsz := HW.out.size
        refine ⟨j + 1, rfl, by omega, by go_num, ?_, ?_, fun b hb => ?_⟩
        · rw [pcells_step l j hlt g x HX.out]; exact a1
        · exact (HW.out.lift.trans (Ext.of_grown (S := fun k => (Value.slice ua j uc).ownBlock = some k) a2 (fun _ hk => hk))).mono (fun k hk hh => by have := HO.out.2 k hh; omega)
        · rcases a3 with a3 | a3
          · exact HO.out.2 b (a3 ▸ hb)
          · rw [a3] at hb; have hb' := Option.some.inj hb; rw [← hb']; simpa using hsz
    · have j2 : ¬ (j : Int) < (l.length : Int) := by omega
      obtain rfl : j = l.length := by omega
      obtain ⟨ua, uc, rfl⟩ := OwnS.form HO.out.1
      have hT := HT.out.ext HG.out (fun _ _ h => h)
      have hb45 := And.intro HT.out.b4 HT.out.b5
      obtain ⟨ty, vs, hh, hvo, hvb⟩ := hT.blk
      have c0 := cell_of_heap hh 0
      have c1 := cell_of_heap hh 1
      have c2 := cell_of_heap hh 2
      have c3 := cell_of_heap hh 3
      have f0 := frozen_of_heap hh 0
      have f1 := frozen_of_heap hh 1
      have f2 := frozen_of_heap hh 2
      have f3 := frozen_of_heap hh 3
      simp at c0 c1 c2 c3
      have HH := Lib.hid hh
      clear hh hvo hvb hT hb45
      go_wp2_with fail
      refine (rof_any life count _).mono ?_
      rintro e w9 ⟨rfl, rfl⟩
      go_wp2
      go_ret
      have htl := HT.out.lt
      have k4 := setCell_heap (setCell_heap (setCell_heap (setCell_heap HH.out 0 (.bool true)) 1 (.complex .f64 (fl life) (fl count))) 2 (.int .u64 (base : Int))) 3 (.slice ua l.length uc)
      have e4 : Ext (fun k => k = t) wr ((((wr.setCell ⟨t, 0, none⟩ (.bool true)).setCell ⟨t, 1, none⟩ (.complex .f64 (fl life) (fl count))).setCell ⟨t, 2, none⟩ (.int .u64 (base : Int))).setCell ⟨t, 3, none⟩ (.slice ua l.length uc)) :=
        ((((Ext.refl _ _).setT_r 0 _).setT_r 1 _).setT_r 2 _).setT_r 3 _
      refine ⟨rfl, ⟨⟨ty, .slice ua l.length uc, by simpa using k4, ?_, fun b hb => ?_⟩, .inl HT.out.own, HM.out.2.2.1, HM.out.2.2.2, HM.out.2.1, by rw [kept_length]; exact h16, fun r hr => ?_, fun h0 => by have := HP.out; omega⟩, HG.out.lift.trans e4⟩
      · have := HO.out.1.ext e4 (fun b hb he => by have := HO.out.2 b hb; omega)
        rw [kept_length]
        rwa [List.take_of_length_le (by rw [kept_length]; exact Nat.le_refl _)] at this
      · have := HO.out.2 b hb
        exact ⟨.inr this, by omega⟩
      · simp only [kept, List.mem_map] at hr
        obtain ⟨a, ha, rfl⟩ := hr
        have := HM.out.1 a ha
        simp only [finOf] at this
        simp only
        omega

end Go.Proofs.Ytekdggdnkmkldaa
