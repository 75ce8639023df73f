/- sched: slices.Compact at a list in order. -/
import Derived.Test.YtlejdhgchanilaaSchedB
import Derived.Deep.DeepCutAuto
namespace Go.Proofs.Ytlejdhgchanilaa
set_option linter.unusedVariables false
set_option linter.unusedSimpArgs false
open Go.RowKit Go.Sort Go.Lib

/-- In order, equals beside each other. -/
def Weak (d : List PlaceV) : Prop := d.Pairwise (fun a b => ¬ ltP b a)
theorem weak_snoc {d : List PlaceV} (hd : Weak d) {c : List PlaceV} (hc : Sorted c) {p : Nat} (hp : p + 1 < d.length) (hm : ∀ x, x ∈ c ↔ x ∈ d.take (p + 1)) (hne : ¬ d[p + 1] = d[p]) : Sorted (c ++ [d[p + 1]]) := by
  refine List.pairwise_append.2 ⟨hc, by simp, fun x hx y hy => ?_⟩
  simp only [List.mem_singleton] at hy
  subst hy
  have hx' := (hm x).1 hx
  obtain ⟨i, hi, rfl⟩ := List.getElem_of_mem hx'
  rw [List.length_take] at hi
  rw [List.getElem_take]
  have h1 : ¬ ltP d[p + 1] d[p] := List.pairwise_iff_getElem.1 hd p (p + 1) (by omega) hp (by omega)
  have h2 : ltP d[p] d[p + 1] := by
    rcases ltP_total d[p] d[p + 1] with h | h | h
    · exact h
    · exact absurd h.symm hne
    · exact absurd h h1
  by_cases e : i = p
  · subst e; exact h2
  · have h3 : ¬ ltP d[p] d[i] := List.pairwise_iff_getElem.1 hd i p (by omega) (by omega) (by omega)
    rcases ltP_total d[i] d[p] with h | h | h
    · exact ltP_trans h h2
    · rw [h]; exact h2
    · exact absurd h h3
theorem mem_take_succ {d : List PlaceV} {p : Nat} (hp : p < d.length) (x : PlaceV) : x ∈ d.take (p + 1) ↔ x ∈ d.take p ∨ x = d[p] := by
  have e : d.take (p + 1) = d.take p ++ [d[p]] := List.take_succ_eq_append_getElem hp
  rw [e, List.mem_append, List.mem_singleton]

theorem take_set_succ {α : Type} : ∀ (l : List α) (m : Nat) (x : α), m < l.length → (l.set m x).take (m + 1) = l.take m ++ [x]
  | a :: r, 0, x, _ => by simp
  | a :: r, m + 1, x, h => by
    have := take_set_succ r m x (by simpa using h)
    simp only [List.set_cons_succ, List.take_succ_cons, List.cons_append, this]
theorem eqGuardP : Try.prog.eqGuardType Try.prog.depth 28 = false := by kernel_rfl
theorem zeroP (w : World) : (zeroValue 28).run Try.prog w = .ok (.agg #[.int .i64 0, .int .u64 0]) w := by kernel_rfl

/-- What Compact leaves. -/
def Compacted (w : World) (v : Value) (d : List PlaceV) (v' : Value) (w' : World) : Prop := ∃ R, OwnP w' v' R ∧ Sorted R ∧ (∀ x, x ∈ R ↔ x ∈ d) ∧ Ext (fun k => v.ownBlock = some k) w w' ∧ v'.ownBlock = v.ownBlock

set_option maxHeartbeats 16000000 in
theorem compact_any (v : Value) (d : List PlaceV) (w : World) (h : OwnP w v d) (hd : Weak d) (hl : d.length ≤ 2097152) :
    Calls Try.prog 19 #[v] w fun e w' => ∃ v', e = .returned v' ∧ Compacted w v d v' w' := by
  obtain ⟨va, vc, rfl⟩ := OwnS.form h
  have HO := Lib.hid (And.intro h hd)
  clear h hd
  have hgd := eqGuardP
  by_cases h2 : d.length < 2
  · have i2 : (d.length : Int) < 2 := by omega
    go_enter Try.func19, Try.ntmps19
    go_wp2
    go_ret
    refine ⟨_, rfl, d, HO.out.1, ?_, fun x => Iff.rfl, Ext.refl _ _, rfl⟩
    match d, h2 with
    | [], _ => exact List.Pairwise.nil
    | [a], _ => exact List.pairwise_singleton _ _
  · have i2 : ¬ (d.length : Int) < 2 := by omega
    go_enter Try.func19, Try.ntmps19
    go_wp2
    go_loopg [3] (d.length - 1) (fun gk c wr => ∃ k : Nat, gk = d.length - (k + 1) ∧ k + 1 ≤ d.length ∧ c = .int .i64 ((k + 1 : Nat) : Int) ∧ Grows w wr ∧ Sorted (d.take (k + 1)))
    case atStart => exact ⟨0, by omega, by omega, rfl, Ext.refl _ _, by
      match d, h2 with
      | a :: r, _ => exact List.pairwise_singleton _ _⟩
    case round =>
      obtain ⟨k, hgk, hk, rfl, hg, hs⟩ := hrel
      have HK := Lib.hid (And.intro hgk (And.intro hg hs))
      clear hgk hg hs
      by_cases hlt : k + 1 < d.length
      · obtain ⟨g, off, cap, e, hgl, ⟨c0, c1⟩, _⟩ := (HO.out.1.grows HK.out.2.1).at (k + 1) hlt
        injection e with e1 e2 e3
        subst e1 e3
        clear e2
        obtain ⟨g', off', cap', e, _, ⟨d0, d1⟩, _⟩ := (HO.out.1.grows HK.out.2.1).at k (by omega)
        injection e with e1 e2 e3
        injection e1 with e1
        injection e1 with e4 e5 e6
        subst e4 e5 e3
        clear e2
        obtain ⟨a, ha⟩ : ∃ a, d[k + 1] = a := ⟨_, rfl⟩
        obtain ⟨b, hb⟩ : ∃ b, d[k] = b := ⟨_, rfl⟩
        rw [ha] at c0 c1
        rw [hb] at d0 d1
        have HA := Lib.hid (And.intro ha hb)
        have heq := eqS a b
        have k0 : (0 : Int) ≤ (k : Int) := by omega
        have k1 : (k : Int) + 1 < (d.length : Int) := by omega
        have k2 : (k : Int) < (d.length : Int) := by omega
        have k3 : IntKind.i64.wrap ((k : Int) + 1 - 1) = (k : Int) := by rw [IntKind.wrap_i64]; omega
        have k4 : (0 : Int) ≤ (k : Int) + 1 := by omega
        by_cases hab : a = b
        · rw [show decide (a = b) = true by simp [hab]] at heq
          have hcap := HO.out.1.cap
          have i3 : (k : Int) + 1 ≤ (vc : Int) := by omega
          have i4 : ¬ vc = k + 1 := by omega
          have i5 : (k : Int) + 1 < (vc : Int) := by omega
          have i6 : (d.length : Int) ≤ (vc : Int) := by omega
          have i7 : (k : Int) + 1 ≤ (d.length : Int) := by omega
          have HAB := Lib.hid hab
          clear ha hb hab
          go_upto_region 6 with fail
          go_quiet (fail)
          clear c0 c1 d0 d1 heq k0 k1 k2 k3
          go_wp2
          have HG := Lib.hid (show Grows w (wr.drewN nq) from HK.out.2.1.trans ⟨rfl, rfl, rfl, Nat.le_refl _, fun _ _ _ => rfl⟩)
          generalize wr.drewN nq = w2 at HG ⊢
          clear i3 i4 i5 k4
          go_loopg [3, 5] (d.length - (k + 1) - 1) (fun gj c3 c5 wx => ∃ (j m : Nat) (e : List PlaceV), gj = d.length - (k + 1) - (j + 1) ∧ k + 1 + (j + 1) ≤ d.length ∧ c5 = .int .i64 ((j + 1 : Nat) : Int) ∧ c3 = .int .i64 ((m : Nat) : Int) ∧ 1 ≤ m ∧ m ≤ k + 1 + j ∧ e.length = d.length ∧ OwnP wx (.slice (some ⟨g, off, none⟩) d.length vc) e ∧ Sorted (e.take m) ∧ (∀ x, x ∈ e.take m ↔ x ∈ d.take (k + 1 + (j + 1))) ∧ (∀ i, k + 1 + j ≤ i → e[i]? = d[i]?) ∧ Ext (fun b => b = g) w wx)
          case atStart =>
            refine ⟨0, k + 1, d, by omega, by omega, rfl, by simp, by omega, by omega, rfl, HO.out.1.grows HG.out, HK.out.2.2, fun x => ?_, fun _ _ => rfl, HG.out.lift⟩
            rw [mem_take_succ hlt x]
            refine ⟨.inl, fun hx => ?_⟩
            rcases hx with hx | rfl
            · exact hx
            · rw [HA.out.1, HAB.out, ← HA.out.2]
              exact List.mem_take_iff_getElem.2 ⟨k, by omega, rfl⟩
          case round =>
            obtain ⟨j, m, e, hgj, hj, rfl, rfl, hm1, hm2, hel, hoe, hse, hme, hie, hex⟩ := hrel
            have HJ := Lib.hid (And.intro hgj (And.intro hoe (And.intro hse (And.intro hme (And.intro hie hex)))))
            clear hgj hoe hse hme hie hex
            have j0 : (0 : Int) ≤ (j : Int) := by omega
            have j4 : (0 : Int) ≤ (j : Int) + 1 := by omega
            by_cases hjl : k + 1 + (j + 1) < d.length
            · have j1 : (j : Int) + 1 < ((d.length - (k + 1) : Nat) : Int) := by omega
              have j2 : (j : Int) < ((d.length - (k + 1) : Nat) : Int) := by omega
              have j3 : IntKind.i64.wrap ((j : Int) + 1 - 1) = (j : Int) := by rw [IntKind.wrap_i64]; omega
              obtain ⟨x, hx⟩ : ∃ x, d[k + 1 + (j + 1)] = x := ⟨_, rfl⟩
              obtain ⟨y, hy⟩ : ∃ y, d[k + 1 + j] = y := ⟨_, rfl⟩
              have ex : e[k + 1 + (j + 1)] = x := by
                have h9 := HJ.out.2.2.2.2.1 (k + 1 + (j + 1)) (by omega)
                rw [List.getElem?_eq_getElem (by omega), List.getElem?_eq_getElem hjl, hx] at h9
                exact Option.some.inj h9
              have ey : e[k + 1 + j] = y := by
                have h9 := HJ.out.2.2.2.2.1 (k + 1 + j) (by omega)
                rw [List.getElem?_eq_getElem (by omega), List.getElem?_eq_getElem (by omega), hy] at h9
                exact Option.some.inj h9
              obtain ⟨g', off', cap', e', _, ⟨c0, c1⟩, _⟩ := HJ.out.2.1.at (k + 1 + (j + 1)) (by omega)
              injection e' with e1 e2 e3
              injection e1 with e1
              injection e1 with e4 e5 e6'
              subst e4 e5 e3
              clear e2
              obtain ⟨g', off', cap', e', _, ⟨d0, d1⟩, _⟩ := HJ.out.2.1.at (k + 1 + j) (by omega)
              injection e' with e1 e2 e3
              injection e1 with e1
              injection e1 with e4 e5 e6''
              subst e4 e5 e3
              clear e2
              rw [ex] at c0 c1
              rw [ey] at d0 d1
              rw [show off + (k + 1 + (j + 1)) * 2 = off + (k + 1) * 2 + (j + 1) * 2 by omega] at c0 c1
              rw [show off + (k + 1 + j) * 2 = off + (k + 1) * 2 + j * 2 by omega] at d0 d1
              have hne := neS x y
              have HX := Lib.hid (And.intro hx (And.intro hy (And.intro ex ey)))
              by_cases hxy : x = y
              · rw [show (!decide (x = y)) = false by simp [hxy]] at hne
                have HXY := Lib.hid hxy
                clear hx hy ex ey hxy
                go_upto_region 11 with fail
                go_quiet (fail)
                clear c0 c1 d0 d1 hne
                go_wp2
                go_roundg (d.length - (k + 1) - (j + 1 + 1))
                case measure => have := HJ.out.1; omega
                case rel =>
                  have gd : Grows wr (wr.drewN nq) := ⟨rfl, rfl, rfl, Nat.le_refl _, fun _ _ _ => rfl⟩
                  refine ⟨j + 1, m, e, rfl, by omega, by go_num, rfl, hm1, by omega, hel, HJ.out.2.1.grows gd, HJ.out.2.2.1, fun z => ?_, fun i hi => HJ.out.2.2.2.2.1 i (by omega), HJ.out.2.2.2.2.2.trans gd.lift⟩
                  rw [HJ.out.2.2.2.1 z, show k + 1 + (j + 1 + 1) = (k + 1 + (j + 1)) + 1 by omega, mem_take_succ hjl z]
                  refine ⟨.inl, fun hz => ?_⟩
                  rcases hz with hz | rfl
                  · exact hz
                  · rw [HX.out.1, HXY.out, ← HX.out.2.1]
                    exact List.mem_take_iff_getElem.2 ⟨k + 1 + j, by omega, rfl⟩
              · rw [show (!decide (x = y)) = true by simp [hxy]] at hne
                have HXY := Lib.hid hxy
                clear hx hy ex ey hxy
                go_upto_region 11 with fail
                go_quiet (fail)
                have gd : Grows wr (wr.drewN nq) := ⟨rfl, rfl, rfl, Nat.le_refl _, fun _ _ _ => rfl⟩
                have how := HJ.out.2.1.grows gd
                have HE := Lib.hid (HJ.out.2.2.2.2.2.trans gd.lift)
                clear c0 c1 d0 d1 hne gd
                generalize wr.drewN nq = w3 at how HE ⊢
                obtain ⟨g', off', cap', e', _, ⟨c0, c1⟩, _⟩ := how.at (k + 1 + (j + 1)) (by omega)
                injection e' with e1 e2 e3
                injection e1 with e1
                injection e1 with e4 e5 e7
                subst e4 e5 e3
                clear e2
                obtain ⟨g', off', cap', e', _, ⟨d0, d1⟩, d2, d3⟩ := how.at m (by omega)
                injection e' with e1 e2 e3
                injection e1 with e1
                injection e1 with e4 e5 e8
                subst e4 e5 e3
                clear e2
                rw [HX.out.2.2.1] at c0 c1
                rw [show off + (k + 1 + (j + 1)) * 2 = off + (k + 1) * 2 + (j + 1) * 2 by omega] at c0 c1
                have m0 : (0 : Int) ≤ (m : Int) := by omega
                have m1 : (m : Int) < (d.length : Int) := by omega
                have HOW := Lib.hid how
                clear how
                go_wp2
                clear c0 c1 d0 d1 d2 d3
                go_roundg (d.length - (k + 1) - (j + 1 + 1))
                case measure => have := HJ.out.1; omega
                case rel =>
                  have hset := HOW.out.set hel.symm m (by omega) x
                  have e1 : Ext (fun b => b = g) w3 (w3.setCell ⟨g, off + m * 2, none⟩ (.int .i64 x.flow)) := Ext.setCell (S := fun b => b = g) (Ext.refl _ w3) ⟨g, _, none⟩ (Or.inr rfl) _
                  have e2 : Ext (fun b => b = g) w3 ((w3.setCell ⟨g, off + m * 2, none⟩ (.int .i64 x.flow)).setCell ⟨g, off + m * 2 + 1, none⟩ (.int .u64 x.gen)) := Ext.setCell (S := fun b => b = g) e1 ⟨g, _, none⟩ (Or.inr rfl) _
                  have hts := take_set_succ e m x (by omega)
                  refine ⟨j + 1, m + 1, e.set m x, rfl, by omega, by go_num, by go_num, by omega, by omega, by simp [hel], hset, ?_, fun z => ?_, fun i hi => ?_, HE.out.trans e2⟩
                  · rw [hts, ← HX.out.1]
                    have hp : (k + 1 + j) + 1 < d.length := by omega
                    exact weak_snoc HO.out.2 HJ.out.2.2.1 hp (fun z => HJ.out.2.2.2.1 z) (by rw [HX.out.2.1, show d[k + 1 + j + 1] = d[k + 1 + (j + 1)] from rfl, HX.out.1]; exact HXY.out)
                  · rw [hts, List.mem_append, HJ.out.2.2.2.1 z, show k + 1 + (j + 1 + 1) = (k + 1 + (j + 1)) + 1 by omega, mem_take_succ hjl z, HX.out.1]
                    simp
                  · rw [List.getElem?_set_ne (by omega)]
                    exact HJ.out.2.2.2.2.1 i (by omega)
            · have j1 : ¬ ((j + 1 : Nat) : Int) < ((d.length - (k + 1) : Nat) : Int) := by omega
              have hcl : ∀ jj, jj < (d.length - m) * 2 → (wr.cell? ⟨g, off + m * 2 + jj, none⟩).isSome = true ∧ wr.frozen? ⟨g, off + m * 2 + jj, none⟩ = false := fun jj hjj => by
                obtain ⟨g', off', cap', e', _, hc, hf⟩ := OwnS.cells HJ.out.2.1 (m * 2 + jj) (by omega)
                injection e' with e1 e2 e3
                injection e1 with e1
                injection e1 with e4 e5 e7
                subst e4 e5 e3
                rw [Nat.add_assoc, hc, hf, List.getElem?_eq_getElem (by rw [plcells_length]; omega)]
                exact ⟨rfl, rfl⟩
              obtain ⟨L, hL, hrun⟩ := run_clear_two (P := Try.prog) wr 26 28 (.agg #[.int .i64 0, .int .u64 0]) (.int .i64 0) (.int .u64 0) Try.underlying26 zeroP rfl rfl rfl g (off + m * 2) (d.length - m) (vc - m) (by omega) (fun jj h => (hcl jj h).1) (fun jj h => (hcl jj h).2)
              have m0 : (0 : Int) ≤ (m : Int) := by omega
              have m1 : (m : Int) ≤ (d.length : Int) := by omega
              have m2 : (m : Int) ≤ (vc : Int) := by omega
              have m3 : ¬ vc = m := by omega
              have m4 : (m : Int) < (vc : Int) := by omega
              have hov := HJ.out.2.1.over m (by omega) L (by omega)
              have HOV := Lib.hid hov
              clear hcl hov hL
              go_wp2
              go_ret
              exact ⟨_, rfl, e.take m, HOV.out.1, HJ.out.2.2.1, fun z => by rw [HJ.out.2.2.2.1 z, List.take_of_length_le (by omega)], (HJ.out.2.2.2.2.2.trans HOV.out.2).mono (fun b _ hb => by rw [hb]; rfl), rfl⟩
        · rw [show decide (a = b) = false by simp [hab]] at heq
          have HAB := Lib.hid hab
          clear ha hb hab
          go_upto_region 6 with fail
          go_quiet (fail)
          clear c0 c1 d0 d1 heq
          go_wp2
          go_roundg (d.length - (k + 1 + 1))
          case measure => have := HK.out.1; omega
          case rel =>
            refine ⟨k + 1, rfl, by omega, by go_num, HK.out.2.1.trans ?_, ?_⟩
            · exact ⟨rfl, rfl, rfl, Nat.le_refl _, fun _ _ _ => rfl⟩
            · rw [List.take_succ_eq_append_getElem hlt]
              exact weak_snoc HO.out.2 HK.out.2.2 hlt (fun x => Iff.rfl) (by rw [HA.out.1, HA.out.2]; exact HAB.out)
      · have k1 : ¬ ((k + 1 : Nat) : Int) < (d.length : Int) := by omega
        have e : d.take (k + 1) = d := List.take_of_length_le (by omega)
        go_wp2
        go_ret
        exact ⟨_, rfl, d, HO.out.1.grows HK.out.2.1, e ▸ HK.out.2.2, fun x => Iff.rfl, HK.out.2.1.lift, rfl⟩

end Go.Proofs.Ytlejdhgchanilaa
