/- sched: the wakes; the answer's Compare, first and Next. -/
import Derived.Test.YtekdggdnkmkldaaSchedG
namespace Go.Proofs.Ytekdggdnkmkldaa
set_option linter.unusedVariables false
set_option linter.unusedSimpArgs false
set_option maxRecDepth 1500
open Go.RowKit Go.Sort Go.Lib

theorem next_some {v : Value} {l S : List PlaceV} (hS : InOrder S l) (last : PlaceV) (begun : Bool) {w : World} (h : OwnP w v l) (hl : l.length ≤ 1048576) (p : PlaceV) (ho : (roundP S last begun).head? = some p) :
    Calls Try.prog 41 #[v, .agg #[.int .i64 last.flow, .int .u64 last.gen], .bool begun] w fun e w' => e = .returned (.tuple #[.agg #[.int .i64 p.flow, .int .u64 p.gen], .bool true]) ∧ Grows w w' := next_S v l S hS last begun w h hl _ ho
theorem next_none {v : Value} {l S : List PlaceV} (hS : InOrder S l) (last : PlaceV) (begun : Bool) {w : World} (h : OwnP w v l) (hl : l.length ≤ 1048576) (ho : (roundP S last begun).head? = none) :
    Calls Try.prog 41 #[v, .agg #[.int .i64 last.flow, .int .u64 last.gen], .bool begun] w fun e w' => e = .returned (.tuple #[.agg #[.int .i64 0, .int .u64 0], .bool false]) ∧ Grows w w' := next_S v l S hS last begun w h hl _ ho
theorem nil_pl (w : World) : OwnP w (.slice none 0 0) [] := OwnS.nil _ _ _

theorem compare_g (a b : PlaceV) (x : Int) (hx : cmpP a b = x) (w : World) : Calls Try.prog 95 #[.agg #[.int .i64 a.flow, .int .u64 a.gen], .agg #[.int .i64 b.flow, .int .u64 b.gen]] w fun e w' => e = .returned (.int .i64 x) ∧ Grows w w' := by
  subst hx
  refine (compare_any a b w).mono ?_
  rintro e w' ⟨rfl, q, os, rfl⟩
  exact ⟨rfl, grow_grows w q os⟩

def wl : List PlaceV := [⟨0, 3⟩, ⟨1, 0⟩]
theorem wl_order : InOrder wl wl := ⟨by unfold Sorted wl; simp [ltP], fun x => Iff.rfl⟩

/-- The best of those that were looked at. -/
def Best (p : PlaceV → Bool) (l : List PlaceV) : Option PlaceV → Prop
  | none => ∀ x ∈ l, p x = false
  | some b => IsMin p l b
theorem Best.skip {p : PlaceV → Bool} {l : List PlaceV} {o : Option PlaceV} (h : Best p l o) (x : PlaceV) (hx : p x = false) : Best p (l ++ [x]) o := by
  cases o with
  | none =>
    intro y hy
    rcases List.mem_append.1 hy with hy | hy
    · exact h y hy
    · simp only [List.mem_singleton] at hy; subst hy; exact hx
  | some b =>
    refine ⟨List.mem_append_left _ h.1, h.2.1, fun y hy hp => ?_⟩
    rcases List.mem_append.1 hy with hy | hy
    · exact h.2.2 y hy hp
    · simp only [List.mem_singleton] at hy; subst hy; rw [hx] at hp; cases hp
theorem Best.first {p : PlaceV → Bool} {l : List PlaceV} (h : Best p l none) (x : PlaceV) (hx : p x = true) : Best p (l ++ [x]) (some x) := by
  refine ⟨by simp, hx, fun y hy hp => ?_⟩
  rcases List.mem_append.1 hy with hy | hy
  · have := h y hy; rw [this] at hp; cases hp
  · simp only [List.mem_singleton] at hy; subst hy; exact ltP_irrefl _
theorem Best.less {p : PlaceV → Bool} {l : List PlaceV} {b : PlaceV} (h : Best p l (some b)) (x : PlaceV) (hx : p x = true) (hlt : ltP x b) : Best p (l ++ [x]) (some x) := by
  refine ⟨by simp, hx, fun y hy hp hyx => ?_⟩
  rcases List.mem_append.1 hy with hy | hy
  · exact h.2.2 y hy hp (ltP_trans hyx hlt)
  · simp only [List.mem_singleton] at hy; subst hy; exact ltP_irrefl _ hyx
theorem Best.stay {p : PlaceV → Bool} {l : List PlaceV} {b : PlaceV} (h : Best p l (some b)) (x : PlaceV) (hlt : ¬ ltP x b) : Best p (l ++ [x]) (some b) := by
  refine ⟨List.mem_append_left _ h.1, h.2.1, fun y hy hp => ?_⟩
  rcases List.mem_append.1 hy with hy | hy
  · exact h.2.2 y hy hp
  · simp only [List.mem_singleton] at hy; subst hy; exact hlt
theorem Best.is {p : PlaceV → Bool} {l S : List PlaceV} {o : Option PlaceV} (h : Best p l o) (hS : InOrder S l) : o = (S.filter p).head? := by
  cases hf : (S.filter p).head? with
  | none =>
    have he : S.filter p = [] := List.head?_eq_none_iff.1 hf
    cases o with
    | none => rfl
    | some b =>
      have : b ∈ S.filter p := List.mem_filter.2 ⟨(hS.2 b).2 h.1, h.2.1⟩
      rw [he] at this; simp at this
  | some c =>
    have hc := filter_head_min hS.1 p hf
    cases o with
    | none => have := h c ((hS.2 c).1 hc.1); rw [hc.2.1] at this; cases this
    | some b => exact congrArg some (isMin_unique (fun x => (hS.2 x).symm) h hc)

set_option maxHeartbeats 8000000 in
theorem refcmp_any (a b : PlaceV) (x : Int) (hx : cmpP a b = x) (w : World) : Calls Try.prog 100 #[.agg #[.int .i64 a.flow, .int .u64 a.gen], .agg #[.int .i64 b.flow, .int .u64 b.gen]] w fun e w' => e = .returned (.int .i64 x) ∧ Grows w w' := by
  have hgd := eqGuardR
  obtain ⟨af, ag⟩ := a
  obtain ⟨bf, bg⟩ := b
  have heq := eqR ⟨af, ag⟩ ⟨bf, bg⟩
  simp only at heq ⊢
  by_cases f1 : af < bf
  · obtain rfl : x = -1 := by rw [← hx]; unfold cmpP; rw [if_pos f1]
    clear heq hx
    go_enter Try.func100, Try.ntmps100
    go_wp2
    go_ret
    exact ⟨rfl, ((Ext.refl _ _).alloc _).alloc _⟩
  · by_cases f2 : af = bf
    · subst f2
      by_cases g1 : ag < bg
      · obtain rfl : x = -1 := by rw [← hx]; unfold cmpP; simp only; rw [if_neg f1, if_neg f1, if_pos g1]
        have g1' : (ag : Int) < (bg : Int) := by omega
        clear heq hx
        go_enter Try.func100, Try.ntmps100
        go_wp2
        go_ret
        exact ⟨rfl, ((Ext.refl _ _).alloc _).alloc _⟩
      · by_cases g2 : ag = bg
        · subst g2
          obtain rfl : x = 0 := by rw [← hx]; exact (cmpP_eq _ _).2 rfl
          rw [show decide ((⟨af, ag⟩ : PlaceV) = ⟨af, ag⟩) = true by simp] at heq
          clear hx
          go_enter Try.func100, Try.ntmps100
          go_wp2
          go_ret
          exact ⟨rfl, ((Ext.refl _ _).alloc _).alloc _⟩
        · obtain rfl : x = 1 := by rw [← hx]; unfold cmpP; simp only; rw [if_neg f1, if_neg f1, if_neg g1, if_pos (by omega)]
          have g1' : ¬ (ag : Int) < (bg : Int) := by omega
          rw [show decide ((⟨af, ag⟩ : PlaceV) = ⟨af, bg⟩) = false by simp [g2]] at heq
          clear g2 hx
          go_enter Try.func100, Try.ntmps100
          go_wp2
          go_ret
          exact ⟨rfl, ((Ext.refl _ _).alloc _).alloc _⟩
    · obtain rfl : x = 1 := by rw [← hx]; unfold cmpP; simp only; rw [if_neg f1, if_pos (by omega)]
      rw [show decide ((⟨af, ag⟩ : PlaceV) = ⟨bf, bg⟩) = false by simp [f2]] at heq
      clear hx
      go_enter Try.func100, Try.ntmps100
      go_wp2
      go_ret
      exact ⟨rfl, ((Ext.refl _ _).alloc _).alloc _⟩

structure FirstSt (w wr : World) (b4 b6 b8 : Nat) (l : List PlaceV) (last : PlaceV) (p : PlaceV → Bool) (o : Option PlaceV) (i : Nat) : Prop where
  k4 : wr.heap[b4]? = some (.cells #[.int .i64 last.flow, .int .u64 last.gen] 74 (0, 0))
  k6 : wr.heap[b6]? = some (.cells #[.int .i64 0, .int .u64 0] 74 (0, 0))
  k8 : wr.heap[b8]? = some (.cells #[.int .i64 (o.getD ⟨0, 0⟩).flow, .int .u64 (o.getD ⟨0, 0⟩).gen] 74 (0, 0))
  ne : b4 ≠ b8 ∧ b6 ≠ b8 ∧ w.heap.size ≤ b8 ∧ w.heap.size ≤ b6
  best : Best p (l.take i) o
  grows : Grows w wr
theorem FirstSt.more {w wr w' : World} {b4 b6 b8 : Nat} {l : List PlaceV} {last : PlaceV} {p : PlaceV → Bool} {o : Option PlaceV} {i : Nat} (h : FirstSt w wr b4 b6 b8 l last p o i) (g : Grows wr w') : FirstSt w w' b4 b6 b8 l last p o i :=
  ⟨(g.block _ (heap_lt h.k4) (fun h => h)).trans h.k4, (g.block _ (heap_lt h.k6) (fun h => h)).trans h.k6, (g.block _ (heap_lt h.k8) (fun h => h)).trans h.k8, h.ne, h.best, h.grows.trans g⟩
theorem FirstSt.set {w wr : World} {b4 b6 b8 : Nat} {l : List PlaceV} {last : PlaceV} {p : PlaceV → Bool} {o : Option PlaceV} {i : Nat} (h : FirstSt w wr b4 b6 b8 l last p o i) (x : PlaceV) {j : Nat} (hb : Best p (l.take j) (some x)) :
    FirstSt w ((wr.setCell ⟨b8, 0, none⟩ (.int .i64 x.flow)).setCell ⟨b8, 1, none⟩ (.int .u64 x.gen)) b4 b6 b8 l last p (some x) j := by
  have e1 : Ext (fun k => k = b8) wr (wr.setCell ⟨b8, 0, none⟩ (.int .i64 x.flow)) := Ext.setCell (S := fun k => k = b8) (Ext.refl _ wr) ⟨b8, _, none⟩ (Or.inr rfl) _
  have e2 : Ext (fun k => k = b8) wr ((wr.setCell ⟨b8, 0, none⟩ (.int .i64 x.flow)).setCell ⟨b8, 1, none⟩ (.int .u64 x.gen)) := Ext.setCell (S := fun k => k = b8) e1 ⟨b8, _, none⟩ (Or.inr rfl) _
  refine ⟨(e2.block _ (heap_lt h.k4) h.ne.1).trans h.k4, (e2.block _ (heap_lt h.k6) h.ne.2.1).trans h.k6, ?_, h.ne, hb, (h.grows.lift.trans e2).mono (fun k hk hh => by have := h.ne.2.2.1; omega)⟩
  exact setCell_heap (setCell_heap h.k8 0 (.int .i64 x.flow)) 1 (.int .u64 x.gen)

set_option maxHeartbeats 16000000 in
theorem pfirst_any (v : Value) (l S : List PlaceV) (hS : InOrder S l) (last : PlaceV) (all : Bool) (w : World) (h : RowP w v l) (hl : l.length ≤ 1048576) (o : Option PlaceV) (ho : (S.filter (fun x => all || decide (ltP last x))).head? = o) :
    Calls Try.prog 91 #[v, .agg #[.int .i64 last.flow, .int .u64 last.gen], .bool all] w fun e w' => e = .returned (nextV o) ∧ Grows w w' := by
  obtain ⟨va, vc, rfl⟩ := h.1
  have HR := Lib.hid (And.intro h (And.intro hS ho))
  clear h hS ho
  go_enter Try.func91, Try.ntmps91
  go_upto_region 2 with fail
  have hF : FirstSt w (((w.alloc (.cells #[.int .i64 last.flow, .int .u64 last.gen] 74)).alloc (.cells #[.int .i64 0, .int .u64 0] 74)).alloc (.cells #[.int .i64 0, .int .u64 0] 74)) w.heap.size (w.heap.size + 1) (w.heap.size + 1 + 1) l last (fun x => all || decide (ltP last x)) none 0 := by
    have h9 := heap_alloc_new (w.alloc (.cells #[.int .i64 last.flow, .int .u64 last.gen] 74)) (.cells #[.int .i64 0, .int .u64 0] 74 (0, 0))
    rw [show (w.alloc (.cells #[.int .i64 last.flow, .int .u64 last.gen] 74)).heap.size = w.heap.size + 1 by simp] at h9
    have h8 := heap_alloc_new ((w.alloc (.cells #[.int .i64 last.flow, .int .u64 last.gen] 74)).alloc (.cells #[.int .i64 0, .int .u64 0] 74)) (.cells #[.int .i64 0, .int .u64 0] 74 (0, 0))
    rw [show ((w.alloc (.cells #[.int .i64 last.flow, .int .u64 last.gen] 74)).alloc (.cells #[.int .i64 0, .int .u64 0] 74)).heap.size = w.heap.size + 1 + 1 by simp] at h8
    refine ⟨?_, ?_, h8, by omega, by simp [Best], ((Ext.refl _ w).alloc _).alloc _ |>.alloc _⟩
    · exact (((Ext.refl (fun _ => False) _).alloc _).alloc _).block _ (by simp) (fun h => h) |>.trans (heap_alloc_new w _)
    · exact ((Ext.refl (fun _ => False) _).alloc _).block _ (by simp) (fun h => h) |>.trans h9
  have HF := Lib.hid hF
  clear hF
  generalize ((w.alloc (.cells #[.int .i64 last.flow, .int .u64 last.gen] 74)).alloc (.cells #[.int .i64 0, .int .u64 0] 74)).alloc (.cells #[.int .i64 0, .int .u64 0] 74) = w3 at HF ⊢
  generalize w.heap.size + 1 + 1 = b8 at HF ⊢
  generalize w.heap.size + 1 = b6 at HF ⊢
  generalize hb4 : w.heap.size = b4 at HF ⊢
  clear hb4
  go_wp2
  go_loopg [9, 10] l.length (fun k isv c wr => ∃ (i : Nat) (o : Option PlaceV), i ≤ l.length ∧ k = l.length - i ∧ c = .int .i64 (i : Nat) ∧ isv = .bool o.isSome ∧ FirstSt w wr b4 b6 b8 l last (fun x => all || decide (ltP last x)) o i)
  case atStart => exact ⟨0, none, by omega, by omega, rfl, rfl, HF.out⟩
  case round =>
    obtain ⟨i, b, hi, hk, rfl, rfl, hI⟩ := hrel
    have HK := Lib.hid (And.intro hk hI)
    clear hk hI HF
    by_cases hlt : i < l.length
    · have i0 : (0 : Int) ≤ (i : Int) := by omega
      have i1 : (i : Int) < (l.length : Int) := by omega
      obtain ⟨bl, off, cap, e, hbl, c0, c1⟩ := (HR.out.1.grows HK.out.2.grows).2 i hlt
      injection e with e1 e2 e3
      subst e1 e3
      clear e2
      obtain ⟨x, hx⟩ : ∃ x, l[i] = x := ⟨_, rfl⟩
      rw [hx] at c0 c1
      have htk : l.take (i + 1) = l.take i ++ [x] := by rw [List.take_succ_eq_append_getElem hlt, hx]
      have HX := Lib.hid (And.intro htk (And.intro hbl (And.intro c0 c1)))
      clear hx htk hbl
      cases all with
      | true =>
        go_upto_region 6 with fail
        go_quiet (fail)
        have gq : Grows wr (wr.drewN nq) := ⟨rfl, rfl, rfl, Nat.le_refl _, fun _ _ _ => rfl⟩
        have HS := Lib.hid (And.intro gq (HK.out.2.more gq))
        have HP := Lib.hid (show (fun y => true || decide (ltP last y)) x = true by simp)
        clear gq c0 c1
        generalize wr.drewN nq = wy at HS ⊢
        have c0 := (HS.out.1.cell (p := ⟨bl, off + i * 2, none⟩) HX.out.2.1 (fun h => h)).trans HX.out.2.2.1
        have c1 := (HS.out.1.cell (p := ⟨bl, off + i * 2 + 1, none⟩) HX.out.2.1 (fun h => h)).trans HX.out.2.2.2
        have hbl2 := Nat.lt_of_lt_of_le HX.out.2.1 HS.out.1.size
        cases b with
        | none =>
          have k80 := cell_of_heap HS.out.2.k8 0
          have k81 := cell_of_heap HS.out.2.k8 1
          have f80 := frozen_of_heap HS.out.2.k8 0
          have f81 := frozen_of_heap HS.out.2.k8 1
          simp at k80 k81
          have HC := Lib.hid (And.intro c0 (And.intro c1 (And.intro k80 (And.intro k81 (And.intro f80 f81)))))
          clear c0 c1 k80 k81 f80 f81
          go_upto_region 7 with fail
          go_quiet (fail)
          have gq : Grows wy (wy.drewN nq) := ⟨rfl, rfl, rfl, Nat.le_refl _, fun _ _ _ => rfl⟩
          have HS2 := Lib.hid (HS.out.2.more gq)
          obtain ⟨c0, c1, k80, k81, f80, f81⟩ := HC.out
          have c0 := (gq.cell (p := ⟨bl, off + i * 2, none⟩) hbl2 (fun h => h)).trans c0
          have c1 := (gq.cell (p := ⟨bl, off + i * 2 + 1, none⟩) hbl2 (fun h => h)).trans c1
          clear k80 k81 f80 f81 HC gq HS
          generalize wy.drewN nq = wz at HS2 c0 c1 ⊢
          have k80 := cell_of_heap HS2.out.k8 0
          have k81 := cell_of_heap HS2.out.k8 1
          have f80 := frozen_of_heap HS2.out.k8 0
          have f81 := frozen_of_heap HS2.out.k8 1
          simp at k80 k81
          go_wp2
          clear c0 c1 k80 k81 f80 f81
          go_roundg (l.length - (i + 1))
          case measure => have := HK.out.1; omega
          case rel => exact ⟨i + 1, some x, by omega, rfl, by go_num, rfl, HS2.out.set x (by rw [HX.out.1]; exact Best.first HS2.out.best x HP.out)⟩
        | some c =>
          have k80 := cell_of_heap HS.out.2.k8 0
          have k81 := cell_of_heap HS.out.2.k8 1
          simp at k80 k81
          have h8lt := heap_lt HS.out.2.k8
          obtain ⟨q2, hq2⟩ : ∃ q2, cmpP x c = q2 := ⟨_, rfl⟩
          have HC := Lib.hid (And.intro c0 (And.intro c1 (And.intro k80 (And.intro k81 (And.intro h8lt (And.intro hbl2 hq2))))))
          clear h8lt hbl2 hq2
          by_cases hq3 : q2 < 0
          · go_upto_region 7 with fail
            go_region_held3 (fun w' => w'.cell? ⟨bl, off + i * 2, none⟩ = some (.int .i64 x.flow) ∧ w'.cell? ⟨bl, off + i * 2 + 1, none⟩ = some (.int .u64 x.gen) ∧ w'.cell? ⟨b8, 0, none⟩ = some (.int .i64 c.flow) ∧ w'.cell? ⟨b8, 1, none⟩ = some (.int .u64 c.gen))
              (first
                | go_keep
                | exact ⟨(hg9.cell (p := ⟨bl, off + i * 2, none⟩) HC.out.2.2.2.2.2.1 (fun h => h)).trans HC.out.1, (hg9.cell (p := ⟨bl, off + i * 2 + 1, none⟩) HC.out.2.2.2.2.2.1 (fun h => h)).trans HC.out.2.1, (hg9.cell (p := ⟨b8, 0, none⟩) HC.out.2.2.2.2.1 (fun h => h)).trans HC.out.2.2.1, (hg9.cell (p := ⟨b8, 1, none⟩) HC.out.2.2.2.2.1 (fun h => h)).trans HC.out.2.2.2.1⟩)
              (first
                | (go_at_call 100; refine (refcmp_any x c q2 HC.out.2.2.2.2.2.2 _).mono ?_; rintro e w9 ⟨rfl, hg9⟩))
            all_goals
              have gq : Grows wy w9 := ((Ext.refl _ wy).drew).trans hg9
              have HS2 := Lib.hid (HS.out.2.more gq)
              have c0 := (gq.cell (p := ⟨bl, off + i * 2, none⟩) HC.out.2.2.2.2.2.1 (fun h => h)).trans HC.out.1
              have c1 := (gq.cell (p := ⟨bl, off + i * 2 + 1, none⟩) HC.out.2.2.2.2.2.1 (fun h => h)).trans HC.out.2.1
              have k80 := cell_of_heap HS2.out.k8 0
              have k81 := cell_of_heap HS2.out.k8 1
              have f80 := frozen_of_heap HS2.out.k8 0
              have f81 := frozen_of_heap HS2.out.k8 1
              simp at k80 k81
              have HQ3 := Lib.hid hq3
              clear gq HS hg9
              go_wp2
              clear c0 c1 k80 k81 f80 f81 hq3
              go_roundg (l.length - (i + 1))
              case measure => have := HK.out.1; omega
              case rel => exact ⟨i + 1, some x, by omega, rfl, by go_num, rfl, HS2.out.set x (by rw [HX.out.1]; exact Best.less HS2.out.best x HP.out ((cmpP_lt x c).1 (by rw [HC.out.2.2.2.2.2.2]; exact HQ3.out)))⟩
          · go_upto_region 7 with fail
            go_region_held3 (fun w' => w'.cell? ⟨bl, off + i * 2, none⟩ = some (.int .i64 x.flow) ∧ w'.cell? ⟨bl, off + i * 2 + 1, none⟩ = some (.int .u64 x.gen) ∧ w'.cell? ⟨b8, 0, none⟩ = some (.int .i64 c.flow) ∧ w'.cell? ⟨b8, 1, none⟩ = some (.int .u64 c.gen))
              (first
                | go_keep
                | exact ⟨(hg9.cell (p := ⟨bl, off + i * 2, none⟩) HC.out.2.2.2.2.2.1 (fun h => h)).trans HC.out.1, (hg9.cell (p := ⟨bl, off + i * 2 + 1, none⟩) HC.out.2.2.2.2.2.1 (fun h => h)).trans HC.out.2.1, (hg9.cell (p := ⟨b8, 0, none⟩) HC.out.2.2.2.2.1 (fun h => h)).trans HC.out.2.2.1, (hg9.cell (p := ⟨b8, 1, none⟩) HC.out.2.2.2.2.1 (fun h => h)).trans HC.out.2.2.2.1⟩)
              (first
                | (go_at_call 100; refine (refcmp_any x c q2 HC.out.2.2.2.2.2.2 _).mono ?_; rintro e w9 ⟨rfl, hg9⟩))
            all_goals
              have gq : Grows wy w9 := ((Ext.refl _ wy).drew).trans hg9
              have HS2 := Lib.hid (HS.out.2.more gq)
              have HQ3 := Lib.hid hq3
              clear gq HS hg9 c0 c1 k80 k81
              go_wp2
              clear hq3
              go_roundg (l.length - (i + 1))
              case measure => have := HK.out.1; omega
              case rel => exact ⟨i + 1, some c, by omega, rfl, by go_num, rfl, HS2.out.k4, HS2.out.k6, HS2.out.k8, HS2.out.ne, by rw [HX.out.1]; exact Best.stay HS2.out.best x (fun hlt => by have h1 := (cmpP_lt x c).2 hlt; rw [HC.out.2.2.2.2.2.2] at h1; have := HQ3.out; omega), HS2.out.grows⟩
      | false =>
        obtain ⟨q, hq⟩ : ∃ q, cmpP x last = q := ⟨_, rfl⟩
        have d0 := cell_of_heap HK.out.2.k4 0
        have d1 := cell_of_heap HK.out.2.k4 1
        simp at d0 d1
        have hlt4 := heap_lt HK.out.2.k4
        have HQ := Lib.hid (And.intro hq (And.intro d0 (And.intro d1 hlt4)))
        clear hq hlt4
        by_cases hq0 : q ≤ 0
        · go_upto_region 6 with fail
          go_region_held3 (fun w' => w'.cell? ⟨bl, off + i * 2, none⟩ = some (.int .i64 x.flow) ∧ w'.cell? ⟨bl, off + i * 2 + 1, none⟩ = some (.int .u64 x.gen) ∧ w'.cell? ⟨b4, 0, none⟩ = some (.int .i64 last.flow) ∧ w'.cell? ⟨b4, 1, none⟩ = some (.int .u64 last.gen))
            (first
              | go_keep
              | exact ⟨(hg9.cell (p := ⟨bl, off + i * 2, none⟩) HX.out.2.1 (fun h => h)).trans HX.out.2.2.1, (hg9.cell (p := ⟨bl, off + i * 2 + 1, none⟩) HX.out.2.1 (fun h => h)).trans HX.out.2.2.2, (hg9.cell (p := ⟨b4, 0, none⟩) HQ.out.2.2.2 (fun h => h)).trans HQ.out.2.1, (hg9.cell (p := ⟨b4, 1, none⟩) HQ.out.2.2.2 (fun h => h)).trans HQ.out.2.2.1⟩)
            (first
              | (go_at_call 100; refine (refcmp_any x last q HQ.out.1 _).mono ?_; rintro e w9 ⟨rfl, hg9⟩))
          all_goals
            have gq : Grows wr w9 := ((Ext.refl _ wr).drew).trans hg9
            have HS := Lib.hid (And.intro gq (HK.out.2.more gq))
            have HQ0 := Lib.hid hq0
            clear gq hg9 c0 c1 d0 d1
            go_wp2
            clear hq0
            go_roundg (l.length - (i + 1))
            case measure => have := HK.out.1; omega
            case rel => exact ⟨i + 1, b, by omega, rfl, by go_num, rfl, HS.out.2.k4, HS.out.2.k6, HS.out.2.k8, HS.out.2.ne, by rw [HX.out.1]; exact Best.skip HS.out.2.best x (by simp only [Bool.false_or, decide_eq_false_iff_not]; intro hlt; have := (cmpP_gt x last).2 hlt; rw [HQ.out.1] at this; have := HQ0.out; omega), HS.out.2.grows⟩
        · go_upto_region 6 with fail
          go_region_held3 (fun w' => w'.cell? ⟨bl, off + i * 2, none⟩ = some (.int .i64 x.flow) ∧ w'.cell? ⟨bl, off + i * 2 + 1, none⟩ = some (.int .u64 x.gen) ∧ w'.cell? ⟨b4, 0, none⟩ = some (.int .i64 last.flow) ∧ w'.cell? ⟨b4, 1, none⟩ = some (.int .u64 last.gen))
            (first
              | go_keep
              | exact ⟨(hg9.cell (p := ⟨bl, off + i * 2, none⟩) HX.out.2.1 (fun h => h)).trans HX.out.2.2.1, (hg9.cell (p := ⟨bl, off + i * 2 + 1, none⟩) HX.out.2.1 (fun h => h)).trans HX.out.2.2.2, (hg9.cell (p := ⟨b4, 0, none⟩) HQ.out.2.2.2 (fun h => h)).trans HQ.out.2.1, (hg9.cell (p := ⟨b4, 1, none⟩) HQ.out.2.2.2 (fun h => h)).trans HQ.out.2.2.1⟩)
            (first
              | (go_at_call 100; refine (refcmp_any x last q HQ.out.1 _).mono ?_; rintro e w9 ⟨rfl, hg9⟩))
          all_goals
            have gq : Grows wr w9 := ((Ext.refl _ wr).drew).trans hg9
            have HS := Lib.hid (And.intro gq (HK.out.2.more gq))
            have HP := Lib.hid (show (fun y => false || decide (ltP last y)) x = true by simp only [Bool.false_or, decide_eq_true_eq]; exact (cmpP_gt x last).1 (by rw [HQ.out.1]; omega))
            clear gq hg9 c0 c1 d0 d1
            generalize w9 = wy at HS ⊢
            have c0 := (HS.out.1.cell (p := ⟨bl, off + i * 2, none⟩) HX.out.2.1 (fun h => h)).trans HX.out.2.2.1
            have c1 := (HS.out.1.cell (p := ⟨bl, off + i * 2 + 1, none⟩) HX.out.2.1 (fun h => h)).trans HX.out.2.2.2
            have hbl2 := Nat.lt_of_lt_of_le HX.out.2.1 HS.out.1.size
            cases b with
            | none =>
              have k80 := cell_of_heap HS.out.2.k8 0
              have k81 := cell_of_heap HS.out.2.k8 1
              have f80 := frozen_of_heap HS.out.2.k8 0
              have f81 := frozen_of_heap HS.out.2.k8 1
              simp at k80 k81
              have HC := Lib.hid (And.intro c0 (And.intro c1 (And.intro k80 (And.intro k81 (And.intro f80 f81)))))
              clear c0 c1 k80 k81 f80 f81
              go_upto_region 7 with fail
              go_quiet (fail)
              have gq : Grows wy (wy.drewN nq) := ⟨rfl, rfl, rfl, Nat.le_refl _, fun _ _ _ => rfl⟩
              have HS2 := Lib.hid (HS.out.2.more gq)
              obtain ⟨c0, c1, k80, k81, f80, f81⟩ := HC.out
              have c0 := (gq.cell (p := ⟨bl, off + i * 2, none⟩) hbl2 (fun h => h)).trans c0
              have c1 := (gq.cell (p := ⟨bl, off + i * 2 + 1, none⟩) hbl2 (fun h => h)).trans c1
              clear k80 k81 f80 f81 HC gq HS
              generalize wy.drewN nq = wz at HS2 c0 c1 ⊢
              have k80 := cell_of_heap HS2.out.k8 0
              have k81 := cell_of_heap HS2.out.k8 1
              have f80 := frozen_of_heap HS2.out.k8 0
              have f81 := frozen_of_heap HS2.out.k8 1
              simp at k80 k81
              go_wp2
              clear c0 c1 k80 k81 f80 f81
              go_roundg (l.length - (i + 1))
              case measure => have := HK.out.1; omega
              case rel => exact ⟨i + 1, some x, by omega, rfl, by go_num, rfl, HS2.out.set x (by rw [HX.out.1]; exact Best.first HS2.out.best x HP.out)⟩
            | some c =>
              have k80 := cell_of_heap HS.out.2.k8 0
              have k81 := cell_of_heap HS.out.2.k8 1
              simp at k80 k81
              have h8lt := heap_lt HS.out.2.k8
              obtain ⟨q2, hq2⟩ : ∃ q2, cmpP x c = q2 := ⟨_, rfl⟩
              have HC := Lib.hid (And.intro c0 (And.intro c1 (And.intro k80 (And.intro k81 (And.intro h8lt (And.intro hbl2 hq2))))))
              clear h8lt hbl2 hq2
              by_cases hq3 : q2 < 0
              · go_upto_region 7 with fail
                go_region_held3 (fun w' => w'.cell? ⟨bl, off + i * 2, none⟩ = some (.int .i64 x.flow) ∧ w'.cell? ⟨bl, off + i * 2 + 1, none⟩ = some (.int .u64 x.gen) ∧ w'.cell? ⟨b8, 0, none⟩ = some (.int .i64 c.flow) ∧ w'.cell? ⟨b8, 1, none⟩ = some (.int .u64 c.gen))
                  (first
                    | go_keep
                    | exact ⟨(hg9.cell (p := ⟨bl, off + i * 2, none⟩) HC.out.2.2.2.2.2.1 (fun h => h)).trans HC.out.1, (hg9.cell (p := ⟨bl, off + i * 2 + 1, none⟩) HC.out.2.2.2.2.2.1 (fun h => h)).trans HC.out.2.1, (hg9.cell (p := ⟨b8, 0, none⟩) HC.out.2.2.2.2.1 (fun h => h)).trans HC.out.2.2.1, (hg9.cell (p := ⟨b8, 1, none⟩) HC.out.2.2.2.2.1 (fun h => h)).trans HC.out.2.2.2.1⟩)
                  (first
                    | (go_at_call 100; refine (refcmp_any x c q2 HC.out.2.2.2.2.2.2 _).mono ?_; rintro e w9 ⟨rfl, hg9⟩))
                all_goals
                  have gq : Grows wy w9 := ((Ext.refl _ wy).drew).trans hg9
                  have HS2 := Lib.hid (HS.out.2.more gq)
                  have c0 := (gq.cell (p := ⟨bl, off + i * 2, none⟩) HC.out.2.2.2.2.2.1 (fun h => h)).trans HC.out.1
                  have c1 := (gq.cell (p := ⟨bl, off + i * 2 + 1, none⟩) HC.out.2.2.2.2.2.1 (fun h => h)).trans HC.out.2.1
                  have k80 := cell_of_heap HS2.out.k8 0
                  have k81 := cell_of_heap HS2.out.k8 1
                  have f80 := frozen_of_heap HS2.out.k8 0
                  have f81 := frozen_of_heap HS2.out.k8 1
                  simp at k80 k81
                  have HQ3 := Lib.hid hq3
                  clear gq HS hg9
                  go_wp2
                  clear c0 c1 k80 k81 f80 f81 hq3
                  go_roundg (l.length - (i + 1))
                  case measure => have := HK.out.1; omega
                  case rel => exact ⟨i + 1, some x, by omega, rfl, by go_num, rfl, HS2.out.set x (by rw [HX.out.1]; exact Best.less HS2.out.best x HP.out ((cmpP_lt x c).1 (by rw [HC.out.2.2.2.2.2.2]; exact HQ3.out)))⟩
              · go_upto_region 7 with fail
                go_region_held3 (fun w' => w'.cell? ⟨bl, off + i * 2, none⟩ = some (.int .i64 x.flow) ∧ w'.cell? ⟨bl, off + i * 2 + 1, none⟩ = some (.int .u64 x.gen) ∧ w'.cell? ⟨b8, 0, none⟩ = some (.int .i64 c.flow) ∧ w'.cell? ⟨b8, 1, none⟩ = some (.int .u64 c.gen))
                  (first
                    | go_keep
                    | exact ⟨(hg9.cell (p := ⟨bl, off + i * 2, none⟩) HC.out.2.2.2.2.2.1 (fun h => h)).trans HC.out.1, (hg9.cell (p := ⟨bl, off + i * 2 + 1, none⟩) HC.out.2.2.2.2.2.1 (fun h => h)).trans HC.out.2.1, (hg9.cell (p := ⟨b8, 0, none⟩) HC.out.2.2.2.2.1 (fun h => h)).trans HC.out.2.2.1, (hg9.cell (p := ⟨b8, 1, none⟩) HC.out.2.2.2.2.1 (fun h => h)).trans HC.out.2.2.2.1⟩)
                  (first
                    | (go_at_call 100; refine (refcmp_any x c q2 HC.out.2.2.2.2.2.2 _).mono ?_; rintro e w9 ⟨rfl, hg9⟩))
                all_goals
                  have gq : Grows wy w9 := ((Ext.refl _ wy).drew).trans hg9
                  have HS2 := Lib.hid (HS.out.2.more gq)
                  have HQ3 := Lib.hid hq3
                  clear gq HS hg9 c0 c1 k80 k81
                  go_wp2
                  clear hq3
                  go_roundg (l.length - (i + 1))
                  case measure => have := HK.out.1; omega
                  case rel => exact ⟨i + 1, some c, by omega, rfl, by go_num, rfl, HS2.out.k4, HS2.out.k6, HS2.out.k8, HS2.out.ne, by rw [HX.out.1]; exact Best.stay HS2.out.best x (fun hlt => by have h1 := (cmpP_lt x c).2 hlt; rw [HC.out.2.2.2.2.2.2] at h1; have := HQ3.out; omega), HS2.out.grows⟩
    · have i1 : ¬ (i : Int) < (l.length : Int) := by omega
      obtain rfl : i = l.length := by omega
      have hb : b = o := by
        have h1 := HK.out.2.best
        rw [List.take_of_length_le (Nat.le_refl _)] at h1
        rw [h1.is HR.out.2.1, ← HR.out.2.2]
      subst hb
      have k80 := cell_of_heap HK.out.2.k8 0
      have k81 := cell_of_heap HK.out.2.k8 1
      have k60 := cell_of_heap HK.out.2.k6 0
      have k61 := cell_of_heap HK.out.2.k6 1
      have f60 := frozen_of_heap HK.out.2.k6 0
      have f61 := frozen_of_heap HK.out.2.k6 1
      simp at k60 k61 k80 k81
      have hgs : ∀ x y : Value, Grows w ((wr.setCell ⟨b6, 0, none⟩ x).setCell ⟨b6, 1, none⟩ y) := fun x y =>
        Ext.setCell (Ext.setCell HK.out.2.grows ⟨b6, 0, none⟩ (.inl HK.out.2.ne.2.2.2) x) ⟨b6, 1, none⟩ (.inl HK.out.2.ne.2.2.2) y
      have HG := Lib.hid hgs
      clear hgs
      cases b with
      | none =>
        go_wp2
        refine bodyPost_ret (v := nextV none) ?_ rfl ⟨rfl, HG.out _ _⟩
        rw [results_cell_tmp rfl]
        go_simp
        rfl
      | some c =>
        simp only [Option.getD_some] at k80 k81
        go_wp2
        refine bodyPost_ret (v := nextV (some c)) ?_ rfl ⟨rfl, HG.out _ _⟩
        rw [results_cell_tmp rfl]
        go_simp
        rfl
theorem first_some {v : Value} {l S : List PlaceV} (hS : InOrder S l) (last : PlaceV) (all : Bool) {w : World} (h : RowP w v l) (hl : l.length ≤ 1048576) (p : PlaceV) (ho : (S.filter (fun x => all || decide (ltP last x))).head? = some p) :
    Calls Try.prog 91 #[v, .agg #[.int .i64 last.flow, .int .u64 last.gen], .bool all] w fun e w' => e = .returned (.tuple #[.agg #[.int .i64 p.flow, .int .u64 p.gen], .bool true]) ∧ Grows w w' := pfirst_any v l S hS last all w h hl _ ho
theorem first_none {v : Value} {l S : List PlaceV} (hS : InOrder S l) (last : PlaceV) (all : Bool) {w : World} (h : RowP w v l) (hl : l.length ≤ 1048576) (ho : (S.filter (fun x => all || decide (ltP last x))).head? = none) :
    Calls Try.prog 91 #[v, .agg #[.int .i64 last.flow, .int .u64 last.gen], .bool all] w fun e w' => e = .returned (.tuple #[.agg #[.int .i64 0, .int .u64 0], .bool false]) ∧ Grows w w' := pfirst_any v l S hS last all w h hl _ ho
theorem all_head (S : List PlaceV) (last : PlaceV) : (S.filter (fun x => true || decide (ltP last x))).head? = S.head? := by
  have e : S.filter (fun x => true || decide (ltP last x)) = S := by
    induction S with
    | nil => rfl
    | cons a r ih => rw [List.filter_cons, if_pos (by rfl), ih]
  rw [e]
theorem round_head_true {S : List PlaceV} (hS : Sorted S) (last : PlaceV) : (roundP S last true).head? = match (S.filter (fun x => false || decide (ltP last x))).head? with | some p => some p | none => S.head? := by
  have e := sorted_split S hS last
  simp only [Bool.false_or]
  unfold roundP
  rw [if_pos rfl]
  cases hA : S.filter (fun x => decide (ltP last x)) with
  | nil =>
    rw [hA, List.append_nil] at e
    rw [List.nil_append, ← e]
    rfl
  | cons a r => rfl

set_option maxHeartbeats 16000000 in
theorem refnext_S (v : Value) (l S : List PlaceV) (hS : InOrder S l) (last : PlaceV) (begun : Bool) (w : World) (h : RowP w v l) (hl : l.length ≤ 1048576) (o : Option PlaceV) (ho : (roundP S last begun).head? = o) :
    Calls Try.prog 63 #[v, .agg #[.int .i64 last.flow, .int .u64 last.gen], .bool begun] w fun e w' => e = .returned (nextV o) ∧ Grows w w' := by
  have hg : Grows w ((w.alloc (.cells #[.int .i64 last.flow, .int .u64 last.gen] 74)).alloc (.cells #[.int .i64 0, .int .u64 0] 74)) := ((Ext.refl _ w).alloc _).alloc _
  have k4 : ((w.alloc (.cells #[.int .i64 last.flow, .int .u64 last.gen] 74)).alloc (.cells #[.int .i64 0, .int .u64 0] 74)).heap[w.heap.size]? = some (.cells #[.int .i64 last.flow, .int .u64 last.gen] 74 (0, 0)) := ((Ext.refl (fun _ => False) (w.alloc (.cells #[.int .i64 last.flow, .int .u64 last.gen] 74))).alloc _).block _ (by simp) (fun h => h) |>.trans (heap_alloc_new w _)
  have k6 := heap_alloc_new (w.alloc (.cells #[.int .i64 last.flow, .int .u64 last.gen] 74)) (.cells #[.int .i64 0, .int .u64 0] 74 (0, 0))
  rw [show (w.alloc (.cells #[.int .i64 last.flow, .int .u64 last.gen] 74)).heap.size = w.heap.size + 1 by simp] at k6
  have H := Lib.hid (And.intro h (And.intro hg (And.intro k4 k6)))
  obtain ⟨o1, ho1⟩ : ∃ o1, (S.filter (fun x => false || decide (ltP last x))).head? = o1 := ⟨_, rfl⟩
  have hrt := round_head_true hS.1 last
  rw [ho1] at hrt
  have HO := Lib.hid (And.intro ho (And.intro ho1 hrt))
  clear h hg k4 k6 ho ho1 hrt
  go_enter Try.func63, Try.ntmps63
  go_wp2_with fail
  generalize (w.alloc (.cells #[.int .i64 last.flow, .int .u64 last.gen] 74)).alloc (.cells #[.int .i64 0, .int .u64 0] 74) = w2 at H ⊢
  have key : Calls Try.prog 91 #[v, .agg #[.int .i64 last.flow, .int .u64 last.gen], .bool false] w2 fun e w' => e = .returned (.tuple #[.agg #[.int .i64 (o1.getD ⟨0, 0⟩).flow, .int .u64 (o1.getD ⟨0, 0⟩).gen], .bool o1.isSome]) ∧ Grows w2 w' := by
    cases o1 with
    | none => exact first_none hS last false (H.out.1.grows H.out.2.1) hl HO.out.2.1
    | some p => exact first_some hS last false (H.out.1.grows H.out.2.1) hl p HO.out.2.1
  refine key.mono ?_
  clear key
  rintro e w3 ⟨rfl, g3⟩
  have ga : Grows w3 (w3.alloc (.cells #[.int .i64 (o1.getD ⟨0, 0⟩).flow, .int .u64 (o1.getD ⟨0, 0⟩).gen] 74)) := (Ext.refl _ _).alloc _
  have k8 := heap_alloc_new w3 (.cells #[.int .i64 (o1.getD ⟨0, 0⟩).flow, .int .u64 (o1.getD ⟨0, 0⟩).gen] 74 (0, 0))
  go_upto_region 2 with fail
  have k4 := ((g3.trans ga).block _ (heap_lt H.out.2.2.1) (fun h => h)).trans H.out.2.2.1
  have k6 := ((g3.trans ga).block _ (heap_lt H.out.2.2.2) (fun h => h)).trans H.out.2.2.2
  have hg := H.out.2.1.trans (g3.trans ga)
  generalize w3.alloc (.cells #[.int .i64 (o1.getD ⟨0, 0⟩).flow, .int .u64 (o1.getD ⟨0, 0⟩).gen] 74) = w4 at k4 k6 k8 hg ⊢
  generalize w3.heap.size = b8 at k8 ⊢
  have HK := Lib.hid (And.intro hg (And.intro k4 k6))
  have hrow := H.out.1.grows hg
  clear g3 ga H
  by_cases hb : begun = true ∧ o1.isSome = true
  · obtain ⟨rfl, h1⟩ := hb
    cases o1 with
    | none => cases h1
    | some p =>
      have ho2 : o = some p := by rw [← HO.out.1, HO.out.2.2]
      subst ho2
      have p0 := cell_of_heap k8 0
      have p1 := cell_of_heap k8 1
      have q0 := cell_of_heap k6 0
      have q1 := cell_of_heap k6 1
      have f0 := frozen_of_heap k6 0
      have f1 := frozen_of_heap k6 1
      simp at p0 p1 q0 q1
      have hgs : ∀ x y : Value, Grows w ((w4.setCell ⟨w.heap.size + 1, 0, none⟩ x).setCell ⟨w.heap.size + 1, 1, none⟩ y) := fun x y =>
        Ext.setCell (Ext.setCell hg ⟨w.heap.size + 1, 0, none⟩ (.inl (Nat.le_succ _)) x) ⟨w.heap.size + 1, 1, none⟩ (.inl (Nat.le_succ _)) y
      have HG := Lib.hid hgs
      clear hgs hg k4 k6 k8 hrow
      go_wp2
      refine bodyPost_ret (v := nextV (some p)) ?_ rfl ⟨rfl, ?_⟩
      · rw [results_cell_tmp rfl]
        go_simp
        rfl
      · exact HG.out _ _
  · have ho2 : o = S.head? := by
      rw [← HO.out.1]
      cases begun with
      | false => unfold roundP; rw [if_neg (by simp)]
      | true =>
        rw [HO.out.2.2]
        cases o1 with
        | none => rfl
        | some p => exact absurd ⟨rfl, rfl⟩ hb
    have d0 := cell_of_heap k4 0
    have d1 := cell_of_heap k4 1
    simp at d0 d1
    have key2 : Calls Try.prog 91 #[v, .agg #[.int .i64 last.flow, .int .u64 last.gen], .bool true] w4 fun e w' => e = .returned (nextV o) ∧ Grows w4 w' := pfirst_any v l S hS last true w4 hrow hl o (by rw [all_head, ho2])
    have KEY := Lib.hid key2
    clear key2 hg k4 k6 k8 hrow
    have hcond : begun = false ∨ (begun = true ∧ o1 = none) := by
      cases begun with
      | false => exact .inl rfl
      | true =>
        cases o1 with
        | none => exact .inr ⟨rfl, rfl⟩
        | some p => exact absurd ⟨rfl, rfl⟩ hb
    clear hb
    rcases hcond with rfl | ⟨rfl, rfl⟩
    all_goals
      go_wp2_with fail
      refine KEY.out.mono ?_
      rintro e w5 ⟨rfl, g5⟩
      have k6 := (g5.block _ (heap_lt HK.out.2.2) (fun h => h)).trans HK.out.2.2
      have q0 := cell_of_heap k6 0
      have q1 := cell_of_heap k6 1
      have f0 := frozen_of_heap k6 0
      have f1 := frozen_of_heap k6 1
      simp at q0 q1
      have hg := HK.out.1.trans g5
      have hgs : ∀ x y : Value, Grows w ((w5.setCell ⟨w.heap.size + 1, 0, none⟩ x).setCell ⟨w.heap.size + 1, 1, none⟩ y) := fun x y =>
        Ext.setCell (Ext.setCell hg ⟨w.heap.size + 1, 0, none⟩ (.inl (Nat.le_succ _)) x) ⟨w.heap.size + 1, 1, none⟩ (.inl (Nat.le_succ _)) y
      have HG := Lib.hid hgs
      clear hgs hg k6 g5 d0 d1
      clear ho2 HO
      cases o with
      | none =>
        simp only [nextV]
        go_wp2
        refine bodyPost_ret (v := nextV none) ?_ rfl ⟨rfl, ?_⟩
        · rw [results_cell_tmp rfl]
          go_simp
          rfl
        · exact HG.out _ _
      | some c =>
        simp only [nextV]
        go_wp2
        refine bodyPost_ret (v := nextV (some c)) ?_ rfl ⟨rfl, ?_⟩
        · rw [results_cell_tmp rfl]
          go_simp
          rfl
        · exact HG.out _ _
end Go.Proofs.Ytekdggdnkmkldaa
