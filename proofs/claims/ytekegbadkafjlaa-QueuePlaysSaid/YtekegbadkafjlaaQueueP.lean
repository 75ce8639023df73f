/- QueuePlays: a queue and the answer's; rows of calls; bytes that are turned round. -/
import Derived.Test.YtekegbadkafjlaaQueueR
import Derived.Test.YtekegbadkafjlaaQueueArgs
import Derived.Test.YtekegbadkafjlaaRead
namespace Go.Proofs.Ytekegbadkafjlaa
set_option linter.unusedVariables false
set_option linter.unusedSimpArgs false
open Go.ChangeShapes Go.WideShapes Go.ChangeAt Go.RowKit

theorem wfI64q {n : Int} (h : (Lit.int .i64 n).wf = true) : -9223372036854775808 ≤ n ∧ n < 9223372036854775808 := by
  have h1 : IntKind.i64.min = -9223372036854775808 := rfl
  have h2 : IntKind.i64.max = 9223372036854775807 := rfl
  simp only [Lit.wf, Bool.and_eq_true, decide_eq_true_eq] at h
  omega
theorem cellsActQ : Try.prog.cellsOf 62 = 2 := by kernel_rfl
theorem bytesActQ : Try.prog.bytesOf 62 = 32 := by kernel_rfl
theorem cellsIntQ : Try.prog.cellsOf 3 = 1 := by kernel_rfl
structure ActV where
  what : Int
  b : List Int
def ActC (w : World) (o : ActV) (cs : List Value) : Prop := ∃ u, cs = [.int .i64 o.what, u] ∧ Bytes w u o.b
set_option maxRecDepth 100000 in
theorem Rd.act {H : Type} {enc : TypeId × Value → H} {w : World} {base : Nat} {cs : List Value} (h : Rd enc Try.prog w base 62 cs) : ∃ o, ActC w o cs := by
  obtain ⟨hc, hf⟩ := h.fields Try.underlying62
  rw [cellsActQ] at hc
  match cs, hc with
  | [c0, c1], _ =>
  have f0 : Rd enc Try.prog w _ 3 ((([c0, c1] : List Value).drop 0).take (Try.prog.cellsOf 3)) := hf 0 _ rfl
  have f1 : Rd enc Try.prog w _ 22 ((([c0, c1] : List Value).drop 1).take (Try.prog.cellsOf 22)) := hf 1 _ rfl
  simp only [cellsIntQ, cellsBytes, List.drop_zero, List.drop_succ_cons, List.take_succ_cons, List.take_zero] at f0 f1
  obtain ⟨x0, h0, w0⟩ := f0.int Try.underlying3
  obtain ⟨l, hl⟩ := f1.bytes
  simp only [List.cons.injEq, and_true] at h0
  subst h0
  exact ⟨⟨x0, l⟩, c1, rfl, hl⟩
/-- A slice of calls. -/
def Acts (w : World) (v : Value) (l : List ActV) : Prop := SliceR w v l.length 2 (fun i cs => ∃ o, l[i]? = some o ∧ ActC w o cs) ∧ l.length * 32 ≤ 140737488351232
set_option maxRecDepth 100000 in
theorem open_acts {H : Type} {enc : TypeId × Value → H} {W : World} {base b' : Nat} {v : Value} {d : DataW H} {p : List MemPlace} {ts : List TypeId} {ds : List (DataW H)} {j : Nat}
    (hv : Value.okWide Try.prog W .any b' 57 v) (h : DataW.Trod enc Try.prog W base (fun _ => true) true 57 v d p)
    (hsz : (DataW.weightsEach Try.prog ts ds).all (· ≤ reachBytes) = true) (hj : ts[j]? = some 57) (hd : ds[j]? = some d) : ∃ l, Acts W v l := by
  obtain ⟨a, len, cap, hvv⟩ := okWide_slice Try.underlying57 hv
  have h := Rd.of_arg h hsz hj hd
  rw [cells_one hvv] at h
  obtain ⟨n, cap, ⟨a, rfl⟩, hl, hw, hs⟩ := h.sliceR Try.underlying57 cellsActQ (by omega)
  rw [bytesActQ] at hw
  have hs2 := hs.mono (R' := fun _ cs => ∃ o, ActC W o cs) (fun i cs _ _ hr => hr.act)
  obtain ⟨l, hlen, hs3⟩ := hs2.choose
  subst hlen
  exact ⟨l, hs3, by simp only [reachBytes] at hw; omega⟩
theorem Acts.form {w : World} {v : Value} {xs : List ActV} (h : Acts w v xs) : ∃ a cap, v = .slice a xs.length cap := by
  rcases h.1 with ⟨a, cap, h1, h2⟩ | ⟨b, off, cap, rfl, _⟩
  · exact ⟨a, cap, by rw [h1, h2]⟩
  · exact ⟨_, _, rfl⟩
theorem Acts.at {w : World} {v : Value} {xs : List ActV} (h : Acts w v xs) (i : Nat) (hi : i < xs.length) :
    ∃ b off cap a c, v = .slice (some ⟨b, off, none⟩) xs.length cap ∧ b < w.heap.size ∧ (w.cell? ⟨b, off + i * 2, none⟩ = some (.int .i64 xs[i].what) ∧ w.cell? ⟨b, off + i * 2 + 1, none⟩ = some (.slice a xs[i].b.length c)) ∧ Bytes w (.slice a xs[i].b.length c) xs[i].b := by
  rcases h.1 with ⟨a, cap, h1, h2⟩ | ⟨b, off, cap, rfl, _, _, hb, h5⟩
  · omega
  · obtain ⟨cs, _, ⟨o, ho, u, rfl, hu⟩, hc⟩ := h5 i hi
    rw [List.getElem?_eq_getElem hi] at ho
    simp at ho
    subst ho
    obtain ⟨ua, uc, rfl⟩ : ∃ a cap, u = .slice a xs[i].b.length cap := by
      rcases hu.cases with ⟨a, cap, rfl, h0⟩ | ⟨b, off, cap, rfl, _⟩
      · exact ⟨a, cap, by rw [h0]; rfl⟩
      · exact ⟨_, cap, rfl⟩
    exact ⟨b, off, cap, ua, uc, rfl, hb, ⟨hc 0 (by omega), hc 1 (by omega)⟩, hu⟩

/-! Bytes that are written. -/
/-- At block b, n cells of bytes from off on, that may be written. -/
def Buf (w : World) (b off n : Nat) : Prop := ∃ cur ty, w.heap[b]? = some (.cells cur ty (0, 0)) ∧ ∀ i, i < n → ∃ x, cur[off + i]? = some (.int .u8 x) ∧ 0 ≤ x ∧ x < 256
theorem Buf.at {w : World} {b off n : Nat} (h : Buf w b off n) (i : Nat) (hi : i < n) : ∃ x, w.cell? ⟨b, off + i, none⟩ = some (.int .u8 x) ∧ w.frozen? ⟨b, off + i, none⟩ = false ∧ 0 ≤ x ∧ x < 256 := by
  obtain ⟨cur, ty, h1, h2⟩ := h
  obtain ⟨x, hx, hb⟩ := h2 i hi
  exact ⟨x, by rw [cell_of_heap h1]; exact hx, frozen_of_heap h1 _, hb⟩
theorem Buf.ext {S : Nat → Prop} {w w' : World} {b off n : Nat} (h : Buf w b off n) (e : Ext S w w') (hb : ¬ S b) : Buf w' b off n := by
  obtain ⟨cur, ty, h1, h2⟩ := h
  exact ⟨cur, ty, (e.block b (heap_lt h1) hb).trans h1, h2⟩
theorem Buf.lt {w : World} {b off n : Nat} (h : Buf w b off n) : b < w.heap.size := by
  obtain ⟨cur, ty, h1, _⟩ := h
  exact heap_lt h1
theorem Buf.set {w : World} {b off n : Nat} (h : Buf w b off n) (c o : Nat) (y : Int) (hy : 0 ≤ y ∧ y < 256) : Buf (w.setCell ⟨c, o, none⟩ (.int .u8 y)) b off n := by
  obtain ⟨cur, ty, h1, h2⟩ := h
  by_cases hc : b = c
  · subst hc
    refine ⟨_, ty, setCell_heap h1 o _, fun i hi => ?_⟩
    obtain ⟨x, hx, hb⟩ := h2 i hi
    by_cases ho : o = off + i
    · subst ho
      have := (Array.getElem?_eq_some_iff.1 hx).1
      exact ⟨y, by rw [Array.getElem?_setIfInBounds_self_of_lt this], hy⟩
    · exact ⟨x, by rw [Array.getElem?_setIfInBounds_ne ho]; exact hx, hb⟩
  · exact ⟨cur, ty, by rw [Below.heap_setCell _ _ _ _ (by simpa using hc)]; exact h1, h2⟩
theorem Buf.of_own {w : World} {g off cap n : Nat} {xs : List Int} (h : OwnS w 5 1 (.slice (some ⟨g, off, none⟩) n cap) xs.length (xs.map (Value.int .u8))) (hx : ∀ x ∈ xs, 0 ≤ x ∧ x < 256) : Buf w g off xs.length := by
  rcases h.2 with ⟨h0, _⟩ | ⟨g', off', cap', cur, h0, hg, hnc, hcm, hcs, hcell⟩
  · cases h0
  · injection h0 with e1 e2 e3
    injection e1 with e1
    injection e1 with e4 e5 e6
    subst e4 e5
    refine ⟨cur, _, hg, fun i hi => ⟨xs[i], ?_, hx _ (List.getElem_mem _)⟩⟩
    rw [hcell i (by omega), List.getElem?_map, List.getElem?_eq_getElem hi]
    rfl
theorem Buf.of_u8s {w : World} {b : Nat} {xs : List Int} {ty : TypeId} (h : w.heap[b]? = some (.cells (u8s xs) ty (0, 0))) (hx : ∀ x ∈ xs, 0 ≤ x ∧ x < 256) : Buf w b 0 xs.length := by
  refine ⟨_, _, h, fun i hi => ⟨xs[i], ?_, hx _ (List.getElem_mem _)⟩⟩
  rw [Nat.zero_add, u8s_get xs i hi]
  simp [List.getD, List.getElem?_eq_getElem hi]

/-! A queue and the answer's. -/
def pushE (p n l : Nat) : Int := if 70000 < l then 3 else if n = p then 7 else 0
def pushF (p : Nat) (fs : List (List Int)) (xs : List Int) : List (List Int) := if pushE p fs.length xs.length = 0 then fs ++ [xs] else fs
theorem pushE_0 {p n l : Nat} (h1 : l ≤ 70000) (h2 : n < p) : pushE p n l = 0 := by unfold pushE; rw [if_neg (by omega), if_neg (by omega)]
theorem pushE_7 {p n l : Nat} (h1 : l ≤ 70000) (h2 : n = p) : pushE p n l = 7 := by unfold pushE; rw [if_neg (by omega), if_pos h2]
theorem pushE_3 {p n l : Nat} (h1 : 70000 < l) : pushE p n l = 3 := by unfold pushE; rw [if_pos h1]
structure QPs (w wr : World) (q r p : Nat) (fs gs : List (List Int)) (Sq Sr : Nat → Prop) : Prop where
  qa : QueueAt wr q Sq p fs
  ra : RefQ wr r Sr p gs
  dis : ∀ k, Sq k → ¬ Sr k
  sq : ∀ k, Sq k → w.heap.size ≤ k ∧ k < wr.heap.size
  sr : ∀ k, Sr k → w.heap.size ≤ k ∧ k < wr.heap.size
  grows : Grows w wr
def QP (w wr : World) (q r p : Nat) (fs gs : List (List Int)) : Prop := ∃ Sq Sr, QPs w wr q r p fs gs Sq Sr
section
variable {w wr w' : World} {q r p : Nat} {fs gs : List (List Int)}
theorem QP.grows (h : QP w wr q r p fs gs) : Grows w wr := by obtain ⟨_, _, h⟩ := h; exact h.grows
theorem QP.more (h : QP w wr q r p fs gs) (g : Grows wr w') : QP w w' q r p fs gs := by
  obtain ⟨Sq, Sr, h⟩ := h
  exact ⟨Sq, Sr, h.qa.grows g, h.ra.grows g, h.dis, fun k hk => ⟨(h.sq k hk).1, Nat.lt_of_lt_of_le (h.sq k hk).2 g.size⟩, fun k hk => ⟨(h.sr k hk).1, Nat.lt_of_lt_of_le (h.sr k hk).2 g.size⟩, h.grows.trans g⟩
/-- What is written in blocks that are newer than both. -/
theorem QP.newer {w1 : World} (h : QP w wr q r p fs gs) (g : Grows wr w1) {T : Nat → Prop} (e : Ext T w1 w') (hT : ∀ k, T k → wr.heap.size ≤ k) : QP w w' q r p fs gs := by
  obtain ⟨Sq, Sr, h⟩ := h
  have e' : Ext T wr w' := g.lift.trans e
  exact ⟨Sq, Sr, h.qa.keeps e' (fun k hk hh => by have := hT k hh; have := h.sq k hk; omega), h.ra.keeps e' (fun k hk hh => by have := hT k hh; have := h.sr k hk; omega), h.dis, fun k hk => ⟨(h.sq k hk).1, Nat.lt_of_lt_of_le (h.sq k hk).2 e'.size⟩, fun k hk => ⟨(h.sr k hk).1, Nat.lt_of_lt_of_le (h.sr k hk).2 e'.size⟩, (h.grows.lift.trans e').mono (fun k hk hh => by have := hT k hh; have := h.grows.size; omega)⟩
/-- .. in blocks that are neither's, be they newer or not. -/
theorem QP.start {w1 w2 : World} (h1 : QueueAt w1 q (fun k => k = q) p []) (g0 : Grows w wr) (hq : wr.heap.size = q) (g1 : Grows wr w1) (hr : w1.heap.size = r) (h2 : RefQ w2 r (fun k => k = r) p []) (g2 : Grows w1 w2) : QP w w2 q r p [] [] := by
  have l1 := h1.lt
  have l2 := h2.lt
  have s0 := g0.size
  have s1 := g1.size
  have s2 := g2.size
  exact ⟨_, _, h1.grows g2, h2, fun k hk hh => by omega, fun k hk => by omega, fun k hk => by omega, (g0.trans g1).trans g2⟩
theorem qp_push (h : QP w wr q r p fs gs) (v : Value) (xs : List Int) (hb : Bytes wr v xs) (E : Int) (hE : pushE p fs.length xs.length = E) :
    Calls Try.prog 22 #[.pointer (some ⟨q, 0, none⟩), v] wr fun e w' => e = .returned (.int .i64 E) ∧ QP w w' q r p (pushF p fs xs) gs ∧ Ext (fun k => k = q) wr w' := by
  obtain ⟨Sq, Sr, h⟩ := h
  refine (push_any q p Sq fs v xs wr h.qa hb).mono ?_
  rintro e w' (⟨h1, rfl, g⟩ | ⟨h1, h2, rfl, g⟩ | ⟨h1, h2, rfl, h3, e1⟩)
  · rw [pushE_3 h1] at hE
    refine ⟨by rw [hE], ?_, g.lift⟩
    rw [pushF, pushE_3 h1, if_neg (by omega)]
    exact QP.more ⟨Sq, Sr, h⟩ g
  · rw [pushE_7 h1 h2] at hE
    refine ⟨by rw [hE], ?_, g.lift⟩
    rw [pushF, pushE_7 h1 h2, if_neg (by omega)]
    exact QP.more ⟨Sq, Sr, h⟩ g
  · rw [pushE_0 h1 h2] at hE
    refine ⟨by rw [hE], ?_, e1⟩
    rw [pushF, pushE_0 h1 h2, if_pos rfl]
    have hq : Sq q := by obtain ⟨_, _, _, _, hq, _⟩ := h.qa; exact hq
    have hn : ∀ k, Sr k → ¬ k = q := fun k hk e => h.dis q hq (e ▸ hk)
    refine ⟨_, Sr, h3, h.ra.keeps e1 hn, fun k hk hh => ?_, fun k hk => ?_, fun k hk => ⟨(h.sr k hk).1, Nat.lt_of_lt_of_le (h.sr k hk).2 e1.size⟩, (h.grows.lift.trans e1).mono (fun k hk hh => by have := h.sq q hq; omega)⟩
    · rcases hk with hk | hk
      · exact h.dis k hk hh
      · have := h.sr k hh; omega
    · rcases hk with hk | hk
      · exact ⟨(h.sq k hk).1, Nat.lt_of_lt_of_le (h.sq k hk).2 e1.size⟩
      · have := h.grows.size; omega
theorem qp_rpush (h : QP w wr q r p fs gs) (v : Value) (xs : List Int) (hb : Bytes wr v xs) (E : Int) (hE : pushE p gs.length xs.length = E) :
    Calls Try.prog 31 #[.pointer (some ⟨r, 0, none⟩), v] wr fun e w' => e = .returned (.int .i64 E) ∧ QP w w' q r p fs (pushF p gs xs) ∧ Ext (fun k => k = r) wr w' := by
  obtain ⟨Sq, Sr, h⟩ := h
  refine (refq_push r p Sr gs v xs wr h.ra hb).mono ?_
  rintro e w' (⟨h1, rfl, g⟩ | ⟨h1, h2, rfl, g⟩ | ⟨h1, h2, rfl, h3, e1⟩)
  · rw [pushE_3 h1] at hE
    refine ⟨by rw [hE], ?_, g.lift⟩
    rw [pushF, pushE_3 h1, if_neg (by omega)]
    exact QP.more ⟨Sq, Sr, h⟩ g
  · rw [pushE_7 h1 h2] at hE
    refine ⟨by rw [hE], ?_, g.lift⟩
    rw [pushF, pushE_7 h1 h2, if_neg (by omega)]
    exact QP.more ⟨Sq, Sr, h⟩ g
  · rw [pushE_0 h1 h2] at hE
    refine ⟨by rw [hE], ?_, e1⟩
    rw [pushF, pushE_0 h1 h2, if_pos rfl]
    have hq : Sr r := by obtain ⟨_, _, _, _, _, hq, _⟩ := h.ra; exact hq
    have hn : ∀ k, Sq k → ¬ k = r := fun k hk e => h.dis k hk (e ▸ hq)
    refine ⟨Sq, _, h.qa.keeps e1 hn, h3, fun k hk hh => ?_, fun k hk => ⟨(h.sq k hk).1, Nat.lt_of_lt_of_le (h.sq k hk).2 e1.size⟩, fun k hk => ?_, (h.grows.lift.trans e1).mono (fun k hk hh => by have := h.sr r hq; omega)⟩
    · rcases hh with hh | hh
      · exact h.dis k hk hh
      · have := h.sq k hk; omega
    · rcases hk with hk | hk
      · exact ⟨(h.sr k hk).1, Nat.lt_of_lt_of_le (h.sr k hk).2 e1.size⟩
      · have := h.grows.size; omega
theorem qp_pop_none (h : QP w wr q r p [] gs) :
    Calls Try.prog 23 #[.pointer (some ⟨q, 0, none⟩)] wr fun e w' => e = .returned (.tuple #[.slice none 0 0, .bool false]) ∧ wr = w' := by
  obtain ⟨Sq, Sr, h⟩ := h
  exact pop_empty q p Sq wr h.qa
theorem qp_pop {f : List Int} {rest : List (List Int)} (h : QP w wr q r p (f :: rest) gs) :
    Calls Try.prog 23 #[.pointer (some ⟨q, 0, none⟩)] wr fun e w' => ∃ b, e = .returned (.tuple #[.slice (some ⟨b, 0, none⟩) f.length f.length, .bool true]) ∧ Bytes w' (.slice (some ⟨b, 0, none⟩) f.length f.length) f ∧ wr.heap.size ≤ b ∧ QP w w' q r p rest gs := by
  obtain ⟨Sq, Sr, h⟩ := h
  refine (pop_any q p Sq (f :: rest) wr h.qa).mono ?_
  rintro e w' (⟨h0, _⟩ | ⟨f', rest', h0, ⟨b, hb, rfl, hh⟩, h1, e1, hx, hl⟩)
  · cases h0
  · injection h0 with e2 e3
    subst e2 e3
    have hq : Sq q := by obtain ⟨_, _, _, _, hq, _⟩ := h.qa; exact hq
    have hn : ∀ k, Sr k → ¬ k = q := fun k hk e => h.dis q hq (e ▸ hk)
    exact ⟨b, rfl, Bytes.of_heap hh rfl (Nat.le_refl _) (by unfold maxLen; omega) hx hl, hb, Sq, Sr, h1, h.ra.keeps e1 hn, h.dis, fun k hk => ⟨(h.sq k hk).1, Nat.lt_of_lt_of_le (h.sq k hk).2 e1.size⟩, fun k hk => ⟨(h.sr k hk).1, Nat.lt_of_lt_of_le (h.sr k hk).2 e1.size⟩, (h.grows.lift.trans e1).mono (fun k hk hh => by have := h.sq q hq; omega)⟩
theorem qp_rpop_none (h : QP w wr q r p fs []) :
    Calls Try.prog 32 #[.pointer (some ⟨r, 0, none⟩)] wr fun e w' => e = .returned (.tuple #[.slice none 0 0, .bool false]) ∧ wr = w' := by
  obtain ⟨Sq, Sr, h⟩ := h
  exact refq_pop_none r p Sr wr h.ra
theorem qp_rpop {f : List Int} {rest : List (List Int)} (h : QP w wr q r p fs (f :: rest)) :
    Calls Try.prog 32 #[.pointer (some ⟨r, 0, none⟩)] wr fun e w' => ∃ a c, e = .returned (.tuple #[.slice a f.length c, .bool true]) ∧ Bytes w' (.slice a f.length c) f ∧ QP w w' q r p fs rest ∧ Ext (fun k => k = r) wr w' := by
  obtain ⟨Sq, Sr, h⟩ := h
  refine (refq_pop_some r p Sr f rest wr h.ra).mono ?_
  rintro e w' ⟨a, c, rfl, hb, h1, e1⟩
  have hq : Sr r := by obtain ⟨_, _, _, _, _, hq, _⟩ := h.ra; exact hq
  have hn : ∀ k, Sq k → ¬ k = r := fun k hk e => h.dis k hk (e ▸ hq)
  exact ⟨a, c, rfl, hb, ⟨Sq, Sr, h.qa.keeps e1 hn, h1, h.dis, fun k hk => ⟨(h.sq k hk).1, Nat.lt_of_lt_of_le (h.sq k hk).2 e1.size⟩, fun k hk => ⟨(h.sr k hk).1, Nat.lt_of_lt_of_le (h.sr k hk).2 e1.size⟩, (h.grows.lift.trans e1).mono (fun k hk hh => by have := h.sr r hq; omega)⟩, e1⟩
theorem qp_peek_none (h : QP w wr q r p [] gs) :
    Calls Try.prog 26 #[.pointer (some ⟨q, 0, none⟩)] wr fun e w' => e = .returned (.tuple #[.slice none 0 0, .bool false]) ∧ wr = w' := by
  obtain ⟨Sq, Sr, h⟩ := h
  refine (peek_any q p Sq [] wr h.qa).mono ?_
  rintro e w' (⟨_, rfl, rfl⟩ | ⟨f', rest', h0, _⟩)
  · exact ⟨rfl, rfl⟩
  · cases h0
theorem qp_peek {f : List Int} {rest : List (List Int)} (h : QP w wr q r p (f :: rest) gs) :
    Calls Try.prog 26 #[.pointer (some ⟨q, 0, none⟩)] wr fun e w' => ∃ b, e = .returned (.tuple #[.slice (some ⟨b, 0, none⟩) f.length f.length, .bool true]) ∧ Bytes w' (.slice (some ⟨b, 0, none⟩) f.length f.length) f ∧ wr.heap.size ≤ b ∧ Buf w' b 0 f.length ∧ Grows wr w' := by
  obtain ⟨Sq, Sr, h⟩ := h
  refine (peek_any q p Sq (f :: rest) wr h.qa).mono ?_
  rintro e w' (⟨h0, _⟩ | ⟨f', rest', h0, ⟨b, hb, rfl, hh⟩, e1, hx, hl⟩)
  · cases h0
  · injection h0 with e2 e3
    subst e2 e3
    exact ⟨b, rfl, Bytes.of_heap hh rfl (Nat.le_refl _) (by unfold maxLen; omega) hx hl, hb, Buf.of_u8s hh hx, e1⟩
end
end Go.Proofs.Ytekegbadkafjlaa
