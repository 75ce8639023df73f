/- link: what a round holds, and its steps. -/
import Derived.Test.YtekdggdnkmkldaaLinkG
namespace Go.Proofs.Ytekdggdnkmkldaa
set_option linter.unusedVariables false
set_option linter.unusedSimpArgs false
set_option maxRecDepth 1500
open Go.ChangeShapes Go.WideShapes Go.ChangeAt Go.RowKit Go.Maps

def OutO (o n : Nat) (x : OutV) : Frm → World → Prop := fun z w => OutAt z w o n x
theorem parts_outo (o n : Nat) (x : OutV) : Parts (OutO o n x) := parts_out o n x
def SlR (v : Value) (l : List RankA) : Frm → World → Prop := SlO 62 2 v l.length (acells l)
theorem parts_slr (v : Value) (l : List RankA) : Parts (SlR v l) := parts_sl _ _ _ _ _
def RS6 (B O G M V0 V1 : Frm → World → Prop) : Frm → World → Prop := Star (Star (Star (Star (Star B O) G) M) V0) V1
def RS (B O G M V0 V1 T : Frm → World → Prop) : Frm → World → Prop := Star (RS6 B O G M V0 V1) T
section
variable {B O G M V0 V1 T : Frm → World → Prop}
theorem parts_rs6 (pB : Parts B) (pO : Parts O) (pG : Parts G) (pM : Parts M) (p0 : Parts V0) (p1 : Parts V1) : Parts (RS6 B O G M V0 V1) := parts_star (parts_star (parts_star (parts_star (parts_star pB pO) pG) pM) p0) p1
theorem ctx6_1 (pB : Parts B) (pO : Parts O) (pG : Parts G) (pM : Parts M) (p0 : Parts V0) : Ctx (fun X => RS6 B O G M V0 X) := Ctx.right (parts_star (parts_star (parts_star (parts_star pB pO) pG) pM) p0)
theorem ctx6_0 (pB : Parts B) (pO : Parts O) (pG : Parts G) (pM : Parts M) (p1 : Parts V1) : Ctx (fun X => RS6 B O G M X V1) := Ctx.comp (Ctx.left p1) (Ctx.right (parts_star (parts_star (parts_star pB pO) pG) pM))
theorem ctx6_M (pB : Parts B) (pO : Parts O) (pG : Parts G) (p0 : Parts V0) (p1 : Parts V1) : Ctx (fun X => RS6 B O G X V0 V1) := Ctx.comp (Ctx.left p1) (Ctx.comp (Ctx.left p0) (Ctx.right (parts_star (parts_star pB pO) pG)))
theorem ctx6_G (pB : Parts B) (pO : Parts O) (pM : Parts M) (p0 : Parts V0) (p1 : Parts V1) : Ctx (fun X => RS6 B O X M V0 V1) := Ctx.comp (Ctx.left p1) (Ctx.comp (Ctx.left p0) (Ctx.comp (Ctx.left pM) (Ctx.right (parts_star pB pO))))
theorem ctx6_O (pB : Parts B) (pG : Parts G) (pM : Parts M) (p0 : Parts V0) (p1 : Parts V1) : Ctx (fun X => RS6 B X G M V0 V1) := Ctx.comp (Ctx.left p1) (Ctx.comp (Ctx.left p0) (Ctx.comp (Ctx.left pM) (Ctx.comp (Ctx.left pG) (Ctx.right pB))))
theorem ctx6_B (pO : Parts O) (pG : Parts G) (pM : Parts M) (p0 : Parts V0) (p1 : Parts V1) : Ctx (fun X => RS6 X O G M V0 V1) := Ctx.comp (Ctx.left p1) (Ctx.comp (Ctx.left p0) (Ctx.comp (Ctx.left pM) (Ctx.comp (Ctx.left pG) (Ctx.left pO))))
end
/-- What stands in X. -/
theorem Ctx.get {S : (Frm → World → Prop) → Frm → World → Prop} (c : Ctx S) {X : Frm → World → Prop} {z : Frm} {w : World} (h : S X z w) : ∃ F : Nat → Prop, X ⟨w, F⟩ w := by
  obtain ⟨F, h1, _⟩ := c.foc h
  exact ⟨F, h1⟩
theorem Ctx.calls {S : (Frm → World → Prop) → Frm → World → Prop} (c : Ctx S) {X X' : Frm → World → Prop} (p : Parts X') {z : Frm} {w : World} (h : S X z w) {P : Program} {f : Nat} {args : Array Value} {Q : Ending → World → Prop} (op : ∀ z, X z w → Calls P f args w fun e w' => Q e w' ∧ X' z w') : Calls P f args w fun e w' => Q e w' ∧ S X' z w' := by
  obtain ⟨F, h1, _, h3⟩ := c.foc h
  refine (op _ h1).mono ?_
  rintro e w' ⟨q, a⟩
  exact ⟨q, h3 p a⟩

/-- The out, once f flows were told. -/
def RoundV.x (rv : RoundV) : Nat → OutV
  | 0 => (newV 1 2).credit 1 1 1000
  | f + 1 => (rv.x f).tell f (rv.toldV f)
theorem RoundV.x_feed0 (rv : RoundV) (ok : rv.okay) : feedE (rv.x 0) 0 1 1 (rv.b 0) (rv.toldR 0 20) = 0 ∧ (rv.x 0).feed 0 1 1 (rv.b 0) (rv.toldR 0 20) = rv.x 1 := by
  have h : feedE (rv.x 0) 0 1 1 (rv.b 0) (rv.toldR 0 20) = 0 := by
    show takeRE 0 0 1 1 (rv.b 0) (rv.toldR 0 20) = 0
    unfold takeRE
    rw [rv.told_may ok 0, if_pos rfl]
    rfl
  refine ⟨h, ?_⟩
  unfold OutV.feed
  rw [h, if_pos rfl]
  rfl
theorem RoundV.x_feed1 (rv : RoundV) (ok : rv.okay) : feedE (rv.x 1) 1 1 1 (rv.b 1) (rv.toldR 1 20) = 0 ∧ (rv.x 1).feed 1 1 1 (rv.b 1) (rv.toldR 1 20) = rv.x 2 := by
  have h : feedE (rv.x 1) 1 1 1 (rv.b 1) (rv.toldR 1 20) = 0 := by
    show takeRE 0 0 1 1 (rv.b 1) (rv.toldR 1 20) = 0
    unfold takeRE
    rw [rv.told_may ok 1, if_pos rfl]
    rfl
  refine ⟨h, ?_⟩
  unfold OutV.feed
  rw [h, if_pos rfl]
  rfl
theorem kr1 : takeE (newV 1 2).own (newV 1 2).peer 1 1 1000 = 0 := by kernel_rfl

section
variable {B O G M V0 V1 T : Frm → World → Prop} {z : Frm} {w w1 w3 : World}
theorem parts_rs (pB : Parts B) (pO : Parts O) (pG : Parts G) (pM : Parts M) (p0 : Parts V0) (p1 : Parts V1) (pT : Parts T) : Parts (RS B O G M V0 V1 T) := parts_star (parts_rs6 pB pO pG pM p0 p1) pT
theorem ctx_T (pB : Parts B) (pO : Parts O) (pG : Parts G) (pM : Parts M) (p0 : Parts V0) (p1 : Parts V1) : Ctx (fun X => RS B O G M V0 V1 X) := Ctx.right (parts_rs6 pB pO pG pM p0 p1)
theorem ctx_1 (pB : Parts B) (pO : Parts O) (pG : Parts G) (pM : Parts M) (p0 : Parts V0) (pT : Parts T) : Ctx (fun X => RS B O G M V0 X T) := Ctx.comp (Ctx.left pT) (ctx6_1 pB pO pG pM p0)
theorem ctx_0 (pB : Parts B) (pO : Parts O) (pG : Parts G) (pM : Parts M) (p1 : Parts V1) (pT : Parts T) : Ctx (fun X => RS B O G M X V1 T) := Ctx.comp (Ctx.left pT) (ctx6_0 pB pO pG pM p1)
theorem ctx_M (pB : Parts B) (pO : Parts O) (pG : Parts G) (p0 : Parts V0) (p1 : Parts V1) (pT : Parts T) : Ctx (fun X => RS B O G X V0 V1 T) := Ctx.comp (Ctx.left pT) (ctx6_M pB pO pG p0 p1)
theorem ctx_G (pB : Parts B) (pO : Parts O) (pM : Parts M) (p0 : Parts V0) (p1 : Parts V1) (pT : Parts T) : Ctx (fun X => RS B O X M V0 V1 T) := Ctx.comp (Ctx.left pT) (ctx6_G pB pO pM p0 p1)
theorem ctx_O (pB : Parts B) (pG : Parts G) (pM : Parts M) (p0 : Parts V0) (p1 : Parts V1) (pT : Parts T) : Ctx (fun X => RS B X G M V0 V1 T) := Ctx.comp (Ctx.left pT) (ctx6_O pB pG pM p0 p1)
theorem ctx_B (pO : Parts O) (pG : Parts G) (pM : Parts M) (p0 : Parts V0) (p1 : Parts V1) (pT : Parts T) : Ctx (fun X => RS X O G M V0 V1 T) := Ctx.comp (Ctx.left pT) (ctx6_B pO pG pM p0 p1)
/-- A slice of ranks grows. -/
theorem Ctx.slr {S : (Frm → World → Prop) → Frm → World → Prop} (c : Ctx S) {v v' : Value} {l : List RankA} (r : RankA) (h : S (SlR v l) z w) (g : Grows w w1) (ho : OwnS w3 62 2 v' (l.length + 1) (acells l ++ [.int .u64 r.gen, .int .i64 r.rank])) (hg : w1.grownBy w3 v.ownBlock) (hb : v'.ownBlock = v.ownBlock ∨ v'.ownBlock = some w1.heap.size) : S (SlR v' (l ++ [r])) z w3 := by
  obtain ⟨F, h1, _, h3⟩ := c.foc h
  refine h3 (parts_slr _ _) ?_
  have h4 := SlO.append (m := 1) h1 g ho hg hb
  unfold SlR
  rw [List.length_append, acells_append]
  exact h4
theorem Ctx.own {S : (Frm → World → Prop) → Frm → World → Prop} (c : Ctx S) {v : Value} {l : List RankA} (h : S (SlR v l) z w) : OwnS w 62 2 v l.length (acells l) := by
  obtain ⟨F, h1, _⟩ := c.foc h
  exact h1.1
theorem Ctx.blk {S : (Frm → World → Prop) → Frm → World → Prop} (c : Ctx S) {b : Nat} {o : Obj} (h : S (Blk b o) z w) : w.heap[b]? = some o := by
  obtain ⟨F, h1, _⟩ := c.foc h
  exact h1.1
/-- A cell of a block is written. -/
theorem Ctx.set {S : (Frm → World → Prop) → Frm → World → Prop} (c : Ctx S) {b : Nat} {cur : Array Value} {ty : TypeId} (i : Nat) (u : Value) (h : S (Blk b (.cells cur ty (0, 0))) z w) : S (Blk b (.cells (cur.setIfInBounds i u) ty (0, 0))) z (w.setCell ⟨b, i, none⟩ u) := by
  obtain ⟨F, h1, _, h3⟩ := c.foc h
  have hF : F b := h1.2.1.elim (fun g => absurd (heap_lt h1.1) (Nat.not_lt.2 g)) id
  exact h3 (parts_blk _ _) ⟨setCell_heap h1.1 i u, .inr hF, Ext.setCell (S := F) (Ext.refl _ _) ⟨b, i, none⟩ (.inr hF) u⟩
/-- A place is wanted. -/
theorem Ctx.want {S : (Frm → World → Prop) → Frm → World → Prop} (c : Ctx S) {b : Nat} {L : List PlaceV} (h : S (MapW b L) z w) (p : PlaceV) (hp : p.okay) (hn : p ∉ L) : ∃ (D : DataW Unit) (kl : Lit), w.ownsMap Try.prog 31 (plainElem Try.prog 3) b L.length D ∧ keyOf Try.prog 31 (.agg #[.int .i64 p.flow, .int .u64 p.gen]) = some kl ∧
    ∀ w' : World, w'.ownsMap Try.prog 31 (plainElem Try.prog 3) b (L.length + 1) (D.put kl (.lit (.int .i64 1))) → w.grownBy w' (some b) → S (MapW b (L ++ [p])) z w' := by
  obtain ⟨F, h1, _, h3⟩ := c.foc h
  have hF : F b := h1.2.1.elim (fun g => absurd h1.lt (Nat.not_lt.2 g)) id
  obtain ⟨⟨D, d1, d2, d3, d4⟩, _⟩ := h1
  obtain ⟨kl, hkl⟩ := keyPl p hp
  exact ⟨D, kl, d1, hkl, fun w' h5 h6 => h3 (parts_mapw _ _) (MapW.put d2 d3 d4 p hp hn hkl h5 h6 hF)⟩
end
theorem RoundV.own_succ (rv : RoundV) (f k : Nat) : rv.ownR f (k + 1) = rv.ownR f k ++ if rv.pOwn f k then [⟨rv.b f + k, (rv.own f k : Int)⟩] else [] := rg_succ _ _ _
theorem RoundV.told_succ (rv : RoundV) (f k : Nat) : rv.toldR f (k + 1) = rv.toldR f k ++ if rv.pTold f k then [⟨rv.b f + k, (rv.told f k : Int)⟩] else [] := rg_succ _ _ _
theorem RoundV.want_succ (rv : RoundV) (f k : Nat) : rv.wantP f (k + 1) = rv.wantP f k ++ if rv.pWant f k then [⟨(f : Int), rv.b f + k⟩] else [] := rg_succ _ _ _
theorem RoundV.own_len (rv : RoundV) (f k : Nat) : (rv.ownR f k).length ≤ k := rg_len _ _ _
theorem RoundV.told_len (rv : RoundV) (f k : Nat) : (rv.toldR f k).length ≤ k := rg_len _ _ _
theorem RoundV.want_len (rv : RoundV) (f k : Nat) : (rv.wantP f k).length ≤ k := rg_len _ _ _
theorem RoundV.want_new (rv : RoundV) (f k : Nat) : (⟨(f : Int), rv.b f + k⟩ : PlaceV) ∉ rv.wantP f k := fun h => by
  obtain ⟨i, hi, h2⟩ := rv.mem_want h
  have : rv.b f + k = rv.b f + i := congrArg PlaceV.gen h2
  omega
theorem RoundV.want_new1 (rv : RoundV) (k : Nat) : (⟨((1 : Nat) : Int), rv.b 1 + k⟩ : PlaceV) ∉ rv.wantP 0 20 ++ rv.wantP 1 k := fun h => by
  rcases List.mem_append.1 h with h | h
  · obtain ⟨i, hi, h2⟩ := rv.mem_want h
    have : ((1 : Nat) : Int) = ((0 : Nat) : Int) := congrArg PlaceV.flow h2
    omega
  · exact rv.want_new 1 k h
theorem RoundV.pl_ok (rv : RoundV) (f k : Nat) (hf : f < 2) (hk : k < 20) : (⟨(f : Int), rv.b f + k⟩ : PlaceV).okay := by
  have := rv.b_lt f
  refine ⟨⟨?_, ?_⟩, ?_⟩
  · show (-9223372036854775808 : Int) ≤ (f : Int); omega
  · show (f : Int) < 9223372036854775808; omega
  · show rv.b f + k < 18446744073709551616; omega
theorem RoundV.own_ok (rv : RoundV) (ok : rv.okay) (f k : Nat) (hk : k ≤ 20) : ∀ r ∈ rv.ownR f k, r.okay := fun r hr => by
  unfold RoundV.ownR at hr
  obtain ⟨i, hi, rfl⟩ := List.mem_map.1 hr
  have h1 := rv.b_lt f
  have h2 := ok.own f i
  have h3 : i < k := List.mem_range.1 (List.mem_filter.1 hi).1
  refine ⟨?_, ?_, ?_⟩
  · show rv.b f + i < 18446744073709551616; omega
  · show (-9223372036854775808 : Int) ≤ (rv.own f i : Int); omega
  · show (rv.own f i : Int) < 9223372036854775808; omega
theorem RoundV.told_ok (rv : RoundV) (ok : rv.okay) (f k : Nat) (hk : k ≤ 20) : ∀ r ∈ rv.toldR f k, r.okay := fun r hr => by
  unfold RoundV.toldR at hr
  obtain ⟨i, hi, rfl⟩ := List.mem_map.1 hr
  have h1 := rv.b_lt f
  have h2 := ok.told f i
  have h3 : i < k := List.mem_range.1 (List.mem_filter.1 hi).1
  refine ⟨?_, ?_, ?_⟩
  · show rv.b f + i < 18446744073709551616; omega
  · show (-9223372036854775808 : Int) ≤ (rv.told f i : Int); omega
  · show (rv.told f i : Int) < 9223372036854775808; omega
def BO (b1 : Nat) (cs : Array Value) : Frm → World → Prop := Blk b1 (.cells cs 58 (0, 0))
def GO (g : Nat) (v0 v1 : Value) : Frm → World → Prop := Blk g (.cells #[v0, v1] 60 (0, 0))
theorem parts_bo (b1 : Nat) (cs : Array Value) : Parts (BO b1 cs) := parts_blk _ _
theorem parts_go (g : Nat) (v0 v1 : Value) : Parts (GO g v0 v1) := parts_blk _ _
/-- Between two flows. -/
def FL (rv : RoundV) (b1 : Nat) (cs : Array Value) (o g bm : Nat) : Nat → Frm → World → Prop
  | 0 => RS6 (BO b1 cs) (OutO o 0 (rv.x 0)) (GO g (.slice none 0 0) (.slice none 0 0)) (MapW bm []) (SlR (.slice none 0 0) []) (SlR (.slice none 0 0) [])
  | 1 => fun z w => ∃ v0, RS6 (BO b1 cs) (OutO o 0 (rv.x 1)) (GO g v0 (.slice none 0 0)) (MapW bm (rv.wantP 0 20)) (SlR v0 (rv.ownR 0 20)) (SlR (.slice none 0 0) []) z w
  | _ => fun z w => ∃ v0 v1, RS6 (BO b1 cs) (OutO o 0 (rv.x 2)) (GO g v0 v1) (MapW bm rv.WL) (SlR v0 (rv.ownR 0 20)) (SlR v1 (rv.ownR 1 20)) z w
/-- Within flow f: a of its own ranks, t of those that are told, m of the places are done. -/
structure Inn (rv : RoundV) (b1 : Nat) (cs : Array Value) (o g bm f : Nat) (S : Nat → Nat → Nat → Value → Value → Frm → World → Prop) : Prop where
  bo : ∀ {a t m va vt z w}, S a t m va vt z w → w.heap[b1]? = some (.cells cs 58 (0, 0))
  go : ∀ {a t m va vt z w}, S a t m va vt z w → w.cell? ⟨g, f, none⟩ = some va ∧ w.frozen? ⟨g, f, none⟩ = false
  own : ∀ {a t m va vt z w}, S a t m va vt z w → OwnS w 62 2 va (rv.ownR f a).length (acells (rv.ownR f a))
  told : ∀ {a t m va vt z w}, S a t m va vt z w → OwnS w 62 2 vt (rv.toldR f t).length (acells (rv.toldR f t))
  more : ∀ {a t m va vt z w w'}, S a t m va vt z w → Grows w w' → S a t m va vt z w'
  ownY : ∀ {a t m va va' vt z w w1 w3}, S a t m va vt z w → rv.pOwn f a = true → Grows w w1 → OwnS w3 62 2 va' ((rv.ownR f a).length + 1) (acells (rv.ownR f a) ++ [.int .u64 ((rv.b f + a : Nat) : Int), .int .i64 (rv.own f a : Nat)]) → w1.grownBy w3 va.ownBlock → (va'.ownBlock = va.ownBlock ∨ va'.ownBlock = some w1.heap.size) →
    S (a + 1) t m va' vt z (w3.setCell ⟨g, f, none⟩ va') ∧ w3.cell? ⟨g, f, none⟩ = some va ∧ w3.frozen? ⟨g, f, none⟩ = false
  ownN : ∀ {a t m va vt z w}, S a t m va vt z w → ¬ rv.pOwn f a = true → S (a + 1) t m va vt z w
  toldY : ∀ {a t m va vt vt' z w w1 w3}, S a t m va vt z w → rv.pTold f t = true → Grows w w1 → OwnS w3 62 2 vt' ((rv.toldR f t).length + 1) (acells (rv.toldR f t) ++ [.int .u64 ((rv.b f + t : Nat) : Int), .int .i64 (rv.told f t : Nat)]) → w1.grownBy w3 vt.ownBlock → (vt'.ownBlock = vt.ownBlock ∨ vt'.ownBlock = some w1.heap.size) → S a (t + 1) m va vt' z w3
  toldN : ∀ {a t m va vt z w}, S a t m va vt z w → ¬ rv.pTold f t = true → S a (t + 1) m va vt z w
  wantY : ∀ {a t m va vt z w}, S a t m va vt z w → rv.pWant f m = true → m < 20 → ∃ (D : DataW Unit) (n : Nat) (kl : Lit), n ≤ 40 ∧ w.ownsMap Try.prog 31 (plainElem Try.prog 3) bm n D ∧ keyOf Try.prog 31 (.agg #[.int .i64 (f : Nat), .int .u64 ((rv.b f + m : Nat) : Int)]) = some kl ∧
    ∀ w' : World, w'.ownsMap Try.prog 31 (plainElem Try.prog 3) bm (n + 1) (D.put kl (.lit (.int .i64 1))) → w.grownBy w' (some bm) → S a t (m + 1) va vt z w'
  wantN : ∀ {a t m va vt z w}, S a t m va vt z w → ¬ rv.pWant f m = true → S a t (m + 1) va vt z w
  feed : ∀ {va vt z w}, S 20 20 20 va vt z w → Calls Try.prog 11 #[.pointer (some ⟨o, 0, none⟩), .int .i64 (f : Nat), .int .u64 1, .int .u64 1, .int .u64 (rv.b f : Nat), vt] w fun e w' => e = .returned (.int .i64 0) ∧ FL rv b1 cs o g bm (f + 1) z w'
theorem two_cell {w : World} {g : Nat} {v0 v1 : Value} {ty : TypeId} (h : w.heap[g]? = some (.cells #[v0, v1] ty (0, 0))) : (w.cell? ⟨g, 0, none⟩ = some v0 ∧ w.frozen? ⟨g, 0, none⟩ = false) ∧ w.cell? ⟨g, 1, none⟩ = some v1 ∧ w.frozen? ⟨g, 1, none⟩ = false := by
  refine ⟨⟨?_, frozen_of_heap h 0⟩, ?_, frozen_of_heap h 1⟩ <;> (rw [cell_of_heap h]; rfl)
theorem newA (rv : RoundV) (m : Nat) : (⟨((0 : Nat) : Int), rv.b 0 + m⟩ : PlaceV) ∉ rv.wantP 0 m := rv.want_new 0 m
def IA (rv : RoundV) (b1 : Nat) (cs : Array Value) (o g bm : Nat) (a t m : Nat) (va vt : Value) : Frm → World → Prop := RS (BO b1 cs) (OutO o 0 (rv.x 0)) (GO g va (.slice none 0 0)) (MapW bm (rv.wantP 0 m)) (SlR va (rv.ownR 0 a)) (SlR (.slice none 0 0) []) (SlR vt (rv.toldR 0 t))
def IB (rv : RoundV) (b1 : Nat) (cs : Array Value) (o g bm : Nat) (v0 : Value) (a t m : Nat) (va vt : Value) : Frm → World → Prop := RS (BO b1 cs) (OutO o 0 (rv.x 1)) (GO g v0 va) (MapW bm (rv.wantP 0 20 ++ rv.wantP 1 m)) (SlR v0 (rv.ownR 0 20)) (SlR va (rv.ownR 1 a)) (SlR vt (rv.toldR 1 t))
section
variable {rv : RoundV} {b1 : Nat} {cs : Array Value} {o g bm : Nat} {v0 : Value}
theorem cA_B {a t m va vt} : Ctx (fun X => RS X (OutO o 0 (rv.x 0)) (GO g va (.slice none 0 0)) (MapW bm (rv.wantP 0 m)) (SlR va (rv.ownR 0 a)) (SlR (.slice none 0 0) []) (SlR vt (rv.toldR 0 t))) := ctx_B (parts_outo _ _ _) (parts_go _ _ _) (parts_mapw _ _) (parts_slr _ _) (parts_slr _ _) (parts_slr _ _)
theorem cA_G {a t m va vt} : Ctx (fun X => RS (BO b1 cs) (OutO o 0 (rv.x 0)) X (MapW bm (rv.wantP 0 m)) (SlR va (rv.ownR 0 a)) (SlR (.slice none 0 0) []) (SlR vt (rv.toldR 0 t))) := ctx_G (parts_bo _ _) (parts_outo _ _ _) (parts_mapw _ _) (parts_slr _ _) (parts_slr _ _) (parts_slr _ _)
theorem cA_G2 {a t m va vt} {r : RankA} : Ctx (fun X => RS (BO b1 cs) (OutO o 0 (rv.x 0)) X (MapW bm (rv.wantP 0 m)) (SlR va (rv.ownR 0 a ++ [r])) (SlR (.slice none 0 0) []) (SlR vt (rv.toldR 0 t))) := ctx_G (parts_bo _ _) (parts_outo _ _ _) (parts_mapw _ _) (parts_slr _ _) (parts_slr _ _) (parts_slr _ _)
theorem cA_V {t m va vt} : Ctx (fun X => RS (BO b1 cs) (OutO o 0 (rv.x 0)) (GO g va (.slice none 0 0)) (MapW bm (rv.wantP 0 m)) X (SlR (.slice none 0 0) []) (SlR vt (rv.toldR 0 t))) := ctx_0 (parts_bo _ _) (parts_outo _ _ _) (parts_go _ _ _) (parts_mapw _ _) (parts_slr _ _) (parts_slr _ _)
theorem cA_T {a m va} : Ctx (fun X => RS (BO b1 cs) (OutO o 0 (rv.x 0)) (GO g va (.slice none 0 0)) (MapW bm (rv.wantP 0 m)) (SlR va (rv.ownR 0 a)) (SlR (.slice none 0 0) []) X) := ctx_T (parts_bo _ _) (parts_outo _ _ _) (parts_go _ _ _) (parts_mapw _ _) (parts_slr _ _) (parts_slr _ _)
theorem cA_M {a t va vt} : Ctx (fun X => RS (BO b1 cs) (OutO o 0 (rv.x 0)) (GO g va (.slice none 0 0)) X (SlR va (rv.ownR 0 a)) (SlR (.slice none 0 0) []) (SlR vt (rv.toldR 0 t))) := ctx_M (parts_bo _ _) (parts_outo _ _ _) (parts_go _ _ _) (parts_slr _ _) (parts_slr _ _) (parts_slr _ _)
theorem pA {a t m va vt} : Parts (IA rv b1 cs o g bm a t m va vt) := parts_rs (parts_bo _ _) (parts_outo _ _ _) (parts_go _ _ _) (parts_mapw _ _) (parts_slr _ _) (parts_slr _ _) (parts_slr _ _)
theorem inn_A (ok : rv.okay) : Inn rv b1 cs o g bm 0 (IA rv b1 cs o g bm) where
  bo := fun h => (cA_B).blk h
  go := fun h => by
    have := two_cell ((cA_G).blk h)
    exact this.1
  own := fun h => (cA_V).own h
  told := fun h => (cA_T).own h
  more := fun h g => (pA).more h g
  ownN := fun {a t m va vt z w} h hp => by
    have h1 : rv.ownR 0 (a + 1) = rv.ownR 0 a := by rw [rv.own_succ, if_neg hp, List.append_nil]
    unfold IA
    rw [h1]
    exact h
  toldN := fun {a t m va vt z w} h hp => by
    have h1 : rv.toldR 0 (t + 1) = rv.toldR 0 t := by rw [rv.told_succ, if_neg hp, List.append_nil]
    unfold IA
    rw [h1]
    exact h
  wantN := fun {a t m va vt z w} h hp => by
    have h1 : rv.wantP 0 (m + 1) = rv.wantP 0 m := by rw [rv.want_succ, if_neg hp, List.append_nil]
    unfold IA
    rw [h1]
    exact h
  toldY := fun {a t m va vt vt' z w w1 w3} h hp g ho hg hb => by
    have h1 : rv.toldR 0 (t + 1) = rv.toldR 0 t ++ [⟨rv.b 0 + t, (rv.told 0 t : Int)⟩] := by rw [rv.told_succ, if_pos hp]
    unfold IA
    rw [h1]
    exact (cA_T).slr ⟨rv.b 0 + t, (rv.told 0 t : Int)⟩ h g ho hg hb
  ownY := fun {a t m va va' vt z w w1 w3} h hp g ho hg hb => by
    have h1 : rv.ownR 0 (a + 1) = rv.ownR 0 a ++ [⟨rv.b 0 + a, (rv.own 0 a : Int)⟩] := by rw [rv.own_succ, if_pos hp]
    have h2 := (cA_V).slr ⟨rv.b 0 + a, (rv.own 0 a : Int)⟩ h g ho hg hb
    have h3 := (cA_G2).set 0 va' h2
    refine ⟨?_, ?_⟩
    · unfold IA
      rw [h1]
      exact h3
    · have := two_cell ((cA_G2).blk h2)
      exact this.1
  wantY := fun {a t m va vt z w} h hp hm => by
    have h1 : rv.wantP 0 (m + 1) = rv.wantP 0 m ++ [⟨((0 : Nat) : Int), rv.b 0 + m⟩] := by rw [rv.want_succ, if_pos hp]
    have hl1 := rv.want_len 0 20
    have hl2 := rv.want_len 0 m
    obtain ⟨D, kl, d1, d2, d3⟩ := (cA_M).want h ⟨((0 : Nat) : Int), rv.b 0 + m⟩ (rv.pl_ok 0 m (by omega) hm) (newA rv m)
    refine ⟨D, _, kl, ?_, d1, d2, fun w' h5 h6 => ?_⟩
    · (try rw [List.length_append]); omega
    · have := d3 w' h5 h6
      unfold IA
      rw [h1]
      (try rw [← List.append_assoc])
      exact this
  feed := fun {va vt z w} h => by
    have ho := (cA_T (a := 20) (m := 20) (va := va)).own h
    have hr := fun (w : World) (h : OwnS w 62 2 vt (rv.toldR 0 20).length (acells (rv.toldR 0 20))) => rs_of_sl h rfl (rv.told_ok ok 0 20 (Nat.le_refl _)) (Nat.le_trans (rv.told_len 0 20) (by omega))
    have h2 : RS6 (BO b1 cs) (OutO o 0 (rv.x 0)) (GO g va (.slice none 0 0)) (MapW bm (rv.wantP 0 20)) (SlR va (rv.ownR 0 20)) (SlR (.slice none 0 0) []) z w := Star.l (parts_rs6 (parts_bo _ _) (parts_outo _ _ _) (parts_go _ _ _) (parts_mapw _ _) (parts_slr _ _) (parts_slr _ _)) h
    refine ((ctx6_O (parts_bo b1 cs) (parts_go g va (.slice none 0 0)) (parts_mapw bm (rv.wantP 0 20)) (parts_slr va (rv.ownR 0 20)) (parts_slr (.slice none 0 0) [])).calls (Q := fun e _ => e = .returned (.int .i64 0)) (parts_outo o 0 (rv.x 1)) h2 (fun z h => (rv.x_feed0 ok).2 ▸ out_feed h 0 1 1 (rv.b 0) vt (rv.toldR 0 20) (hr _ ho) (by have := rv.b_lt 0; omega) 0 (rv.x_feed0 ok).1)).mono ?_
    rintro e w' ⟨rfl, h3⟩
    exact ⟨rfl, va, h3⟩
theorem cB_B {a t m va vt} : Ctx (fun X => RS X (OutO o 0 (rv.x 1)) (GO g v0 va) (MapW bm (rv.wantP 0 20 ++ rv.wantP 1 m)) (SlR v0 (rv.ownR 0 20)) (SlR va (rv.ownR 1 a)) (SlR vt (rv.toldR 1 t))) := ctx_B (parts_outo _ _ _) (parts_go _ _ _) (parts_mapw _ _) (parts_slr _ _) (parts_slr _ _) (parts_slr _ _)
theorem cB_G {a t m va vt} : Ctx (fun X => RS (BO b1 cs) (OutO o 0 (rv.x 1)) X (MapW bm (rv.wantP 0 20 ++ rv.wantP 1 m)) (SlR v0 (rv.ownR 0 20)) (SlR va (rv.ownR 1 a)) (SlR vt (rv.toldR 1 t))) := ctx_G (parts_bo _ _) (parts_outo _ _ _) (parts_mapw _ _) (parts_slr _ _) (parts_slr _ _) (parts_slr _ _)
theorem cB_G2 {a t m va vt} {r : RankA} : Ctx (fun X => RS (BO b1 cs) (OutO o 0 (rv.x 1)) X (MapW bm (rv.wantP 0 20 ++ rv.wantP 1 m)) (SlR v0 (rv.ownR 0 20)) (SlR va (rv.ownR 1 a ++ [r])) (SlR vt (rv.toldR 1 t))) := ctx_G (parts_bo _ _) (parts_outo _ _ _) (parts_mapw _ _) (parts_slr _ _) (parts_slr _ _) (parts_slr _ _)
theorem cB_V {t m va vt} : Ctx (fun X => RS (BO b1 cs) (OutO o 0 (rv.x 1)) (GO g v0 va) (MapW bm (rv.wantP 0 20 ++ rv.wantP 1 m)) (SlR v0 (rv.ownR 0 20)) X (SlR vt (rv.toldR 1 t))) := ctx_1 (parts_bo _ _) (parts_outo _ _ _) (parts_go _ _ _) (parts_mapw _ _) (parts_slr _ _) (parts_slr _ _)
theorem cB_T {a m va} : Ctx (fun X => RS (BO b1 cs) (OutO o 0 (rv.x 1)) (GO g v0 va) (MapW bm (rv.wantP 0 20 ++ rv.wantP 1 m)) (SlR v0 (rv.ownR 0 20)) (SlR va (rv.ownR 1 a)) X) := ctx_T (parts_bo _ _) (parts_outo _ _ _) (parts_go _ _ _) (parts_mapw _ _) (parts_slr _ _) (parts_slr _ _)
theorem cB_M {a t va vt} : Ctx (fun X => RS (BO b1 cs) (OutO o 0 (rv.x 1)) (GO g v0 va) X (SlR v0 (rv.ownR 0 20)) (SlR va (rv.ownR 1 a)) (SlR vt (rv.toldR 1 t))) := ctx_M (parts_bo _ _) (parts_outo _ _ _) (parts_go _ _ _) (parts_slr _ _) (parts_slr _ _) (parts_slr _ _)
theorem pB {a t m va vt} : Parts (IB rv b1 cs o g bm v0 a t m va vt) := parts_rs (parts_bo _ _) (parts_outo _ _ _) (parts_go _ _ _) (parts_mapw _ _) (parts_slr _ _) (parts_slr _ _) (parts_slr _ _)
theorem inn_B (ok : rv.okay) : Inn rv b1 cs o g bm 1 (IB rv b1 cs o g bm v0) where
  bo := fun h => (cB_B).blk h
  go := fun h => by
    have := two_cell ((cB_G).blk h)
    exact this.2
  own := fun h => (cB_V).own h
  told := fun h => (cB_T).own h
  more := fun h g => (pB).more h g
  ownN := fun {a t m va vt z w} h hp => by
    have h1 : rv.ownR 1 (a + 1) = rv.ownR 1 a := by rw [rv.own_succ, if_neg hp, List.append_nil]
    unfold IB
    rw [h1]
    exact h
  toldN := fun {a t m va vt z w} h hp => by
    have h1 : rv.toldR 1 (t + 1) = rv.toldR 1 t := by rw [rv.told_succ, if_neg hp, List.append_nil]
    unfold IB
    rw [h1]
    exact h
  wantN := fun {a t m va vt z w} h hp => by
    have h1 : rv.wantP 1 (m + 1) = rv.wantP 1 m := by rw [rv.want_succ, if_neg hp, List.append_nil]
    unfold IB
    rw [h1]
    exact h
  toldY := fun {a t m va vt vt' z w w1 w3} h hp g ho hg hb => by
    have h1 : rv.toldR 1 (t + 1) = rv.toldR 1 t ++ [⟨rv.b 1 + t, (rv.told 1 t : Int)⟩] := by rw [rv.told_succ, if_pos hp]
    unfold IB
    rw [h1]
    exact (cB_T).slr ⟨rv.b 1 + t, (rv.told 1 t : Int)⟩ h g ho hg hb
  ownY := fun {a t m va va' vt z w w1 w3} h hp g ho hg hb => by
    have h1 : rv.ownR 1 (a + 1) = rv.ownR 1 a ++ [⟨rv.b 1 + a, (rv.own 1 a : Int)⟩] := by rw [rv.own_succ, if_pos hp]
    have h2 := (cB_V).slr ⟨rv.b 1 + a, (rv.own 1 a : Int)⟩ h g ho hg hb
    have h3 := (cB_G2).set 1 va' h2
    refine ⟨?_, ?_⟩
    · unfold IB
      rw [h1]
      exact h3
    · have := two_cell ((cB_G2).blk h2)
      exact this.2
  wantY := fun {a t m va vt z w} h hp hm => by
    have h1 : rv.wantP 1 (m + 1) = rv.wantP 1 m ++ [⟨((1 : Nat) : Int), rv.b 1 + m⟩] := by rw [rv.want_succ, if_pos hp]
    have hl1 := rv.want_len 0 20
    have hl2 := rv.want_len 1 m
    obtain ⟨D, kl, d1, d2, d3⟩ := (cB_M).want h ⟨((1 : Nat) : Int), rv.b 1 + m⟩ (rv.pl_ok 1 m (by omega) hm) (RoundV.want_new1 rv m)
    refine ⟨D, _, kl, ?_, d1, d2, fun w' h5 h6 => ?_⟩
    · (try rw [List.length_append]); omega
    · have := d3 w' h5 h6
      unfold IB
      rw [h1]
      (try rw [← List.append_assoc])
      exact this
  feed := fun {va vt z w} h => by
    have ho := (cB_T (v0 := v0) (a := 20) (m := 20) (va := va)).own h
    have hr := fun (w : World) (h : OwnS w 62 2 vt (rv.toldR 1 20).length (acells (rv.toldR 1 20))) => rs_of_sl h rfl (rv.told_ok ok 1 20 (Nat.le_refl _)) (Nat.le_trans (rv.told_len 1 20) (by omega))
    have h2 : RS6 (BO b1 cs) (OutO o 0 (rv.x 1)) (GO g v0 va) (MapW bm rv.WL) (SlR v0 (rv.ownR 0 20)) (SlR va (rv.ownR 1 20)) z w := Star.l (parts_rs6 (parts_bo _ _) (parts_outo _ _ _) (parts_go _ _ _) (parts_mapw _ _) (parts_slr _ _) (parts_slr _ _)) h
    refine ((ctx6_O (parts_bo b1 cs) (parts_go g v0 va) (parts_mapw bm rv.WL) (parts_slr v0 (rv.ownR 0 20)) (parts_slr va (rv.ownR 1 20))).calls (Q := fun e _ => e = .returned (.int .i64 0)) (parts_outo o 0 (rv.x 2)) h2 (fun z h => (rv.x_feed1 ok).2 ▸ out_feed h 1 1 1 (rv.b 1) vt (rv.toldR 1 20) (hr _ ho) (by have := rv.b_lt 1; omega) 0 (rv.x_feed1 ok).1)).mono ?_
    rintro e w' ⟨rfl, h3⟩
    exact ⟨rfl, v0, va, h3⟩
theorem flow_in (ok : rv.okay) {f : Nat} (hf : f < 2) {z : Frm} {w : World} (h : FL rv b1 cs o g bm f z w) : ∃ (S : Nat → Nat → Nat → Value → Value → Frm → World → Prop) (va : Value), Inn rv b1 cs o g bm f S ∧ S 0 0 0 va (.slice none 0 0) z w := by
  have hf2 : f = 0 ∨ f = 1 := by omega
  rcases hf2 with rfl | rfl
  · exact ⟨_, .slice none 0 0, inn_A ok, Star.mkR (parts_rs6 (parts_bo _ _) (parts_outo _ _ _) (parts_go _ _ _) (parts_mapw _ _) (parts_slr _ _) (parts_slr _ _)) (parts_slr (.slice none 0 0) []) h (SlO.nil _ _ (Frm.of _) _ (Ext.refl _ _))⟩
  · obtain ⟨v0, h⟩ := h
    have h2 : RS6 (BO b1 cs) (OutO o 0 (rv.x 1)) (GO g v0 (.slice none 0 0)) (MapW bm (rv.wantP 0 20 ++ rv.wantP 1 0)) (SlR v0 (rv.ownR 0 20)) (SlR (.slice none 0 0) (rv.ownR 1 0)) z w := by
      rw [show rv.wantP 0 20 ++ rv.wantP 1 0 = rv.wantP 0 20 from List.append_nil _]
      exact h
    exact ⟨IB rv b1 cs o g bm v0, .slice none 0 0, inn_B ok, Star.mkR (parts_rs6 (parts_bo _ _) (parts_outo _ _ _) (parts_go _ _ _) (parts_mapw _ _) (parts_slr _ _) (parts_slr _ _)) (parts_slr (.slice none 0 0) []) h2 (SlO.nil _ _ (Frm.of _) _ (Ext.refl _ _))⟩
end
end Go.Proofs.Ytekdggdnkmkldaa
