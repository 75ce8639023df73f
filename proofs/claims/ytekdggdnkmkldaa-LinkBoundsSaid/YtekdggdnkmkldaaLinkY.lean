/- link: what LinkBounds holds: boxes of captured variables, an out, an in, what was granted, what is on its way; its plain law. -/
import Derived.Test.YtekdggdnkmkldaaLinkX
import Derived.Test.YtekdggdnkmkldaaLinkT
namespace Go.Proofs.Ytekdggdnkmkldaa
set_option linter.unusedVariables false
set_option linter.unusedSimpArgs false
set_option maxRecDepth 1500
open Go.ChangeShapes Go.WideShapes Go.ChangeAt Go.RowKit Go.Maps

/-- Blocks of one cell each. -/
def Boxes (bs : List Nat) (vs : List Value) : Frm → World → Prop := fun z w => bs.length = vs.length ∧ bs.Nodup ∧ (∀ (j b : Nat) (v : Value), bs[j]? = some b → vs[j]? = some v → ∃ ty, w.heap[b]? = some (.cells #[v] ty (0, 0))) ∧ (∀ b ∈ bs, z.ok b) ∧ Ext z.F z.wd w
theorem Boxes.at {bs : List Nat} {vs : List Value} {z : Frm} {w : World} (h : Boxes bs vs z w) (j : Nat) (b : Nat) (v : Value) (hb : bs[j]? = some b) (hv : vs[j]? = some v) : w.cell? ⟨b, 0, none⟩ = some v ∧ w.frozen? ⟨b, 0, none⟩ = false := by
  obtain ⟨ty, h1⟩ := h.2.2.1 j b v hb hv
  exact ⟨by rw [cell_of_heap h1]; rfl, frozen_of_heap h1 0⟩
theorem Boxes.lt {bs : List Nat} {vs : List Value} {z : Frm} {w : World} (h : Boxes bs vs z w) : ∀ b ∈ bs, b < w.heap.size := fun b hb => by
  obtain ⟨j, hj, rfl⟩ := List.getElem_of_mem hb
  obtain ⟨ty, h1⟩ := h.2.2.1 j _ (vs[j]'(by rw [← h.1]; exact hj)) (List.getElem?_eq_getElem hj) (List.getElem?_eq_getElem _)
  exact heap_lt h1
theorem parts_boxes (bs : List Nat) (vs : List Value) : Parts (Boxes bs vs) where
  base := fun {z w} h => ⟨fun k => k ∈ bs, ⟨h.1, h.2.1, h.2.2.1, fun b hb => .inr hb, Ext.refl _ _⟩, fun k hk => ⟨h.2.2.2.1 k hk, h.lt k hk⟩⟩
  gw := fun h => h.2.2.2.2
  kept := fun {w w' F T} h e hT => by
    have hf : ∀ b ∈ bs, F b := fun b hb => (h.2.2.2.1 b hb).elim (fun g => absurd (h.lt b hb) (Nat.not_lt.2 g)) id
    exact ⟨h.1, h.2.1, fun j b v hb hv => by
      obtain ⟨ty, h1⟩ := h.2.2.1 j b v hb hv
      exact ⟨ty, (e.block b (heap_lt h1) (hT b (hf b (List.mem_of_getElem? hb)))).trans h1⟩, fun b hb => .inr (hf b hb), Ext.refl _ _⟩
  lift := fun h hF g => ⟨h.1, h.2.1, h.2.2.1, fun b hb => Frm.okOf (h.2.2.2.1 b hb) hF g, Frm.step g h.2.2.2.2 hF⟩
theorem Boxes.set {bs : List Nat} {vs : List Value} {F : Nat → Prop} {w : World} (h : Boxes bs vs ⟨w, F⟩ w) (j b : Nat) (u : Value) (hb : bs[j]? = some b) : Boxes bs (vs.set j u) ⟨w, F⟩ (w.setCell ⟨b, 0, none⟩ u) := by
  have hF : F b := (h.2.2.2.1 b (List.mem_of_getElem? hb)).elim (fun g => absurd (h.lt b (List.mem_of_getElem? hb)) (Nat.not_lt.2 g)) id
  obtain ⟨hj, hbj⟩ := List.getElem?_eq_some_iff.1 hb
  refine ⟨by rw [List.length_set]; exact h.1, h.2.1, fun i c v hc hv => ?_, h.2.2.2.1, Ext.setCell (S := F) (Ext.refl _ _) ⟨b, 0, none⟩ (.inr hF) u⟩
  by_cases e : i = j
  · subst e
    rw [hb] at hc
    obtain rfl := Option.some.inj hc
    rw [List.getElem?_set_self (by rw [← h.1]; exact hj)] at hv
    obtain rfl := Option.some.inj hv
    obtain ⟨ty, h1⟩ := h.2.2.1 i b (vs[i]'(by rw [← h.1]; exact hj)) hb (List.getElem?_eq_getElem _)
    exact ⟨ty, by simpa using setCell_heap h1 0 u⟩
  · rw [List.getElem?_set_ne (fun h => e h.symm)] at hv
    obtain ⟨ty, h1⟩ := h.2.2.1 i c v hc hv
    have hne : c ≠ b := fun hh => by
      obtain ⟨hi, hci⟩ := List.getElem?_eq_some_iff.1 hc
      rw [hh, ← hbj] at hci
      exact e ((List.getElem_inj h.2.1).1 hci)
    exact ⟨ty, by rw [Below.heap_setCell _ _ _ _ (by simpa using hne)]; exact h1⟩
def OutB (o k : Nat) (x : OutV) : Frm → World → Prop := fun z w => OutAt z w o k x
theorem parts_outb (o k : Nat) (x : OutV) : Parts (OutB o k x) := parts_out o k x
def InB (i : Nat) (y : InV) : Frm → World → Prop := fun z w => InAt z w i y
theorem parts_inb (i : Nat) (y : InV) : Parts (InB i y) := parts_in i y
def MapO (gm j : Nat) (g : Nat → Nat → Nat) : Frm → World → Prop := fun z w => MapG w gm j g ∧ z.ok gm ∧ Ext z.F z.wd w
theorem parts_mapo (gm j : Nat) (g : Nat → Nat → Nat) : Parts (MapO gm j g) where
  base := fun {z w} h => ⟨fun k => k = gm, ⟨h.1, .inr rfl, Ext.refl _ _⟩, fun k hk => by subst hk; exact ⟨h.2.1, h.1.lt⟩⟩
  gw := fun h => h.2.2
  kept := fun {w w' F T} h e hT => by
    have hf : F gm := h.2.1.elim (fun g => absurd h.1.lt (Nat.not_lt.2 g)) id
    exact ⟨h.1.ext e (hT gm hf), .inr hf, Ext.refl _ _⟩
  lift := fun h hF g => ⟨h.1, Frm.okOf h.2.1 hF g, Frm.step g h.2.2 hF⟩
def SlT (v : Value) (l : List TW) : Frm → World → Prop := SlO 91 4 v l.length (tcells l)
theorem parts_slt (v : Value) (l : List TW) : Parts (SlT v l) := parts_sl _ _ _ _ _
def R5 (B O I M W : Frm → World → Prop) : Frm → World → Prop := Star (Star (Star (Star B O) I) M) W
section
variable {B O I M W : Frm → World → Prop}
theorem parts_r5 (pB : Parts B) (pO : Parts O) (pI : Parts I) (pM : Parts M) (pW : Parts W) : Parts (R5 B O I M W) := parts_star (parts_star (parts_star (parts_star pB pO) pI) pM) pW
theorem c5W (pB : Parts B) (pO : Parts O) (pI : Parts I) (pM : Parts M) : Ctx (fun X => R5 B O I M X) := Ctx.right (parts_star (parts_star (parts_star pB pO) pI) pM)
theorem c5M (pB : Parts B) (pO : Parts O) (pI : Parts I) (pW : Parts W) : Ctx (fun X => R5 B O I X W) := Ctx.comp (Ctx.left pW) (Ctx.right (parts_star (parts_star pB pO) pI))
theorem c5I (pB : Parts B) (pO : Parts O) (pM : Parts M) (pW : Parts W) : Ctx (fun X => R5 B O X M W) := Ctx.comp (Ctx.left pW) (Ctx.comp (Ctx.left pM) (Ctx.right (parts_star pB pO)))
theorem c5O (pB : Parts B) (pI : Parts I) (pM : Parts M) (pW : Parts W) : Ctx (fun X => R5 B X I M W) := Ctx.comp (Ctx.left pW) (Ctx.comp (Ctx.left pM) (Ctx.comp (Ctx.left pI) (Ctx.right pB)))
theorem c5B (pO : Parts O) (pI : Parts I) (pM : Parts M) (pW : Parts W) : Ctx (fun X => R5 X O I M W) := Ctx.comp (Ctx.left pW) (Ctx.comp (Ctx.left pM) (Ctx.comp (Ctx.left pI) (Ctx.left pO)))
end
theorem Ctx.gets {S : (Frm → World → Prop) → Frm → World → Prop} (c : Ctx S) {X : Frm → World → Prop} {z : Frm} {w : World} (h : S X z w) : ∃ F : Nat → Prop, X ⟨w, F⟩ w := by
  obtain ⟨F, h1, _⟩ := c.foc h
  exact ⟨F, h1⟩
theorem Ctx.callsB {S : (Frm → World → Prop) → Frm → World → Prop} (c : Ctx S) {X X' : Frm → World → Prop} (p : Parts X') {z : Frm} {w : World} (h : S X z w) {P : Program} {f : Nat} {args : Array Value} {Q : Ending → World → Prop} (op : ∀ z, X z w → Calls P f args w fun e w' => Q e w' ∧ X' z w') : Calls P f args w fun e w' => Q e w' ∧ S X' z w' := by
  obtain ⟨F, h1, _, h3⟩ := c.foc h
  refine (op _ h1).mono ?_
  rintro e w' ⟨q, a⟩
  exact ⟨q, h3 p a⟩
/-- Which boxes there are: n, peer, out, in, granted, heard, way. -/
structure BL where
  n : Nat
  p : Nat
  o : Nat
  i : Nat
  g : Nat
  h : Nat
  w : Nat
def BL.bs (b : BL) : List Nat := [b.n, b.p, b.o, b.i, b.g, b.h, b.w]
def bvs (n peer o i gm heard : Nat) (vw : Value) : List Value := [.int .i64 (n : Nat), .int .u64 (peer : Nat), .pointer (some ⟨o, 0, none⟩), .pointer (some ⟨i, 0, none⟩), .map (some gm), .int .u64 (heard : Nat), vw]
/-- All that LinkBounds holds. -/
def SB (b : BL) (n peer o i gm heard : Nat) (vw : Value) (k : Nat) (x : OutV) (y : InV) (j : Nat) (g : Nat → Nat → Nat) (l : List TW) : Frm → World → Prop := R5 (Boxes b.bs (bvs n peer o i gm heard vw)) (OutB o k x) (InB i y) (MapO gm j g) (SlT vw l)
section
variable {b : BL} {n peer o i gm heard : Nat} {vw : Value} {k : Nat} {x : OutV} {y : InV} {j : Nat} {g : Nat → Nat → Nat} {l : List TW} {z : Frm} {w w' : World}
theorem parts_sb : Parts (SB b n peer o i gm heard vw k x y j g l) := parts_r5 (parts_boxes _ _) (parts_outb _ _ _) (parts_inb _ _) (parts_mapo _ _ _) (parts_slt _ _)
theorem SB.boxes (h : SB b n peer o i gm heard vw k x y j g l z w) : ∃ F : Nat → Prop, Boxes b.bs (bvs n peer o i gm heard vw) ⟨w, F⟩ w := (c5B (parts_outb _ _ _) (parts_inb _ _) (parts_mapo _ _ _) (parts_slt _ _)).gets h
theorem SB.out (h : SB b n peer o i gm heard vw k x y j g l z w) : ∃ F : Nat → Prop, OutAt ⟨w, F⟩ w o k x := (c5O (parts_boxes _ _) (parts_inb _ _) (parts_mapo _ _ _) (parts_slt _ _)).gets h
theorem SB.inn (h : SB b n peer o i gm heard vw k x y j g l z w) : ∃ F : Nat → Prop, InAt ⟨w, F⟩ w i y := (c5I (parts_boxes _ _) (parts_outb _ _ _) (parts_mapo _ _ _) (parts_slt _ _)).gets h
theorem SB.map (h : SB b n peer o i gm heard vw k x y j g l z w) : MapG w gm j g := by
  obtain ⟨F, h1⟩ := (c5M (parts_boxes _ _) (parts_outb _ _ _) (parts_inb _ _) (parts_slt _ _)).gets h
  exact h1.1
theorem SB.way (h : SB b n peer o i gm heard vw k x y j g l z w) : Tws w vw l := by
  obtain ⟨F, h1⟩ := (c5W (parts_boxes _ _) (parts_outb _ _ _) (parts_inb _ _) (parts_mapo _ _ _)).gets h
  exact h1.1
theorem SB.cells (h : SB b n peer o i gm heard vw k x y j g l z w) : w.cell? ⟨b.n, 0, none⟩ = some (.int .i64 (n : Nat)) ∧ w.cell? ⟨b.p, 0, none⟩ = some (.int .u64 (peer : Nat)) ∧ w.cell? ⟨b.o, 0, none⟩ = some (.pointer (some ⟨o, 0, none⟩)) ∧ w.cell? ⟨b.i, 0, none⟩ = some (.pointer (some ⟨i, 0, none⟩)) ∧ w.cell? ⟨b.g, 0, none⟩ = some (.map (some gm)) ∧ w.cell? ⟨b.h, 0, none⟩ = some (.int .u64 (heard : Nat)) ∧ w.cell? ⟨b.w, 0, none⟩ = some vw := by
  obtain ⟨F, h1⟩ := h.boxes
  exact ⟨(h1.at 0 _ _ rfl rfl).1, (h1.at 1 _ _ rfl rfl).1, (h1.at 2 _ _ rfl rfl).1, (h1.at 3 _ _ rfl rfl).1, (h1.at 4 _ _ rfl rfl).1, (h1.at 5 _ _ rfl rfl).1, (h1.at 6 _ _ rfl rfl).1⟩
theorem SB.free (h : SB b n peer o i gm heard vw k x y j g l z w) : w.frozen? ⟨b.p, 0, none⟩ = false ∧ w.frozen? ⟨b.o, 0, none⟩ = false ∧ w.frozen? ⟨b.i, 0, none⟩ = false ∧ w.frozen? ⟨b.h, 0, none⟩ = false ∧ w.frozen? ⟨b.w, 0, none⟩ = false := by
  obtain ⟨F, h1⟩ := h.boxes
  exact ⟨(h1.at 1 _ _ rfl rfl).2, (h1.at 2 _ _ rfl rfl).2, (h1.at 3 _ _ rfl rfl).2, (h1.at 5 _ _ rfl rfl).2, (h1.at 6 _ _ rfl rfl).2⟩
theorem SB.more (h : SB b n peer o i gm heard vw k x y j g l z w) (e : Grows w w') : SB b n peer o i gm heard vw k x y j g l z w' := parts_sb.more h e
theorem SB.setBox (h : SB b n peer o i gm heard vw k x y j g l z w) (q c : Nat) (u : Value) (hc : b.bs[q]? = some c) : R5 (Boxes b.bs ((bvs n peer o i gm heard vw).set q u)) (OutB o k x) (InB i y) (MapO gm j g) (SlT vw l) z (w.setCell ⟨c, 0, none⟩ u) := by
  obtain ⟨F, h1, _, h3⟩ := (c5B (parts_outb _ _ _) (parts_inb _ _) (parts_mapo _ _ _) (parts_slt _ _)).foc h
  exact h3 (parts_boxes _ _) (h1.set q c u hc)
theorem SB.setHeard (h : SB b n peer o i gm heard vw k x y j g l z w) (u : Nat) : SB b n peer o i gm u vw k x y j g l z (w.setCell ⟨b.h, 0, none⟩ (.int .u64 (u : Nat))) := h.setBox 5 b.h _ rfl
theorem SB.setPeer (h : SB b n peer o i gm heard vw k x y j g l z w) (u : Nat) : SB b n u o i gm heard vw k x y j g l z (w.setCell ⟨b.p, 0, none⟩ (.int .u64 (u : Nat))) := h.setBox 1 b.p _ rfl
/-- The way grows, and its box is written. -/
theorem SB.push (h : SB b n peer o i gm heard vw k x y j g l z w) {w1 w3 : World} {v' : Value} (t : TW) (gr : Grows w w1) (ho : OwnS w3 91 4 v' (l.length + 1) (tcells l ++ tcells [t])) (hg : w1.grownBy w3 vw.ownBlock) (hb : v'.ownBlock = vw.ownBlock ∨ v'.ownBlock = some w1.heap.size) :
    SB b n peer o i gm heard v' k x y j g (l ++ [t]) z (w3.setCell ⟨b.w, 0, none⟩ v') ∧ w3.cell? ⟨b.w, 0, none⟩ = some vw ∧ w3.frozen? ⟨b.w, 0, none⟩ = false := by
  obtain ⟨F, h1, _, h3⟩ := (c5W (parts_boxes _ _) (parts_outb _ _ _) (parts_inb _ _) (parts_mapo _ _ _)).foc h
  have h4 : R5 (Boxes b.bs (bvs n peer o i gm heard vw)) (OutB o k x) (InB i y) (MapO gm j g) (SlT v' (l ++ [t])) z w3 := by
    refine h3 (parts_slt _ _) ?_
    have h5 := SlO.append (m := 1) h1 gr ho hg hb
    unfold SlT
    rw [List.length_append, tcells_append]
    exact h5
  obtain ⟨F2, k1, _, k3⟩ := (c5B (parts_outb o k x) (parts_inb i y) (parts_mapo gm j g) (parts_slt v' (l ++ [t]))).foc h4
  exact ⟨k3 (parts_boxes _ _) (k1.set 6 b.w v' rfl), k1.at 6 _ _ rfl rfl⟩
/-- The way is another slice, and its box is written. -/
theorem SB.setWay (h : SB b n peer o i gm heard vw k x y j g l z w) {w3 : World} {v' : Value} {l' : List TW} (gr : Grows w w3) (ho : Tws w3 v' l') (hb : ∀ c, v'.ownBlock = some c → w.heap.size ≤ c) :
    SB b n peer o i gm heard v' k x y j g l' z (w3.setCell ⟨b.w, 0, none⟩ v') ∧ w3.cell? ⟨b.w, 0, none⟩ = some vw ∧ w3.frozen? ⟨b.w, 0, none⟩ = false := by
  obtain ⟨F, h1, _, h3⟩ := (c5W (parts_boxes _ _) (parts_outb _ _ _) (parts_inb _ _) (parts_mapo _ _ _)).foc h
  have h4 : R5 (Boxes b.bs (bvs n peer o i gm heard vw)) (OutB o k x) (InB i y) (MapO gm j g) (SlT v' l') z w3 :=
    h3 (parts_slt _ _) ⟨ho, fun c hc => .inl (hb c hc), Frm.step (z := ⟨w, F⟩) (Ext.refl _ _) gr (fun _ h => h.elim)⟩
  obtain ⟨F2, k1, _, k3⟩ := (c5B (parts_outb o k x) (parts_inb i y) (parts_mapo gm j g) (parts_slt v' l')).foc h4
  exact ⟨k3 (parts_boxes _ _) (k1.set 6 b.w v' rfl), k1.at 6 _ _ rfl rfl⟩
theorem SB.callO (h : SB b n peer o i gm heard vw k x y j g l z w) {k' : Nat} {x' : OutV} {P : Program} {f : Nat} {args : Array Value} {Q : Ending → World → Prop} (op : ∀ z, OutAt z w o k x → Calls P f args w fun e w' => Q e w' ∧ OutAt z w' o k' x') : Calls P f args w fun e w' => Q e w' ∧ SB b n peer o i gm heard vw k' x' y j g l z w' :=
  (c5O (parts_boxes _ _) (parts_inb _ _) (parts_mapo _ _ _) (parts_slt _ _)).callsB (parts_outb o k' x') h op
theorem SB.callI (h : SB b n peer o i gm heard vw k x y j g l z w) {y' : InV} {P : Program} {f : Nat} {args : Array Value} {Q : Ending → World → Prop} (op : ∀ z, InAt z w i y → Calls P f args w fun e w' => Q e w' ∧ InAt z w' i y') : Calls P f args w fun e w' => Q e w' ∧ SB b n peer o i gm heard vw k x y' j g l z w' :=
  (c5I (parts_boxes _ _) (parts_outb _ _ _) (parts_mapo _ _ _) (parts_slt _ _)).callsB (parts_inb i y') h op
/-- Another out. -/
theorem SB.newO (h : SB b n peer o i gm heard vw k x y j g l z w) {w1 : World} {o' k' : Nat} {x' : OutV} (ho : OutAt (Frm.of w) w1 o' k' x') : SB b n peer o' i gm heard vw k' x' y j g l z (w1.setCell ⟨b.o, 0, none⟩ (.pointer (some ⟨o', 0, none⟩))) ∧ w1.cell? ⟨b.o, 0, none⟩ = some (.pointer (some ⟨o, 0, none⟩)) ∧ w1.frozen? ⟨b.o, 0, none⟩ = false := by
  obtain ⟨F, h1, _, h3⟩ := (c5O (parts_boxes _ _) (parts_inb _ _) (parts_mapo _ _ _) (parts_slt _ _)).foc h
  have h4 : R5 (Boxes b.bs (bvs n peer o i gm heard vw)) (OutB o' k' x') (InB i y) (MapO gm j g) (SlT vw l) z w1 :=
    h3 (parts_outb _ _ _) ((parts_outb o' k' x').lift (z := ⟨w, F⟩) (w := w) (F := fun _ => False) ho (fun _ h => h.elim) (Ext.refl _ _))
  obtain ⟨F2, k1, _, k3⟩ := (c5B (parts_outb o' k' x') (parts_inb i y) (parts_mapo gm j g) (parts_slt vw l)).foc h4
  exact ⟨k3 (parts_boxes _ _) (k1.set 2 b.o _ rfl), k1.at 2 _ _ rfl rfl⟩
theorem SB.newI (h : SB b n peer o i gm heard vw k x y j g l z w) {w1 : World} {i' : Nat} {y' : InV} (ho : InAt (Frm.of w) w1 i' y') : SB b n peer o i' gm heard vw k x y' j g l z (w1.setCell ⟨b.i, 0, none⟩ (.pointer (some ⟨i', 0, none⟩))) ∧ w1.cell? ⟨b.i, 0, none⟩ = some (.pointer (some ⟨i, 0, none⟩)) ∧ w1.frozen? ⟨b.i, 0, none⟩ = false := by
  obtain ⟨F, h1, _, h3⟩ := (c5I (parts_boxes _ _) (parts_outb _ _ _) (parts_mapo _ _ _) (parts_slt _ _)).foc h
  have h4 : R5 (Boxes b.bs (bvs n peer o i gm heard vw)) (OutB o k x) (InB i' y') (MapO gm j g) (SlT vw l) z w1 :=
    h3 (parts_inb _ _) ((parts_inb i' y').lift (z := ⟨w, F⟩) (w := w) (F := fun _ => False) ho (fun _ h => h.elim) (Ext.refl _ _))
  obtain ⟨F2, k1, _, k3⟩ := (c5B (parts_outb o k x) (parts_inb i' y') (parts_mapo gm j g) (parts_slt vw l)).foc h4
  exact ⟨k3 (parts_boxes _ _) (k1.set 3 b.i _ rfl), k1.at 3 _ _ rfl rfl⟩
/-- The map is written. -/
theorem SB.grant (h : SB b n peer o i gm heard vw k x y j g l z w) (hj : j < maxLen) (p q v : Nat) (hp : p < 18446744073709551616) (hq : q < 18446744073709551616) (hv : v < 18446744073709551616) : ∃ w' : World, (Instr.mapUpdate 88 (.map (some gm)) (.agg #[.int .u64 p, .int .u64 q]) (.int .u64 v)).run Try.prog w = .ok () w' ∧ SB b n peer o i gm heard vw k x y (j + 1) (updG g p q v) l z w' := by
  obtain ⟨F, h1, _, h3⟩ := (c5M (parts_boxes _ _) (parts_outb _ _ _) (parts_inb _ _) (parts_slt _ _)).foc h
  have hF : F gm := h1.2.1.elim (fun g => absurd h1.1.lt (Nat.not_lt.2 g)) id
  obtain ⟨⟨D, d1, d2, d3⟩, _⟩ := h1
  obtain ⟨kl, hkl⟩ := keyG p q hp hq
  obtain ⟨w6, hr6, hown6, ht6⟩ := d1.store lawG Try.underlying88 hj hkl (plainElem_int Try.underlying27 (wfU v hv))
  refine ⟨w6, hr6, h3 (parts_mapo _ _ _) ⟨MapG.put d2 d3 p q v hkl hown6, .inr hF, Frm.step (z := ⟨w, F⟩) (Ext.refl _ _) (Ext.of_grown (S := fun k => k = gm) ht6.grown (fun k hk => (Option.some.inj hk).symm)) (fun k hk => .inr (hk ▸ hF))⟩⟩
end
end Go.Proofs.Ytekdggdnkmkldaa
