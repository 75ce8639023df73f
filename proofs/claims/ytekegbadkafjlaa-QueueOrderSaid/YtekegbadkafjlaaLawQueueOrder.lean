/- QueueOrder: what was pushed and told OK is popped in order, each once, at any number of places, any frames and pops; no condition. -/
import Derived.Test.YtekegbadkafjlaaQueueE
import Derived.Test.YtekegbadkafjlaaQueueArgs
namespace Go.Proofs.Ytekegbadkafjlaa
set_option linter.unusedVariables false
set_option linter.unusedSimpArgs false
open Go.ChangeShapes Go.WideShapes Go.ChangeAt Go.RowKit

/-- What holds at each round's head: the queue holds what was pushed and not popped. -/
structure OrderInv (w wr : World) (q n : Nat) (ins : List (List Int)) (o : Nat) (v : Value) : Prop where
  ex : ∃ S F : Nat → Prop, QueueAt wr q S n (ins.drop o) ∧ (∀ k, S k → w.heap.size ≤ k ∧ k < wr.heap.size) ∧ OwnFrames wr v F ins ∧ (∀ k, F k → w.heap.size ≤ k ∧ k < wr.heap.size ∧ k ≠ q) ∧
    ∀ k, v.ownBlock = some k → w.heap.size ≤ k ∧ ¬ S k
  grows : Grows w wr
  le : o ≤ ins.length

theorem OrderInv.queue {w wr : World} {q n : Nat} {ins : List (List Int)} {o : Nat} {v : Value} (h : OrderInv w wr q n ins o v) : ∃ S, QueueAt wr q S n (ins.drop o) ∧ ∀ k, S k → w.heap.size ≤ k ∧ k < wr.heap.size := by
  obtain ⟨S, F, h1, h2, _⟩ := h.ex
  exact ⟨S, h1, h2⟩
theorem OrderInv.more {w wr w' : World} {q n : Nat} {ins : List (List Int)} {o : Nat} {v : Value} (h : OrderInv w wr q n ins o v) (g : Grows wr w') : OrderInv w w' q n ins o v := by
  obtain ⟨⟨S, F, h1, h2, h3, h4, h5⟩, h6, h7⟩ := h
  exact ⟨⟨S, F, h1.grows g, fun k hk => ⟨(h2 k hk).1, Nat.lt_of_lt_of_le (h2 k hk).2 g.size⟩, h3.keeps g (fun k hk => ⟨fun h => h, fun hF => by obtain ⟨_, _, _, h8⟩ := h3; exact h8 k hk hF⟩) (fun k _ h => h) (fun k hk => hk),
    fun k hk => ⟨(h4 k hk).1, Nat.lt_of_lt_of_le (h4 k hk).2.1 g.size, (h4 k hk).2.2⟩, h5⟩, h6.trans g, h7⟩

/-- A step on the queue alone. -/
theorem OrderInv.queue_step {w wr w' : World} {q n : Nat} {ins : List (List Int)} {o' : Nat} {v : Value} {S' : Nat → Prop} {S F : Nat → Prop}
    (h2 : ∀ k, S k → w.heap.size ≤ k ∧ k < wr.heap.size) (hq : S q) (h3 : OwnFrames wr v F ins) (h4 : ∀ k, F k → w.heap.size ≤ k ∧ k < wr.heap.size ∧ k ≠ q) (h5 : ∀ k, v.ownBlock = some k → w.heap.size ≤ k ∧ ¬ S k) (h6 : Grows w wr)
    (hQ : QueueAt w' q S' n (ins.drop o')) (hS : ∀ k, S' k → S k ∨ (wr.heap.size ≤ k ∧ k < w'.heap.size)) (he : Ext (fun k => k = q) wr w') (ho : o' ≤ ins.length) : OrderInv w w' q n ins o' v := by
  refine ⟨⟨S', F, hQ, fun k hk => ?_, h3.keeps he (fun k hk => ⟨fun e => (h5 k hk).2 (e ▸ hq), fun hF => by obtain ⟨_, _, _, h8⟩ := h3; exact h8 k hk hF⟩) (fun k hk => (h4 k hk).2.2) (fun k hk => hk),
    fun k hk => ⟨(h4 k hk).1, Nat.lt_of_lt_of_le (h4 k hk).2.1 he.size, (h4 k hk).2.2⟩, fun k hk => ⟨(h5 k hk).1, fun hs => ?_⟩⟩, Ext.eq_lift h6 he (h2 q hq).1, ho⟩
  · have := h6.size
    rcases hS k hk with h | h
    · exact ⟨(h2 k h).1, Nat.lt_of_lt_of_le (h2 k h).2 he.size⟩
    · omega
  · rcases hS k hs with h | h
    · exact (h5 k hk).2 h
    · have := h3.lt k hk; omega

theorem owns_form {w : World} {e : TypeId} {size : Nat} {v : Value} {n : Nat} {xs : List Value} (h : w.ownsRow 0 e size v n xs) : ∃ a cap, v = .slice a n cap := by
  rcases h.2 with ⟨rfl, h0⟩ | ⟨g, cap, cur, rfl, _⟩
  · exact ⟨none, 0, by rw [h0]⟩
  · exact ⟨_, cap, rfl⟩

/-- Behind a Push that was told OK, and 'in = append(in, append([]byte{}, b...))'. -/
theorem OrderInv.pushed {w wr w3 w4 w6 : World} {q n : Nat} {ins : List (List Int)} {o : Nat} {v v1 v2 : Value} {S F : Nat → Prop} {f : List Int} {vs : List Value}
    (hS : ∀ k, S k → w.heap.size ≤ k ∧ k < wr.heap.size) (hSq : S q) (h3 : OwnFrames wr v F ins) (h4 : ∀ k, F k → w.heap.size ≤ k ∧ k < wr.heap.size ∧ k ≠ q) (h5 : ∀ k, v.ownBlock = some k → w.heap.size ≤ k ∧ ¬ S k) (h6 : Grows w wr) (ho : o ≤ ins.length)
    (hq3 : QueueAt w3 q (grownTo S wr w3) n (ins.drop o ++ [f])) (he3 : Ext (fun k => k = q) wr w3) (hB : Bytes w4 v1 f)
    (hgr4 : (w3.alloc (.cells #[] 5)).grownBy w4 (some w3.heap.size)) (hblk4 : v1.ownBlock = some w3.heap.size ∨ v1.ownBlock = some (w3.heap.size + 1)) (hlt4 : ∀ k, v1.ownBlock = some k → k < w4.heap.size)
    (hvs : ∀ (i : Nat) (g : List Int), ins[i]? = some g → ∃ u, vs[i]? = some u ∧ Bytes wr u g ∧ ∀ k, u.ownBlock = some k → g ≠ [] → F k) (hvl : vs.length = ins.length)
    (hown6 : w6.ownsRow 0 22 1 v2 (ins.length + 1) (vs ++ [v1])) (hgr6 : (w4.alloc (.cells #[v1] 22)).grownBy w6 v.ownBlock) (hblk6 : v2.ownBlock = v.ownBlock ∨ v2.ownBlock = some (w4.heap.size + 1)) :
    OrderInv w w6 q n (ins ++ [f]) o v2 := by
  have hvlt := h3.lt
  have hvF : ∀ k, v.ownBlock = some k → ¬ F k := by obtain ⟨_, _, _, h⟩ := h3; exact h
  have s3 := he3.size
  have e34 : Grows w3 w4 := ((Ext.alloc (Ext.refl (fun k => k = w3.heap.size) w3) _).trans (Ext.of_grown hgr4 (fun k hk => (Option.some.inj hk).symm))).mono (fun k hk hh => by omega)
  have s4 := e34.size
  have e4 : Ext (fun k => k = q) wr w4 := he3.trans e34.lift
  have e45 : Ext (fun k => k = q) wr (w4.alloc (.cells #[v1] 22)) := e4.alloc _
  have e36 : Ext (fun k => v.ownBlock = some k) w3 w6 := ((e34.alloc _).lift).trans (Ext.of_grown hgr6 (fun k hk => hk))
  have hSq3 : q < wr.heap.size := (hS q hSq).2
  have e06 : Grows w w6 := by
    have e16 : Ext (fun k => k = q ∨ v.ownBlock = some k) wr w6 := (he3.mono (fun k _ h => .inl h)).trans (e36.mono (fun k _ h => .inr h))
    refine (h6.lift.trans e16).mono (fun k hk hh => ?_)
    rcases hh with rfl | hh
    · have := (hS k hSq).1; omega
    · have := (h5 k hh).1; omega
  have s6 := e36.size
  have s46 := hgr6.size
  simp only [World.size_alloc] at s46
  have hF' : ∀ k, (F k ∨ v1.ownBlock = some k) → w.heap.size ≤ k ∧ k < w4.heap.size ∧ k ≠ q := by
    intro k hk
    rcases hk with hk | hk
    · have := h4 k hk; exact ⟨this.1, by omega, this.2.2⟩
    · have := hlt4 k hk
      have := h6.size
      rcases hblk4 with h | h <;> (rw [h] at hk; simp only [Option.some.injEq] at hk; omega)
  have hvF' : ∀ k, v.ownBlock = some k → ¬ (F k ∨ v1.ownBlock = some k) := by
    intro k hk hh
    rcases hh with hh | hh
    · exact hvF k hk hh
    · have := hvlt k hk
      rcases hblk4 with h | h <;> (rw [h] at hh; simp only [Option.some.injEq] at hh; omega)
  refine ⟨⟨grownTo S wr w3, fun k => F k ∨ v1.ownBlock = some k, ?_, fun k hk => ?_, ?_, fun k hk => ?_, fun k hk => ?_⟩, e06, by simp; omega⟩
  · rw [List.drop_append_of_le_length ho]
    refine hq3.keeps e36 (fun k hk hh => ?_)
    rcases hk with hk | hk
    · exact (h5 k hh).2 hk
    · have := hvlt k hh; omega
  · have := h6.size
    rcases hk with hk | hk
    · have := hS k hk; omega
    · omega
  · refine OwnFrames.snoc (F := F) (fun i g hg => ?_) hvl hvF' (fun k hk => .inl hk) (fun k hk => by have := hF' k hk; simp; omega) (hB.grows (Ext.alloc (Ext.refl _ _) _)) (fun k hk _ => .inr hk) hown6 hgr6 (by simpa using hblk6)
    obtain ⟨u, hu, hb, hk⟩ := hvs i g hg
    exact ⟨u, hu, hb.ext2 e45 (fun k h1 h2 => (h4 k (hk k h1 h2)).2.2), hk⟩
  · have := hF' k hk
    exact ⟨this.1, by omega, this.2.2⟩
  · rcases hblk6 with h | h
    · rw [h] at hk
      refine ⟨(h5 k hk).1, fun hs => ?_⟩
      rcases hs with hs | hs
      · exact (h5 k hk).2 hs
      · have := hvlt k hk; omega
    · rw [h] at hk
      simp only [Option.some.injEq] at hk
      have := h6.size
      refine ⟨by omega, fun hs => ?_⟩
      rcases hs with hs | hs
      · have := hS k hs; omega
      · omega

theorem order_pop {w wr : World} {q n : Nat} {ins : List (List Int)} {o : Nat} {v : Value} (h : OrderInv w wr q n ins o v) (ho : o < ins.length) :
    Calls Try.prog 23 #[.pointer (some ⟨q, 0, none⟩)] wr fun e w' => ∃ b, e = .returned (.tuple #[.slice (some ⟨b, 0, none⟩) ins[o].length ins[o].length, .bool true]) ∧
      Bytes w' (.slice (some ⟨b, 0, none⟩) ins[o].length ins[o].length) ins[o] ∧ OrderInv w w' q n ins (o + 1) v := by
  obtain ⟨S, F, h1, h2, h3, h4, h5⟩ := h.ex
  have hSq : S q := by obtain ⟨_, _, _, _, h, _⟩ := h1; exact h
  have h1' := h1
  rw [List.drop_eq_getElem_cons ho] at h1'
  refine (pop_ok q n S _ _ wr h1').mono ?_
  rintro e w' ⟨b, hb, rfl, hB, hq, he⟩
  exact ⟨b, rfl, hB, OrderInv.queue_step h2 hSq h3 h4 h5 h.grows hq (fun k hk => .inl hk) he ho⟩
theorem order_end {w wr : World} {q n : Nat} {ins : List (List Int)} {o : Nat} {v : Value} (h : OrderInv w wr q n ins o v) (ho : o = ins.length) :
    Calls Try.prog 23 #[.pointer (some ⟨q, 0, none⟩)] wr fun e w' => e = .returned (.tuple #[.slice none 0 0, .bool false]) ∧ wr = w' := by
  obtain ⟨S, F, h1, _⟩ := h.ex
  rw [List.drop_eq_nil_of_le (by omega)] at h1
  exact pop_empty q n S wr h1
theorem order_len {w wr : World} {q n : Nat} {ins : List (List Int)} {o : Nat} {v : Value} (h : OrderInv w wr q n ins o v) (x : Int) (hx : x = (ins.length : Int) - (o : Int)) :
    Calls Try.prog 24 #[.pointer (some ⟨q, 0, none⟩)] wr fun e w' => e = .returned (.int .i64 x) ∧ wr = w' := by
  obtain ⟨S, F, h1, _⟩ := h.ex
  have := h.le
  exact qlen_int q n S _ x wr h1 (by rw [List.length_drop]; omega)
theorem order_free {w wr : World} {q n : Nat} {ins : List (List Int)} {o : Nat} {v : Value} (h : OrderInv w wr q n ins o v) (x : Int) (hx : x = (ins.length : Int) - (o : Int)) :
    Calls Try.prog 25 #[.pointer (some ⟨q, 0, none⟩)] wr fun e w' => e = .returned (.int .i64 ((n : Int) - x)) ∧ OrderInv w w' q n ins o v := by
  obtain ⟨S, F, h1, _⟩ := h.ex
  have := h.le
  refine (qfree_any q n S _ wr h1).mono ?_
  rintro e w' ⟨rfl, hg⟩
  exact ⟨ret_int (by rw [List.length_drop]; omega), h.more hg⟩
theorem OrderInv.elem {w wr : World} {q n : Nat} {ins : List (List Int)} {o : Nat} {v : Value} (h : OrderInv w wr q n ins o v) (i : Nat) (hi : i < ins.length) :
    ∃ b off cap a c, v = .slice (some ⟨b, off, none⟩) ins.length cap ∧ wr.cell? ⟨b, off + i, none⟩ = some (.slice a ins[i].length c) ∧ Bytes wr (.slice a ins[i].length c) ins[i] := by
  obtain ⟨S, F, _, _, h3, _⟩ := h.ex
  obtain ⟨b, off, cap, a, c, h1, _, h2, h4, _⟩ := h3.fr.at i hi
  exact ⟨b, off, cap, a, c, h1, h2, h4⟩
theorem OrderInv.few {w wr : World} {q n : Nat} {ins : List (List Int)} {o : Nat} {v : Value} (h : OrderInv w wr q n ins o v) : ins.length - o ≤ n ∧ n ≤ 64 := by
  obtain ⟨S, F, h1, _⟩ := h.ex
  obtain ⟨_, _, _, _, _, _, h2, h3, _⟩ := h1
  rw [List.length_drop] at h3
  exact ⟨h3, h2⟩

set_option maxRecDepth 1000000 in
set_option maxHeartbeats 8000000 in
theorem QueueOrder_walk (places : Int) (v1 : Value) (fs : List (List Int)) (v2 : Value) (bs : List Bool) (w : World) (h0 : (Lit.int .u8 places).wf = true) (h1 : Frames w v1 fs) (h2 : Bools w v2 bs) :
    Calls Try.prog 7 #[.int .u8 places, v1, v2] w fun e w' => e = .returned (.bool true) ∧ Below w.heap.size w w' := by
  have hp := wf_u8' h0
  obtain ⟨p1, p2⟩ := hp
  clear h0
  have hfl := h1.2
  have hbl := h2.2
  have hfr := h1.fr
  obtain ⟨a1, c1, rfl⟩ := hfr.form
  obtain ⟨a2, c2, rfl⟩ := h2.form
  have FR := Lib.hid hfr
  have BS := Lib.hid h2
  clear h1 hfr h2
  go_enter Try.func7, Try.ntmps7
  go_wp2_with fail
  have m1 : 1 ≤ 1 + places % 64 := by omega
  have m2 : 1 + places % 64 ≤ 64 := by omega
  generalize hmm2 : 1 + places % 64 = m at m1 m2 ⊢
  clear hmm2
  obtain ⟨n, rfl⟩ := Int.eq_ofNat_of_zero_le (show 0 ≤ m by omega)
  refine (new_yes n w (by omega) (by omega)).mono ?_
  rintro e w1 ⟨rfl, hq, hg⟩
  generalize hqq : w.heap.size = q at hq ⊢
  have HQQ := Lib.hid hqq
  clear hqq
  go_wp2_with fail
  refine (queueAwake _).mono ?_
  rintro e w2 ⟨rfl, hg2⟩
  have I0 : OrderInv w w2 q n [] 0 (.slice none 0 0) := by
    have hq2 := hq.grows hg2
    refine ⟨⟨_, fun _ => False, hq2, fun k hk => ?_, OwnFrames.nil _ _, fun k hk => hk.elim, fun k hk => by simp [Value.ownBlock] at hk⟩, hg.trans hg2, Nat.le_refl _⟩
    have := HQQ.out
    have := hq2.lt
    subst hk
    omega
  have HI := Lib.hid I0
  clear I0 hq hg hg2
  go_wp2
  go_loopg [10, 11, 39] fs.length (fun k v o c wr => ∃ (j oo : Nat) (ins : List (List Int)), j ≤ fs.length ∧ j ≤ 300 ∧ k = fs.length - j ∧ c = .int .i64 (j : Nat) ∧ o = .int .i64 (oo : Nat) ∧ ins.length ≤ j ∧ OrderInv w wr q n ins oo v ∧ ∃ a cap, v = .slice a ins.length cap)
  case atStart => exact ⟨0, 0, [], by omega, by omega, by omega, rfl, rfl, by simp, HI.out, none, 0, rfl⟩
  case round =>
    obtain ⟨j, oo, ins, hj, hj3, hk, rfl, rfl, hinj, hI, va, vcap, rfl⟩ := hrel
    have HK := Lib.hid hk
    have hIle := hI.le
    have HI2 := Lib.hid hI
    clear hk hI
    by_cases hlt : j < fs.length
    · by_cases h300 : j < 300
      · have hj0 : ((j : Int) == 300) = false := by simp; omega
        obtain ⟨b, off, cap, ua, uc, e, hbl2, hcell, hby, hle⟩ := FR.out.at j hlt
        simp only [Value.slice.injEq] at e
        obtain ⟨rfl, _, rfl⟩ := e
        have hcr := (HI2.out.grows.cell hbl2 (fun h => h)).trans hcell
        clear hcell
        have i1 : (0 : Int) ≤ (j : Int) := by omega
        have i2 : (j : Int) < (fs.length : Int) := by omega
        have hlb := hby.2.2
        obtain ⟨len, hlen⟩ : ∃ len, fs[j].length = len := ⟨_, rfl⟩
        rw [hlen] at hcr hby hle hlb
        have HL := Lib.hid hlen
        clear hlen
        have hpop : (∃ hjb : j < bs.length, bs[j] = true) ∨ (∀ hjb : j < bs.length, bs[j] = false) := by
          by_cases hjb : j < bs.length
          · cases hb : bs[j] with
            | true => exact .inl ⟨hjb, hb⟩
            | false => exact .inr (fun _ => hb)
          · exact .inr (fun h => absurd h hjb)
        obtain ⟨f, hf⟩ : ∃ f, fs[j].take 200 = f := ⟨_, rfl⟩
        have hf200 : f.length ≤ 200 := by rw [← hf, List.length_take]; omega
        have hpre : (len ≤ 200 ∧ Bytes w (.slice ua len uc) f) ∨ (200 < len ∧ Bytes w (.slice ua 200 uc) f) := by
          by_cases h : len ≤ 200
          · refine .inl ⟨h, ?_⟩
            have := HL.out
            rw [← hf, List.take_of_length_le (by omega)]
            exact hby
          · refine .inr ⟨by omega, ?_⟩
            rw [← hf]
            exact hby.take 200 (by omega)
        clear hf hby
        obtain ⟨S, F, hq, hS, hown, hF, hvS⟩ := HI2.out.ex
        have hdl : (ins.drop oo).length = ins.length - oo := List.length_drop
        have hSq : S q := by obtain ⟨_, _, _, _, h, _⟩ := hq; exact h
        have HD := Lib.hid hdl
        have HO := Lib.hid hown
        have HS := Lib.hid hS
        have HF := Lib.hid hF
        have HV := Lib.hid hvS
        clear hdl hown hS hF hvS
        by_cases hfull : ins.length - oo = n
        · have hfb : ((ins.length : Int) - (oo : Int) == (n : Int)) = true := by simp; omega
          have HFull := Lib.hid hfull
          clear hfull
          rcases hpre with ⟨hlc, hbt⟩ | ⟨hlc, hbt⟩
          all_goals
            go_wp2_with fail
            refine (push_no q n S _ _ f _ hq (hbt.grows HI2.out.grows) (by omega) (by rw [HD.out, HFull.out])).mono ?_
            rintro e w3 ⟨rfl, hg3⟩
            have I3 := HI2.out.more hg3
            have hpos : oo < ins.length := by have := HFull.out; omega
            have hbnd : ins.length ≤ j + 1 := by omega
            have HI3 := Lib.hid I3
            clear I3 hg3 hq
            have hfew := HI3.out.few
            have hposI : (oo : Int) < (ins.length : Int) := by omega
            rcases hpop with ⟨hjb, hpb⟩ | hpb
            · obtain ⟨pb, poff, pcap, pe, pbl, pcell⟩ := BS.out.at j hjb
              simp only [Value.slice.injEq] at pe
              obtain ⟨rfl, _, rfl⟩ := pe
              have pcr := (HI3.out.grows.cell pbl (fun h => h)).trans pcell
              rw [hpb] at pcr
              have hjb2 : (j : Int) < (bs.length : Int) := by omega
              clear pcell hpb
              go_wp2_with fail
              refine (order_pop HI3.out hpos).mono ?_
              rintro e w7 ⟨bx, rfl, Bx, I7⟩
              obtain ⟨eb, eoff, ecap, ea, ec, ee, ecell, eB⟩ := I7.elem oo hpos
              simp only [Value.slice.injEq] at ee
              obtain ⟨rfl, _, rfl⟩ := ee
              have hoo : (0 : Int) ≤ (oo : Int) := by omega
              have HI4 := Lib.hid I7
              have hbx := Bx.2.2
              generalize ins[oo] = g at Bx eB ecell hbx ⊢
              clear I7
              go_wp2_with fail
              refine (equal_any _ _ _ _ _ Bx eB).mono ?_
              rintro e w8 ⟨rfl, rfl⟩
              clear Bx eB ecell
              go_wp2_with fail
              refine (order_len HI4.out ((ins.length:Int)-((oo:Int)+1) : Int) (by omega)).mono ?_
              rintro e w9 ⟨rfl, rfl⟩
              go_wp2_with fail
              refine (order_len HI4.out ((ins.length:Int)-((oo:Int)+1) : Int) (by omega)).mono ?_
              rintro e w9 ⟨rfl, rfl⟩
              go_wp2_with fail
              refine (order_free HI4.out ((ins.length:Int)-((oo:Int)+1) : Int) (by omega)).mono ?_
              rintro e w9 ⟨rfl, I9⟩
              have HI9 := Lib.hid I9
              have hsum : ((ins.length:Int)-((oo:Int)+1) + ((n : Int) - ((ins.length:Int)-((oo:Int)+1))) == (n : Int)) = true := by simp <;> omega
              clear I9
              go_wp2
              go_roundg (fs.length - (j + 1))
              case measure => have := HK.out; omega
              case rel => exact ⟨j + 1, _, _, by omega, by omega, rfl, by go_num, by go_num, hbnd, HI9.out, _, _, rfl⟩
            · have pcr : j < bs.length → ∃ pb poff, a2 = some ⟨pb, poff, none⟩ ∧ w3.cell? ⟨pb, poff + j, none⟩ = some (.bool false) := fun hjb => by
                obtain ⟨pb, poff, pcap, pe, pbl, pcell⟩ := BS.out.at j hjb
                simp only [Value.slice.injEq] at pe
                obtain ⟨rfl, _, rfl⟩ := pe
                have h1 := (HI3.out.grows.cell pbl (fun h => h)).trans pcell
                rw [hpb hjb] at h1
                exact ⟨pb, poff, rfl, h1⟩
              clear hpb
              have HI4 := HI3
              by_cases hjb : j < bs.length
              · obtain ⟨pb, poff, rfl, pcr⟩ := pcr hjb
                have hjb2 : (j : Int) < (bs.length : Int) := by omega
                go_wp2_with fail
                refine (order_len HI4.out ((ins.length:Int)-(oo:Int) : Int) (by omega)).mono ?_
                rintro e w9 ⟨rfl, rfl⟩
                go_wp2_with fail
                refine (order_len HI4.out ((ins.length:Int)-(oo:Int) : Int) (by omega)).mono ?_
                rintro e w9 ⟨rfl, rfl⟩
                go_wp2_with fail
                refine (order_free HI4.out ((ins.length:Int)-(oo:Int) : Int) (by omega)).mono ?_
                rintro e w9 ⟨rfl, I9⟩
                have HI9 := Lib.hid I9
                have hsum : ((ins.length:Int)-(oo:Int) + ((n : Int) - ((ins.length:Int)-(oo:Int))) == (n : Int)) = true := by simp <;> omega
                clear I9
                go_wp2
                go_roundg (fs.length - (j + 1))
                case measure => have := HK.out; omega
                case rel => exact ⟨j + 1, _, _, by omega, by omega, rfl, by go_num, by go_num, hbnd, HI9.out, _, _, rfl⟩
              · have hjb2 : ¬ (j : Int) < (bs.length : Int) := by omega
                clear pcr
                go_wp2_with fail
                refine (order_len HI4.out ((ins.length:Int)-(oo:Int) : Int) (by omega)).mono ?_
                rintro e w9 ⟨rfl, rfl⟩
                go_wp2_with fail
                refine (order_len HI4.out ((ins.length:Int)-(oo:Int) : Int) (by omega)).mono ?_
                rintro e w9 ⟨rfl, rfl⟩
                go_wp2_with fail
                refine (order_free HI4.out ((ins.length:Int)-(oo:Int) : Int) (by omega)).mono ?_
                rintro e w9 ⟨rfl, I9⟩
                have HI9 := Lib.hid I9
                have hsum : ((ins.length:Int)-(oo:Int) + ((n : Int) - ((ins.length:Int)-(oo:Int))) == (n : Int)) = true := by simp <;> omega
                clear I9
                go_wp2
                go_roundg (fs.length - (j + 1))
                case measure => have := HK.out; omega
                case rel => exact ⟨j + 1, _, _, by omega, by omega, rfl, by go_num, by go_num, hbnd, HI9.out, _, _, rfl⟩
        · have hfb : ((ins.length : Int) - (oo : Int) == (n : Int)) = false := by simp; omega
          have hfull2 : ins.length - oo < n := by
            obtain ⟨_, _, _, _, _, _, _, h, _⟩ := hq
            have := HD.out
            omega
          have HFull := Lib.hid hfull2
          clear hfull hfull2
          rcases hpre with ⟨hlc, hbt⟩ | ⟨hlc, hbt⟩
          all_goals
            go_wp2_with fail
            refine (push_ok q n S _ _ f _ hq (hbt.grows HI2.out.grows) (by omega) (by rw [HD.out]; exact HFull.out)).mono ?_
            rintro e w3 ⟨rfl, hq3, he3⟩
            have G3 : Grows w w3 := Ext.eq_lift HI2.out.grows he3 ((HS.out q hSq).1)
            have hsrc := ((hbt.grows G3).grows (Ext.alloc (Ext.refl _ _) (.cells #[] 5))).src (P := Try.prog) Try.underlying22
            have hown0 := World.ownsRow_made (size := 1) w3 #[] 0 (e := 5) (Nat.zero_le _) (by unfold maxLen; omega) rfl
            go_wp2_with (at_builtin; refine wpList_append_src rfl (.tmp 73) (.tmp 74) 22 22 rfl 5 (.int .u8 0) 1 1 Try.underlying22 infoU8 rfl _ _ rfl rfl 0 [] hown0 f.length (f.map (Value.int .u8)) hsrc (by unfold maxLen; omega) (by omega) ?_)
            intro v' w4 hown4 hgr4 hblk4
            obtain ⟨fa, fc, rfl⟩ := owns_form hown4
            have B4 : Bytes w4 _ f := Bytes.of_owns (by simpa using hown4) hbt.2.1 (by omega)
            have hlt4 := fun k hk => (hown4.lt k hk).2
            obtain ⟨vs, ho1, ho2, ho3⟩ := HO.out
            have e4 : Ext (fun k => k = q) wr w4 := he3.trans (((Ext.alloc (Ext.refl (fun k => k = w3.heap.size) w3) _).trans (Ext.of_grown hgr4 (fun k hk => (Option.some.inj hk).symm))).mono (T := fun k => k = q) (fun k hk hh => by omega))
            have own5 := (ownsRow_ext ho1 e4 (fun k hk hh => by subst hh; exact (HV.out k hk).2 hSq)).alloc (.cells #[.slice fa f.length fc] 22)
            go_wp2_with (at_builtin; refine wpList_append_src rfl (.tmp 72) (.tmp 76) 43 43 rfl 22 (.slice none 0 0) 1 24 Try.underlying43 infoBytes rfl _ _ rfl rfl ins.length vs own5 1 [.slice fa f.length fc] (src_one Try.underlying43 (heap_alloc_new w4 _) rfl) (by unfold maxLen; omega) (by omega) ?_)
            intro v'' w6 hown6 hgr6 hblk6
            have I3 : OrderInv w w6 q n (ins ++ [f]) oo v'' := OrderInv.pushed HS.out hSq HO.out HF.out HV.out HI2.out.grows hIle hq3 he3 B4 hgr4 hblk4 hlt4 ho2 (by have := ho1.1; omega) hown6 hgr6 (by simpa using hblk6)
            obtain ⟨vb, vbc, rfl⟩ := owns_form hown6
            have hpos : oo < (ins ++ [f]).length := by simp; omega
            have hbnd : (ins ++ [f]).length ≤ j + 1 := by simp; omega
            have hl' : ins.length + 1 = (ins ++ [f]).length := by simp
            rw [hl'] at I3 ⊢
            generalize ins ++ [f] = ins' at I3 hpos hbnd ⊢
            have HI3 := Lib.hid I3
            clear I3 hown6 hgr6 hblk6 own5 e4 ho1 ho2 ho3 hlt4 B4 hown4 hgr4 hblk4 hown0 hsrc G3 hq3 he3 hq hl'
            have hfew := HI3.out.few
            have hposI : (oo : Int) < (ins'.length : Int) := by omega
            rcases hpop with ⟨hjb, hpb⟩ | hpb
            · obtain ⟨pb, poff, pcap, pe, pbl, pcell⟩ := BS.out.at j hjb
              simp only [Value.slice.injEq] at pe
              obtain ⟨rfl, _, rfl⟩ := pe
              have pcr := (HI3.out.grows.cell pbl (fun h => h)).trans pcell
              rw [hpb] at pcr
              have hjb2 : (j : Int) < (bs.length : Int) := by omega
              clear pcell hpb
              go_wp2_with fail
              refine (order_pop HI3.out hpos).mono ?_
              rintro e w7 ⟨bx, rfl, Bx, I7⟩
              obtain ⟨eb, eoff, ecap, ea, ec, ee, ecell, eB⟩ := I7.elem oo hpos
              simp only [Value.slice.injEq] at ee
              obtain ⟨rfl, _, rfl⟩ := ee
              have hoo : (0 : Int) ≤ (oo : Int) := by omega
              have HI4 := Lib.hid I7
              have hbx := Bx.2.2
              generalize ins'[oo] = g at Bx eB ecell hbx ⊢
              clear I7
              go_wp2_with fail
              refine (equal_any _ _ _ _ _ Bx eB).mono ?_
              rintro e w8 ⟨rfl, rfl⟩
              clear Bx eB ecell
              go_wp2_with fail
              refine (order_len HI4.out ((ins'.length:Int)-((oo:Int)+1) : Int) (by omega)).mono ?_
              rintro e w9 ⟨rfl, rfl⟩
              go_wp2_with fail
              refine (order_len HI4.out ((ins'.length:Int)-((oo:Int)+1) : Int) (by omega)).mono ?_
              rintro e w9 ⟨rfl, rfl⟩
              go_wp2_with fail
              refine (order_free HI4.out ((ins'.length:Int)-((oo:Int)+1) : Int) (by omega)).mono ?_
              rintro e w9 ⟨rfl, I9⟩
              have HI9 := Lib.hid I9
              have hsum : ((ins'.length:Int)-((oo:Int)+1) + ((n : Int) - ((ins'.length:Int)-((oo:Int)+1))) == (n : Int)) = true := by simp <;> omega
              clear I9
              go_wp2
              go_roundg (fs.length - (j + 1))
              case measure => have := HK.out; omega
              case rel => exact ⟨j + 1, _, _, by omega, by omega, rfl, by go_num, by go_num, hbnd, HI9.out, _, _, rfl⟩
            · have pcr : j < bs.length → ∃ pb poff, a2 = some ⟨pb, poff, none⟩ ∧ w6.cell? ⟨pb, poff + j, none⟩ = some (.bool false) := fun hjb => by
                obtain ⟨pb, poff, pcap, pe, pbl, pcell⟩ := BS.out.at j hjb
                simp only [Value.slice.injEq] at pe
                obtain ⟨rfl, _, rfl⟩ := pe
                have h1 := (HI3.out.grows.cell pbl (fun h => h)).trans pcell
                rw [hpb hjb] at h1
                exact ⟨pb, poff, rfl, h1⟩
              clear hpb
              have HI4 := HI3
              by_cases hjb : j < bs.length
              · obtain ⟨pb, poff, rfl, pcr⟩ := pcr hjb
                have hjb2 : (j : Int) < (bs.length : Int) := by omega
                go_wp2_with fail
                refine (order_len HI4.out ((ins'.length:Int)-(oo:Int) : Int) (by omega)).mono ?_
                rintro e w9 ⟨rfl, rfl⟩
                go_wp2_with fail
                refine (order_len HI4.out ((ins'.length:Int)-(oo:Int) : Int) (by omega)).mono ?_
                rintro e w9 ⟨rfl, rfl⟩
                go_wp2_with fail
                refine (order_free HI4.out ((ins'.length:Int)-(oo:Int) : Int) (by omega)).mono ?_
                rintro e w9 ⟨rfl, I9⟩
                have HI9 := Lib.hid I9
                have hsum : ((ins'.length:Int)-(oo:Int) + ((n : Int) - ((ins'.length:Int)-(oo:Int))) == (n : Int)) = true := by simp <;> omega
                clear I9
                go_wp2
                go_roundg (fs.length - (j + 1))
                case measure => have := HK.out; omega
                case rel => exact ⟨j + 1, _, _, by omega, by omega, rfl, by go_num, by go_num, hbnd, HI9.out, _, _, rfl⟩
              · have hjb2 : ¬ (j : Int) < (bs.length : Int) := by omega
                clear pcr
                go_wp2_with fail
                refine (order_len HI4.out ((ins'.length:Int)-(oo:Int) : Int) (by omega)).mono ?_
                rintro e w9 ⟨rfl, rfl⟩
                go_wp2_with fail
                refine (order_len HI4.out ((ins'.length:Int)-(oo:Int) : Int) (by omega)).mono ?_
                rintro e w9 ⟨rfl, rfl⟩
                go_wp2_with fail
                refine (order_free HI4.out ((ins'.length:Int)-(oo:Int) : Int) (by omega)).mono ?_
                rintro e w9 ⟨rfl, I9⟩
                have HI9 := Lib.hid I9
                have hsum : ((ins'.length:Int)-(oo:Int) + ((n : Int) - ((ins'.length:Int)-(oo:Int))) == (n : Int)) = true := by simp <;> omega
                clear I9
                go_wp2
                go_roundg (fs.length - (j + 1))
                case measure => have := HK.out; omega
                case rel => exact ⟨j + 1, _, _, by omega, by omega, rfl, by go_num, by go_num, hbnd, HI9.out, _, _, rfl⟩
      · obtain rfl : j = 300 := by omega
        obtain ⟨b, off, cap, ua, uc, e, hbl2, hcell, hby, hle⟩ := FR.out.at 300 hlt
        simp only [Value.slice.injEq] at e
        obtain ⟨rfl, _, rfl⟩ := e
        have hcr := (HI2.out.grows.cell hbl2 (fun h => h)).trans hcell
        have i2 : (300 : Int) < (fs.length : Int) := by omega
        clear hcell hby hle
        go_wp2
        go_loopg [11] (ins.length - oo) (fun k o2 wq => ∃ jj : Nat, jj ≤ ins.length ∧ k = ins.length - jj ∧ o2 = .int .i64 (jj : Nat) ∧ OrderInv w wq q n ins jj (.slice va ins.length vcap))
        case atStart => exact ⟨oo, hIle, rfl, rfl, HI2.out⟩
        case round =>
          obtain ⟨jj, hjl, hkk, rfl, hI5⟩ := hrel
          have HK5 := Lib.hid hkk
          have HI5 := Lib.hid hI5
          clear hkk hI5
          by_cases hjj : jj < ins.length
          · have hjj2 : (jj : Int) < (ins.length : Int) := by omega
            have hjj0 : (0 : Int) ≤ (jj : Int) := by omega
            go_wp2_with fail
            refine (order_pop HI5.out hjj).mono ?_
            rintro e w7 ⟨bx, rfl, Bx, I7⟩
            obtain ⟨eb, eoff, ecap, ea, ec, ee, ecell, eB⟩ := I7.elem jj hjj
            simp only [Value.slice.injEq] at ee
            obtain ⟨rfl, _, rfl⟩ := ee
            have HI7 := Lib.hid I7
            have hbx := Bx.2.2
            generalize ins[jj] = g at Bx eB ecell hbx ⊢
            clear I7
            go_wp2_with fail
            refine (equal_any _ _ _ _ _ Bx eB).mono ?_
            rintro e w8 ⟨rfl, rfl⟩
            clear Bx eB ecell
            go_wp2
            go_roundg (ins.length - (jj + 1))
            case measure => have := HK5.out; omega
            case rel => exact ⟨jj + 1, by omega, rfl, by go_num, HI7.out⟩
          · obtain rfl : jj = ins.length := by omega
            go_wp2_with fail
            refine (order_end HI5.out rfl).mono ?_
            rintro e w7 ⟨rfl, rfl⟩
            go_wp2_with fail
            refine (order_len HI5.out 0 (by omega)).mono ?_
            rintro e w8 ⟨rfl, rfl⟩
            go_wp2
            go_ret
            exact ⟨ret_bool (by simp), Ext.to_below HI5.out.grows⟩
    · go_wp2
      go_loopg [11] (ins.length - oo) (fun k o2 wq => ∃ jj : Nat, jj ≤ ins.length ∧ k = ins.length - jj ∧ o2 = .int .i64 (jj : Nat) ∧ OrderInv w wq q n ins jj (.slice va ins.length vcap))
      case atStart => exact ⟨oo, hIle, rfl, rfl, HI2.out⟩
      case round =>
        obtain ⟨jj, hjl, hkk, rfl, hI5⟩ := hrel
        have HK5 := Lib.hid hkk
        have HI5 := Lib.hid hI5
        clear hkk hI5
        by_cases hjj : jj < ins.length
        · have hjj2 : (jj : Int) < (ins.length : Int) := by omega
          have hjj0 : (0 : Int) ≤ (jj : Int) := by omega
          go_wp2_with fail
          refine (order_pop HI5.out hjj).mono ?_
          rintro e w7 ⟨bx, rfl, Bx, I7⟩
          obtain ⟨eb, eoff, ecap, ea, ec, ee, ecell, eB⟩ := I7.elem jj hjj
          simp only [Value.slice.injEq] at ee
          obtain ⟨rfl, _, rfl⟩ := ee
          have HI7 := Lib.hid I7
          have hbx := Bx.2.2
          generalize ins[jj] = g at Bx eB ecell hbx ⊢
          clear I7
          go_wp2_with fail
          refine (equal_any _ _ _ _ _ Bx eB).mono ?_
          rintro e w8 ⟨rfl, rfl⟩
          clear Bx eB ecell
          go_wp2
          go_roundg (ins.length - (jj + 1))
          case measure => have := HK5.out; omega
          case rel => exact ⟨jj + 1, by omega, rfl, by go_num, HI7.out⟩
        · obtain rfl : jj = ins.length := by omega
          go_wp2_with fail
          refine (order_end HI5.out rfl).mono ?_
          rintro e w7 ⟨rfl, rfl⟩
          go_wp2_with fail
          refine (order_len HI5.out 0 (by omega)).mono ?_
          rintro e w8 ⟨rfl, rfl⟩
          go_wp2
          go_ret
          exact ⟨ret_bool (by simp), Ext.to_below HI5.out.grows⟩
namespace QueueOrderShell
theorem own : ownKnob Try.prog.godebug = none := by kernel_rfl
theorem laidOut : laidOutB Try.prog = true := by kernel_rfl
set_option maxRecDepth 100000 in
theorem lifted (os : Os) (started : os.Started) (H : Type) (enc : TypeId × Value → H) :
    ReturnsInHanded {} Try.checked os 7 .any (Rows.queueOrderSpec.pre6 enc Try.prog Try.f7 Rows.queueOrderRow.domain false) (Rows.queueOrderSpec.post enc Try.prog Try.f7 false true false false) := by
  refine returnsInHanded_of_change_sized (C := Try.checked) own started (by kernel_rfl) Try.func7
    (ChangeSpec.witness6 (enc := enc) (C := Try.checked) false ⟨#[], #[.int .u8 0, .slice none 0 0, .slice none 0 0], []⟩ 8 (by kernel_rfl) (by kernel_rfl) (by kernel_rfl) (by kernel_rfl)) ?_
  intro W base args ds gs before hval0 hW hcnd hsz0 _
  have hval : ∀ (j : Nat) t v, Try.f7.params[j]? = some t → args[j]? = some v → Value.okWide Try.prog W .any base t v := hval0
  have hsz : (DataW.weightsEach Try.prog (Try.f7.params.toList ++ Rows.queueOrderSpec.plain.varTypes Try.prog) (ds ++ gs)).all (· ≤ reachBytes) = true := hsz0
  have hW' := hW
  obtain ⟨p, q, hA0, hV, rfl, hfz, hnd⟩ := hW
  have hA : DataW.TrodAll enc Try.prog W 0 (fun _ => true) true Try.f7.params.toList args.toList ds p := hA0
  rw [Try.params7] at hA hval hsz
  obtain ⟨v0, vs0, d0, ds0, p0, q0, hargs, rfl, rfl, h0, r0⟩ := trodAll_cons hA
  obtain ⟨v1, vs1, d1, ds1, p1, q1, rfl, rfl, rfl, h1, r1⟩ := trodAll_cons r0
  obtain ⟨v2, vs2, d2, ds2, p2, q2, rfl, rfl, rfl, h2, r2⟩ := trodAll_cons r1
  obtain ⟨rfl, rfl, rfl⟩ := trodAll_nil r2
  obtain rfl : args = #[v0, v1, v2] := by cases args; simp_all
  obtain ⟨rfl, rfl⟩ := trodVars_none hV
  have k0 := h0
  have lt0 : ∀ x ∈ p0, x.block < W.heap.size := by obtain ⟨m, hm⟩ := k0; exact DataW.trod_lt m _ _ _ hm
  have k1 := h1
  have lt1 : ∀ x ∈ p1, x.block < W.heap.size := by obtain ⟨m, hm⟩ := k1; exact DataW.trod_lt m _ _ _ hm
  have k2 := h2
  have lt2 : ∀ x ∈ p2, x.block < W.heap.size := by obtain ⟨m, hm⟩ := k2; exact DataW.trod_lt m _ _ _ hm
  obtain ⟨a0, rfl, rfl, rfl, w0⟩ := open_int Try.underlying5 (hval 0 5 v0 rfl rfl) h0
  obtain ⟨a1, w1⟩ := open_frames (hval 1 43 v1 rfl rfl) h1 hsz (j := 1) rfl rfl
  obtain ⟨a2, w2⟩ := open_bools (hval 2 44 v2 rfl rfl) h2 hsz (j := 2) rfl rfl
  clear hA0 hval0 hsz0
  refine (QueueOrder_walk a0 v1 a1 v2 a2 W w0 w1 w2).mono fun e W' ⟨he, bel⟩ => ?_
  subst he
  exact ⟨_, rfl, _, _, _, [], _, [], hW', trodAll_mk1 (shut_bool Try.underlying4 _), (trodAll_cons_mk (Below.trod laidOut (by kernel_rfl) (of_decide_eq_true (by kernel_rfl)) k0 bel lt0) (trodAll_cons_mk (Below.trod laidOut (by kernel_rfl) (of_decide_eq_true (by kernel_rfl)) k1 bel lt1) (trodAll_cons_mk (Below.trod laidOut (by kernel_rfl) (of_decide_eq_true (by kernel_rfl)) k2 bel lt2) trodAll_mk0))), rfl, bel.frame _, fun h => by cases h⟩
theorem over : Rows.queueOrderRow.holds Try.pinned (OpenSpec.ofChange Rows.queueOrderSpec) :=
  OpenClaim.holds_of_wide 7 Try.f7 rfl rfl rfl rfl rfl rfl rfl ⟨rfl, rfl, rfl, rfl, rfl⟩ rfl rfl rfl rfl rfl (by kernel_rfl) Try.func7 (by kernel_rfl)
    (of_decide_eq_true (by kernel_rfl)) (by unfold Func.isWrapper; first | (rw [if_pos (by decide +kernel)]; kernel_rfl) | (rw [if_neg (by decide +kernel)]; exact ⟨rfl, rfl⟩))
    (fun os started H enc _ => lifted os started H enc)
end QueueOrderShell
theorem QueueOrder_holds : Rows.QueueOrderSaid := QueueOrderShell.over
#print axioms QueueOrder_holds
end Go.Proofs.Ytekegbadkafjlaa
