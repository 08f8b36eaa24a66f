import Derived.Test.YtnncnjkpjlpodaaFlowRef7
import Derived.Test.YtnncnjkpjlpodaaRowActs
import Derived.Test.YtnncnjkpjlpodaaFlowLaws3
import Derived.Deep.DeepCutAuto
import Derived.Deep.CutBlock
/-
  The law FlowWrites: its walk.
-/
namespace Go.Proofs.Ytnncnjkpjlpodaa
open Go.RowKit

theorem is_one (l : List Int) : ∀ u ∈ is l, u.oneCell' = true := fun u hu => by
  obtain ⟨_, _, rfl⟩ := List.mem_map.1 hu
  rfl
/-- 'append(v, ys...)', ints onto ints that the call owns -/
theorem wpList_append_ints {ops : Array Oper} {rest : List Oper} {o : Oper} {a : Act} {Q : Exit → Act → World → Prop} (W : World) (hgd : o.guard = none) (s x : Operand)
    (ho : o.op = .call { callee := .builtin .append, args := #[s, x], argTypes := #[42, 42] })
    (base : Nat) (v : Value) (xs ys : List Int) (n : Nat) (hn : ys.length = n) (hs : a.eval s = v) (hown : OI W base v xs) (A : Option Addr) (c : Nat) (hx : a.eval x = .slice A n c) (hr : Reads W W.heap.size 1 A n (is ys))
    (hlen : (xs.length + n) * 8 ≤ 140737488355328) (hbase : base ≤ W.heap.size)
    (h : ∀ v' w', OI w' base v' (xs ++ ys) → W.grownBy w' v.ownBlock → (v'.ownBlock = v.ownBlock ∨ v'.ownBlock = some W.heap.size) → wpList Try.prog ops Q rest (a.put o.dst v') w') :
    wpList Try.prog ops Q (o :: rest) a W := by
  obtain ⟨i, hi, hzz⟩ := Option.map_eq_some_iff.1 info_int
  simp only [Prod.mk.injEq] at hzz
  obtain ⟨hz, h1, hb⟩ := hzz
  refine wpList_append_any _ hgd s x 42 ho base 3 i (.int .i64 0) 1 8 Try.underlying42 hi hz h1 hb rfl (by omega) v xs.length (is xs) hs hown W.heap.size A n c (is ys) hx hr (is_one ys) (by unfold maxLen; omega) hlen hbase ?_
  intro v' w' ho' hg hat
  exact h v' w' (by unfold OI; rw [is_append, List.length_append, hn]; exact ho') hg hat
theorem OI.reads {w : World} {base : Nat} {A : Option Addr} {n c : Nat} {l : List Int} (h : OI w base (.slice A n c) l) : Reads w w.heap.size 1 A l.length (is l) := by
  obtain ⟨A', c', he⟩ := h.form
  injection he with e1 e2 e3
  subst e1; subst e2; subst e3
  exact Reads.of_own h
/-- ints' row under a writer's call -/
theorem OI.step {w w' : World} {base g N a : Nat} {T v v' : Value} {l : List Int} (h : OI w base T l) (hw : Wr w g v N a) (hs : WStep g v w v' w') : OI w' base T l := by
  refine own_keep h fun q hq => hs.keep q (own_block' h q hq).2 ?_ ?_
  · rintro rfl
    exact own_blk_ne h hw.blk (show 3 ≠ 61 by decide) hq
  · obtain ⟨l, -, ho⟩ := hw.own
    exact own_own_ne h ho (by decide) q hq
theorem OI.below {w w' : World} {base : Nat} {v : Value} {l : List Int} (h : OI w base v l) (hb : Below w.heap.size w w') : OI w' base v l := own_keep h fun q hq => hb.block q (own_block' h q hq).2
/-- behind the append of bits: the writer stands -/
theorem wrote_end {w w1 w2 : World} {g N a base : Nat} {v T T2 : Value} {l l2 : List Int} (hw : Wr w1 g v N a) (hT : OI w1 base T l) (hb : Below w.heap.size w w1) (hz : w.heap.size ≤ base) (hg : w1.grownBy w2 T.ownBlock) (_hT2 : OI w2 base T2 l2) :
    Wr w2 g v N a ∧ Below w.heap.size w w2 := by
  refine ⟨hw.heap fun q hq => hg.block q (hw.lt q hq) fun hc => ?_, hb.grown hg hb.size fun k hk => Nat.le_trans hz (own_block' hT k hk).1⟩
  rcases hq with rfl | hq
  · exact own_blk_ne hT hw.blk (by decide) hc.symm
  · obtain ⟨l, -, ho⟩ := hw.own
    exact own_own_ne hT ho (by decide) q hc.symm hq
theorem make_ints (m : Nat) (hm : m ≤ 17592186044416) (w : World) :
    (Instr.makeSlice 42 (.int .i64 (m : Int)) (.int .i64 (m : Int))).run Try.prog w = .ok (.slice (some ⟨w.heap.size, 0, none⟩) m m) (w.alloc (.cells (madeCells #[.int .i64 0] m) 3)) :=
  run_make_row' 42 3 (.int .i64 0) 8 Try.underlying42 info_int rfl .i64 .i64 m (by omega) (by omega) w
theorem own_made_ints (w : World) (m : Nat) (hm : m ≤ 17592186044416) : OI (w.alloc (.cells (madeCells #[.int .i64 0] m) 3)) w.heap.size (.slice (some ⟨w.heap.size, 0, none⟩) m m) (List.replicate m 0) := by
  refine ⟨by simp [is], .inr ⟨w.heap.size, m, _, by rw [List.length_replicate], Nat.le_refl _, heap_alloc_new w _, by simp, by unfold maxLen; omega, by rw [size_madeCells, Nat.mul_one], ?_⟩⟩
  rw [toList_madeCells_one]
  simp [is, List.map_replicate]
/-- what a round's call has left: it took the bits m, or none -/
def Wrote (w : World) (g base : Nat) (t : Value) (b : List Nat) (s7 s8 s9 : Value) (wx : World) : Prop :=
  OI wx base t (zl b) ∧ base ≤ wx.heap.size ∧ Below w.heap.size w wx ∧
  ((s8 = .bool true ∧ s9 = .int .i64 0 ∧ ∃ (m : List Nat) (v : Value) (A : Option Addr) (c : Nat), s7 = .slice A m.length c ∧ Bit m ∧ m.length ≤ 400 ∧ Reads wx wx.heap.size 1 A m.length (is (zl m)) ∧ Wr wx g v (bN (b ++ m)) (b ++ m).length) ∨
   (s8 = .bool false ∧ s9 = .int .i64 2 ∧ ∃ v, Wr wx g v (bN b) b.length))
theorem wrote_yes {w : World} {g base : Nat} {t v : Value} {b : List Nat} {wx w1 : World} {v1 : Value} {N a c : Nat} {A : Option Addr} {m : List Nat} {base1 : Nat} (hT : OI wx base t (zl b)) (hz : base ≤ wx.heap.size) (hb : Below w.heap.size w wx) (hg : w.heap.size ≤ g)
    (hI : OI wx base1 (.slice A m.length c) (zl m)) (hm : Bit m) (hl : m.length ≤ 400) (hw : Wr wx g v (bN b) b.length) (hw1 : Wr w1 g v1 N a) (hs : WStep g v wx v1 w1) (hN : N = bN b + 2 ^ b.length * bN m) (ha : a = b.length + m.length) :
    Wrote w g base t b (.slice A m.length c) (.bool true) (.int .i64 0) w1 := by
  refine ⟨hT.step hw hs, Nat.le_trans hz hs.size, hb.trans (hs.below _ hg hb.size), .inl ⟨rfl, rfl, m, v1, A, c, rfl, hm, hl, ?_, ?_⟩⟩
  · have := (hI.step hw hs).reads
    rwa [zl_length] at this
  · rw [bN_app, List.length_append, ← hN, ← ha]; exact hw1
theorem wrote_no {w : World} {g base : Nat} {t v : Value} {b : List Nat} {wx : World} {s7 : Value} (hT : OI wx base t (zl b)) (hz : base ≤ wx.heap.size) (hb : Below w.heap.size w wx) (hw : Wr wx g v (bN b) b.length) :
    Wrote w g base t b s7 (.bool false) (.int .i64 2) wx := ⟨hT, hz, hb, .inr ⟨rfl, rfl, v, hw⟩⟩
theorem reverse_bit {l : List Nat} (h : Bit l) : Bit l.reverse := fun x hx => h x (List.mem_reverse.1 hx)
set_option maxRecDepth 100000 in
set_option maxHeartbeats 8000000 in
theorem FlowWrites_calls (A : Option Addr) (L : List AV) (c : Nat) (w : World) (hl : AR w A L) (hm : L.length ≤ 9223372036854775807) :
    Calls Try.prog 5 #[.slice A L.length c] w fun e w' => e = .returned (.bool true) ∧ Below w.heap.size w w' := by
  have HL := Bx.mk hl
  clear hl
  go_enter Try.func5, Try.ntmps5
  go_wp2_with fail
  refine (Write_calls w).mono ?_
  rintro e w2 ⟨rfl, hwr, hw2⟩
  have B2 : Bx (Below w.heap.size w w2) := ⟨by rw [hw2]; exact below_alloc1 _ _⟩
  have W2 := Bx.mk hwr
  clear hwr hw2
  generalize hg : w.heap.size = g at W2 ⊢
  have G := Bx.mk hg
  clear hg
  go_wp2
  have W3 := Bx.mk (W2.out.below (below_alloc1 w2 (.cells #[] 3)))
  have T3 := Bx.mk (OI.empty w2)
  have B3 := Bx.mk (B2.out.alloc B2.out.size (.cells #[] 3))
  have hz3 : w2.heap.size ≤ (w2.alloc (.cells #[] 3)).heap.size := by simp
  have hzT : w.heap.size ≤ w2.heap.size := B2.out.size
  generalize w2.heap.size = base at T3 hzT hz3 ⊢
  generalize w2.alloc (.cells #[] 3) = w3 at W3 T3 B3 hz3 ⊢
  clear W2 B2
  go_loopw [4, 5] (fun t i wr => ∃ (k : Nat) (v : Value) (b : List Nat), k ≤ L.length ∧ k ≤ 200 ∧ i = .int .i64 (k : Nat) ∧ Bx (Bit b) ∧ b.length ≤ 400 * k ∧ Bx (Wr wr g v (bN b) b.length) ∧ Bx (OI wr base t (zl b)) ∧ Bx (base ≤ wr.heap.size) ∧ Bx (Below w.heap.size w wr)) (fun _ i _ => L.length - (intOf i).toNat)
  case atStart => exact ⟨0, _, [], Nat.zero_le _, by omega, rfl, ⟨fun x hx => by cases hx⟩, Nat.le_refl _, W3, T3, ⟨hz3⟩, B3⟩
  case round =>
    obtain ⟨k, v, b, hk, hk1, rfl, HK, hka, HW, HT, HZT, HB⟩ := hrel
    by_cases hlt : k < L.length ∧ k < 200
    · obtain ⟨hlt1, hlt2⟩ := hlt
      obtain ⟨ad, rfl, hd⟩ := (HL.out.below HB.out) (by omega)
      have hx := hd k _ (List.getElem?_eq_getElem hlt1)
      clear hd
      generalize L[k] = x at hx
      obtain ⟨d, n, m, D, len, cap, dl⟩ := x
      obtain ⟨c0, c1, c2, c3, nb, bb, lc, lm, dlen, drb⟩ := hx
      simp only at c0 c1 c2 c3 nb bb lc lm dlen drb
      obtain ⟨nb1, nb2⟩ := nb
      obtain ⟨bb1, bb2⟩ := bb
      have W1 := HW.out.below (below_alloc1 wr (.cells #[.int .i64 d, .int .i64 n, .int .i64 m, .slice D len cap] 28))
      have T1 := HT.out.below (below_alloc1 wr (.cells #[.int .i64 d, .int .i64 n, .int .i64 m, .slice D len cap] 28))
      have B1 := HB.out.alloc HB.out.size (.cells #[.int .i64 d, .int .i64 n, .int .i64 m, .slice D len cap] 28)
      have A1 := Blk.new wr 28 #[.int .i64 d, .int .i64 n, .int .i64 m, .slice D len cap]
      have RD1 := drb.below (below_alloc1 wr (.cells #[.int .i64 d, .int .i64 n, .int .i64 m, .slice D len cap] 28))
      have WA := Bx.mk (W1.below (below_alloc1 _ (.cells #[] 3)))
      have TA := Bx.mk (T1.below (below_alloc1 _ (.cells #[] 3)))
      have BA := Bx.mk (B1.alloc B1.size (.cells #[] 3))
      have AAA := Bx.mk (A1.alloc (.cells #[] 3))
      have RDA := Bx.mk (RD1.below (below_alloc1 _ (.cells #[] 3)))
      have ZA : Bx (base ≤ ((wr.alloc (.cells #[.int .i64 d, .int .i64 n, .int .i64 m, .slice D len cap] 28)).alloc (.cells #[] 3)).heap.size) := ⟨Nat.le_trans HZT.out (by simp; omega)⟩
      have DLN := Bx.mk dlen
      clear W1 T1 B1 A1 RD1 drb dlen HW HT HB HZT
      go_wp2_with fail
      refine (Among_calls d 6 _ (by decide) (by decide)).mono ?_
      rintro e w4 ⟨rfl, rfl⟩
      have hrlt := amg_lt d 6 (by decide)
      generalize amg d 6 = r at hrlt ⊢
      go_upto_block 2 with fail
      generalize ((wr.alloc (.cells #[.int .i64 d, .int .i64 n, .int .i64 m, .slice D len cap] 28)).alloc (.cells #[] 3)) = wA at WA TA BA AAA RDA ZA ⊢
      generalize wr.heap.size = q at AAA ⊢
      go_cut [7, 8, 9] (fun s7 s8 s9 wx => Wrote w g base u4 b s7 s8 s9 wx)
      case first =>
        have d1 := AAA.out.cell 1
        have d2 := AAA.out.cell 2
        have d3 := AAA.out.cell 3
        simp at d1 d2 d3
        obtain h01 | rfl | rfl | h45 : (r = 0 ∨ r = 1) ∨ r = 2 ∨ r = 3 ∨ (r = 4 ∨ r = 5) := by omega
        · rcases h01 with rfl | rfl
          all_goals
            by_cases harg : m < 0 ∨ 24 < m ∨ n < 0
            · have hno : ¬ Goes n m := fun h => by obtain ⟨h1, h2, h3, -⟩ := h; omega
              have LO := Bx.mk (Low_arg n m wA harg)
              have PU := Bx.mk fun W (h : Wr W g v (bN b) b.length) => Put_no g v _ n m W h.blk hno nb2
              clear harg hno
              go_wp2_with fail
              refine LO.out.mono ?_
              rintro e w5 ⟨rfl, rfl⟩
              have HB5 := Bx.mk (Below.refl wA.heap.size wA)
              have A5 := AAA.out.below HB5.out AAA.out.lt
              have d1 := A5.cell 1
              have d2 := A5.cell 2
              simp at d1 d2
              have W5 := Bx.mk (WA.out.below HB5.out)
              clear A5
              go_wp2_with fail
              refine (PU.out _ W5.out).mono ?_
              rintro e w6 ⟨rfl, rfl⟩
              go_wp2
              go_meet
              exact wrote_no (TA.out.below HB5.out) (Nat.le_trans ZA.out HB5.out.size) (below_then BA.out BA.out.size HB5.out) W5.out
            · obtain ⟨m, rfl⟩ := Int.eq_ofNat_of_zero_le (show 0 ≤ m by omega)
              obtain ⟨n, rfl⟩ := Int.eq_ofNat_of_zero_le (show 0 ≤ n by omega)
              have hm24 : m ≤ 24 := by omega
              have LO := Bx.mk (Low_calls n m wA hm24 (by omega))
              clear harg
              by_cases hfit : n < 2 ^ m
              · rw [decide_eq_true hfit] at LO
                have PU := Bx.mk fun W (h : Wr W g v (bN b) b.length) => Put_yes g v _ _ n m W h hm24 hfit (by omega)
                have EV : Bx (n = bN (lowL n m)) := ⟨by rw [bN_low, Nat.mod_eq_of_lt hfit]⟩
                clear hfit
                go_wp2_with fail
                refine LO.out.mono ?_
                rintro e w5 ⟨v5, rfl, ho5, hb5⟩
                obtain ⟨A5, c5, rfl⟩ := ho5.form
                have hlen5 : (zl (lowL n m)).length = (lowL n m).length := zl_length _
                rw [hlen5] at ho5 ⊢
                have O5 := Bx.mk ho5
                have HB5 := Bx.mk hb5
                have A5b := AAA.out.below HB5.out AAA.out.lt
                have d1 := A5b.cell 1
                have d2 := A5b.cell 2
                simp at d1 d2
                have W5 := Bx.mk (WA.out.below HB5.out)
                have T5 := Bx.mk (TA.out.below HB5.out)
                have BL : Bx (Bit (lowL n m)) := ⟨lowL_bit n m⟩
                have LL : Bx ((lowL n m).length = m) := ⟨by rw [lowL_length]⟩
                clear A5b ho5 hb5 hlen5
                generalize lowL n m = ml at O5 EV BL LL ⊢
                go_wp2_with fail
                refine (PU.out _ W5.out).mono ?_
                rintro e w6 ⟨rfl, v6, hw6, hs6⟩
                have W6 := Bx.mk hw6
                have S6 := Bx.mk hs6
                clear hw6 hs6
                go_wp2
                go_meet
                exact wrote_yes T5.out (Nat.le_trans ZA.out HB5.out.size) (below_then BA.out BA.out.size HB5.out) (Nat.le_of_eq G.out) O5.out BL.out (by have := LL.out; omega) W5.out W6.out S6.out (by rw [← EV.out]) (by rw [LL.out])
              · rw [decide_eq_false hfit] at LO
                have hno : ¬ Goes (n : Int) (m : Int) := fun h => by
                  obtain ⟨-, -, -, h4⟩ := h
                  rw [show ((m : Int)).toNat = m by omega, show (2 : Int) ^ m = ((2 ^ m : Nat) : Int) by rw [Int.natCast_pow]; rfl] at h4
                  exact hfit (by omega)
                have PU := Bx.mk fun W (h : Wr W g v (bN b) b.length) => Put_no g v _ n m W h.blk hno nb2
                clear hfit hno
                go_wp2_with fail
                refine LO.out.mono ?_
                rintro e w5 ⟨v5, rfl, ho5, hb5⟩
                obtain ⟨A5, c5, rfl⟩ := ho5.form
                have HB5 := Bx.mk hb5
                have A5b := AAA.out.below HB5.out AAA.out.lt
                have d1 := A5b.cell 1
                have d2 := A5b.cell 2
                simp at d1 d2
                have W5 := Bx.mk (WA.out.below HB5.out)
                clear A5b ho5 hb5
                generalize (zl (lowL n m)).length = zz
                go_wp2_with fail
                refine (PU.out _ W5.out).mono ?_
                rintro e w6 ⟨rfl, rfl⟩
                go_wp2
                go_meet
                exact wrote_no (TA.out.below HB5.out) (Nat.le_trans ZA.out HB5.out.size) (below_then BA.out BA.out.size HB5.out) W5.out
        ·
          by_cases harg : m < 0 ∨ 24 < m ∨ n < 0
          · have hno : ¬ Goes n m := fun h => by obtain ⟨h1, h2, h3, -⟩ := h; omega
            have LO := Bx.mk (High_arg n m wA harg)
            have PU := Bx.mk fun W (h : Wr W g v (bN b) b.length) => Code_no g v _ n m W h.blk hno nb2
            clear harg hno
            go_wp2_with fail
            refine LO.out.mono ?_
            rintro e w5 ⟨v5, rfl, -, hb5⟩
            have HB5 := Bx.mk hb5; clear hb5
            have A5 := AAA.out.below HB5.out AAA.out.lt
            have d1 := A5.cell 1
            have d2 := A5.cell 2
            simp at d1 d2
            have W5 := Bx.mk (WA.out.below HB5.out)
            clear A5
            go_wp2_with fail
            refine (PU.out _ W5.out).mono ?_
            rintro e w6 ⟨rfl, rfl⟩
            go_wp2
            go_meet
            exact wrote_no (TA.out.below HB5.out) (Nat.le_trans ZA.out HB5.out.size) (below_then BA.out BA.out.size HB5.out) W5.out
          · obtain ⟨m, rfl⟩ := Int.eq_ofNat_of_zero_le (show 0 ≤ m by omega)
            obtain ⟨n, rfl⟩ := Int.eq_ofNat_of_zero_le (show 0 ≤ n by omega)
            have hm24 : m ≤ 24 := by omega
            have LO := Bx.mk (High_calls n m wA hm24 (by omega))
            clear harg
            by_cases hfit : n < 2 ^ m
            · rw [decide_eq_true hfit] at LO
              have PU := Bx.mk fun W (h : Wr W g v (bN b) b.length) => Code_yes g v _ _ n m W h hm24 hfit (by omega)
              have EV : Bx (revN n m = bN ((lowL n m).reverse)) := ⟨revN_eq n m⟩
              clear hfit
              go_wp2_with fail
              refine LO.out.mono ?_
              rintro e w5 ⟨v5, rfl, ho5, hb5⟩
              obtain ⟨A5, c5, rfl⟩ := ho5.form
              have hlen5 : (zl ((lowL n m).reverse)).length = ((lowL n m).reverse).length := zl_length _
              rw [hlen5] at ho5 ⊢
              have O5 := Bx.mk ho5
              have HB5 := Bx.mk hb5
              have A5b := AAA.out.below HB5.out AAA.out.lt
              have d1 := A5b.cell 1
              have d2 := A5b.cell 2
              simp at d1 d2
              have W5 := Bx.mk (WA.out.below HB5.out)
              have T5 := Bx.mk (TA.out.below HB5.out)
              have BL : Bx (Bit ((lowL n m).reverse)) := ⟨reverse_bit (lowL_bit n m)⟩
              have LL : Bx (((lowL n m).reverse).length = m) := ⟨by rw [List.length_reverse, lowL_length]⟩
              clear A5b ho5 hb5 hlen5
              generalize (lowL n m).reverse = ml at O5 EV BL LL ⊢
              go_wp2_with fail
              refine (PU.out _ W5.out).mono ?_
              rintro e w6 ⟨rfl, v6, hw6, hs6⟩
              have W6 := Bx.mk hw6
              have S6 := Bx.mk hs6
              clear hw6 hs6
              go_wp2
              go_meet
              exact wrote_yes T5.out (Nat.le_trans ZA.out HB5.out.size) (below_then BA.out BA.out.size HB5.out) (Nat.le_of_eq G.out) O5.out BL.out (by have := LL.out; omega) W5.out W6.out S6.out (by rw [← EV.out]) (by rw [LL.out])
            · rw [decide_eq_false hfit] at LO
              have hno : ¬ Goes (n : Int) (m : Int) := fun h => by
                obtain ⟨-, -, -, h4⟩ := h
                rw [show ((m : Int)).toNat = m by omega, show (2 : Int) ^ m = ((2 ^ m : Nat) : Int) by rw [Int.natCast_pow]; rfl] at h4
                exact hfit (by omega)
              have PU := Bx.mk fun W (h : Wr W g v (bN b) b.length) => Code_no g v _ n m W h.blk hno nb2
              clear hfit hno
              go_wp2_with fail
              refine LO.out.mono ?_
              rintro e w5 ⟨v5, rfl, ho5, hb5⟩
              obtain ⟨A5, c5, rfl⟩ := ho5.form
              have HB5 := Bx.mk hb5
              have A5b := AAA.out.below HB5.out AAA.out.lt
              have d1 := A5b.cell 1
              have d2 := A5b.cell 2
              simp at d1 d2
              have W5 := Bx.mk (WA.out.below HB5.out)
              clear A5b ho5 hb5
              generalize (zl ((lowL n m).reverse)).length = zz
              go_wp2_with fail
              refine (PU.out _ W5.out).mono ?_
              rintro e w6 ⟨rfl, rfl⟩
              go_wp2
              go_meet
              exact wrote_no (TA.out.below HB5.out) (Nat.le_trans ZA.out HB5.out.size) (below_then BA.out BA.out.size HB5.out) W5.out
        · obtain ⟨z, hz, hz2⟩ : ∃ z : Nat, (8 - (b.length : Int) % 8) % 8 = (z : Int) ∧ z = (8 - b.length % 8) % 8 := ⟨(8 - b.length % 8) % 8, by omega, rfl⟩
          have hz8 : z ≤ 8 := by omega
          have hup : (b.length + 7) / 8 * 8 = b.length + z := by omega
          have AL := Bx.mk (wAlign_calls g v _ _ wA WA.out (by omega))
          have hmk := make_ints z (by omega)
          have HUP := Bx.mk hup
          have hlt8 : (0 : Int) ≤ (b.length : Int) % 8 ∧ (b.length : Int) % 8 < 8 := by omega
          have hlt81 := hlt8.1
          have hlt82 := hlt8.2
          obtain ⟨TAa, tc, hu⟩ := TA.out.form
          rw [zl_length] at hu
          subst hu
          clear d1 d2 d3 hz2 hup hlt8
          go_wp2_with fail
          refine AL.out.mono ?_
          rintro e w5 ⟨rfl, hw5, hs5⟩
          have W5 := Bx.mk hw5
          have S5 := Bx.mk hs5
          clear hw5 hs5
          go_wp2
          go_meet
          refine ⟨(TA.out.step WA.out S5.out).below (below_alloc1 _ _), Nat.le_trans ZA.out (Nat.le_trans S5.out.size (by simp)), (BA.out.trans (S5.out.below _ (Nat.le_of_eq G.out) BA.out.size)).alloc (Nat.le_trans BA.out.size S5.out.size) _, .inl ⟨rfl, rfl, List.replicate z 0, v, some ⟨w5.heap.size, 0, none⟩, z, by rw [List.length_replicate], fun x hx => by rw [List.eq_of_mem_replicate hx]; omega, by rw [List.length_replicate]; omega, ?_, ?_⟩⟩
          · have h := (own_made_ints w5 z (by omega)).reads
            rw [List.length_replicate] at h ⊢
            rwa [show zl (List.replicate z 0) = List.replicate z 0 by simp [zl]]
          · rw [bN_app, bN_zeros, Nat.mul_zero, Nat.add_zero, List.length_append, List.length_replicate, ← HUP.out]
            exact W5.out.below (below_alloc1 _ _)
        · rcases h45 with rfl | rfl
          all_goals
            clear d1 d2
            obtain ⟨TAa, tc, hu⟩ := TA.out.form
            rw [zl_length] at hu
            subst hu
            have hm8 : (b.length : Int) % 8 = ((b.length % 8 : Nat) : Int) := by omega
            have BB := Bx.mk (bitsL_bit dl)
            have BLN := Bx.mk (bitsL_length dl)
            have EV := Bx.mk (bN_bits dl RDA.out.1)
            have dl50 : dl.length ≤ 50 := by have := DLN.out; omega
            have BI := Bx.mk fun W (h : RB W D dl) => Bits_calls D dl cap W h (by omega)
            by_cases h50 : 50 < len
            · have hdl : dl.length = 50 := by have := DLN.out; omega
              have ct := cut_to_bytes D len cap 50 (by omega) lc
              rw [hdl] at BI
              by_cases h8 : b.length % 8 = 0
              · have WY := Bx.mk fun W (h : Wr W g v (bN b) b.length) (h2 : RB W D dl) => wBytes_yes g v _ _ D dl cap W h h2 h8 (by omega)
                rw [hdl] at WY
                rw [h8] at hm8
                clear h8
                go_wp2_with fail
                refine (BI.out _ RDA.out).mono ?_
                rintro e w5 ⟨v5, rfl, ho5, hb5⟩
                obtain ⟨A5, c5, rfl⟩ := ho5.form
                have hlz : (zl (bitsL dl)).length = (bitsL dl).length := zl_length _
                rw [hlz] at ho5 ⊢
                have O5 := Bx.mk ho5
                have HB5 := Bx.mk hb5
                have W5 := Bx.mk (WA.out.below HB5.out)
                have T5 := Bx.mk (TA.out.below HB5.out)
                have RD5 := Bx.mk (RDA.out.below HB5.out)
                clear ho5 hb5 hlz
                generalize bitsL dl = ml at O5 BB BLN EV ⊢
                go_wp2_with fail
                refine (WY.out _ W5.out RD5.out).mono ?_
                rintro e w6 ⟨rfl, v6, hw6, hs6⟩
                have W6 := Bx.mk hw6
                have S6 := Bx.mk hs6
                clear hw6 hs6
                go_wp2
                go_meet
                exact wrote_yes T5.out (Nat.le_trans ZA.out HB5.out.size) (below_then BA.out BA.out.size HB5.out) (Nat.le_of_eq G.out) O5.out BB.out (by have := BLN.out; omega) W5.out W6.out S6.out (by rw [← EV.out]) (by rw [BLN.out, hdl])
              · have hne : ((b.length % 8 : Nat) : Int) ≠ 0 := by omega
                have WN := Bx.mk fun W (h : Wr W g v (bN b) b.length) => wBytes_no g v (.slice D 50 cap) _ W h.blk h8
                generalize b.length % 8 = R at hm8 hne
                have hne2 : ((R : Int) == 0) = false := beq_false_of_ne hne
                clear h8
                go_wp2_with fail
                refine (BI.out _ RDA.out).mono ?_
                rintro e w5 ⟨v5, rfl, ho5, hb5⟩
                obtain ⟨A5, c5, rfl⟩ := ho5.form
                have HB5 := Bx.mk hb5
                have W5 := Bx.mk (WA.out.below HB5.out)
                clear ho5 hb5
                generalize (zl (bitsL dl)).length = zz
                go_wp2_with fail
                refine (WN.out _ W5.out).mono ?_
                rintro e w6 ⟨rfl, rfl⟩
                go_wp2
                go_meet
                exact wrote_no (TA.out.below HB5.out) (Nat.le_trans ZA.out HB5.out.size) (below_then BA.out BA.out.size HB5.out) W5.out
            · have hdl : len = dl.length := by have := DLN.out; omega
              subst hdl
              by_cases h8 : b.length % 8 = 0
              · have WY := Bx.mk fun W (h : Wr W g v (bN b) b.length) (h2 : RB W D dl) => wBytes_yes g v _ _ D dl cap W h h2 h8 (by omega)
                rw [h8] at hm8
                clear h8
                go_wp2_with fail
                refine (BI.out _ RDA.out).mono ?_
                rintro e w5 ⟨v5, rfl, ho5, hb5⟩
                obtain ⟨A5, c5, rfl⟩ := ho5.form
                have hlz : (zl (bitsL dl)).length = (bitsL dl).length := zl_length _
                rw [hlz] at ho5 ⊢
                have O5 := Bx.mk ho5
                have HB5 := Bx.mk hb5
                have W5 := Bx.mk (WA.out.below HB5.out)
                have T5 := Bx.mk (TA.out.below HB5.out)
                have RD5 := Bx.mk (RDA.out.below HB5.out)
                clear ho5 hb5 hlz
                generalize bitsL dl = ml at O5 BB BLN EV ⊢
                go_wp2_with fail
                refine (WY.out _ W5.out RD5.out).mono ?_
                rintro e w6 ⟨rfl, v6, hw6, hs6⟩
                have W6 := Bx.mk hw6
                have S6 := Bx.mk hs6
                clear hw6 hs6
                go_wp2
                go_meet
                exact wrote_yes T5.out (Nat.le_trans ZA.out HB5.out.size) (below_then BA.out BA.out.size HB5.out) (Nat.le_of_eq G.out) O5.out BB.out (by have := BLN.out; omega) W5.out W6.out S6.out (by rw [← EV.out]) (by rw [BLN.out])
              · have hne : ((b.length % 8 : Nat) : Int) ≠ 0 := by omega
                have WN := Bx.mk fun W (h : Wr W g v (bN b) b.length) => wBytes_no g v (.slice D dl.length cap) _ W h.blk h8
                generalize b.length % 8 = R at hm8 hne
                have hne2 : ((R : Int) == 0) = false := beq_false_of_ne hne
                clear h8
                go_wp2_with fail
                refine (BI.out _ RDA.out).mono ?_
                rintro e w5 ⟨v5, rfl, ho5, hb5⟩
                obtain ⟨A5, c5, rfl⟩ := ho5.form
                have HB5 := Bx.mk hb5
                have W5 := Bx.mk (WA.out.below HB5.out)
                clear ho5 hb5
                generalize (zl (bitsL dl)).length = zz
                go_wp2_with fail
                refine (WN.out _ W5.out).mono ?_
                rintro e w6 ⟨rfl, rfl⟩
                go_wp2
                go_meet
                exact wrote_no (TA.out.below HB5.out) (Nat.le_trans ZA.out HB5.out.size) (below_then BA.out BA.out.size HB5.out) W5.out
      case rest =>
        obtain ⟨hT, hZ, hB, hor⟩ := hcut
        obtain ⟨TAa, tc, hu⟩ := hT.form
        rw [zl_length] at hu
        subst hu
        have TC := Bx.mk hT
        have ZC := Bx.mk hZ
        have BC := Bx.mk hB
        clear hT hZ hB WA TA BA AAA RDA ZA DLN
        rcases hor with ⟨rfl, rfl, ml, v6, A6, c6, rfl, hbit, hml, hr6, hw6⟩ | ⟨rfl, rfl, v6, hw6⟩
        · have W6 := Bx.mk hw6
          have R6 := Bx.mk hr6
          have BT6 : Bx (Bit (b ++ ml)) := ⟨HK.out.app hbit⟩
          have hlen : ((zl b).length + ml.length) * 8 ≤ 140737488355328 := by rw [zl_length]; omega
          have hall : (b ++ ml).length = b.length + ml.length := List.length_append
          have hallb : b.length + ml.length ≤ 400 * (k + 1) := by omega
          have HALL := Bx.mk hall
          clear hw6 hr6 hbit hall
          go_wp2_with (at_builtin; refine wpList_append_ints wc rfl (.tmp 111) (.tmp 112) rfl base _ (zl b) (zl ml) ml.length (zl_length ml) rfl TC.out A6 c6 rfl R6.out hlen ZC.out ?_; intro v7 w7 ho7 hg7 _; obtain ⟨A7, c7, hv7⟩ := ho7.form; rw [← zl_app, zl_length, HALL.out] at hv7; subst hv7; have E7 := Bx.mk (wrote_end W6.out TC.out BC.out hzT hg7 ho7); rw [← zl_app] at ho7; have T7 := Bx.mk ho7; have Z7 : Bx (base ≤ w7.heap.size) := ⟨Nat.le_trans ZC.out hg7.size⟩; clear hg7 ho7)
          have LN := wLen_calls g v6 _ w7 E7.out.1.blk
          rw [HALL.out] at LN
          have LN7 := Bx.mk LN
          clear LN
          go_wp2_with fail
          refine LN7.out.mono ?_
          rintro e w8 ⟨rfl, rfl⟩
          go_wp2
          go_roundw
          case rel => exact ⟨k + 1, v6, b ++ ml, by omega, by omega, by go_num, BT6, by rw [HALL.out]; omega, ⟨E7.out.1⟩, T7, Z7, ⟨E7.out.2⟩⟩
          case measure => simp [intOf]; omega
        · have W6 := Bx.mk hw6
          have LN7 := Bx.mk (wLen_calls g v6 _ wc hw6.blk)
          clear hw6
          go_wp2_with fail
          refine LN7.out.mono ?_
          rintro e w8 ⟨rfl, rfl⟩
          go_wp2
          go_roundw
          case rel => exact ⟨k + 1, v6, b, by omega, by omega, by go_num, HK, by omega, W6, TC, ZC, BC⟩
          case measure => simp [intOf]; omega
    · obtain ⟨TAa, tc, hu⟩ := HT.out.form
      rw [zl_length] at hu
      subst hu
      have hb8 : b.length ≤ 80000 := by omega
      have ALL := Bx.mk fun W (h : Wr W g v (bN b) b.length) => wAll_calls g v _ _ W h (by omega)
      have PACK := Bx.mk fun W (h : IR W TAa (zl b)) => Pack_calls TAa b tc W h HK.out (by omega)
      have WORKS := Bx.mk fun W => works_calls W
      by_cases hltk : k < L.length
      all_goals
        have hkk : ¬ (k < L.length ∧ k < 200) := hlt
        clear hkk
        go_wp2_with fail
        refine (ALL.out _ HW.out).mono ?_
        rintro e w5 ⟨l5, v5, hbt5, rfl, ho5, hb5⟩
        obtain ⟨A5, c5, rfl⟩ := ho5.form
        have BT5 := Bx.mk hbt5
        have O5 := Bx.mk ho5
        have HB5 := Bx.mk hb5
        have I5 := Bx.mk (HT.out.below hb5).ir
        have L5 : l5.length ≤ 140737488351232 := by have := hbt5.len; omega
        clear hbt5 ho5 hb5
        obtain ⟨wo, hwo⟩ : ∃ wo : World, wo = wr := ⟨_, rfl⟩
        have HWO := Bx.mk (show Wr wo g v (bN b) b.length by rw [hwo]; exact HW.out)
        have HTO := Bx.mk (show OI wo base (.slice TAa b.length tc) (zl b) by rw [hwo]; exact HT.out)
        have HBO := Bx.mk (show Below w.heap.size w wo by rw [hwo]; exact HB.out)
        rw [← hwo] at O5 HB5
        clear hwo HW HT HB
        go_wp2_with fail
        refine (PACK.out _ I5.out).mono ?_
        rintro e w6 ⟨v6, m6, hbt6, rfl, ho6, hb6⟩
        obtain rfl : m6 = l5 := hbt6.unique BT5.out
        obtain ⟨A6, c6, rfl⟩ := ho6.form
        have sm := SameBytes_calls A5 A6 m6 m6 c5 c6 w6 ((O5.out.rb BT5.out.byte L5).below hb6) (ho6.rb BT5.out.byte L5)
        rw [decide_eq_true rfl] at sm
        have SM := Bx.mk sm
        have O6 := Bx.mk (O5.out.below hb6)
        have HB6 := Bx.mk (HB5.out.trans (hb6.mono HB5.out.size))
        clear sm hbt6 ho6 hb6 O5 HB5 I5
        go_wp2_with fail
        refine SM.out.mono ?_
        rintro e w7 ⟨rfl, q7, hw7⟩
        have O7 : Bx (OB w7 wo.heap.size (.slice A5 m6.length c5) m6) := ⟨by rw [hw7]; exact O6.out⟩
        have HB7 : Bx (Below wo.heap.size wo w7) := ⟨by rw [hw7]; exact below_drewN HB6.out q7⟩
        clear hw7 SM O6 HB6
        go_wp2
        go_loopw [13] (fun i wr => ∃ (j : Nat) (lx : List Nat), j ≤ m6.length ∧ i = .int .i64 (j : Nat) ∧ lx.length = m6.length ∧ Bx (OB wr wo.heap.size (.slice A5 m6.length c5) lx) ∧ Bx (Below wo.heap.size wo wr)) (fun i _ => m6.length - (intOf i).toNat)
        case atStart => exact ⟨0, m6, Nat.zero_le _, rfl, rfl, O7, HB7⟩
        case round =>
          obtain ⟨j, lx, hj, rfl, hlx, HO8, HB8⟩ := hrel
          have HLX := Bx.mk hlx
          by_cases hjl : j < m6.length
          · obtain ⟨ga, rfl, -, hga, -, hcell, hfz⟩ := HO8.out.opened (by omega)
            have hcj := hcell j (by omega)
            have hfj := hfz j
            have HP := Bx.mk (HO8.out.put j 255)
            have HBP := Bx.mk (HB8.out.setCell (p := ⟨ga, j, none⟩) hga (.int .u8 255))
            clear hcell hfz hlx
            generalize lx.getD j 0 = X at hcj
            go_wp2
            go_roundw
            case rel => exact ⟨j + 1, lx.set j 255, by omega, by go_num, by rw [List.length_set]; exact HLX.out, HP, HBP⟩
            case measure => simp [intOf]; omega
          · have W9 := Bx.mk (HWO.out.below HB8.out)
            have I9 := Bx.mk (HTO.out.below HB8.out)
            have B9 := Bx.mk (below_then HBO.out HBO.out.size HB8.out)
            clear hlx
            go_wp2_with fail
            refine (ALL.out _ W9.out).mono ?_
            rintro e w10 ⟨l10, v10, hbt10, rfl, ho10, hb10⟩
            obtain rfl : l10 = m6 := hbt10.unique BT5.out
            obtain ⟨A10, c10, rfl⟩ := ho10.form
            have O10 := Bx.mk ho10
            have I10 := Bx.mk (I9.out.below hb10).ir
            have B10 := Bx.mk (below_then B9.out B9.out.size hb10)
            clear ho10 hb10 hbt10
            go_wp2_with fail
            refine (PACK.out _ I10.out).mono ?_
            rintro e w11 ⟨v11, m11, hbt11, rfl, ho11, hb11⟩
            obtain rfl : m11 = l10 := hbt11.unique BT5.out
            obtain ⟨A11, c11, rfl⟩ := ho11.form
            have sm := SameBytes_calls A10 A11 m11 m11 c10 c11 w11 ((O10.out.rb BT5.out.byte L5).below hb11) (ho11.rb BT5.out.byte L5)
            rw [decide_eq_true rfl] at sm
            have SM := Bx.mk sm
            have B11 := Bx.mk (below_then B10.out B10.out.size hb11)
            clear sm hbt11 ho11 hb11
            go_wp2_with fail
            refine SM.out.mono ?_
            rintro e w12 ⟨rfl, q12, hw12⟩
            have B12 : Bx (Below w.heap.size w w12) := ⟨by rw [hw12]; exact below_drewN B11.out q12⟩
            clear hw12 SM
            go_wp2_with fail
            refine (WORKS.out w12).mono ?_
            rintro e w13 ⟨rfl, hb13⟩
            have B13 := Bx.mk (below_then B12.out B12.out.size hb13)
            clear hb13
            go_wp2
            go_ret
            exact ⟨rfl, B13.out⟩
end Go.Proofs.Ytnncnjkpjlpodaa
