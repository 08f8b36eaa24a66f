import Derived.Test.YtnncnjkpjlpodaaFlowBackPure
import Derived.Test.YtnncnjkpjlpodaaFlowWorks
/-
  The law FlowBack: its walk.
-/
namespace Go.Proofs.Ytnncnjkpjlpodaa
open Go.RowKit

theorem Wr.heap {w w' : World} {g N a : Nat} {v : Value} (h : Wr w g v N a) (hk : ∀ q, q = g ∨ v.ownBlock = some q → w'.heap[q]? = w.heap[q]?) : Wr w' g v N a := by
  obtain ⟨hb, l, h1, h2⟩ := h
  exact ⟨(hk g (.inl rfl)).trans hb, l, h1, own_keep h2 fun q hq => hk q (.inr hq)⟩
theorem Wr.lt {w : World} {g N a : Nat} {v : Value} (h : Wr w g v N a) (q : Nat) (hq : q = g ∨ v.ownBlock = some q) : q < w.heap.size := by
  obtain ⟨hb, l, h1, h2⟩ := h
  rcases hq with rfl | hq
  · exact hb.lt
  · exact (own_block' h2 q hq).2
theorem Wr.below {w w' : World} {g N a : Nat} {v : Value} (h : Wr w g v N a) (hb : Below w.heap.size w w') : Wr w' g v N a := h.heap fun q hq => hb.block q (h.lt q hq)
theorem OT.below {w w' : World} {base : Nat} {v : Value} {l : List TV} (h : OT w base v l) (hb : Below w.heap.size w w') : OT w' base v l := own_keep h fun q hq => hb.block q (own_block' h q hq).2
/-- a writer's call leaves a row of Acts -/
theorem OT.step {w w' : World} {base g N a : Nat} {T v v' : Value} {l : List TV} (h : OT w base T l) (hw : Wr w g v N a) (hs : WStep g v w v' w') : OT w' base T l := by
  refine own_keep h fun q hq => hs.keep q (own_block' h q hq).2 ?_ ?_
  · rintro rfl
    exact own_blk_ne h hw.blk (show 28 ≠ 61 by decide) hq
  · obtain ⟨l, -, ho⟩ := hw.own
    exact own_own_ne h ho (by decide) q hq
theorem info_act : (Try.prog.info? 28).map (fun i => (i.zero, i.size, i.bytes)) = some (some (.agg #[.int .i64 0, .int .i64 0, .int .i64 0, .slice none 0 0]), 4, 48) := by kernel_rfl
/-- 'append(v, act)' -/
theorem wpList_append_act {ops : Array Oper} {rest : List Oper} {o : Oper} {a : Act} {Q : Exit → Act → World → Prop} (W : World) (hgd : o.guard = none) (s x : Operand)
    (ho : o.op = .call { callee := .builtin .append, args := #[s, x], argTypes := #[22, 22] })
    (base : Nat) (v : Value) (xs : List TV) (d : Int) (n b : Nat) (D : Option Addr) (len cap : Nat) (hs : a.eval s = v) (hown : OT W base v xs) (hx : a.eval x = .slice (some ⟨W.heap.size, 0, none⟩) 1 1)
    (hlen : (xs.length + 1) * 48 ≤ 140737488355328) (hbase : base ≤ W.heap.size)
    (h : ∀ v' w', OT w' base v' (xs ++ [⟨d, n, b, D, len, cap⟩]) → (W.alloc (.cells #[.int .i64 d, .int .i64 (n : Int), .int .i64 (b : Int), .slice D len cap] 28)).grownBy w' v.ownBlock → (v'.ownBlock = v.ownBlock ∨ v'.ownBlock = some (W.heap.size + 1)) → wpList Try.prog ops Q rest (a.put o.dst v') w') :
    wpList Try.prog ops Q (o :: rest) a (W.alloc (.cells #[.int .i64 d, .int .i64 (n : Int), .int .i64 (b : Int), .slice D len cap] 28)) := by
  obtain ⟨i, hi, hzz⟩ := Option.map_eq_some_iff.1 info_act
  simp only [Prod.mk.injEq] at hzz
  obtain ⟨hz, h1, hb⟩ := hzz
  have hr : Reads (W.alloc (.cells #[.int .i64 d, .int .i64 (n : Int), .int .i64 (b : Int), .slice D len cap] 28)) (W.heap.size + 1) 4 (some ⟨W.heap.size, 0, none⟩) 1 (TV.cells ⟨d, n, b, D, len, cap⟩) :=
    ⟨rfl, fun _ => ⟨_, rfl, by simp, fun j z hz => by
      rw [add_plain, World.cell?_alloc_at _ _ _ _ rfl]
      simpa [TV.cells] using hz⟩⟩
  refine wpList_append_any _ hgd s x 22 ho base 28 i (.agg #[.int .i64 0, .int .i64 0, .int .i64 0, .slice none 0 0]) 4 48 Try.underlying22 hi hz h1 hb rfl (by omega) v xs.length (tcells xs) hs (hown.alloc _) (W.heap.size + 1) (some ⟨W.heap.size, 0, none⟩) 1 1 (TV.cells ⟨d, n, b, D, len, cap⟩) hx hr
    (fun z hz => ?_) (by unfold maxLen; omega) hlen (by simp; omega) ?_
  · simp only [TV.cells, List.mem_cons, List.not_mem_nil, or_false] at hz
    rcases hz with rfl | rfl | rfl | rfl
    · rfl
    · rfl
    · rfl
    · rfl
  intro v' w' ho' hg hat
  exact h v' w' (by unfold OT; rw [tcells_snoc, List.length_append]; exact ho') hg (by simpa using hat)
/-- behind a writer's call that took: what the append finds -/
theorem took_blk {w w1 : World} {g N a : Nat} {v v1 : Value} {d : Int} {n b : Nat} {D : Option Addr} {len cap : Nat} (hw : Wr w g v N a) (hs : WStep g v (w.alloc (.cells #[.int .i64 d, .int .i64 (n : Int), .int .i64 (b : Int), .slice D len cap] 28)) v1 w1) :
    Blk w1 w.heap.size 28 #[.int .i64 d, .int .i64 (n : Int), .int .i64 (b : Int), .slice D len cap] :=
  (hs.blk (Blk.new w _ _) (Nat.ne_of_gt hw.blk.lt) (fun hc => Nat.lt_irrefl _ (hw.lt _ (.inr hc)))).1
/-- behind the append -/
theorem took_end {w w1 w2 : World} {g N a base : Nat} {v T T2 : Value} {l l2 : List TV} {o : Obj} (hw : Wr w1 g v N a) (hT : OT w1 base T l) (hb : Below w.heap.size w w1) (hz : w.heap.size ≤ base) (hg : (w1.alloc o).grownBy w2 T.ownBlock) (_hT2 : OT w2 base T2 l2) :
    Wr w2 g v N a ∧ Below w.heap.size w w2 := by
  refine ⟨(hw.below (below_alloc1 w1 o)).heap fun q hq => hg.block q (Nat.lt_of_lt_of_le (hw.lt q hq) (by simp)) fun hc => ?_, (hb.alloc hb.size o).grown hg (Nat.le_trans hb.size (by simp)) fun k hk => Nat.le_trans hz (own_block' hT k hk).1⟩
  rcases hq with rfl | hq
  · exact own_blk_ne hT hw.blk (by decide) hc.symm
  · obtain ⟨l, -, ho⟩ := hw.own
    exact own_own_ne hT ho (by decide) q hc.symm hq
theorem OT.only {w w' : World} {base r : Nat} {v : Value} {l : List TV} {cs : Array Value} (h : OT w base v l) (hb : Blk w r 60 cs) (ho : Only r w w') : OT w' base v l :=
  own_keep h fun q hq => ho.keep q fun hc => own_blk_ne h hb (show 28 ≠ 60 by decide) (by rw [hq, hc])
set_option maxRecDepth 100000 in
set_option maxHeartbeats 4000000 in
theorem FlowBack_calls (A : Option Addr) (L : List AV) (c : Nat) (w : World) (hl : AR w A L) (hm : L.length ≤ 9223372036854775807) :
    Calls Try.prog 3 #[.slice A L.length c] w fun e w' => e = .returned (.bool true) ∧ Below w.heap.size w w' := by
  have HL := Bx.mk hl
  clear hl
  go_enter Try.func3, Try.ntmps3
  go_wp2_with fail
  refine (works_calls w).mono ?_
  rintro e w1 ⟨rfl, hb⟩
  have B1 := Bx.mk hb
  have Z1 : Bx (w.heap.size ≤ w1.heap.size) := ⟨hb.size⟩
  clear hb
  go_wp2_with fail
  refine (Write_calls w1).mono ?_
  rintro e w2 ⟨rfl, hwr, hw2⟩
  have B2 : Bx (Below w.heap.size w w2) := ⟨by rw [hw2]; exact B1.out.alloc Z1.out _⟩
  have hz2 : w1.heap.size < w2.heap.size := by rw [hw2]; simp
  have hz1 := Z1.out
  generalize w1.heap.size = g at hwr hz2 hz1 ⊢
  have W2 := Bx.mk hwr
  have Z2 := Bx.mk hz2
  have G2 := Bx.mk hz1
  clear hwr hw2 hz2 hz1 B1 Z1
  go_wp2
  have W3 := Bx.mk (W2.out.below (below_alloc1 w2 (.cells #[] 28)))
  have T3 := Bx.mk (OT.empty w2)
  have B3 := Bx.mk (B2.out.alloc B2.out.size (.cells #[] 28))
  have hzT : w.heap.size ≤ w2.heap.size := B2.out.size
  have hz3 : w2.heap.size ≤ (w2.alloc (.cells #[] 28)).heap.size := by simp
  generalize w2.heap.size = base at T3 hzT hz3 ⊢
  generalize w2.alloc (.cells #[] 28) = w3 at W3 T3 B3 hz3 ⊢
  clear W2 Z2 B2
  go_loopw [4, 5] (fun t i wr => ∃ (k : Nat) (v : Value) (tk : List TV), k ≤ L.length ∧ k ≤ 100 ∧ i = .int .i64 (k : Nat) ∧ Bx (∀ x ∈ tk, x.ok) ∧ tk.length ≤ k ∧ tA tk ≤ 24 * k ∧ Bx (Wr wr g v (tN tk) (tA tk)) ∧ Bx (OT wr base t tk) ∧ Bx (base ≤ wr.heap.size) ∧ Bx (Below w.heap.size w wr)) (fun _ i _ => L.length - (intOf i).toNat)
  case atStart => exact ⟨0, _, [], Nat.zero_le _, by omega, rfl, ⟨fun x hx => by cases hx⟩, Nat.le_refl _, Nat.le_refl _, W3, T3, ⟨hz3⟩, B3⟩
  case round =>
    obtain ⟨k, v, tk, hk, hk1, rfl, HK, hkl, hka, HW, HT, HZT, HB⟩ := hrel
    by_cases hlt : k < L.length ∧ k < 100
    · obtain ⟨hlt1, hlt2⟩ := hlt
      obtain ⟨ad, rfl, hd⟩ := (HL.out.below HB.out) (by omega)
      have hx := hd k _ (List.getElem?_eq_getElem hlt1)
      clear hd
      generalize L[k] = x at hx
      obtain ⟨d, n, b, D, len, cap, dl⟩ := x
      obtain ⟨c0, c1, c2, c3, nb, bb, -, -, -, -⟩ := hx
      simp only at c0 c1 c2 c3 nb bb
      obtain ⟨nb1, nb2⟩ := nb
      obtain ⟨bb1, bb2⟩ := bb
      have HWA := Bx.mk (HW.out.below (below_alloc1 wr (.cells #[.int .i64 d, .int .i64 n, .int .i64 b, .slice D len cap] 28)))
      have HTA := Bx.mk (HT.out.below (below_alloc1 wr (.cells #[.int .i64 d, .int .i64 n, .int .i64 b, .slice D len cap] 28)))
      have HBA := Bx.mk (HB.out.alloc HB.out.size (.cells #[.int .i64 d, .int .i64 n, .int .i64 b, .slice D len cap] 28))
      go_wp2_with fail
      refine (Among_calls d 2 _ (by decide) (by decide)).mono ?_
      rintro e w4 ⟨rfl, rfl⟩
      by_cases hgo : Goes n b
      · obtain ⟨hg1, hg2, hg3, hg4⟩ := hgo
        obtain ⟨b, rfl⟩ := Int.eq_ofNat_of_zero_le hg1
        obtain ⟨n, rfl⟩ := Int.eq_ofNat_of_zero_le hg3
        have hg5 : n < 2 ^ b := by
          rw [show ((b : Int)).toNat = b by omega, show (2 : Int) ^ b = ((2 ^ b : Nat) : Int) by rw [Int.natCast_pow]; rfl] at hg4
          omega
        have hb24 : b ≤ 24 := by omega
        have HOK : Bx (TV.ok ⟨d, n, b, D, len, cap⟩) := ⟨⟨hb24, hg5⟩⟩
        have hak : tA tk ≤ 1125899906809000 := by omega
        have HP := Bx.mk (Put_yes g v (tN tk) (tA tk) n b _ HWA.out hb24 hg5 hak)
        have HC := Bx.mk (Code_yes g v (tN tk) (tA tk) n b _ HWA.out hb24 hg5 hak)
        have HV : Bx (∀ x : Nat, (TV.mk d n b D len cap).val = x → tN tk + 2 ^ tA tk * x = tN (tk ++ [⟨d, n, b, D, len, cap⟩])) := ⟨fun x hx => by rw [tN_snoc, hx]⟩
        have HA : Bx (tA tk + b = tA (tk ++ [⟨d, n, b, D, len, cap⟩])) := ⟨by rw [tA_snoc]⟩
        clear hg1 hg2 hg3 hg4 hg5 nb1 nb2 bb1 bb2
        by_cases h2 : amg d 2 = 0
        · have HV2 := Bx.mk (HV.out n (by unfold TV.val; rw [if_pos h2]))
          rw [h2]
          clear h2 HV HC
          go_wp2_with fail
          refine HP.out.mono ?_
          rintro e w5 ⟨rfl, v5, hw5, hs5⟩
          have hb5 := took_blk HW.out hs5
          have k0 := hb5.cell 0
          have k1 := hb5.cell 1
          have k2 := hb5.cell 2
          have k3 := hb5.cell 3
          simp at k0 k1 k2 k3
          have T5 := Bx.mk (HTA.out.step HWA.out hs5)
          have B5 := Bx.mk (HBA.out.trans (hs5.below _ G2.out HBA.out.size))
          have W5 := Bx.mk hw5
          have hlen5 : (tk.length + 1) * 48 ≤ 140737488355328 := by omega
          have hz5 : base ≤ w5.heap.size := Nat.le_trans HZT.out (Nat.le_trans (by simp) hs5.size)
          clear hb5 hw5 hs5
          go_wp2_with (at_builtin; refine wpList_append_act w5 rfl (.tmp 53) (.tmp 55) rfl base u4 tk d n b D len cap rfl T5.out rfl hlen5 hz5 ?_; intro v6 w6 ho6 hg6 _; have E6 := Bx.mk (took_end W5.out T5.out B5.out hzT hg6 ho6); have T6 := Bx.mk ho6; have Z6 := Bx.mk (Nat.le_trans hz5 (Nat.le_trans (by simp) hg6.size)); clear hg6 ho6)
          go_roundw
          case rel => exact ⟨k + 1, v5, tk ++ [⟨d, n, b, D, len, cap⟩], by omega, by omega, by go_num, ⟨fun x hx => (List.mem_append.1 hx).elim (HK.out x) (fun h => by rw [List.mem_singleton.1 h]; exact HOK.out)⟩, by rw [List.length_append, List.length_singleton]; omega, by rw [← HA.out]; omega, ⟨by rw [← HV2.out, ← HA.out]; exact E6.out.1⟩, T6, Z6, ⟨E6.out.2⟩⟩
          case measure => simp [intOf]; omega
        · have HV2 := Bx.mk (HV.out (revN n b) (by unfold TV.val; rw [if_neg h2]))
          have h1 : amg d 2 = 1 := by have := amg_lt d 2 (by decide); omega
          rw [h1]
          clear h2 h1 HV HP
          go_wp2_with fail
          refine HC.out.mono ?_
          rintro e w5 ⟨rfl, v5, hw5, hs5⟩
          have hb5 := took_blk HW.out hs5
          have k0 := hb5.cell 0
          have k1 := hb5.cell 1
          have k2 := hb5.cell 2
          have k3 := hb5.cell 3
          simp at k0 k1 k2 k3
          have T5 := Bx.mk (HTA.out.step HWA.out hs5)
          have B5 := Bx.mk (HBA.out.trans (hs5.below _ G2.out HBA.out.size))
          have W5 := Bx.mk hw5
          have hlen5 : (tk.length + 1) * 48 ≤ 140737488355328 := by omega
          have hz5 : base ≤ w5.heap.size := Nat.le_trans HZT.out (Nat.le_trans (by simp) hs5.size)
          clear hb5 hw5 hs5
          go_wp2_with (at_builtin; refine wpList_append_act w5 rfl (.tmp 53) (.tmp 55) rfl base u4 tk d n b D len cap rfl T5.out rfl hlen5 hz5 ?_; intro v6 w6 ho6 hg6 _; have E6 := Bx.mk (took_end W5.out T5.out B5.out hzT hg6 ho6); have T6 := Bx.mk ho6; have Z6 := Bx.mk (Nat.le_trans hz5 (Nat.le_trans (by simp) hg6.size)); clear hg6 ho6)
          go_roundw
          case rel => exact ⟨k + 1, v5, tk ++ [⟨d, n, b, D, len, cap⟩], by omega, by omega, by go_num, ⟨fun x hx => (List.mem_append.1 hx).elim (HK.out x) (fun h => by rw [List.mem_singleton.1 h]; exact HOK.out)⟩, by rw [List.length_append, List.length_singleton]; omega, by rw [← HA.out]; omega, ⟨by rw [← HV2.out, ← HA.out]; exact E6.out.1⟩, T6, Z6, ⟨E6.out.2⟩⟩
          case measure => simp [intOf]; omega
      · have HN := Bx.mk hgo
        have HP := Bx.mk (Put_no g v _ n b _ HWA.out.blk hgo nb2)
        have HC := Bx.mk (Code_no g v _ n b _ HWA.out.blk hgo nb2)
        clear hgo
        by_cases h2 : amg d 2 = 0
        · rw [h2]
          clear h2 HC
          go_wp2_with fail
          refine HP.out.mono ?_
          rintro e w5 ⟨rfl, rfl⟩
          go_wp2
          go_roundw
          case rel => exact ⟨k + 1, v, tk, by omega, by omega, by go_num, HK, by omega, by omega, HWA, HTA, ⟨Nat.le_trans HZT.out (by simp)⟩, HBA⟩
          case measure => simp [intOf]; omega
        · have h1 : amg d 2 = 1 := by have := amg_lt d 2 (by decide); omega
          rw [h1]
          clear h2 h1 HP
          go_wp2_with fail
          refine HC.out.mono ?_
          rintro e w5 ⟨rfl, rfl⟩
          go_wp2
          go_roundw
          case rel => exact ⟨k + 1, v, tk, by omega, by omega, by go_num, HK, by omega, by omega, HWA, HTA, ⟨Nat.le_trans HZT.out (by simp)⟩, HBA⟩
          case measure => simp [intOf]; omega
    · have hk24 : tA tk ≤ 2400 := by omega
      have hkl2 : tk.length ≤ 100 := by omega
      obtain ⟨TA, tc, hu⟩ := OT.form HT.out
      subst hu
      go_wp2_with fail
      all_goals refine (wAll_calls g v _ _ wr HW.out (by omega)).mono ?_
      all_goals
        rintro e w5 ⟨l, v5, hbt, rfl, ho5, hb5⟩
        obtain ⟨A5, c5, rfl⟩ := OB.form ho5
        have R5 := Bx.mk (Reads.of_own ho5)
        have L5 : l.length ≤ 140737488351232 ∧ tA tk ≤ 8 * l.length := by have := hbt.len; omega
        obtain ⟨L5a, L5b⟩ := L5
        have BT := Bx.mk hbt
        have G5 := Bx.mk (HW.out.below hb5).blk
        have T5 := Bx.mk (HT.out.below hb5)
        have B5 := Bx.mk (below_then HB.out HB.out.size hb5)
        clear ho5 hb5 hbt HW HT HB hlt
        go_wp2_with fail
        refine (New_calls A5 l.length c5 w5).mono ?_
        rintro e w6 ⟨rfl, hw6⟩
        have H6 : Bx (Blk w6 w5.heap.size 60 #[.slice A5 l.length c5, .int .i64 ((0 : Nat) : Int), .bool true]) := ⟨by rw [hw6]; exact Blk.new _ _ _⟩
        have R6 : Bx (Reads w6 w5.heap.size 1 A5 l.length (bs l)) := ⟨by rw [hw6]; exact R5.out.alloc (Nat.le_refl _) _⟩
        have G6 : Bx (Blk w6 g 61 #[v, .int .i64 (tA tk : Int), .bool true]) := ⟨by rw [hw6]; exact G5.out.alloc _⟩
        have T6 : Bx (OT w6 base (.slice TA tk.length tc) tk) := ⟨by rw [hw6]; exact T5.out.below (below_alloc1 _ _)⟩
        have B6 : Bx (Below w.heap.size w w6) := ⟨by rw [hw6]; exact B5.out.alloc B5.out.size _⟩
        have hgr : g < w5.heap.size := G5.out.lt
        have hwr : w.heap.size ≤ w5.heap.size := B5.out.size
        generalize w5.heap.size = r at H6 R6 hgr hwr ⊢
        clear hw6 R5 G5 T5 B5
        go_wp2
        go_loopw [9] (fun i wr2 => ∃ j : Nat, j ≤ tk.length ∧ i = .int .i64 (j : Nat) ∧ Bx (Blk wr2 r 60 #[.slice A5 l.length c5, .int .i64 ((tA (tk.take j) : Nat) : Int), .bool true]) ∧ Bx (Reads wr2 r 1 A5 l.length (bs l)) ∧
          Bx (Blk wr2 g 61 #[v, .int .i64 (tA tk : Int), .bool true]) ∧ Bx (OT wr2 base (.slice TA tk.length tc) tk) ∧ Bx (Below w.heap.size w wr2)) (fun i _ => tk.length - (intOf i).toNat)
        case atStart => exact ⟨0, Nat.zero_le _, rfl, H6, R6, G6, T6, B6⟩
        case round =>
          obtain ⟨j, hj, rfl, HR, RR, GG, TT, BB⟩ := hrel
          by_cases hjl : j < tk.length
          · obtain ⟨ad, rfl, hd⟩ := TT.out.tr (by omega)
            have hxj := List.getElem?_eq_getElem hjl
            obtain ⟨c0, c1, c2, c3⟩ := hd j _ hxj
            have hok := HK.out _ (List.getElem_mem hjl)
            have hta := tA_take tk j _ hxj
            have htl := tA_le tk (j + 1)
            have htn := tN_at tk HK.out j _ hxj
            rw [← BT.out.sum] at htn
            clear hd hxj
            generalize tk[j] = x at *
            obtain ⟨d, n, b, D, len, cap⟩ := x
            obtain ⟨hb24, hn2⟩ := hok
            simp only at c0 c1 c2 c3 hta htn hb24 hn2
            rw [hta] at htl
            have HTA := Bx.mk hta
            have hat : tA (tk.take j) + b ≤ 8 * l.length := by omega
            clear hta
            generalize tA (tk.take j) = p at *
            have TN := Bx.mk htn
            have N2 := Bx.mk hn2
            have n24 := two24 hb24
            have hrlt : r < wr.heap.size := HR.out.lt
            have hn24 : n ≤ 16777216 := by omega
            have RB1 := fun W (h : Reads W r 1 A5 l.length (bs l)) => RB.of_reads h BT.out.byte L5a
            have HRA := Bx.mk (HR.out.alloc (.cells #[.int .i64 d, .int .i64 (n : Int), .int .i64 (b : Int), .slice D len cap] 28))
            have RRA := Bx.mk (RR.out.alloc (Nat.le_of_lt hrlt) (.cells #[.int .i64 d, .int .i64 (n : Int), .int .i64 (b : Int), .slice D len cap] 28))
            have GGA := Bx.mk (GG.out.alloc (.cells #[.int .i64 d, .int .i64 (n : Int), .int .i64 (b : Int), .slice D len cap] 28))
            have TTA := Bx.mk (TT.out.below (below_alloc1 wr (.cells #[.int .i64 d, .int .i64 (n : Int), .int .i64 (b : Int), .slice D len cap] 28)))
            have BBA := Bx.mk (BB.out.alloc BB.out.size (.cells #[.int .i64 d, .int .i64 (n : Int), .int .i64 (b : Int), .slice D len cap] 28))
            have AAA := Bx.mk (Blk.new wr 28 #[.int .i64 d, .int .i64 (n : Int), .int .i64 (b : Int), .slice D len cap])
            have hrs : r < (wr.alloc (.cells #[.int .i64 d, .int .i64 (n : Int), .int .i64 (b : Int), .slice D len cap] 28)).heap.size := by simp; omega
            have RBX := Bx.mk RB1
            have hr1 : r ≠ wr.heap.size := by omega
            clear htn hn2 n24 RB1 HR RR GG TT BB
            go_wp2_with fail
            refine (Among_calls d 2 _ (by decide) (by decide)).mono ?_
            rintro e w7 ⟨rfl, rfl⟩
            generalize wr.alloc (.cells #[.int .i64 d, .int .i64 (n : Int), .int .i64 (b : Int), .slice D len cap] 28) = wA at HRA RRA GGA TTA BBA AAA hrs ⊢
            generalize wr.heap.size = q at AAA hr1 ⊢
            have b1 := AAA.out.cell 1
            have b2 := AAA.out.cell 2
            simp at b1 b2
            by_cases h2 : amg d 2 = 0
            · have hv : TV.val ⟨d, n, b, D, len, cap⟩ = n := by unfold TV.val; rw [if_pos h2]
              rw [hv] at TN
              have tk1 := rTake_calls r A5 l c5 p (b : Int) wA HRA.out (RBX.out wA RRA.out) (by omega)
              rw [skipE_ok (by omega) (by omega), if_pos rfl, if_pos rfl, Int.toNat_natCast, show pkN l p b = n from TN.out, ← HTA.out] at tk1
              have TK1 := Bx.mk tk1
              rw [h2]
              clear h2 hv tk1 b1
              go_wp2_with fail
              refine TK1.out.mono ?_
              rintro e w7 ⟨rfl, h7, o7⟩
              have H7 := Bx.mk h7
              have R7 := Bx.mk (RRA.out.only o7 (Nat.le_refl _) (Nat.le_of_lt hrs))
              have G7 := Bx.mk (GGA.out.only o7 (Nat.ne_of_lt hgr))
              have T7 := Bx.mk (TTA.out.only HRA.out o7)
              have B7 := Bx.mk (BBA.out.trans (o7.below _ hwr BBA.out.size))
              have A7 := AAA.out.only o7 (Ne.symm hr1)
              have a1 := A7.cell 1
              simp at a1
              clear h7 o7 A7
              go_wp2
              go_roundw
              case rel => exact ⟨j + 1, by omega, by go_num, H7, R7, G7, T7, B7⟩
              case measure => simp [intOf]; omega
            · have hv : TV.val ⟨d, n, b, D, len, cap⟩ = revN n b := by unfold TV.val; rw [if_neg h2]
              rw [hv] at TN
              have h1 : amg d 2 = 1 := by have := amg_lt d 2 (by decide); omega
              rw [h1]
              clear h2 h1 hv b1 b2
              go_wp2
              go_loopw [13, 14] (fun m i wr => ∃ z : Nat, z ≤ b ∧ i = .int .i64 (z : Nat) ∧ m = .int .i64 ((n / 2 ^ (b - z) : Nat) : Int) ∧ Bx (Blk wr r 60 #[.slice A5 l.length c5, .int .i64 ((p + z : Nat) : Int), .bool true]) ∧ Bx (Only r wA wr)) (fun _ i _ => b - (intOf i).toNat)
              case atStart => exact ⟨0, Nat.zero_le _, rfl, by rw [Nat.sub_zero, Nat.div_eq_of_lt N2.out]; rfl, HRA, ⟨Only.refl _ _⟩⟩
              case round =>
                obtain ⟨z, hz, rfl, rfl, H8, O8⟩ := hrel
                have A8 := AAA.out.only O8.out (Ne.symm hr1)
                have a2 := A8.cell 2
                have a1 := A8.cell 1
                simp at a1 a2
                clear A8
                by_cases hzb : z < b
                · have tk1 := rTake_calls r A5 l c5 (p + z) (1 : Int) wr H8.out (RBX.out wr (RRA.out.only O8.out (Nat.le_refl _) (Nat.le_of_lt hrs))) (by omega)
                  rw [skipE_ok (by omega) (by omega), if_pos rfl, if_pos rfl, show (1 : Int).toNat = 1 from rfl, pkN_bit l p b z _ TN.out hzb, revN_bit n b z hzb] at tk1
                  have hst := half_step n b z hzb
                  have hq1 : n / 2 ^ (b - z) ≤ n := Nat.div_le_self _ _
                  have hq2 : n / 2 ^ (b - (z + 1)) % 2 ≤ 1 := by omega
                  have TK1 := Bx.mk tk1
                  have ST := Bx.mk hst
                  clear tk1 hst a1
                  generalize n / 2 ^ (b - z) = M at ST hq1 ⊢
                  generalize n / 2 ^ (b - (z + 1)) % 2 = X at ST TK1 hq2
                  go_wp2_with fail
                  refine TK1.out.mono ?_
                  rintro e w9 ⟨rfl, h9, o9⟩
                  have H9 := Bx.mk h9
                  have O9 := Bx.mk (O8.out.trans o9)
                  clear h9 o9
                  go_wp2
                  go_roundw
                  case rel => exact ⟨z + 1, by omega, by go_num, by rw [← ST.out]; first | (congr 1; done) | (congr 1; omega), H9, O9⟩
                  case measure => simp [intOf]; omega
                · obtain rfl : z = b := by omega
                  rw [Nat.sub_self, Nat.pow_zero, Nat.div_one]
                  have H9 : Bx (Blk wr r 60 #[.slice A5 l.length c5, .int .i64 ((tA (tk.take (j + 1)) : Nat) : Int), .bool true]) := ⟨by rw [HTA.out]; exact H8.out⟩
                  have R9 := Bx.mk (RRA.out.only O8.out (Nat.le_refl _) (Nat.le_of_lt hrs))
                  have G9 := Bx.mk (GGA.out.only O8.out (Nat.ne_of_lt hgr))
                  have T9 := Bx.mk (TTA.out.only HRA.out O8.out)
                  have B9 := Bx.mk (BBA.out.trans (O8.out.below _ hwr BBA.out.size))
                  go_wp2
                  go_roundw
                  case rel => exact ⟨j + 1, by omega, by go_num, H9, R9, G9, T9, B9⟩
                  case measure => simp [intOf]; omega
          · obtain rfl : j = tk.length := by omega
            rw [List.take_length] at HR
            have R1 := Bx.mk (rAt_calls r _ _ wr HR.out)
            have R2 := Bx.mk (wLen_calls g _ _ wr GG.out)
            generalize tA tk = p at R1 R2
            go_wp2_with fail
            refine R1.out.mono ?_
            rintro e w9 ⟨rfl, rfl⟩
            go_wp2_with fail
            refine R2.out.mono ?_
            rintro e w9 ⟨rfl, rfl⟩
            go_wp2
            go_ret
            exact ⟨rfl, BB.out⟩
end Go.Proofs.Ytnncnjkpjlpodaa
