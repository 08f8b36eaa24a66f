import Derived.Test.YtkcifjgfgommoaaDoorArrEq
/-
  DigestBack: a digest is read from its text as it was, and a text that is one told again as it was.
-/
namespace Go.Proofs.YtkcifjgfgommoaaDoor
open Go.RowKit

theorem hexv_hexd : ∀ n, n < 16 → hexv (hexd n) = (n : Int) := by decide
theorem hexd_hexv : ∀ c, c < 256 → ¬ hexv c < 0 → hexd (hexv c).toNat = c ∧ (hexv c).toNat < 16 := by decide +kernel
theorem hexL_get : ∀ (l : List Nat) (i : Nat), i < l.length → (hexL l).getD (2 * i) 0 = hexd (l.getD i 0 / 16) ∧ (hexL l).getD (2 * i + 1) 0 = hexd (l.getD i 0 % 16)
  | [], i, h => absurd h (by simp)
  | x :: l, 0, _ => ⟨rfl, rfl⟩
  | x :: l, i + 1, h => by
    have := hexL_get l i (by simpa using h)
    rw [show 2 * (i + 1) + 1 = (2 * i + 1) + 2 by omega, show 2 * (i + 1) = 2 * i + 2 by omega]
    exact this
theorem parse_hex (l : List Nat) (hl : l.length = 32) (hb : ∀ x ∈ l, x < 256) : parseN (hexL l) = (l, 0) := by
  have hg : ∀ i, i < 32 → hexv ((hexL l).getD (2 * i) 0) = ((l.getD i 0 / 16 : Nat) : Int) ∧ hexv ((hexL l).getD (2 * i + 1) 0) = ((l.getD i 0 % 16 : Nat) : Int) := fun i hi => by
    have h1 := hexL_get l i (by omega)
    have h2 : l.getD i 0 < 256 := mem_getD (by omega) hb
    rw [h1.1, h1.2]
    exact ⟨hexv_hexd _ (by omega), hexv_hexd _ (by omega)⟩
  have hok : okK (hexL l) 32 := fun j hj => by
    have := hg (j / 2) (by omega)
    rcases Nat.mod_two_eq_zero_or_one j with h | h
    · rw [show j = 2 * (j / 2) by omega, this.1]; omega
    · rw [show j = 2 * (j / 2) + 1 by omega, this.2]; omega
  unfold parseN
  rw [if_pos ⟨by rw [hexL_len, hl], hok⟩]
  congr 1
  refine getD_ext _ _ (by rw [parK_len, hl]) fun i hi => ?_
  rw [parK_len] at hi
  have h2 : l.getD i 0 < 256 := mem_getD (by omega) hb
  rw [parK_at _ _ _ hi, if_pos hi, (hg i hi).1, (hg i hi).2]
  omega
theorem hex_parse (L : List Nat) (hl : L.length = 64) (hb : ∀ x ∈ L, x < 256) (hok : okK L 32) : hexL (parK L 32) = L := by
  refine getD_ext _ _ (by rw [hexL_len, parK_len, hl]) fun i hi => ?_
  rw [hexL_len, parK_len] at hi
  have hp := parK_at L 32 (i / 2) (by omega)
  rw [if_pos (by omega)] at hp
  have h1 := hexd_hexv (L.getD (2 * (i / 2)) 0) (mem_getD (by omega) hb) (hok _ (by omega))
  have h2 := hexd_hexv (L.getD (2 * (i / 2) + 1) 0) (mem_getD (by omega) hb) (hok _ (by omega))
  have h3 := hexL_get (parK L 32) (i / 2) (by rw [parK_len]; omega)
  rcases Nat.mod_two_eq_zero_or_one i with h | h
  · have e : i = 2 * (i / 2) := by omega
    rw [e, h3.1, hp, show ((hexv (L.getD (2 * (i / 2)) 0)).toNat * 16 + (hexv (L.getD (2 * (i / 2) + 1) 0)).toNat) / 16 = (hexv (L.getD (2 * (i / 2)) 0)).toNat by omega, h1.1]
  · have e : i = 2 * (i / 2) + 1 := by omega
    rw [e, h3.2, hp, show ((hexv (L.getD (2 * (i / 2)) 0)).toNat * 16 + (hexv (L.getD (2 * (i / 2) + 1) 0)).toNat) % 16 = (hexv (L.getD (2 * (i / 2) + 1) 0)).toNat by omega, h2.1]
theorem parK_mem (L : List Nat) (hb : ∀ x ∈ L, x < 256) (hl : L.length = 64) (hok : okK L 32) : ∀ x ∈ parK L 32, x < 256 := fun x hx => by
  obtain ⟨i, hi, rfl⟩ := List.mem_map.1 hx
  rw [List.mem_range] at hi
  have h1 := hexd_hexv (L.getD (2 * i) 0) (mem_getD (by omega) hb) (hok _ (by omega))
  have h2 := hexd_hexv (L.getD (2 * i + 1) 0) (mem_getD (by omega) hb) (hok _ (by omega))
  rw [if_pos hi]; omega
theorem wpList_load_arr {ops : Array Oper} {rest : List Oper} {op : Oper} {a : Act} {W : World} {Q : Exit → Act → World → Prop} (q : Nat) (K : List Nat) (hB : Blk W q 24 (u8s K)) (hK : K.length = 32) (hgd : op.guard = none) (x : Operand) (ho : op.op = .load 24 x) (hx : a.eval x = .pointer (some ⟨q, 0, none⟩))
    (h : wpList Tryd.prog ops Q rest (a.put op.dst (.agg (u8s K))) W) : wpList Tryd.prog ops Q (op :: rest) a W :=
  wpList_load_mid hgd 24 x ho q 0 hx (b8 K) (.array 32 5) (Blk.range hB) (by kernel_rfl) rfl (infoO K hK) h
theorem wpList_load_arrG {ops : Array Oper} {rest : List Oper} {op : Oper} {a : Act} {W : World} {Q : Exit → Act → World → Prop} (q : Nat) (K : List Nat) (hB : Blk W q 24 (u8s K)) (hK : K.length = 32) (x : Operand) (ho : op.op = .load 24 x) (hx : a.eval x = .pointer (some ⟨q, 0, none⟩))
    (hw : Region.wanted op (yielded ops a.tmps) = true) (h : wpList Tryd.prog ops Q rest (a.put op.dst (.agg (u8s K))) W) : wpList Tryd.prog ops Q (op :: rest) a W :=
  wpList_step fun _ hK' => by
    rw [if_pos hw]
    exact wp_load_mid 24 x ho q 0 hx (b8 K) (.array 32 5) (Blk.range hB) (by kernel_rfl) rfl (infoO K hK) (hK' _ _ h)
set_option maxRecDepth 100000 in
set_option maxHeartbeats 4000000 in
theorem DigestBack_calls (l : List Nat) (s : ByteArray) (w : World) (hl : l.length = 32) (hb : ∀ x ∈ l, x < 256) (_hs : s.size ≤ 140737488351232) (hg : Gl w) :
    Calls Tryd.prog 6 #[.agg (u8s l), .string s] w fun e w' => e = .returned (.bool true) ∧ Below w.heap.size w w' := by
  have HG := Bx.mk hg
  have HL := Bx.mk hl
  have HH := Bx.mk (fun W => Hex_calls l W hl hb)
  have HP := Bx.mk (fun W => Parse_calls (st (hexL l)) W)
  rw [sb_st _ (hexL_mem l hb), parse_hex l hl hb] at HP
  have HP2 := Bx.mk (fun W => Parse_calls s W)
  have EQ : ∀ W, (binOp .eql 24 (.agg (u8s l)) (.agg (u8s l))).run Tryd.prog W = .ok (.bool true) W := fun W => by rw [eql_u8s l l hl hl, decide_eq_true rfl]
  have hcase : (∃ D, parseN (sb s) = (D, 0) ∧ D.length = 32 ∧ (∀ x ∈ D, x < 256) ∧ st (hexL D) = s) ∨ parseN (sb s) = (Z32, 160) := by
    by_cases h : (sb s).length = 64 ∧ okK (sb s) 32
    · exact .inl ⟨parK (sb s) 32, if_pos h, parK_len _ _, parK_mem _ (sb_mem s) h.1 h.2, by rw [hex_parse _ h.1 (sb_mem s) h.2, st_sb]⟩
    · exact .inr (if_neg h)
  clear hg hl hb
  generalize st (hexL l) = T at *
  go_enter Tryd.func6, Tryd.ntmps6
  have B0 : Bx (Blk (w.alloc (.cells (u8s l) 24)) w.heap.size 24 (u8s l)) := ⟨Blk.new w _ _⟩
  have E0 := Bx.mk (below_alloc1 w (.cells (u8s l) 24))
  go_wp2_with fail
  generalize w.alloc (.cells (u8s l) 24) = w0 at *
  refine (dworks_calls w0 (HG.out.below E0.out)).mono ?_
  rintro e w1 ⟨rfl, hb1⟩
  have E1 := Bx.mk (below_then E0.out E0.out.size hb1)
  have B1 : Blk w1 w.heap.size 24 (u8s l) := B0.out.below hb1 B0.out.lt
  clear hb1 B0 E0
  go_wp2_with (first | ((with_reducible refine wpList_load_arr w.heap.size l B1 HL.out ?_ (.tmp 2) ?_ ?_ ?_); rfl; rfl; rfl) | (go_at_call 11; fail))
  refine (HH.out w1).mono ?_
  rintro e w2 ⟨rfl, hb2⟩
  have E2 := Bx.mk (below_then E1.out E1.out.size hb2)
  have B2 := Bx.mk (B1.below hb2 B1.lt)
  clear hb2 E1 B1
  go_wp2_with fail
  refine (HP.out w2).mono ?_
  rintro e w3 ⟨rfl, hb3⟩
  have E3 := Bx.mk (below_then E2.out E2.out.size hb3)
  have B3 := Bx.mk (B2.out.below hb3 B2.out.lt)
  clear hb3 E2 B2
  go_wp2_with (first | ((with_reducible refine wpList_store_new w3 l HL.out ?_ (.tmp 5) (.tmp 15) ?_ ?_ ?_ ?_); rfl; rfl; rfl; rfl; intro w4 k4 hb4) | (go_at_call 20; fail))
  have K4 := Bx.mk k4
  have E4 := Bx.mk (below_then E3.out E3.out.size hb4)
  have B4 := Bx.mk (B3.out.below hb4 B3.out.lt)
  generalize w3.heap.size = q5 at *
  clear k4 hb4 E3 B3
  refine (HP2.out w4).mono ?_
  rintro e w5 ⟨rfl, hb5⟩
  have E5 := Bx.mk (below_then E4.out E4.out.size hb5)
  have B5 := Bx.mk (B4.out.below hb5 B4.out.lt)
  have K5 := Bx.mk (K4.out.below hb5 K4.out.lt)
  clear hb5 E4 B4 K4 HP HP2
  rcases hcase with ⟨D, hp, hDl, hDb, hst⟩ | hp
  · generalize parseN (sb s) = PP at *
    subst hp
    have HD := Bx.mk hDl
    have HX := Bx.mk (fun W => Hex_calls D W hDl hDb)
    rw [hst] at HX
    clear hDl hDb hst HH
    go_upto_region 5 with ((with_reducible refine wpList_store_new w5 D HD.out ?_ (.tmp 7) (.tmp 20) ?_ ?_ ?_ ?_); rfl; rfl; rfl; rfl; intro w6 k6 hb6)
    have K6 := k6
    have E6 := Bx.mk (below_then E5.out E5.out.size hb6)
    have B6 := B5.out.below hb6 B5.out.lt
    have K6' := K5.out.below hb6 K5.out.lt
    generalize w5.heap.size = q7 at *
    clear k6 hb6 E5 B5 K5
    have hseq : (s.toList == s.toList) = true := beq_self_eq_true _
    go_wp2_with (first | ((with_reducible refine wpList_load_arr (op := ⟨some 22, _, _, _, _, _⟩) q5 l K6' HL.out ?_ (.tmp 5) ?_ ?_ ?_); rfl; rfl; rfl) | ((with_reducible refine wpList_load_arr (op := ⟨some 23, _, _, _, _, _⟩) w.heap.size l B6 HL.out ?_ (.tmp 2) ?_ ?_ ?_); rfl; rfl; rfl) | ((with_reducible refine wpList_load_arrG (op := ⟨some 33, _, _, _, _, _⟩) q7 D K6 HD.out (.tmp 7) ?_ ?_ ?_ ?_); rfl; rfl; rfl) | (go_at_call 11; fail))
    refine (HX.out w6).mono ?_
    rintro e w7 ⟨rfl, hb7⟩
    have E7 := Bx.mk (below_then E6.out E6.out.size hb7)
    clear hb7 E6
    go_wp2
    go_ret
    exact ⟨rfl, E7.out⟩
  · generalize parseN (sb s) = PP at *
    subst hp
    have HZ : Bx (Z32.length = 32) := ⟨rfl⟩
    have EQ2 : ∀ W, (binOp .eql 24 (.agg (u8s Z32)) (.agg #[.int .u8 0, .int .u8 0, .int .u8 0, .int .u8 0, .int .u8 0, .int .u8 0, .int .u8 0, .int .u8 0, .int .u8 0, .int .u8 0, .int .u8 0, .int .u8 0, .int .u8 0, .int .u8 0, .int .u8 0, .int .u8 0, .int .u8 0, .int .u8 0, .int .u8 0, .int .u8 0, .int .u8 0, .int .u8 0, .int .u8 0, .int .u8 0, .int .u8 0, .int .u8 0, .int .u8 0, .int .u8 0, .int .u8 0, .int .u8 0, .int .u8 0, .int .u8 0])).run Tryd.prog W = .ok (.bool true) W := fun W => by
      have := eql_u8s Z32 Z32 rfl rfl W
      rw [decide_eq_true rfl] at this; exact this
    generalize Z32 = Z at *
    go_upto_region 5 with ((with_reducible refine wpList_store_new w5 Z HZ.out ?_ (.tmp 7) (.tmp 20) ?_ ?_ ?_ ?_); rfl; rfl; rfl; rfl; intro w6 k6 hb6)
    have K6 := k6
    have E6 := Bx.mk (below_then E5.out E5.out.size hb6)
    have B6 := B5.out.below hb6 B5.out.lt
    have K6' := K5.out.below hb6 K5.out.lt
    generalize w5.heap.size = q7 at *
    clear k6 hb6 E5 B5 K5
    go_wp2_with (first | ((with_reducible refine wpList_load_arr (op := ⟨some 22, _, _, _, _, _⟩) q5 l K6' HL.out ?_ (.tmp 5) ?_ ?_ ?_); rfl; rfl; rfl) | ((with_reducible refine wpList_load_arr (op := ⟨some 23, _, _, _, _, _⟩) w.heap.size l B6 HL.out ?_ (.tmp 2) ?_ ?_ ?_); rfl; rfl; rfl) | ((with_reducible refine wpList_load_arrG (op := ⟨some 42, _, _, _, _, _⟩) q7 Z K6 HZ.out (.tmp 7) ?_ ?_ ?_ ?_); rfl; rfl; rfl))
    go_ret
    exact ⟨rfl, E6.out⟩
end Go.Proofs.YtkcifjgfgommoaaDoor
