import Derived.Test.YtoekecopfmohiaaDoorRefAll
import Derived.Test.YtoekecopfmohiaaDoorDefRuns
/-
  The reference of deflate: Fixed, low, span; bits that say fields.
-/
namespace Go.Proofs.YtoekecopfmohiaaDoor
open Go.RowKit

/-- bits that say fields -/
structure Bd (l : List Nat) (fs : List Fd) : Prop where
  bit : Bit l
  num : bN l = fN fs
  len : l.length = fA fs
theorem Bd.nil : Bd [] [] := ⟨Bit.nil, rfl, rfl⟩
theorem Bd.app {l m : List Nat} {fs gs : List Fd} (h : Bd l fs) (h' : Bd m gs) : Bd (l ++ m) (fs ++ gs) :=
  ⟨h.bit.app h'.bit, by rw [bN_app, fN_app, h.num, h'.num, h.len], by rw [List.length_append, fA_app, h.len, h'.len]⟩
theorem Bd.lit (s : Nat) (hs : s < 288) : Bd (wordF fixLn s) [litF s] := by
  have h0 := (fixLn_all s hs).1
  unfold wordF
  rw [if_pos h0]
  refine ⟨hiL_bit _ _, ?_, by rw [hiL_length]; simp [fA, litF, symF]⟩
  unfold hiL litF symF
  simp only [fN]
  rw [revN_eq]; omega
theorem lowL_Bit (n : Nat) : ∀ k, Bit (lowL n k) := fun k y hy => lowL_bit n k y hy
theorem Bd.low (n k : Nat) (h : n < 2 ^ k) : Bd (lowL n k) [(n, k)] :=
  ⟨lowL_Bit n k, by rw [bN_low, Nat.mod_eq_of_lt h]; simp [fN], by rw [lowL_length]; simp [fA]⟩
theorem Bd.five : Bd [0, 0, 0, 0, 0] [(0, 5)] := ⟨by unfold Bit; decide, by decide, by decide⟩
theorem Bd.head : Bd [1, 1, 0] [(3, 3)] := ⟨by unfold Bit; decide, by decide, by decide⟩
theorem Bd.bts {l m : List Nat} {fs : List Fd} (h : Bd l fs) (hb : Bts m (bN l) l.length) : Bts m (fN fs) (fA fs) := by rw [← h.num, ← h.len]; exact hb
theorem fix_at : ∀ k, k < 288 → fixLn.getD k 0 = if 143 < k ∧ k < 256 then 9 else if 255 < k ∧ k < 280 then 7 else 8 := by decide +kernel
theorem fix_step (k : Nat) (h : k < 288) : zl (fixLn.take (k + 1)) = zl (fixLn.take k) ++ [((fixLn.getD k 0 : Nat) : Int)] := by
  have hl : k < fixLn.length := by rw [fixLn_len]; exact h
  rw [List.take_add_one, List.getElem?_eq_getElem hl, zl_app, List.getD_eq_getElem?_getD, List.getElem?_eq_getElem hl]; rfl
set_option maxRecDepth 100000 in
set_option maxHeartbeats 4000000 in
theorem yFixed_calls (w : World) : Calls Tryd.prog 76 #[] w fun e w' => ∃ v, e = .returned v ∧ OI w' w.heap.size v (zl fixLn) ∧ Below w.heap.size w w' := by
  obtain ⟨m, hm⟩ : ∃ m, m = w.heap.size := ⟨_, rfl⟩
  have HM := Bx.mk hm
  rw [← hm]
  clear hm
  go_enter Tryd.func76, Tryd.ntmps76
  go_wp2
  go_loopw [1, 2] (fun v i wr => ∃ k : Nat, k ≤ 288 ∧ i = .int .i64 (k : Nat) ∧ Bx (OI wr m v (zl (fixLn.take k))) ∧ Bx (Below m w wr)) (fun _ i _ => 288 - (intOf i).toNat)
  case atStart => exact ⟨0, by decide, rfl, ⟨by rw [HM.out]; exact OI.empty w⟩, ⟨by rw [HM.out]; exact below_alloc1 w _⟩⟩
  case round =>
    obtain ⟨k, hk, rfl, HO, HB⟩ := hrel
    by_cases hlt : k < 288
    · have HS := Bx.mk (fix_step k hlt)
      have hv := fix_at k hlt
      have hlen : ((zl (fixLn.take k)).length + 1) * 8 ≤ 140737492549632 := by rw [zl_length, List.length_take]; omega
      have hmz : m ≤ wr.heap.size := Nat.le_trans (by rw [HM.out]; exact Nat.le_refl _) HB.out.size
      have hki : (k : Int) < 288 := by omega
      generalize zl (fixLn.take k) = D at HO HS hlen
      by_cases a1 : 143 < k
      · have a1i : (143 : Int) < (k : Int) := by omega
        by_cases a2 : k < 256
        · have a2i : (k : Int) < 256 := by omega
          have a3i : decide ((255 : Int) < (k : Int)) = false := decide_eq_false (by omega)
          rw [if_pos ⟨a1, a2⟩] at hv
          rw [hv] at HS
          clear hv a1 a2
          go_wp2_with (at_builtin; refine wpList_append_int wr rfl (.tmp 21) (.tmp 23) rfl m _ D 9 rfl HO.out rfl hlen hmz ?_; intro v2 w2 ho2 hg2 _; have hb2 := Bx.mk (app_belowI hmz hg2 HO.out); have HO2 := Bx.mk ho2; clear hg2 ho2)
          go_roundw
          case rel => exact ⟨k + 1, by omega, by go_num, ⟨by rw [HS.out]; exact HO2.out⟩, ⟨HB.out.trans hb2.out⟩⟩
          case measure => simp [intOf]; omega
        · have a2i : decide ((k : Int) < 256) = false := decide_eq_false (by omega)
          have a3i : (255 : Int) < (k : Int) := by omega
          by_cases a4 : k < 280
          · have a4i : (k : Int) < 280 := by omega
            rw [if_neg (by omega), if_pos ⟨by omega, a4⟩] at hv
            rw [hv] at HS
            clear hv a1 a2 a4
            go_wp2_with (at_builtin; refine wpList_append_int wr rfl (.tmp 21) (.tmp 23) rfl m _ D 7 rfl HO.out rfl hlen hmz ?_; intro v2 w2 ho2 hg2 _; have hb2 := Bx.mk (app_belowI hmz hg2 HO.out); have HO2 := Bx.mk ho2; clear hg2 ho2)
            go_roundw
            case rel => exact ⟨k + 1, by omega, by go_num, ⟨by rw [HS.out]; exact HO2.out⟩, ⟨HB.out.trans hb2.out⟩⟩
            case measure => simp [intOf]; omega
          · have a4i : decide ((k : Int) < 280) = false := decide_eq_false (by omega)
            rw [if_neg (by omega), if_neg (by omega)] at hv
            rw [hv] at HS
            clear hv a1 a2 a4
            go_wp2_with (at_builtin; refine wpList_append_int wr rfl (.tmp 21) (.tmp 23) rfl m _ D 8 rfl HO.out rfl hlen hmz ?_; intro v2 w2 ho2 hg2 _; have hb2 := Bx.mk (app_belowI hmz hg2 HO.out); have HO2 := Bx.mk ho2; clear hg2 ho2)
            go_roundw
            case rel => exact ⟨k + 1, by omega, by go_num, ⟨by rw [HS.out]; exact HO2.out⟩, ⟨HB.out.trans hb2.out⟩⟩
            case measure => simp [intOf]; omega
      · have a1i : decide ((143 : Int) < (k : Int)) = false := decide_eq_false (by omega)
        have a3i : decide ((255 : Int) < (k : Int)) = false := decide_eq_false (by omega)
        rw [if_neg (by omega), if_neg (by omega)] at hv
        rw [hv] at HS
        clear hv a1
        go_wp2_with (at_builtin; refine wpList_append_int wr rfl (.tmp 21) (.tmp 23) rfl m _ D 8 rfl HO.out rfl hlen hmz ?_; intro v2 w2 ho2 hg2 _; have hb2 := Bx.mk (app_belowI hmz hg2 HO.out); have HO2 := Bx.mk ho2; clear hg2 ho2)
        go_roundw
        case rel => exact ⟨k + 1, by omega, by go_num, ⟨by rw [HS.out]; exact HO2.out⟩, ⟨HB.out.trans hb2.out⟩⟩
        case measure => simp [intOf]; omega
    · obtain rfl : k = 288 := by omega
      rw [List.take_of_length_le (by rw [fixLn_len]; exact Nat.le_refl _)] at HO
      go_wp2
      go_ret
      exact ⟨_, rfl, HO.out, HB.out⟩
theorem low_calls (n k : Nat) (w : World) (hk : k ≤ 24) (hn : n ≤ 9223372036854775807) :
    Calls Tryd.prog 100 #[.int .i64 (n : Int), .int .i64 (k : Int)] w fun e w' => ∃ v, e = .returned v ∧ OI w' w.heap.size v (zl (lowL n k)) ∧ Below w.heap.size w w' := by
  have L := Bx.mk (Low_calls n k w hk hn)
  generalize hD : decide (n < 2 ^ k) = D at L
  clear hD
  go_enter Tryd.func100, Tryd.ntmps100
  go_wp2_with (go_at_call 109; fail)
  refine L.out.mono ?_
  rintro e w1 ⟨v, rfl, ho, hb⟩
  have O1 := Bx.mk ho
  have B1 := Bx.mk hb
  clear ho hb L
  go_wp2
  go_ret
  exact ⟨_, rfl, O1.out, B1.out⟩
theorem span_low : ∀ k, k < 8 → LB.getD k 0 = 3 + k ∧ LX.getD k 0 = 0 := by decide
theorem span_mid : ∀ k, k < 28 → 8 ≤ k → LB.getD k 0 = 3 + (4 + k % 4) * 2 ^ (k / 4 - 1) ∧ LX.getD k 0 = k / 4 - 1 := by decide
theorem span_pow : ∀ i, i < 6 → 2 ^ i ≤ 32 := by decide
set_option maxRecDepth 100000 in
set_option maxHeartbeats 4000000 in
theorem span_calls (k : Nat) (w : World) (hk : k < 29) :
    Calls Tryd.prog 99 #[.int .i64 (k : Int)] w fun e w' => e = .returned (.tuple #[.int .i64 ((LB.getD k 0 : Nat) : Int), .int .i64 ((LX.getD k 0 : Nat) : Int)]) ∧ w = w' := by
  by_cases h8 : k < 8
  · obtain ⟨e1, e2⟩ := span_low k h8
    rw [e1, e2]
    clear e1 e2
    have h8i : (k : Int) < 8 := by omega
    have hs : IntKind.i64.wrap (3 + (k : Int)) = ((3 + k : Nat) : Int) := by rw [IntWalk.i64_in _ (by omega)]; omega
    generalize 3 + k = S at *
    go_enter Tryd.func99, Tryd.ntmps99
    go_wp2
    go_ret2
    exact ⟨rfl, rfl⟩
  · have h8i : decide ((k : Int) < 8) = false := decide_eq_false (by omega)
    by_cases h28 : k = 28
    · subst h28
      go_enter Tryd.func99, Tryd.ntmps99
      go_wp2
      go_ret2
      exact ⟨rfl, rfl⟩
    · have h28i : ((k : Int) == 28) = false := beq_false_of_ne (by omega)
      obtain ⟨e1, e2⟩ := span_mid k (by omega) (by omega)
      rw [e1, e2]
      have d1 : (k : Int).tdiv 4 = ((k / 4 : Nat) : Int) := by rw [Int.tdiv_eq_ediv_of_nonneg (by omega)]; omega
      have d2 : IntKind.i64.wrap ((k / 4 : Nat) : Int) = ((k / 4 : Nat) : Int) := IntWalk.i64_in _ (by omega)
      have d3 : IntKind.i64.wrap (((k / 4 : Nat) : Int) - 1) = ((k / 4 - 1 : Nat) : Int) := by rw [IntWalk.i64_in _ (by omega)]; omega
      have d4 : (k : Int).tmod 4 = ((k % 4 : Nat) : Int) := by rw [Int.tmod_eq_emod_of_nonneg (by omega)]; omega
      have d5 : IntKind.i64.wrap ((k % 4 : Nat) : Int) = ((k % 4 : Nat) : Int) := IntWalk.i64_in _ (by omega)
      have d6 : IntKind.i64.wrap (4 + ((k % 4 : Nat) : Int)) = ((4 + k % 4 : Nat) : Int) := by rw [IntWalk.i64_in _ (by omega)]; omega
      have hq : k / 4 - 1 < 6 := by omega
      have hr : 4 + k % 4 < 8 := by omega
      clear e1 e2
      generalize k / 4 - 1 = Q at *
      generalize k / 4 = Q4 at *
      generalize 4 + k % 4 = R at *
      generalize k % 4 = R4 at *
      go_enter Tryd.func99, Tryd.ntmps99
      go_wp2
      go_loopw [6, 7] (fun v i wr => ∃ j : Nat, j ≤ Q ∧ i = .int .i64 (j : Nat) ∧ v = .int .i64 ((2 ^ j : Nat) : Int) ∧ wr = w) (fun _ i _ => Q - (intOf i).toNat)
      case atStart => exact ⟨0, Nat.zero_le _, rfl, rfl, rfl⟩
      case round =>
        obtain ⟨j, hj, rfl, rfl, rfl⟩ := hrel
        have hp := span_pow j (by omega)
        by_cases hlt : j < Q
        · have hji : (j : Int) < (Q : Int) := by omega
          have hnx : 2 ^ (j + 1) = 2 * 2 ^ j := by rw [Nat.pow_succ, Nat.mul_comm]
          have HN := Bx.mk hnx
          clear hnx
          generalize 2 ^ j = W2 at *
          have hm : IntKind.i64.wrap (2 * (W2 : Int)) = ((2 * W2 : Nat) : Int) := by rw [IntWalk.i64_in _ (by omega)]; omega
          go_wp2
          exact ⟨⟨j + 1, by omega, by go_num, by rw [HN.out]; simp, trivial⟩, by simp [intOf]; omega⟩
        · obtain rfl : j = Q := by omega
          have hji : decide ((j : Int) < (j : Int)) = false := decide_eq_false (by omega)
          obtain ⟨S, hS⟩ : ∃ S, S = 3 + R * 2 ^ j := ⟨_, rfl⟩
          have HS := Bx.mk hS
          clear hS
          obtain ⟨W2, hW2⟩ : ∃ W2, W2 = 2 ^ j := ⟨_, rfl⟩
          have HS2 : S = 3 + R * W2 := by rw [hW2]; exact HS.out
          rw [← hW2] at hp ⊢
          clear hW2
          have hx : R * W2 ≤ 8 * 32 := Nat.mul_le_mul (by omega) hp
          have hm : IntKind.i64.wrap ((R : Int) * (W2 : Int)) = ((R * W2 : Nat) : Int) := by rw [← Int.natCast_mul, IntWalk.i64_in _ (by omega)]
          have ha : IntKind.i64.wrap (3 + ((R * W2 : Nat) : Int)) = ((3 + R * W2 : Nat) : Int) := by rw [IntWalk.i64_in _ (by omega)]; omega
          rw [← HS2] at ha
          clear HS2
          generalize R * W2 = S0 at *
          go_wp2
          go_ret2
          exact ⟨by rw [← HS.out]; rfl, rfl⟩
end Go.Proofs.YtoekecopfmohiaaDoor
