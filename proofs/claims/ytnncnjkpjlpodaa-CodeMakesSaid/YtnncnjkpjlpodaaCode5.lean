import Derived.Test.YtnncnjkpjlpodaaCode4
/-
  Codes: Word, Write.
-/
namespace Go.Proofs.Ytnncnjkpjlpodaa
open Go.RowKit

theorem ret_three {k k' k'' : IntKind} {a b c d e f : Int} (h : a = b) (h' : c = d) (h'' : e = f) : Ending.returned (.tuple #[.int k a, .int k' c, .int k'' e]) = .returned (.tuple #[.int k b, .int k' d, .int k'' f]) := by rw [h, h', h'']
theorem Word_no (g : Nat) (O Ln : Value) (L : List Nat) (s : Int) (w : World) (hC : Cd w g O Ln L) (hs : ¬ (0 ≤ s ∧ s < L.length ∧ L.getD s.toNat 0 ≠ 0)) :
    Calls Try.prog 43 #[.pointer (some ⟨g, 0, none⟩), .int .i64 s] w fun e w' => e = .returned (.tuple #[.int .i64 0, .int .i64 0, .int .i64 5]) ∧ w = w' := by
  have h1 := Bx.mk (cIs_calls g _ _ _ true w hC.blk)
  obtain ⟨b, hln⟩ := hC.len
  obtain ⟨A1, c1, hL⟩ := hln.form
  rw [zl_length] at hL
  subst hL
  have k17 : w.cell? ⟨g, 17, none⟩ = some (.slice A1 L.length c1) := hC.blk.cell 17
  have IRX := Bx.mk hln.ir
  clear hC hln
  by_cases h0 : s < 0
  · clear hs
    go_enter Try.func43, Try.ntmps43
    go_wp2_with fail
    refine h1.out.mono ?_
    rintro e w1 ⟨rfl, rfl⟩
    go_wp2
    go_ret3
    exact ⟨rfl, rfl⟩
  · obtain ⟨s, rfl⟩ := Int.eq_ofNat_of_zero_le (show 0 ≤ s by omega)
    by_cases hlt : s < L.length
    · have hz : L.getD s 0 = 0 := by
        rcases Nat.eq_zero_or_pos (L.getD s 0) with h | h
        · exact h
        · exact absurd ⟨by omega, by omega, by rw [Int.toNat_natCast]; omega⟩ hs
      obtain ⟨ad, rfl, hd⟩ := IRX.out (by rw [zl_length]; omega)
      have hg := hd s (by rw [zl_length]; exact hlt)
      rw [zl_get, hz] at hg
      clear hs hd hz
      go_enter Try.func43, Try.ntmps43
      go_wp2_with fail
      refine h1.out.mono ?_
      rintro e w1 ⟨rfl, rfl⟩
      go_wp2
      go_ret3
      exact ⟨rfl, rfl⟩
    · clear hs
      go_enter Try.func43, Try.ntmps43
      go_wp2_with fail
      refine h1.out.mono ?_
      rintro e w1 ⟨rfl, rfl⟩
      go_wp2
      go_ret3
      exact ⟨rfl, rfl⟩
set_option maxRecDepth 100000 in
set_option maxHeartbeats 4000000 in
theorem Word_yes (g : Nat) (O Ln : Value) (L : List Nat) (s : Nat) (w : World) (hC : Cd w g O Ln L) (hk : kr L ≤ 32768) (hL288 : L.length ≤ 288) (hs : s < L.length) (h0 : L.getD s 0 ≠ 0) (h15 : L.getD s 0 ≤ 15) :
    Calls Try.prog 43 #[.pointer (some ⟨g, 0, none⟩), .int .i64 (s : Int)] w fun e w' => e = .returned (.tuple #[.int .i64 (wrd L s : Int), .int .i64 (L.getD s 0 : Int), .int .i64 0]) ∧ w = w' := by
  have h1 := Bx.mk (cIs_calls g _ _ _ true w hC.blk)
  obtain ⟨b, hln⟩ := hC.len
  obtain ⟨A1, c1, hL⟩ := hln.form
  rw [zl_length] at hL
  subst hL
  have k17 : w.cell? ⟨g, 17, none⟩ = some (.slice A1 L.length c1) := hC.blk.cell 17
  obtain ⟨ad, rfl, hd⟩ := hln.ir (by rw [zl_length]; omega)
  have hg := hd s (by rw [zl_length]; exact hs)
  rw [zl_get] at hg
  have HM : Bx (∀ n, n ≤ 15 → w.cell? ⟨g, n, none⟩ = some (.int .i64 (cnt L n : Int))) := ⟨fun n hn => (hC.blk.cell n).trans (cdC_get _ _ _ _ n hn)⟩
  have HD : Bx (∀ j, j < L.length → w.cell? (ad.add j) = some (.int .i64 ((L.getD j 0 : Nat) : Int))) := ⟨fun j hj => by have := hd j (by rw [zl_length]; exact hj); rwa [zl_get] at this⟩
  have HK := Bx.mk hk
  have hw : wrd L s = fc L (L.getD s 0) + (syms (L.take s) (L.getD s 0) 0).length := rfl
  have HW := Bx.mk hw
  obtain ⟨W, hW⟩ : ∃ W, W = wrd L s := ⟨_, rfl⟩
  rw [← hW] at HW ⊢
  have hfit := fc_fit L hk (L.getD s 0) h15
  have hp15 : 2 ^ L.getD s 0 ≤ 32768 := Nat.le_trans (Nat.pow_le_pow_right (by decide) h15) (by decide)
  have hfb : fc L (L.getD s 0) ≤ 32768 := by omega
  clear hC hln hd hk hw hW hfit hp15
  generalize L.getD s 0 = n at *
  have hne : ((n : Int) == 0) = false := beq_false_of_ne (by omega)
  go_enter Try.func43, Try.ntmps43
  go_wp2_with fail
  refine h1.out.mono ?_
  rintro e w1 ⟨rfl, rfl⟩
  go_wp2
  go_loop [8, 9] (fun x k => ∃ j : Nat, 1 ≤ j ∧ j ≤ n ∧ k = .int .i64 (j : Nat) ∧ x = .int .i64 ((fc L j : Nat) : Int)) (fun _ k => n - (intOf k).toNat)
  case atStart => exact ⟨1, Nat.le_refl _, by omega, rfl, rfl⟩
  case round =>
    obtain ⟨j, hj1, hj2, rfl, rfl⟩ := hrel
    have hff := fc_fit L HK.out j (by omega)
    have hpow : 2 ^ j ≤ 32768 := Nat.le_trans (Nat.pow_le_pow_right (by decide) (show j ≤ 15 by omega)) (by decide)
    have hsum : fc L j + cnt L j ≤ 32768 := by omega
    clear hff hpow
    by_cases hlt : j < n
    · have hc := HM.out j (by omega)
      have hj16 : (j : Int) < 16 := by omega
      have HF : Bx (fc L (j + 1) = 2 * (fc L j + cnt L j)) := ⟨rfl⟩
      generalize fc L j = F at *
      generalize cnt L j = C at *
      go_wp2
      go_round
      case rel => exact ⟨j + 1, by omega, by omega, by go_num, by rw [HF.out]; first | (congr 1; done) | (congr 1; omega)⟩
      case measure => simp [intOf]; omega
    · obtain rfl : j = n := by omega
      clear hsum
      go_wp2
      go_loop [8, 59] (fun x i => ∃ z : Nat, z ≤ s ∧ i = .int .i64 (z : Nat) ∧ x = .int .i64 ((fc L j + (syms (L.take z) j 0).length : Nat) : Int)) (fun _ i => s - (intOf i).toNat)
      case atStart => exact ⟨0, Nat.zero_le _, rfl, by simp [syms]⟩
      case round =>
        obtain ⟨z, hz, rfl, rfl⟩ := hrel
        have hsm := syms_small L j z hL288
        by_cases hzl : z < s
        · have hc := HD.out z (by omega)
          have HT := syms_take L j z (by omega)
          by_cases hx : L.getD z 0 = j
          · rw [if_pos hx] at HT
            have HL : Bx ((syms (L.take (z + 1)) j 0).length = (syms (L.take z) j 0).length + 1) := ⟨by rw [HT, List.length_append]; rfl⟩
            rw [hx] at hc
            clear HT hx
            generalize (syms (L.take z) j 0).length = S at *
            generalize fc L j = F at *
            go_wp2
            go_round
            case rel => exact ⟨z + 1, by omega, by go_num, by rw [HL.out]; first | (congr 1; done) | (congr 1; omega)⟩
            case measure => simp [intOf]; omega
          · rw [if_neg hx, List.append_nil] at HT
            have HL : Bx ((syms (L.take (z + 1)) j 0).length = (syms (L.take z) j 0).length) := ⟨by rw [HT]⟩
            generalize L.getD z 0 = x at hc hx
            have hne2 : ((x : Int) == (j : Int)) = false := beq_false_of_ne (by omega)
            clear HT hx
            generalize (syms (L.take z) j 0).length = S at *
            generalize fc L j = F at *
            go_wp2
            go_round
            case rel => exact ⟨z + 1, by omega, by go_num, by rw [HL.out]⟩
            case measure => simp [intOf]; omega
        · obtain rfl : z = s := by omega
          rw [← HW.out]
          have hWb : W ≤ 33056 := by rw [HW.out]; omega
          go_wp2
          go_ret3
          exact ⟨rfl, rfl⟩
/-- a symbol is written -/
theorem CWrite_yes (g : Nat) (O Ln : Value) (L : List Nat) (s : Nat) (y : Nat) (v : Value) (N a : Nat) (w : World) (hC : Cd w g O Ln L) (hk : kr L ≤ 32768) (hL288 : L.length ≤ 288) (hs : s < L.length) (h0 : L.getD s 0 ≠ 0) (h15 : L.getD s 0 ≤ 15)
    (h : Wr w y v N a) (ha : a ≤ 1125899906809000) :
    Calls Try.prog 49 #[.pointer (some ⟨g, 0, none⟩), .pointer (some ⟨y, 0, none⟩), .int .i64 (s : Int)] w fun e w' =>
      e = .returned (.int .i64 0) ∧ ∃ v', Wr w' y v' (N + 2 ^ a * revN (wrd L s) (L.getD s 0)) (a + L.getD s 0) ∧ WStep y v w v' w' := by
  have W1 := Bx.mk (Word_yes g O Ln L s w hC hk hL288 hs h0 h15)
  have C1 := Bx.mk (Code_yes y v N a (wrd L s) (L.getD s 0) w h (by omega) (wrd_fit L hk s hs h0 h15) ha)
  generalize wrd L s = W at *
  generalize L.getD s 0 = n at *
  generalize revN W n = V at *
  clear hC hk h h0 h15
  go_enter Try.func49, Try.ntmps49
  go_wp2_with fail
  refine W1.out.mono ?_
  rintro e w1 ⟨rfl, rfl⟩
  go_wp2_with fail
  refine C1.out.mono ?_
  rintro e w1 ⟨rfl, v1, hw, hs⟩
  have HW := Bx.mk hw
  have HS := Bx.mk hs
  clear hw hs
  go_wp2
  go_ret
  exact ⟨rfl, v1, HW.out, HS.out⟩
theorem CWrite_no (g : Nat) (O Ln : Value) (L : List Nat) (s : Int) (p : Value) (w : World) (hC : Cd w g O Ln L) (hs : ¬ (0 ≤ s ∧ s < L.length ∧ L.getD s.toNat 0 ≠ 0)) :
    Calls Try.prog 49 #[.pointer (some ⟨g, 0, none⟩), p, .int .i64 s] w fun e w' => e = .returned (.int .i64 5) ∧ w = w' := by
  have W1 := Bx.mk (Word_no g O Ln L s w hC hs)
  clear hC hs
  go_enter Try.func49, Try.ntmps49
  go_wp2_with fail
  refine W1.out.mono ?_
  rintro e w1 ⟨rfl, rfl⟩
  go_wp2
  go_ret
  exact ⟨rfl, rfl⟩
end Go.Proofs.Ytnncnjkpjlpodaa
