import Derived.Test.YtnncnjkpjlpodaaFlowPure
/-
  The reader of bits: New, is, At, Left, Peek.
-/
namespace Go.Proofs.Ytnncnjkpjlpodaa
open Go.RowKit
theorem New_calls (A : Option Addr) (n c : Nat) (w : World) :
    Calls Try.prog 19 #[.slice A n c] w fun e w' => e = .returned (.pointer (some ⟨w.heap.size, 0, none⟩)) ∧ w' = w.alloc (.cells #[.slice A n c, .int .i64 0, .bool true] 60) := by
  go_enter Try.func19, Try.ntmps19
  go_wp2
  go_ret
  exact ⟨rfl, rfl⟩
theorem rIs_nil (w : World) : Calls Try.prog 62 #[.pointer none] w fun e w' => e = .returned (.bool false) ∧ w = w' := by
  go_enter Try.func62, Try.ntmps62
  go_wp2
  go_ret
  exact ⟨rfl, rfl⟩
theorem rIs_calls (g : Nat) (v u : Value) (m : Bool) (w : World) (h : Blk w g 60 #[v, u, .bool m]) :
    Calls Try.prog 62 #[.pointer (some ⟨g, 0, none⟩)] w fun e w' => e = .returned (.bool m) ∧ w = w' := by
  have h2 : w.cell? ⟨g, 2, none⟩ = some (.bool m) := h.cell 2
  have H := Bx.mk h
  clear h
  go_enter Try.func62, Try.ntmps62
  go_wp2
  go_ret
  exact ⟨rfl, rfl⟩
theorem rAt_calls (g : Nat) (v : Value) (a : Nat) (w : World) (h : Blk w g 60 #[v, .int .i64 a, .bool true]) :
    Calls Try.prog 22 #[.pointer (some ⟨g, 0, none⟩)] w fun e w' => e = .returned (.int .i64 a) ∧ w = w' := by
  have h1 : w.cell? ⟨g, 1, none⟩ = some (.int .i64 a) := h.cell 1
  have H := Bx.mk (rIs_calls g _ _ true w h)
  clear h
  go_enter Try.func22, Try.ntmps22
  go_wp2_with fail
  refine H.out.mono ?_
  rintro e w1 ⟨rfl, rfl⟩
  go_wp2
  go_ret
  exact ⟨rfl, rfl⟩
theorem rLeft_calls (g : Nat) (A : Option Addr) (n c : Nat) (a : Nat) (w : World) (h : Blk w g 60 #[.slice A n c, .int .i64 a, .bool true]) (hn : n ≤ 140737488351232) (ha : a ≤ 8 * n) :
    Calls Try.prog 40 #[.pointer (some ⟨g, 0, none⟩)] w fun e w' => e = .returned (.int .i64 ((8 * n - a : Nat) : Int)) ∧ ∃ k, w' = w.drewN k := by
  have h1 : w.cell? ⟨g, 1, none⟩ = some (.int .i64 a) := h.cell 1
  have h0 : w.cell? ⟨g, 0, none⟩ = some (.slice A n c) := h.cell 0
  have H := Bx.mk (rIs_calls g _ _ true w h)
  clear h
  go_enter Try.func40, Try.ntmps40
  go_wp2_with fail
  refine H.out.mono ?_
  rintro e w1 ⟨rfl, rfl⟩
  go_wp2
  go_quiet (fail)
  go_wp2
  go_ret
  exact ⟨ret_int (by omega), _, rfl⟩
theorem or_step (C X k : Nat) (hC : C < 256 ^ k) : C ||| (256 ^ k * X) = C + 256 ^ k * X := by
  have := nat_join (8 * k) (256 ^ k * X) C (by rw [Nat.pow_mul]; exact Nat.mul_mod_right _ _) (by rw [Nat.pow_mul]; exact hC)
  rw [Nat.or_comm, this, Nat.add_comm]
set_option maxHeartbeats 2000000 in
theorem rPeek_yes (g : Nat) (A : Option Addr) (l : List Nat) (c a n : Nat) (w : World) (h : Blk w g 60 #[.slice A l.length c, .int .i64 a, .bool true]) (hl : RB w A l) (ha : a ≤ 8 * l.length) (hn : n ≤ 24) :
    Calls Try.prog 25 #[.pointer (some ⟨g, 0, none⟩), .int .i64 n] w fun e w' => e = .returned (.int .i64 ((pkN l a n : Nat) : Int)) ∧ ∃ k, w' = w.drewN k := by
  have h1 : w.cell? ⟨g, 1, none⟩ = some (.int .i64 a) := h.cell 1
  have h0 : w.cell? ⟨g, 0, none⟩ = some (.slice A l.length c) := h.cell 0
  have H := Bx.mk (rIs_calls g _ _ true w h)
  have hlen := hl.2.1
  have HL := Bx.mk hl
  clear h hl
  go_enter Try.func25, Try.ntmps25
  go_wp2_with fail
  refine H.out.mono ?_
  rintro e w1 ⟨rfl, rfl⟩
  go_wp2
  go_quiet (fail)
  go_wp2
  obtain ⟨K, hK⟩ : ∃ K, K = a / 8 := ⟨_, rfl⟩
  have HK := Bx.mk hK
  have HE := Bx.mk (pkN_wide l a n hn)
  have hKl : K ≤ l.length := by omega
  go_loopw [5, 6, 7] (fun v i k wr => ∃ j q : Nat, j ≤ 5 ∧ i = .int .i64 (j : Nat) ∧ k = .int .i64 ((K + j : Nat) : Int) ∧ v = .int .u64 ((wideN l K j : Nat) : Int) ∧ wr = w.drewN q) (fun _ i _ _ => 5 - (intOf i).toNat)
  case atStart => exact ⟨0, nq, by omega, rfl, by congr 1; omega, by simp [wideN, Nat.mod_one], rfl⟩
  case round =>
    obtain ⟨j, q, hj, rfl, rfl, rfl, rfl⟩ := hrel
    clear hK
    by_cases hlt : j < 5 ∧ K + j < l.length
    · have hlt1 := hlt.1
      have hlt2 := hlt.2
      clear hlt
      obtain ⟨ad, rfl, hd⟩ := HL.out.2.2 (by omega)
      have hck := hd (K + j) hlt2
      have hX := mem_getD hlt2 HL.out.1
      have hs := wideN_succ l K j HL.out.1
      have hw := wideN_lt l K j
      clear hd
      generalize l.getD (K + j) 0 = X at hck hX hs
      generalize wideN l K j = C at hs hw ⊢
      have ho := or_step C X j hw
      have HS := Bx.mk hs; clear hs
      have HO := Bx.mk ho; clear ho
      obtain rfl | rfl | rfl | rfl | rfl : j = 0 ∨ j = 1 ∨ j = 2 ∨ j = 3 ∨ j = 4 := by omega
      · simp only [Nat.add_zero] at hck hlt2
        have hb := u64_or_nat C X (by omega) (by omega)
        rw [show C ||| X = C + X by have := HO.out; simpa using this] at hb
        generalize hY : C + X = Y at hb
        have HY := Bx.mk hY; clear hY
        go_wp2
        go_roundw
        case rel => exact ⟨0 + 1, q, by omega, rfl, (by first | (congr 1; done) | (congr 1; omega)), by rw [HS.out, ← HY.out]; first | done | go_num, rfl⟩
        case measure => first | (simp [intOf]; done) | (simp [intOf]; omega)
      · rw [add_succ] at hck
        have hb : bits .or .u64 (C : Int) ((X : Int) * 256) = ((C + 256 ^ 1 * X : Nat) : Int) := by
          have := u64_or_nat C (256 ^ 1 * X) (by omega) (by omega)
          rw [HO.out] at this
          rw [← this]
          congr 1; omega
        generalize hY : C + 256 ^ 1 * X = Y at hb
        have HY := Bx.mk hY; clear hY
        go_wp2
        go_roundw
        case rel => exact ⟨1 + 1, q, by omega, rfl, (by first | (congr 1; done) | (congr 1; omega)), by rw [HS.out, ← HY.out], rfl⟩
        case measure => first | (simp [intOf]; done) | (simp [intOf]; omega)
      · rw [add_succ] at hck
        have hb : bits .or .u64 (C : Int) ((X : Int) * 65536) = ((C + 256 ^ 2 * X : Nat) : Int) := by
          have := u64_or_nat C (256 ^ 2 * X) (by omega) (by omega)
          rw [HO.out] at this
          rw [← this]
          congr 1; omega
        generalize hY : C + 256 ^ 2 * X = Y at hb
        have HY := Bx.mk hY; clear hY
        go_wp2
        go_roundw
        case rel => exact ⟨2 + 1, q, by omega, rfl, (by first | (congr 1; done) | (congr 1; omega)), by rw [HS.out, ← HY.out], rfl⟩
        case measure => first | (simp [intOf]; done) | (simp [intOf]; omega)
      · rw [add_succ] at hck
        have hb : bits .or .u64 (C : Int) ((X : Int) * 16777216) = ((C + 256 ^ 3 * X : Nat) : Int) := by
          have := u64_or_nat C (256 ^ 3 * X) (by omega) (by omega)
          rw [HO.out] at this
          rw [← this]
          congr 1; omega
        generalize hY : C + 256 ^ 3 * X = Y at hb
        have HY := Bx.mk hY; clear hY
        go_wp2
        go_roundw
        case rel => exact ⟨3 + 1, q, by omega, rfl, (by first | (congr 1; done) | (congr 1; omega)), by rw [HS.out, ← HY.out], rfl⟩
        case measure => first | (simp [intOf]; done) | (simp [intOf]; omega)
      · rw [add_succ] at hck
        have hb : bits .or .u64 (C : Int) ((X : Int) * 4294967296) = ((C + 256 ^ 4 * X : Nat) : Int) := by
          have := u64_or_nat C (256 ^ 4 * X) (by omega) (by omega)
          rw [HO.out] at this
          rw [← this]
          congr 1; omega
        generalize hY : C + 256 ^ 4 * X = Y at hb
        have HY := Bx.mk hY; clear hY
        go_wp2
        go_roundw
        case rel => exact ⟨4 + 1, q, by omega, rfl, (by first | (congr 1; done) | (congr 1; omega)), by rw [HS.out, ← HY.out], rfl⟩
        case measure => first | (simp [intOf]; done) | (simp [intOf]; omega)
    · have hend : wideN l K 5 = wideN l K j := by
        rcases Nat.lt_or_ge j 5 with h | h
        · exact wideN_end l K j 5 HL.out.1 (by omega) hj
        · rw [show j = 5 by omega]
      have hC : wideN l K j < 1099511627776 := by rw [← hend]; exact wideN_lt l K 5
      have HE2 : Bx (pkN l a n = wideN l K j / 2 ^ (a % 8) % 2 ^ n) := ⟨by rw [HE.out, ← HK.out, hend]⟩
      clear hend HE
      generalize wideN l K j = C at HE2 hC ⊢
      have hand := i64_and7 (a : Int)
      rw [show (a : Int) % 8 = ((a % 8 : Nat) : Int) by omega] at hand
      have hR : a % 8 < 8 := Nat.mod_lt _ (by decide)
      generalize a % 8 = R at hand hR HE2
      rcases Nat.lt_or_ge j 5 with h5 | h5
      · have h6 : ¬ (K + j < l.length) := by omega
        clear hlt
        go_wp2
        go_quiet (fail)
        go_wp2
        go_ret
        exact ⟨ret_int (by rw [HE2.out]; exact peek_val C R n hC hn), _, World.drewN_drewN ..⟩
      · obtain rfl : j = 5 := by omega
        clear hlt
        go_wp2
        go_quiet (fail)
        go_wp2
        go_ret
        exact ⟨ret_int (by rw [HE2.out]; exact peek_val C R n hC hn), _, World.drewN_drewN ..⟩
end Go.Proofs.Ytnncnjkpjlpodaa
