import Derived.Test.YtnncnjkpjlpodaaFlowRef3
/-
  The reference: Pack.
-/
namespace Go.Proofs.Ytnncnjkpjlpodaa
open Go.RowKit

theorem Bts.byte1 {l : List Nat} {N a n r : Nat} (h : Bts l N a) (h8 : a % 8 = 0) (hr : 1 ≤ r) (hr2 : r ≤ 8) (hn : n < 2 ^ r) : Bts (l ++ [n]) (N + 2 ^ a * n) (a + r) := by
  have hl : l.length = a / 8 := by have := h.len; omega
  have h256 : 2 ^ r ≤ 256 := Nat.le_trans (Nat.pow_le_pow_right (by decide) hr2) (by decide)
  refine ⟨?_, ?_, ?_, ?_⟩
  · intro x hx
    rcases List.mem_append.1 hx with h1 | h1
    · exact h.byte x h1
    · have : x = n := by simpa using h1
      omega
  · rw [List.length_append, List.length_singleton]; omega
  · rw [lsum_append, h.sum, pow_at a, h8, hl]; simp [lsum]
  · have h1 := h.small
    have h3 : 2 ^ a * (n + 1) ≤ 2 ^ a * 2 ^ r := Nat.mul_le_mul_left _ hn
    rw [Nat.mul_add, Nat.mul_one] at h3
    rw [Nat.pow_add]
    omega
theorem bN_take_succ (l : List Nat) (j : Nat) (h : j < l.length) : bN (l.take (j + 1)) = bN (l.take j) + 2 ^ j * l.getD j 0 := by
  rw [List.take_succ_eq_append_getElem h, bN_snoc, List.length_take, Nat.min_eq_left (by omega), List.getD_eq_getElem?_getD, List.getElem?_eq_getElem h]; rfl
theorem app_belowB {wr w2 : World} {B : Nat} {v : Value} {D : List Nat} {o : Obj} (hz : B ≤ wr.heap.size) (hg : (wr.alloc o).grownBy w2 v.ownBlock) (ho : OB wr B v D) : Below B wr w2 :=
  ((Below.refl B wr).alloc hz o).grown hg (by simp; omega) (fun k hk => own_block ho k hk)
set_option maxHeartbeats 1000000 in
theorem Pack_calls (A : Option Addr) (l : List Nat) (c : Nat) (w : World) (hl : IR w A (zl l)) (hb : Bit l) (hs : l.length ≤ 8388608) :
    Calls Try.prog 32 #[.slice A l.length c] w fun e w' => ∃ v m, Bts m (bN l) l.length ∧ e = .returned v ∧ OB w' w.heap.size v m ∧ Below w.heap.size w w' := by
  have HI := Bx.mk hl
  have HBit := Bx.mk hb
  clear hl hb
  obtain ⟨z, hz⟩ : ∃ z, z = w.heap.size := ⟨_, rfl⟩
  have HM := Bx.mk hz
  clear hz
  go_enter Try.func32, Try.ntmps32
  go_wp2
  go_loopw [3, 4, 5, 6, 7] (fun v i n x k wr => ∃ (j : Nat) (m : List Nat), i = .int .i64 ((8 * j : Nat) : Int) ∧ 8 * j ≤ l.length + 7 ∧ Bx (Bts m (bN (l.take (8 * j))) (min (8 * j) l.length)) ∧ Bx (OB wr z v m) ∧ Bx (Below z w wr)) (fun _ i _ _ _ _ => l.length + 8 - (intOf i).toNat)
  case atStart => exact ⟨0, [], rfl, by omega, ⟨by simpa [bN] using Bts.nil⟩, ⟨by rw [HM.out]; exact own_empty w⟩, ⟨by rw [HM.out]; exact below_alloc1 w _⟩⟩
  case round =>
    obtain ⟨j, m, rfl, hjl, HB, HO, HBl⟩ := hrel
    by_cases hlt : 8 * j < l.length
    · obtain ⟨ad, rfl, hd⟩ := (HI.out.below (w1 := wr) (by rw [← HM.out]; exact HBl.out)) (by rw [zl_length]; omega)
      have HD := Bx.mk hd
      clear hd
      go_wp2
      go_loop [5, 6, 7] (fun n x k => ∃ q, q ≤ 8 ∧ 8 * j + q ≤ l.length ∧ k = .int .i64 ((8 * j + q : Nat) : Int) ∧ n = .int .i64 ((bN ((l.drop (8 * j)).take q) : Nat) : Int) ∧ x = .int .i64 ((2 ^ q : Nat) : Int)) (fun _ _ k => l.length + 8 - (intOf k).toNat)
      case atStart => exact ⟨0, by omega, by omega, by simp, by simp [bN], rfl⟩
      case round =>
        obtain ⟨q, hq, hql, rfl, rfl, rfl⟩ := hrel
        have hbit : Bit ((l.drop (8 * j)).take q) := fun x hx => HBit.out x (List.mem_of_mem_drop (List.mem_of_mem_take hx))
        have hlenq : ((l.drop (8 * j)).take q).length = q := by rw [List.length_take, List.length_drop]; omega
        have hnlt := bN_lt _ hbit
        rw [hlenq] at hnlt
        have hp8 : 2 ^ q ≤ 256 := Nat.le_trans (Nat.pow_le_pow_right (by decide) hq) (by decide)
        clear hbit hlenq
        by_cases hin : q < 8 ∧ 8 * j + q < l.length
        · have hin1 := hin.1
          have hin2 := hin.2
          have hck := HD.out (8 * j + q) (by rw [zl_length]; exact hin2)
          rw [zl_get] at hck
          have hsn := bN_take_succ (l.drop (8 * j)) q (by rw [List.length_drop]; omega)
          have hgd : (l.drop (8 * j)).getD q 0 = l.getD (8 * j + q) 0 := by
            rw [List.getD_eq_getElem?_getD, List.getD_eq_getElem?_getD, List.getElem?_drop]
          rw [hgd] at hsn
          have hb1 : l.getD (8 * j + q) 0 ≤ 1 := by
            rw [List.getD_eq_getElem?_getD, List.getElem?_eq_getElem hin2]; exact HBit.out _ (List.getElem_mem hin2)
          have hps := Nat.pow_succ (n := 2) (m := q)
          have hmul : 2 ^ q * l.getD (8 * j + q) 0 ≤ 2 ^ q * 1 := Nat.mul_le_mul_left _ hb1
          have hmi : ((l.getD (8 * j + q) 0 : Nat) : Int) * ((2 ^ q : Nat) : Int) = ((2 ^ q * l.getD (8 * j + q) 0 : Nat) : Int) := by rw [Int.natCast_mul, Int.mul_comm]
          generalize 2 ^ q * l.getD (8 * j + q) 0 = MX at hsn hmul hmi
          generalize l.getD (8 * j + q) 0 = X at hck hmi hb1
          generalize bN ((l.drop (8 * j)).take q) = V at hsn hnlt ⊢
          have HS := Bx.mk hsn
          have HP := Bx.mk hps
          generalize 2 ^ q = M at hp8 hnlt hmul hmi HP ⊢
          clear hsn hps hgd hin
          go_wp2
          refine ⟨⟨_, _, _, ⟨q + 1, by omega, by omega, ?_, ?_, ?_⟩, rfl, rfl, rfl⟩, ?_⟩
          · first | (congr 1; done) | (congr 1; omega)
          · rw [HS.out]; first | (congr 1; done) | (congr 1; omega)
          · congr 1
            rw [show (2 : Int) ^ (q + 1) = ((2 ^ (q + 1) : Nat) : Int) by rw [Int.natCast_pow]; rfl]
            have := HP.out
            omega
          · simp [intOf]; omega
        · have hq1 : 1 ≤ q := by omega
          have htk : (l.drop (8 * j)).take q = (l.drop (8 * j)).take 8 := by
            rcases Nat.lt_or_ge q 8 with h | h
            · rw [List.take_of_length_le (by rw [List.length_drop]; omega), List.take_of_length_le (by rw [List.length_drop]; omega)]
            · rw [show q = 8 by omega]
          have hspl : bN (l.take (8 * (j + 1))) = bN (l.take (8 * j)) + 2 ^ (8 * j) * bN ((l.drop (8 * j)).take q) := by
            rw [htk, show 8 * (j + 1) = 8 * j + 8 by omega, List.take_add, bN_app, List.length_take, Nat.min_eq_left (by omega)]
          have hB := HB.out
          rw [Nat.min_eq_left (by omega)] at hB
          have hB2 := hB.byte1 (by omega) hq1 hq hnlt
          rw [← hspl, show 8 * j + q = min (8 * (j + 1)) l.length by omega] at hB2
          have hml : m.length + 1 ≤ 140737488355328 := by have := hB.len; omega
          have HB2 := Bx.mk hB2
          generalize bN ((l.drop (8 * j)).take q) = V at hnlt HB2 ⊢
          have hV : V < 256 := Nat.lt_of_lt_of_le hnlt hp8
          have hw8 : IntKind.u8.wrap (V : Int) = (V : Int) := by rw [IntKind.wrap_u8']; omega
          have HOA := Bx.mk (HO.out.below (below_alloc1 wr (.cells #[.int .u8 (V : Int)] 5)))
          have h1V : ∀ x ∈ [V], x < 256 := by
            intro x hx
            have : x = V := by simpa using hx
            omega
          have RL := Bx.mk (RB.lit wr 5 [V] #[.int .u8 (V : Int)] rfl h1V (by simp))
          have hzw : z ≤ wr.heap.size := Nat.le_trans (by rw [HM.out]; exact Nat.le_refl _) HBl.out.size
          have hza : z ≤ (wr.alloc (.cells #[.int .u8 (V : Int)] 5)).heap.size := by simp; omega
          clear hspl htk hB hB2
          generalize 2 ^ q = M at hp8 hnlt ⊢
          go_wp2_with (at_builtin; refine wpList_append_bytes _ rfl (.tmp 38) (.tmp 41) rfl z u3 m [V] rfl HOA.out (some ⟨wr.heap.size, 0, none⟩) 1 rfl RL.out hml hza ?_; intro v2 w2 ho2 hg2 _; have hb2 := Bx.mk (app_belowB hzw hg2 HO.out); have HO2 := Bx.mk ho2; clear hg2 ho2)
          all_goals go_roundw
          all_goals first | exact ⟨j + 1, m ++ [V], by go_num, by omega, HB2, HO2, ⟨HBl.out.trans hb2.out⟩⟩ | (simp [intOf]; omega)
    · have h1 : l.take (8 * j) = l := List.take_of_length_le (by omega)
      have hB := HB.out
      rw [h1, Nat.min_eq_right (by omega)] at hB
      have HB2 := Bx.mk hB
      clear hB h1
      go_wp2
      go_ret
      exact ⟨_, m, HB2.out, rfl, by rw [← HM.out]; exact HO.out, by rw [← HM.out]; exact HBl.out⟩
end Go.Proofs.Ytnncnjkpjlpodaa
