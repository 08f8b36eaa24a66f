import Derived.Test.YtnncnjkpjlpodaaFlowRef2
/-
  The reference: Bits.
-/
namespace Go.Proofs.Ytnncnjkpjlpodaa
open Go.RowKit

/-- the bits of bytes -/
def bitsL : List Nat → List Nat
  | [] => []
  | x :: r => lowL x 8 ++ bitsL r
theorem bitsL_length : ∀ l, (bitsL l).length = 8 * l.length
  | [] => rfl
  | x :: r => by rw [bitsL, List.length_append, lowL_length, bitsL_length r, List.length_cons]; omega
theorem bitsL_bit : ∀ l, Bit (bitsL l)
  | [] => Bit.nil
  | x :: r => (lowL_bit x 8).app (bitsL_bit r)
theorem bN_bits : ∀ l, (∀ x ∈ l, x < 256) → bN (bitsL l) = lsum l
  | [], _ => rfl
  | x :: r, h => by
    have hx := h x (by simp)
    rw [bitsL, bN_app, lowL_length, bN_low, bN_bits r (fun y hy => h y (by simp [hy]))]
    simp only [lsum]
    omega
theorem bitsL_app (l m : List Nat) : bitsL (l ++ m) = bitsL l ++ bitsL m := by
  induction l with
  | nil => rfl
  | cons x r ih => simp [bitsL, ih]
theorem bitsL_take (l : List Nat) (i : Nat) (h : i < l.length) : bitsL (l.take (i + 1)) = bitsL (l.take i) ++ lowL (l.getD i 0) 8 := by
  rw [List.take_succ_eq_append_getElem h, bitsL_app]
  congr 1
  rw [List.getD_eq_getElem?_getD, List.getElem?_eq_getElem h]
  simp [bitsL]
set_option maxHeartbeats 1000000 in
theorem Bits_calls (A : Option Addr) (l : List Nat) (c : Nat) (w : World) (hl : RB w A l) (hs : l.length ≤ 1048576) :
    Calls Try.prog 29 #[.slice A l.length c] w fun e w' => ∃ v, e = .returned v ∧ OI w' w.heap.size v (zl (bitsL l)) ∧ Below w.heap.size w w' := by
  have HL := Bx.mk hl
  clear hl
  obtain ⟨m, hm⟩ : ∃ m, m = w.heap.size := ⟨_, rfl⟩
  have HM := Bx.mk hm
  clear hm
  go_enter Try.func29, Try.ntmps29
  go_wp2
  go_loopw [3, 4, 5, 6] (fun v i x k wr => ∃ j, j ≤ l.length ∧ i = .int .i64 (j : Nat) ∧ Bx (OI wr m v (zl (bitsL (l.take j)))) ∧ Bx (Below m w wr)) (fun _ i _ _ _ => l.length - (intOf i).toNat)
  case atStart => exact ⟨0, Nat.zero_le _, rfl, ⟨by rw [HM.out]; exact OI.empty w⟩, ⟨by rw [HM.out]; exact below_alloc1 w _⟩⟩
  case round =>
    obtain ⟨j, hj, rfl, HO, HB⟩ := hrel
    by_cases hlt : j < l.length
    · have hr := HL.out.below (w1 := wr) (by rw [← HM.out]; exact HB.out)
      obtain ⟨ad, rfl, hd⟩ := hr.2.2 (by omega)
      have hg := hd j hlt
      have hX := mem_getD hlt HL.out.1
      have HT := Bx.mk (bitsL_take l j hlt)
      clear hr hd
      generalize l.getD j 0 = X at hg hX HT
      have HO0 : Bx (OI wr m u3 (zl (bitsL (l.take j) ++ lowL X 0))) := ⟨by rw [show lowL X 0 = [] from rfl, List.append_nil]; exact HO.out⟩
      have hbl : (bitsL (l.take j)).length = 8 * j := by rw [bitsL_length, List.length_take]; omega
      have HBL := Bx.mk hbl
      clear HO hbl
      go_wp2
      go_loopw [3, 5, 6] (fun v x k wr2 => ∃ q, q ≤ 8 ∧ k = .int .i64 (q : Nat) ∧ x = .int .i64 ((X / 2 ^ q : Nat) : Int) ∧ Bx (OI wr2 m v (zl (bitsL (l.take j) ++ lowL X q))) ∧ Bx (Below m w wr2)) (fun _ _ k _ => 8 - (intOf k).toNat)
      case atStart => exact ⟨0, Nat.zero_le _, rfl, by simp, HO0, HB⟩
      case round =>
        obtain ⟨q, hq, rfl, rfl, HO, HB2⟩ := hrel
        have hNle : X / 2 ^ q ≤ X := Nat.div_le_self _ _
        by_cases hlt2 : q < 8
        · have hd : X / 2 ^ (q + 1) = X / 2 ^ q / 2 := by rw [Nat.pow_succ, Nat.div_div_eq_div_mul]
          have hs2 : zl (bitsL (l.take j) ++ lowL X (q + 1)) = zl (bitsL (l.take j) ++ lowL X q) ++ [((X / 2 ^ q % 2 : Nat) : Int)] := by
            rw [lowL, ← List.append_assoc, zl_app _ [_]]; rfl
          have HD := Bx.mk hd
          have HS := Bx.mk hs2
          have hlen : ((zl (bitsL (l.take j) ++ lowL X q)).length + 1) * 8 ≤ 140737488355328 := by rw [zl_length, List.length_append, HBL.out, lowL_length]; omega
          have hmz : m ≤ wr.heap.size := Nat.le_trans (by rw [HM.out]; exact Nat.le_refl _) HB2.out.size
          clear hd hs2
          generalize X / 2 ^ q = N at HD HS hNle ⊢
          have hv : (N : Int) % 2 = ((N % 2 : Nat) : Int) := by omega
          generalize N % 2 = V at hv HS
          generalize zl (bitsL (l.take j) ++ lowL X q) = D at HO HS hlen
          go_wp2_with (at_builtin; refine wpList_append_int wr rfl (.tmp 23) (.tmp 26) rfl m u3 D (V : Int) rfl HO.out rfl hlen hmz ?_; intro v2 w2 ho2 hg2 _; have hb2 := Bx.mk (app_belowI hmz hg2 HO.out); have HO2 := Bx.mk ho2; clear hg2 ho2)
          go_roundw
          case rel => exact ⟨q + 1, by omega, by go_num, by rw [HD.out]; go_num, ⟨by rw [HS.out]; exact HO2.out⟩, ⟨HB2.out.trans hb2.out⟩⟩
          case measure => simp [intOf]; omega
        · obtain rfl : q = 8 := by omega
          go_wp2
          go_roundw
          case rel => exact ⟨j + 1, by omega, by go_num, ⟨by rw [HT.out]; exact HO.out⟩, HB2⟩
          case measure => simp [intOf]; omega
    · obtain rfl : j = l.length := by omega
      go_wp2
      go_ret
      refine ⟨_, rfl, ?_, by rw [← HM.out]; exact HB.out⟩
      have := HO.out
      rw [List.take_length, HM.out] at this
      exact this
end Go.Proofs.Ytnncnjkpjlpodaa
