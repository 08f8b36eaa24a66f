import Derived.Test.YtnncnjkpjlpodaaFlowRef6
/-
  The reference's reader: Bytes.
-/
namespace Go.Proofs.Ytnncnjkpjlpodaa
open Go.RowKit

theorem bitsL_drop : ∀ (p : Nat) (l : List Nat), (bitsL l).drop (8 * p) = bitsL (l.drop p)
  | 0, l => by simp
  | p + 1, [] => by simp [bitsL]
  | p + 1, x :: r => by
    rw [bitsL, List.drop_succ_cons, ← bitsL_drop p r, show 8 * (p + 1) = (lowL x 8).length + 8 * p by rw [lowL_length]; omega, List.drop_append]
    rw [List.drop_eq_nil_of_le (by omega), List.nil_append, Nat.add_sub_cancel_left]
theorem bitsL_takes : ∀ (p : Nat) (l : List Nat), (bitsL l).take (8 * p) = bitsL (l.take p)
  | 0, l => by simp [bitsL]
  | p + 1, [] => by simp [bitsL]
  | p + 1, x :: r => by
    rw [bitsL, List.take_succ_cons, bitsL, ← bitsL_takes p r, show 8 * (p + 1) = (lowL x 8).length + 8 * p by rw [lowL_length]; omega, List.take_append]
    rw [List.take_of_length_le (by omega), Nat.add_sub_cancel_left]
theorem yBytes_no (g : Nat) (A : Option Addr) (len c a : Nat) (n : Int) (w : World) (h : Blk w g 53 #[.slice A (8 * len) c, .int .i64 (a : Int)]) (hlen : len ≤ 140737488351232) (ha : a ≤ 8 * len) (hE : byE len a n ≠ 0) :
    Calls Try.prog 39 #[.pointer (some ⟨g, 0, none⟩), .int .i64 n] w fun e w' => e = .returned (.tuple #[.slice none 0 0, .int .i64 (byE len a n)]) ∧ ∃ k, w' = w.drewN k := by
  have h1 : w.cell? ⟨g, 1, none⟩ = some (.int .i64 (a : Int)) := h.cell 1
  have hk0 : w.cell? ⟨g, 0, none⟩ = some (.slice A (8 * len) c) := h.cell 0
  by_cases h0 : n < 0
  · have E : Bx (byE len a n = 2) := ⟨if_pos (.inl h0)⟩
    rw [E.out]
    clear h hE
    go_enter Try.func39, Try.ntmps39
    go_wp2
    go_ret2
    exact ⟨rfl, 0, rfl⟩
  · have hm : (a : Int) % 8 = ((a % 8 : Nat) : Int) := by omega
    by_cases h8 : a % 8 = 0
    · have e : byE len a n = if (((8 * len - a) / 8 : Nat) : Int) < n then 7 else 0 := by unfold byE; rw [if_neg (by omega)]
      have hs : (((8 * len - a) / 8 : Nat) : Int) < n := by
        by_cases h2 : (((8 * len - a) / 8 : Nat) : Int) < n
        · exact h2
        · exfalso; apply hE; rw [e, if_neg h2]
      have E : Bx (byE len a n = 7) := ⟨by rw [e, if_pos hs]⟩
      rw [E.out]
      rw [h8] at hm
      have hs2 : (((8 * len : Nat) : Int) - (a : Int)) / 8 < n := by omega
      have hT : 8 * len ≤ 1125899906809856 := by omega
      clear h hE e hs h8
      generalize 8 * len = T at *
      go_enter Try.func39, Try.ntmps39
      go_wp2
      go_quiet (fail)
      go_wp2
      go_ret2
      exact ⟨rfl, _, rfl⟩
    · have E : Bx (byE len a n = 2) := ⟨if_pos (.inr h8)⟩
      rw [E.out]
      clear h hE
      have hne : ((a % 8 : Nat) : Int) ≠ 0 := by omega
      generalize a % 8 = R at hm hne
      have hne2 : ((R : Int) != 0) = true := by rw [bne_iff_ne]; omega
      clear h8
      go_enter Try.func39, Try.ntmps39
      go_wp2
      go_ret2
      exact ⟨rfl, 0, rfl⟩
set_option maxRecDepth 100000 in
set_option maxHeartbeats 1000000 in
theorem yBytes_yes (g : Nat) (A : Option Addr) (l : List Nat) (c p n : Nat) (w : World) (h : Blk w g 53 #[.slice A (8 * l.length) c, .int .i64 ((8 * p : Nat) : Int)]) (hl : ∀ x ∈ l, x < 256)
    (hI : ∀ w', Only g w w' → IR w' A (zl (bitsL l))) (hlen : l.length ≤ 1048576) (hc : 8 * l.length ≤ c) (hpn : p + n ≤ l.length) :
    Calls Try.prog 39 #[.pointer (some ⟨g, 0, none⟩), .int .i64 (n : Int)] w fun e w' => ∃ v, e = .returned (.tuple #[v, .int .i64 0]) ∧
      OB w' w.heap.size v ((l.drop p).take n) ∧ Blk w' g 53 #[.slice A (8 * l.length) c, .int .i64 ((8 * (p + n) : Nat) : Int)] ∧ WStep g (.slice none 0 0) w (.slice none 0 0) w' := by
  have h1 : w.cell? ⟨g, 1, none⟩ = some (.int .i64 ((8 * p : Nat) : Int)) := h.cell 1
  have h0 : w.cell? ⟨g, 0, none⟩ = some (.slice A (8 * l.length) c) := h.cell 0
  have f1 := h.frozen 1
  have HB := Bx.mk h
  have hbl := bitsL_length l
  have ct := cut_mid_ints A (8 * l.length) c (8 * p) (8 * p + 8 * n) (by omega) (by omega) hc
  rw [show 8 * p + 8 * n - 8 * p = 8 * n by omega] at ct
  have hln : (((bitsL l).drop (8 * p)).take (8 * n)).length = 8 * n := by rw [List.length_take, List.length_drop, hbl]; omega
  have hbt : Bit (((bitsL l).drop (8 * p)).take (8 * n)) := fun x hx => bitsL_bit l x (List.mem_of_mem_drop (List.mem_of_mem_take hx))
  have hval : ((bitsL l).drop (8 * p)).take (8 * n) = bitsL ((l.drop p).take n) := by rw [bitsL_drop, bitsL_takes]
  have hmem : ∀ x ∈ (l.drop p).take n, x < 256 := fun x hx => hl x (List.mem_of_mem_drop (List.mem_of_mem_take hx))
  have hlen2 : ((l.drop p).take n).length = n := by rw [List.length_take, List.length_drop]; omega
  have PK : Bx (∀ W, Only g w W → Calls Try.prog 32 #[.slice (if c = 8 * p then A else A.map (·.add (8 * p))) (8 * n) (c - 8 * p)] W fun e w' => ∃ v, e = .returned v ∧ OB w' W.heap.size v ((l.drop p).take n) ∧ Below W.heap.size W w') := ⟨fun W hW => by
    have hir := ((hI W hW).drop (8 * p) c (by rw [zl_length, hbl]; exact hc)).take (8 * n)
    rw [← zl_drop, ← zl_take] at hir
    have h := Pack_calls (if c = 8 * p then A else A.map (·.add (8 * p))) (((bitsL l).drop (8 * p)).take (8 * n)) (c - 8 * p) W hir hbt (by rw [hln]; omega)
    rw [hln] at h
    refine h.mono fun e w' ⟨v, m, hb, he, ho, hbl⟩ => ⟨v, he, ?_, hbl⟩
    rw [hval, bN_bits _ hmem] at hb
    have hu : Bts ((l.drop p).take n) (lsum ((l.drop p).take n)) (8 * n) := ⟨hmem, by rw [hlen2]; omega, rfl, by have := lsum_lt _ hmem; rw [hlen2] at this; rw [Nat.pow_mul]; exact this⟩
    rw [← hb.unique hu]
    exact ho⟩
  generalize (if c = 8 * p then A else A.map (·.add (8 * p))) = X at ct PK
  generalize c - 8 * p = Y at ct PK
  generalize (l.drop p).take n = M at PK ⊢
  have hm0 : ((8 * p : Nat) : Int) % 8 = 0 := by omega
  have hcmp : ¬ (((8 * l.length : Nat) : Int) - ((8 * p : Nat) : Int)) / 8 < (n : Int) := by omega
  have hsm : ((8 * p + 8 * n : Nat) : Int) = ((8 * p : Nat) : Int) + 8 * (n : Int) := by omega
  have hp8 : 8 * (p + n) = 8 * p + 8 * n := by omega
  rw [hp8, hsm]
  rw [hsm] at ct
  have hnb : n ≤ 1048576 := by omega
  have hTb : 8 * l.length ≤ 8388608 := by omega
  have hle : 8 * p + 8 * n ≤ 8 * l.length := by omega
  clear h hl hI hln hbt hval hmem hlen2 hbl hp8 hsm hc hpn hlen
  generalize 8 * l.length = T at *
  generalize 8 * p = a at *
  obtain ⟨q, hq⟩ : ∃ q : Nat, 8 * (n : Int) = (q : Int) := ⟨8 * n, by omega⟩
  obtain rfl : 8 * n = q := by omega
  generalize hqq : 8 * n = q at *
  have HQQ := Bx.mk hqq
  clear hqq
  rw [hq] at ct ⊢
  have hq1 : IntKind.i64.wrap (q : Int) = (q : Int) := by rw [IntKind.wrap_i64]; omega
  have hq2 : IntKind.i64.wrap ((a : Int) + (q : Int) - (q : Int)) = (a : Int) := by rw [IntKind.wrap_i64]; omega
  have hq3 : IntKind.i64.wrap ((a : Int) + (q : Int)) = (a : Int) + (q : Int) := by rw [IntKind.wrap_i64]; omega
  have hq4 : IntKind.i64.wrap (a : Int) = (a : Int) := by rw [IntKind.wrap_i64]; omega
  go_enter Try.func39, Try.ntmps39
  go_wp2
  go_quiet (fail)
  go_wp2
  have hb2 := (show Blk (w.drewN nq) g 53 #[.slice A T c, .int .i64 (a : Int)] from HB.out).set_ 1 (.int .i64 ((a : Int) + (q : Int)))
  have ho2 := (Only.drewN g w nq).trans (Only.set g 1 (.int .i64 ((a : Int) + (q : Int))) (w.drewN nq))
  generalize (w.drewN nq).setCell ⟨g, 1, none⟩ (.int .i64 ((a : Int) + (q : Int))) = w2 at hb2 ho2 ⊢
  have k1 : w2.cell? ⟨g, 1, none⟩ = some (.int .i64 ((a : Int) + (q : Int))) := hb2.cell 1
  have k0 : w2.cell? ⟨g, 0, none⟩ = some (.slice A T c) := hb2.cell 0
  have HB2 := Bx.mk hb2
  have HO2 := Bx.mk ho2
  clear hb2 ho2
  go_still_tail 16, (by kernel_rfl)
  change wpList _ _ _ _ _ w2.drew
  have HO3 := Bx.mk (HO2.out.trans (show Only g w2 w2.drew from Only.drewN g w2 1))
  have HB3 : Bx (Blk w2.drew g 53 #[.slice A T c, .int .i64 ((a : Int) + (q : Int))]) := ⟨HB2.out⟩
  generalize w2.drew = w3 at HO3 HB3 ⊢
  go_wp2_with fail
  refine (PK.out w3 HO3.out).mono ?_
  rintro e w4 ⟨v4, rfl, ho4, hb4⟩
  have HO4 := Bx.mk ho4
  have HL4 := Bx.mk hb4
  clear ho4 hb4
  go_wp2
  go_ret2
  refine ⟨v4, rfl, ?_, HB3.out.below HL4.out HB3.out.lt, ?_⟩
  · have := HO4.out; rw [HO3.out.size] at this; exact this
  · exact (WStep.only HO3.out).trans ⟨fun B h1 h2 => HL4.out.mono h2, HL4.out.size, fun q hq _ _ => HL4.out.block q hq, fun _ h => .inl h⟩
end Go.Proofs.Ytnncnjkpjlpodaa
