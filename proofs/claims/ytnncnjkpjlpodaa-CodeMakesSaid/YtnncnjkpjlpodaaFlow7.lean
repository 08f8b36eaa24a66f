import Derived.Test.YtnncnjkpjlpodaaFlowWorks
/-
  Align, Bytes of the writer and of the reader.
-/
namespace Go.Proofs.Ytnncnjkpjlpodaa
open Go.RowKit

theorem i64_up8 (a : Nat) (ha : a ≤ 1125899906809856) : bits .andNot .i64 ((a : Int) + 7) 7 = (((a + 7) / 8 * 8 : Nat) : Int) := by
  rw [show (a : Int) + 7 = ((a + 7 : Nat) : Int) by omega]
  generalize hx : a + 7 = x
  show IntKind.i64.wrap ((BitVec.ofInt 64 (x : Int) &&& ~~~BitVec.ofInt 64 7).toNat : Int) = _
  rw [BitVec.toNat_and, BitVec.toNat_not, ofInt_u64 x (by omega), show (BitVec.ofInt 64 7).toNat = 7 by decide, show 2 ^ 64 - 1 - 7 = 18446744073709551608 by decide, nat_hi64_3, IntKind.wrap_i64]
  omega
theorem Bts.up {l : List Nat} {N a : Nat} (h : Bts l N a) : Bts l N ((a + 7) / 8 * 8) :=
  ⟨h.byte, by rw [h.len]; omega, h.sum, Nat.lt_of_lt_of_le h.small (Nat.pow_le_pow_right (by decide) (by omega))⟩
theorem Bts.more {l m : List Nat} {N a : Nat} (h : Bts l N a) (h8 : a % 8 = 0) (hm : ∀ x ∈ m, x < 256) : Bts (l ++ m) (N + 2 ^ a * lsum m) (a + 8 * m.length) := by
  have hl : l.length = a / 8 := by have := h.len; omega
  have hp : 2 ^ a = 256 ^ l.length := by rw [pow_at a, h8, hl]; simp
  have hk : N + 2 ^ a * lsum m < 2 ^ (a + 8 * m.length) := by
    have h1 := h.small
    have h2 := lsum_lt m hm
    rw [Nat.pow_add, Nat.pow_mul]
    have h3 : 2 ^ a * (lsum m + 1) ≤ 2 ^ a * (2 ^ 8) ^ m.length := Nat.mul_le_mul_left _ h2
    rw [Nat.mul_add, Nat.mul_one] at h3
    omega
  refine ⟨?_, ?_, ?_, hk⟩
  · intro x hx
    rcases List.mem_append.1 hx with h1 | h1
    · exact h.byte x h1
    · exact hm x h1
  · rw [List.length_append]; omega
  · rw [lsum_append, h.sum, hp]

theorem wAlign_calls (g : Nat) (v : Value) (N a : Nat) (w : World) (h : Wr w g v N a) (ha : a ≤ 1125899906809856) :
    Calls Try.prog 28 #[.pointer (some ⟨g, 0, none⟩)] w fun e w' => e = .returned (.int .i64 0) ∧ Wr w' g v N ((a + 7) / 8 * 8) ∧ WStep g v w v w' := by
  obtain ⟨hb, l, hB, hO⟩ := h
  have h1 : w.cell? ⟨g, 1, none⟩ = some (.int .i64 (a : Int)) := hb.cell 1
  have f1 := hb.frozen 1
  have H := Bx.mk (wIs_calls g _ _ true w hb)
  have hand := i64_up8 a ha
  have BT := Bx.mk hB.up
  have HO := Bx.mk hO
  have HB := Bx.mk hb
  generalize (a + 7) / 8 * 8 = q at hand BT ⊢
  clear hb hB hO
  go_enter Try.func28, Try.ntmps28
  go_wp2_with fail
  refine H.out.mono ?_
  rintro e w1 ⟨rfl, rfl⟩
  go_wp2
  go_ret
  exact ⟨rfl, ⟨HB.out.set_ 1 (.int .i64 (q : Int)), l, BT.out, ownsRow_setCell_other HO.out (a := ⟨g, 1, none⟩) HO.out.ne _⟩, WStep.setG _⟩

set_option maxHeartbeats 1000000 in
theorem wBytes_yes (g : Nat) (v : Value) (N a : Nat) (B : Option Addr) (m : List Nat) (c : Nat) (w : World) (h : Wr w g v N a) (hm : RB w B m) (h8 : a % 8 = 0) (ha : a + 8 * m.length ≤ 1125899906809856) :
    Calls Try.prog 30 #[.pointer (some ⟨g, 0, none⟩), .slice B m.length c] w fun e w' => e = .returned (.int .i64 0) ∧ ∃ v', Wr w' g v' (N + 2 ^ a * lsum m) (a + 8 * m.length) ∧ WStep g v w v' w' := by
  obtain ⟨hb, l, hB, hO⟩ := h
  obtain ⟨A, c0, rfl⟩ := hO.form
  have h0 : w.cell? ⟨g, 0, none⟩ = some (.slice A l.length c0) := hb.cell 0
  have h1 : w.cell? ⟨g, 1, none⟩ = some (.int .i64 (a : Int)) := hb.cell 1
  have H := Bx.mk (wIs_calls g _ _ true w hb)
  have W8 := Bx.mk (whole_calls g _ _ (.bool true) a w hb)
  rw [decide_eq_true h8] at W8
  have BT := Bx.mk (hB.more h8 hm.1)
  have HO := Bx.mk hO
  have HB := Bx.mk hb
  have HM := Bx.mk hm
  have hlb : l.length + m.length ≤ 140737488355328 := by have := hB.len; omega
  have hsz : g + 1 ≤ w.heap.size := hb.lt
  have ham : a + 8 * m.length ≤ 1125899906809856 := ha
  generalize N + 2 ^ a * lsum m = M at BT ⊢
  clear hb hB hO hm h8
  go_enter Try.func30, Try.ntmps30
  go_wp2_with fail
  refine H.out.mono ?_
  rintro e w1 ⟨rfl, rfl⟩
  go_wp2_with fail
  refine W8.out.mono ?_
  rintro e w1 ⟨rfl, rfl⟩
  go_wp2_with (at_builtin; refine wpList_append_bytes _ rfl _ _ rfl (g + 1) _ l m rfl HO.out B c rfl HM.out hlb hsz ?_; intro v' w' ho' hg hat; obtain ⟨A', c', hv⟩ := OB.form (show OB w' (g + 1) v' (l ++ m) from ho'); rw [List.length_append] at hv; subst hv; have HB' := Bx.mk (HB.out.grown hg (fun hc => HO.out.ne hc.symm)); have q0 := HB'.out.frozen 0; have q1 := HB'.out.cell 0; have q2 := (HB'.out.set_ 0 (.slice A' (l.length + m.length) c')).cell 1; have q3 := (HB'.out.set_ 0 (.slice A' (l.length + m.length) c')).frozen 1; have HO' := Bx.mk ho'; have HS := Bx.mk (WStep.grown (g := g) hg (fun k hk => Nat.le_trans (Nat.le_succ g) (own_block HO.out k hk)) hat); clear ho' hg hat)
  have Z1 := Bx.mk ((HB'.out.set_ 0 (.slice A' (l.length + m.length) c')).set_ 1 (.int .i64 ((a : Int) + 8 * (m.length : Int))))
  have Z2 : Bx (OB ((w'.setCell ⟨g, 0, none⟩ (.slice A' (l.length + m.length) c')).setCell ⟨g, 1, none⟩ (.int .i64 ((a : Int) + 8 * (m.length : Int)))) (g + 1) (.slice A' (l.length + m.length) c') (l ++ m)) :=
    ⟨ownsRow_setCell_other (ownsRow_setCell_other HO'.out (a := ⟨g, 0, none⟩) (OB.ne HO'.out) _) (a := ⟨g, 1, none⟩) (OB.ne HO'.out) _⟩
  clear h0 h1
  go_wp2
  go_ret
  exact ⟨rfl, _, ⟨Z1.out, l ++ m, BT.out, Z2.out⟩, (HS.out.trans (WStep.setG _)).trans (WStep.setG _)⟩
end Go.Proofs.Ytnncnjkpjlpodaa
