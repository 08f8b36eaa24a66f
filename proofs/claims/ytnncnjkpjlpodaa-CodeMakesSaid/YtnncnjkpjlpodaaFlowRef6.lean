import Derived.Test.YtnncnjkpjlpodaaFlowRef5
import Derived.Test.YtnncnjkpjlpodaaFlow8
/-
  The reference's reader: Take, Peek, Align, Bytes.
-/
namespace Go.Proofs.Ytnncnjkpjlpodaa
open Go.RowKit

theorem elem_ints : Try.prog.elem 42 = 3 := by simp [Program.elem, Try.underlying42]
theorem cut_mid_ints (A : Option Addr) (n c j k : Nat) (hj : j ≤ k) (hk : k ≤ n) (hc : n ≤ c) (W : World) :
    (Instr.slice 42 (.slice A n c) (some (.int .i64 (j : Int))) (some (.int .i64 (k : Int))) none).run Try.prog W = .ok (.slice (if c = j then A else A.map (·.add j)) (k - j) (c - j)) W := by
  have hu : Try.prog.underlying 42 = some (.slice (Try.prog.elem 42)) := by rw [elem_ints]; exact Try.underlying42
  rw [run_slice_lh W 42 A n c hu .i64 .i64 j k (by omega) (by omega) (by omega), elem_ints]
  simp [sliced, Result.andThen]
theorem IR.take {w : World} {A : Option Addr} {l : List Int} (h : IR w A l) (k : Nat) : IR w A (l.take k) := fun hp => by
  have hp' : 0 < k ∧ 0 < l.length := by rw [List.length_take] at hp; omega
  obtain ⟨ad, rfl, hc⟩ := h hp'.2
  refine ⟨ad, rfl, fun j hj => ?_⟩
  have hj' : j < k ∧ j < l.length := by rw [List.length_take] at hj; omega
  rw [hc j hj'.2, List.getD_eq_getElem?_getD, List.getD_eq_getElem?_getD, List.getElem?_take, if_pos hj'.1]
theorem IR.drop {w : World} {A : Option Addr} {l : List Int} (h : IR w A l) (k c : Nat) (hc' : l.length ≤ c) : IR w (if c = k then A else A.map (·.add k)) (l.drop k) := fun hp => by
  have hp' : k < l.length := by rw [List.length_drop] at hp; omega
  obtain ⟨ad, rfl, hc⟩ := h (by omega)
  refine ⟨ad.add k, by rw [if_neg (by omega)]; rfl, fun j hj => ?_⟩
  have hj' : k + j < l.length := by rw [List.length_drop] at hj; omega
  rw [add_of_add, hc _ hj', List.getD_eq_getElem?_getD, List.getD_eq_getElem?_getD, List.getElem?_drop]
theorem zl_take (l : List Nat) (k : Nat) : zl (l.take k) = (zl l).take k := by simp [zl, List.map_take]
theorem zl_drop (l : List Nat) (k : Nat) : zl (l.drop k) = (zl l).drop k := by simp [zl, List.map_drop]

theorem yTake_arg (g : Nat) (n : Int) (w : World) (h : n < 0 ∨ 24 < n) :
    Calls Try.prog 34 #[.pointer (some ⟨g, 0, none⟩), .int .i64 n] w fun e w' => e = .returned (.tuple #[.int .i64 0, .int .i64 2]) ∧ w = w' := by
  by_cases h0 : n < 0
  · clear h
    go_enter Try.func34, Try.ntmps34
    go_wp2
    go_ret2
    exact ⟨rfl, rfl⟩
  · have h1 : 24 < n := by omega
    clear h
    go_enter Try.func34, Try.ntmps34
    go_wp2
    go_ret2
    exact ⟨rfl, rfl⟩
theorem yTake_short (g : Nat) (A : Option Addr) (len c a n : Nat) (w : World) (h : Blk w g 53 #[.slice A len c, .int .i64 (a : Int)]) (_hlen : len ≤ 1125899906809856) (_ha : a ≤ len) (hn : n ≤ 24) (hs : len < a + n) :
    Calls Try.prog 34 #[.pointer (some ⟨g, 0, none⟩), .int .i64 (n : Int)] w fun e w' => e = .returned (.tuple #[.int .i64 0, .int .i64 7]) ∧ ∃ k, w' = w.drewN k := by
  have h1 : w.cell? ⟨g, 1, none⟩ = some (.int .i64 (a : Int)) := h.cell 1
  have h0 : w.cell? ⟨g, 0, none⟩ = some (.slice A len c) := h.cell 0
  clear h
  go_enter Try.func34, Try.ntmps34
  go_wp2
  go_quiet (fail)
  go_wp2
  go_ret2
  exact ⟨rfl, _, rfl⟩
set_option maxHeartbeats 1000000 in
theorem yTake_ok (g : Nat) (A : Option Addr) (b : List Nat) (c a n : Nat) (w : World) (h : Blk w g 53 #[.slice A b.length c, .int .i64 (a : Int)]) (hb : Bit b) (hI : ∀ w', Only g w w' → IR w' A (zl b)) (hlen : b.length ≤ 1125899906809856) (hn : n ≤ 24) (hs : a + n ≤ b.length) (hc : b.length ≤ c) :
    Calls Try.prog 34 #[.pointer (some ⟨g, 0, none⟩), .int .i64 (n : Int)] w fun e w' =>
      e = .returned (.tuple #[.int .i64 ((bN ((b.drop a).take n) : Nat) : Int), .int .i64 0]) ∧ Blk w' g 53 #[.slice A b.length c, .int .i64 ((a + n : Nat) : Int)] ∧ Only g w w' := by
  have h1 : w.cell? ⟨g, 1, none⟩ = some (.int .i64 (a : Int)) := h.cell 1
  have h0 : w.cell? ⟨g, 0, none⟩ = some (.slice A b.length c) := h.cell 0
  have f1 := h.frozen 1
  have HB := Bx.mk h
  have ct := cut_mid_ints A b.length c a (a + n) (by omega) hs hc
  rw [show ((a + n : Nat) : Int) = (a : Int) + (n : Int) by omega, show a + n - a = n by omega] at ct
  have hln : ((b.drop a).take n).length = n := by rw [List.length_take, List.length_drop]; omega
  have hbt : Bit ((b.drop a).take n) := fun x hx => hb x (List.mem_of_mem_drop (List.mem_of_mem_take hx))
  have NU : Bx (∀ W, Only g w W → ∀ q, Calls Try.prog 64 #[.slice (if c = a then A else A.map (·.add a)) n (c - a)] (W.drewN q) fun e w' => e = .returned (.int .i64 ((bN ((b.drop a).take n) : Nat) : Int)) ∧ ∃ m, w' = W.drewN m) := ⟨fun W hW q => by
    have hir := ((hI W hW).drop a c (by rw [zl_length]; exact hc)).take n
    rw [← zl_drop, ← zl_take] at hir
    have h := Number_calls (if c = a then A else A.map (·.add a)) ((b.drop a).take n) (c - a) (W.drewN q) hir hbt (by rw [hln]; exact hn)
    rw [hln] at h
    exact h.mono fun e w' ⟨h1, h2⟩ => ⟨h1, q, h2.symm⟩⟩
  generalize (if c = a then A else A.map (·.add a)) = X at ct NU
  generalize c - a = Y at ct NU
  generalize bN ((b.drop a).take n) = V at NU ⊢
  clear h hb hI hln hbt
  go_enter Try.func34, Try.ntmps34
  go_wp2
  go_quiet (fail)
  go_wp2
  have hb2 := (show Blk (w.drewN nq) g 53 #[.slice A b.length c, .int .i64 (a : Int)] from HB.out).set_ 1 (.int .i64 ((a : Int) + (n : Int)))
  have ho2 := (Only.drewN g w nq).trans (Only.set g 1 (.int .i64 ((a : Int) + (n : Int))) (w.drewN nq))
  generalize (w.drewN nq).setCell ⟨g, 1, none⟩ (.int .i64 ((a : Int) + (n : Int))) = w2 at hb2 ho2 ⊢
  have k1 : w2.cell? ⟨g, 1, none⟩ = some (.int .i64 ((a : Int) + (n : Int))) := hb2.cell 1
  have k0 : w2.cell? ⟨g, 0, none⟩ = some (.slice A b.length c) := hb2.cell 0
  have NV := Bx.mk (NU.out w2 ho2)
  have HB2 := Bx.mk hb2
  have HO2 := Bx.mk ho2
  clear hb2 ho2 NU
  go_quiet ((go_at_call 64; with_reducible exact NV.out _))
  go_wp2
  go_ret2
  exact ⟨rfl, HB2.out, HO2.out.trans (Only.drewN g w2 _)⟩
theorem yPeek_arg (g : Nat) (n : Int) (w : World) (h : n < 0 ∨ 24 < n) :
    Calls Try.prog 35 #[.pointer (some ⟨g, 0, none⟩), .int .i64 n] w fun e w' => e = .returned (.int .i64 0) ∧ w = w' := by
  by_cases h0 : n < 0
  · clear h
    go_enter Try.func35, Try.ntmps35
    go_wp2
    go_ret
    exact ⟨rfl, rfl⟩
  · have h1 : 24 < n := by omega
    clear h
    go_enter Try.func35, Try.ntmps35
    go_wp2
    go_ret
    exact ⟨rfl, rfl⟩
set_option maxHeartbeats 1000000 in
theorem yPeek_ok (g : Nat) (A : Option Addr) (b : List Nat) (c a n : Nat) (w : World) (h : Blk w g 53 #[.slice A b.length c, .int .i64 (a : Int)]) (hb : Bit b) (hI : IR w A (zl b)) (hlen : b.length ≤ 1125899906809856) (hn : n ≤ 24) (hs : a ≤ b.length) (hc : b.length ≤ c) :
    Calls Try.prog 35 #[.pointer (some ⟨g, 0, none⟩), .int .i64 (n : Int)] w fun e w' => e = .returned (.int .i64 ((bN ((b.drop a).take n) : Nat) : Int)) ∧ ∃ k, w' = w.drewN k := by
  have h1 : w.cell? ⟨g, 1, none⟩ = some (.int .i64 (a : Int)) := h.cell 1
  have h0 : w.cell? ⟨g, 0, none⟩ = some (.slice A b.length c) := h.cell 0
  have HB := Bx.mk h
  have HBit := Bx.mk hb
  obtain ⟨t, ht, ht2⟩ : ∃ t : Nat, ((if (b.length : Int) < (a : Int) + (n : Int) then (b.length : Int) else (a : Int) + (n : Int)) = (t : Int)) ∧ t = min (a + n) b.length := ⟨_, by split <;> omega, rfl⟩
  have hsm : IntKind.i64.wrap ((a : Int) + (n : Int)) = (a : Int) + (n : Int) := by rw [IntKind.wrap_i64]; omega
  have ht3 : a ≤ t ∧ t ≤ b.length := by omega
  have ht3a := ht3.1
  have ht3b := ht3.2
  have ct := cut_mid_ints A b.length c a t (by omega) (by omega) hc
  have hir := ((hI.drop a c (by rw [zl_length]; exact hc)).take n)
  rw [← zl_drop, ← zl_take] at hir
  have hln : ((b.drop a).take n).length = t - a := by rw [List.length_take, List.length_drop]; omega
  have hbt : Bit ((b.drop a).take n) := fun x hx => hb x (List.mem_of_mem_drop (List.mem_of_mem_take hx))
  have NU : Bx (∀ q, Calls Try.prog 64 #[.slice (if c = a then A else A.map (·.add a)) (t - a) (c - a)] (w.drewN q) fun e w' => e = .returned (.int .i64 ((bN ((b.drop a).take n) : Nat) : Int)) ∧ ∃ m, w' = w.drewN m) := ⟨fun q => by
    have h := Number_calls (if c = a then A else A.map (·.add a)) ((b.drop a).take n) (c - a) (w.drewN q) hir hbt (by rw [hln]; omega)
    rw [hln] at h
    exact h.mono fun e w' ⟨h1, h2⟩ => ⟨h1, q, h2.symm⟩⟩
  generalize (if c = a then A else A.map (·.add a)) = X at ct NU
  generalize c - a = Y at ct NU
  generalize t - a = Z at ct NU
  generalize bN ((b.drop a).take n) = V at NU ⊢
  clear h hb hI hir hln hbt ht2 ht3
  go_enter Try.func35, Try.ntmps35
  go_wp2
  go_quiet ((go_at_call 64; with_reducible exact NU.out _))
  go_wp2
  go_ret
  exact ⟨rfl, _, rfl⟩
set_option maxHeartbeats 1000000 in
theorem yAlign_calls (g : Nat) (v : Value) (a : Nat) (w : World) (h : Blk w g 53 #[v, .int .i64 (a : Int)]) (ha : a ≤ 1125899906809856) :
    Calls Try.prog 37 #[.pointer (some ⟨g, 0, none⟩)] w fun e w' => e = .returned (.tuple #[]) ∧ Blk w' g 53 #[v, .int .i64 (((a + 7) / 8 * 8 : Nat) : Int)] ∧ Only g w w' := by
  have HB := Bx.mk h
  clear h
  go_enter Try.func37, Try.ntmps37
  go_wp2
  go_loopw [] (fun wr => ∃ k : Nat, a ≤ k ∧ k ≤ (a + 7) / 8 * 8 ∧ Bx (Blk wr g 53 #[v, .int .i64 (k : Int)]) ∧ Bx (Only g w wr)) (fun wr => (a + 7) / 8 * 8 - (intOf ((wr.cell? ⟨g, 1, none⟩).getD undef)).toNat)
  case atStart => exact ⟨a, Nat.le_refl _, by omega, HB, ⟨Only.refl _ _⟩⟩
  case round =>
    obtain ⟨k, hk1, hk2, HBr, HO⟩ := hrel
    have h1 : wr.cell? ⟨g, 1, none⟩ = some (.int .i64 (k : Int)) := HBr.out.cell 1
    have f1 := HBr.out.frozen 1
    have hm : (k : Int) % 8 = ((k % 8 : Nat) : Int) := by omega
    by_cases h8 : k % 8 = 0
    · have hke : k = (a + 7) / 8 * 8 := by omega
      rw [h8] at hm
      have HKE := Bx.mk hke
      clear hke hk1 hk2 h8
      go_wp2
      go_end0
      exact ⟨rfl, by rw [← HKE.out]; exact HBr.out, HO.out⟩
    · have hb2 := HBr.out.set_ 1 (.int .i64 ((k : Int) + 1))
      have HB2 := Bx.mk hb2
      have hc2 : ((wr.setCell ⟨g, 1, none⟩ (.int .i64 ((k : Int) + 1))).cell? ⟨g, 1, none⟩) = some (.int .i64 ((k : Int) + 1)) := hb2.cell 1
      have HC2 := Bx.mk hc2
      have HC1 := Bx.mk h1
      have hne : ((k % 8 : Nat) : Int) ≠ 0 := by omega
      have hlt : k < (a + 7) / 8 * 8 := by omega
      have HN := Bx.mk h8
      clear hb2 hc2 h8
      generalize k % 8 = R at hm hne
      have hne2 : ((R : Int) != 0) = true := by rw [bne_iff_ne]; omega
      go_wp2
      go_roundw
      case rel => exact ⟨k + 1, by omega, by omega, HB2, ⟨HO.out.trans (Only.set g 1 _ wr)⟩⟩
      case measure =>
        rw [HC1.out, HC2.out]
        simp [intOf]; omega
end Go.Proofs.Ytnncnjkpjlpodaa
