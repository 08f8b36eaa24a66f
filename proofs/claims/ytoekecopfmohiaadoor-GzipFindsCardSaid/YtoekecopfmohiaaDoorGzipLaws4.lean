import Derived.Test.YtoekecopfmohiaaDoorGzipLaws1
/-
  GzipFinds: its walk.
-/
namespace Go.Proofs.YtoekecopfmohiaaDoor
open Go.RowKit

theorem xor_ne (x y : Nat) (h : y ≠ 0) : x ^^^ y ≠ x := fun hx => h (by
  have h2 : x ^^^ (x ^^^ y) = x ^^^ x := by rw [hx]
  rwa [← Nat.xor_assoc, Nat.xor_self, Nat.zero_xor] at h2)
/-- a byte of the tail turned -/
theorem turned_opn {P l T b : List Nat} {m y : Nat} (hT : T = tlB b) (hb : ∀ x ∈ b, x < 256) (hl : b.length < 4294967296) (hy : y < 256) (hy0 : y ≠ 0) (k : Nat) (hk : k < 8)
    (hf : ∀ r : List Nat, (∀ x ∈ r, x < 256) → opnN (P ++ (l ++ r)) m = tailN r b) :
    (∀ x ∈ (T.set k (T.getD k 0 ^^^ y)), x < 256) ∧ opnN ((P ++ (l ++ T)).set ((P ++ (l ++ T)).length - 8 + k) ((P ++ (l ++ T)).getD ((P ++ (l ++ T)).length - 8 + k) 0 ^^^ y)) m = .error 121 := by
  have hTl : T.length = 8 := by rw [hT]; simp [tlB, le_len]
  have hTb : ∀ x ∈ T, x < 256 := by rw [hT]; exact tlB_lt b
  have e1 : (P ++ (l ++ T)).length - 8 + k = P.length + (l.length + k) := by simp only [List.length_append]; omega
  have e2 : (P ++ (l ++ T)).getD ((P ++ (l ++ T)).length - 8 + k) 0 = T.getD k 0 := by
    rw [e1, List.getD_eq_getElem?_getD, List.getElem?_append_right (by omega), List.getElem?_append_right (by omega), List.getD_eq_getElem?_getD]
    congr 2; omega
  have hX : T.getD k 0 < 256 := mem_getD (by omega) hTb
  have hXY : T.getD k 0 ^^^ y < 256 := Nat.xor_lt_two_pow (n := 8) hX hy
  have hrb : ∀ x ∈ T.set k (T.getD k 0 ^^^ y), x < 256 := fun x hx => (List.mem_or_eq_of_mem_set hx).elim (hTb x) (fun h => by rw [h]; exact hXY)
  refine ⟨hrb, ?_⟩
  rw [e2, e1, List.set_append_right _ _ (by omega), List.set_append_right _ _ (by omega), show P.length + (l.length + k) - P.length - l.length = k by omega, hf _ hrb]
  refine tail_turned b _ (by rw [List.length_set, hTl]) hrb (fun h => ?_) hb hl
  rw [← hT] at h
  have h2 : (T.set k (T.getD k 0 ^^^ y)).getD k 0 = T.getD k 0 := by rw [h]
  rw [List.getD_eq_getElem?_getD, List.getElem?_set_self (by omega)] at h2
  exact xor_ne _ _ hy0 h2
set_option maxRecDepth 100000 in
set_option maxHeartbeats 4000000 in
theorem GzipFinds_calls (A : Option Addr) (b : List Nat) (c : Nat) (a : Int) (y : Nat) (w : World) (hb : RB w A b) (hc : b.length ≤ c) (hy : y < 256) (hg : Gz w) :
    Calls Tryd.prog 11 #[.slice A b.length c, .int .i64 a, .int .u8 (y : Int)] w fun e w' => e = .returned (.bool true) ∧ Below w.heap.size w w' := by
  have HG := Bx.mk hg
  have HB := Bx.mk hb
  have hlen := hb.2.1
  have W1 := Bx.mk (gworks_calls w hg)
  clear hb hg
  go_enter Tryd.func11, Tryd.ntmps11
  go_wp2_with (go_at_call 20; fail)
  refine W1.out.mono ?_
  rintro e w1 ⟨rfl, hb1⟩
  have B1 := Bx.mk hb1
  clear hb1 W1
  by_cases h3 : 2000 < b.length
  case' pos =>
    obtain ⟨L, hL⟩ : ∃ L, L = b.take 2000 := ⟨_, rfl⟩
    have hLl : L.length = 2000 := by rw [hL, List.length_take]; omega
    have k1 : ∀ W, (Instr.slice 22 (.slice A b.length c) none (some (.int .i64 2000)) none).run Tryd.prog W = .ok (.slice A L.length c) W := fun W => by
      rw [hLl]; exact cut_to_bytes A b.length c 2000 (by omega) hc W
    have HL : Bx (RB w1 A L) := ⟨by rw [hL]; exact (HB.out.below B1.out).take 2000⟩
    have HLc : L.length ≤ c := by omega
    have h3i : (2000 : Int) < (b.length : Int) := by omega
    have hLn : L.length ≤ 2000 := by omega
    clear hL hLl
    go_wp2_with (go_at_call 25; fail)
  case' neg =>
    obtain ⟨L, rfl⟩ : ∃ L, L = b := ⟨_, rfl⟩
    have h3i : decide ((2000 : Int) < (L.length : Int)) = false := decide_eq_false (by omega)
    have HL : Bx (RB w1 A L) := ⟨HB.out.below B1.out⟩
    have HLc : L.length ≤ c := hc
    have hLn : L.length ≤ 2000 := by omega
    go_wp2_with (go_at_call 25; fail)
  all_goals
    clear h3i h3
    have HG1 := Bx.mk (HG.out.below B1.out)
    refine (Wrap_calls A L c w1 HL.out HLc HG1.out (by omega)).mono ?_
    rintro e w2 ⟨l, v2, hbts, rfl, ho2, hb2⟩
    have hll := gz_len L l HL.out.1 hbts
    have hzl := gzF_len [] [] [] false l L
    have hzb := gzF_lt [] [] [] false l L (by simp) (by simp) (by simp) hbts.byte
    have hi := inf_gz L l 2000 HL.out.1 hLn (by omega) hbts
    have B2 := Bx.mk (below_then B1.out B1.out.size hb2)
    have hLb := HL.out.1
    simp only [List.length_nil] at hzl
    by_cases hy0 : y = 0
    · subst hy0
      obtain ⟨A2, c2, rfl⟩ := ho2.form
      have h8 : (8 : Int) ≤ ((gzF [] [] [] false l L).length : Int) := by omega
      generalize gzF [] [] [] false l L = Z at *
      clear ho2 hb2 hbts hi hzb
      go_wp2
      go_ret
      exact ⟨rfl, B2.out⟩
    · have hk8 : amg a 8 < 8 := amg_lt _ _ (by decide)
      have AM := Bx.mk (Among_calls a 8 w2 (by decide) (by decide))
      generalize amg a 8 = K8 at *
      have F1 := Bx.mk (turned_opn (P := hdB [] [] [] false) (l := l) (T := tlB L) (b := L) (m := 2000) rfl hLb (by omega) hy hy0 K8 hk8 (fun r hr => opn_frame (by simp) (by simp) (by simp) hi r hr)).2
      change Bx (opnN ((gzF [] [] [] false l L).set ((gzF [] [] [] false l L).length - 8 + K8) ((gzF [] [] [] false l L).getD ((gzF [] [] [] false l L).length - 8 + K8) 0 ^^^ y)) 2000 = .error 121) at F1
      generalize gzF [] [] [] false l L = Z at *
      have hy0i : ((y : Int) == 0) = false := beq_false_of_ne (by omega)
      have h8 : decide ((Z.length : Int) < 8) = false := decide_eq_false (by omega)
      have hsub : IntKind.i64.wrap ((Z.length : Int) - 8) = ((Z.length - 8 : Nat) : Int) := by rw [IntWalk.i64_in _ (by omega)]; omega
      have hadd : IntKind.i64.wrap (((Z.length - 8 : Nat) : Int) + (K8 : Int)) = ((Z.length - 8 + K8 : Nat) : Int) := by rw [IntWalk.i64_in _ (by omega)]; omega
      have hKl : Z.length - 8 + K8 < Z.length := by omega
      obtain ⟨A2, c2, rfl, hc2⟩ := ho2.form'
      obtain ⟨g2, hg2, -, -, hgl, hcell, hfz⟩ := ho2.opened (by omega)
      subst hg2
      have O2 := Bx.mk ho2
      have HZB := Bx.mk hzb
      clear ho2 hb2 hbts hi hzb hLb
      go_wp2_with (go_at_call 13; fail)
      refine AM.out.mono ?_
      rintro e w3 ⟨rfl, rfl⟩
      obtain ⟨KK, hKK⟩ : ∃ KK, KK = Z.length - 8 + K8 := ⟨_, rfl⟩
      rw [← hKK] at F1 hadd hKl
      have ck := hcell KK hKl
      have fk := hfz KK
      have hX : Z.getD KK 0 < 256 := mem_getD hKl HZB.out
      have hxor : bits .xor .u8 ((Z.getD KK 0 : Nat) : Int) (y : Int) = ((Z.getD KK 0 ^^^ y : Nat) : Int) := u8_xor_nat _ _ hX hy
      have hXY : Z.getD KK 0 ^^^ y < 256 := Nat.xor_lt_two_pow (n := 8) hX hy
      have hKi : (KK : Int) < (Z.length : Int) := by omega
      generalize Z.getD KK 0 = X at *
      generalize hY : X ^^^ y = Y at *
      have O3 := Bx.mk (O2.out.put KK Y)
      have B3 := Bx.mk (B2.out.setCell (p := ⟨g2, KK, none⟩) (Nat.le_trans B1.out.size (own_block O2.out g2 (by simp [Value.ownBlock]))) (.int .u8 (Y : Int)))
      have R3 := Bx.mk (O3.out.rb' (fun x hx => (List.mem_or_eq_of_mem_set hx).elim (HZB.out x) (fun h => by rw [h]; exact hXY)) (by rw [List.length_set]; omega))
      have HSL : Bx ((Z.set KK Y).length = Z.length) := ⟨List.length_set⟩
      clear hcell hfz O2 B2 hKK hX hXY hY
      go_wp2_with (go_at_call 22; fail)
      generalize w2.setCell ⟨g2, KK, none⟩ (.int .u8 (Y : Int)) = w4 at *
      have C := Open_no (some ⟨g2, 0, none⟩) (Z.set KK Y) c2 2000 w4 R3.out (by rw [HSL.out]; exact hc2) (by decide) (HG.out.below B3.out) F1.out
      rw [HSL.out] at C
      refine C.mono ?_
      rintro e w5 ⟨rfl, hb5⟩
      have B5 := Bx.mk (below_then B3.out B3.out.size hb5)
      clear C hb5
      go_wp2
      go_ret
      exact ⟨rfl, B5.out⟩
end Go.Proofs.YtoekecopfmohiaaDoor
