import Derived.Test.YtoekecopfmohiaaDoorDef3
/-
  The fixed code: where a run ends.
-/
namespace Go.Proofs.YtoekecopfmohiaaDoor
open Go.RowKit

set_option maxHeartbeats 1000000 in
theorem other_calls (q : Nat) (A : Option Addr) (l : List Nat) (c y : Nat) (w : World) (hq : Blk w q 22 #[.slice A l.length c]) (hl : RB w A l) (h0 : 0 < l.length) (_hy : y < 256) :
    Calls Tryd.prog 63 #[.int .u8 (y : Int), .pointer (some ⟨q, 0, none⟩)] w fun e w' => e = .returned (.bool (decide (y ≠ l.getD 0 0))) ∧ w = w' := by
  have c1 : w.cell? ⟨q, 0, none⟩ = some (.slice A l.length c) := hq.cell 0
  obtain ⟨ad, rfl, hc⟩ := hl.2.2 h0
  have c2 : w.cell? ad = some (.int .u8 ((l.getD 0 0 : Nat) : Int)) := by
    have := hc 0 h0
    rwa [show ad.add 0 = ad from by simp [Addr.add]] at this
  have h0a : ad.add 0 = ad := by simp [Addr.add]
  have hli : (0 : Int) < (l.length : Int) := by omega
  obtain ⟨R, hR⟩ : ∃ R : Bool, R = decide (y ≠ l.getD 0 0) := ⟨_, rfl⟩
  have hcmp : ((y : Int) != ((l.getD 0 0 : Nat) : Int)) = R := by
    rw [hR]
    by_cases hh : y = l.getD 0 0
    · rw [decide_eq_false (by omega), hh]; simp
    · rw [decide_eq_true hh, bne_iff_ne]; omega
  rw [← hR]
  clear hq hl hc hR
  generalize l.getD 0 0 = x0 at *
  go_enter Tryd.func63, Tryd.ntmps63
  go_wp2
  go_ret
  exact ⟨rfl, rfl⟩
set_option maxHeartbeats 2000000 in
theorem IndexB_calls (q : Nat) (A : Option Addr) (l : List Nat) (c : Nat) (w : World) (hq : Blk w q 22 #[.slice A l.length c]) (hl : RB w A l) (h0 : 0 < l.length) :
    Calls Tryd.prog 62 #[.slice A l.length c, .func (.func 63) #[] #[.pointer (some ⟨q, 0, none⟩)]] w fun e w' =>
      e = .returned (.int .i64 (if runN l < l.length then ((runN l : Nat) : Int) else -1)) ∧ w = w' := by
  have OC := Bx.mk (fun y hy => other_calls q A l c y w hq hl h0 hy)
  have HL := Bx.mk hl
  have hlen := hl.2.1
  have RA := Bx.mk (runN_all l)
  have RS := Bx.mk (runN_stop l)
  have hRL := runN_le l
  have hRP := runN_pos h0
  obtain ⟨V, hV⟩ : ∃ V : Int, V = if runN l < l.length then ((runN l : Nat) : Int) else -1 := ⟨_, rfl⟩
  rw [← hV]
  have HV := Bx.mk hV
  clear hq hl hV
  generalize runN l = RN at *
  go_enter Tryd.func62, Tryd.ntmps62
  go_wp2
  go_loop [5, 8] (fun _ i => ∃ k : Nat, k ≤ RN ∧ i = .int .i64 (k : Nat)) (fun _ i => RN - (intOf i).toNat)
  case atStart => exact ⟨0, Nat.zero_le _, rfl⟩
  case round =>
    obtain ⟨k, hk, rfl⟩ := hrel
    by_cases hlt : k < l.length
    · obtain ⟨ad, rfl, hc⟩ := HL.out.2.2 h0
      have hg := hc k hlt
      have hxb := mem_getD hlt HL.out.1
      have OK := Bx.mk (OC.out (l.getD k 0) hxb)
      have hki : (k : Int) < (l.length : Int) := by omega
      clear hc
      by_cases hs : k < RN
      · have he : l.getD k 0 = l.getD 0 0 := RA.out k hs
        have hd : decide (l.getD k 0 ≠ l.getD 0 0) = false := decide_eq_false (by omega)
        rw [hd] at OK
        clear hd he
        generalize l.getD k 0 = y at *
        go_wp2_with (go_at_call 63; fail)
        refine OK.out.mono ?_
        rintro e w1 ⟨rfl, rfl⟩
        go_wp2
        go_round
        case rel => exact ⟨k + 1, by omega, by go_num⟩
        case measure => simp [intOf]; omega
      · obtain rfl : k = RN := by omega
        have hd : decide (l.getD k 0 ≠ l.getD 0 0) = true := decide_eq_true (RS.out hlt)
        rw [hd] at OK
        have HV2 : Bx (V = (k : Int)) := ⟨by rw [HV.out, if_pos hlt]⟩
        clear hd
        generalize l.getD k 0 = y at *
        go_wp2_with (go_at_call 63; fail)
        refine OK.out.mono ?_
        rintro e w1 ⟨rfl, rfl⟩
        go_wp2
        go_ret
        exact ⟨ret_int HV2.out.symm, rfl⟩
    · have HV2 : Bx (V = -1) := ⟨by rw [HV.out, if_neg (by omega)]⟩
      go_wp2
      go_ret
      exact ⟨ret_int HV2.out.symm, rfl⟩
end Go.Proofs.YtoekecopfmohiaaDoor
