import Derived.Test.YtnncnjkpjlpodaaFlowRef4
/-
  The reference: Number.
-/
namespace Go.Proofs.Ytnncnjkpjlpodaa
open Go.RowKit

theorem bN_drop_step (l : List Nat) (p : Nat) (h : p < l.length) : bN (l.drop p) = l.getD p 0 + 2 * bN (l.drop (p + 1)) := by
  rw [List.drop_eq_getElem_cons h]
  simp only [bN]
  rw [List.getD_eq_getElem?_getD, List.getElem?_eq_getElem h]; rfl
set_option maxHeartbeats 1000000 in
theorem Number_calls (A : Option Addr) (l : List Nat) (c : Nat) (w : World) (hl : IR w A (zl l)) (hb : Bit l) (hs : l.length ≤ 24) :
    Calls Try.prog 64 #[.slice A l.length c] w fun e w' => e = .returned (.int .i64 ((bN l : Nat) : Int)) ∧ w = w' := by
  have HI := Bx.mk hl
  have HBit := Bx.mk hb
  clear hl hb
  go_enter Try.func64, Try.ntmps64
  go_wp2
  go_loop [3, 4] (fun n i => ∃ j : Nat, j ≤ l.length ∧ i = .int .i64 ((l.length : Int) - 1 - (j : Int)) ∧ n = .int .i64 ((bN (l.drop (l.length - j)) : Nat) : Int)) (fun _ i => (intOf i + 1).toNat)
  case atStart => exact ⟨0, Nat.zero_le _, by first | rfl | (congr 1; omega), by simp [bN]⟩
  case round =>
    obtain ⟨j, hj, rfl, rfl⟩ := hrel
    by_cases hlt : j < l.length
    · obtain ⟨p, hp⟩ : ∃ p : Nat, p = l.length - 1 - j := ⟨_, rfl⟩
      have hpi : (l.length : Int) - 1 - (j : Int) = (p : Int) := by omega
      have hpk : p < l.length := by omega
      obtain ⟨ad, rfl, hd⟩ := HI.out (by rw [zl_length]; omega)
      have hg := hd p (by rw [zl_length]; exact hpk)
      rw [zl_get] at hg
      have hst := bN_drop_step l p hpk
      rw [show p + 1 = l.length - j by omega, show p = l.length - (j + 1) by omega] at hst
      rw [← show p = l.length - (j + 1) by omega] at hst
      have hX : l.getD p 0 ≤ 1 := by
        rw [List.getD_eq_getElem?_getD, List.getElem?_eq_getElem hpk]; exact HBit.out _ (List.getElem_mem hpk)
      have hlt2 := bN_lt (l.drop (l.length - j)) (fun x hx => HBit.out x (List.mem_of_mem_drop hx))
      rw [List.length_drop, show l.length - (l.length - j) = j by omega] at hlt2
      have h24 := two24 (show j ≤ 24 by omega)
      have HS : Bx (bN (l.drop (l.length - (j + 1))) = l.getD p 0 + 2 * bN (l.drop (l.length - j))) := ⟨by rw [← hst]; congr 2; omega⟩
      have HPI := Bx.mk hpi
      rw [hpi]
      clear hd hst hpi hp
      generalize l.getD p 0 = X at hg hX HS
      generalize bN (l.drop (l.length - j)) = V at HS hlt2 ⊢
      have hV : V ≤ 16777216 := by omega
      clear hlt2 h24
      go_wp2
      go_round
      case rel => exact ⟨j + 1, by omega, by have := HPI.out; first | (congr 1; done) | (congr 1; omega), by rw [HS.out]; first | (congr 1; done) | (congr 1; omega)⟩
      case measure => have := HPI.out; first | (simp [intOf]; done) | (simp [intOf]; omega)
    · have hje : j = l.length := by omega
      have hm1 : (l.length : Int) - 1 - (j : Int) = -1 := by omega
      have hv : bN (l.drop (l.length - j)) = bN l := by rw [hje, Nat.sub_self]; rfl
      rw [hm1, hv]
      clear hm1 hv hje
      generalize hVV : bN l = V
      have HVV := Bx.mk hVV
      clear hVV
      go_wp2
      go_ret
      exact ⟨ret_int (by rw [HVV.out]), rfl⟩
end Go.Proofs.Ytnncnjkpjlpodaa
