import Derived.Test.YtcamakleahpinaaBitsLaws2
/-
  The law BitsFirst: its walk.
-/
namespace Go.Proofs.Ytcamakleahpinaa
open Go.RowKit

set_option maxHeartbeats 2000000 in
theorem BitsFirst_calls (A : Option Addr) (l : List Nat) (c : Nat) (fr n : Int) (w : World) (hl : RB w A l) (hfr : -9223372036854775808 ≤ fr ∧ fr ≤ 9223372036854775807) (hn : -9223372036854775808 ≤ n ∧ n ≤ 9223372036854775807) :
    Calls Try.prog 5 #[.slice A l.length c, .int .i64 fr, .int .i64 n] w fun e w' => e = .returned (.bool true) ∧ Below w.heap.size w w' := by
  have HL := Bx.mk hl
  have hlen := hl.2.1
  clear hl
  go_enter Try.func5, Try.ntmps5
  go_wp2_with fail
  refine (works_calls w).mono ?_
  rintro e w1 ⟨rfl, hb⟩
  have HL1 := Bx.mk (HL.out.below hb)
  have HB1 := Bx.mk hb
  clear hb
  have fc := First_calls A l c fr n w1 HL1.out hfr.2
  have sp := firstN_spec l (wiN l.length n - (max 0 fr).toNat) (max 0 fr).toNat
  obtain ⟨F, hF⟩ : ∃ F : Nat, (F : Int) = max 0 fr := ⟨(max 0 fr).toNat, by omega⟩
  have eF : (max 0 fr).toNat = F := by omega
  rw [eF] at fc sp
  have hFb : F ≤ 9223372036854775807 := by omega
  have hFf : fr ≤ F := by omega
  have hW : (wiN l.length n : Int) = max 0 (min n (8 * (l.length : Int))) := by unfold wiN; omega
  generalize wiN l.length n = W at fc sp hW
  have FC := Bx.mk fc
  have SP := Bx.mk sp
  have HF := Bx.mk hF
  have HW := Bx.mk hW
  clear fc sp hF eF hW
  go_wp2_with fail
  refine FC.out.mono ?_
  rintro e w2 ⟨rfl, q2, hw2⟩
  have hb2 : Below w1.heap.size w1 w2 := by rw [hw2]; exact below_drewN (Below.refl _ _) q2
  have HL2 := Bx.mk (HL1.out.below hb2)
  have HB2 := Bx.mk (below_then HB1.out HB1.out.size hb2)
  clear hw2 hb2 FC
  rcases SP.out with ⟨hk, hall⟩ | ⟨K, hk, h1, h2, h3, h4⟩
  · rw [hk]
    have HA : Bx (∀ j : Nat, F ≤ j → (j : Int) < n → (j : Int) < 8 * l.length → bitB l j = true) := ⟨fun j a b d => hall j a (by have := HW.out; omega)⟩
    clear hk hall SP
    by_cases hm : 8 * (l.length : Int) < n
    all_goals by_cases hneg : 0 < fr
    all_goals
      go_wp2
      go_loopw [11] (fun i wr => ∃ k : Nat, i = .int .i64 k ∧ Bx (F ≤ k) ∧ Bx (k ≤ 9223372036854775807) ∧ Bx (Below w.heap.size w wr) ∧ Bx (RB wr A l)) (fun i _ => 9223372036854775808 - (intOf i).toNat)
      case atStart => exact ⟨F, by congr 1; have := HF.out; omega, ⟨Nat.le_refl _⟩, ⟨hFb⟩, HB2, HL2⟩
      case round =>
        obtain ⟨k, rfl, HK, HKB, HBr, HLr⟩ := hrel
        have hkb := HKB.out
        by_cases hlt : (k : Int) < n ∧ (k : Int) < 8 * l.length
        · have hlt1 := hlt.1
          have hlt2 := hlt.2
          have HH := Has_yes A l c k wr HLr.out (by omega)
          rw [HA.out k HK.out hlt1 hlt2] at HH
          have HH := Bx.mk HH
          clear hlt
          go_wp2_with fail
          refine HH.out.mono ?_
          rintro e w1 ⟨rfl, q1, hw1⟩
          have hb3 := (by rw [hw1]; exact below_drewN HBr.out q1 : Below w.heap.size w w1)
          clear hw1
          go_wp2
          go_roundw
          case rel => exact ⟨k + 1, by go_num, ⟨by have := HK.out; omega⟩, ⟨by omega⟩, ⟨hb3⟩, ⟨HL.out.below hb3⟩⟩
          case measure => simp [intOf]; omega
        · have hlt1 : ¬ ((k : Int) < n) ∨ ¬ ((k : Int) < 8 * l.length) := by omega
          have hlt2 : (8 * (l.length : Int) < n ∧ ¬ ((k : Int) < 8 * l.length)) ∨ (¬ (8 * (l.length : Int) < n) ∧ ¬ ((k : Int) < n)) := by omega
          clear hlt hlt1
          rcases hlt2 with ⟨a1, a2⟩ | ⟨a1, a2⟩
          · first
              | exact absurd a1 hm
              | (go_wp2
                 all_goals go_ret
                 all_goals exact ⟨rfl, HBr.out⟩)
          · first
              | exact absurd hm a1
              | (go_wp2
                 all_goals go_ret
                 all_goals exact ⟨rfl, HBr.out⟩)
  · rw [hk]
    have HA : Bx (∀ j : Nat, F ≤ j → j < K → bitB l j = true) := ⟨h4⟩
    have k1 : (K : Int) < n := by have := HW.out; omega
    have k2 : (K : Int) < 8 * l.length := by have := HW.out; omega
    have k3 : fr ≤ (K : Int) := by omega
    have HH := Has_yes A l c K w2 HL2.out (by omega)
    rw [h3] at HH
    have HH := Bx.mk HH
    clear hk h1 h2 h3 h4 SP
    by_cases hm : 8 * (l.length : Int) < n
    all_goals by_cases hneg : 0 < fr
    all_goals
      go_wp2_with fail
      refine HH.out.mono ?_
      rintro e w3 ⟨rfl, q3, hw3⟩
      have hb3 := (by rw [hw3]; exact below_drewN HB2.out q3 : Below w.heap.size w w3)
      have HL3 := Bx.mk (HL.out.below hb3)
      have HB3 := Bx.mk hb3
      clear hw3 hb3
      go_wp2
      try go_quiet (fail)
      go_wp2
      go_loopw [11] (fun i wr => ∃ k : Nat, i = .int .i64 k ∧ Bx (F ≤ k) ∧ Bx (k ≤ 9223372036854775807) ∧ Bx (Below w.heap.size w wr) ∧ Bx (RB wr A l)) (fun i _ => 9223372036854775808 - (intOf i).toNat)
      case atStart => exact ⟨F, by congr 1; have := HF.out; omega, ⟨Nat.le_refl _⟩, ⟨hFb⟩, by first | exact HB3 | exact ⟨below_drewN HB3.out _⟩, by first | exact HL3 | exact ⟨HL3.out.below (below_drewN (Below.refl _ _) _)⟩⟩
      case round =>
        obtain ⟨k, rfl, HK, HKB, HBr, HLr⟩ := hrel
        have hkb := HKB.out
        by_cases hlt : (k : Int) < K
        · have HH := Has_yes A l c k wr HLr.out (by omega)
          rw [HA.out k HK.out (by omega)] at HH
          have HH := Bx.mk HH
          go_wp2_with fail
          refine HH.out.mono ?_
          rintro e w1 ⟨rfl, q1, hw1⟩
          have hb3 := (by rw [hw1]; exact below_drewN HBr.out q1 : Below w.heap.size w w1)
          clear hw1
          go_wp2
          go_roundw
          case rel => exact ⟨k + 1, by go_num, ⟨by have := HK.out; omega⟩, ⟨by omega⟩, ⟨hb3⟩, ⟨HL.out.below hb3⟩⟩
          case measure => simp [intOf]; omega
        · go_wp2
          go_ret
          exact ⟨rfl, HBr.out⟩
end Go.Proofs.Ytcamakleahpinaa
