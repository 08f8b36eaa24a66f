import Derived.Test.YtnncnjkpjlpodaaCodePure
import Derived.Test.YtnncnjkpjlpodaaFlowLaws4
/-
  Codes: the lengths are looked at, cloned; the room.
-/
namespace Go.Proofs.Ytnncnjkpjlpodaa
open Go.RowKit

def oddB (x : Int) : Bool := decide (x < 0 ∨ 15 < x)
theorem odd_calls (x : Int) (w : World) : Calls Try.prog 65 #[.int .i64 x] w fun e w' => e = .returned (.bool (oddB x)) ∧ w = w' := by
  by_cases h1 : x < 0
  · have hv : oddB x = true := by unfold oddB; simp [h1]
    have HV := Bx.mk hv
    clear hv
    go_enter Try.func65, Try.ntmps65
    go_wp2
    go_ret
    exact ⟨ret_bool HV.out.symm, rfl⟩
  · have hv : oddB x = decide (15 < x) := by unfold oddB; simp [h1]
    have HV := Bx.mk hv
    clear hv
    go_enter Try.func65, Try.ntmps65
    go_wp2
    go_ret
    exact ⟨ret_bool HV.out.symm, rfl⟩
set_option maxHeartbeats 1000000 in
theorem IndexFunc_calls (A : Option Addr) (l : List Int) (c : Nat) (w : World) (hl : IR w A l) (hn : l.length ≤ 9223372036854775807) :
    Calls Try.prog 73 #[.slice A l.length c, .func (.func 65) #[] #[]] w fun e w' => (∃ i : Int, e = .returned (.int .i64 i) ∧ decide (0 ≤ i) = l.any oddB) ∧ w = w' := by
  have HL := Bx.mk hl
  clear hl
  go_enter Try.func73, Try.ntmps73
  go_wp2
  go_loop [5, 8] (fun _ i => ∃ k : Nat, k ≤ l.length ∧ i = .int .i64 (k : Nat) ∧ Bx ((l.take k).any oddB = false)) (fun _ i => l.length - (intOf i).toNat)
  case atStart => exact ⟨0, Nat.zero_le _, rfl, ⟨rfl⟩⟩
  case round =>
    obtain ⟨k, hk, rfl, HK⟩ := hrel
    by_cases hlt : k < l.length
    · obtain ⟨ad, rfl, hd⟩ := HL.out (by omega)
      have hg := hd k hlt
      have hs : (l.take (k + 1)).any oddB = oddB (l.getD k 0) := by
        rw [List.take_succ_eq_append_getElem hlt, List.any_append, HK.out, List.getD_eq_getElem?_getD, List.getElem?_eq_getElem hlt]
        simp
      have hm : oddB (l.getD k 0) = true → l.any oddB = true := fun h => by
        rw [← List.take_append_drop (k + 1) l, List.any_append, hs, h]; rfl
      have HS := Bx.mk hs
      have HM := Bx.mk hm
      clear hd hs hm
      generalize l.getD k 0 = x at hg HS HM
      have O := Bx.mk fun w => odd_calls x w
      generalize hb : oddB x = b at O HS HM
      clear hb
      go_wp2_with fail
      refine (O.out _).mono ?_
      rintro e w1 ⟨rfl, rfl⟩
      cases b
      · go_wp2
        go_round
        case rel => exact ⟨k + 1, by omega, by go_num, HS⟩
        case measure => simp [intOf]; omega
      · go_wp2
        go_ret
        exact ⟨⟨(k : Int), rfl, by rw [HM.out trivial]; simp⟩, rfl⟩
    · have hall : l.any oddB = false := by have := HK.out; rwa [List.take_of_length_le (by omega)] at this
      have HA := Bx.mk hall
      clear hall
      go_wp2
      go_ret
      exact ⟨⟨-1, rfl, by rw [HA.out]; rfl⟩, rfl⟩
theorem Contains_calls (A : Option Addr) (l : List Int) (c : Nat) (w : World) (hl : IR w A l) (hn : l.length ≤ 9223372036854775807) :
    Calls Try.prog 66 #[.slice A l.length c, .func (.func 65) #[] #[]] w fun e w' => e = .returned (.bool (l.any oddB)) ∧ w = w' := by
  have I := Bx.mk (IndexFunc_calls A l c w hl hn)
  generalize l.any oddB = b at I ⊢
  clear hl
  go_enter Try.func66, Try.ntmps66
  go_wp2_with fail
  refine I.out.mono ?_
  rintro e w1 ⟨⟨i, rfl, hi⟩, rfl⟩
  have HI := Bx.mk hi
  clear hi
  go_wp2
  go_ret
  exact ⟨ret_bool HI.out, rfl⟩
/-- what is used up of the room, of any ints -/
def krI : List Int → Nat
  | [] => 0
  | x :: r => (if 1 ≤ x ∧ x ≤ 15 then 2 ^ (15 - x.toNat) else 0) + krI r
theorem krI_app (l m : List Int) : krI (l ++ m) = krI l + krI m := by
  induction l with
  | nil => simp [krI]
  | cons x r ih => simp only [List.cons_append, krI, ih]; omega
theorem krI_zl (L : List Nat) : krI (zl L) = kr L := by
  induction L with
  | nil => rfl
  | cons x r ih =>
    simp only [zl, List.map_cons, krI, kr] at ih ⊢
    rw [ih, Int.toNat_natCast]
    by_cases h : 1 ≤ x ∧ x ≤ 15
    · rw [if_pos h, if_pos (by omega)]
    · rw [if_neg h, if_neg (by omega)]
theorem krI_le (l : List Int) : krI l ≤ 16384 * l.length := by
  induction l with
  | nil => simp [krI]
  | cons x r ih =>
    simp only [krI, List.length_cons]
    have : (if 1 ≤ x ∧ x ≤ 15 then 2 ^ (15 - x.toNat) else 0) ≤ 16384 := by
      split
      · exact Nat.le_trans (Nat.pow_le_pow_right (by decide) (show 15 - x.toNat ≤ 14 by omega)) (by decide)
      · omega
    omega
set_option maxHeartbeats 1000000 in
theorem Room_calls (A : Option Addr) (l : List Int) (c : Nat) (w : World) (hl : IR w A l) (hn : l.length * 8 ≤ 140737488351232) :
    Calls Try.prog 44 #[.slice A l.length c] w fun e w' => e = .returned (.int .i64 (32768 - (krI l : Int))) ∧ w = w' := by
  have HL := Bx.mk hl
  clear hl
  go_enter Try.func44, Try.ntmps44
  go_wp2
  go_loop [3, 5, 8] (fun s _ i => ∃ k : Nat, k ≤ l.length ∧ i = .int .i64 (k : Nat) ∧ s = .int .i64 (32768 - (krI (l.take k) : Int))) (fun _ _ i => l.length - (intOf i).toNat)
  case atStart => exact ⟨0, Nat.zero_le _, rfl, by simp [krI]⟩
  case round =>
    obtain ⟨k, hk, rfl, rfl⟩ := hrel
    have hkr := krI_le (l.take k)
    rw [List.length_take, Nat.min_eq_left hk] at hkr
    by_cases hlt : k < l.length
    · obtain ⟨ad, rfl, hd⟩ := HL.out (by omega)
      have hg := hd k hlt
      have hs : krI (l.take (k + 1)) = krI (l.take k) + (if 1 ≤ l.getD k 0 ∧ l.getD k 0 ≤ 15 then 2 ^ (15 - (l.getD k 0).toNat) else 0) := by
        rw [List.take_succ_eq_append_getElem hlt, krI_app, List.getD_eq_getElem?_getD, List.getElem?_eq_getElem hlt]
        simp [krI]
      have HS := Bx.mk hs
      clear hd hs
      generalize l.getD k 0 = x at hg HS
      generalize krI (l.take k) = K at HS hkr ⊢
      by_cases hx : 1 ≤ x ∧ x ≤ 15
      · obtain ⟨hx1, hx2⟩ := hx
        obtain ⟨q, hq⟩ : ∃ q : Nat, 15 - x = (q : Int) := ⟨(15 - x).toNat, by omega⟩
        have hq14 : q ≤ 14 := by omega
        have HS2 : Bx (krI (l.take (k + 1)) = K + 2 ^ q) := ⟨by rw [HS.out, if_pos ⟨hx1, hx2⟩, show 15 - x.toNat = q by omega]⟩
        have h24 := Nat.pow_le_pow_right (n := 2) (by decide) hq14
        have e0 : (2 : Int) ^ q = ((2 ^ q : Nat) : Int) := by rw [Int.natCast_pow]; rfl
        clear HS
        generalize 2 ^ q = M at HS2 h24 e0
        go_wp2
        go_round
        case rel => exact ⟨k + 1, by omega, by go_num, by rw [HS2.out]; first | (congr 1; done) | (congr 1; omega)⟩
        case measure => simp [intOf]; omega
      · have HS2 : Bx (krI (l.take (k + 1)) = K) := ⟨by rw [HS.out, if_neg hx]; rfl⟩
        clear HS
        by_cases h1 : x < 1
        · clear hx
          go_wp2
          go_round
          case rel => exact ⟨k + 1, by omega, by go_num, by rw [HS2.out]⟩
          case measure => simp [intOf]; omega
        · have h2 : 15 < x := by omega
          clear hx
          go_wp2
          go_round
          case rel => exact ⟨k + 1, by omega, by go_num, by rw [HS2.out]⟩
          case measure => simp [intOf]; omega
    · have hall : l.take k = l := List.take_of_length_le (by omega)
      rw [hall]
      rw [hall] at hkr
      clear hall
      generalize hK : krI l = K at hkr ⊢
      have HK := Bx.mk hK
      clear hK
      go_wp2
      go_ret
      exact ⟨ret_int (by rw [HK.out]), rfl⟩
end Go.Proofs.Ytnncnjkpjlpodaa
