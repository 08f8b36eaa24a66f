import Derived.Test.YtcamakleahpinaaBitsPure
import Derived.Deep.RegionWith
/-
  The laws BitsBack, BitsFirst: their walks.
-/
namespace Go.Proofs.Ytcamakleahpinaa
open Go.RowKit

set_option maxHeartbeats 1500000 in
theorem BitsBack_calls (A : Option Addr) (l : List Nat) (c : Nat) (a s n : Int) (w : World) (hl : RB w A l) (hc : l.length ≤ c) (hn : -9223372036854775808 ≤ n ∧ n ≤ 9223372036854775807) :
    Calls Try.prog 4 #[.slice A l.length c, .int .i64 a, .int .i64 s, .int .i64 n] w fun e w' => e = .returned (.bool true) ∧ Below w.heap.size w w' := by
  have HL := Bx.mk hl
  have hlen := hl.2.1
  have HC := Bx.mk hc
  clear hl hc
  by_cases hok : Fits l.length a s ∧ 0 ≤ n ∧ n < 256 ^ s.toNat
  · obtain ⟨hf, h0, h1⟩ := hok
    obtain ⟨p, q, rfl, rfl, hq1, hq2, hpq⟩ := hf.nat
    obtain ⟨m, rfl⟩ := Int.eq_ofNat_of_zero_le h0
    have hm : m < 256 ^ q := by
      have e : ((q : Int)).toNat = q := by omega
      rw [e] at h1
      have e2 : ((256 : Int) ^ q) = ((256 ^ q : Nat) : Int) := by rw [Int.natCast_pow]; rfl
      rw [e2] at h1
      omega
    clear hf h0 h1 hn
    have hnum : numAt (putN l p q m) p q = m := by rw [numAt_putN l p m q hpq q (Nat.le_refl _), Nat.mod_eq_of_lt hm]
    have hmI : m ≤ 9223372036854775807 := Nat.le_trans (Nat.le_of_lt hm) (Nat.le_trans (Nat.pow_le_pow_right (by decide) hq2) (by decide))
    have htk := putN_take l p q m hpq
    have hdr := putN_drop l p q m hpq
    have HM := Bx.mk hm
    clear hm
    go_enter Try.func4, Try.ntmps4
    go_wp2_with fail
    refine (works_calls w).mono ?_
    rintro e w1 ⟨rfl, hb⟩
    have HL1 := Bx.mk (HL.out.below hb)
    have HB1 := Bx.mk hb
    clear hb
    go_wp2_with fail
    refine (Put_yes A l c p q m w1 HL1.out hq1 hq2 hpq HM.out).mono ?_
    rintro e w2 ⟨v, rfl, ho, hb⟩
    have hzb := putN_lt l p q m HL.out.1
    have hzl := putN_length l p q m
    have HZC : ∃ c2, v = .slice (match v with | .slice A _ _ => A | _ => none) l.length c2 ∧ l.length ≤ c2 := by
      rcases ho.2 with ⟨rfl, h0⟩ | ⟨g, cap, cur, rfl, _, _, h1, _⟩
      · rw [hzl] at h0; omega
      · rw [hzl] at h1; exact ⟨cap, by rw [hzl], h1⟩
    obtain ⟨c2, hv, hc2⟩ := HZC
    generalize hA2 : (match v with | .slice A _ _ => A | _ => none) = A2 at hv
    clear hA2
    subst hv
    have HZ := Bx.mk (ho.rb' hzb (by rw [hzl]; exact hlen))
    have HL2 := Bx.mk (HL1.out.below hb)
    have HB2 := Bx.mk (below_then HB1.out HB1.out.size hb)
    have g1 := Get_yes A2 (putN l p q m) c2 p q w2 HZ.out hq1 hq2 (by rw [hzl]; exact hpq)
    rw [hzl, hnum] at g1
    have G1 := Bx.mk g1
    clear g1 ho hb hzb
    go_wp2_with fail
    refine G1.out.mono ?_
    rintro e w3 ⟨rfl, rfl⟩
    have t1 := cut_to_bytes A2 l.length c2 p (by omega) hc2
    have t2 := cut_to_bytes A l.length c p (by omega) HC.out
    have HD1 := Bx.mk (HZ.out.drop (p + q) c2 (by rw [hzl]; exact hc2))
    have HD2 := Bx.mk (HL2.out.drop (p + q) c HC.out)
    have s1 := fun W (h : Below w2.heap.size w2 W) => SameBytes_calls A2 A ((putN l p q m).take p) (l.take p) c2 c W ((HZ.out.take p).below h) ((HL2.out.take p).below h)
    have s2 := fun W (h : Below w2.heap.size w2 W) => SameBytes_calls _ _ ((putN l p q m).drop (p + q)) (l.drop (p + q)) (c2 - (p + q)) (c - (p + q)) W (HD1.out.below h) (HD2.out.below h)
    rw [htk, decide_eq_true (rfl : l.take p = l.take p), List.length_take, Nat.min_eq_left (by omega)] at s1
    rw [hdr, decide_eq_true (rfl : l.drop (p + q) = l.drop (p + q)), List.length_drop] at s2
    have S1 := Bx.mk fun n => Calls.quiet_of (s1 (w2.drewN n) (below_drewN (Below.refl _ _) n))
    have S2 := Bx.mk fun n => Calls.quiet_of (s2 (w2.drewN n) (below_drewN (Below.refl _ _) n))
    clear s1 s2 hnum htk hdr
    go_wp2
    go_quiet ((go_at_call 14; with_reducible first | exact S1.out _ | exact S2.out _))
    go_wp2
    all_goals go_ret
    all_goals exact ⟨rfl, below_drewN HB2.out _⟩
  · have HN := Bx.mk hok
    have hno : ∀ w1, RB w1 A l → Calls Try.prog 12 #[.slice A l.length c, .int .i64 a, .int .i64 s, .int .i64 n] w1 fun e w' => e = .returned (.tuple #[.slice none 0 0, .int .i64 2]) ∧ w1 = w' := fun w1 h1 => by
      by_cases hf : Fits l.length a s
      · by_cases h0 : n < 0
        · exact Put_neg A l c a s n w1 hlen hf h0
        · obtain ⟨p, q, rfl, rfl, hq1, hq2, hpq⟩ := hf.nat
          obtain ⟨m, rfl⟩ := Int.eq_ofNat_of_zero_le (show 0 ≤ n by omega)
          refine Put_big A l c p q m w1 hlen hq1 hq2 hpq ?_ (by omega)
          rcases Nat.lt_or_ge m (256 ^ q) with h | h
          · exfalso
            refine HN.out ⟨hf, by omega, ?_⟩
            have e : ((q : Int)).toNat = q := by omega
            rw [e]
            have e2 : ((256 : Int) ^ q) = ((256 ^ q : Nat) : Int) := by rw [Int.natCast_pow]; rfl
            rw [e2]
            omega
          · exact h
      · exact Put_nofit A l c a s n w1 hf
    have HNO := Bx.mk hno
    clear hno hok HN
    go_enter Try.func4, Try.ntmps4
    go_wp2_with fail
    refine (works_calls w).mono ?_
    rintro e w1 ⟨rfl, hb⟩
    have HL1 := Bx.mk (HL.out.below hb)
    have HB1 := Bx.mk hb
    clear hb
    go_wp2_with fail
    refine (HNO.out w1 HL1.out).mono ?_
    rintro e w2 ⟨rfl, rfl⟩
    go_wp2
    go_ret
    exact ⟨rfl, HB1.out⟩

/-- what First finds -/
theorem firstN_spec (l : List Nat) : ∀ (d i : Nat), (firstN l d i = -1 ∧ ∀ j, i ≤ j → j < i + d → bitB l j = true) ∨ (∃ k : Nat, firstN l d i = k ∧ i ≤ k ∧ k < i + d ∧ bitB l k = false ∧ ∀ j, i ≤ j → j < k → bitB l j = true)
  | 0, i => .inl ⟨rfl, fun j h1 h2 => by omega⟩
  | d + 1, i => by
    simp only [firstN]
    cases hb : bitB l i with
    | false => exact .inr ⟨i, by simp, Nat.le_refl _, by omega, hb, fun j h1 h2 => by omega⟩
    | true =>
      rcases firstN_spec l d (i + 1) with ⟨h1, h2⟩ | ⟨k, h1, h2, h3, h4, h5⟩
      · refine .inl ⟨by simpa using h1, fun j h3 h4 => ?_⟩
        rcases Nat.eq_or_lt_of_le h3 with rfl | h6
        · exact hb
        · exact h2 j (by omega) (by omega)
      · refine .inr ⟨k, by simpa using h1, by omega, by omega, h4, fun j h6 h7 => ?_⟩
        rcases Nat.eq_or_lt_of_le h6 with rfl | h8
        · exact hb
        · exact h5 j (by omega) h7
end Go.Proofs.Ytcamakleahpinaa
