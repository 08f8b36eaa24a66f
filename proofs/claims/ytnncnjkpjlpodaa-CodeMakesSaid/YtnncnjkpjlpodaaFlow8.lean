import Derived.Test.YtnncnjkpjlpodaaFlow7
/-
  Align, Bytes of the reader; the writer's Bytes refused.
-/
namespace Go.Proofs.Ytnncnjkpjlpodaa
open Go.RowKit

theorem wBytes_no (g : Nat) (v x : Value) (a : Nat) (w : World) (h : Blk w g 61 #[v, .int .i64 (a : Int), .bool true]) (h8 : a % 8 ≠ 0) :
    Calls Try.prog 30 #[.pointer (some ⟨g, 0, none⟩), x] w fun e w' => e = .returned (.int .i64 2) ∧ w = w' := by
  have H := Bx.mk (wIs_calls g _ _ true w h)
  have W8 := Bx.mk (whole_calls g _ _ (.bool true) a w h)
  rw [decide_eq_false h8] at W8
  clear h h8
  go_enter Try.func30, Try.ntmps30
  go_wp2_with fail
  refine H.out.mono ?_
  rintro e w1 ⟨rfl, rfl⟩
  go_wp2_with fail
  refine W8.out.mono ?_
  rintro e w1 ⟨rfl, rfl⟩
  go_wp2
  go_ret
  exact ⟨rfl, rfl⟩
theorem rAlign_calls (g : Nat) (v : Value) (a : Nat) (w : World) (h : Blk w g 60 #[v, .int .i64 (a : Int), .bool true]) (ha : a ≤ 1125899906809856) :
    Calls Try.prog 36 #[.pointer (some ⟨g, 0, none⟩)] w fun e w' => e = .returned (.int .i64 0) ∧ Blk w' g 60 #[v, .int .i64 (((a + 7) / 8 * 8 : Nat) : Int), .bool true] ∧ Only g w w' := by
  have h1 : w.cell? ⟨g, 1, none⟩ = some (.int .i64 (a : Int)) := h.cell 1
  have f1 := h.frozen 1
  have H := Bx.mk (rIs_calls g _ _ true w h)
  have hand := i64_up8 a ha
  have HB := Bx.mk h
  generalize (a + 7) / 8 * 8 = q at hand ⊢
  clear h
  go_enter Try.func36, Try.ntmps36
  go_wp2_with fail
  refine H.out.mono ?_
  rintro e w1 ⟨rfl, rfl⟩
  go_wp2
  go_ret
  exact ⟨rfl, HB.out.set_ 1 (.int .i64 (q : Int)), Only.set g 1 _ w⟩

/-- what the reader's Bytes answers -/
def byE (len a : Nat) (n : Int) : Nat := if n < 0 ∨ a % 8 ≠ 0 then 2 else if (((8 * len - a) / 8 : Nat) : Int) < n then 7 else 0
theorem rBytes_no (g : Nat) (A : Option Addr) (len c a : Nat) (n : Int) (w : World) (h : Blk w g 60 #[.slice A len c, .int .i64 (a : Int), .bool true]) (hlen : len ≤ 140737488351232) (ha : a ≤ 8 * len) (hE : byE len a n ≠ 0) :
    Calls Try.prog 38 #[.pointer (some ⟨g, 0, none⟩), .int .i64 n] w fun e w' => e = .returned (.tuple #[.slice none 0 0, .int .i64 (byE len a n)]) ∧ ∃ k, w' = w.drewN k := by
  have H := Bx.mk (rIs_calls g _ _ true w h)
  have W8 := Bx.mk (whole_calls g _ _ (.bool true) a w h)
  have L := Bx.mk (rLeft_calls g A len c a w h hlen ha)
  by_cases h0 : n < 0
  · have E : Bx (byE len a n = 2) := ⟨if_pos (.inl h0)⟩
    rw [E.out]
    clear h hE
    go_enter Try.func38, Try.ntmps38
    go_wp2_with fail
    refine H.out.mono ?_
    rintro e w1 ⟨rfl, rfl⟩
    go_wp2
    go_ret2
    exact ⟨rfl, 0, rfl⟩
  · by_cases h8 : a % 8 = 0
    · rw [decide_eq_true h8] at W8
      have e : byE len a n = if (((8 * len - a) / 8 : Nat) : Int) < n then 7 else 0 := by unfold byE; rw [if_neg (by omega)]
      have hs : (((8 * len - a) / 8 : Nat) : Int) < n := by
        by_cases h2 : (((8 * len - a) / 8 : Nat) : Int) < n
        · exact h2
        · exfalso; apply hE; rw [e, if_neg h2]
      have E : Bx (byE len a n = 7) := ⟨by rw [e, if_pos hs]⟩
      rw [E.out]
      have hs2 : ((8 * len - a : Nat) : Int) / 8 < n := by omega
      have hDb : 8 * len - a ≤ 1125899906809856 := by omega
      generalize 8 * len - a = D at L hs2 hDb
      clear h hE e hs h8
      go_enter Try.func38, Try.ntmps38
      go_wp2_with fail
      refine H.out.mono ?_
      rintro e w1 ⟨rfl, rfl⟩
      go_wp2_with fail
      refine W8.out.mono ?_
      rintro e w1 ⟨rfl, rfl⟩
      go_wp2_with fail
      refine L.out.mono ?_
      rintro e w1 ⟨rfl, k, hw⟩
      have HW := Bx.mk hw
      clear hw
      go_wp2
      go_ret2
      exact ⟨rfl, k, HW.out⟩
    · have E : Bx (byE len a n = 2) := ⟨if_pos (.inr h8)⟩
      rw [E.out]
      rw [decide_eq_false h8] at W8
      clear h hE h8
      go_enter Try.func38, Try.ntmps38
      go_wp2_with fail
      refine H.out.mono ?_
      rintro e w1 ⟨rfl, rfl⟩
      go_wp2_with fail
      refine W8.out.mono ?_
      rintro e w1 ⟨rfl, rfl⟩
      go_wp2
      go_ret2
      exact ⟨rfl, 0, rfl⟩

set_option maxHeartbeats 1000000 in
theorem rBytes_yes (g : Nat) (A : Option Addr) (l : List Nat) (c p n : Nat) (w : World) (h : Blk w g 60 #[.slice A l.length c, .int .i64 ((8 * p : Nat) : Int), .bool true]) (hl : RB w A l) (hc : l.length ≤ c) (hpn : p + n ≤ l.length)
    (hfar : ∀ w', Only g w w' → RB w' A l) :
    Calls Try.prog 38 #[.pointer (some ⟨g, 0, none⟩), .int .i64 n] w fun e w' => ∃ v, e = .returned (.tuple #[v, .int .i64 0]) ∧
      OB w' w.heap.size v ((l.drop p).take n) ∧ Blk w' g 60 #[.slice A l.length c, .int .i64 ((8 * (p + n) : Nat) : Int), .bool true] ∧ WStep g (.slice none 0 0) w (.slice none 0 0) w' := by
  have hlen := hl.2.1
  have H := Bx.mk (rIs_calls g _ _ true w h)
  have W8 := Bx.mk (whole_calls g _ _ (.bool true) (8 * p) w h)
  rw [decide_eq_true (show 8 * p % 8 = 0 by omega)] at W8
  have L := Bx.mk (rLeft_calls g A l.length c (8 * p) w h hlen (by omega))
  have hD : 8 * l.length - 8 * p ≤ 1125899906809856 := by omega
  have hs : ¬ ((8 * l.length - 8 * p : Nat) : Int) / 8 < (n : Int) := by omega
  generalize 8 * l.length - 8 * p = D at L hD hs
  have HB := Bx.mk h
  have FAR := Bx.mk hfar
  have hp : 8 * p ≤ 1125899906809856 := by omega
  have hpd : ((8 * p : Nat) : Int) / 8 = (p : Int) := by omega
  have hpnb : p + n ≤ 140737488351232 := by omega
  have ct := cut_mid_bytes A l.length c p (p + n) (by omega) hpn hc
  rw [show ((p + n : Nat) : Int) = (p : Int) + (n : Int) by omega, show p + n - p = n by omega] at ct
  have RX : Bx (∀ W, RB W A l → RB W (if c = p then A else A.map (·.add p)) (l.drop p)) := ⟨fun W h => h.drop p c hc⟩
  generalize (if c = p then A else A.map (·.add p)) = X at ct RX
  generalize c - p = Y at ct
  have HCUT := Bx.mk hc
  clear h hl hfar hc
  go_enter Try.func38, Try.ntmps38
  go_wp2_with fail
  refine H.out.mono ?_
  rintro e w1 ⟨rfl, rfl⟩
  go_wp2_with fail
  refine W8.out.mono ?_
  rintro e w1 ⟨rfl, rfl⟩
  go_wp2_with fail
  refine L.out.mono ?_
  rintro e w1 ⟨rfl, k, hw⟩
  have HO : Bx (Only g w w1) := ⟨by rw [hw]; exact Only.drewN g w k⟩
  have hb1 : Blk w1 g 60 #[.slice A l.length c, .int .i64 ((8 * p : Nat) : Int), .bool true] := by rw [hw]; exact HB.out
  have h1 : w1.cell? ⟨g, 1, none⟩ = some (.int .i64 ((8 * p : Nat) : Int)) := hb1.cell 1
  have f1 := hb1.frozen 1
  have hb2 := hb1.set_ 1 (.int .i64 (8 * (p : Int) + 8 * (n : Int)))
  have h02 := hb2.cell 0
  have HB2 := Bx.mk hb2
  have HO2 := Bx.mk (HO.out.trans (Only.set g 1 (.int .i64 (8 * (p : Int) + 8 * (n : Int))) w1))
  have cl := Clone_calls X ((l.drop p).take n) Y _ ((RX.out _ (FAR.out _ HO2.out)).take n)
  rw [show ((l.drop p).take n).length = n by rw [List.length_take, List.length_drop]; omega] at cl
  have CL := Bx.mk cl
  clear hw hb1 hb2 cl
  go_wp2_with fail
  all_goals refine CL.out.mono ?_
  all_goals
    rintro e w3 ⟨v3, rfl, ho3, hb3⟩
    have HV := Bx.mk ho3
    have HW3 := Bx.mk hb3
    clear ho3 hb3
    go_wp2
    go_ret2
    refine ⟨v3, rfl, ?_, ?_, ?_⟩
    · have := HV.out; rw [HO2.out.size] at this; exact this
    · rw [show ((8 * (p + n) : Nat) : Int) = 8 * (p : Int) + 8 * (n : Int) by omega]
      exact HB2.out.below HW3.out HB2.out.lt
    · have hS := HO2.out
      exact (WStep.only hS).trans ⟨fun B h1 h2 => HW3.out.mono h2, HW3.out.size, fun q hq _ _ => HW3.out.block q hq, fun _ h => .inl h⟩
end Go.Proofs.Ytnncnjkpjlpodaa
