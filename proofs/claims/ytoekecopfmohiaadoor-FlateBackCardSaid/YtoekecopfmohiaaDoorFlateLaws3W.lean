import Derived.Test.YtoekecopfmohiaaDoorFlateLaws2
import Derived.Test.YtoekecopfmohiaaDoorDef5
/-
  FlateBack: its walk.
-/
namespace Go.Proofs.YtoekecopfmohiaaDoor
open Go.RowKit

theorem inflN_less {l : List Nat} {m m' : Nat} {out : List Nat} {n : Nat} (h : inflN l m = .ok (out, n)) (hl : m' < out.length) (hm : m' ≤ m) : inflN l m' = .error 3 := by
  cases hc : inflN l m' with
  | ok u =>
    obtain ⟨o2, n2⟩ := u
    have h2 := inflN_more hc hm
    rw [h] at h2
    cases h2
    have := (inflN_bounds hc).1
    omega
  | error e =>
    by_cases he : e = 3
    · rw [he]
    · have h2 := inflN_more2 hc hm he
      rw [h] at h2; cases h2
theorem stoF_A : ∀ (k : Nat) (b : List Nat), fA (stoF k b) ≤ 48 * b.length + 40
  | 0, b => by simp [stoF, fA]
  | k + 1, b => by
    by_cases h : b.length ≤ 65535
    · rw [stoF_last k b h, stoB_A]; omega
    · have := stoF_A k (b.drop 65535)
      rw [List.length_drop] at this
      rw [stoF_more k b h, fA_app, stoB_A]; omega
/-- what each of the ways makes -/
structure Defl (L l : List Nat) : Prop where
  byte : ∀ x ∈ l, x < 256
  len : l.length ≤ 1600000
  back : ∀ (more : List Nat) (m : Nat), (∀ x ∈ more, x < 256) → L.length ≤ m → inflN (l ++ more) m = .ok (L, l.length)
theorem defl_store {L l : List Nat} (hL : ∀ x ∈ L, x < 256) (hl : L.length ≤ 262144) (h : Bts l (fN (stoF 262145 L)) (fA (stoF 262145 L))) : Defl L l where
  byte := h.byte
  len := by have := h.len; have := stoF_A 262145 L; omega
  back := fun more m hm hLm => inf_store L l more m hL hLm hl hm h
theorem defl_each {L l : List Nat} (hL : ∀ x ∈ L, x < 256) (hl : L.length ≤ 262144) (h : Bts l (fN (wholeF eachF L)) (fA (wholeF eachF L))) : Defl L l where
  byte := h.byte
  len := by
    have := h.len
    have := (runsF_A eachF (fun c n hc _ => ⟨(eachF_A c n (by omega)).1, Nat.le_of_eq (eachF_A c n (by omega)).2⟩) (L.length + 1) L hL).1
    unfold wholeF at *
    rw [blkF_A] at *
    omega
  back := fun more m hm hLm => inf_each L l more m hL hLm (by omega) h
theorem defl_runs {L l : List Nat} (hL : ∀ x ∈ L, x < 256) (hl : L.length ≤ 262144) (h : Bts l (fN (wholeF copF L)) (fA (wholeF copF L))) : Defl L l where
  byte := h.byte
  len := by
    have := h.len
    have := (runsF_A copF (fun c n hc hn => ⟨(copF_A c n (by omega) hn).1, (copF_A c n (by omega) hn).2.1⟩) (L.length + 1) L hL).1
    unfold wholeF at *
    rw [blkF_A] at *
    omega
  back := fun more m hm hLm => inf_runs L l more m hL hLm (by omega) h
set_option maxRecDepth 100000 in
set_option maxHeartbeats 8000000 in
theorem FlateBack_calls (A : Option Addr) (b : List Nat) (c : Nat) (Z : Option Addr) (z : List Nat) (d : Nat) (a : Int) (w : World) (hb : RB w A b) (hc : b.length ≤ c) (hz : RB w Z z) (_hd : z.length ≤ d) (hzl : z.length + 4198400 ≤ 140737492549632) (hg : Gf w) :
    Calls Tryd.prog 6 #[.slice A b.length c, .slice Z z.length d, .int .i64 a] w fun e w' => e = .returned (.bool true) ∧ Below w.heap.size w w' := by
  have HG := Bx.mk hg
  have HB := Bx.mk hb
  have HZ := Bx.mk hz
  have W1 := Bx.mk (fworks_calls w hg)
  clear hb hg hz
  go_enter Tryd.func6, Tryd.ntmps6
  go_wp2_with (go_at_call 12; fail)
  refine W1.out.mono ?_
  rintro e w1 ⟨rfl, hb1⟩
  have B1 := Bx.mk hb1
  clear hb1 W1
  have AM := Bx.mk (fun W => Among_calls a 3 W (by decide) (by decide))
  have hM : amg a 3 < 3 := amg_lt _ _ (by decide)
  generalize amg a 3 = M at *
  by_cases h3 : 262144 < b.length
  obtain ⟨L, hL⟩ : ∃ L, L = b.take 262144 := ⟨_, rfl⟩
  have hLl : L.length = 262144 := by rw [hL, List.length_take]; omega
  have k1 : ∀ W, (Instr.slice 22 (.slice A b.length c) none (some (.int .i64 262144)) none).run Tryd.prog W = .ok (.slice A L.length c) W := fun W => by
    rw [hLl]; exact cut_to_bytes A b.length c 262144 (by omega) hc W
  have HL : Bx (RB w1 A L) := ⟨by rw [hL]; exact (HB.out.below B1.out).take 262144⟩
  have HLc : Bx (L.length ≤ c) := ⟨by omega⟩
  have h3i : (262144 : Int) < (b.length : Int) := by omega
  have hLn : L.length ≤ 262144 := by omega
  clear hL hLl
  go_wp2_with (go_at_call 18; fail)
  rotate_left
  obtain ⟨L, rfl⟩ : ∃ L, L = b := ⟨_, rfl⟩
  have h3i : decide ((262144 : Int) < (L.length : Int)) = false := decide_eq_false (by omega)
  have HL : Bx (RB w1 A L) := ⟨HB.out.below B1.out⟩
  have HLc : Bx (L.length ≤ c) := ⟨hc⟩
  have hLn : L.length ≤ 262144 := by omega
  go_wp2_with (go_at_call 18; fail)
  all_goals
    clear h3i h3
    have SC := Bx.mk (Store_calls A L c w1 HL.out HLc.out hLn)
    have Z1 := Bx.mk (HZ.out.below B1.out)
    refine SC.out.mono ?_
    rintro e w2 ⟨l2, v2, hbt, rfl, ho2, hb2⟩
    have D2 := Bx.mk (defl_store HL.out.1 hLn hbt)
    obtain ⟨A2, c2, hv2, hc2⟩ := ho2.form'
    subst hv2
    have R2 := Bx.mk (ho2.rb hbt.byte (by have := D2.out.len; omega))
    have HC2 := Bx.mk hc2
    have B2 := Bx.mk (below_then B1.out B1.out.size hb2)
    have HL2 := Bx.mk (HL.out.below hb2)
    have Z2 := Bx.mk (Z1.out.below hb2)
    clear hbt ho2 hb2 SC hc2 Z1
    go_wp2_with (go_at_call 13; fail)
    refine (AM.out w2).mono ?_
    rintro e w3 ⟨rfl, rfl⟩
    rcases (show M = 0 ∨ M = 1 ∨ M = 2 by omega) with rfl | rfl | rfl
    obtain ⟨w4, rfl⟩ : ∃ w4, w4 = w2 := ⟨_, rfl⟩
    obtain ⟨l4, rfl⟩ : ∃ l4, l4 = l2 := ⟨_, rfl⟩
    obtain ⟨A4, rfl⟩ : ∃ A4, A4 = A2 := ⟨_, rfl⟩
    obtain ⟨c4, rfl⟩ : ∃ c4, c4 = c2 := ⟨_, rfl⟩
    have D4 := D2
    have R4 := R2
    have HC4 := HC2
    have B4 := B2
    have HL4 := HL2
    have Z4 := Z2
    clear D2 R2 HC2 B2 HL2 Z2
    go_wp2_with (go_at_call 15; fail)
    rotate_left
    have k7 : ((1 : Nat) : Int) = 1 := rfl
    have FC := Bx.mk (flFixed_calls A L c w2 HL2.out HLc.out (HG.out.below B2.out) (by omega))
    go_wp2_with (go_at_call 19; fail)
    refine FC.out.mono ?_
    rintro e w4 ⟨l4, v4, hbt, rfl, ho4, hb4⟩
    have D4 := Bx.mk (defl_each HL.out.1 hLn hbt)
    obtain ⟨A4, c4, hv4, hc4⟩ := ho4.form'
    subst hv4
    have R4 := Bx.mk (ho4.rb hbt.byte (by have := D4.out.len; omega))
    have HC4 := Bx.mk hc4
    have B4 := Bx.mk (below_then B2.out B2.out.size hb4)
    have HL4 := Bx.mk (HL2.out.below hb4)
    have Z4 := Bx.mk (Z2.out.below hb4)
    clear hbt ho4 hb4 FC k7 hc4 D2 R2 HC2 B2 HL2 Z2
    go_wp2_with (go_at_call 15; fail)
    rotate_left
    have k7 : ((2 : Nat) : Int) = 2 := rfl
    have FC := Bx.mk (flRuns_calls A L c w2 HL2.out HLc.out (HG.out.below B2.out) (by omega))
    go_wp2_with (go_at_call 17; fail)
    refine FC.out.mono ?_
    rintro e w4 ⟨l4, v4, hbt, rfl, ho4, hb4⟩
    have D4 := Bx.mk (defl_runs HL.out.1 hLn hbt)
    obtain ⟨A4, c4, hv4, hc4⟩ := ho4.form'
    subst hv4
    have R4 := Bx.mk (ho4.rb hbt.byte (by have := D4.out.len; omega))
    have HC4 := Bx.mk hc4
    have B4 := Bx.mk (below_then B2.out B2.out.size hb4)
    have HL4 := Bx.mk (HL2.out.below hb4)
    have Z4 := Bx.mk (Z2.out.below hb4)
    clear hbt ho4 hb4 FC k7 hc4 D2 R2 HC2 B2 HL2 Z2
    go_wp2_with (go_at_call 15; fail)
    all_goals
      have hl4 := D4.out.len
      refine (Bytes_calls A4 l4 c4 w4 R4.out).mono ?_
      rintro e w5 ⟨v5, rfl, ho5, hb5⟩
      have O5 := Bx.mk ho5
      have HB5 := Bx.mk hb5
      have Z5 := Bx.mk (Z4.out.below hb5)
      have hap : l4.length + z.length ≤ 140737492549632 := by omega
      have hz5 : w4.heap.size ≤ w5.heap.size := hb5.size
      clear ho5 hb5
      go_wp2_with (at_builtin; refine wpList_append_bytes w5 rfl _ _ rfl w4.heap.size v5 l4 z rfl O5.out Z d rfl Z5.out hap hz5 ?_; intro v6 w6 ho6 hg6 _; have O6 := Bx.mk ho6; have HB6 := Bx.mk (bapp_end O5.out HB5.out (Nat.le_refl _) hg6); clear ho6 hg6)
      have hinf := D4.out.back z L.length Z5.out.1 (Nat.le_refl _)
      have HBY : Bx (∀ y ∈ l4 ++ z, y < 256) := ⟨fun y hy => (List.mem_append.1 hy).elim (D4.out.byte y) (Z5.out.1 y)⟩
      have hYl : (l4 ++ z).length ≤ 140737492549632 := by rw [List.length_append]; exact hap
      generalize l4 ++ z = Y at *
      obtain ⟨A6, c6, hv6, hc6⟩ := O6.out.form'
      subst hv6
      have B6 := Bx.mk (below_then B4.out B4.out.size HB6.out)
      have IC := Bx.mk (Inflate_ok A6 Y c6 L.length w6 (O6.out.rb HBY.out hYl) hLn (HG.out.below B6.out) hc6 hinf)
      have HL6 := Bx.mk (HL4.out.below HB6.out)
      have R6 := Bx.mk (R4.out.below HB6.out)
      clear hinf hc6 O6 HB6 Z5 HB5 O5 B4 HL4 R4 Z4
      refine IC.out.mono ?_
      rintro e w7 ⟨v7, rfl, ho7, hb7, hbl7⟩
      obtain ⟨A7, c7, rfl⟩ := ho7.form
      have B7 := Bx.mk (below_then B6.out B6.out.size hbl7)
      have R7 := Bx.mk (R6.out.below hbl7)
      have SB := Bx.mk (SameBytes_calls A7 A L L c7 c w7 (ho7.rb hb7 (by omega)) (HL6.out.below hbl7))
      clear ho7 hb7 hbl7 IC B6 HL6 R6
      go_wp2_with (go_at_call 16; fail)
      refine SB.out.mono ?_
      rintro e w8 ⟨rfl, k8, rfl⟩
      have B8 := Bx.mk (below_drewN B7.out k8)
      have R8 := Bx.mk (R7.out.below (below_drewN (Below.refl _ _) k8))
      clear SB B7 R7
      generalize w7.drewN k8 = w8 at *
      by_cases h0 : 0 < L.length
      · have h0i : (0 : Int) < (L.length : Int) := by omega
        have hb0 := D4.out.back [] L.length (fun x hx => by cases hx) (Nat.le_refl _)
        rw [List.append_nil] at hb0
        have IN := Bx.mk (Inflate_no A4 l4 c4 (L.length - 1) w8 R8.out (by omega) (HG.out.below B8.out) HC4.out (inflN_less hb0 (by omega) (by omega)))
        have hsub : IntKind.i64.wrap ((L.length : Int) - 1) = ((L.length - 1 : Nat) : Int) := by rw [IntWalk.i64_in _ (by omega)]; omega
        clear hb0
        go_wp2_with (go_at_call 14; fail)
        refine IN.out.mono ?_
        rintro e w9 ⟨rfl, hbl9⟩
        have B9 := Bx.mk (below_then B8.out B8.out.size hbl9)
        clear hbl9 IN
        go_wp2
        go_ret
        exact ⟨rfl, B9.out⟩
      · have h0i : decide ((0 : Int) < (L.length : Int)) = false := decide_eq_false (by omega)
        go_wp2
        go_ret
        exact ⟨rfl, B8.out⟩
end Go.Proofs.YtoekecopfmohiaaDoor
