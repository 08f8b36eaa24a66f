import Derived.Test.YtcamakleahpinaaBits7
/-
  SameInts; the chapter's examples hold.
-/
namespace Go.Proofs.Ytcamakleahpinaa
open Go.RowKit

theorem take_eq_snocI (l m : List Int) (k : Nat) (h1 : k < l.length) (h2 : k < m.length) : (l.take (k + 1) = m.take (k + 1)) ↔ (l.take k = m.take k ∧ l.getD k 0 = m.getD k 0) := by
  have g : ∀ (l : List Int) (h : k < l.length), l.getD k 0 = l[k] := fun l h => by rw [List.getD_eq_getElem?_getD, List.getElem?_eq_getElem h]; rfl
  rw [List.take_succ_eq_append_getElem h1, List.take_succ_eq_append_getElem h2, g l h1, g m h2]
  constructor
  · intro h
    have := List.append_inj h (by simp; omega)
    exact ⟨this.1, by simpa using this.2⟩
  · rintro ⟨a, b⟩; rw [a, b]
theorem SameI_ne (A B : Option Addr) (l m : List Int) (c d : Nat) (w : World) (h : l.length ≠ m.length) :
    Calls Try.prog 25 #[.slice A l.length c, .slice B m.length d] w fun e w' => e = .returned (.bool false) ∧ ∃ k, w' = w.drewN k := by
  have hb : decide (l.length = m.length) = false := by simp [h]
  go_enter Try.func25, Try.ntmps25
  go_wp2
  go_ret
  exact ⟨rfl, 0, rfl⟩
set_option maxHeartbeats 1000000 in
theorem SameInts_calls (A B : Option Addr) (l m : List Int) (c d : Nat) (w : World) (hl : IR w A l) (hm : IR w B m) (hn1 : l.length ≤ 140737488351232) :
    Calls Try.prog 25 #[.slice A l.length c, .slice B m.length d] w fun e w' => e = .returned (.bool (decide (l = m))) ∧ ∃ k, w' = w.drewN k := by
  obtain ⟨R, hR⟩ : ∃ R : Bool, R = decide (l = m) := ⟨_, rfl⟩
  rw [← hR]
  have HR := Bx.mk hR; clear hR
  by_cases hne : l.length = m.length
  · have HL := Bx.mk hl
    have HMM := Bx.mk hm
    clear hl hm
    rw [← hne]
    have HNE := Bx.mk hne; clear hne
    go_enter Try.func25, Try.ntmps25
    go_wp2
    go_loopw [5] (fun i w' => ∃ k q : Nat, k ≤ l.length ∧ i = .int .i64 k ∧ Bx (l.take k = m.take k) ∧ w' = w.drewN q) (fun i _ => l.length - (intOf i).toNat)
    case atStart => exact ⟨0, 0, Nat.zero_le _, rfl, ⟨rfl⟩, rfl⟩
    case round =>
      obtain ⟨k, q, hk, rfl, HE, rfl⟩ := hrel
      by_cases hlt : k < l.length
      · have hlt2 : k < m.length := by have := HNE.out; omega
        obtain ⟨a1, rfl, hd1⟩ := HL.out (by omega)
        obtain ⟨a2, rfl, hd2⟩ := HMM.out (by omega)
        have hg1 := hd1 k hlt
        have hg2 := hd2 k hlt2
        have HS := Bx.mk (take_eq_snocI l m k hlt hlt2)
        clear hd1 hd2
        generalize l.getD k 0 = X at hg1 HS
        generalize m.getD k 0 = Y at hg2 HS
        by_cases hxy : X = Y
        · subst hxy
          have HSS : Bx (l.take k = m.take k → l.take (k + 1) = m.take (k + 1)) := ⟨fun h => HS.out.2 ⟨h, rfl⟩⟩
          clear HS
          go_wp2
          go_quiet (fail)
          go_wp2
          go_roundw
          case rel => exact ⟨k + 1, _, by omega, by go_num, ⟨HSS.out HE.out⟩, (by first | rfl | exact World.drewN_drewN ..)⟩
          case measure => simp [intOf]; omega
        · have hx1 : (X == Y) = false := by simp [hxy]
          have hv : decide (l = m) = false := by
            simp only [decide_eq_false_iff_not]
            intro h
            exact hxy (HS.out.1 (by rw [h])).2
          have HV := Bx.mk hv
          clear hxy hv HS
          go_wp2
          go_quiet (fail)
          go_wp2
          go_ret
          exact ⟨ret_bool (by rw [HR.out, HV.out]), _, (by first | rfl | exact World.drewN_drewN ..)⟩
      · have hv : decide (l = m) = true := by
          have h1 : l.take k = l := List.take_of_length_le (by omega)
          have h2 : m.take k = m := List.take_of_length_le (by have := HNE.out; omega)
          simp only [decide_eq_true_eq]
          rw [← h1, HE.out, h2]
        have HV := Bx.mk hv
        clear hv
        go_wp2
        go_ret
        exact ⟨ret_bool (by rw [HR.out, HV.out]), _, (by first | rfl | exact World.drewN_drewN ..)⟩
  · have : decide (l = m) = false := by simp; intro h; exact hne (by rw [h])
    rw [HR.out, this]
    exact SameI_ne A B l m c d w hne

theorem IR.lit (w : World) (t : TypeId) (l : List Int) (cs : Array Value) (h : cs.toList = is l) : IR (w.alloc (.cells cs t)) (some ⟨w.heap.size, 0, none⟩) l :=
  fun _ => ⟨_, rfl, fun j hj => by rw [add_plain, World.cell?_alloc_at _ _ _ _ rfl, ← Array.getElem?_toList, h, is_get l j hj]⟩

set_option maxHeartbeats 8000000 in
theorem works_calls (w : World) : Calls Try.prog 15 #[] w fun e w' => e = .returned (.bool true) ∧ Below w.heap.size w w' := by
  go_enter Try.func15, Try.ntmps15
  have c1 : Calls Try.prog 12 #[.slice (some ⟨w.heap.size, 0, none⟩) 3 3, .int .i64 1, .int .i64 2, .int .i64 258] (w.alloc (.cells #[.int .u8 0, .int .u8 0, .int .u8 0] 5)) _ :=
    Put_yes (some ⟨w.heap.size, 0, none⟩) [0, 0, 0] 3 1 2 258 _ (RB.lit _ _ [0, 0, 0] _ rfl (by decide) (by decide)) (by decide) (by decide) (by decide) (by decide)
  have C1 := Bx.mk c1
  clear c1
  go_wp2_with fail
  refine C1.out.mono ?_
  rintro e w1 ⟨v, rfl, ho, hb⟩
  rw [show putN [0, 0, 0] 1 2 258 = [0, 2, 1] by decide] at ho
  obtain ⟨A1, k1, rfl⟩ := ho.form
  have HO := Bx.mk (ho.rb (by decide) (by decide))
  have HB1 := Bx.mk (below_then (below_alloc1 w (.cells #[.int .u8 0, .int .u8 0, .int .u8 0] 5)) (by simp) hb)
  clear ho hb C1
  have c2 : Calls Try.prog 10 #[.slice (some ⟨w1.heap.size, 0, none⟩) 3 3, .int .i64 1, .int .i64 2] (w1.alloc (.cells #[.int .u8 0, .int .u8 2, .int .u8 1] 5)) _ :=
    Get_yes (some ⟨w1.heap.size, 0, none⟩) [0, 2, 1] 3 1 2 _ (RB.lit _ _ [0, 2, 1] _ rfl (by decide) (by decide)) (by decide) (by decide) (by decide)
  have C2 := Bx.mk c2
  clear c2
  go_wp2_with fail
  refine C2.out.mono ?_
  rintro e w2 ⟨rfl, rfl⟩
  rw [show numAt [0, 2, 1] 1 2 = 258 by decide]
  have HB2 := Bx.mk (below_then HB1.out HB1.out.size (below_alloc1 w1 (.cells #[.int .u8 0, .int .u8 2, .int .u8 1] 5)))
  have HO2 := Bx.mk (HO.out.below (below_alloc1 w1 (.cells #[.int .u8 0, .int .u8 2, .int .u8 1] 5)))
  have hs2 : w1.heap.size < (w1.alloc (.cells #[.int .u8 0, .int .u8 2, .int .u8 1] 5)).heap.size := by simp
  generalize w1.alloc (.cells #[.int .u8 0, .int .u8 2, .int .u8 1] 5) = w2 at HB2 HO2 hs2 ⊢
  have c3 : Calls Try.prog 14 #[.slice A1 3 k1, .slice (some ⟨w2.heap.size, 0, none⟩) 3 3] (w2.alloc (.cells #[.int .u8 0, .int .u8 2, .int .u8 1] 5)) _ :=
    SameBytes_calls A1 (some ⟨w2.heap.size, 0, none⟩) [0, 2, 1] [0, 2, 1] k1 3 _ (HO2.out.below (below_alloc1 _ _)) (RB.lit _ _ [0, 2, 1] _ rfl (by decide) (by decide))
  rw [show decide (([0, 2, 1] : List Nat) = [0, 2, 1]) = true by decide] at c3
  have C3 := Bx.mk c3
  clear c3 C2 HO HB1 hs2
  go_wp2_with fail
  refine C3.out.mono ?_
  rintro e w3 ⟨rfl, k, hw3⟩
  have HB3 : Bx (Below w.heap.size w w3) := ⟨by rw [hw3]; exact below_drewN (below_then HB2.out HB2.out.size (below_alloc1 _ _)) k⟩
  clear hw3 C3
  have c4 : Calls Try.prog 16 #[.slice (some ⟨w3.heap.size, 0, none⟩) 2 2, .int .i64 0, .int .i64 16] (w3.alloc (.cells #[.int .u8 255, .int .u8 1] 5)) _ :=
    First_calls (some ⟨w3.heap.size, 0, none⟩) [255, 1] 2 0 16 _ (RB.lit _ _ [255, 1] _ rfl (by decide) (by decide)) (by decide)
  rw [show firstN [255, 1] (wiN ([255, 1] : List Nat).length 16 - (max 0 (0 : Int)).toNat) (max 0 (0 : Int)).toNat = 9 by decide] at c4
  have C4 := Bx.mk c4
  clear c4
  go_wp2_with fail
  refine C4.out.mono ?_
  rintro e w4 ⟨rfl, k4, hw4⟩
  have HB4 : Bx (Below w.heap.size w w4) := ⟨by rw [hw4]; exact below_drewN (below_then HB3.out HB3.out.size (below_alloc1 _ _)) k4⟩
  clear hw4 C4
  have c5 : Calls Try.prog 18 #[.slice (some ⟨w4.heap.size, 0, none⟩) 1 1, .int .i64 8] (w4.alloc (.cells #[.int .u8 12] 5)) _ :=
    Runs_calls (some ⟨w4.heap.size, 0, none⟩) [12] 1 8 _ (RB.lit _ _ [12] _ rfl (by decide) (by decide)) (by decide)
  rw [show runsN [12] (wiN ([12] : List Nat).length 8) = [2, 2, 4] by decide] at c5
  have C5 := Bx.mk c5
  clear c5
  go_wp2_with fail
  refine C5.out.mono ?_
  rintro e w5 ⟨v5, rfl, ho5, hb5⟩
  have HB5 := Bx.mk (below_then (below_then HB4.out HB4.out.size (below_alloc1 w4 (.cells #[.int .u8 12] 5))) (Nat.le_trans HB4.out.size (by simp)) hb5)
  obtain ⟨A5, k5, rfl⟩ := ho5.form
  have HI5 := Bx.mk ho5.ir
  clear hb5 ho5 C5
  have c6 : Calls Try.prog 25 #[.slice A5 3 k5, .slice (some ⟨w5.heap.size, 0, none⟩) 3 3] (w5.alloc (.cells #[.int .i64 2, .int .i64 2, .int .i64 4] 3)) _ :=
    SameInts_calls A5 (some ⟨w5.heap.size, 0, none⟩) [2, 2, 4] [2, 2, 4] k5 3 _ (HI5.out.below (below_alloc1 _ _)) (IR.lit _ _ [2, 2, 4] _ rfl) (by decide)
  rw [show decide (([2, 2, 4] : List Int) = [2, 2, 4]) = true by decide] at c6
  have C6 := Bx.mk c6
  clear c6
  go_wp2_with fail
  refine C6.out.mono ?_
  rintro e w6 ⟨rfl, k6, hw6⟩
  have HB6 : Bx (Below w.heap.size w w6) := ⟨by rw [hw6]; exact below_drewN (below_then HB5.out HB5.out.size (below_alloc1 _ _)) k6⟩
  clear hw6 C6
  go_wp2
  go_ret
  exact ⟨rfl, HB6.out⟩
end Go.Proofs.Ytcamakleahpinaa
