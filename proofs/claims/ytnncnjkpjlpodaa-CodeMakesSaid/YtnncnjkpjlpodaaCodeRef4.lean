import Derived.Test.YtnncnjkpjlpodaaCodeRef3
/-
  Slices of ints held against one another.
-/
namespace Go.Proofs.Ytnncnjkpjlpodaa
open Go.RowKit

theorem take_eq_snocI (l m : List Int) (k : Nat) (h1 : k < l.length) (h2 : k < m.length) : (l.take (k + 1) = m.take (k + 1)) ↔ (l.take k = m.take k ∧ l.getD k 0 = m.getD k 0) := by
  rw [List.take_succ_eq_append_getElem h1, List.take_succ_eq_append_getElem h2, List.getD_eq_getElem?_getD, List.getElem?_eq_getElem h1, List.getD_eq_getElem?_getD, List.getElem?_eq_getElem h2]
  simp only [Option.getD_some]
  constructor
  · intro h
    have := List.append_inj h (by simp; omega)
    exact ⟨this.1, by simpa using this.2⟩
  · rintro ⟨a, b⟩; rw [a, b]
theorem same_ne (A B : Option Addr) (l m : List Int) (c d : Nat) (w : World) (h : l.length ≠ m.length) :
    Calls Try.prog 71 #[.slice A l.length c, .slice B m.length d] w fun e w' => e = .returned (.bool false) ∧ ∃ k, w' = w.drewN k := by
  have hb : decide (l.length = m.length) = false := by simp [h]
  go_enter Try.func71, Try.ntmps71
  go_wp2
  go_ret
  exact ⟨rfl, 0, rfl⟩
set_option maxHeartbeats 1000000 in
theorem same_calls (A B : Option Addr) (l m : List Int) (c d : Nat) (w : World) (hl : IR w A l) (hm : IR w B m) (hl1 : l.length ≤ 140737488351232) :
    Calls Try.prog 71 #[.slice A l.length c, .slice B m.length d] w fun e w' => e = .returned (.bool (decide (l = m))) ∧ ∃ k, w' = w.drewN k := by
  obtain ⟨R, hR⟩ : ∃ R : Bool, R = decide (l = m) := ⟨_, rfl⟩
  rw [← hR]
  have HR := Bx.mk hR; clear hR
  by_cases hne : l.length = m.length
  · have HLc := Bx.mk hl
    have HMc := Bx.mk hm
    rw [← hne]
    have HNE := Bx.mk hne; clear hne hl hm
    go_enter Try.func71, Try.ntmps71
    go_wp2
    go_loopw [5] (fun i w' => ∃ k q : Nat, k ≤ l.length ∧ i = .int .i64 k ∧ Bx (l.take k = m.take k) ∧ w' = w.drewN q) (fun i _ => l.length - (intOf i).toNat)
    case atStart => exact ⟨0, 0, Nat.zero_le _, rfl, ⟨rfl⟩, rfl⟩
    case round =>
      obtain ⟨k, q, hk, rfl, HE, rfl⟩ := hrel
      by_cases hlt : k < l.length
      · have hlt2 : k < m.length := by have := HNE.out; omega
        obtain ⟨a1, rfl, hd1⟩ := HLc.out (by omega)
        obtain ⟨a2, rfl, hd2⟩ := HMc.out (by omega)
        have hg1 := hd1 k hlt
        have hg2 := hd2 k hlt2
        have HS : Bx ((l.take (k + 1) = m.take (k + 1)) ↔ (l.take k = m.take k ∧ l.getD k 0 = m.getD k 0)) := ⟨take_eq_snocI l m k hlt hlt2⟩
        clear hd1 hd2
        generalize l.getD k 0 = X at hg1 HS
        generalize m.getD k 0 = Y at hg2 HS
        by_cases hxy : X = Y
        · subst hxy
          go_wp2
          go_quiet (fail)
          go_wp2
          go_roundw
          case rel => exact ⟨k + 1, _, by omega, by go_num, ⟨HS.out.2 ⟨HE.out, by trivial⟩⟩, rfl⟩
          case measure => simp [intOf]; omega
        · have hx1 : (X == Y) = false := by simp; omega
          have hx2 : decide (X = Y) = false := by simp [hxy]
          have hv : decide (l = m) = false := by
            simp only [decide_eq_false_iff_not]
            intro h
            exact hxy (HS.out.1 (by rw [h])).2
          have HV := Bx.mk hv
          clear hxy hv
          go_wp2
          go_quiet (fail)
          go_wp2
          go_ret
          exact ⟨ret_bool (by rw [HR.out, HV.out]), _, (by first | rfl | exact World.drewN_drewN ..)⟩
      · have hv : decide (l = m) = true := by
          have h1 : l.take k = l := List.take_of_length_le (by omega)
          have h2 : m.take k = m := List.take_of_length_le (by have := HNE.out; omega)
          simp only [decide_eq_true_eq]
          rw [← h1, HE.out, h2]
        have HV := Bx.mk hv
        clear hv
        go_wp2
        go_ret
        exact ⟨ret_bool (by rw [HR.out, HV.out]), _, (by first | rfl | exact World.drewN_drewN ..)⟩
  · have : decide (l = m) = false := by simp; intro h; exact hne (by rw [h])
    rw [HR.out, this]
    exact same_ne A B l m c d w hne
theorem SameInts_ne (A B : Option Addr) (l m : List Int) (c d : Nat) (w : World) (h : l.length ≠ m.length) :
    Calls Try.prog 53 #[.slice A l.length c, .slice B m.length d] w fun e w' => e = .returned (.bool false) ∧ ∃ k, w' = w.drewN k := by
  have hb : decide (l.length = m.length) = false := by simp [h]
  go_enter Try.func53, Try.ntmps53
  go_wp2
  go_ret
  exact ⟨rfl, 0, rfl⟩
set_option maxHeartbeats 1000000 in
theorem SameInts_calls (A B : Option Addr) (l m : List Int) (c d : Nat) (w : World) (hl : IR w A l) (hm : IR w B m) (hl1 : l.length ≤ 140737488351232) :
    Calls Try.prog 53 #[.slice A l.length c, .slice B m.length d] w fun e w' => e = .returned (.bool (decide (l = m))) ∧ ∃ k, w' = w.drewN k := by
  obtain ⟨R, hR⟩ : ∃ R : Bool, R = decide (l = m) := ⟨_, rfl⟩
  rw [← hR]
  have HR := Bx.mk hR; clear hR
  by_cases hne : l.length = m.length
  · have HLc := Bx.mk hl
    have HMc := Bx.mk hm
    rw [← hne]
    have HNE := Bx.mk hne; clear hne hl hm
    go_enter Try.func53, Try.ntmps53
    go_wp2
    go_loopw [5] (fun i w' => ∃ k q : Nat, k ≤ l.length ∧ i = .int .i64 k ∧ Bx (l.take k = m.take k) ∧ w' = w.drewN q) (fun i _ => l.length - (intOf i).toNat)
    case atStart => exact ⟨0, 0, Nat.zero_le _, rfl, ⟨rfl⟩, rfl⟩
    case round =>
      obtain ⟨k, q, hk, rfl, HE, rfl⟩ := hrel
      by_cases hlt : k < l.length
      · have hlt2 : k < m.length := by have := HNE.out; omega
        obtain ⟨a1, rfl, hd1⟩ := HLc.out (by omega)
        obtain ⟨a2, rfl, hd2⟩ := HMc.out (by omega)
        have hg1 := hd1 k hlt
        have hg2 := hd2 k hlt2
        have HS : Bx ((l.take (k + 1) = m.take (k + 1)) ↔ (l.take k = m.take k ∧ l.getD k 0 = m.getD k 0)) := ⟨take_eq_snocI l m k hlt hlt2⟩
        clear hd1 hd2
        generalize l.getD k 0 = X at hg1 HS
        generalize m.getD k 0 = Y at hg2 HS
        by_cases hxy : X = Y
        · subst hxy
          go_wp2
          go_quiet (fail)
          go_wp2
          go_roundw
          case rel => exact ⟨k + 1, _, by omega, by go_num, ⟨HS.out.2 ⟨HE.out, by trivial⟩⟩, rfl⟩
          case measure => simp [intOf]; omega
        · have hx1 : (X == Y) = false := by simp; omega
          have hx2 : decide (X = Y) = false := by simp [hxy]
          have hv : decide (l = m) = false := by
            simp only [decide_eq_false_iff_not]
            intro h
            exact hxy (HS.out.1 (by rw [h])).2
          have HV := Bx.mk hv
          clear hxy hv
          go_wp2
          go_quiet (fail)
          go_wp2
          go_ret
          exact ⟨ret_bool (by rw [HR.out, HV.out]), _, (by first | rfl | exact World.drewN_drewN ..)⟩
      · have hv : decide (l = m) = true := by
          have h1 : l.take k = l := List.take_of_length_le (by omega)
          have h2 : m.take k = m := List.take_of_length_le (by have := HNE.out; omega)
          simp only [decide_eq_true_eq]
          rw [← h1, HE.out, h2]
        have HV := Bx.mk hv
        clear hv
        go_wp2
        go_ret
        exact ⟨ret_bool (by rw [HR.out, HV.out]), _, (by first | rfl | exact World.drewN_drewN ..)⟩
  · have : decide (l = m) = false := by simp; intro h; exact hne (by rw [h])
    rw [HR.out, this]
    exact SameInts_ne A B l m c d w hne
/-- the longest word -/
def lng (f : Nat → List Nat) : Nat → Nat
  | 0 => 0
  | n + 1 => max (lng f n) (f n).length
set_option maxHeartbeats 1000000 in
theorem longest_calls (q n : Nat) (f : Nat → List Nat) (w : World) (h : WO w q n f) (hn : n ≤ 1048576) (hf : ∀ i, (f i).length ≤ 24) :
    Calls Try.prog 70 #[.slice (some ⟨q, 0, none⟩) n n] w fun e w' => e = .returned (.int .i64 (lng f n : Nat)) ∧ w = w' := by
  have HW := Bx.mk h
  have HF := Bx.mk hf
  have hl : ∀ k, lng f k ≤ 24 := fun k => by
    induction k with
    | zero => exact Nat.zero_le _
    | succ k ih => have := hf k; simp only [lng]; omega
  have HLN := Bx.mk hl
  clear h hf hl
  go_enter Try.func70, Try.ntmps70
  go_wp2
  go_loop [3, 4] (fun x i => ∃ k : Nat, k ≤ n ∧ i = .int .i64 (k : Nat) ∧ x = .int .i64 (lng f k : Nat)) (fun _ i => n - (intOf i).toNat)
  case atStart => exact ⟨0, Nat.zero_le _, rfl, rfl⟩
  case round =>
    obtain ⟨k, hk, rfl, rfl⟩ := hrel
    have hb := HLN.out k
    by_cases hlt : k < n
    · obtain ⟨v, hc, ho, -⟩ := HW.out.cell k hlt
      obtain ⟨A, c, rfl⟩ := ho.form
      rw [zl_length] at hc
      have hfk := HF.out k
      have hmx : lng f (k + 1) = max (lng f k) (f k).length := rfl
      have HMX := Bx.mk hmx
      clear ho hmx
      generalize lng f k = M at *
      generalize (f k).length = F at *
      by_cases hMF : M < F
      · have HV : Bx (lng f (k + 1) = F) := ⟨by rw [HMX.out]; omega⟩
        go_wp2
        go_round
        case rel => exact ⟨k + 1, by omega, by go_num, by rw [HV.out]⟩
        case measure => simp [intOf]; omega
      · have HV : Bx (lng f (k + 1) = M) := ⟨by rw [HMX.out]; omega⟩
        go_wp2
        go_round
        case rel => exact ⟨k + 1, by omega, by go_num, by rw [HV.out]⟩
        case measure => simp [intOf]; omega
    · obtain rfl : k = n := by omega
      generalize hM : lng f k = M at *
      have HM := Bx.mk hM
      clear hM
      go_wp2
      go_ret
      exact ⟨ret_int (by rw [HM.out]), rfl⟩
end Go.Proofs.Ytnncnjkpjlpodaa
