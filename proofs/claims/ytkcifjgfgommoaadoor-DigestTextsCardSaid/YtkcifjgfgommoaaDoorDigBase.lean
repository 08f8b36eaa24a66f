import Derived.Test.YtkcifjgfgommoaaDoorMem
/-
  The shared helpers: Bytes, SameBytes.
-/
namespace Go.Proofs.YtkcifjgfgommoaaDoor
open Go.RowKit

theorem Bytes_calls (A : Option Addr) (l : List Nat) (c : Nat) (w : World) (hl : RB w A l) :
    Calls Tryd.prog 8 #[.slice A l.length c] w fun e w' => ∃ v, e = .returned v ∧ OB w' w.heap.size v l ∧ Below w.heap.size w w' := by
  have hl1 := hl.2.1
  have HL := Bx.mk (hl.below (below_alloc1 w (.cells #[] 5)))
  clear hl
  go_enter Tryd.func8, Tryd.ntmps8
  go_wp2_with (at_builtin; refine wpList_append_bytes _ rfl _ _ rfl w.heap.size _ [] l rfl (own_empty w) A c rfl HL.out ?hl (by simp) ?_; (case hl => simp; omega); intro v' w' ho hg _)
  go_ret
  exact ⟨_, rfl, ho, (below_alloc1 w _).grown hg (by simp) (fun k hk => own_block (own_empty w) k hk)⟩

theorem Same_ne (A B : Option Addr) (l m : List Nat) (c d : Nat) (w : World) (h : l.length ≠ m.length) :
    Calls Tryd.prog 15 #[.slice A l.length c, .slice B m.length d] w fun e w' => e = .returned (.bool false) ∧ ∃ k, w' = w.drewN k := by
  have hb : decide (l.length = m.length) = false := by simp [h]
  go_enter Tryd.func15, Tryd.ntmps15
  go_wp2
  go_ret
  exact ⟨rfl, 0, rfl⟩

theorem take_eq_snoc (l m : List Nat) (k : Nat) (h1 : k < l.length) (h2 : k < m.length) : (l.take (k + 1) = m.take (k + 1)) ↔ (l.take k = m.take k ∧ l.getD k 0 = m.getD k 0) := by
  rw [List.take_succ_eq_append_getElem h1, List.take_succ_eq_append_getElem h2, getD_getElem l k h1, getD_getElem m k h2]
  constructor
  · intro h
    have := List.append_inj h (by simp; omega)
    exact ⟨this.1, by simpa using this.2⟩
  · rintro ⟨a, b⟩; rw [a, b]

set_option maxHeartbeats 1000000 in
theorem SameBytes_calls (A B : Option Addr) (l m : List Nat) (c d : Nat) (w : World) (hl : RB w A l) (hm : RB w B m) :
    Calls Tryd.prog 15 #[.slice A l.length c, .slice B m.length d] w fun e w' => e = .returned (.bool (decide (l = m))) ∧ ∃ k, w' = w.drewN k := by
  obtain ⟨R, hR⟩ : ∃ R : Bool, R = decide (l = m) := ⟨_, rfl⟩
  rw [← hR]
  have HR := Bx.mk hR; clear hR
  by_cases hne : l.length = m.length
  · obtain ⟨hb1, hn1, hc1⟩ := hl
    obtain ⟨hb2, hn2, hc2⟩ := hm
    rw [← hne]
    have HNE := Bx.mk hne; clear hne
    go_enter Tryd.func15, Tryd.ntmps15
    go_wp2
    go_loopw [5] (fun i w' => ∃ k q : Nat, k ≤ l.length ∧ i = .int .i64 k ∧ Bx (l.take k = m.take k) ∧ w' = w.drewN q) (fun i _ => l.length - (intOf i).toNat)
    case atStart => exact ⟨0, 0, Nat.zero_le _, rfl, ⟨rfl⟩, rfl⟩
    case round =>
      obtain ⟨k, q, hk, rfl, HE, rfl⟩ := hrel
      by_cases hlt : k < l.length
      · have hlt2 : k < m.length := by have := HNE.out; omega
        obtain ⟨a1, rfl, hd1⟩ := hc1 (by omega)
        obtain ⟨a2, rfl, hd2⟩ := hc2 (by omega)
        have hg1 := hd1 k hlt
        have hg2 := hd2 k hlt2
        have HS := Bx.mk (take_eq_snoc l m k hlt hlt2)
        clear hd1 hd2
        generalize l.getD k 0 = X at hg1 HS
        generalize m.getD k 0 = Y at hg2 HS
        by_cases hxy : X = Y
        · subst hxy
          go_wp2
          go_quiet (fail)
          go_wp2
          go_roundw
          case rel => exact ⟨k + 1, _, by omega, by go_num, ⟨HS.out.2 ⟨HE.out, by trivial⟩⟩, rfl⟩
          case measure => simp [intOf]; omega
        · have hx1 : ((X : Int) == (Y : Int)) = false := by simp; omega
          have hx2 : decide (X = Y) = false := by simp [hxy]
          have hv : decide (l = m) = false := by
            simp only [decide_eq_false_iff_not]
            intro h
            exact hxy (HS.out.1 (by rw [h])).2
          have HV := Bx.mk hv
          clear hxy hv
          go_wp2
          go_quiet (fail)
          go_wp2
          go_ret
          exact ⟨ret_bool (by rw [HR.out, HV.out]), _, (by first | rfl | exact World.drewN_drewN ..)⟩
      · have hv : decide (l = m) = true := by
          have h1 : l.take k = l := List.take_of_length_le (by omega)
          have h2 : m.take k = m := List.take_of_length_le (by have := HNE.out; omega)
          simp only [decide_eq_true_eq]
          rw [← h1, HE.out, h2]
        have HV := Bx.mk hv
        clear hv
        go_wp2
        go_ret
        exact ⟨ret_bool (by rw [HR.out, HV.out]), _, (by first | rfl | exact World.drewN_drewN ..)⟩
  · have : decide (l = m) = false := by simp; intro h; exact hne (by rw [h])
    rw [HR.out, this]
    exact Same_ne A B l m c d w hne
end Go.Proofs.YtkcifjgfgommoaaDoor
