import Derived.Test.YtoekecopfmohiaaDoorRefGz4
import Derived.Test.YtoekecopfmohiaaDoorGzWorks
/-
  The reference of gzip: zero, number.
-/
namespace Go.Proofs.YtoekecopfmohiaaDoor
open Go.RowKit

theorem rnumber_calls (n size : Nat) (w : World) (h1 : 1 ≤ size) (h2 : size ≤ 4) (hn : n < 256 ^ size) :
    Calls Tryd.prog 44 #[.int .i64 (n : Int), .int .i64 (size : Int)] w fun e w' => ∃ v, e = .returned v ∧ OB w' w.heap.size v (le size n) ∧ Below w.heap.size w w' := by
  have hmk := fun W => make_bytes' size (by omega) W
  have LR : (List.replicate size 0).length = size := List.length_replicate
  have hba := below_alloc1 w (.cells (madeCells #[.int .u8 0] size) 5)
  have ob := own_made' w size (by omega)
  have h64 : n ≤ 9223372036854775807 := by
    have : 256 ^ size ≤ 256 ^ 4 := Nat.pow_le_pow_right (by decide) h2
    omega
  have pc := (rPut_fit (some ⟨w.heap.size, 0, none⟩) (List.replicate size 0) size 0 size n (w.alloc (.cells (madeCells #[.int .u8 0] size) 5)) (ob.rb' (fun y hy => by rw [(List.mem_replicate.1 hy).2]; decide) (by rw [LR]; omega)) h1 h2 (by rw [LR]; omega) h64).mono fun e w' h => h.1 hn
  rw [LR, put_le] at pc
  have PC := Bx.mk pc
  have B1 := Bx.mk hba
  clear pc ob hba LR
  go_enter Tryd.func44, Tryd.ntmps44
  go_wp2_with (go_at_call 73; fail)
  refine PC.out.mono ?_
  rintro e w1 ⟨v, rfl, ho, hb⟩
  have O1 := Bx.mk (OB.low' ho B1.out.size)
  have B2 := Bx.mk (below_then B1.out B1.out.size hb)
  clear ho hb PC B1
  go_wp2
  go_ret
  exact ⟨_, rfl, O1.out, B2.out⟩
theorem nulN_get : ∀ (l : List Nat), nulN l < l.length → l.getD (nulN l) 0 = 0
  | [], h => by simp [nulN] at h
  | x :: r, h => by
    simp only [nulN, List.length_cons] at h ⊢
    by_cases hx : x = 0
    · rw [if_pos hx]; simpa using hx
    · rw [if_neg hx] at h ⊢
      simpa using nulN_get r (by omega)
theorem nulN_before : ∀ (l : List Nat) (j : Nat), j < nulN l → l.getD j 0 ≠ 0
  | [], j, h => by simp [nulN] at h
  | x :: r, j, h => by
    simp only [nulN] at h
    by_cases hx : x = 0
    · rw [if_pos hx] at h; omega
    · rw [if_neg hx] at h
      cases j with
      | zero => simpa using hx
      | succ j => simpa using nulN_before r j (by omega)
theorem str_index (s : ByteArray) (j : Nat) (hj : j < (sb s).length) (W : World) : (Instr.index 9 (.string s) (.int .i64 (j : Int))).run Tryd.prog W = .ok (.int .u8 (((sb s).getD j 0 : Nat) : Int)) W := by
  have hj' : j < s.size := by rw [sb_len] at hj; exact hj
  rw [run_index_string W 9 s .i64 (j : Int) Tryd.underlying9, dif_pos ⟨by omega, by omega⟩]
  congr 1
  congr 1
  unfold sb
  have hj2 : j < s.data.size := hj'
  rw [List.getD_eq_getElem?_getD, List.getElem?_map, Array.getElem?_toList, Array.getElem?_eq_getElem hj2]
  rfl
set_option maxRecDepth 100000 in
set_option maxHeartbeats 2000000 in
theorem zero_calls (s : ByteArray) (w : World) (hs : s.size ≤ 140737492549632) :
    Calls Tryd.prog 43 #[.string s] w fun e w' => e = .returned (.bool (decide (nulN (sb s) < (sb s).length))) ∧ w = w' := by
  obtain ⟨RV, hRV⟩ : ∃ R : Bool, R = decide (nulN (sb s) < (sb s).length) := ⟨_, rfl⟩
  rw [← hRV]
  have HRV := Bx.mk hRV
  clear hRV
  have hle := nulN_le (sb s)
  rw [sb_len] at hle
  go_enter Tryd.func43, Tryd.ntmps43
  go_wp2
  go_loopw [3] (fun i wr => ∃ k : Nat, k ≤ nulN (sb s) ∧ i = .int .i64 (k : Nat) ∧ wr = w) (fun i _ => s.size - (intOf i).toNat)
  case atStart => exact ⟨0, Nat.zero_le _, rfl, rfl⟩
  case round =>
    obtain ⟨k, hk, rfl, rfl⟩ := hrel
    by_cases hlt : k < s.size
    · have hki : (k : Int) < (s.size : Int) := by omega
      have SI : ∀ W, (Instr.index 9 (.string s) (.int .i64 (k : Int))).run Tryd.prog W = .ok (.int .u8 (((sb s).getD k 0 : Nat) : Int)) W := fun W => str_index s k (by rw [sb_len]; exact hlt) W
      by_cases hkn : k < nulN (sb s)
      · have hY := nulN_before (sb s) k hkn
        generalize (sb s).getD k 0 = Y at *
        have hYi : ((Y : Int) == 0) = false := beq_false_of_ne (by omega)
        go_wp2
        exact ⟨⟨k + 1, by omega, by go_num, trivial⟩, by simp [intOf]; omega⟩
      · obtain rfl : k = nulN (sb s) := by omega
        have hY := nulN_get (sb s) (by rw [sb_len]; exact hlt)
        rw [hY] at SI
        have HR : Bx (RV = true) := ⟨by rw [HRV.out]; exact decide_eq_true (by rw [sb_len]; exact hlt)⟩
        clear hY
        generalize nulN (sb s) = K at *
        go_wp2
        go_ret
        exact ⟨by rw [HR.out]; rfl, rfl⟩
    · have HR : Bx (RV = false) := ⟨by rw [HRV.out]; exact decide_eq_false (by rw [sb_len]; omega)⟩
      obtain rfl : k = s.size := by omega
      have hki : decide ((s.size : Int) < (s.size : Int)) = false := decide_eq_false (by omega)
      go_wp2
      go_ret
      exact ⟨by rw [HR.out]; rfl, rfl⟩
end Go.Proofs.YtoekecopfmohiaaDoor
