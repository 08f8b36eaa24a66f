import Derived.Test.YtcfclhgilpajiaaDoorCrcWorks
/-
  The reference's Zeros and Flip.
-/
namespace Go.Proofs.YtcfclhgilpajiaaDoor
open Go.RowKit

theorem RB.zeros (w : World) (n : Nat) (h : n ≤ 140737488351232) : RB (w.alloc (.cells (madeCells #[.int .u8 0] n) 5)) (some ⟨w.heap.size, 0, none⟩) (List.replicate n 0) :=
  RB.lit w _ _ _ (by rw [toList_madeCells_one, bs_replicate]; rfl) (by intro x hx; simp [(List.mem_replicate.1 hx).2]) (by rw [List.length_replicate]; exact h)
theorem RB.zeroset (w : World) (n j x : Nat) (h : n ≤ 140737488351232) (hx : x < 256) :
    RB (w.alloc (.cells ((madeCells #[.int .u8 0] n).setIfInBounds j (.int .u8 (x : Int))) 5)) (some ⟨w.heap.size, 0, none⟩) ((List.replicate n 0).set j x) :=
  RB.lit w _ _ _ (by rw [Array.toList_setIfInBounds, toList_madeCells_one, bs_set, bs_replicate]; rfl)
    (by
      intro y hy
      rcases List.mem_or_eq_of_mem_set hy with h1 | h1
      · simp [(List.mem_replicate.1 h1).2]
      · omega) (by simp; exact h)

/-- what the reference's Zeros answers -/
def rzerosS (s : Nat) (n : Int) : Nat := rmoreS s (List.replicate (max 0 (min n 65536)).toNat 0)
set_option maxHeartbeats 1000000 in
theorem rZeros_M (s : Nat) (n : Int) (M : Nat) (w : World) (hs : s < 4294967296) (hM : (M : Int) ≤ 65536)
    (hv : ∀ w : World, (Instr.makeSlice 22 (.int .i64 (M : Int)) (.int .i64 (M : Int))).run Tryd.prog w = .ok (.slice (some ⟨w.heap.size, 0, none⟩) M M) (w.alloc (.cells (madeCells #[.int .u8 0] M) 5)))
    (hc : n ≤ 0 ∧ M = 0 ∨ n = M ∧ 0 < M ∨ 65536 < n ∧ M = 65536) :
    Calls Tryd.prog 17 #[.int .u32 s, .int .i64 n] w fun e w' => e = .returned (.int .u32 ((rmoreS s (List.replicate M 0) : Nat) : Int)) ∧ Below w.heap.size w w' := by
  have c1 := rMore_calls s _ (List.replicate M 0) M _ hs (RB.zeros w M (by omega))
  rw [List.length_replicate] at c1
  generalize rmoreS s (List.replicate M 0) = R at c1 ⊢
  rcases hc with ⟨h1, rfl⟩ | ⟨rfl, h1⟩ | ⟨h1, rfl⟩
  · have hv' : ∀ w : World, (Instr.makeSlice 22 (.int .i64 0) (.int .i64 0)).run Tryd.prog w = .ok (.slice (some ⟨w.heap.size, 0, none⟩) 0 0) (w.alloc (.cells (madeCells #[.int .u8 0] 0) 5)) := hv
    have C1 := Bx.mk c1; clear c1 hv
    go_enter Tryd.func17, Tryd.ntmps17
    go_wp2_with (go_at_call 15; ((with_reducible refine C1.out.mono ?_); rintro e w' ⟨rfl, rfl⟩))
    all_goals
      go_ret
      exact ⟨rfl, below_alloc1 _ _⟩
  · have C1 := Bx.mk c1; clear c1
    go_enter Tryd.func17, Tryd.ntmps17
    go_wp2_with (go_at_call 15; ((with_reducible refine C1.out.mono ?_); rintro e w' ⟨rfl, rfl⟩))
    all_goals
      go_ret
      exact ⟨rfl, below_alloc1 _ _⟩
  · have hv' : ∀ w : World, (Instr.makeSlice 22 (.int .i64 65536) (.int .i64 65536)).run Tryd.prog w = .ok (.slice (some ⟨w.heap.size, 0, none⟩) 65536 65536) (w.alloc (.cells (madeCells #[.int .u8 0] 65536) 5)) := hv
    have C1 := Bx.mk c1; clear c1 hv
    go_enter Tryd.func17, Tryd.ntmps17
    go_wp2_with (go_at_call 15; ((with_reducible refine C1.out.mono ?_); rintro e w' ⟨rfl, rfl⟩))
    all_goals
      go_ret
      exact ⟨rfl, below_alloc1 _ _⟩
theorem rZeros_calls (s : Nat) (n : Int) (w : World) (hs : s < 4294967296) :
    Calls Tryd.prog 17 #[.int .u32 s, .int .i64 n] w fun e w' => e = .returned (.int .u32 ((rzerosS s n : Nat) : Int)) ∧ Below w.heap.size w w' :=
  rZeros_M s n (max 0 (min n 65536)).toNat w hs (by omega) (fun w => make_bytes _ (by omega) w) (by omega)

set_option maxHeartbeats 1000000 in
theorem rFlip_bad (s : Nat) (size at' : Int) (x : Nat) (w : World) (h : size > 65536 ∨ at' < 0 ∨ at' ≥ size) :
    Calls Tryd.prog 20 #[.int .u32 s, .int .i64 size, .int .i64 at', .int .u8 x] w fun e w' => e = .returned (.tuple #[.int .u32 0, .int .i64 2]) ∧ Below w.heap.size w w' := by
  by_cases h1 : 65536 < size
  · go_enter Tryd.func20, Tryd.ntmps20
    go_wp2
    go_ret2
    exact ⟨rfl, Below.refl _ _⟩
  · by_cases h2 : at' < 0
    · go_enter Tryd.func20, Tryd.ntmps20
      go_wp2
      go_ret2
      exact ⟨rfl, Below.refl _ _⟩
    · have h3 : size ≤ at' := by omega
      go_enter Tryd.func20, Tryd.ntmps20
      go_wp2
      go_ret2
      exact ⟨rfl, Below.refl _ _⟩

def rflipN (s size at' x : Nat) : Nat := s ^^^ rmoreS 0 (List.replicate size 0) ^^^ rmoreS 0 ((List.replicate size 0).set at' x)
theorem rmoreS_lt (s : Nat) (l : List Nat) (h : s < 4294967296) (hl : ∀ x ∈ l, x < 256) : rmoreS s l < 4294967296 := nt_lt _ (rmoreN_lt _ _ (nt_lt _ h) hl)
set_option maxRecDepth 100000 in
set_option maxHeartbeats 1000000 in
theorem rFlip_good (s : Nat) (size at' x : Nat) (w : World) (hs : s < 4294967296) (hx : x < 256) (h1 : size ≤ 65536) (h2 : at' < size) :
    Calls Tryd.prog 20 #[.int .u32 s, .int .i64 size, .int .i64 at', .int .u8 x] w fun e w' => e = .returned (.tuple #[.int .u32 ((rflipN s size at' x : Nat) : Int), .int .i64 0]) ∧ Below w.heap.size w w' := by
  have r1 := RB.zeros w size (by omega)
  have r2 := RB.zeroset w size at' x (by omega) hx
  have c1 := rSum_calls _ (List.replicate size 0) size _ r1
  have c2 := rSum_calls _ ((List.replicate size 0).set at' x) size _ r2
  have l1 := rmoreS_lt 0 _ (by omega) r1.1
  have l2 := rmoreS_lt 0 _ (by omega) r2.1
  rw [List.length_replicate] at c1
  rw [List.length_set, List.length_replicate] at c2
  unfold rflipN
  generalize rmoreS 0 (List.replicate size 0) = R1 at c1 l1 ⊢
  generalize rmoreS 0 ((List.replicate size 0).set at' x) = R2 at c2 l2 ⊢
  have x1 := u32_xor_nat s R1 hs l1
  have y1 := xor_lt s R1 hs l1
  have x2 := u32_xor_nat (s ^^^ R1) R2 y1 l2
  generalize s ^^^ R1 ^^^ R2 = R4 at x2 ⊢
  generalize s ^^^ R1 = R3 at x1 x2
  have hmk := fun w => make_bytes size (by omega) w
  have hz : ∀ j, j < size → (madeCells #[.int .u8 0] size)[j]? = some (.int .u8 0) := fun j hj => by
    rw [← Array.getElem?_toList, toList_madeCells_one, List.getElem?_replicate, if_pos hj]
  have hza := hz at' h2
  have C1 := Bx.mk c1; have C2 := Bx.mk c2
  clear c1 c2 r1 r2 hz y1 l1 l2
  go_enter Tryd.func20, Tryd.ntmps20
  go_wp2_with (first | (go_at_call 14; ((with_reducible refine C1.out.mono ?_); rintro e w' ⟨rfl, rfl⟩)) | (go_at_call 14; ((with_reducible refine C2.out.mono ?_); rintro e w' ⟨rfl, rfl⟩)))
  go_ret2
  exact ⟨rfl, below_alloc1 _ _⟩
end Go.Proofs.YtcfclhgilpajiaaDoor
