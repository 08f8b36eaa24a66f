import Derived.Test.YtnncnjkpjlpodaaCodeLaws2
import Derived.Test.YtnncnjkpjlpodaaFlow6
/-
  The law CodeNone: its walk.
-/
namespace Go.Proofs.Ytnncnjkpjlpodaa
open Go.RowKit

/-- a code's pointer that is none -/
def NoC (p : Value) (w : World) : Prop := Calls Try.prog 68 #[p] w fun e w' => e = .returned (.bool false) ∧ w = w'
theorem noC_Symbols (p : Value) (w : World) (h : NoC p w) : Calls Try.prog 50 #[p] w fun e w' => e = .returned (.int .i64 0) ∧ w = w' := by
  have H := Bx.mk h
  clear h
  go_enter Try.func50, Try.ntmps50
  go_wp2_with fail
  refine H.out.mono ?_
  rintro e w1 ⟨rfl, rfl⟩
  go_wp2
  go_ret
  exact ⟨rfl, rfl⟩
theorem noC_Word (p : Value) (s : Int) (w : World) (h : NoC p w) : Calls Try.prog 43 #[p, .int .i64 s] w fun e w' => e = .returned (.tuple #[.int .i64 0, .int .i64 0, .int .i64 1]) ∧ w = w' := by
  have H := Bx.mk h
  clear h
  go_enter Try.func43, Try.ntmps43
  go_wp2_with fail
  refine H.out.mono ?_
  rintro e w1 ⟨rfl, rfl⟩
  go_wp2
  go_ret3
  exact ⟨rfl, rfl⟩
theorem noC_Write (p q : Value) (s : Int) (w : World) (h : NoC p w) : Calls Try.prog 49 #[p, q, .int .i64 s] w fun e w' => e = .returned (.int .i64 1) ∧ w = w' := by
  have H := Bx.mk (noC_Word p s w h)
  clear h
  go_enter Try.func49, Try.ntmps49
  go_wp2_with fail
  refine H.out.mono ?_
  rintro e w1 ⟨rfl, rfl⟩
  go_wp2
  go_ret
  exact ⟨rfl, rfl⟩
theorem noC_Read (p q : Value) (w : World) (h : NoC p w) : Calls Try.prog 45 #[p, q] w fun e w' => e = .returned (.tuple #[.int .i64 0, .int .i64 1]) ∧ w = w' := by
  have H := Bx.mk h
  clear h
  go_enter Try.func45, Try.ntmps45
  go_wp2
  go_step3
  go_wp2_with fail
  refine H.out.mono ?_
  rintro e w1 ⟨rfl, rfl⟩
  go_wp2
  try rw [Exit.noGoto_ret]
  go_ret2
  exact ⟨rfl, rfl⟩
/-- a code reads nothing of a reader that is none -/
theorem nilR_Read (g : Nat) (O Ln : Value) (L : List Nat) (w : World) (hC : Cd w g O Ln L) :
    Calls Try.prog 45 #[.pointer (some ⟨g, 0, none⟩), .pointer none] w fun e w' => e = .returned (.tuple #[.int .i64 0, .int .i64 1]) ∧ w = w' := by
  have h1 := Bx.mk (cIs_calls g _ _ _ true w hC.blk)
  have h2 := Bx.mk (most_calls g _ _ _ true w hC.blk)
  have hp : 1 ≤ mst (cnt L) 15 := mst_pos _ _
  have T := Bx.mk (noR_Take (.pointer none) 1 w (rIs_nil w))
  generalize mst (cnt L) 15 = M at h2 hp
  clear hC
  go_enter Try.func45, Try.ntmps45
  go_wp2
  go_step3
  go_wp2_with fail
  refine h1.out.mono ?_
  rintro e w1 ⟨rfl, rfl⟩
  go_wp2
  go_step3
  go_wp2
  go_loop [6, 7, 8, 9] (fun s6 s7 s8 s9 => s6 = .int .i64 0 ∧ s7 = .int .i64 0 ∧ s8 = .int .i64 0 ∧ s9 = .int .i64 1) (fun _ _ _ _ => 0)
  case atStart => exact ⟨rfl, rfl, rfl, rfl⟩
  case round =>
    obtain ⟨rfl, rfl, rfl, rfl⟩ := hrel
    go_wp2_with fail
    refine h2.out.mono ?_
    rintro e w1 ⟨rfl, rfl⟩
    go_wp2_with fail
    refine T.out.mono ?_
    rintro e w1 ⟨rfl, rfl⟩
    go_wp2
    try rw [Exit.noGoto_ret]
    go_ret2
    exact ⟨rfl, rfl⟩
theorem nilW_Write (g : Nat) (O Ln : Value) (L : List Nat) (s : Nat) (w : World) (hC : Cd w g O Ln L) (hk : kr L ≤ 32768) (hL288 : L.length ≤ 288) (hs : s < L.length) (h0 : L.getD s 0 ≠ 0) (h15 : L.getD s 0 ≤ 15) :
    Calls Try.prog 49 #[.pointer (some ⟨g, 0, none⟩), .pointer none, .int .i64 (s : Int)] w fun e w' => e = .returned (.int .i64 1) ∧ w = w' := by
  have W1 := Bx.mk (Word_yes g O Ln L s w hC hk hL288 hs h0 h15)
  have C1 := Bx.mk (noW_Code (.pointer none) (wrd L s) (L.getD s 0) w (wIs_nil w))
  generalize wrd L s = W at *
  generalize L.getD s 0 = n at *
  clear hC hk h0 h15
  go_enter Try.func49, Try.ntmps49
  go_wp2_with fail
  refine W1.out.mono ?_
  rintro e w1 ⟨rfl, rfl⟩
  go_wp2_with fail
  refine C1.out.mono ?_
  rintro e w1 ⟨rfl, rfl⟩
  go_wp2
  go_ret
  exact ⟨rfl, rfl⟩
theorem cIs_zero (g : Nat) (w : World) (h : Blk w g 78 #[.int .i64 0, .int .i64 0, .int .i64 0, .int .i64 0, .int .i64 0, .int .i64 0, .int .i64 0, .int .i64 0, .int .i64 0, .int .i64 0, .int .i64 0, .int .i64 0, .int .i64 0, .int .i64 0, .int .i64 0, .int .i64 0, .slice none 0 0, .slice none 0 0, .bool false]) : NoC (.pointer (some ⟨g, 0, none⟩)) w :=
  cIs_calls g (fun _ => 0) (.slice none 0 0) (.slice none 0 0) false w h
set_option maxRecDepth 100000 in
set_option maxHeartbeats 4000000 in
theorem CodeNone_calls (B : Option Addr) (m : List Nat) (d : Nat) (s : Int) (w : World) (_hm : RB w B m) :
    Calls Try.prog 11 #[.slice B m.length d, .int .i64 s] w fun e w' => e = .returned (.bool true) ∧ Below w.heap.size w w' := by
  go_enter Try.func11, Try.ntmps11
  go_wp2_with fail
  refine (cworks_calls w).mono ?_
  rintro e w1 ⟨rfl, hb⟩
  have B1 := Bx.mk hb
  clear hb
  have Z2 := Bx.mk (Blk.new w1 78 #[.int .i64 0, .int .i64 0, .int .i64 0, .int .i64 0, .int .i64 0, .int .i64 0, .int .i64 0, .int .i64 0, .int .i64 0, .int .i64 0, .int .i64 0, .int .i64 0, .int .i64 0, .int .i64 0, .int .i64 0, .int .i64 0, .slice none 0 0, .slice none 0 0, .bool false])
  have B2 := Bx.mk (B1.out.alloc B1.out.size (.cells #[.int .i64 0, .int .i64 0, .int .i64 0, .int .i64 0, .int .i64 0, .int .i64 0, .int .i64 0, .int .i64 0, .int .i64 0, .int .i64 0, .int .i64 0, .int .i64 0, .int .i64 0, .int .i64 0, .int .i64 0, .int .i64 0, .slice none 0 0, .slice none 0 0, .bool false] 78))
  go_wp2_with fail
  generalize w1.alloc (.cells #[.int .i64 0, .int .i64 0, .int .i64 0, .int .i64 0, .int .i64 0, .int .i64 0, .int .i64 0, .int .i64 0, .int .i64 0, .int .i64 0, .int .i64 0, .int .i64 0, .int .i64 0, .int .i64 0, .int .i64 0, .int .i64 0, .slice none 0 0, .slice none 0 0, .bool false] 78) = w2 at Z2 B2 ⊢
  generalize w1.heap.size = z at Z2 ⊢
  refine (New_calls B m.length d w2).mono ?_
  rintro e w3 ⟨rfl, hw3⟩
  have Z3 : Bx (Blk w3 z 78 _) := ⟨by rw [hw3]; exact Z2.out.alloc _⟩
  have B3 : Bx (Below w.heap.size w w3) := ⟨by rw [hw3]; exact B2.out.alloc B2.out.size _⟩
  clear hw3 Z2 B2
  go_wp2_with fail
  refine (noC_Read _ _ w3 (cIs_nil w3)).mono ?_
  rintro e w4 ⟨rfl, rfl⟩
  go_wp2_with fail
  refine (New_calls B m.length d w3).mono ?_
  rintro e w4 ⟨rfl, hw4⟩
  have Z4 : Bx (Blk w4 z 78 _) := ⟨by rw [hw4]; exact Z3.out.alloc _⟩
  have B4 : Bx (Below w.heap.size w w4) := ⟨by rw [hw4]; exact B3.out.alloc B3.out.size _⟩
  clear hw4 Z3 B3
  go_wp2_with fail
  refine (noC_Read _ _ w4 (cIs_zero z w4 Z4.out)).mono ?_
  rintro e w5 ⟨rfl, rfl⟩
  go_wp2_with fail
  refine (noC_Word _ s w4 (cIs_nil w4)).mono ?_
  rintro e w5 ⟨rfl, rfl⟩
  go_wp2_with fail
  refine (noC_Word _ s w4 (cIs_zero z w4 Z4.out)).mono ?_
  rintro e w5 ⟨rfl, rfl⟩
  have n1 := CNew_yes (some ⟨w4.heap.size, 0, none⟩) [1, 1] 2 _ (IR.lit w4 3 (zl [1, 1]) #[.int .i64 1, .int .i64 1] rfl) ⟨by decide, by decide, by decide, .inl (by decide)⟩
  have N1 := Bx.mk n1
  have Z5 := Bx.mk (Z4.out.alloc (.cells #[.int .i64 1, .int .i64 1] 3))
  have B5 := Bx.mk (B4.out.alloc B4.out.size (.cells #[.int .i64 1, .int .i64 1] 3))
  clear n1 Z4 B4
  go_wp2_with fail
  refine N1.out.mono ?_
  rintro e w6 ⟨g, O, Ln, rfl, -, hC, hb⟩
  have C6 := Bx.mk hC
  have Z6 := Bx.mk (Z5.out.below hb Z5.out.lt)
  have B6 := Bx.mk (below_then B5.out B5.out.size hb)
  clear hC hb N1 Z5 B5
  go_wp2_with fail
  refine (nilR_Read g O Ln _ w6 C6.out).mono ?_
  rintro e w7 ⟨rfl, rfl⟩
  go_wp2_with fail
  refine (Write_calls w6).mono ?_
  rintro e w7 ⟨rfl, -, hw7⟩
  have C7 : Bx (Cd w7 g O Ln [1, 1]) := ⟨by rw [hw7]; exact C6.out.below (below_alloc1 _ _)⟩
  have Z7 : Bx (Blk w7 z 78 _) := ⟨by rw [hw7]; exact Z6.out.alloc _⟩
  have B7 : Bx (Below w.heap.size w w7) := ⟨by rw [hw7]; exact B6.out.alloc B6.out.size _⟩
  clear hw7 C6 Z6 B6
  go_wp2_with fail
  refine (noC_Write _ _ s w7 (cIs_nil w7)).mono ?_
  rintro e w8 ⟨rfl, rfl⟩
  go_wp2_with fail
  refine (Write_calls w7).mono ?_
  rintro e w8 ⟨rfl, -, hw8⟩
  have C8 : Bx (Cd w8 g O Ln [1, 1]) := ⟨by rw [hw8]; exact C7.out.below (below_alloc1 _ _)⟩
  have Z8 : Bx (Blk w8 z 78 _) := ⟨by rw [hw8]; exact Z7.out.alloc _⟩
  have B8 : Bx (Below w.heap.size w w8) := ⟨by rw [hw8]; exact B7.out.alloc B7.out.size _⟩
  clear hw8 C7 Z7 B7
  go_wp2_with fail
  refine (noC_Write _ _ s w8 (cIs_zero z w8 Z8.out)).mono ?_
  rintro e w9 ⟨rfl, rfl⟩
  have nw : Calls Try.prog 49 #[.pointer (some ⟨g, 0, none⟩), .pointer none, .int .i64 0] w8 fun e w' => e = .returned (.int .i64 1) ∧ w8 = w' := nilW_Write g O Ln [1, 1] 0 w8 C8.out (by decide) (by decide) (by decide) (by decide) (by decide)
  have NW := Bx.mk nw
  clear nw
  go_wp2_with fail
  refine NW.out.mono ?_
  rintro e w9 ⟨rfl, rfl⟩
  go_wp2_with fail
  refine (noC_Symbols _ w8 (cIs_nil w8)).mono ?_
  rintro e w9 ⟨rfl, rfl⟩
  go_wp2_with fail
  refine (noC_Symbols _ w8 (cIs_zero z w8 Z8.out)).mono ?_
  rintro e w9 ⟨rfl, rfl⟩
  go_wp2
  go_ret
  exact ⟨rfl, B8.out⟩
end Go.Proofs.Ytnncnjkpjlpodaa
