import Derived.Test.YtnncnjkpjlpodaaFlow6
/-
  The law FlowNone: its walk.
-/
namespace Go.Proofs.Ytnncnjkpjlpodaa
open Go.RowKit

set_option maxRecDepth 100000 in
set_option maxHeartbeats 6000000 in
theorem FlowNone_calls (d n b : Int) (v : Value) (w : World) :
    Calls Try.prog 7 #[.agg #[.int .i64 d, .int .i64 n, .int .i64 b, v]] w fun e w' => e = .returned (.bool true) ∧ Below w.heap.size w w' := by
  have A0 := Bx.mk (Blk.new w 28 #[.int .i64 d, .int .i64 n, .int .i64 b, v])
  have B0 := Bx.mk (below_alloc1 w (.cells #[.int .i64 d, .int .i64 n, .int .i64 b, v] 28))
  go_enter Try.func7, Try.ntmps7
  go_wp2_with fail
  refine (works_calls _).mono ?_
  rintro e w1 ⟨rfl, hb⟩
  have A1 := Bx.mk (A0.out.below hb A0.out.lt)
  have B1 := Bx.mk (below_then B0.out B0.out.size hb)
  clear hb A0 B0
  have y1 := Blk.new w1 60 #[.slice none 0 0, .int .i64 0, .bool false]
  have y2 := y1.alloc (.cells #[.slice none 0 0, .int .i64 0, .bool false] 61)
  have z2 := Blk.new (w1.alloc (.cells #[.slice none 0 0, .int .i64 0, .bool false] 60)) 61 #[.slice none 0 0, .int .i64 0, .bool false]
  have a2 := (A1.out.alloc (.cells #[.slice none 0 0, .int .i64 0, .bool false] 60)).alloc (.cells #[.slice none 0 0, .int .i64 0, .bool false] 61)
  have b2 := (B1.out.alloc B1.out.size (.cells #[.slice none 0 0, .int .i64 0, .bool false] 60)).alloc (Nat.le_trans B1.out.size (by simp)) (.cells #[.slice none 0 0, .int .i64 0, .bool false] 61)
  have q0 := rIs_nil ((w1.alloc (.cells #[.slice none 0 0, .int .i64 0, .bool false] 60)).alloc (.cells #[.slice none 0 0, .int .i64 0, .bool false] 61))
  have q1 := rIs_calls _ _ _ _ _ y2
  have q2 := wIs_nil ((w1.alloc (.cells #[.slice none 0 0, .int .i64 0, .bool false] 60)).alloc (.cells #[.slice none 0 0, .int .i64 0, .bool false] 61))
  have q3 := wIs_calls _ _ _ _ _ z2
  rw [show (w1.alloc (.cells #[.slice none 0 0, .int .i64 0, .bool false] 60)).heap.size = w1.heap.size + 1 by simp] at q3
  have R0 : Bx (NoR _ _) := ⟨q0⟩
  have R1 : Bx (NoR _ _) := ⟨q1⟩
  have W0 : Bx (NoW _ _) := ⟨q2⟩
  have W1 : Bx (NoW _ _) := ⟨q3⟩
  have c1 : ((w1.alloc (.cells #[.slice none 0 0, .int .i64 0, .bool false] 60)).alloc (.cells #[.slice none 0 0, .int .i64 0, .bool false] 61)).cell? ⟨w.heap.size, 1, none⟩ = some (.int .i64 n) := a2.cell 1
  have c3 : ((w1.alloc (.cells #[.slice none 0 0, .int .i64 0, .bool false] 60)).alloc (.cells #[.slice none 0 0, .int .i64 0, .bool false] 61)).cell? ⟨w.heap.size, 3, none⟩ = some v := a2.cell 3
  have B2 := Bx.mk b2
  clear y1 y2 z2 a2 b2 q0 q1 q2 q3 A1 B1
  go_wp2_with fail
  generalize ((w1.alloc (.cells #[.slice none 0 0, .int .i64 0, .bool false] 60)).alloc (.cells #[.slice none 0 0, .int .i64 0, .bool false] 61)) = w9 at R0 R1 W0 W1 c1 c3 B2 ⊢
  refine (noR_Take _ n _ R0.out).mono ?_
  rintro e w2 ⟨rfl, rfl⟩
  go_wp2_with fail
  refine (noR_Take _ n _ R1.out).mono ?_
  rintro e w2 ⟨rfl, rfl⟩
  go_wp2_with fail
  refine (noR_Bytes _ n _ R0.out).mono ?_
  rintro e w2 ⟨rfl, rfl⟩
  go_wp2_with fail
  refine (noR_Bytes _ n _ R1.out).mono ?_
  rintro e w2 ⟨rfl, rfl⟩
  go_wp2_with fail
  refine (noR_Skip _ 1 _ R0.out).mono ?_
  rintro e w2 ⟨rfl, rfl⟩
  go_wp2_with fail
  refine (noR_Skip _ 1 _ R1.out).mono ?_
  rintro e w2 ⟨rfl, rfl⟩
  go_wp2_with fail
  refine (noR_Align _ _ R0.out).mono ?_
  rintro e w2 ⟨rfl, rfl⟩
  go_wp2_with fail
  refine (noR_Align _ _ R1.out).mono ?_
  rintro e w2 ⟨rfl, rfl⟩
  go_wp2_with fail
  refine (noW_Put _ 1 1 _ W0.out).mono ?_
  rintro e w2 ⟨rfl, rfl⟩
  go_wp2_with fail
  refine (noW_Put _ 1 1 _ W1.out).mono ?_
  rintro e w2 ⟨rfl, rfl⟩
  go_wp2_with fail
  refine (noW_Code _ 1 1 _ W0.out).mono ?_
  rintro e w2 ⟨rfl, rfl⟩
  go_wp2_with fail
  refine (noW_Code _ 1 1 _ W1.out).mono ?_
  rintro e w2 ⟨rfl, rfl⟩
  go_wp2_with fail
  refine (noW_Align _ _ W0.out).mono ?_
  rintro e w2 ⟨rfl, rfl⟩
  go_wp2_with fail
  refine (noW_Align _ _ W1.out).mono ?_
  rintro e w2 ⟨rfl, rfl⟩
  go_wp2_with fail
  refine (noW_Bytes _ v _ W0.out).mono ?_
  rintro e w2 ⟨rfl, rfl⟩
  go_wp2_with fail
  refine (noW_Bytes _ v _ W1.out).mono ?_
  rintro e w2 ⟨rfl, rfl⟩
  go_wp2_with fail
  refine (noR_Peek _ 3 _ R0.out).mono ?_
  rintro e w2 ⟨rfl, rfl⟩
  go_wp2_with fail
  refine (noR_Peek _ 3 _ R1.out).mono ?_
  rintro e w2 ⟨rfl, rfl⟩
  go_wp2_with fail
  refine (noR_At _ _ R0.out).mono ?_
  rintro e w2 ⟨rfl, rfl⟩
  go_wp2_with fail
  refine (noR_At _ _ R1.out).mono ?_
  rintro e w2 ⟨rfl, rfl⟩
  go_wp2_with fail
  refine (noR_Left _ _ R0.out).mono ?_
  rintro e w2 ⟨rfl, rfl⟩
  go_wp2_with fail
  refine (noR_Left _ _ R1.out).mono ?_
  rintro e w2 ⟨rfl, rfl⟩
  go_wp2_with fail
  refine (noW_Len _ _ W0.out).mono ?_
  rintro e w2 ⟨rfl, rfl⟩
  go_wp2_with fail
  refine (noW_Len _ _ W1.out).mono ?_
  rintro e w2 ⟨rfl, rfl⟩
  go_wp2_with fail
  refine (noW_All _ _ W0.out).mono ?_
  rintro e w2 ⟨rfl, rfl⟩
  go_wp2_with fail
  refine (noW_All _ _ W1.out).mono ?_
  rintro e w2 ⟨rfl, rfl⟩
  go_wp2
  go_ret
  exact ⟨rfl, B2.out⟩
end Go.Proofs.Ytnncnjkpjlpodaa
