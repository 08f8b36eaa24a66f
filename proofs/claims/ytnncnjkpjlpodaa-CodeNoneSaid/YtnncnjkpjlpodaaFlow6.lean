import Derived.Test.YtnncnjkpjlpodaaFlowWorks
/-
  A reader and a writer that no call made.
-/
namespace Go.Proofs.Ytnncnjkpjlpodaa
open Go.RowKit

/-- a reader's pointer that is none -/
def NoR (p : Value) (w : World) : Prop := Calls Try.prog 62 #[p] w fun e w' => e = .returned (.bool false) ∧ w = w'
def NoW (p : Value) (w : World) : Prop := Calls Try.prog 60 #[p] w fun e w' => e = .returned (.bool false) ∧ w = w'
theorem noR_At (p : Value) (w : World) (h : NoR p w) : Calls Try.prog 22 #[p] w fun e w' => e = .returned (.int .i64 0) ∧ w = w' := by
  have H := Bx.mk h
  clear h
  go_enter Try.func22, Try.ntmps22
  go_wp2_with fail
  refine H.out.mono ?_
  rintro e w1 ⟨rfl, rfl⟩
  go_wp2
  go_ret
  exact ⟨rfl, rfl⟩
theorem noR_Left (p : Value) (w : World) (h : NoR p w) : Calls Try.prog 40 #[p] w fun e w' => e = .returned (.int .i64 0) ∧ w = w' := by
  have H := Bx.mk h
  clear h
  go_enter Try.func40, Try.ntmps40
  go_wp2_with fail
  refine H.out.mono ?_
  rintro e w1 ⟨rfl, rfl⟩
  go_wp2
  go_ret
  exact ⟨rfl, rfl⟩
theorem noR_Peek (p : Value) (n : Int) (w : World) (h : NoR p w) : Calls Try.prog 25 #[p, .int .i64 n] w fun e w' => e = .returned (.int .i64 0) ∧ w = w' := by
  have H := Bx.mk h
  clear h
  go_enter Try.func25, Try.ntmps25
  go_wp2_with fail
  refine H.out.mono ?_
  rintro e w1 ⟨rfl, rfl⟩
  go_wp2
  go_ret
  exact ⟨rfl, rfl⟩
theorem noR_Skip (p : Value) (n : Int) (w : World) (h : NoR p w) : Calls Try.prog 24 #[p, .int .i64 n] w fun e w' => e = .returned (.int .i64 1) ∧ w = w' := by
  have H := Bx.mk h
  clear h
  go_enter Try.func24, Try.ntmps24
  go_wp2_with fail
  refine H.out.mono ?_
  rintro e w1 ⟨rfl, rfl⟩
  go_wp2
  go_ret
  exact ⟨rfl, rfl⟩
theorem noR_Align (p : Value) (w : World) (h : NoR p w) : Calls Try.prog 36 #[p] w fun e w' => e = .returned (.int .i64 1) ∧ w = w' := by
  have H := Bx.mk h
  clear h
  go_enter Try.func36, Try.ntmps36
  go_wp2_with fail
  refine H.out.mono ?_
  rintro e w1 ⟨rfl, rfl⟩
  go_wp2
  go_ret
  exact ⟨rfl, rfl⟩
theorem noR_Bytes (p : Value) (n : Int) (w : World) (h : NoR p w) : Calls Try.prog 38 #[p, .int .i64 n] w fun e w' => e = .returned (.tuple #[.slice none 0 0, .int .i64 1]) ∧ w = w' := by
  have H := Bx.mk h
  clear h
  go_enter Try.func38, Try.ntmps38
  go_wp2_with fail
  refine H.out.mono ?_
  rintro e w1 ⟨rfl, rfl⟩
  go_wp2
  go_ret2
  exact ⟨rfl, rfl⟩
theorem noR_Take (p : Value) (n : Int) (w : World) (h : NoR p w) : Calls Try.prog 21 #[p, .int .i64 n] w fun e w' => e = .returned (.tuple #[.int .i64 0, .int .i64 1]) ∧ w = w' := by
  have H1 := Bx.mk (noR_Peek p n w h)
  have H2 := Bx.mk (noR_Skip p n w h)
  clear h
  go_enter Try.func21, Try.ntmps21
  go_wp2_with fail
  refine H1.out.mono ?_
  rintro e w1 ⟨rfl, rfl⟩
  go_wp2_with fail
  refine H2.out.mono ?_
  rintro e w1 ⟨rfl, rfl⟩
  go_wp2
  go_ret2
  exact ⟨rfl, rfl⟩
theorem noW_Len (p : Value) (w : World) (h : NoW p w) : Calls Try.prog 23 #[p] w fun e w' => e = .returned (.int .i64 0) ∧ w = w' := by
  have H := Bx.mk h
  clear h
  go_enter Try.func23, Try.ntmps23
  go_wp2_with fail
  refine H.out.mono ?_
  rintro e w1 ⟨rfl, rfl⟩
  go_wp2
  go_ret
  exact ⟨rfl, rfl⟩
theorem noW_All (p : Value) (w : World) (h : NoW p w) : Calls Try.prog 20 #[p] w fun e w' => e = .returned (.slice none 0 0) ∧ w = w' := by
  have H := Bx.mk h
  clear h
  go_enter Try.func20, Try.ntmps20
  go_wp2_with fail
  refine H.out.mono ?_
  rintro e w1 ⟨rfl, rfl⟩
  go_wp2
  go_ret
  exact ⟨rfl, rfl⟩
theorem noW_Align (p : Value) (w : World) (h : NoW p w) : Calls Try.prog 28 #[p] w fun e w' => e = .returned (.int .i64 1) ∧ w = w' := by
  have H := Bx.mk h
  clear h
  go_enter Try.func28, Try.ntmps28
  go_wp2_with fail
  refine H.out.mono ?_
  rintro e w1 ⟨rfl, rfl⟩
  go_wp2
  go_ret
  exact ⟨rfl, rfl⟩
theorem noW_Bytes (p : Value) (v : Value) (w : World) (h : NoW p w) : Calls Try.prog 30 #[p, v] w fun e w' => e = .returned (.int .i64 1) ∧ w = w' := by
  have H := Bx.mk h
  clear h
  go_enter Try.func30, Try.ntmps30
  go_wp2_with fail
  refine H.out.mono ?_
  rintro e w1 ⟨rfl, rfl⟩
  go_wp2
  go_ret
  exact ⟨rfl, rfl⟩
theorem noW_look (p : Value) (n b : Int) (w : World) (h : NoW p w) : Calls Try.prog 57 #[p, .int .i64 n, .int .i64 b] w fun e w' => e = .returned (.int .i64 1) ∧ w = w' := by
  have H := Bx.mk h
  clear h
  go_enter Try.func57, Try.ntmps57
  go_wp2_with fail
  refine H.out.mono ?_
  rintro e w1 ⟨rfl, rfl⟩
  go_wp2
  go_ret
  exact ⟨rfl, rfl⟩
theorem noW_Put (p : Value) (n b : Int) (w : World) (h : NoW p w) : Calls Try.prog 17 #[p, .int .i64 n, .int .i64 b] w fun e w' => e = .returned (.int .i64 1) ∧ w = w' := by
  have H1 := Bx.mk (noW_look p n b w h)
  clear h
  go_enter Try.func17, Try.ntmps17
  go_wp2_with fail
  refine H1.out.mono ?_
  rintro e w1 ⟨rfl, rfl⟩
  go_wp2
  go_ret
  exact ⟨rfl, rfl⟩
theorem noW_Code (p : Value) (n b : Int) (w : World) (h : NoW p w) : Calls Try.prog 18 #[p, .int .i64 n, .int .i64 b] w fun e w' => e = .returned (.int .i64 1) ∧ w = w' := by
  have H1 := Bx.mk (noW_look p n b w h)
  clear h
  go_enter Try.func18, Try.ntmps18
  go_wp2_with fail
  refine H1.out.mono ?_
  rintro e w1 ⟨rfl, rfl⟩
  go_wp2
  go_ret
  exact ⟨rfl, rfl⟩
end Go.Proofs.Ytnncnjkpjlpodaa
