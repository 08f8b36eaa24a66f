import Derived.Test.YtcfclhgilpajiaaDoorCrcRef
import Derived.Test.YtcfclhgilpajiaaDoorBaseFn
/-
  The chapter's example holds; the reference's Zeros and Flip.
-/
namespace Go.Proofs.YtcfclhgilpajiaaDoor
open Go.RowKit

def nine : List Nat := [49, 50, 51, 52, 53, 54, 55, 56, 57]
theorem nine_sum : moreS 0 nine = 3421780262 := by decide +kernel
theorem none_sum : moreS 0 [] = 0 := by decide +kernel

theorem works_calls (w : World) (hg : Half w) :
    Calls Tryd.prog 9 #[] w fun e w' => e = .returned (.bool true) ∧ Below w.heap.size w w' := by
  have hg1 : Half (w.alloc (.cells #[.int .u8 49, .int .u8 50, .int .u8 51, .int .u8 52, .int .u8 53, .int .u8 54, .int .u8 55, .int .u8 56, .int .u8 57] 5 (9, 10))) := hg.below (below_alloc1 _ _)
  have hr : RB (w.alloc (.cells #[.int .u8 49, .int .u8 50, .int .u8 51, .int .u8 52, .int .u8 53, .int .u8 54, .int .u8 55, .int .u8 56, .int .u8 57] 5 (9, 10))) (some ⟨w.heap.size, 0, none⟩) nine :=
    RB.litm _ _ _ nine _ rfl (by decide) (by decide)
  have c1 := Sum_calls _ nine 9 _ hr hg1
  have c2 := Sum_calls none [] 0 _ (RB.nil _ _) hg1
  rw [nine_sum] at c1
  rw [none_sum] at c2
  have c1' : Calls Tryd.prog 12 #[.slice (some ⟨w.heap.size, 0, none⟩) 9 9] _ _ := c1
  have c2' : Calls Tryd.prog 12 #[.slice none 0 0] _ _ := c2
  have C1 := Bx.mk c1'; have C2 := Bx.mk c2'; clear c1 c2 c1' c2' hr hg1 hg
  have hcv := conv_bytes
  go_enter Tryd.func9, Tryd.ntmps9
  go_wp2_with (first | (go_at_call 12; ((with_reducible refine C1.out.mono ?_); rintro e w' ⟨rfl, rfl⟩)) | (go_at_call 12; ((with_reducible refine C2.out.mono ?_); rintro e w' ⟨rfl, rfl⟩)))
  go_ret
  exact ⟨rfl, below_alloc1 _ _⟩
end Go.Proofs.YtcfclhgilpajiaaDoor
