import Derived.Test.YtkcifjgfgommoaaDoorDig6
/-
  Digests: the chapter's examples.
-/
namespace Go.Proofs.YtkcifjgfgommoaaDoor
open Go.RowKit

def TA : List Nat := [54, 57, 50, 49, 55, 97, 51, 48, 55, 57, 57, 48, 56, 48, 57, 52, 101, 49, 49, 49, 50, 49, 100, 48, 52, 50, 51, 53, 52, 97, 55, 99, 49, 102, 53, 53, 98, 54, 52, 56, 50, 99, 97, 49, 97, 53, 49, 101, 49, 98, 50, 53, 48, 100, 102, 100, 49, 101, 100, 48, 101, 101, 102, 57]
def TB : List Nat := [53, 48, 56, 99, 53, 101, 56, 99, 51, 50, 55, 99, 49, 52, 101, 50, 101, 49, 97, 55, 50, 98, 97, 51, 52, 101, 101, 98, 52, 53, 50, 102, 51, 55, 52, 53, 56, 98, 50, 48, 57, 101, 100, 54, 51, 97, 50, 57, 52, 100, 57, 57, 57, 98, 52, 99, 56, 54, 54, 55, 53, 57, 56, 50]
theorem keyed_short (b : List Nat) (hb : b.length ≤ 64) : keyedN [] b = outK (pressN (firstH 0) (pad b) b.length true) 32 := by
  unfold keyedN keyH
  rw [List.length_nil, if_pos rfl, runN_last _ _ _ hb, Nat.zero_add]
theorem ex_a : hexL (keyedN [] []) = TA := by rw [keyed_short _ (by decide)]; decide +kernel
theorem ex_b : hexL (keyedN [] [97, 98, 99]) = TB := by rw [keyed_short _ (by decide)]; decide +kernel
set_option maxRecDepth 100000 in
set_option maxHeartbeats 1000000 in
theorem dworks_calls (w : World) (hg : Gl w) : Calls Tryd.prog 16 #[] w fun e w' => e = .returned (.bool true) ∧ Below w.heap.size w w' := by
  have oa := Of_calls { data := #[] } w hg (by decide)
  rw [show sb { data := #[] } = [] from rfl, ex_a] at oa
  have ob := fun W (hb : Below w.heap.size w W) => Of_calls { data := #[97, 98, 99] } W (hg.below hb) (by decide)
  rw [show sb { data := #[97, 98, 99] } = [97, 98, 99] from rfl, ex_b] at ob
  have qa : ((st TA).toList == ([54, 57, 50, 49, 55, 97, 51, 48, 55, 57, 57, 48, 56, 48, 57, 52, 101, 49, 49, 49, 50, 49, 100, 48, 52, 50, 51, 53, 52, 97, 55, 99, 49, 102, 53, 53, 98, 54, 52, 56, 50, 99, 97, 49, 97, 53, 49, 101, 49, 98, 50, 53, 48, 100, 102, 100, 49, 101, 100, 48, 101, 101, 102, 57] : List UInt8)) = true := by
    rw [show st TA = ⟨([54, 57, 50, 49, 55, 97, 51, 48, 55, 57, 57, 48, 56, 48, 57, 52, 101, 49, 49, 49, 50, 49, 100, 48, 52, 50, 51, 53, 52, 97, 55, 99, 49, 102, 53, 53, 98, 54, 52, 56, 50, 99, 97, 49, 97, 53, 49, 101, 49, 98, 50, 53, 48, 100, 102, 100, 49, 101, 100, 48, 101, 101, 102, 57] : List UInt8).toArray⟩ from rfl, ByteArray.toList_mk]; exact beq_self_eq_true _
  have qb : ((st TB).toList == ([53, 48, 56, 99, 53, 101, 56, 99, 51, 50, 55, 99, 49, 52, 101, 50, 101, 49, 97, 55, 50, 98, 97, 51, 52, 101, 101, 98, 52, 53, 50, 102, 51, 55, 52, 53, 56, 98, 50, 48, 57, 101, 100, 54, 51, 97, 50, 57, 52, 100, 57, 57, 57, 98, 52, 99, 56, 54, 54, 55, 53, 57, 56, 50] : List UInt8)) = true := by
    rw [show st TB = ⟨([53, 48, 56, 99, 53, 101, 56, 99, 51, 50, 55, 99, 49, 52, 101, 50, 101, 49, 97, 55, 50, 98, 97, 51, 52, 101, 101, 98, 52, 53, 50, 102, 51, 55, 52, 53, 56, 98, 50, 48, 57, 101, 100, 54, 51, 97, 50, 57, 52, 100, 57, 57, 57, 98, 52, 99, 56, 54, 54, 55, 53, 57, 56, 50] : List UInt8).toArray⟩ from rfl, ByteArray.toList_mk]; exact beq_self_eq_true _
  have OA := Bx.mk oa
  have OB := Bx.mk ob
  clear oa ob hg
  generalize st TA = SA at *
  generalize st TB = SB at *
  go_enter Tryd.func16, Tryd.ntmps16
  go_wp2_with fail
  refine OA.out.mono ?_
  rintro e w1 ⟨rfl, hb1⟩
  have HB1 := Bx.mk hb1
  clear hb1
  go_wp2_with fail
  refine (OB.out _ HB1.out).mono ?_
  rintro e w2 ⟨rfl, hb2⟩
  have HB2 := Bx.mk (below_then HB1.out HB1.out.size hb2)
  clear hb2
  go_wp2
  go_ret
  exact ⟨rfl, HB2.out⟩
end Go.Proofs.YtkcifjgfgommoaaDoor
