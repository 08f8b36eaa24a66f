import Derived.Test.YtkcifjgfgommoaaDoorDigRef6
/-
  The reference's Of.
-/
namespace Go.Proofs.YtkcifjgfgommoaaDoor
open Go.RowKit

theorem rOf_calls (s : ByteArray) (w : World) (hs : s.size ≤ 20000) :
    Calls Tryd.prog 14 #[.string s] w fun e w' => e = .returned (.string (st (hexL (keyedN [] (sb s))))) ∧ Below w.heap.size w w' := by
  obtain ⟨c, w1, hcv, hr, hc, hb⟩ := conv_bts w s (by omega)
  have HS := Bx.mk (rSum_calls (some ⟨w.heap.size, 0, none⟩) (sb s) c w1 hr (by rw [sb_len]; exact hs))
  have HH := Bx.mk (fun W => rHex_calls (keyedN [] (sb s)) W (outK_len _ _) (outK_mem _ _))
  have HB := Bx.mk hb
  clear hr hc hb hs
  generalize keyedN [] (sb s) = K at *
  go_enter Tryd.func14, Tryd.ntmps14
  go_wp2_with fail
  refine HS.out.mono ?_
  rintro e w2 ⟨rfl, hb2⟩
  have HB2 := Bx.mk (HB.out.trans (hb2.mono HB.out.size))
  clear hb2
  go_wp2_with fail
  refine (HH.out _).mono ?_
  rintro e w3 ⟨rfl, hb3⟩
  have HB3 := Bx.mk (HB2.out.trans (hb3.mono HB2.out.size))
  clear hb3
  go_wp2
  go_ret
  exact ⟨rfl, HB3.out⟩
end Go.Proofs.YtkcifjgfgommoaaDoor
