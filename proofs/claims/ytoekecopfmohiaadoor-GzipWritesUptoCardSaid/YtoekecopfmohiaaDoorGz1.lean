import Derived.Test.YtoekecopfmohiaaDoorGzPure
import Derived.Test.YtoekecopfmohiaaDoorStrAll
import Derived.Shelf.Bytes.SlIndexAt
/-
  gzip: the header's parts: their walks.
-/
namespace Go.Proofs.YtoekecopfmohiaaDoor
open Go.RowKit

theorem index_nul : ∀ (l : List Nat), (∀ x ∈ l, x < 256) → Lib.indexByte (Lib.bytesOf (zl l)) 0 = if nulN l < l.length then ((nulN l : Nat) : Int) else -1
  | [], _ => rfl
  | x :: r, h => by
    have hx := h x (by simp)
    have ih := index_nul r (fun y hy => h y (by simp [hy]))
    have e : Lib.bytesOf (zl (x :: r)) = UInt8.ofNat x :: Lib.bytesOf (zl r) := by simp [Lib.bytesOf, zl]
    rw [e]
    simp only [Lib.indexByte]
    by_cases h0 : x = 0
    · subst h0
      simp [nulN]
    · have hne : (UInt8.ofNat x == 0) = false := by
        rw [beq_eq_false_iff_ne]
        intro hc
        have := congrArg UInt8.toNat hc
        rw [UInt8.toNat_ofNat'] at this
        simp at this
        omega
      rw [hne, ih]
      simp only [Bool.false_eq_true, if_false, nulN, if_neg h0, List.length_cons]
      by_cases hr : nulN r < r.length
      · have : (((nulN r : Nat) : Int) == -1) = false := beq_false_of_ne (by omega)
        rw [if_pos hr, this, if_pos (show nulN r + 1 < r.length + 1 by omega)]
        simp only [Bool.false_eq_true, if_false]
        omega
      · rw [if_neg hr, if_neg (show ¬ nulN r + 1 < r.length + 1 by omega)]; rfl
theorem run_index_bytes (A : Option Addr) (l : List Nat) (c : Nat) (w : World) (hl : RB w A l) : (Extern.BytealgIndexByte.indexByte #[.slice A l.length c, .int .u8 0]).run Tryd.prog w = .ok (.int .i64 (if nulN l < l.length then ((nulN l : Nat) : Int) else -1)) w := by
  rw [← index_nul l hl.1]
  cases A with
  | some a =>
    have := Lib.run_indexByteAt (P := Tryd.prog) w a l.length c (zl l) (zl_length l) (fun i hi => by
      obtain ⟨ad, ha, hc⟩ := hl.2.2 (by omega)
      injection ha with ha
      subst ha
      rw [hc i hi]
      congr 2
      unfold zl
      rw [List.getD_eq_getElem?_getD, List.getD_eq_getElem?_getD, List.getElem?_map, List.getElem?_eq_getElem hi]; rfl) 0
    exact this
  | none =>
    have h0 : l = [] := by
      rcases Nat.eq_zero_or_pos l.length with h | h
      · exact List.eq_nil_of_length_eq_zero h
      · obtain ⟨ad, ha, -⟩ := hl.2.2 h
        cases ha
    subst h0
    rfl
set_option maxRecDepth 100000 in
theorem bIndex_calls (A : Option Addr) (l : List Nat) (c : Nat) (w : World) (hl : RB w A l) :
    Calls Tryd.prog 48 #[.slice A l.length c, .int .u8 0] w fun e w' => e = .returned (.int .i64 (if nulN l < l.length then ((nulN l : Nat) : Int) else -1)) ∧ w = w' := by
  have h := run_index_bytes A l c w hl
  generalize (if nulN l < l.length then ((nulN l : Nat) : Int) else -1) = V at *
  clear hl
  go_enter Tryd.func48, Tryd.ntmps48
  go_wp2
  rw [run_callFunc_extern Tryd.func79 (by kernel_rfl) (by kernel_rfl) (by kernel_rfl) (e := Extern.BytealgIndexByte.indexByte) (by kernel_rfl), h]
  simp only [Result.andThen]
  rw [Oper.upon_value]
  go_wp2
  go_ret
  exact ⟨rfl, rfl⟩
/-- what a part of the header answers -/
def PartPost (r : Except Nat Nat) (q a : Nat) (w : World) (e : Ending) (w' : World) : Prop := match r with
  | .ok a' => e = .returned (.int .i64 0) ∧ Blk w' q 3 #[.int .i64 (a' : Int)] ∧ Only q w w'
  | .error x => x ≠ 0 ∧ e = .returned (.int .i64 (x : Int)) ∧ Blk w' q 3 #[.int .i64 (a : Int)] ∧ Only q w w'
set_option maxRecDepth 100000 in
set_option maxHeartbeats 1000000 in
theorem text_calls (q1 q6 : Nat) (A : Option Addr) (l : List Nat) (c a : Nat) (w : World) (h1 : Blk w q1 22 #[.slice A l.length c]) (h6 : Blk w q6 3 #[.int .i64 (a : Int)]) (hl : RB w A l) (hc : l.length ≤ c) (ha : a ≤ l.length) :
    Calls Tryd.prog 47 #[.pointer (some ⟨q1, 0, none⟩), .pointer (some ⟨q6, 0, none⟩)] w (PartPost (textN l a) q6 a w) := by
  have c1 : w.cell? ⟨q1, 0, none⟩ = some (.slice A l.length c) := h1.cell 0
  have c6 : w.cell? ⟨q6, 0, none⟩ = some (.int .i64 (a : Int)) := h6.cell 0
  have f6 := h6.frozen 0
  obtain ⟨A2, hA2⟩ : ∃ A2, A2 = if c = a then A else A.map (·.add a) := ⟨_, rfl⟩
  obtain ⟨M, hM⟩ : ∃ M, M = l.drop a := ⟨_, rfl⟩
  have hMl : M.length = l.length - a := by rw [hM, List.length_drop]
  have k1 : ∀ W, (Instr.slice 22 (.slice A l.length c) (some (.int .i64 (a : Int))) none none).run Tryd.prog W = .ok (.slice A2 M.length (c - a)) W := fun W => by
    rw [hA2, hMl]; exact cut_from_bytes A l.length c a ha W
  have hRB : RB w A2 M := by rw [hA2, hM]; exact hl.drop a c hc
  have IC := Bx.mk (bIndex_calls A2 M (c - a) w hRB)
  have hlen := hl.2.1
  have hnl := nulN_le M
  have hMb : M.length ≤ l.length := by omega
  clear hMl
  have HT : Bx (textN l a = if nulN M < M.length then .ok (a + (nulN M + 1)) else .error 7) := ⟨by rw [hM]; rfl⟩
  rw [HT.out]
  have B6 := Bx.mk h6
  clear h1 h6 hl hRB hA2 hM HT
  generalize nulN M = NN at *
  by_cases hlt : NN < M.length
  · rw [if_pos hlt] at IC ⊢
    have hneg : decide ((NN : Int) < 0) = false := decide_eq_false (by omega)
    have hw1 : IntKind.i64.wrap ((NN : Int) + 1) = ((NN + 1 : Nat) : Int) := by rw [IntWalk.i64_in _ (by omega)]; omega
    have hw2 : IntKind.i64.wrap ((a : Int) + ((NN + 1 : Nat) : Int)) = ((a + (NN + 1) : Nat) : Int) := by rw [IntWalk.i64_in _ (by omega)]; omega
    generalize a + (NN + 1) = V at *
    generalize NN + 1 = V1 at *
    have BN := Bx.mk (B6.out.set_ 0 (.int .i64 (V : Int)))
    have ON := Bx.mk (Only.set q6 0 (.int .i64 (V : Int)) w)
    go_enter Tryd.func47, Tryd.ntmps47
    go_wp2_with (go_at_call 48; fail)
    refine IC.out.mono ?_
    rintro e w1 ⟨rfl, rfl⟩
    go_wp2
    go_ret
    exact ⟨rfl, BN.out, ON.out⟩
  · rw [if_neg hlt] at IC ⊢
    go_enter Tryd.func47, Tryd.ntmps47
    go_wp2_with (go_at_call 48; fail)
    refine IC.out.mono ?_
    rintro e w1 ⟨rfl, rfl⟩
    go_wp2
    go_ret
    exact ⟨by decide, rfl, B6.out, Only.refl _ _⟩
set_option maxRecDepth 100000 in
set_option maxHeartbeats 1000000 in
theorem extra_calls (q1 q6 : Nat) (A : Option Addr) (l : List Nat) (c a : Nat) (w : World) (h1 : Blk w q1 22 #[.slice A l.length c]) (h6 : Blk w q6 3 #[.int .i64 (a : Int)]) (hl : RB w A l) (ha : a ≤ l.length) :
    Calls Tryd.prog 49 #[.pointer (some ⟨q1, 0, none⟩), .pointer (some ⟨q6, 0, none⟩)] w (PartPost (extraN l a) q6 a w) := by
  have c1 : w.cell? ⟨q1, 0, none⟩ = some (.slice A l.length c) := h1.cell 0
  have c6 : w.cell? ⟨q6, 0, none⟩ = some (.int .i64 (a : Int)) := h6.cell 0
  have f6 := h6.frozen 0
  have hlen := hl.2.1
  have B6 := Bx.mk h6
  by_cases h2 : a + 2 ≤ l.length
  · have GC := Bx.mk (Get_yes A l c a 2 w hl (by decide) (by decide) h2)
    have hnl : numAt l a 2 < 65536 := numAt_lt l a 2 h2 hl.1
    have HT : Bx (extraN l a = if numAt l a 2 + (a + 2) ≤ l.length then .ok (a + (2 + numAt l a 2)) else .error 7) := ⟨by unfold extraN; rw [if_pos h2]⟩
    rw [HT.out]
    clear h1 h6 hl HT
    generalize numAt l a 2 = NN at *
    have hs1 : IntKind.i64.wrap ((l.length : Int) - (a : Int)) = ((l.length - a : Nat) : Int) := by rw [IntWalk.i64_in _ (by omega)]; omega
    have hs2 : IntKind.i64.wrap (((l.length - a : Nat) : Int) - 2) = ((l.length - a - 2 : Nat) : Int) := by rw [IntWalk.i64_in _ (by omega)]; omega
    by_cases hlt : NN + (a + 2) ≤ l.length
    · rw [if_pos hlt]
      have hd : ¬ (l.length - a - 2 < NN) := by omega
      have hw1 : IntKind.i64.wrap (2 + (NN : Int)) = ((2 + NN : Nat) : Int) := by rw [IntWalk.i64_in _ (by omega)]; omega
      have hw2 : IntKind.i64.wrap ((a : Int) + ((2 + NN : Nat) : Int)) = ((a + (2 + NN) : Nat) : Int) := by rw [IntWalk.i64_in _ (by omega)]; omega
      generalize a + (2 + NN) = V at *
      generalize 2 + NN = V1 at *
      generalize l.length - a - 2 = D2 at *
      generalize l.length - a = D1 at *
      have BN := Bx.mk (B6.out.set_ 0 (.int .i64 (V : Int)))
      have ON := Bx.mk (Only.set q6 0 (.int .i64 (V : Int)) w)
      go_enter Tryd.func49, Tryd.ntmps49
      go_wp2_with (go_at_call 41; fail)
      refine GC.out.mono ?_
      rintro e w1 ⟨rfl, rfl⟩
      go_wp2
      go_ret
      exact ⟨rfl, BN.out, ON.out⟩
    · rw [if_neg hlt]
      have hd : l.length - a - 2 < NN := by omega
      generalize l.length - a - 2 = D2 at *
      generalize l.length - a = D1 at *
      go_enter Tryd.func49, Tryd.ntmps49
      go_wp2_with (go_at_call 41; fail)
      refine GC.out.mono ?_
      rintro e w1 ⟨rfl, rfl⟩
      go_wp2
      go_ret
      exact ⟨by decide, rfl, B6.out, Only.refl _ _⟩
  · have GC := Bx.mk (Get_no A l c (a : Int) 2 w (by unfold Fits; omega))
    have HT : Bx (extraN l a = .error 7) := ⟨by unfold extraN; rw [if_neg h2]⟩
    rw [HT.out]
    clear h1 h6 hl HT
    go_enter Tryd.func49, Tryd.ntmps49
    go_wp2_with (go_at_call 41; fail)
    refine GC.out.mono ?_
    rintro e w1 ⟨rfl, rfl⟩
    go_wp2
    go_ret
    exact ⟨by decide, rfl, B6.out, Only.refl _ _⟩
set_option maxRecDepth 100000 in
set_option maxHeartbeats 1000000 in
theorem sum_calls (q1 q6 : Nat) (A : Option Addr) (l : List Nat) (c a : Nat) (w : World) (h1 : Blk w q1 22 #[.slice A l.length c]) (h6 : Blk w q6 3 #[.int .i64 (a : Int)]) (hl : RB w A l) (hc : l.length ≤ c) (ha : a ≤ l.length) (hg : Half w) :
    Calls Tryd.prog 50 #[.pointer (some ⟨q1, 0, none⟩), .pointer (some ⟨q6, 0, none⟩)] w (PartPost (sumN l a) q6 a w) := by
  have c1 : w.cell? ⟨q1, 0, none⟩ = some (.slice A l.length c) := h1.cell 0
  have c6 : w.cell? ⟨q6, 0, none⟩ = some (.int .i64 (a : Int)) := h6.cell 0
  have f6 := h6.frozen 0
  have hlen := hl.2.1
  have B6 := Bx.mk h6
  by_cases h2 : a + 2 ≤ l.length
  · have GC := Bx.mk (Get_yes A l c a 2 w hl (by decide) (by decide) h2)
    have hnl : numAt l a 2 < 65536 := numAt_lt l a 2 h2 hl.1
    have sc := Sum_calls A (l.take a) c w (hl.take a) hg
    have htl : (l.take a).length = a := by rw [List.length_take]; omega
    rw [htl] at sc
    have SC := Bx.mk sc
    have hcb : moreS 0 (l.take a) < 4294967296 := moreS_lt 0 _ (by decide) (take_mem hl.1)
    have k1 := cut_to_bytes A l.length c a ha hc
    have HT : Bx (sumN l a = if numAt l a 2 = moreS 0 (l.take a) % 65536 then .ok (a + 2) else .error 121) := ⟨by unfold sumN; rw [if_pos h2]⟩
    rw [HT.out]
    clear h1 h6 hl HT hg sc htl
    generalize numAt l a 2 = NN at *
    generalize moreS 0 (l.take a) = S at *
    have hu : IntKind.u16.wrap (S : Int) = ((S % 65536 : Nat) : Int) := by simp [IntKind.wrap, IntKind.bits, IntKind.signed] <;> omega
    have hsm : S % 65536 < 65536 := Nat.mod_lt _ (by decide)
    generalize S % 65536 = S16 at *
    by_cases heq : NN = S16
    · rw [if_pos heq]
      have hne : ((NN : Int) != (S16 : Int)) = false := by rw [heq]; simp
      have hw2 : IntKind.i64.wrap ((a : Int) + 2) = ((a + 2 : Nat) : Int) := by rw [IntWalk.i64_in _ (by omega)]; omega
      generalize a + 2 = V at *
      have BN := Bx.mk (B6.out.set_ 0 (.int .i64 (V : Int)))
      have ON := Bx.mk (Only.set q6 0 (.int .i64 (V : Int)) w)
      clear heq
      go_enter Tryd.func50, Tryd.ntmps50
      go_wp2_with (go_at_call 41; fail)
      refine GC.out.mono ?_
      rintro e w1 ⟨rfl, rfl⟩
      go_wp2_with (go_at_call 23; fail)
      refine SC.out.mono ?_
      rintro e w1 ⟨rfl, rfl⟩
      go_wp2
      go_ret
      exact ⟨rfl, BN.out, ON.out⟩
    · rw [if_neg heq]
      have hne : ((NN : Int) != (S16 : Int)) = true := by rw [bne_iff_ne]; omega
      go_enter Tryd.func50, Tryd.ntmps50
      go_wp2_with (go_at_call 41; fail)
      refine GC.out.mono ?_
      rintro e w1 ⟨rfl, rfl⟩
      go_wp2_with (go_at_call 23; fail)
      refine SC.out.mono ?_
      rintro e w1 ⟨rfl, rfl⟩
      go_wp2
      go_ret
      exact ⟨by decide, rfl, B6.out, Only.refl _ _⟩
  · have GC := Bx.mk (Get_no A l c (a : Int) 2 w (by unfold Fits; omega))
    have HT : Bx (sumN l a = .error 7) := ⟨by unfold sumN; rw [if_neg h2]⟩
    rw [HT.out]
    clear h1 h6 hl HT hg
    go_enter Tryd.func50, Tryd.ntmps50
    go_wp2_with (go_at_call 41; fail)
    refine GC.out.mono ?_
    rintro e w1 ⟨rfl, rfl⟩
    go_wp2
    go_ret
    exact ⟨by decide, rfl, B6.out, Only.refl _ _⟩
end Go.Proofs.YtoekecopfmohiaaDoor
