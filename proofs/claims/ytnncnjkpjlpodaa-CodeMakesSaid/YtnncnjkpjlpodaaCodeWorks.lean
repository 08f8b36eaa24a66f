import Derived.Test.YtnncnjkpjlpodaaCode5
import Derived.Test.YtnncnjkpjlpodaaFlowReadSt
/-
  The chapter's example holds.
-/
namespace Go.Proofs.Ytnncnjkpjlpodaa
open Go.RowKit

def okL (L : List Nat) : Prop := L.length ≤ 288 ∧ (∀ x ∈ L, x ≤ 15) ∧ goodC L
theorem CNew_yes (A : Option Addr) (L : List Nat) (c : Nat) (w : World) (hl : IR w A (zl L)) (h : okL L) :
    Calls Try.prog 42 #[.slice A L.length c] w fun e w' => ∃ g O Ln, e = .returned (.tuple #[.pointer (some ⟨g, 0, none⟩), .int .i64 0]) ∧ w.heap.size ≤ g ∧ Cd w' g O Ln L ∧ Below w.heap.size w w' :=
  (CNew_calls A L c w hl h.1 h.2.1).mono fun _ _ hp => let ⟨g, O, Ln, a, b, _, d, e⟩ := hp.1 h.2.2; ⟨g, O, Ln, a, b, d, e⟩
theorem CNew_no (A : Option Addr) (l : List Int) (c : Nat) (w : World) (hl : IR w A l) (hn : l.length * 8 ≤ 140737488351232) (h : ¬ ∃ L, l = zl L ∧ okL L) :
    Calls Try.prog 42 #[.slice A l.length c] w fun e w' => e = .returned (.tuple #[.pointer none, .int .i64 100]) ∧ Below w.heap.size w w' := by
  by_cases hb : 288 < l.length ∨ l.any oddB = true
  · exact (CNew_bad A l c w hl hn hb).mono fun e w' ⟨h1, h2⟩ => ⟨h1, by rw [← h2]; exact Below.refl _ _⟩
  · have h1 : l.length ≤ 288 := by
      rcases Nat.lt_or_ge 288 l.length with h2 | h2
      · exact absurd (.inl h2) hb
      · exact h2
    have h2 : ∀ x ∈ l, 0 ≤ x ∧ x ≤ 15 := fun x hx => by
      have h3 : l.any oddB = false := by
        cases hc : l.any oddB
        · rfl
        · exact absurd (.inr hc) hb
      rw [List.any_eq_false] at h3
      have := h3 x hx
      unfold oddB at this
      simp at this
      omega
    have e : l = zl (l.map Int.toNat) := by
      unfold zl
      rw [List.map_map]
      conv => lhs; rw [← List.map_id l]
      refine List.map_congr_left fun x hx => ?_
      have := (h2 x hx).1
      simp only [id, Function.comp]
      omega
    have hlen : (l.map Int.toNat).length = l.length := List.length_map ..
    have key := CNew_calls A (l.map Int.toNat) c w (by rw [← e]; exact hl) (by omega) (fun x hx => by
      obtain ⟨y, hy, rfl⟩ := List.mem_map.1 hx
      have := h2 y hy
      omega)
    rw [hlen] at key
    refine key.mono fun e' w' hp => hp.2 fun hg => h ⟨_, e, by omega, fun x hx => ?_, hg⟩
    obtain ⟨y, hy, rfl⟩ := List.mem_map.1 hx
    have := h2 y hy
    omega
theorem IR.lit (w : World) (t : TypeId) (l : List Int) (cs : Array Value) (h : cs.toList = is l) : IR (w.alloc (.cells cs t)) (some ⟨w.heap.size, 0, none⟩) l :=
  fun _ => ⟨_, rfl, fun j hj => by rw [add_plain, World.cell?_alloc_at _ _ _ _ rfl, ← Array.getElem?_toList, h, is_get l j hj]⟩
set_option maxRecDepth 100000 in
set_option maxHeartbeats 2000000 in
theorem cworks_calls (w : World) : Calls Try.prog 41 #[] w fun e w' => e = .returned (.bool true) ∧ Below w.heap.size w w' := by
  go_enter Try.func41, Try.ntmps41
  have n1 := CNew_yes (some ⟨w.heap.size, 0, none⟩) [2, 1, 3, 3] 4 _ (IR.lit w 3 (zl [2, 1, 3, 3]) #[.int .i64 2, .int .i64 1, .int .i64 3, .int .i64 3] rfl) ⟨by decide, by decide, by decide, .inl (by decide)⟩
  have N1 := Bx.mk n1
  have B1 := Bx.mk (below_alloc1 w (.cells #[.int .i64 2, .int .i64 1, .int .i64 3, .int .i64 3] 3))
  clear n1
  go_wp2_with fail
  refine N1.out.mono ?_
  rintro e w1 ⟨g, O, Ln, rfl, -, hC, hb⟩
  have C1 := Bx.mk hC
  have B2 := Bx.mk (below_then B1.out B1.out.size hb)
  clear hC hb N1 B1
  have wd : Calls Try.prog 43 #[.pointer (some ⟨g, 0, none⟩), .int .i64 2] w1 fun e w' => e = .returned (.tuple #[.int .i64 6, .int .i64 3, .int .i64 0]) ∧ w1 = w' :=
    Word_yes g O Ln [2, 1, 3, 3] 2 w1 C1.out (by decide) (by decide) (by decide) (by decide) (by decide)
  have WD := Bx.mk wd
  clear wd
  go_wp2_with fail
  refine WD.out.mono ?_
  rintro e w2 ⟨rfl, rfl⟩
  have n2 := CNew_no (some ⟨w1.heap.size, 0, none⟩) [1, 1, 1] 3 _ (IR.lit w1 3 [1, 1, 1] #[.int .i64 1, .int .i64 1, .int .i64 1] rfl) (by decide) (fun ⟨L, hL, hok⟩ => by
    have e : L = [1, 1, 1] := by
      have : zl L = zl [1, 1, 1] := hL.symm
      exact (List.map_inj_right (fun a b h => by omega)).1 this
    subst e
    have := hok.2.2.1
    exact absurd this (by decide))
  have N2 := Bx.mk n2
  have C2 := Bx.mk (C1.out.below (below_alloc1 w1 (.cells #[.int .i64 1, .int .i64 1, .int .i64 1] 3)))
  have B3 := Bx.mk (B2.out.alloc B2.out.size (.cells #[.int .i64 1, .int .i64 1, .int .i64 1] 3))
  clear n2 C1 B2 WD
  go_wp2_with fail
  refine N2.out.mono ?_
  rintro e w3 ⟨rfl, hb⟩
  have C3 := Bx.mk (C2.out.below hb)
  have B4 := Bx.mk (below_then B3.out B3.out.size hb)
  clear hb C2 B3 N2
  have n3 := CNew_no (some ⟨w3.heap.size, 0, none⟩) [2, 2] 2 _ (IR.lit w3 3 [2, 2] #[.int .i64 2, .int .i64 2] rfl) (by decide) (fun ⟨L, hL, hok⟩ => by
    have e : L = [2, 2] := by
      have : zl L = zl [2, 2] := hL.symm
      exact (List.map_inj_right (fun a b h => by omega)).1 this
    subst e
    have := hok.2.2.2
    exact absurd this (by decide))
  have N3 := Bx.mk n3
  have C4 := Bx.mk (C3.out.below (below_alloc1 w3 (.cells #[.int .i64 2, .int .i64 2] 3)))
  have B5 := Bx.mk (B4.out.alloc B4.out.size (.cells #[.int .i64 2, .int .i64 2] 3))
  clear n3 C3 B4
  go_wp2_with fail
  refine N3.out.mono ?_
  rintro e w4 ⟨rfl, hb⟩
  have C5 := Bx.mk (C4.out.below hb)
  have B6 := Bx.mk (below_then B5.out B5.out.size hb)
  clear hb C4 B5 N3
  have nw : Calls Try.prog 19 #[.slice (some ⟨w4.heap.size, 0, none⟩) 1 1] (w4.alloc (.cells #[.int .u8 3] 5)) _ := New_calls _ 1 1 _
  have NW := Bx.mk nw
  have R0 := Bx.mk (RB.lit w4 5 [3] #[.int .u8 3] rfl (by decide) (by decide)).reads
  have C6 := Bx.mk (C5.out.below (below_alloc1 w4 (.cells #[.int .u8 3] 5)))
  have B7 := Bx.mk (B6.out.alloc B6.out.size (.cells #[.int .u8 3] 5))
  clear nw C5 B6
  go_wp2_with fail
  refine NW.out.mono ?_
  rintro e w5 ⟨rfl, hw5⟩
  have h5 : Blk w5 (w4.alloc (.cells #[.int .u8 3] 5)).heap.size 60 #[.slice (some ⟨w4.heap.size, 0, none⟩) 1 1, .int .i64 ((0 : Nat) : Int), .bool true] := by rw [hw5]; exact Blk.new _ _ _
  have r5 : Reads w5 (w4.alloc (.cells #[.int .u8 3] 5)).heap.size 1 (some ⟨w4.heap.size, 0, none⟩) 1 (bs [3]) := by rw [hw5]; exact R0.out.alloc (Nat.le_refl _) _
  have c5 : Cd w5 g O Ln [2, 1, 3, 3] := by rw [hw5]; exact C6.out.below (below_alloc1 _ _)
  have b5 : Below w.heap.size w w5 := by rw [hw5]; exact B7.out.alloc B7.out.size _
  have hz5 : (w4.alloc (.cells #[.int .u8 3] 5)).heap.size ≤ w5.heap.size := by rw [hw5]; simp
  have hr := B7.out.size
  generalize (w4.alloc (.cells #[.int .u8 3] 5)).heap.size = r at h5 r5 hz5 hr ⊢
  have rd : Calls Try.prog 45 #[.pointer (some ⟨g, 0, none⟩), .pointer (some ⟨r, 0, none⟩)] w5 fun e w' => e = .returned (.tuple #[.int .i64 2, .int .i64 0]) ∧ Only r w5 w' :=
    (Read_calls g O Ln [2, 1, 3, 3] r (some ⟨w4.heap.size, 0, none⟩) [3] 1 0 w5 c5 (by decide) (by decide) h5 (fun w' ho => RB.of_reads (r5.only ho (Nat.le_refl _) hz5) (by decide) (by decide)) (by decide)).mono fun e w' h => ⟨h.1, h.2.2⟩
  have RD := Bx.mk rd
  have B5 := Bx.mk b5
  have HR := Bx.mk hr
  clear rd h5 r5 c5 b5 hz5 hr hw5
  go_wp2_with fail
  refine RD.out.mono ?_
  rintro e w6 ⟨rfl, ho⟩
  have B6 := Bx.mk (B5.out.trans (ho.below _ HR.out B5.out.size))
  clear ho
  go_wp2
  go_ret
  exact ⟨rfl, B6.out⟩
end Go.Proofs.Ytnncnjkpjlpodaa
