import Derived.Test.YtnncnjkpjlpodaaFlow5
/-
  The chapter's examples hold.
-/
namespace Go.Proofs.Ytnncnjkpjlpodaa
open Go.RowKit

theorem lsum_inj : ∀ (l m : List Nat), l.length = m.length → (∀ x ∈ l, x < 256) → (∀ x ∈ m, x < 256) → lsum l = lsum m → l = m
  | [], [], _, _, _, _ => rfl
  | [], y :: m, h, _, _, _ => by simp at h
  | x :: l, [], h, _, _, _ => by simp at h
  | x :: l, y :: m, h, h1, h2, h3 => by
    have hx := h1 x (by simp)
    have hy := h2 y (by simp)
    simp only [lsum] at h3
    have e : x = y := by omega
    have ih := lsum_inj l m (by simpa using h) (fun z hz => h1 z (by simp [hz])) (fun z hz => h2 z (by simp [hz])) (by omega)
    rw [e, ih]
theorem Bts.unique {l m : List Nat} {N a : Nat} (h : Bts l N a) (h' : Bts m N a) : l = m := lsum_inj l m (by rw [h.len, h'.len]) h.byte h'.byte (by rw [h.sum, h'.sum])
theorem OB.keep {w w' : World} {base : Nat} {v : Value} {l : List Nat} (h : OB w base v l) (hk : ∀ q, v.ownBlock = some q → w'.heap[q]? = w.heap[q]?) : OB w' base v l := by
  refine ⟨h.1, h.2.imp id ?_⟩
  rintro ⟨g, cap, cur, hv, hg, hh, r⟩
  exact ⟨g, cap, cur, hv, hg, (hk g (by rw [hv]; rfl)).trans hh, r⟩
theorem Wr.only {w w' : World} {g q N a : Nat} {v : Value} (h : Wr w g v N a) (ho : Only q w w') (hq : g ≠ q) (hv : v.ownBlock ≠ some q) : Wr w' g v N a := by
  obtain ⟨hb, l, h1, h2⟩ := h
  exact ⟨hb.only ho hq, l, h1, h2.keep (fun k hk => ho.keep k (fun hc => hv (by rw [hk, hc])))⟩
theorem WStep.blk {g q : Nat} {v v' : Value} {w w' : World} {t : TypeId} {cs : Array Value} (h : WStep g v w v' w') (hb : Blk w q t cs) (hq : q ≠ g) (hv : v.ownBlock ≠ some q) : Blk w' q t cs ∧ v'.ownBlock ≠ some q :=
  ⟨(h.keep q hb.lt hq hv).trans hb, fun hc => (h.own q hc).elim hv (fun h2 => by have := hb.lt; omega)⟩
theorem Reads.only {w w' : World} {B g size n : Nat} {A : Option Addr} {xs : List Value} (h : Reads w B size A n xs) (ho : Only g w w') (hB : B ≤ g) (hs : B ≤ w.heap.size) : Reads w' B size A n xs := h.below (ho.below B hB hs)
theorem Reads.step {w w' : World} {B g size n : Nat} {v v' : Value} {A : Option Addr} {xs : List Value} (h : Reads w B size A n xs) (ho : WStep g v w v' w') (hB : B ≤ g) (hs : B ≤ w.heap.size) : Reads w' B size A n xs := h.below (ho.below B hB hs)

set_option maxHeartbeats 2000000 in
theorem works_calls (w : World) : Calls Try.prog 14 #[] w fun e w' => e = .returned (.bool true) ∧ Below w.heap.size w w' := by
  go_enter Try.func14, Try.ntmps14
  have c1 : Calls Try.prog 19 #[.slice (some ⟨w.heap.size, 0, none⟩) 2 2] (w.alloc (.cells #[.int .u8 5, .int .u8 1] 5)) _ := New_calls _ 2 2 _
  have r0 := (RB.lit w 5 [5, 1] #[.int .u8 5, .int .u8 1] rfl (by decide) (by decide)).reads
  have b0 := below_alloc1 w (.cells #[.int .u8 5, .int .u8 1] 5)
  have hs0 : w.heap.size < (w.alloc (.cells #[.int .u8 5, .int .u8 1] 5)).heap.size := by simp
  have C1 := Bx.mk c1; have R0 := Bx.mk r0; have B0 := Bx.mk b0
  clear c1 r0 b0
  go_wp2_with fail
  refine C1.out.mono ?_
  rintro e w1 ⟨rfl, hw1⟩
  generalize w.alloc (.cells #[.int .u8 5, .int .u8 1] 5) = w0 at C1 R0 B0 hs0 hw1 ⊢
  have h1 : Blk w1 w0.heap.size 60 #[.slice (some ⟨w.heap.size, 0, none⟩) 2 2, .int .i64 ((0 : Nat) : Int), .bool true] := by rw [hw1]; exact Blk.new _ _ _
  have r1 : Reads w1 w0.heap.size 1 (some ⟨w.heap.size, 0, none⟩) 2 (bs [5, 1]) := by rw [hw1]; exact R0.out.alloc (Nat.le_refl _) _
  have b1 : Below w.heap.size w w1 := by rw [hw1]; exact B0.out.alloc (by omega) _
  have hs1 : w0.heap.size < w1.heap.size := by rw [hw1]; simp
  generalize hg : w0.heap.size = g at h1 r1 hs0 hs1 ⊢
  have H1 := Bx.mk h1; have R1 := Bx.mk r1; have B1 := Bx.mk b1; have G := Bx.mk hg
  clear h1 r1 b1 C1 R0 B0 hw1 hg
  go_wp2_with fail
  refine (Write_calls w1).mono ?_
  rintro e w2 ⟨rfl, hwr, hw2⟩
  have h2 : Blk w2 g 60 #[.slice (some ⟨w.heap.size, 0, none⟩) 2 2, .int .i64 ((0 : Nat) : Int), .bool true] := by rw [hw2]; exact H1.out.alloc _
  have r2 : Reads w2 g 1 (some ⟨w.heap.size, 0, none⟩) 2 (bs [5, 1]) := by rw [hw2]; exact R1.out.alloc (by omega) _
  have b2 : Below w.heap.size w w2 := by rw [hw2]; exact B1.out.alloc (by omega) _
  have hs2 : w1.heap.size < w2.heap.size := by rw [hw2]; simp
  generalize hgw : w1.heap.size = y at hwr hs1 hs2 ⊢
  have H2 := Bx.mk h2; have R2 := Bx.mk r2; have B2 := Bx.mk b2; have W2 := Bx.mk hwr; have Y := Bx.mk hgw
  clear h2 r2 b2 hwr hgw hw2
  have rd : ∀ {W : World}, Reads W g 1 (some ⟨w.heap.size, 0, none⟩) 2 (bs [5, 1]) → RB W (some ⟨w.heap.size, 0, none⟩) [5, 1] := fun h => RB.of_reads h (by decide) (by decide)
  have RD := Bx.mk @rd
  clear rd
  have Z2 : Bx (y < w2.heap.size) := ⟨hs2⟩
  clear hs2
  have c3 : Calls Try.prog 21 #[.pointer (some ⟨g, 0, none⟩), .int .i64 1] w2 fun e w' => e = .returned (.tuple #[.int .i64 1, .int .i64 0]) ∧ Blk w' g 60 #[.slice (some ⟨w.heap.size, 0, none⟩) 2 2, .int .i64 ((1 : Nat) : Int), .bool true] ∧ Only g w2 w' :=
    rTake_calls g (some ⟨w.heap.size, 0, none⟩) [5, 1] 2 0 1 w2 H2.out (RD.out R2.out) (by decide)
  have C3 := Bx.mk c3
  clear c3
  go_wp2_with fail
  refine C3.out.mono ?_
  rintro e w3 ⟨rfl, h3, o3⟩
  have hz := Z2.out
  have R3 := Bx.mk (R2.out.only o3 (Nat.le_refl _) (by omega))
  have W3 := Bx.mk (W2.out.only o3 (by omega) (by simp [Value.ownBlock]))
  have B3 := Bx.mk (B2.out.trans (o3.below _ (by omega) (by omega)))
  have H3 := Bx.mk h3
  have Z3 : Bx (y < w3.heap.size) := ⟨by rw [o3.size]; exact hz⟩
  clear h3 o3 C3 hz R2 H2 W2
  have c4 : Calls Try.prog 21 #[.pointer (some ⟨g, 0, none⟩), .int .i64 2] w3 fun e w' => e = .returned (.tuple #[.int .i64 2, .int .i64 0]) ∧ Blk w' g 60 #[.slice (some ⟨w.heap.size, 0, none⟩) 2 2, .int .i64 ((3 : Nat) : Int), .bool true] ∧ Only g w3 w' :=
    rTake_calls g (some ⟨w.heap.size, 0, none⟩) [5, 1] 2 1 2 w3 H3.out (RD.out R3.out) (by decide)
  have C4 := Bx.mk c4
  clear c4
  go_wp2_with fail
  refine C4.out.mono ?_
  rintro e w4 ⟨rfl, h4, o4⟩
  have hz := Z3.out
  have R4 := Bx.mk (R3.out.only o4 (Nat.le_refl _) (by omega))
  have W4 := Bx.mk (W3.out.only o4 (by omega) (by simp [Value.ownBlock]))
  have B4 := Bx.mk (B3.out.trans (o4.below _ (by omega) (by omega)))
  have H4 := Bx.mk h4
  have Z4 : Bx (y < w4.heap.size) := ⟨by rw [o4.size]; exact hz⟩
  clear h4 o4 C4 hz R3 H3 W3
  have c5 : Calls Try.prog 21 #[.pointer (some ⟨g, 0, none⟩), .int .i64 6] w4 fun e w' => e = .returned (.tuple #[.int .i64 32, .int .i64 0]) ∧ Blk w' g 60 #[.slice (some ⟨w.heap.size, 0, none⟩) 2 2, .int .i64 ((9 : Nat) : Int), .bool true] ∧ Only g w4 w' :=
    rTake_calls g (some ⟨w.heap.size, 0, none⟩) [5, 1] 2 3 6 w4 H4.out (RD.out R4.out) (by decide)
  have C5 := Bx.mk c5
  clear c5
  go_wp2_with fail
  refine C5.out.mono ?_
  rintro e w5 ⟨rfl, h5, o5⟩
  have hz := Z4.out
  have R5 := Bx.mk (R4.out.only o5 (Nat.le_refl _) (by omega))
  have W5 := Bx.mk (W4.out.only o5 (by omega) (by simp [Value.ownBlock]))
  have B5 := Bx.mk (B4.out.trans (o5.below _ (by omega) (by omega)))
  have H5 := Bx.mk h5
  have Z5 : Bx (y < w5.heap.size) := ⟨by rw [o5.size]; exact hz⟩
  clear h5 o5 C5 hz R4 H4 W4
  have c6 : Calls Try.prog 18 #[.pointer (some ⟨y, 0, none⟩), .int .i64 1, .int .i64 3] w5 fun e w' => e = .returned (.int .i64 0) ∧ ∃ v', Wr w' y v' 4 3 ∧ WStep y (.slice none 0 0) w5 v' w' := Code_yes y (.slice none 0 0) 0 0 1 3 w5 W5.out (by decide) (by decide) (by decide)
  have C6 := Bx.mk c6
  clear c6
  go_wp2_with fail
  refine C6.out.mono ?_
  rintro e w6 ⟨rfl, v6, wr6, s6⟩
  have hz := Z5.out
  obtain ⟨h6, n6⟩ := s6.blk H5.out (by omega) (by simp [Value.ownBlock])
  have R6 := Bx.mk (R5.out.step s6 (by omega) (by omega))
  have B6 := Bx.mk (B5.out.trans (s6.below _ (by omega) (by omega)))
  have H6 := Bx.mk h6
  have W6 := Bx.mk wr6
  have N6 := Bx.mk n6
  have Z6 : Bx (y < w6.heap.size) := ⟨Nat.lt_of_lt_of_le hz s6.size⟩
  clear h6 n6 wr6 s6 C6 hz R5 H5 W5
  have c7 : Calls Try.prog 17 #[.pointer (some ⟨y, 0, none⟩), .int .i64 1, .int .i64 3] w6 fun e w' => e = .returned (.int .i64 0) ∧ ∃ v', Wr w' y v' 12 6 ∧ WStep y v6 w6 v' w' := Put_yes y v6 4 3 1 3 w6 W6.out (by decide) (by decide) (by decide)
  have C7 := Bx.mk c7
  clear c7
  go_wp2_with fail
  refine C7.out.mono ?_
  rintro e w7 ⟨rfl, v7, wr7, s7⟩
  have hz := Z6.out
  obtain ⟨h7, n7⟩ := s7.blk H6.out (by omega) N6.out
  have B7 := Bx.mk (B6.out.trans (s7.below _ (by omega) (by omega)))
  have H7 := Bx.mk h7
  have W7 := Bx.mk wr7
  have Z7 : Bx (y < w7.heap.size) := ⟨Nat.lt_of_lt_of_le hz s7.size⟩
  clear h7 n7 wr7 s7 C7 hz R6 H6 W6 N6
  go_wp2_with fail
  refine (rAt_calls g _ 9 w7 H7.out).mono ?_
  rintro e w8 ⟨rfl, rfl⟩
  go_wp2_with fail
  refine (rLeft_calls g _ 2 2 9 w7 H7.out (by decide) (by decide)).mono ?_
  rintro e w8 ⟨rfl, k8, hw8⟩
  have B8 : Bx (Below w.heap.size w w8) := ⟨by rw [hw8]; exact below_drewN B7.out k8⟩
  have W8 : Bx (Wr w8 y v7 12 6) := ⟨by rw [hw8]; exact ⟨W7.out.blk, W7.out.own⟩⟩
  clear hw8
  go_wp2_with fail
  refine (wAll_calls y v7 12 6 w8 W8.out (by decide)).mono ?_
  rintro e w9 ⟨l, v9, hbt, rfl, ho9, hb9⟩
  obtain rfl : l = [12] := hbt.unique (m := [12]) ⟨by decide, by decide, by decide, by decide⟩
  obtain ⟨A9, c9, rfl⟩ := ho9.form
  have O9 := Bx.mk (ho9.rb (by decide) (by decide))
  have B9 := Bx.mk (below_then B8.out B8.out.size hb9)
  have hk9 := W8.out.blk
  have W9 : Bx (Blk w9 y 61 #[v7, .int .i64 ((6 : Nat) : Int), .bool true]) := ⟨hk9.below hb9 hk9.lt⟩
  have c10 : Calls Try.prog 31 #[.slice A9 1 c9, .slice (some ⟨w9.heap.size, 0, none⟩) 1 1] (w9.alloc (.cells #[.int .u8 12] 5)) _ :=
    SameBytes_calls A9 (some ⟨w9.heap.size, 0, none⟩) [12] [12] c9 1 _ (O9.out.below (below_alloc1 _ _)) (RB.lit _ _ [12] _ rfl (by decide) (by decide))
  rw [show decide (([12] : List Nat) = [12]) = true by decide] at c10
  have C10 := Bx.mk c10
  clear c10 hbt ho9 hb9 hk9
  go_wp2_with fail
  refine C10.out.mono ?_
  rintro e w10 ⟨rfl, k10, hw10⟩
  have B10 : Bx (Below w.heap.size w w10) := ⟨by rw [hw10]; exact below_drewN (below_then B9.out B9.out.size (below_alloc1 _ _)) k10⟩
  have W10 : Bx (Blk w10 y 61 #[v7, .int .i64 ((6 : Nat) : Int), .bool true]) := ⟨by rw [hw10]; exact W9.out.alloc _⟩
  clear hw10 C10
  go_wp2_with fail
  refine (wLen_calls y v7 6 w10 W10.out).mono ?_
  rintro e w11 ⟨rfl, rfl⟩
  go_wp2
  go_ret
  exact ⟨rfl, B10.out⟩
end Go.Proofs.Ytnncnjkpjlpodaa
