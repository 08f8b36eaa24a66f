import Derived.Test.YtkcifjgfgommoaaDoorDigBase
import Derived.BigRegion
/-
  Digests: turning a word, and mixing four of them.
-/
namespace Go.Proofs.YtkcifjgfgommoaaDoor
open Go.RowKit

/-- x turned right by n places -/
def rotr (x n : Nat) : Nat := (x >>> n ||| x <<< (32 - n)) % 4294967296
theorem rotr_lt (x n : Nat) : rotr x n < 4294967296 := Nat.mod_lt _ (by omega)
theorem rotr_split (x n : Nat) (hx : x < 4294967296) : rotr x n = (x <<< (32 - n)) % 4294967296 ||| x >>> n := by
  unfold rotr
  rw [show (4294967296 : Nat) = 2 ^ 32 from rfl, ← Nat.and_two_pow_sub_one_eq_mod, ← Nat.and_two_pow_sub_one_eq_mod, Nat.and_or_distrib_right, Nat.or_comm]
  congr 1
  rw [Nat.and_two_pow_sub_one_eq_mod, Nat.mod_eq_of_lt]
  rw [Nat.shiftRight_eq_div_pow]
  exact Nat.lt_of_le_of_lt (Nat.div_le_self _ _) hx
theorem rot_calls (x : Nat) (n : Nat) (m : Int) (w : World) (hx : x < 4294967296) (hn : n = 16 ∧ m = -16 ∨ n = 12 ∧ m = -12 ∨ n = 8 ∧ m = -8 ∨ n = 7 ∧ m = -7) :
    Calls Tryd.prog 32 #[.int .u32 x, .int .i64 m] w fun e w' => e = .returned (.int .u32 (rotr x n : Nat)) ∧ w = w' := by
  have hs := rotr_split x n hx
  have ho := u32_or_nat ((x <<< (32 - n)) % 4294967296) (x >>> n) (by omega) (by rw [Nat.shiftRight_eq_div_pow]; exact Nat.lt_of_le_of_lt (Nat.div_le_self _ _) hx)
  rw [← hs] at ho
  clear hs
  generalize rotr x n = R at ho
  rw [Nat.shiftRight_eq_div_pow, Nat.shiftLeft_eq] at ho
  have HO := Bx.mk ho
  clear ho
  rcases hn with ⟨rfl, rfl⟩ | ⟨rfl, rfl⟩ | ⟨rfl, rfl⟩ | ⟨rfl, rfl⟩
  · have hb : bits .and .u64 (IntKind.u64.wrap (-16)) 31 = 16 := by decide
    go_enter Tryd.func32, Tryd.ntmps32
    go_wp2
    go_ret
    exact ⟨ret_int (by have h := HO.out; simpa using h), rfl⟩
  · have hb : bits .and .u64 (IntKind.u64.wrap (-12)) 31 = 20 := by decide
    go_enter Tryd.func32, Tryd.ntmps32
    go_wp2
    go_ret
    exact ⟨ret_int (by have h := HO.out; simpa using h), rfl⟩
  · have hb : bits .and .u64 (IntKind.u64.wrap (-8)) 31 = 24 := by decide
    go_enter Tryd.func32, Tryd.ntmps32
    go_wp2
    go_ret
    exact ⟨ret_int (by have h := HO.out; simpa using h), rfl⟩
  · have hb : bits .and .u64 (IntKind.u64.wrap (-7)) 31 = 25 := by decide
    go_enter Tryd.func32, Tryd.ntmps32
    go_wp2
    go_ret
    exact ⟨ret_int (by have h := HO.out; simpa using h), rfl⟩

/-- words as cells -/
def wd (l : List Nat) : Array Value := (l.map fun (x : Nat) => Value.int .u32 (x : Int)).toArray
theorem wd_size (l : List Nat) : (wd l).size = l.length := by simp [wd]
theorem wd_get (l : List Nat) (i : Nat) (h : i < l.length) : (wd l)[i]? = some (.int .u32 ((l.getD i 0 : Nat) : Int)) := by
  unfold wd
  rw [List.getElem?_toArray, List.getElem?_map, List.getD_eq_getElem?_getD, List.getElem?_eq_getElem h]
  rfl
theorem wd_set (l : List Nat) (i x : Nat) : (wd l).setIfInBounds i (.int .u32 (x : Int)) = wd (l.set i x) := by
  unfold wd
  rw [List.setIfInBounds_toArray, List.map_set]
/-- what four words become -/
structure Q4 where (a b c d : Nat)
def mixQ (q : Q4) (x y : Nat) : Q4 :=
  let a1 := (q.a + (q.b + x) % 4294967296) % 4294967296
  let d1 := rotr (q.d ^^^ a1) 16
  let c1 := (q.c + d1) % 4294967296
  let b1 := rotr (q.b ^^^ c1) 12
  let a2 := (a1 + (b1 + y) % 4294967296) % 4294967296
  let d2 := rotr (d1 ^^^ a2) 8
  let c2 := (c1 + d2) % 4294967296
  let b2 := rotr (b1 ^^^ c2) 7
  ⟨a2, b2, c2, d2⟩
def mixN (v : List Nat) (a b c d x y : Nat) : List Nat :=
  let r := mixQ ⟨v.getD a 0, v.getD b 0, v.getD c 0, v.getD d 0⟩ x y
  (((v.set a r.a).set b r.b).set c r.c).set d r.d
set_option maxRecDepth 100000 in
set_option maxHeartbeats 4000000 in
theorem mix_calls (g : Nat) (v : List Nat) (a b c d x y : Nat) (w : World) (h : Blk w g 49 (wd v)) (hv : v.length = 16) (hb : ∀ z ∈ v, z < 4294967296)
    (ha : a < 16) (hb2 : b < 16) (hc : c < 16) (hd : d < 16) :
    Calls Tryd.prog 27 #[.pointer (some ⟨g, 0, none⟩), .agg #[.int .u8 a, .int .u8 b, .int .u8 c, .int .u8 d], .int .u32 x, .int .u32 y] w fun e w' =>
      e = .returned (.tuple #[]) ∧ Blk w' g 49 (wd (mixN v a b c d x y)) ∧ Below g w w' ∧ ∀ q, q < w.heap.size → q ≠ g → w'.heap[q]? = w.heap[q]? := by
  go_enter Tryd.func27, Tryd.ntmps27
  go_wp2
  obtain ⟨W, hW⟩ : ∃ W, W = w.alloc (.cells #[.int .u8 a, .int .u8 b, .int .u8 c, .int .u8 d] 52) := ⟨_, rfl⟩
  rw [← hW]
  have HB : Bx (Blk W g 49 (wd v)) := ⟨by rw [hW]; exact h.alloc _⟩
  have hl : Blk W w.heap.size 52 #[.int .u8 a, .int .u8 b, .int .u8 c, .int .u8 d] := by rw [hW]; exact Blk.new w _ _
  have HW : Bx (Below g w W ∧ ∀ q, q < w.heap.size → W.heap[q]? = w.heap[q]?) := ⟨by rw [hW]; exact (Below.refl _ _).alloc (by have := h.lt; omega) _, fun q hq => by rw [hW]; exact Below.heap_alloc w _ q hq⟩
  have hne : w.heap.size ≠ g := by have := h.lt; omega
  clear hW h
  have l0 := hl.cell 0
  have l1 := hl.cell 1
  have l2 := hl.cell 2
  have l3 := hl.cell 3
  have ca := (HB.out.cell a).trans (wd_get v a (by omega))
  have cb := (HB.out.cell b).trans (wd_get v b (by omega))
  have cc := (HB.out.cell c).trans (wd_get v c (by omega))
  have cd := (HB.out.cell d).trans (wd_get v d (by omega))
  generalize hS : w.heap.size = S at *
  have HS := Bx.mk hS
  clear hS
  have gl : ∀ i, i < 16 → v.getD i 0 < 4294967296 := fun i hi => by
    rw [List.getD_eq_getElem?_getD, List.getElem?_eq_getElem (by omega)]; exact hb _ (List.getElem_mem _)
  have hM : Bx (mixN v a b c d x y = (((v.set a (mixQ ⟨v.getD a 0, v.getD b 0, v.getD c 0, v.getD d 0⟩ x y).a).set b (mixQ ⟨v.getD a 0, v.getD b 0, v.getD c 0, v.getD d 0⟩ x y).b).set c (mixQ ⟨v.getD a 0, v.getD b 0, v.getD c 0, v.getD d 0⟩ x y).c).set d (mixQ ⟨v.getD a 0, v.getD b 0, v.getD c 0, v.getD d 0⟩ x y).d) := ⟨rfl⟩
  have ga := gl a ha
  have gb := gl b hb2
  have gc := gl c hc
  have gd := gl d hd
  clear gl
  generalize hMX : mixN v a b c d x y = MX at *
  have HMX := Bx.mk hMX
  clear hMX
  generalize v.getD a 0 = A at *
  generalize v.getD b 0 = B at *
  generalize v.getD c 0 = C at *
  generalize v.getD d 0 = D at *
  have ia : (a : Int) < 16 := by omega
  have ib : (b : Int) < 16 := by omega
  have ic : (c : Int) < 16 := by omega
  have id_ : (d : Int) < 16 := by omega
  obtain ⟨bx, hbx⟩ : ∃ n, n = (B + x) % 4294967296 := ⟨_, rfl⟩
  obtain ⟨a1, ha1⟩ : ∃ n, n = (A + bx) % 4294967296 := ⟨_, rfl⟩
  obtain ⟨x1, hx1⟩ : ∃ n, n = D ^^^ a1 := ⟨_, rfl⟩
  obtain ⟨d1, hd1⟩ : ∃ n, n = rotr x1 16 := ⟨_, rfl⟩
  obtain ⟨c1, hc1⟩ : ∃ n, n = (C + d1) % 4294967296 := ⟨_, rfl⟩
  obtain ⟨x2, hx2⟩ : ∃ n, n = B ^^^ c1 := ⟨_, rfl⟩
  obtain ⟨b1, hb1⟩ : ∃ n, n = rotr x2 12 := ⟨_, rfl⟩
  obtain ⟨by_, hby⟩ : ∃ n, n = (b1 + y) % 4294967296 := ⟨_, rfl⟩
  obtain ⟨a2, ha2⟩ : ∃ n, n = (a1 + by_) % 4294967296 := ⟨_, rfl⟩
  obtain ⟨x3, hx3⟩ : ∃ n, n = d1 ^^^ a2 := ⟨_, rfl⟩
  obtain ⟨d2, hd2⟩ : ∃ n, n = rotr x3 8 := ⟨_, rfl⟩
  obtain ⟨c2, hc2⟩ : ∃ n, n = (c1 + d2) % 4294967296 := ⟨_, rfl⟩
  obtain ⟨x4, hx4⟩ : ∃ n, n = b1 ^^^ c2 := ⟨_, rfl⟩
  obtain ⟨b2, hb2_⟩ : ∃ n, n = rotr x4 7 := ⟨_, rfl⟩
  have hQ : mixQ ⟨A, B, C, D⟩ x y = ⟨a2, b2, c2, d2⟩ := by
    subst hbx; subst ha1; subst hx1; subst hd1; subst hc1; subst hx2; subst hb1; subst hby; subst ha2; subst hx3; subst hd2; subst hc2; subst hx4; subst hb2_
    rfl
  have hM2 : Bx (MX = (((v.set a a2).set b b2).set c c2).set d d2) := ⟨by rw [hM.out, hQ]⟩
  clear hM hQ
  have la1 : a1 < 4294967296 := by omega
  have ld1 : d1 < 4294967296 := by rw [hd1]; exact rotr_lt _ _
  have lb1 : b1 < 4294967296 := by rw [hb1]; exact rotr_lt _ _
  have ld2 : d2 < 4294967296 := by rw [hd2]; exact rotr_lt _ _
  have lc1 : c1 < 4294967296 := by omega
  have la2 : a2 < 4294967296 := by omega
  have lc2 : c2 < 4294967296 := by omega
  have X1 := u32_xor_nat D a1 gd la1
  have X2 := u32_xor_nat B c1 gb lc1
  have X3 := u32_xor_nat d1 a2 ld1 la2
  have X4 := u32_xor_nat b1 c2 lb1 lc2
  rw [← hx1] at X1
  rw [← hx2] at X2
  rw [← hx3] at X3
  rw [← hx4] at X4
  have R1 := Bx.mk (fun W' => rot_calls x1 16 (-16) W' (by rw [hx1]; exact Nat.xor_lt_two_pow (n := 32) gd la1) (by omega))
  have R2 := Bx.mk (fun W' => rot_calls x2 12 (-12) W' (by rw [hx2]; exact Nat.xor_lt_two_pow (n := 32) gb lc1) (by omega))
  have R3 := Bx.mk (fun W' => rot_calls x3 8 (-8) W' (by rw [hx3]; exact Nat.xor_lt_two_pow (n := 32) ld1 la2) (by omega))
  have R4 := Bx.mk (fun W' => rot_calls x4 7 (-7) W' (by rw [hx4]; exact Nat.xor_lt_two_pow (n := 32) lb1 lc2) (by omega))
  simp only [← hd1] at R1
  simp only [← hb1] at R2
  simp only [← hd2] at R3
  simp only [← hb2_] at R4
  have s1 : ((B : Int) + (x : Int)) % 4294967296 = (bx : Int) := by omega
  have s2 : ((A : Int) + (bx : Int)) % 4294967296 = (a1 : Int) := by omega
  have s3 : ((C : Int) + (d1 : Int)) % 4294967296 = (c1 : Int) := by omega
  have s4 : ((b1 : Int) + (y : Int)) % 4294967296 = (by_ : Int) := by omega
  have s5 : ((a1 : Int) + (by_ : Int)) % 4294967296 = (a2 : Int) := by omega
  have s6 : ((c1 : Int) + (d2 : Int)) % 4294967296 = (c2 : Int) := by omega
  clear hbx ha1 hx1 hd1 hc1 hx2 hb1 hby ha2 hx3 hd2 hc2 hx4 hb2_ la1 ld1 lb1 ld2 lc1 la2 lc2 ga gb gc gd hb
  go_quiet (fail)
  go_wp2_with fail
  refine (R1.out _).mono ?_
  rintro e w1 ⟨rfl, rfl⟩
  go_wp2_with fail
  refine (R2.out _).mono ?_
  rintro e w1 ⟨rfl, rfl⟩
  go_wp2_with fail
  refine (R3.out _).mono ?_
  rintro e w1 ⟨rfl, rfl⟩
  go_wp2_with fail
  refine (R4.out _).mono ?_
  rintro e w1 ⟨rfl, rfl⟩
  go_wp2_with fail
  clear R1 R2 R3 R4 X1 X2 X3 X4 s1 s2 s3 s4 s5 s6 ca cb cc cd l0 l1 l2 l3
  obtain ⟨W2, hW2⟩ : ∃ W2, W2 = W.drewN nq := ⟨_, rfl⟩
  rw [← hW2]
  have HB2 : Blk W2 g 49 (wd v) := by rw [hW2]; exact HB.out.drewN nq
  have hl2 : Blk W2 S 52 #[.int .u8 a, .int .u8 b, .int .u8 c, .int .u8 d] := by rw [hW2]; exact hl.drewN nq
  have HW2 : Bx (Below g w W2 ∧ ∀ q, q < S → W2.heap[q]? = w.heap[q]?) := ⟨by rw [hW2]; exact below_drewN HW.out.1 nq, fun q hq => by rw [hW2]; exact HW.out.2 q hq⟩
  clear hW2 HB hl HW
  have l0 := hl2.cell 0
  have l1 := hl2.cell 1
  have l2 := hl2.cell 2
  have l3 := hl2.cell 3
  have ca := (HB2.cell a).trans (wd_get v a (by omega))
  have cb := (HB2.cell b).trans (wd_get v b (by omega))
  have cc := (HB2.cell c).trans (wd_get v c (by omega))
  have cd := (HB2.cell d).trans (wd_get v d (by omega))
  have ST : ∀ {w' : World} {u : List Nat} (_ : Blk w' g 49 (wd u)) (i z : Nat), Blk (w'.setCell ⟨g, i, none⟩ (.int .u32 (z : Int))) g 49 (wd (u.set i z)) := fun hk i z => by
    rw [← wd_set]; exact hk.set_ i _
  have B3 := ST HB2 a a2
  have B4 := ST B3 b b2
  have B5 := ST B4 c c2
  have B6 := Bx.mk (ST B5 d d2)
  have e3 := (B3.cell b).trans (wd_get _ b (by simp; omega))
  have e4 := (B4.cell c).trans (wd_get _ c (by simp; omega))
  have e5 := (B5.cell d).trans (wd_get _ d (by simp; omega))
  have f2 := HB2.frozen a
  have f3 := B3.frozen b
  have f4 := B4.frozen c
  have f5 := B5.frozen d
  rw [← hM2.out] at B6
  have FAR : Bx (∀ q, q < S → q ≠ g → ((((W2.setCell ⟨g, a, none⟩ (.int .u32 (a2 : Int))).setCell ⟨g, b, none⟩ (.int .u32 (b2 : Int))).setCell ⟨g, c, none⟩ (.int .u32 (c2 : Int))).setCell ⟨g, d, none⟩ (.int .u32 (d2 : Int))).heap[q]? = w.heap[q]?) := ⟨fun q hq hg => by
    rw [Below.heap_setCell _ _ _ _ (by exact hg), Below.heap_setCell _ _ _ _ (by exact hg), Below.heap_setCell _ _ _ _ (by exact hg), Below.heap_setCell _ _ _ _ (by exact hg)]
    exact HW2.out.2 q hq⟩
  have SZ : Bx (Below g w ((((W2.setCell ⟨g, a, none⟩ (.int .u32 (a2 : Int))).setCell ⟨g, b, none⟩ (.int .u32 (b2 : Int))).setCell ⟨g, c, none⟩ (.int .u32 (c2 : Int))).setCell ⟨g, d, none⟩ (.int .u32 (d2 : Int)))) := ⟨(((HW2.out.1.setCell (Nat.le_refl g) _).setCell (Nat.le_refl g) _).setCell (Nat.le_refl g) _).setCell (Nat.le_refl g) _⟩
  generalize (v.set a a2).getD b 0 = Y1 at e3
  generalize ((v.set a a2).set b b2).getD c 0 = Y2 at e4
  generalize (((v.set a a2).set b b2).set c c2).getD d 0 = Y3 at e5
  clear ST B3 B4 B5 HB2 hl2 HW2 hM2
  go_region
  go_wp2
  go_end0
  exact ⟨rfl, by rw [HMX.out]; exact B6.out.drew, SZ.out.drew, fun q hq hg => FAR.out q (by rw [← HS.out]; exact hq) hg⟩
end Go.Proofs.YtkcifjgfgommoaaDoor
