import Derived.Test.YtkcifjgfgommoaaDoorDigRow
import Derived.Laws.CopyOwn
import Derived.Deep.RegionLaw
import Derived.Deep.MidRow
import Derived.Deep.WholeRow
import Derived.Deep.DeepCutAuto
import Derived.Deep.CutBlock
import Derived.StillTailTactics
/-
  Digests: press.
-/
namespace Go.Proofs.YtkcifjgfgommoaaDoor
open Go.RowKit

def u8s (l : List Nat) : Array Value := (l.map fun (x : Nat) => Value.int .u8 (x : Int)).toArray
theorem u8s_size (l : List Nat) : (u8s l).size = l.length := by simp [u8s]
theorem u8s_get (l : List Nat) (i : Nat) (h : i < l.length) : (u8s l)[i]? = some (.int .u8 ((l.getD i 0 : Nat) : Int)) := by
  unfold u8s
  rw [List.getElem?_toArray, List.getElem?_map, List.getD_eq_getElem?_getD, List.getElem?_eq_getElem h]
  rfl
def b8 (l : List Nat) : List Value := l.map fun (x : Nat) => Value.int .u8 (x : Int)
/-- the numbers that the package lays -/
structure Gl (w : World) : Prop where
  iv : ∀ j, j < 8 → w.cell? ⟨0, j, none⟩ = some (.int .u32 ((ivL.getD j 0 : Nat) : Int))
  rows : ∀ j, j < 160 → w.cell? ⟨1, j, none⟩ = some (.int .u8 ((rowsF.getD j 0 : Nat) : Int))
  lanes : ∀ j, j < 32 → w.cell? ⟨2, j, none⟩ = some (.int .u8 ((lanesF.getD j 0 : Nat) : Int))
theorem Gl.below {w w1 : World} (h : Gl w) (hb : Below w.heap.size w w1) : Gl w1 := ⟨fun j hj => cell_below hb (h.iv j hj), fun j hj => cell_below hb (h.rows j hj), fun j hj => cell_below hb (h.lanes j hj)⟩
theorem Blk.in_ {w w' : World} {g p : Nat} {t : TypeId} {cs : Array Value} (h : Blk w g t cs) (hb : Below p w w') (hp : g < p) : Blk w' g t cs := (hb.block g hp).trans h
theorem wd_list (l : List Nat) : (wd l) = (l.map fun (x : Nat) => Value.int .u32 (x : Int)).toArray := rfl
def ws (l : List Nat) : List Value := l.map fun (x : Nat) => Value.int .u32 (x : Int)
theorem ws_one (l : List Nat) : ∀ v ∈ ws l, v.oneCell' = true := fun v hv => by
  obtain ⟨x, _, rfl⟩ := List.mem_map.1 hv; rfl
theorem ws_len (l : List Nat) : (ws l).length = l.length := by simp [ws]
theorem ws_splice (l : List Nat) (k : Nat) (c : List Nat) : splice (ws l) k (ws c) = ws (splice l k c) := by
  unfold splice ws
  simp [List.map_take, List.map_drop]
theorem ws_get (l : List Nat) (j : Nat) (v : Value) (h : (ws l)[j]? = some v) : j < l.length ∧ v = .int .u32 ((l.getD j 0 : Nat) : Int) := by
  have hj : j < l.length := by
    have := (List.getElem?_eq_some_iff.1 h).1
    simpa [ws] using this
  refine ⟨hj, ?_⟩
  unfold ws at h
  rw [List.getElem?_map, List.getElem?_eq_getElem hj] at h
  rw [List.getD_eq_getElem?_getD, List.getElem?_eq_getElem hj]
  injection h with h
  exact h.symm
theorem gl_of_u32 : (do let i ← Tryd.prog.info? 38; pure i.size) = some 1 := by kernel_rfl
theorem size_u32 : (Tryd.prog.info? 38).map (·.size) = some 1 := by kernel_rfl
theorem Blk.new_ {w : World} {n : Nat} (h : w.heap.size = n) (t : TypeId) (cs : Array Value) : Blk (w.alloc (.cells cs t)) n t cs := by rw [← h]; exact Blk.new w t cs
theorem four_new {w W : World} {a b c d : Array Value} {t1 t2 t3 t4 : TypeId} (h : W = (((w.alloc (.cells a t1)).alloc (.cells b t2)).alloc (.cells c t3)).alloc (.cells d t4)) :
    Blk W w.heap.size t1 a ∧ Blk W (w.heap.size + 1) t2 b ∧ Blk W (w.heap.size + 1 + 1) t3 c ∧ Blk W (w.heap.size + 1 + 1 + 1) t4 d ∧ Below w.heap.size w W ∧ W.heap.size = w.heap.size + 4 := by
  subst h
  refine ⟨(((Blk.new w _ _).alloc _).alloc _).alloc _, ((Blk.new_ (by simp) _ _).alloc _).alloc _, (Blk.new_ (by simp) _ _).alloc _, Blk.new_ (by simp) _ _, ?_, by simp⟩
  have h1 := Below.refl w.heap.size w
  exact (((h1.alloc (Nat.le_refl _) _).alloc (by simp) _).alloc (by simp; omega) _).alloc (by simp; omega) _
theorem splice_two (h : List Nat) (hl : h.length = 8) : splice (splice (List.replicate 16 0) 0 h) 8 ivL = h ++ ivL := by
  have hi : ivL.length = 8 := rfl
  unfold splice
  rw [List.take_zero, List.nil_append, List.take_append_of_le_length (by omega), List.take_of_length_le (by omega), Nat.zero_add, hl, hi, List.drop_of_length_le, List.append_nil]
  rw [List.length_append, hl]; decide
/-- a word's beginning: of its first k bytes -/
def wordK (b : List Nat) (i : Nat) : Nat → Nat
  | 0 => 0
  | k + 1 => wordK b i k ||| b.getD (4 * i + k) 0 <<< (8 * k)
theorem wordK_four (b : List Nat) (i : Nat) : wordK b i 4 = wordOf b i := by simp [wordK, wordOf]
def mK (b : List Nat) (k : Nat) : List Nat := (List.range k).map (wordOf b) ++ List.replicate (16 - k) 0
theorem mK_len (b : List Nat) (k : Nat) (h : k ≤ 16) : (mK b k).length = 16 := by simp [mK]; omega
theorem mK_get (b : List Nat) (k : Nat) (h : k < 16) : (mK b k).getD k 0 = 0 := by
  unfold mK
  rw [List.getD_eq_getElem?_getD, List.getElem?_append_right (by simp)]
  simp only [List.length_map, List.length_range, Nat.sub_self, List.getElem?_replicate]
  rw [if_pos (by omega)]; rfl
theorem mK_set (b : List Nat) (k : Nat) (h : k < 16) : (mK b k).set k (wordOf b k) = mK b (k + 1) := by
  unfold mK
  rw [List.set_append_right _ _ (by simp), List.range_succ, List.map_append, List.append_assoc]
  congr 1
  simp only [List.length_map, List.length_range, Nat.sub_self]
  rw [show 16 - k = (16 - (k + 1)) + 1 by omega, List.replicate_succ]
  rfl
theorem getD_set_self (l : List Nat) (k x : Nat) (h : k < l.length) : (l.set k x).getD k 0 = x := by
  rw [List.getD_eq_getElem?_getD, List.getElem?_set_self h]; rfl
theorem set_getD_same (l : List Nat) (k : Nat) (h : k < l.length) : l.set k (l.getD k 0) = l := by
  rw [List.getD_eq_getElem?_getD, List.getElem?_eq_getElem h]; exact List.set_getElem_self h
theorem mK_set0 (b : List Nat) (k : Nat) (h : k < 16) : (mK b k).set k (wordK b k 0) = mK b k := by
  have := set_getD_same (mK b k) k (by rw [mK_len b k (by omega)]; exact h)
  rw [mK_get b k h] at this
  exact this
theorem byte_lt {b : List Nat} (hb : ∀ x ∈ b, x < 256) (j : Nat) : b.getD j 0 < 256 := by
  rw [List.getD_eq_getElem?_getD]
  rcases Nat.lt_or_ge j b.length with hi | hi
  · rw [List.getElem?_eq_getElem hi]; exact hb _ (List.getElem_mem hi)
  · rw [List.getElem?_eq_none hi]; decide
theorem shl_lt {x q : Nat} (hx : x < 256) (hq : q < 4) : x <<< (8 * q) < 4294967296 := by
  rw [Nat.shiftLeft_eq]
  obtain rfl | rfl | rfl | rfl : q = 0 ∨ q = 1 ∨ q = 2 ∨ q = 3 := by omega
  all_goals omega
theorem wordK_lt (b : List Nat) (hb : ∀ x ∈ b, x < 256) (i : Nat) : ∀ q, q ≤ 4 → wordK b i q < 4294967296
  | 0, _ => by show 0 < _; omega
  | q + 1, h => Nat.or_lt_two_pow (n := 32) (wordK_lt b hb i q (by omega)) (shl_lt (byte_lt hb _) (by omega))
theorem mK_all (b : List Nat) : mK b 16 = blockW b := by simp [mK, blockW]
theorem lanes_lt : ∀ i, i < 8 → lanesF.getD (4 * i) 0 < 16 ∧ lanesF.getD (4 * i + 1) 0 < 16 ∧ lanesF.getD (4 * i + 2) 0 < 16 ∧ lanesF.getD (4 * i + 3) 0 < 16 := by decide
theorem rowsF_lt : ∀ i, i < 160 → rowsF.getD i 0 < 16 := by decide
theorem rows_lt (r : Nat) (hr : r < 10) (j : Nat) (hj : j < 16) : rowsF.getD (16 * r + j) 0 < 16 := rowsF_lt _ (by omega)
theorem rw_get (r : Nat) {R : Nat → Array Value} (hR : ∀ r, R r = (b8 rowsF).toArray.extract (r * 16) (r * 16 + 16)) (hr : r < 10) (j : Nat) (hj : j < 16) : (R r)[j]? = some (.int .u8 ((rowsF.getD (16 * r + j) 0 : Nat) : Int)) := by
  rw [hR, Array.getElem?_extract]
  have hl : rowsF.length = 160 := rfl
  rw [if_pos (by simp [b8, hl]; omega), show r * 16 + j = 16 * r + j by omega]
  exact u8s_get rowsF _ (by omega)
theorem rw_size (r : Nat) {R : Nat → Array Value} (hR : ∀ r, R r = (b8 rowsF).toArray.extract (r * 16) (r * 16 + 16)) (hr : r < 10) : (R r).size = 16 := by
  have hl : rowsF.length = 160 := rfl
  rw [hR, Array.size_extract]; simp [b8, hl]; omega
theorem lanes_get : ∀ i, i < 8 → (b8 lanesF).toArray.extract (i * 4) (i * 4 + 4) = #[.int .u8 ((lanesF.getD (4 * i) 0 : Nat) : Int), .int .u8 ((lanesF.getD (4 * i + 1) 0 : Nat) : Int), .int .u8 ((lanesF.getD (4 * i + 2) 0 : Nat) : Int), .int .u8 ((lanesF.getD (4 * i + 3) 0 : Nat) : Int)] := fun i h => by
  obtain rfl | rfl | rfl | rfl | rfl | rfl | rfl | rfl : i = 0 ∨ i = 1 ∨ i = 2 ∨ i = 3 ∨ i = 4 ∨ i = 5 ∨ i = 6 ∨ i = 7 := by omega
  all_goals rfl

/-- the memory inside press: the state, the block, the words that are mixed -/
structure St (w : World) (p0 p1 p2 p3 : Nat) (h b V : List Nat) (x : World) : Prop where
  o : p0 = w.heap.size ∧ p1 = p0 + 1 ∧ p2 = p0 + 2 ∧ p3 = p0 + 3
  b0 : Blk x p0 40 (wd h)
  b1 : Blk x p1 41 (u8s b)
  b2 : Blk x p2 40 (wd (List.replicate 8 0))
  b3 : Blk x p3 49 (wd V)
  bel : Below p0 w x
  gl : Gl w
section
variable {w x x' : World} {p0 p1 p2 p3 : Nat} {h b V V' : List Nat}
theorem St.gx (s : St w p0 p1 p2 p3 h b V x) : Gl x := s.gl.below (s.o.1 ▸ s.bel)
theorem St.lt (s : St w p0 p1 p2 p3 h b V x) : p3 < x.heap.size := s.b3.lt
theorem St.le (s : St w p0 p1 p2 p3 h b V x) : p0 ≤ x.heap.size := by have := s.b0.lt; omega
theorem St.drew (s : St w p0 p1 p2 p3 h b V x) : St w p0 p1 p2 p3 h b V x.drew := ⟨s.o, s.b0, s.b1, s.b2, s.b3, s.bel.drew, s.gl⟩
theorem St.drewN (s : St w p0 p1 p2 p3 h b V x) (n : Nat) : St w p0 p1 p2 p3 h b V (x.drewN n) := ⟨s.o, s.b0, s.b1, s.b2, s.b3, below_drewN s.bel n, s.gl⟩
theorem St.alloc (s : St w p0 p1 p2 p3 h b V x) (o : Obj) : St w p0 p1 p2 p3 h b V (x.alloc o) := ⟨s.o, s.b0.alloc o, s.b1.alloc o, s.b2.alloc o, s.b3.alloc o, s.bel.alloc s.le o, s.gl⟩
theorem St.far (s : St w p0 p1 p2 p3 h b V x) {q : Addr} (hq : p3 < q.block) (u : Value) : St w p0 p1 p2 p3 h b V (x.setCell q u) := by
  have ho := s.o
  exact ⟨s.o, s.b0.far (by omega) u, s.b1.far (by omega) u, s.b2.far (by omega) u, s.b3.far (by omega) u, s.bel.setCell (by omega) u, s.gl⟩
theorem St.set3 (s : St w p0 p1 p2 p3 h b V x) (i z : Nat) : St w p0 p1 p2 p3 h b (V.set i z) (x.setCell ⟨p3, i, none⟩ (.int .u32 (z : Int))) := by
  have ho := s.o
  refine ⟨s.o, s.b0.far (by show _ ≠ p3; omega) _, s.b1.far (by show _ ≠ p3; omega) _, s.b2.far (by show _ ≠ p3; omega) _, ?_, s.bel.setCell (by show p0 ≤ p3; omega) _, s.gl⟩
  rw [← wd_set]; exact s.b3.set_ i _
theorem St.set0 (s : St w p0 p1 p2 p3 h b V x) (i z : Nat) : St w p0 p1 p2 p3 (h.set i z) b V (x.setCell ⟨p0, i, none⟩ (.int .u32 (z : Int))) := by
  have ho := s.o
  refine ⟨s.o, ?_, s.b1.far (by show _ ≠ p0; omega) _, s.b2.far (by show _ ≠ p0; omega) _, s.b3.far (by show _ ≠ p0; omega) _, s.bel.setCell (Nat.le_refl _) _, s.gl⟩
  rw [← wd_set]; exact s.b0.set_ i _
/-- behind a call that writes block p3 alone -/
theorem St.turn (s : St w p0 p1 p2 p3 h b V x) (hb : Below p3 x x') (h3 : Blk x' p3 49 (wd V')) : St w p0 p1 p2 p3 h b V' x' := by
  have ho := s.o
  exact ⟨s.o, s.b0.below hb (by omega), s.b1.below hb (by omega), s.b2.below hb (by omega), h3, s.bel.trans (hb.mono (by omega)), s.gl⟩
theorem St.first {W : World} (hw : W = (((w.alloc (Obj.cells (wd h) 40)).alloc (Obj.cells (u8s b) 41)).alloc (Obj.cells (wd (List.replicate 8 0)) 40)).alloc (Obj.cells (wd (List.replicate 16 0)) 49)) (hg : Gl w) :
    St w w.heap.size (w.heap.size + 1) (w.heap.size + 2) (w.heap.size + 3) h b (List.replicate 16 0) W := by
  obtain ⟨q0, q1, q2, q3, q4, q5⟩ := four_new hw
  exact ⟨⟨rfl, rfl, rfl, rfl⟩, q0, q1, q2, q3, q4, hg⟩
theorem b8_get (l : List Nat) (j : Nat) (v : Value) (h : (b8 l)[j]? = some v) : j < l.length ∧ v = .int .u8 ((l.getD j 0 : Nat) : Int) := by
  have hj : j < l.length := by
    have := (List.getElem?_eq_some_iff.1 h).1
    simpa [b8] using this
  refine ⟨hj, ?_⟩
  unfold b8 at h
  rw [List.getElem?_map, List.getElem?_eq_getElem hj] at h
  rw [List.getD_eq_getElem?_getD, List.getElem?_eq_getElem hj]
  injection h with h
  exact h.symm
theorem Gl.range_rows {w : World} (h : Gl w) : w.rangeAt 1 0 (b8 rowsF) := fun j v hv => by
  obtain ⟨hj, rfl⟩ := b8_get rowsF j v hv
  rw [Nat.zero_add]
  exact h.rows j hj
theorem Gl.range_lanes {w : World} (h : Gl w) : w.rangeAt 2 0 (b8 lanesF) := fun j v hv => by
  obtain ⟨hj, rfl⟩ := b8_get lanesF j v hv
  rw [Nat.zero_add]
  exact h.lanes j hj
end
end Go.Proofs.YtkcifjgfgommoaaDoor
