import Derived.Test.YtkcifjgfgommoaaDoorDig1
/-
  Digests: the numbers of the method, and what a block makes of a state, as plain functions.
-/
namespace Go.Proofs.YtkcifjgfgommoaaDoor
open Go.RowKit

def ivL : List Nat := [1779033703, 3144134277, 1013904242, 2773480762, 1359893119, 2600822924, 528734635, 1541459225]
def rowsF : List Nat := [0, 1, 2, 3, 4, 5, 6, 7, 8, 9, 10, 11, 12, 13, 14, 15, 14, 10, 4, 8, 9, 15, 13, 6, 1, 12, 0, 2, 11, 7, 5, 3, 11, 8, 12, 0, 5, 2, 15, 13, 10, 14, 3, 6, 7, 1, 9, 4, 7, 9, 3, 1, 13, 12, 11, 14, 2, 6, 5, 10, 4, 0, 15, 8, 9, 0, 5, 7, 2, 4, 10, 15, 14, 1, 11, 12, 6, 8, 3, 13, 2, 12, 6, 10, 0, 11, 8, 3, 4, 13, 7, 5, 15, 14, 1, 9, 12, 5, 1, 15, 14, 13, 4, 10, 0, 7, 6, 3, 9, 2, 8, 11, 13, 11, 7, 14, 12, 1, 3, 9, 5, 0, 15, 4, 8, 6, 2, 10, 6, 15, 14, 9, 11, 3, 0, 8, 12, 2, 13, 7, 1, 4, 10, 5, 10, 2, 8, 4, 7, 6, 1, 5, 15, 11, 9, 14, 3, 12, 13, 0]
def lanesF : List Nat := [0, 4, 8, 12, 1, 5, 9, 13, 2, 6, 10, 14, 3, 7, 11, 15, 0, 5, 10, 15, 1, 6, 11, 12, 2, 7, 8, 13, 3, 4, 9, 14]
/-- a word of a block, of four bytes -/
def wordOf (b : List Nat) (i : Nat) : Nat := ((b.getD (4 * i) 0 ||| b.getD (4 * i + 1) 0 <<< 8) ||| b.getD (4 * i + 2) 0 <<< 16) ||| b.getD (4 * i + 3) 0 <<< 24
def blockW (b : List Nat) : List Nat := (List.range 16).map (wordOf b)
/-- the words that are mixed, at first -/
def firstV (h : List Nat) (taken : Nat) (last : Bool) : List Nat :=
  let v := h ++ ivL
  let v := v.set 12 (v.getD 12 0 ^^^ taken % 4294967296)
  let v := v.set 13 (v.getD 13 0 ^^^ taken / 4294967296)
  if last then v.set 14 (4294967295 - v.getD 14 0) else v
/-- one mixing: of round r, at place i -/
def mixAt (m : List Nat) (r i : Nat) (v : List Nat) : List Nat :=
  mixN v (lanesF.getD (4 * i) 0) (lanesF.getD (4 * i + 1) 0) (lanesF.getD (4 * i + 2) 0) (lanesF.getD (4 * i + 3) 0) (m.getD (rowsF.getD (16 * r + 2 * i) 0) 0) (m.getD (rowsF.getD (16 * r + (2 * i + 1)) 0) 0)
def mixRow (m : List Nat) (r : Nat) : Nat → List Nat → List Nat
  | 0, v => v
  | i + 1, v => mixAt m r i (mixRow m r i v)
def mixAll (m : List Nat) : Nat → List Nat → List Nat
  | 0, v => v
  | r + 1, v => mixRow m r 8 (mixAll m r v)
/-- a state behind a block -/
def pressN (h b : List Nat) (taken : Nat) (last : Bool) : List Nat :=
  let v := mixAll (blockW b) 10 (firstV h taken last)
  (List.range 8).map fun i => h.getD i 0 ^^^ (v.getD i 0 ^^^ v.getD (i + 8) 0)

def W32 (l : List Nat) : Prop := ∀ z ∈ l, z < 4294967296
theorem W32.get {l : List Nat} (h : W32 l) (i : Nat) : l.getD i 0 < 4294967296 := by
  rw [List.getD_eq_getElem?_getD]
  rcases Nat.lt_or_ge i l.length with hi | hi
  · rw [List.getElem?_eq_getElem hi]; exact h _ (List.getElem_mem hi)
  · rw [List.getElem?_eq_none hi]; decide
theorem W32.set_ {l : List Nat} (h : W32 l) (i : Nat) {x : Nat} (hx : x < 4294967296) : W32 (l.set i x) := fun z hz => by
  rcases List.mem_or_eq_of_mem_set hz with h1 | h1
  · exact h z h1
  · rw [h1]; exact hx
theorem mixQ_lt (q : Q4) (x y : Nat) : (mixQ q x y).a < 4294967296 ∧ (mixQ q x y).b < 4294967296 ∧ (mixQ q x y).c < 4294967296 ∧ (mixQ q x y).d < 4294967296 :=
  ⟨Nat.mod_lt _ (by omega), rotr_lt _ _, Nat.mod_lt _ (by omega), rotr_lt _ _⟩
theorem mixN_w32 {v : List Nat} (h : W32 v) (a b c d x y : Nat) : W32 (mixN v a b c d x y) := by
  have hq := mixQ_lt ⟨v.getD a 0, v.getD b 0, v.getD c 0, v.getD d 0⟩ x y
  exact (((h.set_ a hq.1).set_ b hq.2.1).set_ c hq.2.2.1).set_ d hq.2.2.2
theorem mixN_len (v : List Nat) (a b c d x y : Nat) : (mixN v a b c d x y).length = v.length := by simp [mixN]
theorem mixRow_len (m : List Nat) (r : Nat) (v : List Nat) : ∀ i, (mixRow m r i v).length = v.length
  | 0 => rfl
  | i + 1 => (mixN_len ..).trans (mixRow_len m r v i)
theorem mixRow_w32 (m : List Nat) (r : Nat) {v : List Nat} (h : W32 v) : ∀ i, W32 (mixRow m r i v)
  | 0 => h
  | i + 1 => by unfold mixRow mixAt; exact mixN_w32 (mixRow_w32 m r h i) _ _ _ _ _ _
theorem mixAll_len (m : List Nat) (v : List Nat) : ∀ r, (mixAll m r v).length = v.length
  | 0 => rfl
  | r + 1 => (mixRow_len ..).trans (mixAll_len m v r)
theorem mixAll_w32 (m : List Nat) {v : List Nat} (h : W32 v) : ∀ r, W32 (mixAll m r v)
  | 0 => h
  | r + 1 => mixRow_w32 m r (mixAll_w32 m h r) 8
theorem ivL_w32 : W32 ivL := by unfold W32; decide
theorem firstV_w32 {h : List Nat} (hh : W32 h) (hl : h.length = 8) (taken : Nat) (ht : taken < 18446744073709551616) (last : Bool) : W32 (firstV h taken last) ∧ (firstV h taken last).length = 16 := by
  have h0 : W32 (h ++ ivL) := fun z hz => by rcases List.mem_append.1 hz with h1 | h1; exact hh z h1; exact ivL_w32 z h1
  have h1 := h0.set_ 12 (Nat.xor_lt_two_pow (n := 32) (h0.get 12) (show taken % 4294967296 < 2 ^ 32 from Nat.mod_lt _ (by omega)))
  have h2 := h1.set_ 13 (Nat.xor_lt_two_pow (n := 32) (h1.get 13) (show taken / 4294967296 < 2 ^ 32 by omega))
  have hlen : (h ++ ivL).length = 16 := by rw [List.length_append, hl]; rfl
  unfold firstV
  cases last
  · exact ⟨h2, by simpa using hlen⟩
  · exact ⟨h2.set_ 14 (by omega), by simpa using hlen⟩
theorem wordOf_lt (b : List Nat) (hb : ∀ x ∈ b, x < 256) (i : Nat) : wordOf b i < 4294967296 := by
  have g : ∀ j, b.getD j 0 < 256 := fun j => by
    rw [List.getD_eq_getElem?_getD]
    rcases Nat.lt_or_ge j b.length with hi | hi
    · rw [List.getElem?_eq_getElem hi]; exact hb _ (List.getElem_mem hi)
    · rw [List.getElem?_eq_none hi]; decide
  have g0 := g (4 * i); have g1 := g (4 * i + 1); have g2 := g (4 * i + 2); have g3 := g (4 * i + 3)
  unfold wordOf
  refine Nat.or_lt_two_pow (n := 32) (Nat.or_lt_two_pow (n := 32) (Nat.or_lt_two_pow (n := 32) (by omega) ?_) ?_) ?_ <;> rw [Nat.shiftLeft_eq] <;> omega
theorem blockW_w32 (b : List Nat) (hb : ∀ x ∈ b, x < 256) : W32 (blockW b) := fun z hz => by
  obtain ⟨i, _, rfl⟩ := List.mem_map.1 hz
  exact wordOf_lt b hb i
theorem pressN_len (h b : List Nat) (taken : Nat) (last : Bool) : (pressN h b taken last).length = 8 := by simp [pressN]
theorem pressN_w32 {h : List Nat} (hh : W32 h) (hl : h.length = 8) (b : List Nat) (taken : Nat) (ht : taken < 18446744073709551616) (last : Bool) : W32 (pressN h b taken last) := fun z hz => by
  obtain ⟨i, _, rfl⟩ := List.mem_map.1 hz
  have hv := mixAll_w32 (blockW b) (firstV_w32 hh hl taken ht last).1 10
  exact Nat.xor_lt_two_pow (n := 32) (hh.get i) (Nat.xor_lt_two_pow (n := 32) (hv.get i) (hv.get (i + 8)))
theorem blockW_get (b : List Nat) (i : Nat) (h : i < 16) : (blockW b).getD i 0 = wordOf b i := by
  unfold blockW
  rw [List.getD_eq_getElem?_getD, List.getElem?_map, List.getElem?_range h]; rfl
end Go.Proofs.YtkcifjgfgommoaaDoor
