import Derived.Test.YtkcifjgfgommoaaDoorDig3
/-
  Arrays by value: a block that is known whole, read and written whole.
-/
namespace Go.Proofs.YtkcifjgfgommoaaDoor
open Go.RowKit

theorem Blk.range {w : World} {p : Nat} {t : TypeId} {l : List Value} (h : Blk w p t l.toArray) : w.rangeAt p 0 l := fun j v hv => by
  rw [Nat.zero_add, h.cell j]; simpa using hv
theorem Blk.there {w : World} {p : Nat} {t : TypeId} {c : Array Value} (h : Blk w p t c) (n : Nat) (hn : n = c.size) : w.there p 0 n := fun j hj => by
  subst hn
  rw [Nat.zero_add]
  exact ⟨by rw [h.cell j, Array.getElem?_eq_getElem hj]; rfl, h.frozen j⟩
theorem setCells_heap (p : Nat) : ∀ (vs : List Value) (o : Nat) (w : World) (k : Nat), k ≠ p → (w.setCells p o vs).heap[k]? = w.heap[k]?
  | [], _, _, _, _ => rfl
  | v :: r, o, w, k, h => (setCells_heap p r (o + 1) _ k h).trans (Below.heap_setCell w ⟨p, o, none⟩ v k h)
theorem setCells_size (p : Nat) : ∀ (vs : List Value) (o : Nat) (w : World), (w.setCells p o vs).heap.size = w.heap.size
  | [], _, _ => rfl
  | v :: r, o, w => (setCells_size p r (o + 1) _).trans (by simp [World.setCell])
theorem below_setCells {B : Nat} {a : World} (p : Nat) (hp : B ≤ p) : ∀ (vs : List Value) (o : Nat) {w : World}, Below B a w → Below B a (w.setCells p o vs)
  | [], _, _, h => h
  | v :: r, o, _, h => below_setCells p hp r (o + 1) (h.setCell (p := ⟨p, o, none⟩) hp v)
theorem Blk.farAll {w : World} {g p : Nat} {t : TypeId} {cs : Array Value} (h : Blk w g t cs) (hp : g ≠ p) (o : Nat) (vs : List Value) : Blk (w.setCells p o vs) g t cs := (setCells_heap p vs o w g hp).trans h
theorem Blk.setSome {p : Nat} {t : TypeId} : ∀ (vs : List Value) (o : Nat) {w : World} {l : List Value}, Blk w p t l.toArray → o + vs.length ≤ l.length → Blk (w.setCells p o vs) p t (splice l o vs).toArray
  | [], o, w, l, h, _ => by
    have : splice l o [] = l := by simp [splice]
    rw [this]; exact h
  | v :: r, o, w, l, h, hl => by
    have h1 : Blk (w.setCell ⟨p, o, none⟩ v) p t (l.set o v).toArray := by
      have := h.set_ o v
      rwa [List.setIfInBounds_toArray] at this
    have h2 := Blk.setSome r (o + 1) h1 (by simp at hl ⊢; omega)
    have h3 : splice (l.set o v) (o + 1) r = splice l o (v :: r) := by
      have ho : o < l.length := by simp at hl; omega
      unfold splice
      rw [List.take_set, List.take_succ_eq_append_getElem ho, List.set_append_right _ _ (by simp; omega)]
      simp only [List.length_take, List.length_cons]
      rw [show o - min o l.length = 0 by omega, List.set_cons_zero, List.drop_set, if_pos (by omega), show o + 1 + r.length = o + (r.length + 1) by omega]
      simp
    rw [h3] at h2
    exact h2
theorem Blk.setAll {w : World} {p : Nat} {t : TypeId} {c c' : Array Value} (h : Blk w p t c) (hs : c.size = c'.size) : Blk (w.setCells p 0 c'.toList) p t c' := by
  have h0 : Blk w p t c.toList.toArray := by simpa using h
  have h1 := Blk.setSome c'.toList 0 h0 (by simp; omega)
  have h2 : splice c.toList 0 c'.toList = c'.toList := by
    unfold splice
    rw [List.take_zero, List.nil_append, List.drop_of_length_le (by simp; omega), List.append_nil]
  rw [h2] at h1
  simpa using h1
theorem b8_one (l : List Nat) : ∀ v ∈ b8 l, v.oneCell' = true := fun v hv => by
  obtain ⟨x, _, rfl⟩ := List.mem_map.1 hv; rfl
theorem b8_len (l : List Nat) : (b8 l).length = l.length := by simp [b8]
theorem u8s_one (l : List Nat) : (u8s l).all (·.oneCell') = true := all_oneCell_toArray (b8_one l)
theorem wd_one (l : List Nat) : (wd l).all (·.oneCell') = true := all_oneCell_toArray (ws_one l)
theorem b8_splice (l : List Nat) (k : Nat) (c : List Nat) : splice (b8 l) k (b8 c) = b8 (splice l k c) := by
  unfold splice b8
  simp [List.map_take, List.map_drop]
/-- bytes with noughts behind, 64 in all -/
def pad (l : List Nat) : List Nat := l.take 64 ++ List.replicate (64 - l.length) 0
theorem pad_len (l : List Nat) : (pad l).length = 64 := by simp [pad]; omega
theorem pad_mem {l : List Nat} (h : ∀ x ∈ l, x < 256) : ∀ x ∈ pad l, x < 256 := fun x hx => by
  rcases List.mem_append.1 hx with h1 | h1
  · exact h x (List.mem_of_mem_take h1)
  · rw [List.eq_of_mem_replicate h1]; omega
theorem pad_splice (l : List Nat) : splice (List.replicate 64 0) 0 (l.take 64) = pad l := by
  unfold splice pad
  rw [List.take_zero, List.nil_append]
  congr 1
  rw [Nat.zero_add, List.drop_replicate, List.length_take]
  congr 1; omega
theorem pad_take (l : List Nat) : pad (l.take 64) = pad l := by
  unfold pad
  rw [List.take_take, List.length_take]
  congr 1
  congr 1
  omega
/-- the blocks of a text, pressed one behind the other -/
def runN (h : List Nat) (taken : Nat) (l : List Nat) : List Nat :=
  if l.length ≤ 64 then pressN h (pad l) (taken + l.length) true else runN (pressN h (pad l) (taken + 64) false) (taken + 64) (l.drop 64)
termination_by l.length
decreasing_by simp; omega
theorem runN_last (h : List Nat) (taken : Nat) (l : List Nat) (hl : l.length ≤ 64) : runN h taken l = pressN h (pad l) (taken + l.length) true := by rw [runN, if_pos hl]
theorem runN_more (h : List Nat) (taken : Nat) (l : List Nat) (hl : ¬ l.length ≤ 64) : runN h taken l = runN (pressN h (pad l) (taken + 64) false) (taken + 64) (l.drop 64) := by rw [runN, if_neg hl]
/-- what the loop's rounds still make -/
def comeN (h : List Nat) (taken : Nat) (l : List Nat) (first : Bool) : List Nat := if l.length = 0 ∧ first = false then h else runN h taken l
def firstH (k : Nat) : List Nat := ivL.set 0 (1779033703 ^^^ ((16842752 ||| k * 256) ||| 32))
def outK (h : List Nat) (k : Nat) : List Nat := (List.range 32).map fun i => if i < k then (h.getD (i / 4) 0 >>> (8 * (i % 4))) % 256 else 0
def keyH (key b : List Nat) : List Nat :=
  if key.length = 0 then runN (firstH 0) 0 b else comeN (pressN (firstH key.length) (pad key) 64 (decide (b.length = 0))) 64 b false
/-- the digest with a key -/
def keyedN (key b : List Nat) : List Nat := outK (keyH key b) 32
theorem firstH_len (k : Nat) : (firstH k).length = 8 := by unfold firstH; rw [List.length_set]; rfl
theorem firstH_w32 (k : Nat) (hk : k ≤ 32) : W32 (firstH k) := by
  unfold firstH
  exact ivL_w32.set_ 0 (Nat.xor_lt_two_pow (n := 32) (by omega) (Nat.or_lt_two_pow (n := 32) (Nat.or_lt_two_pow (n := 32) (by omega) (by omega)) (by omega)))
theorem outK_len (h : List Nat) (k : Nat) : (outK h k).length = 32 := by simp [outK]
theorem outK_at (h : List Nat) (k i : Nat) (hi : i < 32) : (outK h k).getD i 0 = if i < k then (h.getD (i / 4) 0 >>> (8 * (i % 4))) % 256 else 0 := by
  unfold outK
  rw [List.getD_eq_getElem?_getD, List.getElem?_map, List.getElem?_range hi]; rfl
theorem outK_zero (h : List Nat) : outK h 0 = List.replicate 32 0 :=
  getD_ext _ _ (by rw [outK_len, List.length_replicate]) fun i hi => by
    rw [outK_len] at hi
    rw [outK_at _ _ _ hi, if_neg (by omega), List.getD_eq_getElem?_getD, List.getElem?_replicate, if_pos hi]; rfl
theorem outK_set (h : List Nat) (k : Nat) (hk : k < 32) : (outK h k).set k ((h.getD (k / 4) 0 >>> (8 * (k % 4))) % 256) = outK h (k + 1) :=
  getD_ext _ _ (by rw [List.length_set, outK_len, outK_len]) fun i hi => by
    rw [List.length_set, outK_len] at hi
    rw [outK_at _ _ _ hi]
    by_cases h1 : i = k
    · subst h1
      rw [getD_set_self _ _ _ (by rw [outK_len]; exact hi), if_pos (by omega)]
    · have : ((outK h k).set k ((h.getD (k / 4) 0 >>> (8 * (k % 4))) % 256)).getD i 0 = (outK h k).getD i 0 := by
        rw [List.getD_eq_getElem?_getD, List.getElem?_set_ne (by omega), ← List.getD_eq_getElem?_getD]
      rw [this, outK_at _ _ _ hi]
      by_cases h3 : i < k
      · rw [if_pos h3, if_pos (by omega)]
      · rw [if_neg h3, if_neg (by omega)]
theorem outK_mem (h : List Nat) (k : Nat) : ∀ x ∈ outK h k, x < 256 := fun x hx => by
  obtain ⟨i, _, rfl⟩ := List.mem_map.1 hx
  show (if i < k then _ else _) < 256
  split
  · exact Nat.mod_lt _ (by omega)
  · omega
/-- the memory inside Keyed: the result, the bytes, the state, the block -/
structure KS (w : World) (q4 q6 q7 q8 : Nat) (o h b : List Nat) (x : World) : Prop where
  ad : q4 = w.heap.size ∧ q6 = q4 + 1 ∧ q7 = q4 + 2 ∧ q8 = q4 + 3
  k4 : Blk x q4 24 (u8s (List.replicate 32 0))
  k6 : Blk x q6 24 (u8s o)
  k7 : Blk x q7 40 (wd h)
  k8 : Blk x q8 41 (u8s b)
  bel : Below q4 w x
  gl : Gl w
section
variable {w x x' : World} {q4 q6 q7 q8 : Nat} {o h b o' h' b' : List Nat}
theorem KS.gx (s : KS w q4 q6 q7 q8 o h b x) : Gl x := s.gl.below (s.ad.1 ▸ s.bel)
theorem KS.le (s : KS w q4 q6 q7 q8 o h b x) : q4 ≤ x.heap.size := by have := s.k4.lt; omega
theorem KS.drew (s : KS w q4 q6 q7 q8 o h b x) : KS w q4 q6 q7 q8 o h b x.drew := ⟨s.ad, s.k4, s.k6, s.k7, s.k8, s.bel.drew, s.gl⟩
/-- behind a call that writes nothing of what was there -/
theorem KS.call (s : KS w q4 q6 q7 q8 o h b x) (hb : Below x.heap.size x x') : KS w q4 q6 q7 q8 o h b x' :=
  ⟨s.ad, s.k4.below hb s.k4.lt, s.k6.below hb s.k6.lt, s.k7.below hb s.k7.lt, s.k8.below hb s.k8.lt, s.bel.trans (hb.mono s.le), s.gl⟩
theorem KS.alloc (s : KS w q4 q6 q7 q8 o h b x) (ob : Obj) : KS w q4 q6 q7 q8 o h b (x.alloc ob) := s.call (below_alloc1 x ob)
theorem KS.h7 (s : KS w q4 q6 q7 q8 o h b x) (hl : h.length = h'.length) : KS w q4 q6 q7 q8 o h' b (x.setCells q7 0 (wd h').toList) := by
  have ho := s.ad
  exact ⟨s.ad, s.k4.farAll (by omega) _ _, s.k6.farAll (by omega) _ _, s.k7.setAll (by rw [wd_size, wd_size, hl]), s.k8.farAll (by omega) _ _, below_setCells q7 (by omega) _ _ s.bel, s.gl⟩
theorem KS.h8 (s : KS w q4 q6 q7 q8 o h b x) (hl : b.length = b'.length) : KS w q4 q6 q7 q8 o h b' (x.setCells q8 0 (u8s b').toList) := by
  have ho := s.ad
  exact ⟨s.ad, s.k4.farAll (by omega) _ _, s.k6.farAll (by omega) _ _, s.k7.farAll (by omega) _ _, s.k8.setAll (by rw [u8s_size, u8s_size, hl]), below_setCells q8 (by omega) _ _ s.bel, s.gl⟩
theorem KS.turn8 (s : KS w q4 q6 q7 q8 o h b x) (hb : Below q8 x x') (h8 : Blk x' q8 41 (u8s b')) : KS w q4 q6 q7 q8 o h b' x' := by
  have ho := s.ad
  exact ⟨s.ad, s.k4.below hb (by omega), s.k6.below hb (by omega), s.k7.below hb (by omega), h8, s.bel.trans (hb.mono (by omega)), s.gl⟩
theorem KS.set6 (s : KS w q4 q6 q7 q8 o h b x) (i z : Nat) : KS w q4 q6 q7 q8 (o.set i z) h b (x.setCell ⟨q6, i, none⟩ (.int .u8 (z : Int))) := by
  have ho := s.ad
  refine ⟨s.ad, s.k4.far (by show _ ≠ q6; omega) _, ?_, s.k7.far (by show _ ≠ q6; omega) _, s.k8.far (by show _ ≠ q6; omega) _, s.bel.setCell (by show q4 ≤ q6; omega) _, s.gl⟩
  have := s.k6.set_ i (.int .u8 (z : Int))
  unfold u8s at this ⊢
  rwa [List.setIfInBounds_toArray, ← List.map_set (f := fun (x : Nat) => Value.int .u8 (x : Int))] at this
theorem KS.set7 (s : KS w q4 q6 q7 q8 o h b x) (i z : Nat) : KS w q4 q6 q7 q8 o (h.set i z) b (x.setCell ⟨q7, i, none⟩ (.int .u32 (z : Int))) := by
  have ho := s.ad
  refine ⟨s.ad, s.k4.far (by show _ ≠ q7; omega) _, s.k6.far (by show _ ≠ q7; omega) _, ?_, s.k8.far (by show _ ≠ q7; omega) _, s.bel.setCell (by show q4 ≤ q7; omega) _, s.gl⟩
  rw [← wd_set]; exact s.k7.set_ i _
theorem KS.first (hg : Gl w) {W : World} (hw : W = (((w.alloc (Obj.cells (u8s (List.replicate 32 0)) 24)).alloc (Obj.cells (u8s (List.replicate 32 0)) 24)).alloc (Obj.cells (wd h) 40)).alloc (Obj.cells (u8s (List.replicate 64 0)) 41)) :
    KS w w.heap.size (w.heap.size + 1) (w.heap.size + 2) (w.heap.size + 3) (List.replicate 32 0) h (List.replicate 64 0) W := by
  obtain ⟨a, b, c, d, e, f⟩ := four_new hw
  exact ⟨⟨rfl, rfl, rfl, rfl⟩, a, b, c, d, e, hg⟩
end
end Go.Proofs.YtkcifjgfgommoaaDoor
