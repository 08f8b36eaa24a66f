import Derived.Test.YtoekecopfmohiaaDoorFlatePure
import Derived.Test.YtoekecopfmohiaaDoorInf9
/-
  Deflate as a list of fields; fields that stand in bytes are read by the parsers.
-/
namespace Go.Proofs.YtoekecopfmohiaaDoor

/-- a field: its value, its width -/
abbrev Fd := Nat × Nat
def fN : List Fd → Nat
  | [] => 0
  | x :: r => x.1 + 2 ^ x.2 * fN r
def fA : List Fd → Nat
  | [] => 0
  | x :: r => x.2 + fA r
def fOk (l : List Fd) : Prop := ∀ x ∈ l, x.1 < 2 ^ x.2
theorem fA_app (l m : List Fd) : fA (l ++ m) = fA l + fA m := by
  induction l with
  | nil => simp [fA]
  | cons x r ih => simp only [List.cons_append, fA, ih]; omega
theorem fN_app (l m : List Fd) : fN (l ++ m) = fN l + 2 ^ fA l * fN m := by
  induction l with
  | nil => simp [fN, fA]
  | cons x r ih => simp only [List.cons_append, fN, fA, ih, Nat.mul_add, Nat.pow_add, Nat.mul_assoc]; omega
theorem fN_lt (l : List Fd) (h : fOk l) : fN l < 2 ^ fA l := by
  induction l with
  | nil => simp [fN, fA]
  | cons x r ih =>
    have h1 := h x (by simp)
    have h2 := ih (fun y hy => h y (by simp [hy]))
    simp only [fN, fA, Nat.pow_add]
    have : 2 ^ x.2 * fN r + 2 ^ x.2 ≤ 2 ^ x.2 * 2 ^ fA r := by rw [← Nat.mul_succ]; exact Nat.mul_le_mul_left _ h2
    omega
theorem fOk.app {l m : List Fd} (h : fOk l) (h' : fOk m) : fOk (l ++ m) := fun x hx => by
  rcases List.mem_append.1 hx with h1 | h1
  · exact h x h1
  · exact h' x h1
theorem fOk.left {l m : List Fd} (h : fOk (l ++ m)) : fOk l := fun x hx => h x (List.mem_append_left _ hx)
theorem fOk.right {l m : List Fd} (h : fOk (l ++ m)) : fOk m := fun x hx => h x (List.mem_append_right _ hx)
/-- the fields stand in the bytes from bit a on -/
structure Rd (b : List Nat) (a : Nat) (fs : List Fd) : Prop where
  val : lsum b / 2 ^ a % 2 ^ fA fs = fN fs
  fit : a + fA fs ≤ 8 * b.length
theorem Rd.head {b : List Nat} {a : Nat} {x : Fd} {fs : List Fd} (h : Rd b a (x :: fs)) (hx : x.1 < 2 ^ x.2) : pkN b a x.2 = x.1 ∧ a + x.2 ≤ 8 * b.length := by
  have h1 := h.val
  have h2 := h.fit
  simp only [fA, fN] at h1 h2
  refine ⟨?_, by omega⟩
  unfold pkN
  have h3 : lsum b / 2 ^ a % 2 ^ (x.2 + fA fs) % 2 ^ x.2 = lsum b / 2 ^ a % 2 ^ x.2 := Nat.mod_mod_of_dvd _ (Nat.pow_dvd_pow 2 (Nat.le_add_right _ _))
  rw [← h3, h1, Nat.add_mul_mod_self_left, Nat.mod_eq_of_lt hx]
theorem Rd.tail {b : List Nat} {a : Nat} {x : Fd} {fs : List Fd} (h : Rd b a (x :: fs)) (hx : x.1 < 2 ^ x.2) : Rd b (a + x.2) fs where
  val := by
    have h1 := h.val
    simp only [fA, fN] at h1
    rw [Nat.pow_add, Nat.mod_mul] at h1
    have h3 := (h.head hx).1
    unfold pkN at h3
    rw [h3] at h1
    have h4 : 2 ^ x.2 * (lsum b / 2 ^ a / 2 ^ x.2 % 2 ^ fA fs) = 2 ^ x.2 * fN fs := by omega
    have h5 := Nat.eq_of_mul_eq_mul_left (Nat.pow_pos (by decide)) h4
    rw [← h5, Nat.div_div_eq_div_mul, ← Nat.pow_add]
  fit := by have := h.fit; simp only [fA] at this; omega
theorem Rd.drop {b : List Nat} : ∀ {fs gs : List Fd} {a : Nat}, Rd b a (fs ++ gs) → fOk fs → Rd b (a + fA fs) gs
  | [], gs, a, h, _ => by simpa [fA] using h
  | x :: r, gs, a, h, hk => by
    have h1 : Rd b a (x :: (r ++ gs)) := h
    have h2 := Rd.drop (h1.tail (hk x (by simp))) (fun y hy => hk y (by simp [hy]))
    simp only [fA]
    rw [← Nat.add_assoc]; exact h2
theorem Rd.of_bts {b : List Nat} {fs : List Fd} (h : Bts b (fN fs) (fA fs)) (m : List Nat) : Rd (b ++ m) 0 fs where
  val := by
    have h1 := h.len
    have h2 := h.small
    have e : (256 : Nat) ^ b.length = 2 ^ fA fs * 2 ^ (8 * b.length - fA fs) := by
      rw [show (256 : Nat) = 2 ^ 8 from rfl, ← Nat.pow_mul, ← Nat.pow_add]; congr 1; omega
    rw [lsum_append, h.sum, Nat.pow_zero, Nat.div_one, e, Nat.mul_assoc, Nat.add_mul_mod_self_left, Nat.mod_eq_of_lt h2]
  fit := by have h1 := h.len; rw [List.length_append]; omega
theorem num_rd {b : List Nat} {a k v : Nat} {fs : List Fd} (h : Rd b a ((v, k) :: fs)) (hx : v < 2 ^ k) (o : List Nat) : numP b k (a, o) = .ok (v, (a + k, o)) := by
  obtain ⟨h1, h2⟩ := h.head hx
  unfold numP
  simp only at h1 h2 ⊢
  rw [if_pos h2, h1]
/-- a symbol's field -/
def symF (L : List Nat) (s : Nat) : Fd := (revN (wrd L s) (L.getD s 0), L.getD s 0)
theorem symF_ok (L : List Nat) (s : Nat) : (symF L s).1 < 2 ^ (symF L s).2 := eachV_lt _ _ _
theorem sym_rd {L b : List Nat} (hk : kr L ≤ 32768) {a s : Nat} {fs : List Fd} (h : Rd b a (symF L s :: fs)) (hs : s < L.length) (h0 : L.getD s 0 ≠ 0) (h15 : L.getD s 0 ≤ 15) (o : List Nat) : symP b L (a, o) = .ok (s, (a + L.getD s 0, o)) := by
  obtain ⟨h1, h2⟩ := h.head (symF_ok L s)
  unfold pkN at h1
  have := rdC_word L b s hk hs h0 h15 a h2 (fun i hi => by
    have h3 := pkN_bit b a (L.getD s 0) i _ h1 hi
    rw [h3]; exact revN_bit _ _ _ hi)
  unfold symP
  simp only
  rw [this]; rfl
/-- the fixed code's fields -/
def litF (s : Nat) : Fd := symF fixLn s
theorem fixLn_all : ∀ s, s < 288 → fixLn.getD s 0 ≠ 0 ∧ fixLn.getD s 0 ≤ 15 := by decide +kernel
theorem fixLn_len : fixLn.length = 288 := by decide +kernel
theorem fixDs_all : ∀ s, s < 32 → fixDs.getD s 0 = 5 := by decide +kernel
theorem lit_rd {b : List Nat} {a s : Nat} {fs : List Fd} (h : Rd b a (litF s :: fs)) (hs : s < 288) (o : List Nat) : symP b fixLn (a, o) = .ok (s, (a + (litF s).2, o)) :=
  sym_rd fixLn_ok.2.2.1 h (by rw [fixLn_len]; exact hs) (fixLn_all s hs).1 (fixLn_all s hs).2 o
theorem far0 : symF fixDs 0 = (0, 5) := by decide +kernel
theorem far_rd {b : List Nat} {a : Nat} {fs : List Fd} (h : Rd b a ((0, 5) :: fs)) (o : List Nat) : symP b fixDs (a, o) = .ok (0, (a + 5, o)) := by
  have := sym_rd (L := fixDs) fixDs_ok.2.2.1 (s := 0) (by rw [far0]; exact h) (by decide) (by decide) (by decide) o
  exact this
/-- fields that are read as these bytes -/
def Dec (fs : List Fd) (o o' : List Nat) : Prop := fOk fs ∧ o.length ≤ o'.length ∧ ∃ c, c ≤ fs.length ∧ ∀ (m : Nat) (l : List Nat) (k a : Nat) (rest : List Fd), o'.length ≤ m → Rd l a (fs ++ rest) →
  symsP m l fixLn fixDs (k + c) (a, o) = symsP m l fixLn fixDs k (a + fA fs, o')
theorem Dec.nil (o : List Nat) : Dec [] o o := ⟨fun _ h => (by cases h), Nat.le_refl _, 0, Nat.le_refl _, fun _ _ _ _ _ _ _ => rfl⟩
theorem Dec.app {fs gs : List Fd} {o o1 o2 : List Nat} (h : Dec fs o o1) (h' : Dec gs o1 o2) : Dec (fs ++ gs) o o2 := by
  obtain ⟨k1, l1, c1, b1, e1⟩ := h
  obtain ⟨k2, l2, c2, b2, e2⟩ := h'
  refine ⟨k1.app k2, Nat.le_trans l1 l2, c2 + c1, by rw [List.length_append]; omega, fun m l k a rest hm hr => ?_⟩
  rw [List.append_assoc] at hr
  rw [← Nat.add_assoc, e1 m l (k + c2) a (gs ++ rest) (Nat.le_trans l2 hm) hr, e2 m l k (a + fA fs) rest hm (hr.drop k1), fA_app, Nat.add_assoc]
theorem Dec.lit (x : Nat) (hx : x < 256) (o : List Nat) : Dec [litF x] o (o ++ [x]) := by
  refine ⟨fun y hy => by rw [List.mem_singleton.1 hy]; exact symF_ok _ _, by simp, 1, Nat.le_refl _, fun m l k a rest hm hr => ?_⟩
  have h1 := lit_rd (b := l) (a := a) (s := x) (fs := rest) hr (by omega) o
  simp only [symsP]
  rw [bd_of h1, if_neg (by omega), if_neg (by omega)]
  have h2 : pushP m x (a + (litF x).2, o) = .ok ((), (a + (litF x).2, o ++ [x])) := by
    unfold pushP
    rw [List.length_append, List.length_singleton] at hm
    rw [if_pos (by simp only; omega)]
  rw [bd_of h2]
  simp [fA]
theorem cpN_one (x : Nat) : ∀ k p, cpN 1 k (p ++ [x]) = p ++ [x] ++ List.replicate k x
  | 0, p => by simp [cpN]
  | k + 1, p => by
    simp only [cpN]
    have : (p ++ [x]).getD ((p ++ [x]).length - 1) 0 = x := by
      rw [List.getD_eq_getElem?_getD, List.length_append, List.length_singleton, Nat.add_sub_cancel, List.getElem?_append_right (Nat.le_refl _)]
      simp
    rw [this, cpN_one x k (p ++ [x]), List.replicate_succ]
    simp
/-- a copy of distance 1 -/
def cpyF (at_ k : Nat) : List Fd := [litF (257 + at_), (k - LB.getD at_ 0, LX.getD at_ 0), (0, 5)]
theorem Dec.copy (at_ k : Nat) (hat : at_ < 29) (hk : LB.getD at_ 0 ≤ k) (hk2 : k - LB.getD at_ 0 < 2 ^ LX.getD at_ 0) (p : List Nat) (x : Nat) : Dec (cpyF at_ k) (p ++ [x]) (p ++ [x] ++ List.replicate k x) := by
  have hok : fOk (cpyF at_ k) := fun y hy => by
    simp only [cpyF, List.mem_cons, List.not_mem_nil, or_false] at hy
    rcases hy with rfl | rfl | rfl
    · exact symF_ok _ _
    · exact hk2
    · show 0 < 2 ^ 5
      decide
  refine ⟨hok, by simp, 1, by simp [cpyF], fun m l k' a rest hm hr => ?_⟩
  have hr1 : Rd l a (litF (257 + at_) :: ((k - LB.getD at_ 0, LX.getD at_ 0) :: ((0, 5) :: rest))) := hr
  have h1 := lit_rd hr1 (by omega) (p ++ [x])
  have hr2 := hr1.tail (symF_ok _ _)
  have h2 := num_rd hr2 hk2 (p ++ [x])
  have hr3 := hr2.tail hk2
  have h3 := far_rd hr3 (p ++ [x])
  have hr4 : Rd l _ rest := hr3.tail (by show 0 < 2 ^ 5; decide)
  simp only [symsP]
  rw [bd_of h1, if_neg (by omega), if_pos (by omega)]
  have h4 : copyP m l fixDs (257 + at_ - 257) (a + (litF (257 + at_)).2, p ++ [x]) = .ok ((), (a + (litF (257 + at_)).2 + LX.getD at_ 0 + 5, p ++ [x] ++ List.replicate k x)) := by
    unfold copyP
    rw [show 257 + at_ - 257 = at_ by omega]
    have c1 : chk 110 (at_ < 29) (a + (litF (257 + at_)).2, p ++ [x]) = .ok ((), (a + (litF (257 + at_)).2, p ++ [x])) := by unfold chk; rw [if_pos hat]
    rw [bd_of c1, bd_of h2, bd_of h3]
    have c2 : chk 110 (0 < 30) (a + (litF (257 + at_)).2 + LX.getD at_ 0 + 5, p ++ [x]) = .ok ((), (a + (litF (257 + at_)).2 + LX.getD at_ 0 + 5, p ++ [x])) := by unfold chk; rw [if_pos (by decide)]
    rw [bd_of c2]
    have c3 : numP l (DX.getD 0 0) (a + (litF (257 + at_)).2 + LX.getD at_ 0 + 5, p ++ [x]) = .ok (0, (a + (litF (257 + at_)).2 + LX.getD at_ 0 + 5, p ++ [x])) := by
      have := hr3.fit
      simp only [fA] at this
      unfold numP
      rw [show DX.getD 0 0 = 0 from rfl, if_pos (by simp only; omega)]
      unfold pkN
      rw [Nat.pow_zero, Nat.mod_one]
    rw [bd_of c3]
    rw [show LB.getD at_ 0 + (k - LB.getD at_ 0) = k by omega, show DB.getD 0 0 + 0 = 1 from rfl]
    unfold cpyP
    simp only [List.length_append, List.length_singleton, List.length_replicate] at hm
    rw [if_pos (by simp), if_pos (by simp; omega), cpN_one]
  have e : a + (litF (257 + at_)).2 + LX.getD at_ 0 + 5 = a + fA (cpyF at_ k) := by simp only [cpyF, fA]; omega
  rw [bd_of h4, e]
/-- one block of the fixed code -/
def blkF (fs : List Fd) : List Fd := (3, 3) :: (fs ++ [litF 256])
theorem blkF_ok {fs : List Fd} (h : fOk fs) : fOk (blkF fs) := fun x hx => by
  simp only [blkF, List.mem_cons, List.mem_append, List.not_mem_nil, or_false] at hx
  rcases hx with rfl | hx | rfl
  · show 3 < 2 ^ 3
    decide
  · exact h x hx
  · exact symF_ok _ _
theorem Rd.split {b : List Nat} {a v1 k1 v2 k2 : Nat} {fs : List Fd} (h : Rd b a ((v1 + 2 ^ k1 * v2, k1 + k2) :: fs)) : Rd b a ((v1, k1) :: (v2, k2) :: fs) where
  val := by
    have := h.val
    simp only [fA, fN] at this ⊢
    rw [← Nat.add_assoc, this, Nat.pow_add, Nat.mul_add, Nat.mul_assoc]; omega
  fit := by have := h.fit; simp only [fA] at this ⊢; omega
theorem K0_le (n : Nat) (h : n ≤ 4503599627370000) : ∃ k, K0 = k + 1 + n := ⟨K0 - 1 - n, by unfold K0; omega⟩
/-- a block of the fixed code, read -/
theorem inf_fixed (fs : List Fd) (o : List Nat) (m : Nat) (l : List Nat) (hd : Dec fs [] o) (hm : o.length ≤ m) (hr : Rd l 0 (blkF fs)) (hl : fs.length ≤ 4503599627370000) : inflN l m = .ok (o, (fA (blkF fs) + 7) / 8) := by
  obtain ⟨hok, -, c, hc, he⟩ := hd
  have hr1 : Rd l 0 ((1 + 2 ^ 1 * 1, 1 + 2) :: (fs ++ [litF 256])) := hr
  have hr2 := hr1.split
  have n1 := num_rd hr2 (by decide) []
  have hr3 := hr2.tail (by decide)
  have n2 := num_rd hr3 (by decide) []
  have hr4 : Rd l 3 (fs ++ [litF 256]) := hr3.tail (by decide)
  obtain ⟨k, hk⟩ := K0_le c (by omega)
  have h5 : symsP m l fixLn fixDs K0 (3, []) = .ok ((), (3 + fA fs + (litF 256).2, o)) := by
    rw [hk, he m l (k + 1) 3 [litF 256] hm hr4]
    have h6 := lit_rd (hr4.drop hok) (by decide) o
    simp only [symsP]
    rw [bd_of h6, if_pos rfl]; rfl
  have h7 : blockP m l (0, []) = .ok (1, (3 + fA fs + (litF 256).2, o)) := by
    unfold blockP
    rw [bd_of n1, bd_of n2]
    have : kindP m l 1 (0 + ((1, 1) : Fd).2 + 2, []) = .ok ((), (3 + fA fs + (litF 256).2, o)) := h5
    rw [bd_of this]; rfl
  have h8 : infP m l K0 (0, []) = .ok ((), (3 + fA fs + (litF 256).2, o)) := by
    show (bd (blockP m l) fun last => if last = 1 then ret () else infP m l (K0 - 1)) (0, []) = _
    rw [bd_of h7, if_pos rfl]; rfl
  rw [inflN_of h8]
  simp only [blkF, fA, fA_app]
  congr 3
end Go.Proofs.YtoekecopfmohiaaDoor
