import Derived.Test.YtoekecopfmohiaaDoorDefPure
/-
  Store as fields, and that Inflate reads them.
-/
namespace Go.Proofs.YtoekecopfmohiaaDoor

/-- one plain block's fields -/
def stoB (b : List Nat) (n last : Nat) : List Fd := [(last, 3), (0, 5), (n, 16), (n ^^^ 65535, 16), (lsum (b.take n), 8 * n)]
def stoF : Nat → List Nat → List Fd
  | 0, _ => []
  | k + 1, b => if min b.length 65535 = b.length then stoB b (min b.length 65535) 1 else stoB b (min b.length 65535) 0 ++ stoF k (b.drop (min b.length 65535))
theorem stoB_A (b : List Nat) (n last : Nat) : fA (stoB b n last) = 40 + 8 * n := by simp only [stoB, fA]; omega
theorem stoB_ok (b : List Nat) (n last : Nat) (hb : ∀ x ∈ b, x < 256) (hn : n ≤ b.length) (h2 : n < 65536) (hl : last ≤ 1) : fOk (stoB b n last) := fun x hx => by
  simp only [stoB, List.mem_cons, List.not_mem_nil, or_false] at hx
  rcases hx with rfl | rfl | rfl | rfl | rfl
  · show last < 2 ^ 3
    omega
  · show 0 < 2 ^ 5
    decide
  · show n < 2 ^ 16
    omega
  · show n ^^^ 65535 < 2 ^ 16
    exact Nat.xor_lt_two_pow (by omega) (by omega)
  · have h1 := lsum_lt (b.take n) (take_mem hb)
    rw [List.length_take, Nat.min_eq_left hn, show (256 : Nat) = 2 ^ 8 from rfl, ← Nat.pow_mul] at h1
    exact h1
theorem xor_back (n : Nat) : n ^^^ (n ^^^ 65535) = 65535 := by rw [← Nat.xor_assoc, Nat.xor_self, Nat.zero_xor]
theorem bytes_rd {l m : List Nat} {p : Nat} {fs : List Fd} (h : Rd l (8 * p) ((lsum m, 8 * m.length) :: fs)) (hl : ∀ x ∈ l, x < 256) (hm : ∀ x ∈ m, x < 256) : (l.drop p).take m.length = m ∧ p + m.length ≤ l.length := by
  have hlt := lsum_lt m hm
  rw [show (256 : Nat) = 2 ^ 8 from rfl, ← Nat.pow_mul] at hlt
  obtain ⟨h1, h2⟩ := h.head hlt
  simp only at h1 h2
  have hp : p + m.length ≤ l.length := by omega
  have hln : ((l.drop p).take m.length).length = m.length := by rw [List.length_take, List.length_drop]; omega
  refine ⟨lsum_inj _ _ hln (fun x hx => hl x (List.mem_of_mem_drop (List.mem_of_mem_take hx))) hm ?_, hp⟩
  unfold pkN at h1
  rw [show (2 : Nat) ^ (8 * p) = 256 ^ p by rw [show (256 : Nat) = 2 ^ 8 from rfl, ← Nat.pow_mul], lsum_drop p l hl, show (2 : Nat) ^ (8 * m.length) = 256 ^ m.length by rw [show (256 : Nat) = 2 ^ 8 from rfl, ← Nat.pow_mul]] at h1
  rw [← h1]
  have e : l.drop p = (l.drop p).take m.length ++ (l.drop p).drop m.length := (List.take_append_drop _ _).symm
  conv => rhs; rw [e, lsum_append, hln, Nat.add_mul_mod_self_left]
  rw [Nat.mod_eq_of_lt]
  have := lsum_lt ((l.drop p).take m.length) (fun x hx => hl x (List.mem_of_mem_drop (List.mem_of_mem_take hx)))
  rwa [hln] at this
/-- a plain block is read -/
theorem sto_block (l b : List Nat) (n last : Nat) (p m : Nat) (o : List Nat) (rest : List Fd) (hl : ∀ x ∈ l, x < 256) (hb : ∀ x ∈ b, x < 256) (hn : n ≤ b.length) (h2 : n < 65536) (hla : last ≤ 1) (hm : n + o.length ≤ m)
    (h : Rd l (8 * p) (stoB b n last ++ rest)) : blockP m l (8 * p, o) = .ok (last, (8 * (p + 5 + n), o ++ b.take n)) := by
  have hk := stoB_ok b n last hb hn h2 hla
  have h0 : Rd l (8 * p) ((last + 2 ^ 1 * 0, 1 + 2) :: ((0, 5) :: (n, 16) :: (n ^^^ 65535, 16) :: (lsum (b.take n), 8 * n) :: rest)) := h
  have r1 := h0.split
  have n1 := num_rd r1 (by show last < 2 ^ 1; omega) o
  have r2 := r1.tail (by show last < 2 ^ 1; omega)
  have n2 := num_rd r2 (by decide) o
  have r3 := r2.tail (by decide)
  have r4 : Rd l (8 * p + 1 + 2 + 5) ((n, 16) :: (n ^^^ 65535, 16) :: (lsum (b.take n), 8 * n) :: rest) := r3.tail (by decide)
  have n4 := num_rd r4 (by show n < 2 ^ 16; omega) o
  have hx : n ^^^ 65535 < 2 ^ 16 := Nat.xor_lt_two_pow (by omega) (by omega)
  have r5 := r4.tail (by show n < 2 ^ 16; omega)
  have n5 := num_rd r5 hx o
  have r6 := r5.tail hx
  have htl : (b.take n).length = n := by rw [List.length_take]; omega
  have r7 : Rd l (8 * (p + 5)) ((lsum (b.take n), 8 * (b.take n).length) :: rest) := by
    rw [htl, show 8 * (p + 5) = 8 * p + 1 + 2 + 5 + 16 + 16 by omega]; exact r6
  obtain ⟨hb1, hb2⟩ := bytes_rd r7 hl (take_mem hb)
  rw [htl] at hb1 hb2
  unfold blockP
  rw [bd_of n1, bd_of n2]
  have hp : plainP m l (8 * p + 1 + 2, o) = .ok ((), (8 * (p + 5 + n), o ++ b.take n)) := by
    unfold plainP
    have a1 : alignP (8 * p + 1 + 2, o) = .ok ((), (8 * p + 1 + 2 + 5, o)) := by
      unfold alignP
      simp only
      rw [show (8 * p + 1 + 2 + 7) / 8 * 8 = 8 * p + 1 + 2 + 5 by omega]
    rw [bd_of a1, bd_of n4, bd_of n5]
    have c1 : chk 110 (n ^^^ (n ^^^ 65535) = 65535) (8 * p + 1 + 2 + 5 + 16 + 16, o) = .ok ((), (8 * p + 1 + 2 + 5 + 16 + 16, o)) := by unfold chk; rw [if_pos (xor_back n)]
    show bd (chk 110 (n ^^^ (n ^^^ 65535) = 65535)) (fun _ => bytesP m l n) (8 * p + 1 + 2 + 5 + 16 + 16, o) = _
    rw [bd_of c1]
    unfold bytesP
    rw [if_pos (by simp only; omega), if_pos (by simp only; omega)]
    rw [show (8 * p + 1 + 2 + 5 + 16 + 16) / 8 = p + 5 by omega, hb1, show 8 * p + 1 + 2 + 5 + 16 + 16 + 8 * n = 8 * (p + 5 + n) by omega]
  have hk0 : kindP m l 0 (8 * p + 1 + 2, o) = .ok ((), (8 * (p + 5 + n), o ++ b.take n)) := hp
  rw [bd_of hk0]; rfl
theorem stoF_read (l : List Nat) (m : Nat) (hl : ∀ x ∈ l, x < 256) : ∀ (k : Nat) (b o : List Nat) (p j : Nat), b.length < k → (∀ x ∈ b, x < 256) → k ≤ j → b.length + o.length ≤ m → Rd l (8 * p) (stoF k b) →
    infP m l j (8 * p, o) = .ok ((), (8 * p + fA (stoF k b), o ++ b)) ∧ fA (stoF k b) % 8 = 0
  | 0, b, o, p, j, hk, _, _, _, _ => by omega
  | k + 1, b, o, p, j, hk, hb, hj, hm, h => by
    obtain ⟨j', rfl⟩ : ∃ j', j = j' + 1 := ⟨j - 1, by omega⟩
    by_cases h1 : min b.length 65535 = b.length
    · have e : stoF (k + 1) b = stoB b b.length 1 := by simp only [stoF]; rw [if_pos h1, h1]
      rw [e] at h ⊢
      have hblk := sto_block l b b.length 1 p m o [] hl hb (Nat.le_refl _) (by omega) (Nat.le_refl _) (by omega) (by rw [List.append_nil]; exact h)
      refine ⟨?_, by rw [stoB_A]; omega⟩
      show (bd (blockP m l) fun last => if last = 1 then ret () else infP m l j') (8 * p, o) = _
      rw [bd_of hblk, if_pos rfl, stoB_A, List.take_length]
      unfold ret
      rw [show 8 * (p + 5 + b.length) = 8 * p + (40 + 8 * b.length) by omega]
    · have h2 : min b.length 65535 = 65535 := by omega
      have e : stoF (k + 1) b = stoB b 65535 0 ++ stoF k (b.drop 65535) := by simp only [stoF]; rw [if_neg h1, h2]
      rw [e] at h ⊢
      have hblk := sto_block l b 65535 0 p m o (stoF k (b.drop 65535)) hl hb (by omega) (by omega) (by omega) (by omega) h
      have hr := h.drop (stoB_ok b 65535 0 hb (by omega) (by omega) (by omega))
      rw [stoB_A, show 8 * p + (40 + 8 * 65535) = 8 * (p + 65540) by omega] at hr
      have htl : (b.take 65535).length = 65535 := by rw [List.length_take]; omega
      have ih := stoF_read l m hl k (b.drop 65535) (o ++ b.take 65535) (p + 65540) j' (by rw [List.length_drop]; omega) (fun x hx => hb x (List.mem_of_mem_drop hx)) (by omega) (by rw [List.length_drop, List.length_append, htl]; omega) hr
      rw [fA_app, stoB_A]
      refine ⟨?_, by omega⟩
      show (bd (blockP m l) fun last => if last = 1 then ret () else infP m l j') (8 * p, o) = _
      rw [bd_of hblk, if_neg (by decide), show 8 * (p + 5 + 65535) = 8 * (p + 65540) by omega, ih.1, List.append_assoc, List.take_append_drop]
      congr 3
      omega
theorem stoF_ok : ∀ (k : Nat) (b : List Nat), (∀ x ∈ b, x < 256) → fOk (stoF k b)
  | 0, _, _ => fun x hx => by cases hx
  | k + 1, b, hb => by
    simp only [stoF]
    by_cases h1 : min b.length 65535 = b.length
    · rw [if_pos h1]; exact stoB_ok b _ 1 hb (by omega) (by omega) (Nat.le_refl _)
    · rw [if_neg h1]
      exact (stoB_ok b _ 0 hb (by omega) (by omega) (by omega)).app (stoF_ok k _ (fun x hx => hb x (List.mem_of_mem_drop hx)))
/-- what Store makes is made as it was -/
theorem inf_store (b l more : List Nat) (m : Nat) (hb : ∀ x ∈ b, x < 256) (hm : b.length ≤ m) (hl : b.length ≤ 262144) (hmore : ∀ x ∈ more, x < 256) (h : Bts l (fN (stoF 262145 b)) (fA (stoF 262145 b))) :
    inflN (l ++ more) m = .ok (b, l.length) := by
  have hr := Rd.of_bts h more
  have h1 := stoF_read (l ++ more) m (fun x hx => (List.mem_append.1 hx).elim (h.byte x) (hmore x)) 262145 b [] 0 K0 (by omega) hb (by unfold K0; omega) (by simpa using hm) hr
  have h2 := inflN_of (s := (8 * 0 + fA (stoF 262145 b), [] ++ b)) h1.1
  rw [h2]
  simp only [List.nil_append]
  have := h.len
  congr 2
  omega
end Go.Proofs.YtoekecopfmohiaaDoor
