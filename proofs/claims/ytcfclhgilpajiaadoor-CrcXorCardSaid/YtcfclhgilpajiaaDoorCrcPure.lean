import Derived.Test.YtcfclhgilpajiaaDoorCrcRef2
/-
  The plain law of the checksums: linear over xor, one to one, the table's step is four of the document's.
-/
namespace Go.Proofs.YtcfclhgilpajiaaDoor
open Go.RowKit

theorem xor_div2 (a b : Nat) : (a ^^^ b) / 2 = (a / 2) ^^^ (b / 2) := by
  have := Nat.xor_div_two_pow (a := a) (b := b) (n := 1)
  simpa using this
theorem halfStep_xor (a b : Nat) : halfStep (a ^^^ b) = halfStep a ^^^ halfStep b := by
  unfold halfStep
  have h := Nat.xor_mod_two_eq_one (a := a) (b := b)
  have hd := xor_div2 a b
  by_cases ha : a % 2 = 1 <;> by_cases hb : b % 2 = 1
  · rw [if_neg (by rw [h]; simp [ha, hb]), if_pos ha, if_pos hb, hd]
    rw [show (a / 2 ^^^ 3988292384) ^^^ (b / 2 ^^^ 3988292384) = (a / 2 ^^^ b / 2) ^^^ (3988292384 ^^^ 3988292384) by ac_rfl]
    simp
  · rw [if_pos (by rw [h]; simp [ha, hb]), if_pos ha, if_neg hb, hd]; ac_rfl
  · rw [if_pos (by rw [h]; simp [ha, hb]), if_neg ha, if_pos hb, hd]; ac_rfl
  · rw [if_neg (by rw [h]; simp [ha, hb]), if_neg ha, if_neg hb, hd]
theorem iterStep_xor (n a b : Nat) : iterStep n (a ^^^ b) = iterStep n a ^^^ iterStep n b := by
  induction n with
  | zero => rfl
  | succ n ih => simp only [iterStep, ih, halfStep_xor]
theorem halfStep_even (q : Nat) : halfStep (2 * q) = q := by unfold halfStep; rw [if_neg (by omega)]; omega
theorem iter4_even (q : Nat) : iterStep 4 (16 * q) = q := by
  show halfStep (halfStep (halfStep (halfStep (16 * q)))) = q
  rw [show 16 * q = 2 * (2 * (2 * (2 * q))) by omega, halfStep_even, halfStep_even, halfStep_even, halfStep_even]
theorem iter4_low : ∀ r, r < 16 → iterStep 4 r = tab.getD r 0 := by decide
theorem split16 (c : Nat) : c = (16 * (c / 16)) ^^^ (c % 16) := by
  have h := nat_join 4 (16 * (c / 16)) (c % 16) (by omega) (Nat.mod_lt _ (by omega))
  have hx : (16 * (c / 16)) ^^^ (c % 16) = (16 * (c / 16)) ||| (c % 16) := by
    apply Nat.eq_of_testBit_eq
    intro i
    rw [Nat.testBit_xor, Nat.testBit_or]
    by_cases hi : i < 4
    · have : (16 * (c / 16)).testBit i = false := by
        rw [show 16 * (c / 16) = 2 ^ 4 * (c / 16) by omega, Nat.testBit_two_pow_mul]
        simp; omega
      rw [this]; simp
    · have : (c % 16).testBit i = false := by
        have h4 : 2 ^ 4 ≤ 2 ^ i := Nat.pow_le_pow_right (by decide) (by omega)
        have h5 : c % 16 < 16 := Nat.mod_lt _ (by decide)
        exact Nat.testBit_lt_two_pow (Nat.lt_of_lt_of_le h5 h4)
      rw [this]; simp
  rw [hx, h]; omega
theorem turn_iter (c : Nat) : turnN c = iterStep 4 c := by
  have h := split16 c
  conv => rhs; rw [h]
  rw [iterStep_xor, iter4_even, iter4_low _ (Nat.mod_lt _ (by omega))]
  rfl
theorem byte_step (c x : Nat) : byteN c x = stepN c x := by
  unfold byteN stepN
  rw [turn_iter, turn_iter]
  rfl
theorem more_rmore (c : Nat) (l : List Nat) : moreN c l = rmoreN c l := by
  unfold moreN rmoreN
  congr 1
  funext c x
  exact byte_step c x
theorem moreS_rmoreS (s : Nat) (l : List Nat) : moreS s l = rmoreS s l := by unfold moreS rmoreS; rw [more_rmore]

theorem turn_xor (a b : Nat) : turnN (a ^^^ b) = turnN a ^^^ turnN b := by simp only [turn_iter, iterStep_xor]
theorem turn_zero : turnN 0 = 0 := by decide
theorem byte_xor (a b x y : Nat) : byteN (a ^^^ b) (x ^^^ y) = byteN a x ^^^ byteN b y := by
  unfold byteN
  rw [show (a ^^^ b) ^^^ (x ^^^ y) = (a ^^^ x) ^^^ (b ^^^ y) by ac_rfl, turn_xor, turn_xor]
theorem more_xor : ∀ (l m : List Nat) (a b : Nat), l.length = m.length → moreN (a ^^^ b) (List.zipWith (· ^^^ ·) l m) = moreN a l ^^^ moreN b m
  | [], [], _, _, _ => rfl
  | [], _ :: _, _, _, h => by simp at h
  | _ :: _, [], _, _, h => by simp at h
  | x :: l, y :: m, a, b, h => by
    show moreN (byteN (a ^^^ b) (x ^^^ y)) (List.zipWith (· ^^^ ·) l m) = _
    rw [byte_xor, more_xor l m _ _ (by simpa using h)]; rfl
theorem more_append (c : Nat) (l m : List Nat) : moreN c (l ++ m) = moreN (moreN c l) m := by unfold moreN; rw [List.foldl_append]
theorem xor_twice (m s : Nat) : m ^^^ (m ^^^ s) = s := by rw [← Nat.xor_assoc, Nat.xor_self, Nat.zero_xor]
theorem xor_swap (m a b : Nat) : m ^^^ (a ^^^ b) = (m ^^^ a) ^^^ b := (Nat.xor_assoc _ _ _).symm
theorem nt_def (s : Nat) : nt s = 4294967295 ^^^ s := rfl
theorem nt_nt (s : Nat) : nt (nt s) = s := by rw [nt_def, nt_def]; exact xor_twice _ s
theorem moreS_append (s : Nat) (l m : List Nat) : moreS s (l ++ m) = moreS (moreS s l) m := by unfold moreS; rw [nt_nt, more_append]
theorem moreS_nil (s : Nat) : moreS s [] = s := by unfold moreS moreN; exact nt_nt s

theorem zeros_more (n c : Nat) : zerosN n c = moreN c (List.replicate n 0) := by
  induction n with
  | zero => rfl
  | succ n ih =>
    rw [List.replicate_succ', more_append, ← ih]
    show turnN (turnN (zerosN n c)) = byteN (zerosN n c) 0
    unfold byteN
    rw [Nat.xor_zero]
theorem zerosS (s : Nat) (n : Nat) : nt (zerosN n (nt s)) = rmoreS s (List.replicate n 0) := by rw [zeros_more, ← moreS_rmoreS]; rfl

/-- noughts, and one byte -/
theorem more_one (n k x : Nat) (h : k < n) : moreN 0 ((List.replicate n 0).set k x) = zerosN (n - k) x := by
  have e : (List.replicate n 0).set k x = List.replicate k 0 ++ (x :: List.replicate (n - k - 1) 0) := by
    apply List.ext_getElem
    · simp; omega
    · intro i h1 h2
      rw [List.getElem_set, List.getElem_append]
      by_cases hi : k = i
      · subst hi; simp
      · rw [if_neg hi]
        by_cases hl : i < k
        · simp [hl]
        · have : i - k = (i - k - 1) + 1 := by omega
          simp only [List.length_replicate, hl, dite_false, List.getElem_replicate]
          rw [List.getElem_cons, dif_neg (by omega)]; simp
  rw [e, more_append, ← zeros_more]
  have z0 : zerosN k 0 = 0 := by
    clear e h
    induction k with
    | zero => rfl
    | succ k ih => show turnN (turnN (zerosN k 0)) = 0; rw [ih, turn_zero, turn_zero]
  rw [z0]
  show moreN (byteN 0 x) (List.replicate (n - k - 1) 0) = _
  have hb : byteN 0 x = zerosN 1 x := by unfold byteN; rw [Nat.zero_xor]; rfl
  rw [hb, ← zeros_more]
  have hz : ∀ a b c, zerosN a (zerosN b c) = zerosN (a + b) c := by
    intro a b c
    induction a with
    | zero => rw [Nat.zero_add]; rfl
    | succ a ih => rw [show a + 1 + b = (a + b) + 1 by omega]; show turnN (turnN (zerosN a (zerosN b c))) = turnN (turnN (zerosN (a + b) c)); rw [ih]
  rw [hz, show n - k - 1 + 1 = n - k by omega]
theorem set_zip : ∀ (l : List Nat) (k x : Nat), k < l.length → l.set k (l.getD k 0 ^^^ x) = List.zipWith (· ^^^ ·) l ((List.replicate l.length 0).set k x)
  | [], k, x, h => by simp at h
  | a :: l, 0, x, _ => by
    simp only [List.set_cons_zero, List.length_cons, List.replicate_succ, List.zipWith_cons_cons]
    congr 1
    apply List.ext_getElem
    · simp
    · intro i h1 h2; simp
  | a :: l, k + 1, x, h => by
    simp only [List.set_cons_succ, List.length_cons, List.replicate_succ, List.zipWith_cons_cons, Nat.xor_zero]
    congr 1
    have := set_zip l k x (by simpa using h)
    rw [← this]; rfl
/-- the checksum of bytes of which one is turned -/
theorem moreS_flip (l : List Nat) (k x s : Nat) (h : k < l.length) : moreS s (l.set k (l.getD k 0 ^^^ x)) = moreS s l ^^^ zerosN (l.length - k) x := by
  unfold moreS
  rw [set_zip l k x h]
  have := more_xor l ((List.replicate l.length 0).set k x) (nt s) 0 (by simp)
  rw [Nat.xor_zero] at this
  rw [this, more_one _ _ _ h]
  exact xor_swap _ _ _
theorem rflip_eq (s size k x : Nat) (h : k < size) : rflipN s size k x = s ^^^ zerosN (size - k) x := by
  unfold rflipN
  rw [← moreS_rmoreS, ← moreS_rmoreS]
  have := moreS_flip (List.replicate size 0) k x 0 (by simpa using h)
  rw [List.length_replicate] at this
  rw [show (List.replicate size 0).getD k 0 = 0 by simp [List.getD_eq_getElem?_getD, List.getElem?_replicate]; split <;> rfl, Nat.zero_xor] at this
  rw [this]
  rw [show s ^^^ moreS 0 (List.replicate size 0) ^^^ (moreS 0 (List.replicate size 0) ^^^ zerosN (size - k) x) = (s ^^^ zerosN (size - k) x) ^^^ (moreS 0 (List.replicate size 0) ^^^ moreS 0 (List.replicate size 0)) by ac_rfl, Nat.xor_self, Nat.xor_zero]

theorem tab_big : ∀ r, r < 16 → r ≠ 0 → 268435456 ≤ tab.getD r 0 := by decide
theorem turn_ne (z : Nat) (h : z < 4294967296) (hz : z ≠ 0) : turnN z ≠ 0 := by
  intro h0
  unfold turnN at h0
  have h1 : z / 16 = tab.getD (z % 16) 0 := by
    have := congrArg (· ^^^ tab.getD (z % 16) 0) h0
    simpa [Nat.xor_assoc] using this
  by_cases hr : z % 16 = 0
  · rw [hr] at h1
    have : tab.getD 0 0 = 0 := rfl
    omega
  · have := tab_big _ (Nat.mod_lt _ (by omega)) hr
    omega
theorem zeros_ne (n x : Nat) (h : x < 4294967296) (hx : x ≠ 0) : zerosN n x ≠ 0 := by
  induction n with
  | zero => exact hx
  | succ n ih =>
    have h1 := zerosN_lt n x h
    exact turn_ne _ (turnN_lt _ h1) (turn_ne _ h1 ih)
theorem zeros_nought (n : Nat) : zerosN n 0 = 0 := by
  induction n with
  | zero => rfl
  | succ k ih => show turnN (turnN (zerosN k 0)) = 0; rw [ih, turn_zero, turn_zero]
theorem xor_right_ne (a b : Nat) (h : b ≠ 0) : a ^^^ b ≠ a := by
  intro e
  have := congrArg (a ^^^ ·) e
  simp only [← Nat.xor_assoc, Nat.xor_self, Nat.zero_xor] at this
  exact h this
end Go.Proofs.YtcfclhgilpajiaaDoor
