import Derived.Test.YtcamakleahpinaaBitsWorks
/-
  The plain law of bits and numbers in bytes.
-/
namespace Go.Proofs.Ytcamakleahpinaa
open Go.RowKit

theorem bit_table : ∀ X, X < 256 → ∀ r, r < 8 → ∀ s, s < 8 → (X - X / 2 ^ r % 2 * 2 ^ r + 2 ^ r) / 2 ^ s % 2 = (if s = r then 1 else X / 2 ^ s % 2) ∧ (X - X / 2 ^ r % 2 * 2 ^ r) / 2 ^ s % 2 = (if s = r then 0 else X / 2 ^ s % 2) := by decide +kernel
theorem bitN_set (l : List Nat) (i j : Nat) (on : Bool) (hb : ∀ x ∈ l, x < 256) (hi : i / 8 < l.length) : bitN (setN l i on) j = if j = i then (if on then 1 else 0) else bitN l j := by
  unfold setN bitN
  by_cases hk : j / 8 = i / 8
  · have hX := mem_getD hi hb
    have ht := bit_table _ hX (i % 8) (Nat.mod_lt _ (by decide)) (j % 8) (Nat.mod_lt _ (by decide))
    rw [hk]
    have e : (l.set (i / 8) (offN l i + if on then 2 ^ (i % 8) else 0)).getD (i / 8) 0 = offN l i + if on then 2 ^ (i % 8) else 0 := by
      rw [List.getD_eq_getElem?_getD, List.getElem?_set_self hi]; rfl
    rw [e]
    have eo : offN l i = l.getD (i / 8) 0 - l.getD (i / 8) 0 / 2 ^ (i % 8) % 2 * 2 ^ (i % 8) := rfl
    rw [eo]
    have hji : (j % 8 = i % 8) ↔ (j = i) := by omega
    cases on with
    | true =>
      simp only [if_true]
      rw [ht.1]
      by_cases h : j = i
      · rw [if_pos h, if_pos (hji.2 h)]
      · rw [if_neg h, if_neg (fun hh => h (hji.1 hh))]
    | false =>
      simp only [Bool.false_eq_true, if_false, Nat.add_zero]
      rw [ht.2]
      by_cases h : j = i
      · rw [if_pos h, if_pos (hji.2 h)]
      · rw [if_neg h, if_neg (fun hh => h (hji.1 hh))]
  · have hji : ¬ j = i := fun h => hk (by rw [h])
    have this : ∀ Z, (l.set (i / 8) Z).getD (j / 8) 0 = l.getD (j / 8) 0 := fun Z => by
      rw [List.getD_eq_getElem?_getD, List.getD_eq_getElem?_getD, List.getElem?_set_ne (by omega)]
    rw [this, if_neg hji]
theorem setN_length (l : List Nat) (i : Nat) (on : Bool) : (setN l i on).length = l.length := by unfold setN; rw [List.length_set]
theorem setN_lt (l : List Nat) (i : Nat) (on : Bool) (hb : ∀ x ∈ l, x < 256) (hi : i / 8 < l.length) : ∀ x ∈ setN l i on, x < 256 := by
  unfold setN
  refine set_mem hb ?_
  have hX := mem_getD hi hb
  have t := (andNot_table _ hX (i % 8) (Nat.mod_lt _ (by decide))).2.2
  have eo : offN l i = l.getD (i / 8) 0 - l.getD (i / 8) 0 / 2 ^ (i % 8) % 2 * 2 ^ (i % 8) := rfl
  rw [eo]
  split
  · exact t
  · omega
theorem bitB_set_self (l : List Nat) (i : Nat) (on : Bool) (hb : ∀ x ∈ l, x < 256) (hi : i / 8 < l.length) : bitB (setN l i on) i = on := by
  unfold bitB; rw [bitN_set l i i on hb hi, if_pos rfl]; cases on <;> rfl
theorem bitB_set_other (l : List Nat) (i j : Nat) (on : Bool) (hb : ∀ x ∈ l, x < 256) (hi : i / 8 < l.length) (h : j ≠ i) : bitB (setN l i on) j = bitB l j := by
  unfold bitB; rw [bitN_set l i j on hb hi, if_neg h]
theorem cntN_set (l : List Nat) (i : Nat) (on : Bool) (hb : ∀ x ∈ l, x < 256) (hi : i / 8 < l.length) : ∀ W, cntN (setN l i on) W + (if i < W then bitN l i else 0) = cntN l W + (if i < W then (if on then 1 else 0) else 0)
  | 0 => by simp [cntN]
  | W + 1 => by
    have ih := cntN_set l i on hb hi W
    simp only [cntN]
    rw [bitN_set l i W on hb hi]
    by_cases h1 : i < W
    · have h2 : i < W + 1 := by omega
      have h3 : ¬ W = i := by omega
      simp only [h1, h2, h3, if_true, if_false] at ih ⊢
      omega
    · by_cases h2 : W = i
      · subst h2
        have h3 : ¬ W < W := by omega
        have h4 : W < W + 1 := by omega
        simp only [h3, h4, if_true, if_false] at ih ⊢
        omega
      · have h3 : ¬ i < W + 1 := by omega
        simp only [h1, h2, h3, if_false] at ih ⊢
        omega

theorem putN_getD (l : List Nat) (p m : Nat) : ∀ (k j : Nat), p + k ≤ l.length → (putN l p k m).getD j 0 = if p ≤ j ∧ j < p + k then m / 256 ^ (j - p) % 256 else l.getD j 0
  | 0, j, _ => by rw [if_neg (by omega)]; rfl
  | k + 1, j, h => by
    have ih := putN_getD l p m k j (by omega)
    simp only [putN]
    rw [List.getD_eq_getElem?_getD, List.getElem?_set]
    rw [putN_length]
    by_cases hj : p + k = j
    · rw [if_pos hj, if_pos (by omega), if_pos (by omega)]
      rw [show j - p = k by omega]; rfl
    · rw [if_neg hj, ← List.getD_eq_getElem?_getD, ih]
      by_cases h2 : p ≤ j ∧ j < p + k
      · rw [if_pos h2, if_pos (by omega)]
      · rw [if_neg h2, if_neg (by omega)]
theorem ext_getD {l m : List Nat} (h : l.length = m.length) (hg : ∀ j, j < l.length → l.getD j 0 = m.getD j 0) : l = m := by
  apply List.ext_getElem h
  intro i h1 h2
  have := hg i h1
  rwa [getD_getElem l i h1, getD_getElem m i h2] at this
theorem putN_take (l : List Nat) (p q m : Nat) (h : p + q ≤ l.length) : (putN l p q m).take p = l.take p := by
  apply ext_getD
  · simp [putN_length]
  · intro j hj
    have hj' : j < p := by rw [List.length_take] at hj; omega
    rw [List.getD_eq_getElem?_getD, List.getD_eq_getElem?_getD, List.getElem?_take, List.getElem?_take, if_pos hj', if_pos hj', ← List.getD_eq_getElem?_getD, ← List.getD_eq_getElem?_getD, putN_getD l p m q j h, if_neg (by omega)]
theorem putN_drop (l : List Nat) (p q m : Nat) (h : p + q ≤ l.length) : (putN l p q m).drop (p + q) = l.drop (p + q) := by
  apply ext_getD
  · simp [putN_length]
  · intro j hj
    rw [List.getD_eq_getElem?_getD, List.getD_eq_getElem?_getD, List.getElem?_drop, List.getElem?_drop, ← List.getD_eq_getElem?_getD, ← List.getD_eq_getElem?_getD, putN_getD l p m q _ h, if_neg (by omega)]
theorem numAt_putN (l : List Nat) (p m : Nat) (q : Nat) (h : p + q ≤ l.length) : ∀ k, k ≤ q → numAt (putN l p q m) p k = m % 256 ^ k
  | 0, _ => by simp [numAt, leN, Nat.mod_one]
  | k + 1, hk => by
    rw [numAt_succ _ _ _ (by rw [putN_length]; omega), numAt_putN l p m q h k (by omega), putN_getD l p m q _ h, if_pos (by omega), show p + k - p = k by omega]
    rw [Nat.pow_succ, Nat.mod_mul]

theorem Get_any (l : List Nat) (a s : Int) : ∃ R E : Nat, (∀ A c w, RB w A l → Calls Try.prog 10 #[.slice A l.length c, .int .i64 a, .int .i64 s] w fun e w' => e = .returned (.tuple #[.int .i64 (R : Int), .int .i64 (E : Int)]) ∧ w = w') ∧
    (∀ A c w, RB w A l → Calls Try.prog 11 #[.slice A l.length c, .int .i64 a, .int .i64 s] w fun e w' => e = .returned (.tuple #[.int .i64 (R : Int), .int .i64 (E : Int)]) ∧ w = w') := by
  by_cases h : Fits l.length a s
  · obtain ⟨p, q, rfl, rfl, h1, h2, h3⟩ := h.nat
    exact ⟨numAt l p q, 0, fun A c w hl => Get_yes A l c p q w hl h1 h2 h3, fun A c w hl => rGet_yes A l c p q w hl h1 h2 h3⟩
  · exact ⟨0, 2, fun A c w _ => Get_no A l c a s w h, fun A c w _ => rGet_no A l c a s w h⟩
theorem Put_any (l : List Nat) (a s n : Int) (hn : n ≤ 9223372036854775807) (hb : ∀ x ∈ l, x < 256) : ∃ (zs : List Nat) (E : Nat), (∀ x ∈ zs, x < 256) ∧ zs.length ≤ l.length ∧
    (∀ A c w, RB w A l → Calls Try.prog 12 #[.slice A l.length c, .int .i64 a, .int .i64 s, .int .i64 n] w fun e w' => ∃ v, e = .returned (.tuple #[v, .int .i64 (E : Int)]) ∧ OB w' w.heap.size v zs ∧ Below w.heap.size w w') ∧
    (∀ A c w, RB w A l → Calls Try.prog 13 #[.slice A l.length c, .int .i64 a, .int .i64 s, .int .i64 n] w fun e w' => ∃ v, e = .returned (.tuple #[v, .int .i64 (E : Int)]) ∧ OB w' w.heap.size v zs ∧ Below w.heap.size w w') := by
  have hno : ∀ {f : FuncId} {args : Array Value} {w : World}, (Calls Try.prog f args w fun e w' => e = .returned (.tuple #[.slice none 0 0, .int .i64 2]) ∧ w = w') → Calls Try.prog f args w fun e w' => ∃ v, e = .returned (.tuple #[v, .int .i64 ((2 : Nat) : Int)]) ∧ OB w' w.heap.size v [] ∧ Below w.heap.size w w' :=
    fun h => h.mono (fun e w' ⟨he, hw⟩ => ⟨_, he, by rw [← hw]; exact own_nil _ _, by rw [← hw]; exact Below.refl _ _⟩)
  by_cases h : Fits l.length a s
  · by_cases h0 : n < 0
    · exact ⟨[], 2, by simp, by simp, fun A c w hl => hno (Put_neg A l c a s n w hl.2.1 h h0), fun A c w hl => hno (rPut_neg A l c a s n w hl.2.1 h h0)⟩
    · obtain ⟨p, q, rfl, rfl, h1, h2, h3⟩ := h.nat
      obtain ⟨m, rfl⟩ := Int.eq_ofNat_of_zero_le (show 0 ≤ n by omega)
      by_cases hm : m < 256 ^ q
      · exact ⟨putN l p q m, 0, putN_lt l p q m hb, by rw [putN_length]; exact Nat.le_refl _, fun A c w hl => Put_yes A l c p q m w hl h1 h2 h3 hm,
          fun A c w hl => (rPut_fit A l c p q m w hl h1 h2 h3 (by omega)).mono fun e w' hh => hh.1 hm⟩
      · exact ⟨[], 2, by simp, by simp, fun A c w hl => hno (Put_big A l c p q m w hl.2.1 h1 h2 h3 (by omega) (by omega)),
          fun A c w hl => (rPut_fit A l c p q m w hl h1 h2 h3 (by omega)).mono fun e w' hh => let ⟨he, hw⟩ := hh.2 (by omega); ⟨_, he, own_nil _ _, hw⟩⟩
  · exact ⟨[], 2, by simp, by simp, fun A c w _ => hno (Put_nofit A l c a s n w h), fun A c w _ => hno (rPut_nofit A l c a s n w h)⟩
end Go.Proofs.Ytcamakleahpinaa
