import Derived.Test.YtoekecopfmohiaaDoorFlatePure
import Derived.Test.YtoekecopfmohiaaDoorCrcAll
import Derived.Test.YtoekecopfmohiaaDoorBitsAll
/-
  A frame, plainly: its header, what is opened; a header's beginning is short.
-/
namespace Go.Proofs.YtoekecopfmohiaaDoor

/-- where the first nought stands; the length where there is none -/
def nulN : List Nat → Nat
  | [] => 0
  | x :: r => if x = 0 then 0 else nulN r + 1
theorem nulN_le : ∀ l, nulN l ≤ l.length
  | [] => Nat.le_refl _
  | x :: r => by
    simp only [nulN, List.length_cons]
    split
    · omega
    · have := nulN_le r; omega
theorem nulN_app (l m : List Nat) (h : ∀ x ∈ l, x ≠ 0) : nulN (l ++ 0 :: m) = l.length := by
  induction l with
  | nil => simp [nulN]
  | cons x r ih =>
    simp only [List.cons_append, nulN, List.length_cons]
    rw [if_neg (h x (by simp)), ih (fun y hy => h y (by simp [hy]))]
theorem nulN_pre : ∀ (l m : List Nat), nulN l < l.length → nulN (l ++ m) = nulN l
  | [], m, h => by simp at h
  | x :: r, m, h => by
    simp only [List.cons_append, nulN, List.length_cons] at h ⊢
    split
    · rfl
    · rename_i hx
      rw [if_neg hx] at h
      rw [nulN_pre r m (by omega)]
theorem nulN_cut : ∀ (l : List Nat) (k : Nat), k ≤ nulN l → nulN (l.take k) = (l.take k).length
  | [], k, _ => by simp [nulN]
  | x :: r, 0, _ => by simp [nulN]
  | x :: r, k + 1, h => by
    simp only [nulN] at h
    by_cases hx : x = 0
    · rw [if_pos hx] at h; omega
    · rw [if_neg hx] at h
      simp only [List.take_succ_cons, nulN, List.length_cons]
      rw [if_neg hx, nulN_cut r k (by omega)]
theorem nulN_full {l : List Nat} (h : ¬ nulN l < l.length) : ∀ x ∈ l, x ≠ 0 := by
  induction l with
  | nil => intro x hx; cases hx
  | cons y r ih =>
    simp only [nulN, List.length_cons] at h
    by_cases hy : y = 0
    · rw [if_pos hy] at h; omega
    · rw [if_neg hy] at h
      intro x hx
      rcases List.mem_cons.1 hx with rfl | hx
      · exact hy
      · exact ih (by omega) x hx
theorem nulN_none {l : List Nat} (h : ∀ x ∈ l, x ≠ 0) : ¬ nulN l < l.length := by
  induction l with
  | nil => simp [nulN]
  | cons y r ih =>
    simp only [nulN, List.length_cons]
    rw [if_neg (h y (by simp))]
    have := ih (fun x hx => h x (by simp [hx]))
    omega
def hMag : List Nat := [31, 139, 8, 0, 0, 0, 0, 0, 0, 0]
def magS (b : List Nat) (i : Nat) (r : Except Nat Nat) : Except Nat Nat := if b.length ≤ i then .error 7 else if b.getD i 0 ≠ hMag.getD i 0 then .error 120 else r
def pre3 (b : List Nat) : Except Nat Nat := if b.length < 4 then .error 7 else if b.getD 3 0 &&& 224 ≠ 0 then .error 120 else if b.length < 10 then .error 7 else .ok 10
def preN (b : List Nat) : Except Nat Nat := magS b 0 (magS b 1 (magS b 2 (pre3 b)))
def textN (b : List Nat) (a : Nat) : Except Nat Nat := if nulN (b.drop a) < (b.drop a).length then .ok (a + (nulN (b.drop a) + 1)) else .error 7
def extraN (b : List Nat) (a : Nat) : Except Nat Nat := if a + 2 ≤ b.length then if numAt b a 2 + (a + 2) ≤ b.length then .ok (a + (2 + numAt b a 2)) else .error 7 else .error 7
def sumN (b : List Nat) (a : Nat) : Except Nat Nat := if a + 2 ≤ b.length then if numAt b a 2 = moreS 0 (b.take a) % 65536 then .ok (a + 2) else .error 121 else .error 7
def eb {α β : Type} (r : Except Nat α) (f : α → Except Nat β) : Except Nat β := match r with
  | .ok a => f a
  | .error e => .error e
def partF : Nat → Nat
  | 0 => 4
  | 1 => 8
  | 2 => 16
  | _ => 2
def partP (b : List Nat) : Nat → Nat → Except Nat Nat
  | 0 => extraN b
  | 1 => textN b
  | 2 => textN b
  | _ => sumN b
/-- the parts from the k-th on -/
def rstN (b : List Nat) : Nat → Nat → Nat → Except Nat Nat
  | 0, _, a => .ok a
  | j + 1, k, a => if b.getD 3 0 &&& partF k = 0 then rstN b j (k + 1) a else eb (partP b k a) (rstN b j (k + 1))
/-- where the header ends -/
def hdrN (b : List Nat) : Except Nat Nat := eb (preN b) (rstN b 4 0)
/-- what stands behind the stream -/
def tailN (r out : List Nat) : Except Nat (List Nat) :=
  if r.length < 4 then .error 7 else if numAt r 0 4 ≠ moreS 0 out then .error 121 else if r.length < 8 then .error 7 else if numAt r 4 4 ≠ out.length then .error 121 else if 8 < r.length then .error 120 else .ok out
/-- what is opened -/
def opnN (b : List Nat) (m : Nat) : Except Nat (List Nat) :=
  eb (hdrN b) fun a => eb (inflN (b.drop a) m) fun u => tailN (b.drop (a + u.2)) u.1
theorem eb_ok {α β : Type} {r : Except Nat α} {f : α → Except Nat β} {v : β} (h : eb r f = .ok v) : ∃ a, r = .ok a ∧ f a = .ok v := by
  cases r with
  | error e => cases h
  | ok a => exact ⟨a, rfl, h⟩
/-- a header's part keeps: forward; what stands behind changes nothing; a beginning is short -/
structure HP (P : List Nat → Nat → Except Nat Nat) : Prop where
  mono : ∀ b a a', P b a = .ok a' → a ≤ b.length → a ≤ a' ∧ a' ≤ b.length
  same : ∀ b b' c a a', Agr b b' c → 4 ≤ c → a ≤ c → P b a = .ok a' → a' ≤ c → P b' a = .ok a'
  cut : ∀ b b' a a', Agr b b' b'.length → 4 ≤ b'.length → a ≤ b'.length → P b a = .ok a' → b'.length < a' → P b' a = .error 7
theorem Agr.take {l l' : List Nat} {c : Nat} (h : Agr l l' c) (k : Nat) (hk : k ≤ c) : l'.take k = l.take k := by
  have := congrArg (List.take k) h.eq
  rw [List.take_take, List.take_take, Nat.min_eq_left hk] at this
  exact this.symm
theorem Agr.get {l l' : List Nat} {c : Nat} (h : Agr l l' c) (i : Nat) (hi : i < c) : l'.getD i 0 = l.getD i 0 := by
  have h1 := h.take (i + 1) (by omega)
  have h2 := congrArg (·.getD i 0) h1
  simp only [List.getD_eq_getElem?_getD, List.getElem?_take, if_pos (Nat.lt_succ_self i)] at h2
  rw [List.getD_eq_getElem?_getD, List.getD_eq_getElem?_getD]; exact h2
theorem Agr.num {l l' : List Nat} {c : Nat} (h : Agr l l' c) (p q : Nat) (hpq : p + q ≤ c) : numAt l' p q = numAt l p q := by
  have h1 := h.take (p + q) hpq
  unfold numAt
  congr 1
  have h2 := congrArg (List.drop p) h1
  rw [List.drop_take, List.drop_take, Nat.add_sub_cancel_left] at h2
  exact h2
theorem Agr.drop_take {l l' : List Nat} {c : Nat} (h : Agr l l' c) (p k : Nat) (hk : p + k ≤ c) : (l'.drop p).take k = (l.drop p).take k := by
  have h2 := congrArg (List.drop p) (h.take (p + k) hk)
  rw [List.drop_take, List.drop_take, Nat.add_sub_cancel_left] at h2
  exact h2
theorem hp_extra : HP extraN where
  mono := fun b a a' h ha => by
    unfold extraN at h
    split at h
    · split at h <;> cases h
      omega
    · cases h
  same := fun b b' c a a' hA hc4 hac h hc => by
    unfold extraN at h ⊢
    have := hA.h2
    split at h
    · split at h <;> cases h
      rw [if_pos (by omega), hA.num a 2 (by omega), if_pos (by omega)]
    · cases h
  cut := fun b b' a a' hA h4 hab h hc => by
    unfold extraN at h ⊢
    split at h
    · split at h <;> cases h
      by_cases h2 : a + 2 ≤ b'.length
      · rw [if_pos h2, hA.num a 2 h2, if_neg (by omega)]
      · rw [if_neg h2]
    · cases h
theorem hp_sum : HP sumN where
  mono := fun b a a' h ha => by
    unfold sumN at h
    split at h
    · split at h <;> cases h
      omega
    · cases h
  same := fun b b' c a a' hA hc4 hac h hc => by
    unfold sumN at h ⊢
    have := hA.h2
    split at h
    · split at h <;> cases h
      rename_i h3
      rw [if_pos (by omega), hA.num a 2 (by omega), hA.take a hac, if_pos h3]
    · cases h
  cut := fun b b' a a' hA h4 hab h hc => by
    unfold sumN at h ⊢
    split at h
    · split at h <;> cases h
      rw [if_neg (by omega)]
    · cases h
theorem hp_text : HP textN where
  mono := fun b a a' h ha => by
    unfold textN at h
    split at h <;> cases h
    rename_i h1
    rw [List.length_drop] at h1
    omega
  same := fun b b' c a a' hA hc4 hac h hc => by
    unfold textN at h ⊢
    split at h <;> cases h
    rename_i h1
    have hlb := hA.h2
    rw [List.length_drop] at h1
    have e1 : nulN ((b.drop a).take (nulN (b.drop a) + 1)) = nulN (b.drop a) := by
      have hl : ((b.drop a).take (nulN (b.drop a) + 1)).length = nulN (b.drop a) + 1 := by rw [List.length_take, List.length_drop]; omega
      by_cases hh : nulN ((b.drop a).take (nulN (b.drop a) + 1)) < ((b.drop a).take (nulN (b.drop a) + 1)).length
      · have := nulN_pre _ ((b.drop a).drop (nulN (b.drop a) + 1)) hh
        rw [List.take_append_drop] at this
        exact this.symm
      · exfalso
        have hz := nulN_full hh
        have h2 : nulN (b.drop a) < (b.drop a).length := by rw [List.length_drop]; omega
        have h3 : (b.drop a)[nulN (b.drop a)]'h2 = 0 := by
          have key : ∀ l : List Nat, ∀ h : nulN l < l.length, l[nulN l]'h = 0 := by
            intro l
            induction l with
            | nil => intro h; simp at h
            | cons x r ih =>
              intro h
              by_cases hx : x = 0
              · simp [nulN, hx]
              · have hr : nulN r < r.length := by simp only [nulN, if_neg hx, List.length_cons] at h; omega
                have := ih hr
                simp only [nulN, if_neg hx, List.getElem_cons_succ]
                exact this
          exact key _ h2
        exact hz 0 (by rw [← h3]; exact List.mem_iff_getElem.2 ⟨nulN (b.drop a), by rw [hl]; omega, by rw [List.getElem_take]⟩) rfl
    have e2 : (b'.drop a).take (nulN (b.drop a) + 1) = (b.drop a).take (nulN (b.drop a) + 1) := hA.drop_take a _ (by omega)
    have e3 : nulN (b'.drop a) = nulN (b.drop a) := by
      have hl : ((b'.drop a).take (nulN (b.drop a) + 1)).length = nulN (b.drop a) + 1 := by rw [List.length_take, List.length_drop]; omega
      have := nulN_pre ((b'.drop a).take (nulN (b.drop a) + 1)) ((b'.drop a).drop (nulN (b.drop a) + 1)) (by rw [hl, e2, e1]; omega)
      rw [List.take_append_drop, e2, e1] at this
      exact this
    rw [e3, if_pos (by rw [List.length_drop]; omega)]
  cut := fun b b' a a' hA h4 hab h hc => by
    unfold textN at h ⊢
    split at h <;> cases h
    rename_i h1
    rw [List.length_drop] at h1
    have e2 : b'.drop a = (b.drop a).take (b'.length - a) := by
      have := hA.drop_take a (b'.length - a) (by omega)
      rw [← this, List.take_of_length_le (by rw [List.length_drop]; exact Nat.le_refl _)]
    rw [e2, nulN_cut _ _ (by omega), if_neg (by omega)]
theorem hp_part : ∀ k, HP (fun b a => partP b k a)
  | 0 => hp_extra
  | 1 => hp_text
  | 2 => hp_text
  | _ + 3 => hp_sum
theorem hp_rst : ∀ j k, HP (fun b a => rstN b j k a)
  | 0, k => ⟨fun b a a' h ha => by cases h; exact ⟨Nat.le_refl _, ha⟩, fun b b' c a a' _ _ _ h _ => h, fun b b' a a' _ _ hab h hc => by cases h; omega⟩
  | j + 1, k => by
    have ih := hp_rst j (k + 1)
    have ip := hp_part k
    refine ⟨fun b a a' h ha => ?_, fun b b' c a a' hA h4 hac h hc => ?_, fun b b' a a' hA h4 hab h hc => ?_⟩
    · simp only [rstN] at h
      split at h
      · exact ih.mono b a a' h ha
      · obtain ⟨a1, h1, h2⟩ := eb_ok h
        have m1 := ip.mono b a a1 h1 ha
        have m2 := ih.mono b a1 a' h2 m1.2
        omega
    · have hg := hA.get 3 (by omega)
      simp only [rstN] at h ⊢
      rw [hg]
      split at h
      · rename_i hf
        rw [if_pos hf]
        exact ih.same b b' c a a' hA h4 hac h hc
      · rename_i hf
        rw [if_neg hf]
        obtain ⟨a1, h1, h2⟩ := eb_ok h
        have hb := hA.h1
        have m1 := ip.mono b a a1 h1 (by omega)
        have m2 := ih.mono b a1 a' h2 m1.2
        rw [ip.same b b' c a a1 hA h4 hac h1 (by omega)]
        exact ih.same b b' c a1 a' hA h4 (by omega) h2 hc
    · have hg := hA.get 3 (by omega)
      simp only [rstN] at h ⊢
      rw [hg]
      split at h
      · rename_i hf
        rw [if_pos hf]
        exact ih.cut b b' a a' hA h4 hab h hc
      · rename_i hf
        rw [if_neg hf]
        obtain ⟨a1, h1, h2⟩ := eb_ok h
        have hb := hA.h1
        by_cases hc1 : b'.length < a1
        · rw [ip.cut b b' a a1 hA h4 hab h1 hc1]; rfl
        · rw [ip.same b b' b'.length a a1 hA h4 hab h1 (by omega)]
          exact ih.cut b b' a1 a' hA h4 (by omega) h2 hc
theorem preN_ok {b : List Nat} {a : Nat} (h : preN b = .ok a) : a = 10 ∧ 10 ≤ b.length ∧ b.getD 0 0 = 31 ∧ b.getD 1 0 = 139 ∧ b.getD 2 0 = 8 ∧ b.getD 3 0 &&& 224 = 0 := by
  unfold preN magS pre3 at h
  repeat' (split at h <;> try cases h)
  rename_i h1 h2 h3 h4 h5 h6 h7 h8 h9
  refine ⟨rfl, by omega, by simpa [hMag] using h2, by simpa [hMag] using h4, by simpa [hMag] using h6, by simpa using h8⟩
theorem preN_of {b : List Nat} (h0 : 10 ≤ b.length) (h1 : b.getD 0 0 = 31) (h2 : b.getD 1 0 = 139) (h3 : b.getD 2 0 = 8) (h4 : b.getD 3 0 &&& 224 = 0) : preN b = .ok 10 := by
  unfold preN magS pre3
  rw [if_neg (by omega), if_neg (by rw [h1]; decide), if_neg (by omega), if_neg (by rw [h2]; decide), if_neg (by omega), if_neg (by rw [h3]; decide), if_neg (by omega), if_neg (by rw [h4]; decide), if_neg (by omega)]
theorem preN_cut {b b' : List Nat} (h : preN b = .ok 10) (hA : Agr b b' b'.length) (hk : b'.length < 10) : preN b' = .error 7 := by
  obtain ⟨-, h10, h0, h1, h2, h3⟩ := preN_ok h
  unfold preN magS pre3
  by_cases l0 : b'.length ≤ 0
  · rw [if_pos l0]
  rw [if_neg l0, if_neg (by rw [hA.get 0 (by omega), h0]; decide)]
  by_cases l1 : b'.length ≤ 1
  · rw [if_pos l1]
  rw [if_neg l1, if_neg (by rw [hA.get 1 (by omega), h1]; decide)]
  by_cases l2 : b'.length ≤ 2
  · rw [if_pos l2]
  rw [if_neg l2, if_neg (by rw [hA.get 2 (by omega), h2]; decide)]
  by_cases l3 : b'.length < 4
  · rw [if_pos l3]
  rw [if_neg l3, if_neg (by rw [hA.get 3 (by omega), h3]; decide), if_pos hk]
theorem hdrN_bounds {b : List Nat} {a : Nat} (h : hdrN b = .ok a) : 10 ≤ a ∧ a ≤ b.length := by
  obtain ⟨a1, h1, h2⟩ := eb_ok h
  obtain ⟨rfl, h10, -⟩ := preN_ok h1
  exact (hp_rst 4 0).mono b 10 a h2 h10
theorem hdrN_same {b b' : List Nat} {a : Nat} (h : hdrN b = .ok a) (hA : Agr b b' a) : hdrN b' = .ok a := by
  have hb := hdrN_bounds h
  obtain ⟨a1, h1, h2⟩ := eb_ok h
  obtain ⟨rfl, h10, g0, g1, g2, g3⟩ := preN_ok h1
  have hb' := hA.h2
  have hp : preN b' = .ok 10 := preN_of (by omega) ((hA.get 0 (by omega)).trans g0) ((hA.get 1 (by omega)).trans g1) ((hA.get 2 (by omega)).trans g2) (by rw [hA.get 3 (by omega)]; exact g3)
  unfold hdrN
  rw [hp]
  exact (hp_rst 4 0).same b b' a 10 a hA (by omega) (by omega) h2 (Nat.le_refl _)
theorem hdrN_cut {b : List Nat} {a k : Nat} (h : hdrN b = .ok a) (hk : k < a) : hdrN (b.take k) = .error 7 := by
  have hb := hdrN_bounds h
  have hl : (b.take k).length = k := by rw [List.length_take]; omega
  have hA : Agr b (b.take k) (b.take k).length := by
    rw [hl]
    have := agr_app b [] k (by omega)
    rwa [List.append_nil] at this
  obtain ⟨a1, h1, h2⟩ := eb_ok h
  have h1' := h1
  obtain ⟨rfl, h10, -⟩ := preN_ok h1
  unfold hdrN
  by_cases hk10 : k < 10
  · rw [preN_cut h1' hA (by omega)]; rfl
  · obtain ⟨-, -, g0, g1, g2, g3⟩ := preN_ok h1'
    have hp : preN (b.take k) = .ok 10 := preN_of (by omega) ((hA.get 0 (by omega)).trans g0) ((hA.get 1 (by omega)).trans g1) ((hA.get 2 (by omega)).trans g2) (by rw [hA.get 3 (by omega)]; exact g3)
    rw [hp]
    exact (hp_rst 4 0).cut b (b.take k) 10 a hA (by omega) (by omega) h2 (by omega)
end Go.Proofs.YtoekecopfmohiaaDoor
