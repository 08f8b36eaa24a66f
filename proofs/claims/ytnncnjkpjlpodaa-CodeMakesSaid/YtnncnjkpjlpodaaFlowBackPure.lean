import Derived.Test.YtnncnjkpjlpodaaFlowRefPure2
import Derived.Test.YtnncnjkpjlpodaaRowActs
/-
  What was put, in order, as a number; where each lies in it. A row of Acts that the call owns.
-/
namespace Go.Proofs.Ytnncnjkpjlpodaa
open Go.RowKit

/-- what was put: how, the number, its bits, what else lay beside -/
structure TV where
  d : Int
  n : Nat
  b : Nat
  D : Option Addr
  len : Nat
  cap : Nat
def TV.val (x : TV) : Nat := if amg x.d 2 = 0 then x.n else revN x.n x.b
def TV.ok (x : TV) : Prop := x.b ≤ 24 ∧ x.n < 2 ^ x.b
theorem TV.val_lt {x : TV} (h : x.ok) : x.val < 2 ^ x.b := by
  unfold TV.val
  split
  · exact h.2
  · exact eachV_lt _ _ _
def tN : List TV → Nat
  | [] => 0
  | x :: r => x.val + 2 ^ x.b * tN r
def tA : List TV → Nat
  | [] => 0
  | x :: r => x.b + tA r
theorem tA_app (l m : List TV) : tA (l ++ m) = tA l + tA m := by
  induction l with
  | nil => simp [tA]
  | cons x r ih => simp only [List.cons_append, tA, ih]; omega
theorem tN_app (l m : List TV) : tN (l ++ m) = tN l + 2 ^ tA l * tN m := by
  induction l with
  | nil => simp [tN, tA]
  | cons x r ih =>
    simp only [List.cons_append, tN, tA, ih]
    rw [Nat.mul_add, ← Nat.mul_assoc, ← Nat.pow_add, Nat.add_assoc]
theorem tN_snoc (l : List TV) (x : TV) : tN (l ++ [x]) = tN l + 2 ^ tA l * x.val := by rw [tN_app]; simp [tN]
theorem tA_snoc (l : List TV) (x : TV) : tA (l ++ [x]) = tA l + x.b := by rw [tA_app]; simp [tA]
theorem tN_lt (l : List TV) (h : ∀ x ∈ l, x.ok) : tN l < 2 ^ tA l := by
  induction l with
  | nil => simp [tN, tA]
  | cons x r ih =>
    have h1 := TV.val_lt (h x (by simp))
    have h2 := ih (fun y hy => h y (by simp [hy]))
    simp only [tN, tA]
    rw [Nat.pow_add]
    have : 2 ^ x.b * (tN r + 1) ≤ 2 ^ x.b * 2 ^ tA r := Nat.mul_le_mul_left _ h2
    rw [Nat.mul_add, Nat.mul_one] at this
    omega
theorem tN_at (l : List TV) (h : ∀ x ∈ l, x.ok) (j : Nat) (x : TV) (hx : l[j]? = some x) : tN l / 2 ^ tA (l.take j) % 2 ^ x.b = x.val := by
  have hj : j < l.length := (List.getElem?_eq_some_iff.1 hx).1
  have e : l = l.take j ++ (x :: l.drop (j + 1)) := by
    have h2 := List.getElem?_eq_getElem hj
    rw [hx] at h2
    rw [Option.some.inj h2, ← List.drop_eq_getElem_cons hj, List.take_append_drop]
  have h1 := tN_lt (l.take j) (fun y hy => h y (List.mem_of_mem_take hy))
  have hv := TV.val_lt (h x (List.mem_of_getElem? hx))
  conv => lhs; rw [e]
  rw [List.take_left' (by rw [List.length_take]; omega), tN_app]
  rw [Nat.add_mul_div_left _ _ (Nat.pow_pos (by decide)), Nat.div_eq_of_lt h1, Nat.zero_add]
  simp only [tN]
  rw [Nat.add_mul_mod_self_left, Nat.mod_eq_of_lt hv]
theorem tA_take (l : List TV) (j : Nat) (x : TV) (hx : l[j]? = some x) : tA (l.take (j + 1)) = tA (l.take j) + x.b := by
  have hj : j < l.length := (List.getElem?_eq_some_iff.1 hx).1
  have h2 := List.getElem?_eq_getElem hj
  rw [hx] at h2
  rw [List.take_succ_eq_append_getElem hj, ← Option.some.inj h2, tA_snoc]
theorem tA_le (l : List TV) (j : Nat) : tA (l.take j) ≤ tA l := by
  conv => rhs; rw [← List.take_append_drop j l, tA_app]
  omega
theorem eachV_bit (n : Nat) (G : Nat → Int) : ∀ k j, j < k → eachV n G k / 2 ^ j % 2 = n / 2 ^ (G j).toNat % 2
  | 0, j, h => by omega
  | k + 1, j, h => by
    simp only [eachV]
    rcases Nat.lt_or_ge j k with h1 | h1
    · rw [← eachV_bit n G k j h1, show k = j + 1 + (k - j - 1) by omega, Nat.pow_add (m := j + 1), Nat.pow_succ]
      generalize eachV n G (j + 1 + (k - j - 1)) = E
      generalize n / 2 ^ (G (j + 1 + (k - j - 1))).toNat % 2 = X
      rw [show X * (2 ^ j * 2 * 2 ^ (k - j - 1)) = 2 ^ j * (2 * (2 ^ (k - j - 1) * X)) by rw [Nat.mul_comm X, Nat.mul_assoc, Nat.mul_assoc], Nat.add_mul_div_left _ _ (Nat.pow_pos (by decide)), Nat.add_mul_mod_self_left]
    · obtain rfl : j = k := by omega
      have h2 := eachV_lt n G j
      rw [Nat.mul_comm, Nat.add_mul_div_left _ _ (Nat.pow_pos (by decide)), Nat.div_eq_of_lt h2, Nat.zero_add, Nat.mod_mod]
theorem revN_bit (n b k : Nat) (h : k < b) : revN n b / 2 ^ k % 2 = n / 2 ^ (b - (k + 1)) % 2 := by
  unfold revN
  rw [eachV_bit n _ b k h]
  rw [show ((b : Int) - 1 + (k : Int) * (-1)).toNat = b - (k + 1) by omega]
theorem pkN_bit (l : List Nat) (a b k V : Nat) (h : lsum l / 2 ^ a % 2 ^ b = V) (hk : k < b) : pkN l (a + k) 1 = V / 2 ^ k % 2 := by
  unfold pkN
  rw [← h, Nat.pow_add, ← Nat.div_div_eq_div_mul, Nat.pow_one]
  generalize lsum l / 2 ^ a = M
  rw [show b = k + (b - k - 1) + 1 by omega, Nat.pow_succ, Nat.pow_add, Nat.mul_assoc, Nat.mod_mul_right_div_self, Nat.mul_comm _ 2, Nat.mod_mul_right_mod]
theorem half_step (n b k : Nat) (h : k < b) : 2 * (n / 2 ^ (b - k)) + n / 2 ^ (b - (k + 1)) % 2 = n / 2 ^ (b - (k + 1)) := by
  rw [show b - k = (b - (k + 1)) + 1 by omega, Nat.pow_succ, ← Nat.div_div_eq_div_mul]
  omega

def TV.cells (x : TV) : List Value := [.int .i64 x.d, .int .i64 (x.n : Int), .int .i64 (x.b : Int), .slice x.D x.len x.cap]
def tcells (l : List TV) : List Value := l.flatMap TV.cells
theorem tcells_len (l : List TV) : (tcells l).length = l.length * 4 := by
  induction l with
  | nil => rfl
  | cons x r ih => simp only [tcells, List.flatMap_cons, List.length_append, List.length_cons] at ih ⊢; rw [ih]; simp [TV.cells]; omega
theorem tcells_get : ∀ (l : List TV) (j i : Nat) (x : TV), l[j]? = some x → i < 4 → (tcells l)[j * 4 + i]? = x.cells[i]?
  | [], j, i, x, h, _ => by simp at h
  | y :: r, 0, i, x, h, hi => by
    obtain rfl : y = x := by simpa using h
    simp only [tcells, List.flatMap_cons, Nat.zero_mul, Nat.zero_add]
    rw [List.getElem?_append_left (by simp [TV.cells]; exact hi)]
  | y :: r, j + 1, i, x, h, hi => by
    have ih := tcells_get r j i x (by simpa using h) hi
    simp only [tcells, List.flatMap_cons] at ih ⊢
    rw [List.getElem?_append_right (by simp [TV.cells]; omega), show (j + 1) * 4 + i - y.cells.length = j * 4 + i by simp [TV.cells]; omega]
    exact ih
theorem tcells_snoc (l : List TV) (x : TV) : tcells (l ++ [x]) = tcells l ++ x.cells := by simp [tcells]
/-- Acts that the call owns -/
def OT (w : World) (base : Nat) (v : Value) (l : List TV) : Prop := w.ownsRow base 28 4 v l.length (tcells l)
theorem OT.empty (w : World) : OT (w.alloc (.cells #[] 28)) w.heap.size (.slice (some ⟨w.heap.size, 0, none⟩) 0 0) [] :=
  ⟨rfl, .inr ⟨w.heap.size, 0, #[], rfl, Nat.le_refl _, heap_alloc_new w _, Nat.le_refl _, by unfold maxLen; omega, rfl, rfl⟩⟩
theorem own_keep {w w' : World} {base : Nat} {e : TypeId} {size n : Nat} {v : Value} {xs : List Value} (h : w.ownsRow base e size v n xs) (hk : ∀ q, v.ownBlock = some q → w'.heap[q]? = w.heap[q]?) : w'.ownsRow base e size v n xs := by
  refine ⟨h.1, h.2.imp id ?_⟩
  rintro ⟨g, cap, cur, hv, hg, hh, r⟩
  exact ⟨g, cap, cur, hv, hg, (hk g (by rw [hv]; rfl)).trans hh, r⟩
theorem own_block' {w : World} {base : Nat} {e : TypeId} {size n : Nat} {v : Value} {xs : List Value} (h : w.ownsRow base e size v n xs) (k : Nat) (hk : v.ownBlock = some k) : base ≤ k ∧ k < w.heap.size := by
  rcases h.2 with ⟨rfl, _⟩ | ⟨g, cap, cur, rfl, hb, hh, _⟩
  · simp [Value.ownBlock] at hk
  · have : g = k := by simpa [Value.ownBlock] using hk
    subst this
    exact ⟨hb, (Array.getElem?_eq_some_iff.1 hh).1⟩
/-- rows of two kinds of elements are not one block -/
theorem own_own_ne {w : World} {base base' : Nat} {e e' : TypeId} {size size' n n' : Nat} {v v' : Value} {xs xs' : List Value} (h : w.ownsRow base e size v n xs) (h' : w.ownsRow base' e' size' v' n' xs') (hne : e ≠ e') :
    ∀ q, v.ownBlock = some q → v'.ownBlock ≠ some q := by
  intro q hq hq'
  rcases h.2 with ⟨rfl, _⟩ | ⟨g, cap, cur, rfl, _, hh, _⟩
  · simp [Value.ownBlock] at hq
  · rcases h'.2 with ⟨rfl, _⟩ | ⟨g', cap', cur', rfl, _, hh', _⟩
    · simp [Value.ownBlock] at hq'
    · obtain rfl : g = q := by simpa [Value.ownBlock] using hq
      obtain rfl : g' = g := by simpa [Value.ownBlock] using hq'
      rw [hh] at hh'
      injection hh' with hh'
      injection hh' with _ ht
      exact hne ht
theorem OT.form {w : World} {base : Nat} {v : Value} {l : List TV} (h : OT w base v l) : ∃ A c, v = .slice A l.length c := by
  rcases h.2 with ⟨rfl, h0⟩ | ⟨g, cap, cur, rfl, _⟩
  · have hl := h.1; rw [h0] at hl; exact ⟨none, 0, by congr 1; simp at hl; omega⟩
  · exact ⟨_, cap, rfl⟩
/-- a row of Acts that is read -/
def TR (w : World) (A : Option Addr) (l : List TV) : Prop := 0 < l.length → ∃ ad, A = some ad ∧ ∀ j x, l[j]? = some x →
  w.cell? (ad.add (j * 4)) = some (.int .i64 x.d) ∧ w.cell? ⟨(ad.add (j * 4)).block, (ad.add (j * 4)).off + 1, none⟩ = some (.int .i64 (x.n : Int)) ∧ w.cell? ⟨(ad.add (j * 4)).block, (ad.add (j * 4)).off + 2, none⟩ = some (.int .i64 (x.b : Int)) ∧ w.cell? ⟨(ad.add (j * 4)).block, (ad.add (j * 4)).off + 3, none⟩ = some (.slice x.D x.len x.cap)
theorem OT.tr {w : World} {base : Nat} {A : Option Addr} {n c : Nat} {l : List TV} (h : OT w base (.slice A n c) l) : TR w A l := fun hp => by
  obtain ⟨A', c', he⟩ := h.form
  injection he with e1 e2 e3
  subst e1; subst e2; subst e3
  obtain ⟨ad, rfl, -, hc⟩ := (Reads.of_own h).2 hp
  refine ⟨ad, rfl, fun j x hx => ?_⟩
  have key : ∀ i u, i < 4 → x.cells[i]? = some u → w.cell? ((ad.add (j * 4)).add i) = some u := fun i u hi hu => by
    rw [add_of_add]; exact hc _ u (by rw [tcells_get l j i x hx hi]; exact hu)
  refine ⟨?_, addr_at _ 0 _ _ (key 1 _ (by omega) rfl), addr_at _ 1 _ _ (key 2 _ (by omega) rfl), addr_at _ 2 _ _ (key 3 _ (by omega) rfl)⟩
  have := key 0 _ (by omega) rfl
  rwa [add_of_add, Nat.add_zero] at this
end Go.Proofs.Ytnncnjkpjlpodaa
