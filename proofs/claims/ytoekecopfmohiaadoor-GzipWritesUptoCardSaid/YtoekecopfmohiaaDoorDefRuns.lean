import Derived.Test.YtoekecopfmohiaaDoorDefPure
/-
  Fixed and Runs as fields, and that Inflate reads them; that like bytes are few.
-/
namespace Go.Proofs.YtoekecopfmohiaaDoor

/-- how many bytes at the front are alike -/
def runN : List Nat → Nat
  | [] => 0
  | x :: r => 1 + (r.takeWhile (· == x)).length
theorem takeWhile_le (p : Nat → Bool) : ∀ r : List Nat, (r.takeWhile p).length ≤ r.length
  | [] => Nat.le_refl _
  | y :: r => by
    simp only [List.takeWhile]
    split
    · simp only [List.length_cons]; have := takeWhile_le p r; omega
    · exact Nat.zero_le _
theorem runN_le (l : List Nat) : runN l ≤ l.length := by
  cases l with
  | nil => exact Nat.le_refl _
  | cons x r => simp only [runN, List.length_cons]; have := takeWhile_le (· == x) r; omega
theorem runN_pos {l : List Nat} (h : 0 < l.length) : 1 ≤ runN l := by
  cases l with
  | nil => simp at h
  | cons x r => simp only [runN]; omega
theorem takeWhile_get (x : Nat) : ∀ (r : List Nat) (j : Nat), j < (r.takeWhile (· == x)).length → r.getD j 0 = x
  | [], j, h => by simp at h
  | y :: r, j, h => by
    simp only [List.takeWhile] at h
    split at h
    · rename_i hy
      cases j with
      | zero => simpa using hy
      | succ j => simpa using takeWhile_get x r j (by simpa using h)
    · simp at h
theorem takeWhile_stop (x : Nat) : ∀ (r : List Nat), (r.takeWhile (· == x)).length < r.length → r.getD (r.takeWhile (· == x)).length 0 ≠ x
  | [], h => by simp at h
  | y :: r, h => by
    simp only [List.takeWhile] at h ⊢
    split at h
    · simpa using takeWhile_stop x r (by simpa using h)
    · rename_i hy
      simpa using hy
theorem runN_all (l : List Nat) (j : Nat) (h : j < runN l) : l.getD j 0 = l.getD 0 0 := by
  cases l with
  | nil => simp [runN] at h
  | cons x r =>
    cases j with
    | zero => rfl
    | succ j => simpa using takeWhile_get x r j (by simp only [runN] at h; omega)
theorem runN_stop (l : List Nat) (h : runN l < l.length) : l.getD (runN l) 0 ≠ l.getD 0 0 := by
  cases l with
  | nil => simp at h
  | cons x r =>
    have := takeWhile_stop x r (by simp only [runN, List.length_cons] at h; omega)
    simp only [runN]
    rw [Nat.add_comm]
    simpa using this
theorem runN_take (l : List Nat) : l.take (runN l) = List.replicate (runN l) (l.getD 0 0) := by
  apply List.ext_getElem
  · rw [List.length_take, List.length_replicate, Nat.min_eq_left (runN_le l)]
  · intro i h1 h2
    rw [List.getElem_take, List.getElem_replicate]
    have h3 : i < runN l := by rw [List.length_replicate] at h2; exact h2
    have h4 : i < l.length := Nat.lt_of_lt_of_le h3 (runN_le l)
    have := runN_all l i h3
    rw [List.getD_eq_getElem?_getD, List.getElem?_eq_getElem h4] at this
    exact this
/-- the fields of the runs -/
def runsF (RF : Nat → Nat → List Fd) : Nat → List Nat → List Fd
  | 0, _ => []
  | k + 1, b => if 0 < b.length then RF (b.getD 0 0) (runN b) ++ runsF RF k (b.drop (runN b)) else []
theorem runs_dec (RF : Nat → Nat → List Fd) (hRF : ∀ c n o, c < 256 → 1 ≤ n → Dec (RF c n) o (o ++ List.replicate n c)) : ∀ (k : Nat) (b o : List Nat), b.length < k → (∀ x ∈ b, x < 256) → Dec (runsF RF k b) o (o ++ b)
  | 0, b, o, h, _ => by omega
  | k + 1, b, o, h, hb => by
    simp only [runsF]
    by_cases h0 : 0 < b.length
    · rw [if_pos h0]
      have h1 := hRF (b.getD 0 0) (runN b) o (mem_getD h0 hb) (runN_pos h0)
      rw [← runN_take] at h1
      have hp := runN_pos h0
      have h2 := runs_dec RF hRF k (b.drop (runN b)) (o ++ b.take (runN b)) (by rw [List.length_drop]; omega) (fun x hx => hb x (List.mem_of_mem_drop hx))
      rw [List.append_assoc, List.take_append_drop] at h2
      exact h1.app h2
    · rw [if_neg h0]
      have : b = [] := List.eq_nil_of_length_eq_zero (by omega)
      rw [this, List.append_nil]; exact Dec.nil o
def eachF (c n : Nat) : List Fd := List.replicate n (litF c)
theorem each_dec (c : Nat) (hc : c < 256) : ∀ (n : Nat) (o : List Nat), Dec (eachF c n) o (o ++ List.replicate n c)
  | 0, o => by simpa [eachF] using Dec.nil o
  | n + 1, o => by
    have h1 := (Dec.lit c hc o).app (each_dec c hc n (o ++ [c]))
    rw [List.append_assoc] at h1
    have e : eachF c (n + 1) = [litF c] ++ eachF c n := by simp [eachF, List.replicate_succ]
    have e2 : List.replicate (n + 1) c = [c] ++ List.replicate n c := by simp [List.replicate_succ]
    rw [e, e2]; exact h1
/-- a copy's length's place -/
def atG (k : Nat) : Nat → Nat
  | 0 => 0
  | a + 1 => if k < LB.getD (a + 1) 0 ∨ (a + 1 = 28 ∧ k < 258) then atG k a else a + 1
def atN (k : Nat) : Nat := atG k 28
theorem atN_ok : ∀ k, k < 259 → 3 ≤ k → atN k < 29 ∧ LB.getD (atN k) 0 ≤ k ∧ k - LB.getD (atN k) 0 < 2 ^ LX.getD (atN k) 0 ∧ LX.getD (atN k) 0 ≤ 5 ∧ (litF (257 + atN k)).2 ≤ 8 ∧ 1 ≤ (litF (257 + atN k)).2 := by decide +kernel
theorem atN_258 : atN 258 = 28 := by decide
/-- copies, then what is left -/
def copG (c : Nat) : Nat → Nat → List Fd
  | 0, left => eachF c left
  | k + 1, left => if 3 ≤ left then cpyF (atN (min left 258)) (min left 258) ++ copG c k (left - min left 258) else eachF c left
def copF (c n : Nat) : List Fd := litF c :: copG c n (n - 1)
theorem copG_dec (c : Nat) (hc : c < 256) : ∀ (k left : Nat) (p : List Nat), Dec (copG c k left) (p ++ [c]) (p ++ [c] ++ List.replicate left c)
  | 0, left, p => each_dec c hc left _
  | k + 1, left, p => by
    simp only [copG]
    by_cases h : 3 ≤ left
    · rw [if_pos h]
      obtain ⟨a1, a2, a3, -, -, -⟩ := atN_ok (min left 258) (by omega) (by omega)
      have h1 := Dec.copy (atN (min left 258)) (min left 258) a1 a2 a3 p c
      obtain ⟨j, hj⟩ : ∃ j, min left 258 = j + 1 := ⟨min left 258 - 1, by omega⟩
      have e1 : p ++ [c] ++ List.replicate (min left 258) c = (p ++ List.replicate (min left 258) c) ++ [c] := by
        rw [List.append_assoc, List.append_assoc]
        congr 1
        rw [show [c] = List.replicate 1 c from rfl, List.replicate_append_replicate, List.replicate_append_replicate, Nat.add_comm]
      have h2 := copG_dec c hc k (left - min left 258) (p ++ List.replicate (min left 258) c)
      rw [← e1] at h2
      have h3 := h1.app h2
      rw [List.append_assoc (p ++ [c]), List.replicate_append_replicate, show min left 258 + (left - min left 258) = left by omega] at h3
      exact h3
    · rw [if_neg h]; exact each_dec c hc left _
theorem cop_dec (c n : Nat) (o : List Nat) (hc : c < 256) (hn : 1 ≤ n) : Dec (copF c n) o (o ++ List.replicate n c) := by
  have h1 := (Dec.lit c hc o).app (copG_dec c hc n (n - 1) o)
  have e : o ++ [c] ++ List.replicate (n - 1) c = o ++ List.replicate n c := by
    rw [List.append_assoc]
    congr 1
    rw [show [c] = List.replicate 1 c from rfl, List.replicate_append_replicate]
    congr 1; omega
  rw [e] at h1
  exact h1
/-- what the fixed code's ways make -/
def wholeF (RF : Nat → Nat → List Fd) (b : List Nat) : List Fd := blkF (runsF RF (b.length + 1) b)
theorem litF_le (s : Nat) (hs : s < 288) : (litF s).2 ≤ 9 ∧ 7 ≤ (litF s).2 := by
  have : ∀ s, s < 288 → fixLn.getD s 0 ≤ 9 ∧ 7 ≤ fixLn.getD s 0 := by decide +kernel
  exact this s hs
theorem eachF_A (c n : Nat) (hc : c < 288) : fA (eachF c n) ≤ 9 * n ∧ (eachF c n).length = n := by
  refine ⟨?_, List.length_replicate⟩
  induction n with
  | zero => simp [eachF, fA]
  | succ n ih =>
    have := (litF_le c hc).1
    have e : eachF c (n + 1) = litF c :: eachF c n := by simp [eachF, List.replicate_succ]
    rw [e]; simp only [fA]; omega
theorem cpyF_A (k : Nat) (h1 : 3 ≤ k) (h2 : k ≤ 258) : fA (cpyF (atN k) k) ≤ 18 ∧ (k = 258 → fA (cpyF (atN k) k) = 13) := by
  obtain ⟨a1, a2, a3, a4, a5, a6⟩ := atN_ok k (by omega) h1
  refine ⟨by simp only [cpyF, fA]; omega, fun h => ?_⟩
  subst h
  rw [atN_258]
  decide +kernel
theorem copG_A (c : Nat) (hc : c < 288) : ∀ k left, left ≤ k → fA (copG c k left) ≤ 9 * left ∧ (copG c k left).length ≤ left ∧ 258 * fA (copG c k left) ≤ 13 * left + 4644
  | 0, left, h => by
    obtain rfl : left = 0 := by omega
    have := eachF_A c 0 hc
    simp only [copG]; omega
  | k + 1, left, h => by
    simp only [copG]
    by_cases h3 : 3 ≤ left
    · rw [if_pos h3]
      obtain ⟨b1, b2⟩ := cpyF_A (min left 258) (by omega) (by omega)
      obtain ⟨i1, i2, i3⟩ := copG_A c hc k (left - min left 258) (by omega)
      have hl : (cpyF (atN (min left 258)) (min left 258)).length = 3 := rfl
      rw [fA_app, List.length_append, hl]
      refine ⟨by omega, by omega, ?_⟩
      by_cases h4 : 258 ≤ left
      · have := b2 (by omega); omega
      · have e : left - min left 258 = 0 := by omega
        rw [e] at i1 ⊢
        omega
    · rw [if_neg h3]
      obtain ⟨e1, e2⟩ := eachF_A c left hc
      rw [e2]
      omega
theorem copF_A (c n : Nat) (hc : c < 288) (hn : 1 ≤ n) : fA (copF c n) ≤ 9 * n ∧ (copF c n).length ≤ n ∧ 258 * fA (copF c n) ≤ 13 * n + 6966 := by
  obtain ⟨i1, i2, i3⟩ := copG_A c hc n (n - 1) (by omega)
  have := litF_le c hc
  simp only [copF, fA, List.length_cons]
  omega
theorem runsF_A (RF : Nat → Nat → List Fd) (hRF : ∀ c n, c < 256 → 1 ≤ n → fA (RF c n) ≤ 9 * n ∧ (RF c n).length ≤ n) : ∀ (k : Nat) (b : List Nat), (∀ x ∈ b, x < 256) → fA (runsF RF k b) ≤ 9 * b.length ∧ (runsF RF k b).length ≤ b.length
  | 0, b, _ => by simp [runsF, fA]
  | k + 1, b, hb => by
    simp only [runsF]
    by_cases h0 : 0 < b.length
    · rw [if_pos h0]
      have h1 := hRF (b.getD 0 0) (runN b) (mem_getD h0 hb) (runN_pos h0)
      have h2 := runsF_A RF hRF k (b.drop (runN b)) (fun x hx => hb x (List.mem_of_mem_drop hx))
      have := runN_le b
      rw [List.length_drop] at h2
      rw [fA_app, List.length_append]; omega
    · rw [if_neg h0]; simp [fA]
theorem blkF_A (fs : List Fd) : fA (blkF fs) = fA fs + 10 := by
  have : (litF 256).2 = 7 := by decide +kernel
  simp only [blkF, fA, fA_app, this]; omega
/-- what one of the fixed code's ways makes is made as it was -/
theorem inf_whole (RF : Nat → Nat → List Fd) (h1 : ∀ c n o, c < 256 → 1 ≤ n → Dec (RF c n) o (o ++ List.replicate n c)) (h2 : ∀ c n, c < 256 → 1 ≤ n → fA (RF c n) ≤ 9 * n ∧ (RF c n).length ≤ n) (b l more : List Nat) (m : Nat) (hb : ∀ x ∈ b, x < 256) (hm : b.length ≤ m) (hl : b.length ≤ 4503599627370000)
    (h : Bts l (fN (wholeF RF b)) (fA (wholeF RF b))) : inflN (l ++ more) m = .ok (b, l.length) := by
  have hd := runs_dec RF h1 (b.length + 1) b [] (Nat.lt_succ_self _) hb
  rw [List.nil_append] at hd
  have hA := runsF_A RF h2 (b.length + 1) b hb
  rw [inf_fixed _ b m (l ++ more) hd hm (Rd.of_bts h more) (by omega), h.len]; rfl
theorem inf_runs (b l more : List Nat) (m : Nat) (hb : ∀ x ∈ b, x < 256) (hm : b.length ≤ m) (hl : b.length ≤ 4503599627370000) (h : Bts l (fN (wholeF copF b)) (fA (wholeF copF b))) : inflN (l ++ more) m = .ok (b, l.length) :=
  inf_whole copF (fun c n o hc hn => cop_dec c n o hc hn) (fun c n hc hn => ⟨(copF_A c n (by omega) hn).1, (copF_A c n (by omega) hn).2.1⟩) b l more m hb hm hl h
theorem inf_each (b l more : List Nat) (m : Nat) (hb : ∀ x ∈ b, x < 256) (hm : b.length ≤ m) (hl : b.length ≤ 4503599627370000) (h : Bts l (fN (wholeF eachF b)) (fA (wholeF eachF b))) : inflN (l ++ more) m = .ok (b, l.length) :=
  inf_whole eachF (fun c n o hc _ => each_dec c hc n o) (fun c n hc _ => ⟨(eachF_A c n (by omega)).1, Nat.le_of_eq (eachF_A c n (by omega)).2⟩) b l more m hb hm hl h
/-- like bytes are few -/
theorem runs_few (c n : Nat) (hc : c < 256) (l : List Nat) (h : Bts l (fN (wholeF copF (List.replicate n c))) (fA (wholeF copF (List.replicate n c)))) : l.length ≤ 8 + n / 100 := by
  have hl := h.len
  unfold wholeF at hl
  rw [blkF_A, List.length_replicate] at hl
  cases n with
  | zero => simp [runsF, fA] at hl; omega
  | succ n =>
    have hr : runN (List.replicate (n + 1) c) = n + 1 := by
      rcases Nat.lt_or_ge (runN (List.replicate (n + 1) c)) (n + 1) with h1 | h1
      · have h2 := runN_stop (List.replicate (n + 1) c) (by rw [List.length_replicate]; exact h1)
        exact absurd (by rw [List.getD_eq_getElem?_getD, List.getD_eq_getElem?_getD, List.getElem?_replicate, List.getElem?_replicate, if_pos h1, if_pos (Nat.succ_pos n)]) h2
      · have := runN_le (List.replicate (n + 1) c)
        rw [List.length_replicate] at this
        omega
    have e : runsF copF (n + 1 + 1) (List.replicate (n + 1) c) = copF c (n + 1) := by
      rw [show n + 1 + 1 = (n + 1) + 1 from rfl]
      simp only [runsF]
      rw [if_pos (by rw [List.length_replicate]; omega), hr]
      rw [show (List.replicate (n + 1) c).drop (n + 1) = [] by simp]
      simp [List.replicate_succ]
    rw [e] at hl
    have := (copF_A c (n + 1) (by omega) (by omega)).2.2
    omega
end Go.Proofs.YtoekecopfmohiaaDoor
