import Derived.Test.YtoekecopfmohiaaDoorGzPure
import Derived.Test.YtoekecopfmohiaaDoorDefRuns
/-
  A frame that is made: its bytes, and that it is opened as it was; a beginning is short; a turned byte is found.
-/
namespace Go.Proofs.YtoekecopfmohiaaDoor

def le : Nat → Nat → List Nat
  | 0, _ => []
  | k + 1, n => n % 256 :: le k (n / 256)
theorem le_len : ∀ k n, (le k n).length = k
  | 0, _ => rfl
  | k + 1, n => by simp [le, le_len k]
theorem le_lt : ∀ k n, ∀ x ∈ le k n, x < 256
  | 0, _, x, h => by cases h
  | k + 1, n, x, h => by
    rcases List.mem_cons.1 h with rfl | h
    · omega
    · exact le_lt k _ x h
theorem leN_le : ∀ k n, leN (le k n) = n % 256 ^ k
  | 0, n => by simp [le, leN, Nat.mod_one]
  | k + 1, n => by
    simp only [le, leN]
    rw [leN_le k, Nat.pow_succ, Nat.mul_comm (256 ^ k), Nat.mod_mul]
theorem numAt_app (p q r : List Nat) : numAt (p ++ q ++ r) p.length q.length = leN q := by
  unfold numAt
  rw [List.append_assoc, List.drop_left, List.take_left]
/-- the flags -/
def flN (ex nm nt : List Nat) (sum : Bool) : Nat := (if ex = [] then 0 else 4) + (if nm = [] then 0 else 8) + (if nt = [] then 0 else 16) + (if sum then 2 else 0)
def hd0 (f : Nat) : List Nat := [31, 139, 8, f, 0, 0, 0, 0, 0, 0]
def exB (ex : List Nat) : List Nat := if ex = [] then [] else le 2 ex.length ++ ex
def nmB (nm : List Nat) : List Nat := if nm = [] then [] else nm ++ [0]
/-- the header without its checksum -/
def hdA (ex nm nt : List Nat) (sum : Bool) : List Nat := hd0 (flN ex nm nt sum) ++ exB ex ++ nmB nm ++ nmB nt
def hdB (ex nm nt : List Nat) (sum : Bool) : List Nat := if sum then hdA ex nm nt sum ++ le 2 (moreS 0 (hdA ex nm nt sum) % 65536) else hdA ex nm nt sum
def tlB (b : List Nat) : List Nat := le 4 (moreS 0 b) ++ le 4 b.length
theorem extraN_app (p ex r : List Nat) (hx : ex.length ≤ 65535) : extraN (p ++ (le 2 ex.length ++ ex) ++ r) p.length = .ok (p ++ (le 2 ex.length ++ ex)).length := by
  have e : numAt (p ++ (le 2 ex.length ++ ex) ++ r) p.length 2 = ex.length := by
    have := numAt_app p (le 2 ex.length) (ex ++ r)
    rw [le_len, leN_le, Nat.mod_eq_of_lt (by show ex.length < 65536; omega)] at this
    refine Eq.trans ?_ this
    congr 1; simp
  unfold extraN
  rw [e, if_pos (by simp [le_len] <;> omega), if_pos (by simp [le_len] <;> omega)]
  simp [le_len]
theorem textN_app (p nm r : List Nat) (h : ∀ x ∈ nm, x ≠ 0) : textN (p ++ (nm ++ [0]) ++ r) p.length = .ok (p ++ (nm ++ [0])).length := by
  have e : (p ++ (nm ++ [0]) ++ r).drop p.length = nm ++ 0 :: r := by rw [List.append_assoc, List.drop_left]; simp
  unfold textN
  rw [e, nulN_app nm r h, if_pos (by simp)]
  simp
theorem sumN_app (p r : List Nat) : sumN (p ++ le 2 (moreS 0 p % 65536) ++ r) p.length = .ok (p ++ le 2 (moreS 0 p % 65536)).length := by
  have e : numAt (p ++ le 2 (moreS 0 p % 65536) ++ r) p.length 2 = moreS 0 p % 65536 := by
    have := numAt_app p (le 2 (moreS 0 p % 65536)) r
    rw [le_len, leN_le] at this
    rw [this]
    show moreS 0 p % 65536 % 65536 = _
    rw [Nat.mod_mod]
  have e2 : (p ++ le 2 (moreS 0 p % 65536) ++ r).take p.length = p := by rw [List.append_assoc, List.take_left]
  unfold sumN
  rw [e, e2, if_pos (by simp [le_len]), if_pos rfl]
  simp [le_len]
theorem and_bits : ∀ e n t s : Bool, ((if e then 0 else 4) + (if n then 0 else 8) + (if t then 0 else 16) + (if s then 2 else 0)) &&& 224 = 0 ∧
    (((if e then 0 else 4) + (if n then 0 else 8) + (if t then 0 else 16) + (if s then 2 else 0)) &&& 4 = 0 ↔ e = true) ∧ (((if e then 0 else 4) + (if n then 0 else 8) + (if t then 0 else 16) + (if s then 2 else 0)) &&& 8 = 0 ↔ n = true) ∧
    (((if e then 0 else 4) + (if n then 0 else 8) + (if t then 0 else 16) + (if s then 2 else 0)) &&& 16 = 0 ↔ t = true) ∧ (((if e then 0 else 4) + (if n then 0 else 8) + (if t then 0 else 16) + (if s then 2 else 0)) &&& 2 = 0 ↔ s = false) := by decide
theorem fl_bits (ex nm nt : List Nat) (sum : Bool) : flN ex nm nt sum &&& 224 = 0 ∧ (flN ex nm nt sum &&& 4 = 0 ↔ ex = []) ∧ (flN ex nm nt sum &&& 8 = 0 ↔ nm = []) ∧ (flN ex nm nt sum &&& 16 = 0 ↔ nt = []) ∧ (flN ex nm nt sum &&& 2 = 0 ↔ sum = false) := by
  have := and_bits (decide (ex = [])) (decide (nm = [])) (decide (nt = [])) sum
  simp only [decide_eq_true_eq] at this
  exact this
theorem hdA_get (ex nm nt : List Nat) (sum : Bool) (r : List Nat) (i : Nat) (hi : i < 10) : (hdA ex nm nt sum ++ r).getD i 0 = (hd0 (flN ex nm nt sum)).getD i 0 := by
  unfold hdA
  rw [List.append_assoc, List.append_assoc, List.append_assoc, List.getD_eq_getElem?_getD, List.getElem?_append_left (by simpa [hd0] using hi), List.getD_eq_getElem?_getD]
/-- the header of a frame is read to its end -/
theorem hdrN_made (ex nm nt D : List Nat) (sum : Bool) (hx : ex.length ≤ 65535) (hn : ∀ x ∈ nm, x ≠ 0) (ht : ∀ x ∈ nt, x ≠ 0) : hdrN (hdB ex nm nt sum ++ D) = .ok (hdB ex nm nt sum).length := by
  obtain ⟨f0, f4, f8, f16, f2⟩ := fl_bits ex nm nt sum
  obtain ⟨R, hR⟩ : ∃ R, hdB ex nm nt sum ++ D = hdA ex nm nt sum ++ R ∧ (sum = true → R = le 2 (moreS 0 (hdA ex nm nt sum) % 65536) ++ D) ∧ (sum = false → R = D) := by
    cases sum with
    | true => exact ⟨_, by simp [hdB], fun _ => rfl, fun h => by cases h⟩
    | false => exact ⟨D, by simp [hdB], (fun h => by cases h), fun _ => rfl⟩
  obtain ⟨hz, hR1, hR2⟩ := hR
  have hlA : 10 ≤ (hdA ex nm nt sum).length := by unfold hdA; simp [hd0] <;> omega
  have hpre : preN (hdB ex nm nt sum ++ D) = .ok 10 := by
    rw [hz]
    refine preN_of (by rw [List.length_append]; omega) ?_ ?_ ?_ ?_
    all_goals rw [hdA_get _ _ _ _ _ _ (by decide)]
    · rfl
    · rfl
    · rfl
    · exact f0
  have h3 : (hdB ex nm nt sum ++ D).getD 3 0 = flN ex nm nt sum := by rw [hz, hdA_get _ _ _ _ _ _ (by decide)]; rfl
  unfold hdrN
  rw [hpre]
  show rstN (hdB ex nm nt sum ++ D) 4 0 10 = _
  have s1 : rstN (hdB ex nm nt sum ++ D) 4 0 10 = rstN (hdB ex nm nt sum ++ D) 3 1 (hd0 (flN ex nm nt sum) ++ exB ex).length := by
    show (if (hdB ex nm nt sum ++ D).getD 3 0 &&& 4 = 0 then rstN _ 3 1 10 else eb (extraN _ 10) (rstN _ 3 1)) = _
    rw [h3]
    by_cases he : ex = []
    · rw [if_pos (f4.2 he)]; simp [exB, he, hd0]
    · rw [if_neg (fun h => he (f4.1 h))]
      have := extraN_app (hd0 (flN ex nm nt sum)) ex (nmB nm ++ nmB nt ++ R) hx
      have e : hdB ex nm nt sum ++ D = hd0 (flN ex nm nt sum) ++ (le 2 ex.length ++ ex) ++ (nmB nm ++ nmB nt ++ R) := by rw [hz]; simp [hdA, exB, he]
      rw [← e] at this
      rw [show (10 : Nat) = (hd0 (flN ex nm nt sum)).length from rfl, this]
      simp [eb, exB, he]
  have s2 : rstN (hdB ex nm nt sum ++ D) 3 1 (hd0 (flN ex nm nt sum) ++ exB ex).length = rstN (hdB ex nm nt sum ++ D) 2 2 (hd0 (flN ex nm nt sum) ++ exB ex ++ nmB nm).length := by
    show (if (hdB ex nm nt sum ++ D).getD 3 0 &&& 8 = 0 then rstN _ 2 2 _ else eb (textN _ _) (rstN _ 2 2)) = _
    rw [h3]
    by_cases he : nm = []
    · rw [if_pos (f8.2 he)]; simp [nmB, he]
    · rw [if_neg (fun h => he (f8.1 h))]
      have := textN_app (hd0 (flN ex nm nt sum) ++ exB ex) nm (nmB nt ++ R) hn
      have e : hdB ex nm nt sum ++ D = hd0 (flN ex nm nt sum) ++ exB ex ++ (nm ++ [0]) ++ (nmB nt ++ R) := by rw [hz]; simp [hdA, nmB, he]
      rw [← e] at this
      rw [this]
      simp [eb, nmB, he]
  have s3 : rstN (hdB ex nm nt sum ++ D) 2 2 (hd0 (flN ex nm nt sum) ++ exB ex ++ nmB nm).length = rstN (hdB ex nm nt sum ++ D) 1 3 (hdA ex nm nt sum).length := by
    show (if (hdB ex nm nt sum ++ D).getD 3 0 &&& 16 = 0 then rstN _ 1 3 _ else eb (textN _ _) (rstN _ 1 3)) = _
    rw [h3]
    by_cases he : nt = []
    · rw [if_pos (f16.2 he)]; simp [nmB, he, hdA]
    · rw [if_neg (fun h => he (f16.1 h))]
      have := textN_app (hd0 (flN ex nm nt sum) ++ exB ex ++ nmB nm) nt R ht
      have e : hdB ex nm nt sum ++ D = hd0 (flN ex nm nt sum) ++ exB ex ++ nmB nm ++ (nt ++ [0]) ++ R := by rw [hz]; simp [hdA, nmB, he]
      rw [← e] at this
      rw [this]
      simp [eb, nmB, he, hdA]
  have s4 : rstN (hdB ex nm nt sum ++ D) 1 3 (hdA ex nm nt sum).length = .ok (hdB ex nm nt sum).length := by
    show (if (hdB ex nm nt sum ++ D).getD 3 0 &&& 2 = 0 then rstN _ 0 4 _ else eb (sumN _ _) (rstN _ 0 4)) = _
    rw [h3]
    cases hs : sum with
    | false => rw [← hs, if_pos (f2.2 hs)]; rw [hs]; simp [hdB, rstN]
    | true =>
      rw [← hs, if_neg (fun h => by have := f2.1 h; rw [hs] at this; cases this)]
      have := sumN_app (hdA ex nm nt sum) D
      have e : hdB ex nm nt sum ++ D = hdA ex nm nt sum ++ le 2 (moreS 0 (hdA ex nm nt sum) % 65536) ++ D := by rw [hz, hR1 hs]; simp
      rw [← e] at this
      rw [this]
      rw [hs]
      simp [eb, hdB, rstN]
  rw [s1, s2, s3, s4]
theorem hdB_len (ex nm nt : List Nat) (sum : Bool) : 10 ≤ (hdB ex nm nt sum).length := by
  have hlA : 10 ≤ (hdA ex nm nt sum).length := by unfold hdA; simp [hd0] <;> omega
  unfold hdB
  split
  · rw [List.length_append]; omega
  · exact hlA
theorem tlB_len (b : List Nat) : (tlB b).length = 8 := by unfold tlB; rw [List.length_append, le_len, le_len]
theorem num_crc (b r : List Nat) : numAt (tlB b ++ r) 0 4 = moreS 0 b % 4294967296 := by
  have := numAt_app [] (le 4 (moreS 0 b)) (le 4 b.length ++ r)
  rw [le_len, leN_le] at this
  unfold tlB
  refine Eq.trans ?_ this
  congr 1
  all_goals simp
theorem num_len (b r : List Nat) : numAt (tlB b ++ r) 4 4 = b.length % 4294967296 := by
  have := numAt_app (le 4 (moreS 0 b)) (le 4 b.length) r
  rw [le_len, le_len, leN_le] at this
  unfold tlB
  rw [← this]
/-- what stands behind a frame's stream -/
theorem tail_ok (b : List Nat) (hb : ∀ x ∈ b, x < 256) (hl : b.length < 4294967296) : tailN (tlB b) b = .ok b := by
  have h1 := num_crc b []
  have h2 := num_len b []
  rw [List.append_nil] at h1 h2
  rw [Nat.mod_eq_of_lt (moreS_lt 0 b (by decide) hb)] at h1
  rw [Nat.mod_eq_of_lt hl] at h2
  unfold tailN
  rw [if_neg (by rw [tlB_len]; omega), if_neg (by rw [h1]; exact fun h => h rfl), if_neg (by rw [tlB_len]; omega), if_neg (by rw [h2]; exact fun h => h rfl), if_neg (by rw [tlB_len]; omega)]
theorem tail_more (b r : List Nat) (hr : 0 < r.length) (hb : ∀ x ∈ b, x < 256) (hl : b.length < 4294967296) : tailN (tlB b ++ r) b = .error 120 := by
  have h1 := num_crc b r
  have h2 := num_len b r
  rw [Nat.mod_eq_of_lt (moreS_lt 0 b (by decide) hb)] at h1
  rw [Nat.mod_eq_of_lt hl] at h2
  unfold tailN
  rw [if_neg (by rw [List.length_append, tlB_len]; omega), if_neg (by rw [h1]; exact fun h => h rfl), if_neg (by rw [List.length_append, tlB_len]; omega), if_neg (by rw [h2]; exact fun h => h rfl), if_pos (by rw [List.length_append, tlB_len]; omega)]
theorem tail_cut (b : List Nat) (k : Nat) (hk : k < 8) (hb : ∀ x ∈ b, x < 256) : tailN ((tlB b).take k) b = .error 7 := by
  have hl : ((tlB b).take k).length = k := by rw [List.length_take, tlB_len]; omega
  unfold tailN
  by_cases h4 : k < 4
  · rw [if_pos (by omega)]
  · have h1 := num_crc b []
    rw [List.append_nil, Nat.mod_eq_of_lt (moreS_lt 0 b (by decide) hb)] at h1
    have hA : Agr (tlB b) ((tlB b).take k) k := by
      have := agr_app (tlB b) [] k (by rw [tlB_len]; omega)
      rwa [List.append_nil] at this
    rw [if_neg (by omega), if_neg (by rw [hA.num 0 4 (by omega), h1]; exact fun h => h rfl), if_pos (by omega)]
/-- a frame -/
def gzF (ex nm nt : List Nat) (sum : Bool) (l b : List Nat) : List Nat := hdB ex nm nt sum ++ (l ++ tlB b)
section
variable {ex nm nt l b : List Nat} {sum : Bool} {m : Nat}
theorem opn_frame (hx : ex.length ≤ 65535) (hn : ∀ x ∈ nm, x ≠ 0) (ht : ∀ x ∈ nt, x ≠ 0) (hi : ∀ more, (∀ x ∈ more, x < 256) → inflN (l ++ more) m = .ok (b, l.length)) (r : List Nat) (hr : ∀ x ∈ r, x < 256) :
    opnN (hdB ex nm nt sum ++ (l ++ r)) m = tailN r b := by
  unfold opnN
  rw [hdrN_made ex nm nt (l ++ r) sum hx hn ht]
  show eb (inflN ((hdB ex nm nt sum ++ (l ++ r)).drop (hdB ex nm nt sum).length) m) _ = _
  rw [List.drop_left, hi r hr]
  show tailN ((hdB ex nm nt sum ++ (l ++ r)).drop ((hdB ex nm nt sum).length + l.length)) b = _
  rw [← List.drop_drop, List.drop_left, List.drop_left]
theorem tlB_lt (b : List Nat) : ∀ x ∈ tlB b, x < 256 := fun x hx => (List.mem_append.1 hx).elim (le_lt 4 _ x) (le_lt 4 _ x)
theorem opn_back (hx : ex.length ≤ 65535) (hn : ∀ x ∈ nm, x ≠ 0) (ht : ∀ x ∈ nt, x ≠ 0) (hi : ∀ more, (∀ x ∈ more, x < 256) → inflN (l ++ more) m = .ok (b, l.length)) (hb : ∀ x ∈ b, x < 256) (hl : b.length < 4294967296) :
    opnN (gzF ex nm nt sum l b) m = .ok b := by
  unfold gzF
  rw [opn_frame hx hn ht hi (tlB b) (tlB_lt b), tail_ok b hb hl]
theorem opn_more (hx : ex.length ≤ 65535) (hn : ∀ x ∈ nm, x ≠ 0) (ht : ∀ x ∈ nt, x ≠ 0) (hi : ∀ more, (∀ x ∈ more, x < 256) → inflN (l ++ more) m = .ok (b, l.length)) (hb : ∀ x ∈ b, x < 256) (hl : b.length < 4294967296) (y : Nat) (hy : y < 256) :
    opnN (gzF ex nm nt sum l b ++ [y]) m = .error 120 := by
  unfold gzF
  rw [List.append_assoc, List.append_assoc, opn_frame hx hn ht hi (tlB b ++ [y]) (fun x h => (List.mem_append.1 h).elim (tlB_lt b x) (fun h => by rw [List.mem_singleton.1 h]; exact hy)), tail_more b [y] (by simp) hb hl]
theorem opn_cut (hx : ex.length ≤ 65535) (hn : ∀ x ∈ nm, x ≠ 0) (ht : ∀ x ∈ nt, x ≠ 0) (hi : ∀ more, (∀ x ∈ more, x < 256) → inflN (l ++ more) m = .ok (b, l.length)) (hb : ∀ x ∈ b, x < 256) (k : Nat) (hk : k < (gzF ex nm nt sum l b).length) :
    opnN ((gzF ex nm nt sum l b).take k) m = .error 7 := by
  by_cases h1 : k < (hdB ex nm nt sum).length
  · unfold opnN gzF
    rw [hdrN_cut (hdrN_made ex nm nt (l ++ tlB b) sum hx hn ht) h1]; rfl
  · have e1 : (gzF ex nm nt sum l b).take k = hdB ex nm nt sum ++ (l ++ tlB b).take (k - (hdB ex nm nt sum).length) := by
      unfold gzF
      rw [List.take_append, List.take_of_length_le (by omega)]
    rw [e1]
    by_cases h2 : k - (hdB ex nm nt sum).length < l.length
    · unfold opnN
      rw [hdrN_made ex nm nt _ sum hx hn ht]
      show eb (inflN ((hdB ex nm nt sum ++ (l ++ tlB b).take (k - (hdB ex nm nt sum).length)).drop (hdB ex nm nt sum).length) m) _ = _
      rw [List.drop_left, inflN_cut (hi (tlB b) (tlB_lt b)) _ h2]; rfl
    · have e2 : (l ++ tlB b).take (k - (hdB ex nm nt sum).length) = l ++ (tlB b).take (k - (hdB ex nm nt sum).length - l.length) := by rw [List.take_append, List.take_of_length_le (by omega)]
      rw [e2, opn_frame hx hn ht hi _ (fun x h => tlB_lt b x (List.mem_of_mem_take h)), tail_cut b _ (by unfold gzF at hk; rw [List.length_append, List.length_append, tlB_len] at hk; omega) hb]
end
theorem leN_inj : ∀ (l m : List Nat), l.length = m.length → (∀ x ∈ l, x < 256) → (∀ x ∈ m, x < 256) → leN l = leN m → l = m
  | [], [], _, _, _, _ => rfl
  | [], y :: m, h, _, _, _ => by simp at h
  | x :: l, [], h, _, _, _ => by simp at h
  | x :: l, y :: m, h, hl, hm, he => by
    simp only [leN] at he
    have h1 := hl x (by simp)
    have h2 := hm y (by simp)
    have h3 : leN l = leN m := by omega
    rw [leN_inj l m (by simpa using h) (fun z hz => hl z (by simp [hz])) (fun z hz => hm z (by simp [hz])) h3, show x = y by omega]
/-- other bytes behind the stream are found -/
theorem tail_turned (b r : List Nat) (hr : r.length = 8) (hrb : ∀ x ∈ r, x < 256) (hne : r ≠ tlB b) (hb : ∀ x ∈ b, x < 256) (hl : b.length < 4294967296) : tailN r b = .error 121 := by
  unfold tailN
  rw [if_neg (by omega)]
  by_cases h1 : numAt r 0 4 = moreS 0 b
  · rw [if_neg (fun h => h h1), if_neg (by omega)]
    by_cases h2 : numAt r 4 4 = b.length
    · exfalso
      apply hne
      have e1 : r.take 4 = le 4 (moreS 0 b) := by
        refine leN_inj _ _ (by rw [List.length_take, le_len]; omega) (take_mem hrb) (le_lt 4 _) ?_
        rw [leN_le, Nat.mod_eq_of_lt (moreS_lt 0 b (by decide) hb), ← h1]
        unfold numAt
        rw [List.drop_zero]
      have e2 : r.drop 4 = le 4 b.length := by
        refine leN_inj _ _ (by rw [List.length_drop, le_len]; omega) (fun x hx => hrb x (List.mem_of_mem_drop hx)) (le_lt 4 _) ?_
        rw [leN_le, Nat.mod_eq_of_lt hl, ← h2]
        unfold numAt
        rw [List.take_of_length_le (by rw [List.length_drop]; omega)]
      unfold tlB
      rw [← e1, ← e2, List.take_append_drop]
    · rw [if_pos h2]
  · rw [if_pos h1]
theorem tailN_ok {r out o : List Nat} (h : tailN r out = .ok o) : r.length = 8 ∧ numAt r 0 4 = moreS 0 out ∧ numAt r 4 4 = out.length ∧ o = out := by
  unfold tailN at h
  by_cases c1 : r.length < 4
  · rw [if_pos c1] at h; cases h
  rw [if_neg c1] at h
  by_cases c2 : numAt r 0 4 = moreS 0 out
  · rw [if_neg (fun hh => hh c2)] at h
    by_cases c3 : r.length < 8
    · rw [if_pos c3] at h; cases h
    rw [if_neg c3] at h
    by_cases c4 : numAt r 4 4 = out.length
    · rw [if_neg (fun hh => hh c4)] at h
      by_cases c5 : 8 < r.length
      · rw [if_pos c5] at h; cases h
      rw [if_neg c5] at h
      cases h
      exact ⟨by omega, c2, c4, rfl⟩
    · rw [if_pos c4] at h; cases h
  · rw [if_pos c2] at h; cases h
/-- what is opened: what stands behind it -/
theorem opn_ok {z : List Nat} {m : Nat} {out : List Nat} (h : opnN z m = .ok out) : 18 ≤ z.length ∧ leN ((z.drop (z.length - 8)).take 4) = moreS 0 out ∧ leN (z.drop (z.length - 4)) = out.length ∧ out.length ≤ m := by
  unfold opnN at h
  obtain ⟨a, h1, h2⟩ := eb_ok h
  obtain ⟨u, h3, h4⟩ := eb_ok h2
  obtain ⟨o, n⟩ := u
  have hb := hdrN_bounds h1
  obtain ⟨hl, t2, t4, rfl⟩ := tailN_ok h4
  simp only at hl t2 t4
  rw [List.length_drop] at hl
  refine ⟨by omega, ?_, ?_, (inflN_bounds h3).1⟩
  · unfold numAt at t2
    rw [List.drop_zero] at t2
    rw [show z.length - 8 = a + n by omega]; exact t2
  · unfold numAt at t4
    rw [List.drop_drop, List.take_of_length_le (by rw [List.length_drop]; omega)] at t4
    rw [show z.length - 4 = a + n + 4 by omega]; exact t4
end Go.Proofs.YtoekecopfmohiaaDoor
