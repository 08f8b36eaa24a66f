import Derived.Test.YtcamakleahpinaaBits1
/-
  The program's bits.Put, and the reference's.
-/
namespace Go.Proofs.Ytcamakleahpinaa
open Go.RowKit

def putN (l : List Nat) (p : Nat) : Nat → Nat → List Nat
  | 0, _ => l
  | k + 1, n => (putN l p k n).set (p + k) (n / 256 ^ k % 256)
theorem putN_length (l : List Nat) (p k n : Nat) : (putN l p k n).length = l.length := by
  induction k with
  | zero => rfl
  | succ k ih => simp only [putN, List.length_set, ih]
theorem putN_lt (l : List Nat) (p k n : Nat) (h : ∀ x ∈ l, x < 256) : ∀ x ∈ putN l p k n, x < 256 := by
  induction k with
  | zero => exact h
  | succ k ih => exact set_mem ih (Nat.mod_lt _ (by decide))

def PutOK (len : Nat) (a s n : Int) : Prop := Fits len a s ∧ 0 ≤ n ∧ n < 256 ^ s.toNat

set_option maxHeartbeats 1000000 in
theorem Put_nofit (A : Option Addr) (l : List Nat) (c : Nat) (a s n : Int) (w : World) (h : ¬ Fits l.length a s) :
    Calls Try.prog 12 #[.slice A l.length c, .int .i64 a, .int .i64 s, .int .i64 n] w fun e w' => e = .returned (.tuple #[.slice none 0 0, .int .i64 2]) ∧ w = w' := by
  have H := Bx.mk h; clear h
  go_enter Try.func12, Try.ntmps12
  go_wp2_with fail
  refine (there_no A l.length c a s w H.out).mono ?_
  rintro e w1 ⟨rfl, rfl⟩
  go_wp2
  go_ret2
  exact ⟨rfl, rfl⟩
set_option maxHeartbeats 1000000 in
theorem Put_neg (A : Option Addr) (l : List Nat) (c : Nat) (a s n : Int) (w : World) (hl : l.length ≤ 140737488351232) (h : Fits l.length a s) (hn : n < 0) :
    Calls Try.prog 12 #[.slice A l.length c, .int .i64 a, .int .i64 s, .int .i64 n] w fun e w' => e = .returned (.tuple #[.slice none 0 0, .int .i64 2]) ∧ w = w' := by
  have H := Bx.mk h; clear h
  go_enter Try.func12, Try.ntmps12
  go_wp2_with fail
  refine (there_yes A l.length c a s w hl H.out).mono ?_
  rintro e w1 ⟨rfl, rfl⟩
  go_wp2
  go_ret2
  exact ⟨rfl, rfl⟩
set_option maxHeartbeats 2000000 in
theorem Put_big (A : Option Addr) (l : List Nat) (c : Nat) (p q m : Nat) (w : World) (hl : l.length ≤ 140737488351232) (h1 : 1 ≤ q) (h2 : q ≤ 4) (h3 : p + q ≤ l.length) (hm : 256 ^ q ≤ m) (hm2 : m ≤ 9223372036854775807) :
    Calls Try.prog 12 #[.slice A l.length c, .int .i64 p, .int .i64 q, .int .i64 m] w fun e w' => e = .returned (.tuple #[.slice none 0 0, .int .i64 2]) ∧ w = w' := by
  have HF := Bx.mk (show Fits l.length p q from ⟨by omega, by omega, by omega, by omega, by omega⟩)
  have T := Bx.mk (there_yes A l.length c p q w hl HF.out)
  obtain rfl | rfl | rfl | rfl : q = 1 ∨ q = 2 ∨ q = 3 ∨ q = 4 := by omega
  · have b1 : ((m : Int) / 256 != 0) = true := by rw [bne_iff_ne]; omega
    have b2 : ((m : Int) / 256 == 0) = false := beq_false_of_ne (by omega)
    clear hm h3
    go_enter Try.func12, Try.ntmps12
    go_wp2_with fail
    refine T.out.mono ?_
    rintro e w1 ⟨rfl, rfl⟩
    go_wp2
    go_ret2
    exact ⟨rfl, rfl⟩
  · have b1 : ((m : Int) / 65536 != 0) = true := by rw [bne_iff_ne]; omega
    have b2 : ((m : Int) / 65536 == 0) = false := beq_false_of_ne (by omega)
    clear hm h3
    go_enter Try.func12, Try.ntmps12
    go_wp2_with fail
    refine T.out.mono ?_
    rintro e w1 ⟨rfl, rfl⟩
    go_wp2
    go_ret2
    exact ⟨rfl, rfl⟩
  · have b1 : ((m : Int) / 16777216 != 0) = true := by rw [bne_iff_ne]; omega
    have b2 : ((m : Int) / 16777216 == 0) = false := beq_false_of_ne (by omega)
    clear hm h3
    go_enter Try.func12, Try.ntmps12
    go_wp2_with fail
    refine T.out.mono ?_
    rintro e w1 ⟨rfl, rfl⟩
    go_wp2
    go_ret2
    exact ⟨rfl, rfl⟩
  · have b1 : ((m : Int) / 4294967296 != 0) = true := by rw [bne_iff_ne]; omega
    have b2 : ((m : Int) / 4294967296 == 0) = false := beq_false_of_ne (by omega)
    clear hm h3
    go_enter Try.func12, Try.ntmps12
    go_wp2_with fail
    refine T.out.mono ?_
    rintro e w1 ⟨rfl, rfl⟩
    go_wp2
    go_ret2
    exact ⟨rfl, rfl⟩

set_option maxHeartbeats 8000000 in
theorem Put_yes (A : Option Addr) (l : List Nat) (c : Nat) (p q m : Nat) (w : World) (hl : RB w A l) (h1 : 1 ≤ q) (h2 : q ≤ 4) (h3 : p + q ≤ l.length) (hm : m < 256 ^ q) :
    Calls Try.prog 12 #[.slice A l.length c, .int .i64 p, .int .i64 q, .int .i64 m] w fun e w' => ∃ v, e = .returned (.tuple #[v, .int .i64 0]) ∧ OB w' w.heap.size v (putN l p q m) ∧ Below w.heap.size w w' := by
  have hlen := hl.2.1
  have HL := Bx.mk hl; clear hl
  have HF := Bx.mk (show Fits l.length p q from ⟨by omega, by omega, by omega, by omega, by omega⟩)
  have T := Bx.mk (there_yes A l.length c p q w hlen HF.out)
  have hm4 : m < 4294967296 := Nat.lt_of_lt_of_le hm (Nat.le_trans (Nat.pow_le_pow_right (by decide) h2) (by decide))
  have b0 : (m : Int) / 2 ^ (8 * q) = 0 := by
    have e : ((2 : Int) ^ (8 * q)) = ((256 ^ q : Nat) : Int) := by rw [Int.natCast_pow, Int.pow_mul]; rfl
    rw [e]
    exact Int.ediv_eq_zero_of_lt (by omega) (by omega)
  clear hm
  go_enter Try.func12, Try.ntmps12
  go_wp2_with fail
  refine T.out.mono ?_
  rintro e w1 ⟨rfl, rfl⟩
  go_wp2_with fail
  refine (Clone_calls A l c w HL.out).mono ?_
  rintro e w1 ⟨v, rfl, ho, hb⟩
  obtain ⟨A1, c1, rfl⟩ := ho.form
  obtain ⟨g, rfl, -, hbg, -, -, -⟩ := ho.opened (by omega)
  have HO : Bx (OB w1 w.heap.size (.slice (some ⟨g, 0, none⟩) l.length c1) (putN l p 0 m)) := ⟨ho⟩
  have HB := Bx.mk hb
  have HBG := Bx.mk hbg
  clear ho hb b0 hbg
  go_wp2
  go_loopw [31] (fun i wr => ∃ k, k ≤ q ∧ i = .int .i64 (k : Nat) ∧ Bx (OB wr w.heap.size (.slice (some ⟨g, 0, none⟩) l.length c1) (putN l p k m)) ∧ Bx (Below w.heap.size w wr)) (fun i _ => q - (intOf i).toNat)
  case atStart => exact ⟨0, Nat.zero_le _, rfl, HO, HB⟩
  case round =>
    obtain ⟨k, hk, rfl, HOk, HBk⟩ := hrel
    by_cases hlt : k < q
    · have hv : (m : Int) / 2 ^ (8 * k) % 256 = ((m / 256 ^ k % 256 : Nat) : Int) := by
        have e : ((2 : Int) ^ (8 * k)) = ((256 ^ k : Nat) : Int) := by rw [Int.natCast_pow, Int.pow_mul]; rfl
        rw [e]
        omega
      have hp := HOk.out.put (p + k) (m / 256 ^ k % 256)
      have hs : putN l p (k + 1) m = (putN l p k m).set (p + k) (m / 256 ^ k % 256) := rfl
      rw [← hs] at hp
      obtain ⟨g', hg', -, -, -, hcell, hfz⟩ := HOk.out.opened (by rw [putN_length]; omega)
      obtain rfl : g = g' := by injection hg' with h; injection h
      have hck := hcell (p + k) (by rw [putN_length]; omega)
      have hfk := hfz (p + k)
      generalize (putN l p k m).getD (p + k) 0 = T2 at hck
      generalize m / 256 ^ k % 256 = V at hv hp
      have HP := Bx.mk hp
      have hvw : IntKind.u8.wrap ((m : Int) / 2 ^ (8 * k)) = (V : Int) := by rw [IntKind.wrap_u8]; exact hv
      clear hcell hfz hp hs hg'
      go_wp2
      go_roundw
      case rel => exact ⟨k + 1, by omega, by go_num, HP, ⟨HBk.out.setCell HBG.out _⟩⟩
      case measure => simp [intOf]; omega
    · obtain rfl : k = q := by omega
      go_wp2
      go_ret2
      exact ⟨_, rfl, HOk.out, HBk.out⟩

set_option maxHeartbeats 1000000 in
theorem rPut_nofit (A : Option Addr) (l : List Nat) (c : Nat) (a s n : Int) (w : World) (h : ¬ Fits l.length a s) :
    Calls Try.prog 13 #[.slice A l.length c, .int .i64 a, .int .i64 s, .int .i64 n] w fun e w' => e = .returned (.tuple #[.slice none 0 0, .int .i64 2]) ∧ w = w' := by
  have H := Bx.mk h; clear h
  go_enter Try.func13, Try.ntmps13
  go_wp2_with fail
  refine (place_no A l.length c a s w H.out).mono ?_
  rintro e w1 ⟨rfl, rfl⟩
  go_wp2
  go_ret2
  exact ⟨rfl, rfl⟩
set_option maxHeartbeats 1000000 in
theorem rPut_neg (A : Option Addr) (l : List Nat) (c : Nat) (a s n : Int) (w : World) (hl : l.length ≤ 140737488351232) (h : Fits l.length a s) (hn : n < 0) :
    Calls Try.prog 13 #[.slice A l.length c, .int .i64 a, .int .i64 s, .int .i64 n] w fun e w' => e = .returned (.tuple #[.slice none 0 0, .int .i64 2]) ∧ w = w' := by
  have H := Bx.mk h; clear h
  go_enter Try.func13, Try.ntmps13
  go_wp2_with fail
  refine (place_yes A l.length c a s w hl H.out).mono ?_
  rintro e w1 ⟨rfl, rfl⟩
  go_wp2
  go_ret2
  exact ⟨rfl, rfl⟩
set_option maxHeartbeats 8000000 in
theorem rPut_fit (A : Option Addr) (l : List Nat) (c : Nat) (p q m : Nat) (w : World) (hl : RB w A l) (h1 : 1 ≤ q) (h2 : q ≤ 4) (h3 : p + q ≤ l.length) (hm : m ≤ 9223372036854775807) :
    Calls Try.prog 13 #[.slice A l.length c, .int .i64 p, .int .i64 q, .int .i64 m] w fun e w' =>
      (m < 256 ^ q → ∃ v, e = .returned (.tuple #[v, .int .i64 0]) ∧ OB w' w.heap.size v (putN l p q m) ∧ Below w.heap.size w w') ∧
      (256 ^ q ≤ m → e = .returned (.tuple #[.slice none 0 0, .int .i64 2]) ∧ Below w.heap.size w w') := by
  have hlen := hl.2.1
  have HF := Bx.mk (show Fits l.length p q from ⟨by omega, by omega, by omega, by omega, by omega⟩)
  have T := Bx.mk (place_yes A l.length c p q w hlen HF.out)
  have HL := Bx.mk (hl.below (below_alloc1 w (.cells #[] 5)))
  clear hl
  go_enter Try.func13, Try.ntmps13
  go_wp2_with fail
  refine T.out.mono ?_
  rintro e w1 ⟨rfl, rfl⟩
  go_wp2_with (at_builtin; refine wpList_append_bytes _ rfl _ _ rfl w.heap.size _ [] l rfl (own_empty w) A c rfl HL.out ?hl (by simp) ?_; (case hl => simp; omega); intro v' w' ho hg _)
  have hb : Below w.heap.size w w' := (below_alloc1 w _).grown hg (by simp) (fun k hk => own_block (own_empty w) k hk)
  obtain ⟨A1, c1, rfl⟩ := OB.form (show OB w' w.heap.size v' l from ho)
  obtain ⟨g, rfl, -, hbg, -, -, -⟩ := OB.opened (show OB w' w.heap.size _ l from ho) (by omega)
  have HO : Bx (OB w' w.heap.size (.slice (some ⟨g, 0, none⟩) l.length c1) (putN l p 0 m)) := ⟨ho⟩
  have HB := Bx.mk hb
  have HBG := Bx.mk hbg
  clear ho hb hbg hg
  go_loopw [3, 11] (fun n i wr => ∃ k, k ≤ q ∧ i = .int .i64 (k : Nat) ∧ n = .int .i64 ((m / 256 ^ k : Nat) : Int) ∧ Bx (OB wr w.heap.size (.slice (some ⟨g, 0, none⟩) l.length c1) (putN l p k m)) ∧ Bx (Below w.heap.size w wr)) (fun _ i _ => q - (intOf i).toNat)
  case atStart => exact ⟨0, Nat.zero_le _, rfl, by simp, HO, HB⟩
  case round =>
    obtain ⟨k, hk, rfl, rfl, HOk, HBk⟩ := hrel
    have hNle : m / 256 ^ k ≤ m := Nat.div_le_self _ _
    by_cases hlt : k < q
    · have hp := HOk.out.put (p + k) (m / 256 ^ k % 256)
      have hs : putN l p (k + 1) m = (putN l p k m).set (p + k) (m / 256 ^ k % 256) := rfl
      rw [← hs] at hp
      have hd : m / 256 ^ (k + 1) = m / 256 ^ k / 256 := by rw [Nat.pow_succ, Nat.div_div_eq_div_mul]
      have HD := Bx.mk hd
      obtain ⟨g', hg', -, -, -, hcell, hfz⟩ := HOk.out.opened (by rw [putN_length]; omega)
      obtain rfl : g = g' := by injection hg' with h; injection h
      have hck := hcell (p + k) (by rw [putN_length]; omega)
      have hfk := hfz (p + k)
      generalize (putN l p k m).getD (p + k) 0 = T2 at hck
      generalize m / 256 ^ k = N at hp hNle HD ⊢
      have hv : (N : Int) % 256 = ((N % 256 : Nat) : Int) := by omega
      have hV : N % 256 < 256 := Nat.mod_lt _ (by decide)
      generalize N % 256 = V at hv hp hV
      have HP := Bx.mk hp
      have hvw : IntKind.u8.wrap ((N : Int) % 256) = (V : Int) := by rw [IntKind.wrap_u8]; omega
      clear hcell hfz hp hs hg' hd
      go_wp2
      go_roundw
      case rel => exact ⟨k + 1, by omega, by go_num, by rw [HD.out]; go_num, HP, ⟨HBk.out.setCell HBG.out _⟩⟩
      case measure => simp [intOf]; omega
    · have hk' : k = q := by omega
      have HK := Bx.mk hk'
      clear hk'
      generalize hN : m / 256 ^ k = N at hNle ⊢
      have HN := Bx.mk hN
      clear hN
      by_cases h0 : 0 < N
      · have hbig : 256 ^ q ≤ m := by
          rw [← HK.out]
          have := HN.out
          exact (Nat.div_pos_iff.1 (by omega)).2
        have HBG2 := Bx.mk hbig
        clear hbig
        go_wp2
        go_ret2
        exact ⟨fun h => absurd HBG2.out (by omega), fun _ => ⟨rfl, HBk.out⟩⟩
      · have hsm : m < 256 ^ q := by
          rw [← HK.out]
          have h1 := HN.out
          have h2 : N = 0 := by omega
          rw [h2] at h1
          exact (Nat.div_eq_zero_iff_lt (Nat.pow_pos (by decide))).1 h1
        have HS := Bx.mk hsm
        clear hsm
        go_wp2
        go_ret2
        exact ⟨fun _ => ⟨_, rfl, by rw [← HK.out]; exact HOk.out, HBk.out⟩, fun h => absurd HS.out (by omega)⟩
end Go.Proofs.Ytcamakleahpinaa
