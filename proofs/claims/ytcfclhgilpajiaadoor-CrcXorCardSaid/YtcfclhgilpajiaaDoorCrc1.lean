import Derived.Test.YtcfclhgilpajiaaDoorBase
/-
  The program's crc functions: turn, More, Sum, Zeros, Flip: what each answers, as a plain function on natural numbers.
-/
namespace Go.Proofs.YtcfclhgilpajiaaDoor
open Go.RowKit

/-- the table of half bytes -/
def tab : List Nat := [0, 498536548, 997073096, 651767980, 1994146192, 1802195444, 1303535960, 1342533948, 3988292384, 4027552580, 3604390888, 3412177804, 2607071920, 2262029012, 2685067896, 3183342108]
def Half (w : World) : Prop := ∀ j, j < 16 → w.cell? ⟨0, j, none⟩ = some (.int .u32 ((tab.getD j 0 : Nat) : Int))
theorem Half.below {w w1 : World} (h : Half w) (hb : Below w.heap.size w w1) : Half w1 := fun j hj => cell_below hb (h j hj)
def turnN (c : Nat) : Nat := (c / 16) ^^^ tab.getD (c % 16) 0
theorem tab_lt : ∀ j, j < 16 → tab.getD j 0 < 4294967296 := by decide
theorem turnN_lt (c : Nat) (h : c < 4294967296) : turnN c < 4294967296 :=
  Nat.xor_lt_two_pow (n := 32) (by omega) (tab_lt _ (Nat.mod_lt _ (by omega)))

theorem turn_calls (c : Nat) (w : World) (hc : c < 4294967296) (hg : Half w) :
    Calls Tryd.prog 21 #[.int .u32 c] w fun e w' => e = .returned (.int .u32 (turnN c : Nat)) ∧ w = w' := by
  have hm : c % 16 < 16 := Nat.mod_lt _ (by omega)
  have hb : bits .and .u32 (c : Int) 15 = ((c % 16 : Nat) : Int) := by
    have := u32_and_nat c 15 hc (by omega)
    rw [nat_mask4] at this
    exact this
  have h1 := hg (c % 16) hm
  have hx : bits .xor .u32 ((c : Int) / 16) ((tab.getD (c % 16) 0 : Nat) : Int) = ((turnN c : Nat) : Int) :=
    u32_xor_nat (c / 16) _ (by omega) (tab_lt _ hm)
  generalize hT : tab.getD (c % 16) 0 = T at h1 hx
  generalize turnN c = R at hx
  clear hT hg
  go_enter Tryd.func21, Tryd.ntmps21
  go_wp2
  go_ret
  exact ⟨rfl, rfl⟩

def byteN (c x : Nat) : Nat := turnN (turnN (c ^^^ x))
def moreN (c : Nat) (l : List Nat) : Nat := l.foldl byteN c
theorem byteN_lt (c x : Nat) (h : c < 4294967296) (hx : x < 256) : byteN c x < 4294967296 :=
  turnN_lt _ (turnN_lt _ (Nat.xor_lt_two_pow (n := 32) h (by omega)))
theorem moreN_lt (l : List Nat) : ∀ (c : Nat), c < 4294967296 → (∀ x ∈ l, x < 256) → moreN c l < 4294967296 := by
  induction l with
  | nil => intro c h _; exact h
  | cons a l ih => intro c h hl; exact ih _ (byteN_lt _ _ h (hl a (by simp))) (fun x hx => hl x (by simp [hx]))
theorem moreN_snoc (c : Nat) (l : List Nat) (k : Nat) (h : k < l.length) : moreN c (l.take (k + 1)) = byteN (moreN c (l.take k)) (l.getD k 0) := foldl_snoc _ _ _ _ h
def nt (s : Nat) : Nat := 4294967295 ^^^ s
theorem nt_lt (s : Nat) (h : s < 4294967296) : nt s < 4294967296 := Nat.xor_lt_two_pow (n := 32) (by omega) h
theorem nt_bits (s : Nat) (h : s < 4294967296) : bits .xor .u32 (IntKind.u32.max) (s : Int) = ((nt s : Nat) : Int) :=
  u32_xor_nat 4294967295 s (by omega) h
theorem x8_bits (c x : Nat) (h : c < 4294967296) (hx : x < 256) : bits .xor .u32 (c : Int) (x : Int) = ((c ^^^ x : Nat) : Int) := u32_xor_nat c x h (by omega)
theorem xor_lt (c x : Nat) (h : c < 4294967296) (hx : x < 4294967296) : c ^^^ x < 4294967296 := Nat.xor_lt_two_pow (n := 32) h hx
def moreS (s : Nat) (l : List Nat) : Nat := nt (moreN (nt s) l)
theorem moreS_lt (s : Nat) (l : List Nat) (h : s < 4294967296) (hl : ∀ x ∈ l, x < 256) : moreS s l < 4294967296 := nt_lt _ (moreN_lt _ _ (nt_lt _ h) hl)

set_option maxRecDepth 100000 in
set_option maxHeartbeats 1000000 in
theorem More_calls (s : Nat) (A : Option Addr) (l : List Nat) (c : Nat) (w : World) (hs : s < 4294967296) (hl : RB w A l) (hg : Half w) :
    Calls Tryd.prog 11 #[.int .u32 s, .slice A l.length c] w fun e w' => e = .returned (.int .u32 ((moreS s l : Nat) : Int)) ∧ w = w' := by
  obtain ⟨hb, hlen, hcell⟩ := hl
  have hn := nt_bits s hs
  have hn1 := nt_lt s hs
  generalize hS : nt s = S at hn hn1
  go_enter Tryd.func11, Tryd.ntmps11
  go_wp2
  clear hn
  have HS := Bx.mk hS; clear hS
  go_loop [5, 12] (fun v i => ∃ k : Nat, k ≤ l.length ∧ i = .int .i64 k ∧ v = .int .u32 ((moreN S (l.take k) : Nat) : Int)) (fun _ i => l.length - (intOf i).toNat)
  case atStart => exact ⟨0, Nat.zero_le _, rfl, rfl⟩
  case round =>
    obtain ⟨k, hk, rfl, rfl⟩ := hrel
    have hT := moreN_lt (l.take k) S hn1 (take_mem hb)
    by_cases hlt : k < l.length
    · have hsn := moreN_snoc S l k hlt
      have hx := mem_getD hlt hb
      obtain ⟨ad, rfl, hc⟩ := hcell (by omega)
      have hck := hc k hlt
      generalize hX : l.getD k 0 = X at hck hx hsn
      generalize moreN S (l.take k) = C at hT hsn ⊢
      have hx8 := x8_bits C X hT hx
      have hxl := xor_lt C X hT (by omega)
      have hbl := turnN_lt _ hxl
      have HSN := Bx.mk hsn; clear hsn
      have HG := Bx.mk hg; clear hc hX
      generalize hY : C ^^^ X = Y at hx8 hxl hbl
      have HY := Bx.mk hY; clear hY
      go_wp2_with (go_at_call 21; refine (turn_calls _ _ (by assumption) HG.out).mono ?_; rintro e w' ⟨rfl, rfl⟩)
      go_round
      case rel => exact ⟨k + 1, by omega, by go_num, by rw [HSN.out, byteN, HY.out]⟩
      case measure => simp [intOf]; omega
    · have hk' : k = l.length := by omega
      subst hk'
      have hn2 := nt_bits _ hT
      rw [List.take_length] at hn2 hT ⊢
      generalize hM : moreN S l = M at hn2 hT ⊢
      have HM := Bx.mk hM; clear hM
      go_wp2
      go_ret
      exact ⟨ret_nat (by rw [moreS, HS.out, HM.out]), rfl⟩

theorem Sum_calls (A : Option Addr) (l : List Nat) (c : Nat) (w : World) (hl : RB w A l) (hg : Half w) :
    Calls Tryd.prog 12 #[.slice A l.length c] w fun e w' => e = .returned (.int .u32 ((moreS 0 l : Nat) : Int)) ∧ w = w' := by
  go_enter Tryd.func12, Tryd.ntmps12
  go_wp2_with (go_at_call 11; refine (More_calls 0 _ _ _ _ (by decide) hl hg).mono ?_; rintro e w' ⟨rfl, rfl⟩)
  go_ret
  exact ⟨rfl, rfl⟩

def zerosN : Nat → Nat → Nat
  | 0, c => c
  | n + 1, c => turnN (turnN (zerosN n c))
theorem zerosN_lt (n c : Nat) (h : c < 4294967296) : zerosN n c < 4294967296 := by
  induction n with
  | zero => exact h
  | succ n ih => exact turnN_lt _ (turnN_lt _ ih)

set_option maxHeartbeats 1000000 in
theorem Zeros_mid (s : Nat) (n : Nat) (hn65 : n ≤ 65536) (w : World) (hs : s < 4294967296) (hg : Half w) :
    Calls Tryd.prog 16 #[.int .u32 s, .int .i64 n] w fun e w' => e = .returned (.int .u32 ((nt (zerosN n (nt s)) : Nat) : Int)) ∧ w = w' := by
  have hn := nt_bits s hs
  have hn1 := nt_lt s hs
  generalize hS : nt s = S at hn hn1
  have HS := Bx.mk hS; clear hS
  have HG := Bx.mk hg; clear hg
  go_enter Tryd.func16, Tryd.ntmps16
  go_wp2
  clear hn
  skip
  go_loop [5, 11] (fun v i => ∃ k : Nat, k ≤ n ∧ i = .int .i64 k ∧ v = .int .u32 ((zerosN k S : Nat) : Int)) (fun _ i => n - (intOf i).toNat)
  case atStart => exact ⟨0, Nat.zero_le _, rfl, rfl⟩
  case round =>
    obtain ⟨k, hk, rfl, rfl⟩ := hrel
    have hT := zerosN_lt k S hn1
    have hz : zerosN (k + 1) S = turnN (turnN (zerosN k S)) := rfl
    have HZ := Bx.mk hz; clear hz
    by_cases hlt : k < n
    · generalize zerosN k S = C at hT HZ ⊢
      have hbl := turnN_lt _ hT
      go_wp2_with (go_at_call 21; refine (turn_calls _ _ (by assumption) HG.out).mono ?_; rintro e w' ⟨rfl, rfl⟩)
      all_goals
        go_round
        case rel => exact ⟨k + 1, by omega, by go_num, by rw [HZ.out]⟩
        case measure => simp [intOf]; omega
    · have hk' : k = n := by omega
      have HK := Bx.mk hk'; clear hk'
      have hn2 := nt_bits _ hT
      generalize hZ : zerosN k S = Z at hn2 hT ⊢
      have HZZ := Bx.mk hZ; clear hZ
      go_wp2
      go_ret
      exact ⟨ret_nat (by rw [← HZZ.out, HK.out]), rfl⟩

set_option maxHeartbeats 1000000 in
theorem Zeros_neg (s : Nat) (n : Int) (hn65 : n < 0) (w : World) (hs : s < 4294967296) (hg : Half w) :
    Calls Tryd.prog 16 #[.int .u32 s, .int .i64 n] w fun e w' => e = .returned (.int .u32 ((nt (zerosN 0 (nt s)) : Nat) : Int)) ∧ w = w' := by
  have hn := nt_bits s hs
  have hn1 := nt_lt s hs
  generalize hS : nt s = S at hn hn1
  have HS := Bx.mk hS; clear hS
  have HG := Bx.mk hg; clear hg
  go_enter Tryd.func16, Tryd.ntmps16
  go_wp2
  clear hn
  skip
  go_loop [5, 11] (fun v i => ∃ k : Nat, k ≤ 0 ∧ i = .int .i64 k ∧ v = .int .u32 ((zerosN k S : Nat) : Int)) (fun _ i => 0 - (intOf i).toNat)
  case atStart => exact ⟨0, Nat.zero_le _, rfl, rfl⟩
  case round =>
    obtain ⟨k, hk, rfl, rfl⟩ := hrel
    have hT := zerosN_lt k S hn1
    have hz : zerosN (k + 1) S = turnN (turnN (zerosN k S)) := rfl
    have HZ := Bx.mk hz; clear hz
    by_cases hlt : k < 0
    · generalize zerosN k S = C at hT HZ ⊢
      have hbl := turnN_lt _ hT
      go_wp2_with (go_at_call 21; refine (turn_calls _ _ (by assumption) HG.out).mono ?_; rintro e w' ⟨rfl, rfl⟩)
      all_goals
        go_round
        case rel => exact ⟨k + 1, by omega, by go_num, by rw [HZ.out]⟩
        case measure => simp [intOf]; omega
    · have hk' : k = 0 := by omega
      have HK := Bx.mk hk'; clear hk'
      have hn2 := nt_bits _ hT
      generalize hZ : zerosN k S = Z at hn2 hT ⊢
      have HZZ := Bx.mk hZ; clear hZ
      go_wp2
      go_ret
      exact ⟨ret_nat (by rw [← HZZ.out, HK.out]), rfl⟩

set_option maxHeartbeats 1000000 in
theorem Zeros_big (s : Nat) (n : Int) (T : Nat) (hn65 : 65536 < n) (hT65 : T = 65536) (w : World) (hs : s < 4294967296) (hg : Half w) :
    Calls Tryd.prog 16 #[.int .u32 s, .int .i64 n] w fun e w' => e = .returned (.int .u32 ((nt (zerosN T (nt s)) : Nat) : Int)) ∧ w = w' := by
  have hn := nt_bits s hs
  have hn1 := nt_lt s hs
  generalize hS : nt s = S at hn hn1
  have HS := Bx.mk hS; clear hS
  have HG := Bx.mk hg; clear hg
  go_enter Tryd.func16, Tryd.ntmps16
  go_wp2
  clear hn
  rw [show (65536 : Int) = (T : Int) by omega]
  have hTm : (T : Int) ≤ 70000 := by omega
  clear hT65 hn65
  go_loop [5, 11] (fun v i => ∃ k : Nat, k ≤ T ∧ i = .int .i64 k ∧ v = .int .u32 ((zerosN k S : Nat) : Int)) (fun _ i => T - (intOf i).toNat)
  case atStart => exact ⟨0, Nat.zero_le _, rfl, rfl⟩
  case round =>
    obtain ⟨k, hk, rfl, rfl⟩ := hrel
    have hT := zerosN_lt k S hn1
    have hz : zerosN (k + 1) S = turnN (turnN (zerosN k S)) := rfl
    have HZ := Bx.mk hz; clear hz
    by_cases hlt : k < T
    · generalize zerosN k S = C at hT HZ ⊢
      have hbl := turnN_lt _ hT
      go_wp2_with (go_at_call 21; refine (turn_calls _ _ (by assumption) HG.out).mono ?_; rintro e w' ⟨rfl, rfl⟩)
      all_goals
        go_round
        case rel => exact ⟨k + 1, by omega, by go_num, by rw [HZ.out]⟩
        case measure => simp [intOf]; omega
    · have hk' : k = T := by omega
      have HK := Bx.mk hk'; clear hk'
      have hn2 := nt_bits _ hT
      generalize hZ : zerosN k S = Z at hn2 hT ⊢
      have HZZ := Bx.mk hZ; clear hZ
      go_wp2
      go_ret
      exact ⟨ret_nat (by rw [← HZZ.out, HK.out]), rfl⟩

theorem Zeros_calls (s : Nat) (n : Int) (w : World) (hs : s < 4294967296) (hg : Half w) :
    Calls Tryd.prog 16 #[.int .u32 s, .int .i64 n] w fun e w' => e = .returned (.int .u32 ((nt (zerosN (min (max n 0) 65536).toNat (nt s)) : Nat) : Int)) ∧ w = w' := by
  by_cases h0 : n < 0
  · rw [show (min (max n 0) 65536).toNat = 0 by omega]; exact Zeros_neg s n h0 w hs hg
  · by_cases h1 : 65536 < n
    · rw [show (min (max n 0) 65536).toNat = 65536 by omega]; exact Zeros_big s n 65536 h1 rfl w hs hg
    · obtain ⟨m, rfl⟩ := Int.eq_ofNat_of_zero_le (show 0 ≤ n by omega)
      rw [show (min (max (m : Int) 0) 65536).toNat = m by omega]; exact Zeros_mid s m (by omega) w hs hg

set_option maxRecDepth 100000 in
set_option maxHeartbeats 1000000 in
theorem Flip_bad (s : Nat) (size at' : Int) (x : Nat) (w : World) (h : size > 65536 ∨ at' < 0 ∨ at' ≥ size) :
    Calls Tryd.prog 19 #[.int .u32 s, .int .i64 size, .int .i64 at', .int .u8 x] w fun e w' => e = .returned (.tuple #[.int .u32 0, .int .i64 2]) ∧ w = w' := by
  by_cases h1 : 65536 < size
  · go_enter Tryd.func19, Tryd.ntmps19
    go_wp2
    go_ret2
    exact ⟨rfl, rfl⟩
  · by_cases h2 : at' < 0
    · go_enter Tryd.func19, Tryd.ntmps19
      go_wp2
      go_ret2
      exact ⟨rfl, rfl⟩
    · have h3 : size ≤ at' := by omega
      go_enter Tryd.func19, Tryd.ntmps19
      go_wp2
      go_ret2
      exact ⟨rfl, rfl⟩

set_option maxRecDepth 100000 in
set_option maxHeartbeats 1000000 in
theorem Flip_good (s : Nat) (size at' x : Nat) (w : World) (hs : s < 4294967296) (hx : x < 256) (h1 : size ≤ 65536) (h2 : at' < size) (hg : Half w) :
    Calls Tryd.prog 19 #[.int .u32 s, .int .i64 size, .int .i64 at', .int .u8 x] w fun e w' => e = .returned (.tuple #[.int .u32 ((s ^^^ zerosN (size - at') x : Nat) : Int), .int .i64 0]) ∧ w = w' := by
  have HG := Bx.mk hg; clear hg
  have hx0 : x < 4294967296 := by omega
  have hbl := turnN_lt _ hx0
  have hbl2 := turnN_lt _ hbl
  obtain ⟨d, hd⟩ : ∃ d, size - at' = d + 1 := ⟨size - at' - 1, by omega⟩
  have hX : zerosN 1 x = turnN (turnN x) := rfl
  have HX := Bx.mk hX; clear hX
  have e1 : IntKind.i64.wrap ((size : Int) - at') = ((d + 1 : Nat) : Int) := by rw [IntWalk.i64_in _ (by omega)]; omega
  have hd' : (size : Int) - at' = (d : Int) + 1 := by omega
  rw [hd]
  clear hd e1
  have HD := Bx.mk hd'
  go_enter Tryd.func19, Tryd.ntmps19
  go_wp2_with (go_at_call 21; refine (turn_calls _ _ (by assumption) HG.out).mono ?_; rintro e w' ⟨rfl, rfl⟩)
  go_loop [10, 30] (fun v i => ∃ k : Nat, k ≤ d ∧ i = .int .i64 k ∧ v = .int .u32 ((zerosN (k + 1) x : Nat) : Int)) (fun _ i => d - (intOf i).toNat)
  case atStart => exact ⟨0, Nat.zero_le _, rfl, by rw [HX.out]⟩
  case round =>
    obtain ⟨k, hk, rfl, rfl⟩ := hrel
    have hT := zerosN_lt (k + 1) x hx0
    have hz : zerosN (k + 1 + 1) x = turnN (turnN (zerosN (k + 1) x)) := rfl
    have HZ := Bx.mk hz; clear hz
    by_cases hlt : k < d
    · generalize zerosN (k + 1) x = C at hT HZ ⊢
      have hbl3 := turnN_lt _ hT
      go_wp2_with (go_at_call 21; refine (turn_calls _ _ (by assumption) HG.out).mono ?_; rintro e w' ⟨rfl, rfl⟩)
      go_round
      case rel => exact ⟨k + 1, by omega, by go_num, by rw [HZ.out]⟩
      case measure => simp [intOf]; omega
    · have hk' : k = d := by omega
      subst hk'
      have hn2 := u32_xor_nat s _ hs hT
      generalize hZ : s ^^^ zerosN (k + 1) x = Z at hn2 ⊢
      go_wp2
      go_ret2
      exact ⟨rfl, rfl⟩
end Go.Proofs.YtcfclhgilpajiaaDoor
