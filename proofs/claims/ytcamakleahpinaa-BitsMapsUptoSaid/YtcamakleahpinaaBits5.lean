import Derived.Test.YtcamakleahpinaaBits4
/-
  Counting bits: the program's Count, the reference's Count and First.
-/
namespace Go.Proofs.Ytcamakleahpinaa
open Go.RowKit

/-- how many of the low r bits of x are 1 -/
def onesN (x : Nat) : Nat → Nat
  | 0 => 0
  | r + 1 => onesN x r + x / 2 ^ r % 2
def popTab : ByteArray := ⟨#[0, 1, 1, 2, 1, 2, 2, 3, 1, 2, 2, 3, 2, 3, 3, 4, 1, 2, 2, 3, 2, 3, 3, 4, 2, 3, 3, 4, 3, 4, 4, 5, 1, 2, 2, 3, 2, 3, 3, 4, 2, 3, 3, 4, 3, 4, 4, 5, 2, 3, 3, 4, 3, 4, 4, 5, 3, 4, 4, 5, 4, 5, 5, 6, 1, 2, 2, 3, 2, 3, 3, 4, 2, 3, 3, 4, 3, 4, 4, 5, 2, 3, 3, 4, 3, 4, 4, 5, 3, 4, 4, 5, 4, 5, 5, 6, 2, 3, 3, 4, 3, 4, 4, 5, 3, 4, 4, 5, 4, 5, 5, 6, 3, 4, 4, 5, 4, 5, 5, 6, 4, 5, 5, 6, 5, 6, 6, 7, 1, 2, 2, 3, 2, 3, 3, 4, 2, 3, 3, 4, 3, 4, 4, 5, 2, 3, 3, 4, 3, 4, 4, 5, 3, 4, 4, 5, 4, 5, 5, 6, 2, 3, 3, 4, 3, 4, 4, 5, 3, 4, 4, 5, 4, 5, 5, 6, 3, 4, 4, 5, 4, 5, 5, 6, 4, 5, 5, 6, 5, 6, 6, 7, 2, 3, 3, 4, 3, 4, 4, 5, 3, 4, 4, 5, 4, 5, 5, 6, 3, 4, 4, 5, 4, 5, 5, 6, 4, 5, 5, 6, 5, 6, 6, 7, 3, 4, 4, 5, 4, 5, 5, 6, 4, 5, 5, 6, 5, 6, 6, 7, 4, 5, 5, 6, 5, 6, 6, 7, 5, 6, 6, 7, 6, 7, 7, 8]⟩
theorem popTab_size : popTab.size = 256 := by decide +kernel
theorem popTab_all : ∀ x : Fin 256, (popTab.data.toList.getD x.1 0).toNat = onesN x.1 8 := by decide +kernel
theorem popTab_eq (x : Nat) (h : x < popTab.size) : ((popTab[x]'h).toNat : Nat) = onesN x 8 := by
  have h1 : x < 256 := by rw [← popTab_size]; exact h
  rw [← popTab_all ⟨x, h1⟩]
  have h2 : x < popTab.data.toList.length := h
  rw [List.getD_eq_getElem?_getD, List.getElem?_eq_getElem h2]
  rfl
theorem onesN_le (x r : Nat) : onesN x r ≤ r := by
  induction r with
  | zero => exact Nat.le_refl _
  | succ r ih => simp only [onesN]; omega
set_option maxRecDepth 100000 in
set_option maxHeartbeats 4000000 in
theorem Ones_calls (x : Nat) (w : World) (hx : x < 256) :
    Calls Try.prog 33 #[.int .u8 x] w fun e w' => e = .returned (.int .i64 ((onesN x 8 : Nat) : Int)) ∧ w = w' := by
  have hs : x < popTab.size := by rw [popTab_size]; exact hx
  have h1 := popTab_eq x hs
  have h2 := onesN_le x 8
  have h3 : wrap64 (((popTab[x]'hs).toNat : Nat) : Int) = ((onesN x 8 : Nat) : Int) := by
    rw [h1]; unfold wrap64; omega
  have H3 := Bx.mk h3
  clear h1 h2 h3
  go_enter Try.func33, Try.ntmps33
  go_wp2
  go_ret
  exact ⟨ret_int H3.out, rfl⟩

/-- how many of the first W bits are 1 -/
def cntN (l : List Nat) : Nat → Nat
  | 0 => 0
  | i + 1 => cntN l i + bitN l i
theorem cntN_le (l : List Nat) (i : Nat) : cntN l i ≤ i := by
  induction i with
  | zero => exact Nat.le_refl _
  | succ i ih => have := bitN_01 l i; simp only [cntN]; omega
theorem cntN_byte (l : List Nat) (k : Nat) : ∀ r, r ≤ 8 → cntN l (8 * k + r) = cntN l (8 * k) + onesN (l.getD k 0) r
  | 0, _ => rfl
  | r + 1, h => by
    have h1 := cntN_byte l k r (by omega)
    show cntN l (8 * k + r) + bitN l (8 * k + r) = _
    rw [h1]
    have e1 : (8 * k + r) / 8 = k := by omega
    have e2 : (8 * k + r) % 8 = r := by omega
    unfold bitN
    rw [e1, e2]
    simp only [onesN]
    omega
theorem part_table : ∀ X, X < 256 → ∀ r, r < 8 → onesN (X * 2 ^ (8 - r) % 256) 8 = onesN X r := by decide +kernel

set_option maxHeartbeats 4000000 in
theorem Count_calls (A : Option Addr) (l : List Nat) (c : Nat) (n : Int) (w : World) (hl : RB w A l) (hc : l.length ≤ c) :
    Calls Try.prog 19 #[.slice A l.length c, .int .i64 n] w fun e w' => e = .returned (.int .i64 ((cntN l (wiN l.length n) : Nat) : Int)) ∧ w = w' := by
  have hlen := hl.2.1
  have hW := wiN_le l.length n
  have HL := Bx.mk hl
  clear hl
  go_enter Try.func19, Try.ntmps19
  go_wp2_with fail
  refine (within_calls A l.length c n w hlen).mono ?_
  rintro e w1 ⟨rfl, rfl⟩
  generalize hWW : wiN l.length n = W at hW ⊢
  have HWW := Bx.mk hWW
  clear hWW
  have hK : W / 8 ≤ l.length := by omega
  have hcut := cut_to_bytes A l.length c (W / 8) hK hc
  have e8 : (W : Int) / 8 = ((W / 8 : Nat) : Int) := by omega
  have er : (W : Int) % 8 = ((W % 8 : Nat) : Int) := by omega
  have hr : W % 8 < 8 := Nat.mod_lt _ (by decide)
  have hsp : W = 8 * (W / 8) + W % 8 := by omega
  generalize hKK : W / 8 = K at hK hcut e8 hsp
  generalize hRR : W % 8 = R at er hr hsp
  have HSP := Bx.mk hsp
  clear hsp hKK hRR
  go_wp2
  clear hcut
  go_loop [5, 16] (fun v i => ∃ k : Nat, k ≤ K ∧ i = .int .i64 k ∧ v = .int .i64 ((cntN l (8 * k) : Nat) : Int)) (fun _ i => K - (intOf i).toNat)
  case atStart => exact ⟨0, Nat.zero_le _, rfl, rfl⟩
  case round =>
    obtain ⟨k, hk, rfl, rfl⟩ := hrel
    have hle := cntN_le l (8 * k)
    have hs := Bx.mk (cntN_byte l k 8 (Nat.le_refl _))
    by_cases hlt : k < K
    · obtain ⟨ad, rfl, hcell⟩ := HL.out.2.2 (by omega)
      have hck := hcell k (by omega)
      have hX := mem_getD (show k < l.length by omega) HL.out.1
      have ho := onesN_le (l.getD k 0) 8
      have HO := Bx.mk (Ones_calls _ w hX)
      generalize l.getD k 0 = X at hck hX hs ho HO
      generalize cntN l (8 * k) = C at hle hs ⊢
      generalize onesN X 8 = Z at hs ho HO
      clear hcell
      go_wp2_with fail
      refine HO.out.mono ?_
      rintro e w1 ⟨rfl, rfl⟩
      go_wp2
      go_round
      case rel => exact ⟨k + 1, by omega, by go_num, by rw [show 8 * (k + 1) = 8 * k + 8 by omega, hs.out]; go_num⟩
      case measure => simp [intOf]; omega
    · have hk' : k = K := by omega
      have HK := Bx.mk hk'
      clear hk'
      have hb := cntN_byte l k R (by omega)
      by_cases hR0 : 0 < R
      · obtain ⟨ad, rfl, hcell⟩ := HL.out.2.2 (by have := HSP.out; omega)
        have hKl : K < l.length := by have := HSP.out; omega
        have hck := hcell K hKl
        have hX := mem_getD hKl HL.out.1
        have hpt := part_table _ hX R hr
        have ho := onesN_le (l.getD K 0) R
        rw [HK.out] at hb
        have hsl : l.getD K 0 * 2 ^ (8 - R) % 256 < 256 := Nat.mod_lt _ (by decide)
        have HO := Ones_calls _ w hsl
        rw [hpt] at HO
        have HOO := Bx.mk HO
        have HB := Bx.mk hb
        have hc2 : cntN l (8 * k) = cntN l (8 * K) := by rw [HK.out]
        rw [hc2] at hle ⊢
        generalize l.getD K 0 = X at hck hX HB ho HOO
        generalize cntN l (8 * K) = C at hle HB ⊢
        generalize onesN X R = Z at HB ho HOO
        have hsh : IntKind.u8.wrap ((X : Int) * 2 ^ (8 - R)) = ((X * 2 ^ (8 - R) % 256 : Nat) : Int) := by
          rw [IntKind.wrap_u8]
          have : ((2 : Int) ^ (8 - R)) = ((2 ^ (8 - R) : Nat) : Int) := by rw [Int.natCast_pow]; rfl
          rw [this]
          omega
        generalize X * 2 ^ (8 - R) % 256 = Y at hsh HOO
        clear hcell hb HO hpt hsl hc2
        go_wp2_with fail
        refine HOO.out.mono ?_
        rintro e w1 ⟨rfl, rfl⟩
        go_wp2
        go_ret
        exact ⟨ret_int (by rw [HWW.out, HSP.out, HB.out]; omega), rfl⟩
      · obtain rfl : R = 0 := by omega
        have hc2 : cntN l (8 * k) = cntN l W := by rw [HK.out, HSP.out, Nat.add_zero]
        have HC2 := Bx.mk hc2
        clear hc2 hb
        generalize cntN l (8 * k) = C at hle HC2 ⊢
        go_wp2
        go_ret
        exact ⟨ret_int (by rw [HWW.out, HC2.out]), rfl⟩

set_option maxHeartbeats 4000000 in
theorem rCount_calls (A : Option Addr) (l : List Nat) (c : Nat) (n : Int) (w : World) (hl : RB w A l) :
    Calls Try.prog 24 #[.slice A l.length c, .int .i64 n] w fun e w' => e = .returned (.int .i64 ((cntN l (wiN l.length n) : Nat) : Int)) ∧ w = w' := by
  have hlen := hl.2.1
  have hW := wiN_le l.length n
  have HL := Bx.mk hl
  have HWI := Bx.mk (rwithin_calls A l.length c n w hlen)
  clear hl
  generalize hWW : wiN l.length n = W at hW HWI ⊢
  clear hWW
  go_enter Try.func24, Try.ntmps24
  go_wp2
  go_loop [5, 6] (fun v i => ∃ k : Nat, k ≤ W ∧ i = .int .i64 k ∧ v = .int .i64 ((cntN l k : Nat) : Int)) (fun _ i => W - (intOf i).toNat)
  case atStart => exact ⟨0, Nat.zero_le _, rfl, rfl⟩
  case round =>
    obtain ⟨k, hk, rfl, rfl⟩ := hrel
    have hle := cntN_le l k
    by_cases hlt : k < W
    · have hs : cntN l (k + 1) = cntN l k + bitN l k := rfl
      have HS := Bx.mk hs
      have HB := Bx.mk (rbit_calls A l c k w HL.out (by omega))
      have hb2 : bitB l k = decide (bitN l k = 1) := rfl
      have h01 := bitN_01 l k
      rw [hb2] at HB
      generalize cntN l k = C at hle HS ⊢
      generalize bitN l k = b at HB h01 HS
      clear hs hb2
      rcases h01 with rfl | rfl
      · go_wp2_with fail
        refine HWI.out.mono ?_
        rintro e w1 ⟨rfl, rfl⟩
        go_wp2_with fail
        refine HB.out.mono ?_
        rintro e w1 ⟨rfl, rfl⟩
        go_wp2
        go_round
        case rel => exact ⟨k + 1, by omega, by go_num, by rw [HS.out]; rfl⟩
        case measure => simp [intOf]; omega
      · go_wp2_with fail
        refine HWI.out.mono ?_
        rintro e w1 ⟨rfl, rfl⟩
        go_wp2_with fail
        refine HB.out.mono ?_
        rintro e w1 ⟨rfl, rfl⟩
        go_wp2
        go_round
        case rel => exact ⟨k + 1, by omega, by go_num, by rw [HS.out]; rfl⟩
        case measure => simp [intOf]; omega
    · obtain rfl : k = W := by omega
      go_wp2_with fail
      refine HWI.out.mono ?_
      rintro e w1 ⟨rfl, rfl⟩
      go_wp2
      go_ret
      exact ⟨rfl, rfl⟩

set_option maxHeartbeats 4000000 in
theorem rFirst_calls (A : Option Addr) (l : List Nat) (c : Nat) (fr n : Int) (w : World) (hl : RB w A l) (h1 : fr ≤ 9223372036854775807) :
    Calls Try.prog 23 #[.slice A l.length c, .int .i64 fr, .int .i64 n] w fun e w' => e = .returned (.int .i64 (firstN l (wiN l.length n - (max 0 fr).toNat) (max 0 fr).toNat)) ∧ w = w' := by
  have hlen := hl.2.1
  have HL := Bx.mk hl
  have hW := wiN_le l.length n
  have HWI := Bx.mk (rwithin_calls A l.length c n w hlen)
  clear hl
  obtain ⟨F, hF⟩ : ∃ F : Nat, (F : Int) = max 0 fr := ⟨(max 0 fr).toNat, by omega⟩
  have eF : (max 0 fr).toNat = F := by omega
  rw [eF]
  have HF := Bx.mk hF
  have hFb : F ≤ 9223372036854775807 := by omega
  clear hF eF
  generalize hWW : wiN l.length n = W at hW HWI ⊢
  clear hWW
  by_cases hneg : 0 < fr
  all_goals
    go_enter Try.func23, Try.ntmps23
    go_wp2
    go_loop [7] (fun i => ∃ k : Nat, Bx (firstN l (W - F) F = firstN l (W - k) k) ∧ i = .int .i64 k ∧ Bx (k ≤ W ∨ k = F)) (fun i => W - (intOf i).toNat)
    case atStart => exact ⟨F, ⟨rfl⟩, by congr 1; have := HF.out; omega, ⟨.inr rfl⟩⟩
    case round =>
      obtain ⟨k, HE, rfl, HK⟩ := hrel
      have hkb : k ≤ 9223372036854775807 := by rcases HK.out with h | h <;> omega
      by_cases hlt : k < W
      · have HH := Bx.mk (rbit_calls A l c k w HL.out (by omega))
        have hs : firstN l (W - k) k = if bitB l k then firstN l (W - (k + 1)) (k + 1) else (k : Int) := by
          rw [show W - k = (W - (k + 1)) + 1 by omega]; rfl
        have HS := Bx.mk hs
        clear hs
        generalize bitB l k = b at HH HS
        cases b with
        | true =>
          go_wp2_with fail
          refine HWI.out.mono ?_
          rintro e w1 ⟨rfl, rfl⟩
          go_wp2_with fail
          refine HH.out.mono ?_
          rintro e w1 ⟨rfl, rfl⟩
          go_wp2
          go_round
          case rel => exact ⟨k + 1, ⟨by rw [HE.out, HS.out]; rfl⟩, by go_num, ⟨.inl (by omega)⟩⟩
          case measure => simp [intOf]; omega
        | false =>
          go_wp2_with fail
          refine HWI.out.mono ?_
          rintro e w1 ⟨rfl, rfl⟩
          go_wp2_with fail
          refine HH.out.mono ?_
          rintro e w1 ⟨rfl, rfl⟩
          go_wp2
          go_ret
          exact ⟨ret_int (by rw [HE.out, HS.out]; rfl), rfl⟩
      · go_wp2_with fail
        refine HWI.out.mono ?_
        rintro e w1 ⟨rfl, rfl⟩
        go_wp2
        go_ret
        exact ⟨ret_int (by rw [HE.out, show W - k = 0 by omega]; rfl), rfl⟩
end Go.Proofs.Ytcamakleahpinaa
