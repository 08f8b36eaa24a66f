import Derived.Test.YtcamakleahpinaaBits3
/-
  The program's bits.Set, within, First; the reference's bit, Has, Set, within, First.
-/
namespace Go.Proofs.Ytcamakleahpinaa
open Go.RowKit

theorem andNot_table : ∀ X, X < 256 → ∀ r, r < 8 → X &&& (255 - 2 ^ r) = X - X / 2 ^ r % 2 * 2 ^ r ∧ (X - X / 2 ^ r % 2 * 2 ^ r) ||| 2 ^ r = X - X / 2 ^ r % 2 * 2 ^ r + 2 ^ r ∧ X - X / 2 ^ r % 2 * 2 ^ r + 2 ^ r < 256 := by decide +kernel
/-- bytes with a bit as it is to be -/
def offN (l : List Nat) (i : Nat) : Nat := l.getD (i / 8) 0 - bitN l i * 2 ^ (i % 8)
def setN (l : List Nat) (i : Nat) (on : Bool) : List Nat := l.set (i / 8) (offN l i + if on then 2 ^ (i % 8) else 0)

set_option maxHeartbeats 1000000 in
theorem Set_no (A : Option Addr) (l : List Nat) (c : Nat) (i : Int) (on : Bool) (w : World) (h1 : -9223372036854775808 ≤ i) (h2 : i ≤ 9223372036854775807) (h : okB l.length i = false) :
    Calls Try.prog 21 #[.slice A l.length c, .int .i64 i, .bool on] w fun e w' => e = .returned (.tuple #[.slice none 0 0, .int .i64 2]) ∧ Below w.heap.size w w' := by
  have hm := mask_calls A l.length c i w h1 h2
  rw [h] at hm
  have HM := Bx.mk hm
  clear hm h
  go_enter Try.func21, Try.ntmps21
  go_wp2_with fail
  refine HM.out.mono ?_
  rintro e w1 ⟨rfl, k, rfl⟩
  go_wp2
  go_ret2
  exact ⟨rfl, below_drewN (Below.refl _ _) k⟩
set_option maxHeartbeats 4000000 in
theorem Set_yes (A : Option Addr) (l : List Nat) (c : Nat) (i : Nat) (on : Bool) (w : World) (hl : RB w A l) (hi : i / 8 < l.length) :
    Calls Try.prog 21 #[.slice A l.length c, .int .i64 i, .bool on] w fun e w' => ∃ v, e = .returned (.tuple #[v, .int .i64 0]) ∧ OB w' w.heap.size v (setN l i on) ∧ Below w.heap.size w w' := by
  have hlen := hl.2.1
  have hX := mem_getD hi hl.1
  have hm := mask_calls A l.length c i w (by omega) (by omega)
  have ho : okB l.length i = true := by unfold okB; simp; omega
  have eR : ((i : Int) % 8).toNat = i % 8 := by omega
  have e8 : (i : Int) / 8 = ((i / 8 : Nat) : Int) := by omega
  rw [ho, eR, e8] at hm
  have hr : i % 8 < 8 := Nat.mod_lt _ (by decide)
  have hp : 2 ^ (i % 8) < 256 := Nat.lt_of_le_of_lt (Nat.pow_le_pow_right (by decide) (show i % 8 ≤ 7 by omega)) (by decide)
  obtain ⟨t1, t2, t3⟩ := andNot_table _ hX _ hr
  have eo : offN l i = l.getD (i / 8) 0 - l.getD (i / 8) 0 / 2 ^ (i % 8) % 2 * 2 ^ (i % 8) := rfl
  rw [← eo] at t1 t2 t3
  have a1 := u8_andNot_nat _ _ hX hp
  rw [t1] at a1
  have hO : offN l i < 256 := by omega
  have a2 := u8_or_nat _ _ hO hp
  rw [t2] at a2
  have es : ∀ o, setN l i o = l.set (i / 8) (offN l i + if o then 2 ^ (i % 8) else 0) := fun _ => rfl
  rw [es]
  have HX := Bx.mk (rfl : l.getD (i / 8) 0 = l.getD (i / 8) 0)
  clear t1 t2 eo ho eR e8 es HX
  generalize hXX : l.getD (i / 8) 0 = X at hX a1
  generalize offN l i = O at a1 a2 t3 hO ⊢
  generalize 2 ^ (i % 8) = M at hm hp a1 a2 t3 ⊢
  have hi' := hi
  generalize hK : i / 8 = K at hm hi' hXX ⊢
  have HM := Bx.mk hm
  have HL := Bx.mk hl
  have HXX := Bx.mk hXX
  clear hm hl hXX hK hi
  go_enter Try.func21, Try.ntmps21
  go_wp2_with fail
  refine HM.out.mono ?_
  rintro e w1 ⟨rfl, k, rfl⟩
  go_wp2_with fail
  refine (Clone_calls A l c _ (HL.out.below (below_drewN (Below.refl _ _) k))).mono ?_
  rintro e w1 ⟨v, rfl, ho, hb⟩
  obtain ⟨A1, c1, rfl⟩ := ho.form
  obtain ⟨g, rfl, -, hbg, hgl, hcell, hfz⟩ := ho.opened (by omega)
  have hck := hcell K hi'
  rw [HXX.out] at hck
  have hfk := hfz K
  have hb' : Below w.heap.size w w1 := below_then (below_drewN (Below.refl _ _) k) (Nat.le_refl _) hb
  have HB := Bx.mk hb'
  have HBG : Bx (w.heap.size ≤ g) := ⟨hbg⟩
  have HO1 := Bx.mk (ho.put K O)
  have HO2 := Bx.mk ((ho.put K O).put K (O + M))
  have hc2 : (w1.setCell ⟨g, K, none⟩ (.int .u8 (O : Int))).cell? ⟨g, K, none⟩ = some (.int .u8 (O : Int)) := World.cell?_setCell_same _ _ _ hck
  have hf2 : (w1.setCell ⟨g, K, none⟩ (.int .u8 (O : Int))).frozen? ⟨g, K, none⟩ = false := by rw [World.frozen?_setCell]; exact hfk
  clear hcell hfz ho hb hb' hbg
  cases on with
  | false =>
    go_wp2
    go_ret2
    exact ⟨_, rfl, HO1.out, HB.out.setCell HBG.out _⟩
  | true =>
    go_wp2
    go_ret2
    exact ⟨_, rfl, by have h := HO2.out; rw [List.set_set] at h; exact h, (HB.out.setCell HBG.out _).setCell HBG.out _⟩

/-- how many bits there are below n -/
def wiN (len : Nat) (n : Int) : Nat := (max 0 (min n (8 * len))).toNat
set_option maxHeartbeats 1000000 in
theorem within_calls (A : Option Addr) (len c : Nat) (n : Int) (w : World) (hn : len ≤ 140737488351232) :
    Calls Try.prog 31 #[.slice A len c, .int .i64 n] w fun e w' => e = .returned (.int .i64 ((wiN len n : Nat) : Int)) ∧ w = w' := by
  have hw : ((wiN len n : Nat) : Int) = max 0 (min n (8 * (len : Int))) := by unfold wiN; omega
  rw [hw]
  have HW := Bx.mk hw
  clear hw
  by_cases h1 : 8 * (len : Int) < n
  · by_cases h2 : 0 < 8 * (len : Int)
    · go_enter Try.func31, Try.ntmps31
      go_wp2
      go_ret
      exact ⟨ret_int (by omega), rfl⟩
    · obtain rfl : len = 0 := by omega
      go_enter Try.func31, Try.ntmps31
      go_wp2
      go_ret
      exact ⟨ret_int (by omega), rfl⟩
  · by_cases h2 : 0 < n
    · go_enter Try.func31, Try.ntmps31
      go_wp2
      go_ret
      exact ⟨ret_int (by omega), rfl⟩
    · go_enter Try.func31, Try.ntmps31
      go_wp2
      go_ret
      exact ⟨ret_int (by omega), rfl⟩
set_option maxHeartbeats 1000000 in
theorem rwithin_calls (A : Option Addr) (len c : Nat) (n : Int) (w : World) (hn : len ≤ 140737488351232) :
    Calls Try.prog 35 #[.slice A len c, .int .i64 n] w fun e w' => e = .returned (.int .i64 ((wiN len n : Nat) : Int)) ∧ w = w' := by
  have hw : ((wiN len n : Nat) : Int) = max 0 (min n (8 * (len : Int))) := by unfold wiN; omega
  rw [hw]
  have HW := Bx.mk hw
  clear hw
  by_cases h1 : 8 * (len : Int) < n
  · by_cases h2 : 0 < 8 * (len : Int)
    · go_enter Try.func35, Try.ntmps35
      go_wp2
      go_ret
      exact ⟨ret_int (by omega), rfl⟩
    · obtain rfl : len = 0 := by omega
      go_enter Try.func35, Try.ntmps35
      go_wp2
      go_ret
      exact ⟨ret_int (by omega), rfl⟩
  · by_cases h2 : 0 < n
    · go_enter Try.func35, Try.ntmps35
      go_wp2
      go_ret
      exact ⟨ret_int (by omega), rfl⟩
    · go_enter Try.func35, Try.ntmps35
      go_wp2
      go_ret
      exact ⟨ret_int (by omega), rfl⟩
theorem wiN_le (len : Nat) (n : Int) : wiN len n ≤ 8 * len := by unfold wiN; omega

/-- the first bit that is 0, of d bits from i on -/
def firstN (l : List Nat) : Nat → Nat → Int
  | 0, _ => -1
  | d + 1, i => if bitB l i then firstN l d (i + 1) else (i : Int)
theorem div2_iter (X k : Nat) : X / 2 ^ k / 2 = X / 2 ^ (k + 1) := by rw [Nat.pow_succ, Nat.div_div_eq_div_mul]

set_option maxHeartbeats 1000000 in
theorem rbit_calls (A : Option Addr) (l : List Nat) (c : Nat) (i : Nat) (w : World) (hl : RB w A l) (hi : i / 8 < l.length) :
    Calls Try.prog 34 #[.slice A l.length c, .int .i64 i] w fun e w' => e = .returned (.bool (bitB l i)) ∧ w = w' := by
  obtain ⟨hb, hlen, hcell⟩ := hl
  obtain ⟨ad, rfl, hc⟩ := hcell (by omega)
  have hck := hc (i / 8) hi
  have hX := mem_getD hi hb
  have hB : bitB l i = decide (l.getD (i / 8) 0 / 2 ^ (i % 8) % 2 = 1) := rfl
  rw [hB]
  generalize l.getD (i / 8) 0 = X at hck hX ⊢
  have hr : i % 8 < 8 := Nat.mod_lt _ (by decide)
  have e2 : (i : Int) % 8 = ((i % 8 : Nat) : Int) := by omega
  generalize hR : i % 8 = R at hr e2 ⊢
  have HR := Bx.mk hR
  clear hb hc hB hcell hR
  go_enter Try.func34, Try.ntmps34
  go_wp2
  go_loop [5, 6] (fun n i => ∃ k : Nat, k ≤ R ∧ i = .int .i64 k ∧ n = .int .i64 ((X / 2 ^ k : Nat) : Int)) (fun _ i => R - (intOf i).toNat)
  case atStart => exact ⟨0, Nat.zero_le _, rfl, by simp⟩
  case round =>
    obtain ⟨k, hk, rfl, rfl⟩ := hrel
    have hle : X / 2 ^ k ≤ X := Nat.div_le_self _ _
    have hd := Bx.mk (div2_iter X k)
    by_cases hlt : k < R
    · generalize X / 2 ^ k = C at hle hd ⊢
      go_wp2
      go_round
      case rel => exact ⟨k + 1, by omega, by go_num, by rw [← hd.out]; go_num⟩
      case measure => simp [intOf]; omega
    · have hk' : k = R := by omega
      have HK := Bx.mk hk'
      clear hk'
      generalize hC : X / 2 ^ k = C at hle ⊢
      have HC := Bx.mk hC
      clear hC
      go_wp2
      go_ret
      exact ⟨ret_bool (by rw [← HK.out, HC.out]; apply Bool.eq_iff_iff.2; simp; omega), rfl⟩
/-- a test's answer, as the reference spells it -/
theorem okB_false {n : Nat} {i : Int} (h : okB n i = false) : i < 0 ∨ (n : Int) ≤ i / 8 := by unfold okB at h; simp at h; omega
set_option maxHeartbeats 1000000 in
theorem rHas_no (A : Option Addr) (l : List Nat) (c : Nat) (i : Int) (w : World) (h1 : -9223372036854775808 ≤ i) (h2 : i ≤ 9223372036854775807) (h : okB l.length i = false) :
    Calls Try.prog 20 #[.slice A l.length c, .int .i64 i] w fun e w' => e = .returned (.tuple #[.bool false, .int .i64 2]) ∧ w = w' := by
  by_cases h0 : i < 0
  · clear h
    go_enter Try.func20, Try.ntmps20
    go_wp2
    go_ret2
    exact ⟨rfl, rfl⟩
  · obtain ⟨m, rfl⟩ := Int.eq_ofNat_of_zero_le (show 0 ≤ i by omega)
    have h3 : l.length ≤ m / 8 := by have := okB_false h; omega
    clear h
    go_enter Try.func20, Try.ntmps20
    go_wp2
    go_ret2
    exact ⟨rfl, rfl⟩
set_option maxHeartbeats 1000000 in
theorem rHas_yes (A : Option Addr) (l : List Nat) (c : Nat) (i : Nat) (w : World) (hl : RB w A l) (hi : i / 8 < l.length) :
    Calls Try.prog 20 #[.slice A l.length c, .int .i64 i] w fun e w' => e = .returned (.tuple #[.bool (bitB l i), .int .i64 0]) ∧ w = w' := by
  have hlen := hl.2.1
  have HB := Bx.mk (rbit_calls A l c i w hl hi)
  clear hl
  go_enter Try.func20, Try.ntmps20
  go_wp2_with fail
  refine HB.out.mono ?_
  rintro e w1 ⟨rfl, rfl⟩
  go_wp2
  go_ret2
  exact ⟨rfl, rfl⟩

set_option maxHeartbeats 4000000 in
theorem First_calls (A : Option Addr) (l : List Nat) (c : Nat) (fr n : Int) (w : World) (hl : RB w A l) (h1 : fr ≤ 9223372036854775807) :
    Calls Try.prog 16 #[.slice A l.length c, .int .i64 fr, .int .i64 n] w fun e w' => e = .returned (.int .i64 (firstN l (wiN l.length n - (max 0 fr).toNat) (max 0 fr).toNat)) ∧ ∃ k, w' = w.drewN k := by
  have hlen := hl.2.1
  have HL := Bx.mk hl
  have hW := wiN_le l.length n
  clear hl
  obtain ⟨F, hF⟩ : ∃ F : Nat, (F : Int) = max 0 fr := ⟨(max 0 fr).toNat, by omega⟩
  have eF : (max 0 fr).toNat = F := by omega
  rw [eF]
  have HF := Bx.mk hF
  have hFb : F ≤ 9223372036854775807 := by omega
  clear hF eF
  go_enter Try.func16, Try.ntmps16
  go_wp2_with fail
  refine (within_calls A l.length c n w hlen).mono ?_
  rintro e w1 ⟨rfl, rfl⟩
  generalize hWW : wiN l.length n = W at hW ⊢
  have HWW := Bx.mk hWW
  clear hWW
  by_cases hneg : 0 < fr
  all_goals
    go_wp2
    go_loopw [7] (fun i wr => ∃ k q : Nat, Bx (firstN l (W - F) F = firstN l (W - k) k) ∧ i = .int .i64 k ∧ Bx (k ≤ W ∨ k = F) ∧ wr = w.drewN q) (fun i _ => W - (intOf i).toNat)
    case atStart => exact ⟨F, 0, ⟨rfl⟩, by congr 1; have := HF.out; omega, ⟨.inr rfl⟩, rfl⟩
    case round =>
      obtain ⟨k, q, HE, rfl, HK, rfl⟩ := hrel
      by_cases hlt : k < W
      · have HH := Bx.mk (Has_yes A l c k (w.drewN q) (HL.out.below (below_drewN (Below.refl _ _) q)) (by omega))
        have hs : firstN l (W - k) k = if bitB l k then firstN l (W - (k + 1)) (k + 1) else (k : Int) := by
          rw [show W - k = (W - (k + 1)) + 1 by omega]; rfl
        have HS := Bx.mk hs
        clear hs
        generalize bitB l k = b at HH HS
        go_wp2_with fail
        refine HH.out.mono ?_
        rintro e w1 ⟨rfl, q1, rfl⟩
        cases b with
        | true =>
          go_wp2
          go_roundw
          case rel => exact ⟨k + 1, _, ⟨by rw [HE.out, HS.out]; rfl⟩, by go_num, ⟨.inl (by omega)⟩, (by first | rfl | exact World.drewN_drewN ..)⟩
          case measure => simp [intOf]; omega
        | false =>
          go_wp2
          go_ret
          exact ⟨ret_int (by rw [HWW.out, HE.out, HS.out]; rfl), _, (by first | rfl | exact World.drewN_drewN ..)⟩
      · go_wp2
        go_ret
        exact ⟨ret_int (by rw [HWW.out, HE.out, show W - k = 0 by omega]; rfl), _, rfl⟩
end Go.Proofs.Ytcamakleahpinaa
