import Derived.Test.YtcfclhgilpajiaaDoorCrc1
/-
  The reference's crc functions: step, More, Sum: what each answers, as a plain function on natural numbers.
-/
namespace Go.Proofs.YtcfclhgilpajiaaDoor
open Go.RowKit

def halfStep (c : Nat) : Nat := if c % 2 = 1 then (c / 2) ^^^ 3988292384 else c / 2
theorem halfStep_lt (c : Nat) (h : c < 4294967296) : halfStep c < 4294967296 := by
  unfold halfStep; split
  · exact xor_lt _ _ (by omega) (by omega)
  · omega
def iterStep : Nat → Nat → Nat
  | 0, c => c
  | n + 1, c => halfStep (iterStep n c)
theorem iterStep_lt (n c : Nat) (h : c < 4294967296) : iterStep n c < 4294967296 := by
  induction n with
  | zero => exact h
  | succ n ih => exact halfStep_lt _ ih
def stepN (c x : Nat) : Nat := iterStep 8 (c ^^^ x)
theorem stepN_lt (c x : Nat) (h : c < 4294967296) (hx : x < 256) : stepN c x < 4294967296 := iterStep_lt _ _ (xor_lt _ _ h (by omega))

set_option maxHeartbeats 1000000 in
theorem step_calls (c x : Nat) (w : World) (hc : c < 4294967296) (hx : x < 256) :
    Calls Tryd.prog 22 #[.int .u32 c, .int .u8 x] w fun e w' => e = .returned (.int .u32 ((stepN c x : Nat) : Int)) ∧ w = w' := by
  have hx8 := x8_bits c x hc hx
  have hxl := xor_lt c x hc (by omega)
  generalize hY : c ^^^ x = Y at hx8 hxl
  have hS : stepN c x = iterStep 8 Y := by rw [stepN, hY]
  rw [hS]
  clear hS hY
  go_enter Tryd.func22, Tryd.ntmps22
  go_wp2
  clear hx8
  go_loop [0, 5] (fun v i => ∃ k : Nat, k ≤ 8 ∧ i = .int .i64 k ∧ v = .int .u32 ((iterStep k Y : Nat) : Int)) (fun _ i => 8 - (intOf i).toNat)
  case atStart => exact ⟨0, Nat.zero_le _, rfl, rfl⟩
  case round =>
    obtain ⟨k, hk, rfl, rfl⟩ := hrel
    have hT := iterStep_lt k Y hxl
    have hz : iterStep (k + 1) Y = halfStep (iterStep k Y) := rfl
    have HZ := Bx.mk hz; clear hz
    by_cases hlt : k < 8
    · generalize iterStep k Y = C at hT HZ ⊢
      have hm : bits .xor .u32 ((C : Int) / 2) 3988292384 = (((C / 2) ^^^ 3988292384 : Nat) : Int) := u32_xor_nat (C / 2) 3988292384 (by omega) (by omega)
      by_cases ho : C % 2 = 1
      · have hh : halfStep C = (C / 2) ^^^ 3988292384 := by rw [halfStep, if_pos ho]
        have hob : decide (C % 2 = 1) = true := by simp [ho]
        have HH := Bx.mk hh; have HO := Bx.mk ho; clear hh ho
        have hob2 : (((C % 2 : Nat) : Int) == 1) = true := by have := HO.out; simp [this]
        generalize hM : (C / 2) ^^^ 3988292384 = M at hm HH
        have HM := Bx.mk hM; clear hM
        go_wp2
        all_goals
          go_round
          case rel => exact ⟨k + 1, by omega, by go_num, by rw [HZ.out, HH.out]⟩
          case measure => simp [intOf]; omega
      · have hh : halfStep C = C / 2 := by rw [halfStep, if_neg ho]
        have hob : decide (C % 2 = 1) = false := by simp [ho]
        have hob2 : (((C % 2 : Nat) : Int) == 1) = false := by have : C % 2 = 0 := by omega
                                                               simp [this]
        have HH := Bx.mk hh; clear hh ho hm
        go_wp2
        all_goals
          go_round
          case rel => exact ⟨k + 1, by omega, by go_num, by rw [HZ.out, HH.out]; go_num⟩
          case measure => simp [intOf]; omega
    · have hk' : k = 8 := by omega
      subst hk'
      go_wp2
      go_ret
      exact ⟨rfl, rfl⟩

def rmoreN (c : Nat) (l : List Nat) : Nat := l.foldl stepN c
theorem rmoreN_lt (l : List Nat) : ∀ (c : Nat), c < 4294967296 → (∀ x ∈ l, x < 256) → rmoreN c l < 4294967296 := by
  induction l with
  | nil => intro c h _; exact h
  | cons a l ih => intro c h hl; exact ih _ (stepN_lt _ _ h (hl a (by simp))) (fun x hx => hl x (by simp [hx]))
theorem rmoreN_snoc (c : Nat) (l : List Nat) (k : Nat) (h : k < l.length) : rmoreN c (l.take (k + 1)) = stepN (rmoreN c (l.take k)) (l.getD k 0) := foldl_snoc _ _ _ _ h
theorem ntc_bits (s : Nat) (h : s < 4294967296) : bits .xor .u32 (s : Int) 4294967295 = ((nt s : Nat) : Int) := by
  have := u32_xor_nat s 4294967295 h (by omega)
  rw [Nat.xor_comm] at this
  exact this
def rmoreS (s : Nat) (l : List Nat) : Nat := nt (rmoreN (nt s) l)

set_option maxHeartbeats 1000000 in
theorem rMore_calls (s : Nat) (A : Option Addr) (l : List Nat) (c : Nat) (w : World) (hs : s < 4294967296) (hl : RB w A l) :
    Calls Tryd.prog 15 #[.int .u32 s, .slice A l.length c] w fun e w' => e = .returned (.int .u32 ((rmoreS s l : Nat) : Int)) ∧ w = w' := by
  obtain ⟨hb, hlen, hcell⟩ := hl
  have hn := ntc_bits s hs
  have hn1 := nt_lt s hs
  generalize hS : nt s = S at hn hn1
  go_enter Tryd.func15, Tryd.ntmps15
  go_wp2
  clear hn
  have HS := Bx.mk hS; clear hS
  go_loop [5, 6] (fun v i => ∃ k : Nat, k ≤ l.length ∧ i = .int .i64 k ∧ v = .int .u32 ((rmoreN S (l.take k) : Nat) : Int)) (fun _ i => l.length - (intOf i).toNat)
  case atStart => exact ⟨0, Nat.zero_le _, rfl, rfl⟩
  case round =>
    obtain ⟨k, hk, rfl, rfl⟩ := hrel
    have hT := rmoreN_lt (l.take k) S hn1 (take_mem hb)
    by_cases hlt : k < l.length
    · have hsn := rmoreN_snoc S l k hlt
      have hx := mem_getD hlt hb
      obtain ⟨ad, rfl, hc⟩ := hcell (by omega)
      have hck := hc k hlt
      generalize hX : l.getD k 0 = X at hck hx hsn
      generalize rmoreN S (l.take k) = C at hT hsn ⊢
      have HSN := Bx.mk hsn; clear hsn
      clear hc hX
      go_wp2_with (go_at_call 22; refine (step_calls _ _ _ hT hx).mono ?_; rintro e w' ⟨rfl, rfl⟩)
      go_round
      case rel => exact ⟨k + 1, by omega, by go_num, by rw [HSN.out]⟩
      case measure => simp [intOf]; omega
    · have hk' : k = l.length := by omega
      subst hk'
      have hn2 := ntc_bits _ hT
      rw [List.take_length] at hn2 hT ⊢
      generalize hM : rmoreN S l = M at hn2 hT ⊢
      have HM := Bx.mk hM; clear hM
      go_wp2
      go_ret
      exact ⟨ret_nat (by rw [rmoreS, HS.out, HM.out]), rfl⟩

theorem rSum_calls (A : Option Addr) (l : List Nat) (c : Nat) (w : World) (hl : RB w A l) :
    Calls Tryd.prog 14 #[.slice A l.length c] w fun e w' => e = .returned (.int .u32 ((rmoreS 0 l : Nat) : Int)) ∧ w = w' := by
  go_enter Tryd.func14, Tryd.ntmps14
  go_wp2_with (go_at_call 15; refine (rMore_calls 0 _ _ _ _ (by decide) hl).mono ?_; rintro e w' ⟨rfl, rfl⟩)
  go_ret
  exact ⟨rfl, rfl⟩
end Go.Proofs.YtcfclhgilpajiaaDoor
