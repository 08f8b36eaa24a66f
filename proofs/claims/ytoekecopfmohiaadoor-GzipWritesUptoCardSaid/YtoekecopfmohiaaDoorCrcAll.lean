import Derived.Test.YtoekecopfmohiaaDoorBaseAll
/-
  The checksum: turn, More, Sum.
-/
namespace Go.Proofs.YtoekecopfmohiaaDoor
open Go.RowKit
/-- the table of half bytes -/
def tab : List Nat := [0, 498536548, 997073096, 651767980, 1994146192, 1802195444, 1303535960, 1342533948, 3988292384, 4027552580, 3604390888, 3412177804, 2607071920, 2262029012, 2685067896, 3183342108]
def Half (w : World) : Prop := ∀ j, j < 16 → w.cell? ⟨3, j, none⟩ = some (.int .u32 ((tab.getD j 0 : Nat) : Int))
theorem Half.below {w w1 : World} (h : Half w) (hb : Below w.heap.size w w1) : Half w1 := fun j hj => cell_below hb (h j hj)
def turnN (c : Nat) : Nat := (c / 16) ^^^ tab.getD (c % 16) 0
theorem tab_lt : ∀ j, j < 16 → tab.getD j 0 < 4294967296 := by decide
theorem turnN_lt (c : Nat) (h : c < 4294967296) : turnN c < 4294967296 :=
  Nat.xor_lt_two_pow (n := 32) (by omega) (tab_lt _ (Nat.mod_lt _ (by omega)))
theorem turn_calls (c : Nat) (w : World) (hc : c < 4294967296) (hg : Half w) :
    Calls Tryd.prog 72 #[.int .u32 c] w fun e w' => e = .returned (.int .u32 (turnN c : Nat)) ∧ w = w' := by
  have hm : c % 16 < 16 := Nat.mod_lt _ (by omega)
  have hb : bits .and .u32 (c : Int) 15 = ((c % 16 : Nat) : Int) := by
    have := u32_and_nat c 15 hc (by omega)
    rw [nat_mask4] at this
    exact this
  have h1 := hg (c % 16) hm
  have hx : bits .xor .u32 ((c : Int) / 16) ((tab.getD (c % 16) 0 : Nat) : Int) = ((turnN c : Nat) : Int) :=
    u32_xor_nat (c / 16) _ (by omega) (tab_lt _ hm)
  generalize hT : tab.getD (c % 16) 0 = T at h1 hx
  generalize turnN c = R at hx
  clear hT hg
  go_enter Tryd.func72, Tryd.ntmps72
  go_wp2
  go_ret
  exact ⟨rfl, rfl⟩
def byteN (c x : Nat) : Nat := turnN (turnN (c ^^^ x))
def moreN (c : Nat) (l : List Nat) : Nat := l.foldl byteN c
theorem byteN_lt (c x : Nat) (h : c < 4294967296) (hx : x < 256) : byteN c x < 4294967296 :=
  turnN_lt _ (turnN_lt _ (Nat.xor_lt_two_pow (n := 32) h (by omega)))
theorem moreN_lt (l : List Nat) : ∀ (c : Nat), c < 4294967296 → (∀ x ∈ l, x < 256) → moreN c l < 4294967296 := by
  induction l with
  | nil => intro c h _; exact h
  | cons a l ih => intro c h hl; exact ih _ (byteN_lt _ _ h (hl a (by simp))) (fun x hx => hl x (by simp [hx]))
theorem moreN_snoc (c : Nat) (l : List Nat) (k : Nat) (h : k < l.length) : moreN c (l.take (k + 1)) = byteN (moreN c (l.take k)) (l.getD k 0) := foldl_snoc _ _ _ _ h
def nt (s : Nat) : Nat := 4294967295 ^^^ s
theorem nt_lt (s : Nat) (h : s < 4294967296) : nt s < 4294967296 := Nat.xor_lt_two_pow (n := 32) (by omega) h
theorem nt_bits (s : Nat) (h : s < 4294967296) : bits .xor .u32 (IntKind.u32.max) (s : Int) = ((nt s : Nat) : Int) :=
  u32_xor_nat 4294967295 s (by omega) h
theorem x8_bits (c x : Nat) (h : c < 4294967296) (hx : x < 256) : bits .xor .u32 (c : Int) (x : Int) = ((c ^^^ x : Nat) : Int) := u32_xor_nat c x h (by omega)
theorem xor_lt (c x : Nat) (h : c < 4294967296) (hx : x < 4294967296) : c ^^^ x < 4294967296 := Nat.xor_lt_two_pow (n := 32) h hx
def moreS (s : Nat) (l : List Nat) : Nat := nt (moreN (nt s) l)
theorem moreS_lt (s : Nat) (l : List Nat) (h : s < 4294967296) (hl : ∀ x ∈ l, x < 256) : moreS s l < 4294967296 := nt_lt _ (moreN_lt _ _ (nt_lt _ h) hl)
set_option maxRecDepth 100000 in
set_option maxHeartbeats 1000000 in
theorem More_calls (s : Nat) (A : Option Addr) (l : List Nat) (c : Nat) (w : World) (hs : s < 4294967296) (hl : RB w A l) (hg : Half w) :
    Calls Tryd.prog 42 #[.int .u32 s, .slice A l.length c] w fun e w' => e = .returned (.int .u32 ((moreS s l : Nat) : Int)) ∧ w = w' := by
  obtain ⟨hb, hlen, hcell⟩ := hl
  have hn := nt_bits s hs
  have hn1 := nt_lt s hs
  generalize hS : nt s = S at hn hn1
  go_enter Tryd.func42, Tryd.ntmps42
  go_wp2
  clear hn
  have HS := Bx.mk hS; clear hS
  go_loop [5, 12] (fun v i => ∃ k : Nat, k ≤ l.length ∧ i = .int .i64 k ∧ v = .int .u32 ((moreN S (l.take k) : Nat) : Int)) (fun _ i => l.length - (intOf i).toNat)
  case atStart => exact ⟨0, Nat.zero_le _, rfl, rfl⟩
  case round =>
    obtain ⟨k, hk, rfl, rfl⟩ := hrel
    have hT := moreN_lt (l.take k) S hn1 (take_mem hb)
    by_cases hlt : k < l.length
    · have hsn := moreN_snoc S l k hlt
      have hx := mem_getD hlt hb
      obtain ⟨ad, rfl, hc⟩ := hcell (by omega)
      have hck := hc k hlt
      generalize hX : l.getD k 0 = X at hck hx hsn
      generalize moreN S (l.take k) = C at hT hsn ⊢
      have hx8 := x8_bits C X hT hx
      have hxl := xor_lt C X hT (by omega)
      have hbl := turnN_lt _ hxl
      have HSN := Bx.mk hsn; clear hsn
      have HG := Bx.mk hg; clear hc hX
      generalize hY : C ^^^ X = Y at hx8 hxl hbl
      have HY := Bx.mk hY; clear hY
      go_wp2_with (go_at_call 72; refine (turn_calls _ _ (by assumption) HG.out).mono ?_; rintro e w' ⟨rfl, rfl⟩)
      go_round
      case rel => exact ⟨k + 1, by omega, by go_num, by rw [HSN.out, byteN, HY.out]⟩
      case measure => simp [intOf]; omega
    · have hk' : k = l.length := by omega
      subst hk'
      have hn2 := nt_bits _ hT
      rw [List.take_length] at hn2 hT ⊢
      generalize hM : moreN S l = M at hn2 hT ⊢
      have HM := Bx.mk hM; clear hM
      go_wp2
      go_ret
      exact ⟨ret_nat (by rw [moreS, HS.out, HM.out]), rfl⟩
theorem Sum_calls (A : Option Addr) (l : List Nat) (c : Nat) (w : World) (hl : RB w A l) (hg : Half w) :
    Calls Tryd.prog 23 #[.slice A l.length c] w fun e w' => e = .returned (.int .u32 ((moreS 0 l : Nat) : Int)) ∧ w = w' := by
  go_enter Tryd.func23, Tryd.ntmps23
  go_wp2_with (go_at_call 42; refine (More_calls 0 _ _ _ _ (by decide) hl hg).mono ?_; rintro e w' ⟨rfl, rfl⟩)
  go_ret
  exact ⟨rfl, rfl⟩
end Go.Proofs.YtoekecopfmohiaaDoor
