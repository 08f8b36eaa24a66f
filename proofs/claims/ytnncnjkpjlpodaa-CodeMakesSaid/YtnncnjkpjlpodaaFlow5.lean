import Derived.Test.YtnncnjkpjlpodaaFlow4
import Derived.WalkSpells
/-
  The writer of bits: Put, Code, Len, All.
-/
namespace Go.Proofs.Ytnncnjkpjlpodaa
open Go.RowKit

theorem Clone_calls (A : Option Addr) (l : List Nat) (c : Nat) (w : World) (hl : RB w A l) :
    Calls Try.prog 61 #[.slice A l.length c] w fun e w' => ∃ v, e = .returned v ∧ OB w' w.heap.size v l ∧ Below w.heap.size w w' := by
  have hl1 := hl.2.1
  have HL := Bx.mk (hl.below (below_alloc1 w (.cells #[] 5)))
  have hx := fun W a n c => Lib.run_eql_slice_nil (P := Try.prog) W 26 5 a n c 0 0 Try.underlying26
  cases A with
  | none =>
    have h0 : l = [] := by
      rcases l with _ | ⟨x, l⟩
      · rfl
      · obtain ⟨ad, h, _⟩ := hl.2.2 (by simp)
        cases h
    subst h0
    clear hl hl1 HL
    go_enter Try.func61, Try.ntmps61
    go_wp2
    go_ret
    exact ⟨_, rfl, own_nil _ _, Below.refl _ _⟩
  | some ad =>
    clear hl
    go_enter Try.func61, Try.ntmps61
    go_wp2_with (at_builtin; refine wpList_append_bytes _ rfl _ _ rfl w.heap.size _ [] l rfl (own_empty w) (some ad) c rfl HL.out ?hl (by simp) ?_; (case hl => simp; omega); intro v' w' ho hg _)
    go_ret
    exact ⟨_, rfl, ho, (below_alloc1 w _).grown hg (by simp) (fun k hk => own_block (own_empty w) k hk)⟩

theorem eachV_up (n : Nat) : ∀ k, eachV n (fun i => (i : Int)) k = n % 2 ^ k
  | 0 => by simp [eachV, Nat.mod_one]
  | k + 1 => by
    show eachV n (fun i => (i : Int)) k + n / 2 ^ ((k : Nat) : Int).toNat % 2 * 2 ^ k = _
    rw [eachV_up n k, Nat.pow_succ, Nat.mod_mul, Int.toNat_natCast, Nat.mul_comm]
/-- the bits of n, the highest first -/
def revN (n k : Nat) : Nat := eachV n (fun i => (k : Int) - 1 + i * (-1)) k
theorem eachV_lt (n : Nat) (G : Nat → Int) : ∀ k, eachV n G k < 2 ^ k
  | 0 => by simp [eachV]
  | k + 1 => by
    have ih := eachV_lt n G k
    have h : n / 2 ^ (G k).toNat % 2 * 2 ^ k ≤ 1 * 2 ^ k := Nat.mul_le_mul_right _ (by omega)
    simp only [eachV]
    rw [Nat.pow_succ]; omega
theorem two24 {b : Nat} (hb : b ≤ 24) : 2 ^ b ≤ 16777216 := Nat.le_trans (Nat.pow_le_pow_right (by decide) hb) (by decide)

theorem Put_yes (g : Nat) (v : Value) (N a n b : Nat) (w : World) (h : Wr w g v N a) (hb : b ≤ 24) (hn : n < 2 ^ b) (ha : a ≤ 1125899906809000) :
    Calls Try.prog 17 #[.pointer (some ⟨g, 0, none⟩), .int .i64 (n : Int), .int .i64 (b : Int)] w fun e w' =>
      e = .returned (.int .i64 0) ∧ ∃ v', Wr w' g v' (N + 2 ^ a * n) (a + b) ∧ WStep g v w v' w' := by
  have L := Bx.mk (look_yes g _ _ n b w h.blk hb hn)
  have h24 := two24 hb
  have e := each_calls g v N a n (fun i => (i : Int)) 1 b w h (by omega) hb (by omega) (.inl rfl) (fun i => by simp) (fun i hi => by omega)
  rw [eachV_up, Nat.mod_eq_of_lt hn] at e
  have E := Bx.mk e
  clear e h hn h24
  go_enter Try.func17, Try.ntmps17
  go_wp2_with fail
  refine L.out.mono ?_
  rintro e w1 ⟨rfl, rfl⟩
  go_wp2_with fail
  refine E.out.mono ?_
  rintro e w1 ⟨rfl, v1, hw, hs⟩
  have HW := Bx.mk hw
  have HS := Bx.mk hs
  clear hw hs
  go_wp2
  go_ret
  exact ⟨rfl, v1, HW.out, HS.out⟩
theorem Put_no (g : Nat) (v u : Value) (n b : Int) (w : World) (h : Blk w g 61 #[v, u, .bool true]) (hn : ¬ Goes n b) (hi : n ≤ 9223372036854775807) :
    Calls Try.prog 17 #[.pointer (some ⟨g, 0, none⟩), .int .i64 n, .int .i64 b] w fun e w' => e = .returned (.int .i64 2) ∧ w = w' := by
  have L := Bx.mk (look_no g _ _ n b w h hn hi)
  clear h hn
  go_enter Try.func17, Try.ntmps17
  go_wp2_with fail
  refine L.out.mono ?_
  rintro e w1 ⟨rfl, rfl⟩
  go_wp2
  go_ret
  exact ⟨rfl, rfl⟩
theorem Code_yes (g : Nat) (v : Value) (N a n b : Nat) (w : World) (h : Wr w g v N a) (hb : b ≤ 24) (hn : n < 2 ^ b) (ha : a ≤ 1125899906809000) :
    Calls Try.prog 18 #[.pointer (some ⟨g, 0, none⟩), .int .i64 (n : Int), .int .i64 (b : Int)] w fun e w' =>
      e = .returned (.int .i64 0) ∧ ∃ v', Wr w' g v' (N + 2 ^ a * revN n b) (a + b) ∧ WStep g v w v' w' := by
  have L := Bx.mk (look_yes g _ _ n b w h.blk hb hn)
  have h24 := two24 hb
  have e := each_calls g v N a n (fun i => (b : Int) - 1 + i * (-1)) (-1) b w h (by omega) hb (by omega) (.inr rfl) (fun i => by omega) (fun i hi => by omega)
  rw [show eachV n (fun i => (b : Int) - 1 + i * (-1)) b = revN n b from rfl] at e
  simp only [Int.natCast_zero, Int.zero_mul, Int.add_zero] at e
  have E := Bx.mk e
  generalize revN n b = V at E ⊢
  clear e h hn h24
  go_enter Try.func18, Try.ntmps18
  go_wp2_with fail
  refine L.out.mono ?_
  rintro e w1 ⟨rfl, rfl⟩
  go_wp2_with fail
  refine E.out.mono ?_
  rintro e w1 ⟨rfl, v1, hw, hs⟩
  have HW := Bx.mk hw
  have HS := Bx.mk hs
  clear hw hs
  go_wp2
  go_ret
  exact ⟨rfl, v1, HW.out, HS.out⟩
theorem Code_no (g : Nat) (v u : Value) (n b : Int) (w : World) (h : Blk w g 61 #[v, u, .bool true]) (hn : ¬ Goes n b) (hi : n ≤ 9223372036854775807) :
    Calls Try.prog 18 #[.pointer (some ⟨g, 0, none⟩), .int .i64 n, .int .i64 b] w fun e w' => e = .returned (.int .i64 2) ∧ w = w' := by
  have L := Bx.mk (look_no g _ _ n b w h hn hi)
  clear h hn
  go_enter Try.func18, Try.ntmps18
  go_wp2_with fail
  refine L.out.mono ?_
  rintro e w1 ⟨rfl, rfl⟩
  go_wp2
  go_ret
  exact ⟨rfl, rfl⟩
theorem wLen_calls (g : Nat) (v : Value) (a : Nat) (w : World) (h : Blk w g 61 #[v, .int .i64 (a : Int), .bool true]) :
    Calls Try.prog 23 #[.pointer (some ⟨g, 0, none⟩)] w fun e w' => e = .returned (.int .i64 (a : Int)) ∧ w = w' := by
  have h1 : w.cell? ⟨g, 1, none⟩ = some (.int .i64 (a : Int)) := h.cell 1
  have H := Bx.mk (wIs_calls g _ _ true w h)
  clear h
  go_enter Try.func23, Try.ntmps23
  go_wp2_with fail
  refine H.out.mono ?_
  rintro e w1 ⟨rfl, rfl⟩
  go_wp2
  go_ret
  exact ⟨rfl, rfl⟩
theorem wAll_calls (g : Nat) (v : Value) (N a : Nat) (w : World) (h : Wr w g v N a) (ha : a ≤ 1125899906809856) :
    Calls Try.prog 20 #[.pointer (some ⟨g, 0, none⟩)] w fun e w' => ∃ l v', Bts l N a ∧ e = .returned v' ∧ OB w' w.heap.size v' l ∧ Below w.heap.size w w' := by
  obtain ⟨hb, l, hB, hO⟩ := h
  obtain ⟨A, c, rfl⟩ := hO.form
  have h0 : w.cell? ⟨g, 0, none⟩ = some (.slice A l.length c) := hb.cell 0
  have H := Bx.mk (wIs_calls g _ _ true w hb)
  have C := Bx.mk (Clone_calls A l c w (hO.rb hB.byte (by have := hB.len; omega)))
  have HB := Bx.mk hB
  clear hb hB hO
  go_enter Try.func20, Try.ntmps20
  go_wp2_with fail
  refine H.out.mono ?_
  rintro e w1 ⟨rfl, rfl⟩
  go_wp2_with fail
  refine C.out.mono ?_
  rintro e w1 ⟨v1, rfl, ho, hbl⟩
  have HO := Bx.mk ho
  have HBL := Bx.mk hbl
  clear ho hbl
  go_wp2
  go_ret
  exact ⟨l, v1, HB.out, rfl, HO.out, HBL.out⟩
end Go.Proofs.Ytnncnjkpjlpodaa
