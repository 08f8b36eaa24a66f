import Derived.Test.YtcamakleahpinaaBitsPure
/-
  The reference's Set.
-/
namespace Go.Proofs.Ytcamakleahpinaa
open Go.RowKit

theorem rSet_no (A : Option Addr) (l : List Nat) (c : Nat) (i : Int) (on : Bool) (w : World) (h1 : -9223372036854775808 ≤ i) (h2 : i ≤ 9223372036854775807) (h : okB l.length i = false) :
    Calls Try.prog 22 #[.slice A l.length c, .int .i64 i, .bool on] w fun e w' => e = .returned (.tuple #[.slice none 0 0, .int .i64 2]) ∧ w = w' := by
  by_cases h0 : i < 0
  · clear h
    go_enter Try.func22, Try.ntmps22
    go_wp2
    go_ret2
    exact ⟨rfl, rfl⟩
  · obtain ⟨m, rfl⟩ := Int.eq_ofNat_of_zero_le (show 0 ≤ i by omega)
    have h3 : l.length ≤ m / 8 := by have := okB_false h; omega
    clear h
    go_enter Try.func22, Try.ntmps22
    go_wp2
    go_ret2
    exact ⟨rfl, rfl⟩
theorem bit_room : ∀ X, X < 256 → ∀ r, r < 8 → (X / 2 ^ r % 2 = 1 → 2 ^ r ≤ X) ∧ (X / 2 ^ r % 2 = 0 → X + 2 ^ r < 256) := by decide +kernel
theorem set_same (l : List Nat) (k : Nat) : l.set k (l.getD k 0) = l := by
  apply List.ext_getElem?
  intro j
  rw [List.getElem?_set]
  split
  · next h => subst h; split
              · next h2 => rw [List.getD_eq_getElem?_getD, List.getElem?_eq_getElem h2]; rfl
              · next h2 => rw [List.getElem?_eq_none (by omega)]
  · rfl
/-- what Set sets, by the bit that was -/
theorem setN_by (l : List Nat) (i : Nat) (hb : ∀ x ∈ l, x < 256) (hi : i / 8 < l.length) :
    (bitB l i = false → setN l i true = l.set (i / 8) (l.getD (i / 8) 0 + 2 ^ (i % 8)) ∧ l.getD (i / 8) 0 + 2 ^ (i % 8) < 256) ∧ (bitB l i = true → setN l i true = l) ∧
    (bitB l i = true → setN l i false = l.set (i / 8) (l.getD (i / 8) 0 - 2 ^ (i % 8)) ∧ 2 ^ (i % 8) ≤ l.getD (i / 8) 0) ∧ (bitB l i = false → setN l i false = l) := by
  have hX := mem_getD hi hb
  have t := bit_room _ hX (i % 8) (Nat.mod_lt _ (by decide))
  have e1 : ∀ o, setN l i o = l.set (i / 8) (l.getD (i / 8) 0 - bitN l i * 2 ^ (i % 8) + if o then 2 ^ (i % 8) else 0) := fun _ => rfl
  have hs := set_same l (i / 8)
  have eb : bitB l i = decide (bitN l i = 1) := rfl
  have en : bitN l i = l.getD (i / 8) 0 / 2 ^ (i % 8) % 2 := rfl
  rw [e1, e1, eb]
  rw [← en] at t
  have h01 := bitN_01 l i
  generalize bitN l i = B at *
  generalize l.getD (i / 8) 0 = X at *
  generalize 2 ^ (i % 8) = M at *
  clear eb en
  refine ⟨fun h => ?_, fun h => ?_, fun h => ?_, fun h => ?_⟩
  · have h0 : B = 0 := by simp at h; omega
    subst h0
    refine ⟨by simp, t.2 rfl⟩
  · have h0 : B = 1 := by simpa using h
    subst h0
    have := t.1 rfl
    rw [if_pos rfl, show X - 1 * M + M = X by omega]; exact hs
  · have h0 : B = 1 := by simpa using h
    subst h0
    refine ⟨by simp, t.1 rfl⟩
  · have h0 : B = 0 := by simp at h; omega
    subst h0
    simpa using hs

set_option maxHeartbeats 1000000 in
theorem rSet_yes (A : Option Addr) (l : List Nat) (c : Nat) (i : Nat) (on : Bool) (w : World) (hl : RB w A l) (hi : i / 8 < l.length) :
    Calls Try.prog 22 #[.slice A l.length c, .int .i64 i, .bool on] w fun e w' => ∃ v, e = .returned (.tuple #[v, .int .i64 0]) ∧ OB w' w.heap.size v (setN l i on) ∧ Below w.heap.size w w' := by
  have hlen := hl.2.1
  have hX := mem_getD hi hl.1
  have hby := setN_by l i hl.1 hi
  have HBY := Bx.mk hby
  have HL0 := Bx.mk hl
  have HL := Bx.mk (hl.below (below_alloc1 w (.cells #[] 5)))
  clear hl hby
  have hr : i % 8 < 8 := Nat.mod_lt _ (by decide)
  have e2 : (i : Int) % 8 = ((i % 8 : Nat) : Int) := by omega
  generalize hR : i % 8 = R at hr e2 HBY
  clear hR
  go_enter Try.func22, Try.ntmps22
  go_wp2_with (at_builtin; refine wpList_append_bytes _ rfl _ _ rfl w.heap.size _ [] l rfl (own_empty w) A c rfl HL.out ?hl (by simp) ?_; (case hl => simp; omega); intro v' w' ho hg _)
  have hb : Below w.heap.size w w' := (below_alloc1 w _).grown hg (by simp) (fun k hk => own_block (own_empty w) k hk)
  obtain ⟨A1, c1, rfl⟩ := OB.form (show OB w' w.heap.size v' l from ho)
  obtain ⟨g, rfl, -, hbg, -, hcell, hfz⟩ := OB.opened (show OB w' w.heap.size _ l from ho) (by omega)
  have hck := hcell (i / 8) hi
  have hfk := hfz (i / 8)
  generalize l.getD (i / 8) 0 = X at *
  have HO : Bx (OB w' w.heap.size (.slice (some ⟨g, 0, none⟩) l.length c1) l) := ⟨ho⟩
  have HB := Bx.mk hb
  have HBG := Bx.mk hbg
  have HT := Bx.mk (rbit_calls A l c i w' (HL0.out.below hb) hi)
  have HCK := Bx.mk hck
  clear ho hb hbg hg hcell hfz hck
  go_loop [9, 10] (fun n i => ∃ k : Nat, k ≤ R ∧ i = .int .i64 k ∧ n = .int .i64 ((2 ^ k : Nat) : Int)) (fun _ i => R - (intOf i).toNat)
  case atStart => exact ⟨0, Nat.zero_le _, rfl, rfl⟩
  case round =>
    obtain ⟨k, hk, rfl, rfl⟩ := hrel
    have hM : 2 ^ k ≤ 128 := Nat.le_trans (Nat.pow_le_pow_right (by decide) (show k ≤ 7 by omega)) (by decide)
    by_cases hlt : k < R
    · have hd : 2 ^ (k + 1) = 2 ^ k * 2 := Nat.pow_succ ..
      have HD := Bx.mk hd
      clear hd
      generalize 2 ^ k = M at HD hM ⊢
      go_wp2
      go_round
      case rel => exact ⟨k + 1, by omega, by go_num, by rw [HD.out]; go_num⟩
      case measure => simp [intOf]; omega
    · obtain rfl : k = R := by omega
      generalize 2 ^ k = M at HBY hM ⊢
      obtain ⟨y1, y2, y3, y4⟩ := HBY.out
      clear HBY
      have hck := HCK.out
      generalize bitB l i = b at *
      cases on with
      | false =>
        cases b with
        | true =>
          obtain ⟨z, hz⟩ := y3 rfl
          have Z := Bx.mk z
          have HP := Bx.mk (HO.out.put (i / 8) (X - M))
          have hv : IntKind.u8.wrap ((X : Int) - (M : Int)) = ((X - M : Nat) : Int) := by rw [IntKind.wrap_u8]; omega
          clear y1 y2 y3 y4 z
          go_wp2_with fail
          refine HT.out.mono ?_
          rintro e w1 ⟨rfl, rfl⟩
          go_wp2
          go_ret2
          exact ⟨_, rfl, by rw [Z.out]; exact HP.out, HB.out.setCell HBG.out _⟩
        | false =>
          have Z := Bx.mk (y4 rfl)
          clear y1 y2 y3 y4
          go_wp2_with fail
          refine HT.out.mono ?_
          rintro e w1 ⟨rfl, rfl⟩
          go_wp2
          go_ret2
          exact ⟨_, rfl, by rw [Z.out]; exact HO.out, HB.out⟩
      | true =>
        cases b with
        | false =>
          obtain ⟨z, hz⟩ := y1 rfl
          have Z := Bx.mk z
          have HP := Bx.mk (HO.out.put (i / 8) (X + M))
          have hv : IntKind.u8.wrap ((X : Int) + (M : Int)) = ((X + M : Nat) : Int) := by rw [IntKind.wrap_u8]; omega
          clear y1 y2 y3 y4 z
          go_wp2_with fail
          refine HT.out.mono ?_
          rintro e w1 ⟨rfl, rfl⟩
          go_wp2
          go_ret2
          exact ⟨_, rfl, by rw [Z.out]; exact HP.out, HB.out.setCell HBG.out _⟩
        | true =>
          have Z := Bx.mk (y2 rfl)
          clear y1 y2 y3 y4
          go_wp2_with fail
          refine HT.out.mono ?_
          rintro e w1 ⟨rfl, rfl⟩
          go_wp2
          go_ret2
          exact ⟨_, rfl, by rw [Z.out]; exact HO.out, HB.out⟩

theorem Has_any (l : List Nat) (i : Int) (h1 : -9223372036854775808 ≤ i) (h2 : i ≤ 9223372036854775807) : ∃ (B : Bool) (E : Nat), (∀ A c w, RB w A l → Calls Try.prog 17 #[.slice A l.length c, .int .i64 i] w fun e w' => e = .returned (.tuple #[.bool B, .int .i64 (E : Int)]) ∧ ∃ k, w' = w.drewN k) ∧
    (∀ A c w, RB w A l → Calls Try.prog 20 #[.slice A l.length c, .int .i64 i] w fun e w' => e = .returned (.tuple #[.bool B, .int .i64 (E : Int)]) ∧ w = w') := by
  cases h : okB l.length i with
  | false => exact ⟨false, 2, fun A c w _ => Has_no A l c i w h1 h2 h, fun A c w _ => rHas_no A l c i w h1 h2 h⟩
  | true =>
    have h3 : 0 ≤ i ∧ i / 8 < l.length := by unfold okB at h; simpa using h
    obtain ⟨m, rfl⟩ := Int.eq_ofNat_of_zero_le h3.1
    have h4 : m / 8 < l.length := by omega
    exact ⟨bitB l m, 0, fun A c w hl => Has_yes A l c m w hl h4, fun A c w hl => rHas_yes A l c m w hl h4⟩
theorem Set_any (l : List Nat) (i : Int) (on : Bool) (hb : ∀ x ∈ l, x < 256) (h1 : -9223372036854775808 ≤ i) (h2 : i ≤ 9223372036854775807) : ∃ (zs : List Nat) (E : Nat), (∀ x ∈ zs, x < 256) ∧ zs.length ≤ l.length ∧
    (∀ A c w, RB w A l → Calls Try.prog 21 #[.slice A l.length c, .int .i64 i, .bool on] w fun e w' => ∃ v, e = .returned (.tuple #[v, .int .i64 (E : Int)]) ∧ OB w' w.heap.size v zs ∧ Below w.heap.size w w') ∧
    (∀ A c w, RB w A l → Calls Try.prog 22 #[.slice A l.length c, .int .i64 i, .bool on] w fun e w' => ∃ v, e = .returned (.tuple #[v, .int .i64 (E : Int)]) ∧ OB w' w.heap.size v zs ∧ Below w.heap.size w w') := by
  cases h : okB l.length i with
  | false =>
    exact ⟨[], 2, by simp, by simp, fun A c w _ => (Set_no A l c i on w h1 h2 h).mono fun e w' ⟨he, hw⟩ => ⟨_, he, own_nil _ _, hw⟩,
      fun A c w _ => (rSet_no A l c i on w h1 h2 h).mono fun e w' ⟨he, hw⟩ => ⟨_, he, own_nil _ _, by rw [← hw]; exact Below.refl _ _⟩⟩
  | true =>
    have h3 : 0 ≤ i ∧ i / 8 < l.length := by unfold okB at h; simpa using h
    obtain ⟨m, rfl⟩ := Int.eq_ofNat_of_zero_le h3.1
    have h4 : m / 8 < l.length := by omega
    exact ⟨setN l m on, 0, setN_lt l m on hb h4, by rw [setN_length]; exact Nat.le_refl _, fun A c w hl => Set_yes A l c m on w hl h4, fun A c w hl => rSet_yes A l c m on w hl h4⟩
end Go.Proofs.Ytcamakleahpinaa
