import Derived.Test.YtnncnjkpjlpodaaCodeRef1
/-
  The reference: Check.
-/
namespace Go.Proofs.Ytnncnjkpjlpodaa
open Go.RowKit

def badI (l : List Int) : Prop := 32768 < krI l ∨ (krI l < 32768 ∧ (1 < nz l ∨ nz l ≠ n1 l))
instance (l : List Int) : Decidable (badI l) := by unfold badI; exact inferInstance
def checkV (l : List Int) : Nat := if 288 < l.length ∨ l.any oddB = true ∨ badI l then 100 else 0
theorem checkV_yes {L : List Nat} (h : okL L) : checkV (zl L) = 0 := by
  unfold checkV
  rw [if_neg]
  rintro (h1 | h1 | h1)
  · rw [zl_length] at h1; have := h.1; omega
  · rw [List.any_eq_true] at h1
    obtain ⟨x, hx, hx2⟩ := h1
    obtain ⟨y, hy, rfl⟩ := List.mem_map.1 hx
    have := h.2.1 y hy
    unfold oddB at hx2; simp at hx2; omega
  · unfold badI at h1
    rw [krI_zl] at h1
    have hg := h.2.2
    rcases h1 with h1 | ⟨h1, h2⟩
    · have := hg.1; omega
    · rcases hg.2 with h3 | h3
      · omega
      · exact absurd h2 ((oneC_iff L h.2.1).1 h3)
theorem checkV_no {l : List Int} (h : ¬ ∃ L, l = zl L ∧ okL L) : checkV l = 100 := by
  unfold checkV
  by_cases h1 : 288 < l.length
  · rw [if_pos (.inl h1)]
  · by_cases h2 : l.any oddB = true
    · rw [if_pos (.inr (.inl h2))]
    · refine if_pos (.inr (.inr ?_))
      have h3 : l.any oddB = false := by
        cases hc : l.any oddB
        · rfl
        · exact absurd hc h2
      have h4 : ∀ x ∈ l, 0 ≤ x ∧ x ≤ 15 := fun x hx => by
        rw [List.any_eq_false] at h3
        have := h3 x hx
        unfold oddB at this
        simp at this
        omega
      have e : l = zl (l.map Int.toNat) := by
        unfold zl
        rw [List.map_map]
        conv => lhs; rw [← List.map_id l]
        refine List.map_congr_left fun x hx => ?_
        have := (h4 x hx).1
        simp only [id, Function.comp]
        omega
      have h15 : ∀ x ∈ l.map Int.toNat, x ≤ 15 := fun x hx => by
        obtain ⟨y, hy, rfl⟩ := List.mem_map.1 hx
        have := h4 y hy
        omega
      generalize l.map Int.toNat = L at e h15
      subst e
      rw [zl_length] at h1
      have h5 : ¬ goodC L := fun hg => h ⟨L, rfl, by omega, h15, hg⟩
      unfold badI
      rw [krI_zl]
      by_cases hk : 32768 < kr L
      · exact .inl hk
      · refine .inr ⟨?_, ?_⟩
        · rcases Nat.lt_or_ge (kr L) 32768 with h6 | h6
          · exact h6
          · exact absurd ⟨by omega, .inl (by omega)⟩ h5
        · by_cases h7 : 1 < nz (zl L) ∨ nz (zl L) ≠ n1 (zl L)
          · exact h7
          · exact absurd ⟨by omega, .inr ((oneC_iff L h15).2 h7)⟩ h5
set_option maxRecDepth 1000000 in
set_option maxHeartbeats 4000000 in
theorem yCheck_calls (A : Option Addr) (l : List Int) (c : Nat) (w : World) (hl : IR w A l) (hn : l.length * 8 ≤ 140737488351232) :
    Calls Try.prog 46 #[.slice A l.length c] w fun e w' => e = .returned (.int .i64 (checkV l : Int)) ∧ w = w' := by
  have HL := Bx.mk hl
  have RM := Bx.mk (yRoom_calls A l c w hl hn)
  obtain ⟨V, hV⟩ : ∃ V, V = checkV l := ⟨_, rfl⟩
  rw [← hV]
  have HV := Bx.mk hV
  clear hl hV
  by_cases h288 : 288 < l.length
  · have hv : V = 100 := by rw [HV.out]; unfold checkV; rw [if_pos (.inl h288)]
    subst hv
    go_enter Try.func46, Try.ntmps46
    go_wp2
    go_ret
    exact ⟨rfl, rfl⟩
  · go_enter Try.func46, Try.ntmps46
    go_wp2
    go_loop [3, 4, 5] (fun s3 s4 i => ∃ k : Nat, k ≤ l.length ∧ i = .int .i64 (k : Nat) ∧ s3 = .int .i64 (nz (l.take k) : Int) ∧ s4 = .int .i64 (n1 (l.take k) : Int) ∧ nz (l.take k) ≤ k ∧ n1 (l.take k) ≤ k ∧ Bx ((l.take k).any oddB = false)) (fun _ _ i => l.length - (intOf i).toNat)
    case atStart => exact ⟨0, Nat.zero_le _, rfl, rfl, rfl, Nat.le_refl _, Nat.le_refl _, ⟨rfl⟩⟩
    case round =>
      obtain ⟨k, hk, rfl, rfl, rfl, hb1, hb2, HK⟩ := hrel
      by_cases hlt : k < l.length
      · obtain ⟨ad, rfl, hd⟩ := HL.out (by omega)
        have hg := hd k hlt
        have hs1 := snoc_filter (fun x => decide (0 < x)) l k hlt
        have hs2 := snoc_filter (fun x => decide (x = 1)) l k hlt
        have hs : (l.take (k + 1)).any oddB = oddB (l.getD k 0) := by
          rw [List.take_succ_eq_append_getElem hlt, List.any_append, HK.out, List.getD_eq_getElem?_getD, List.getElem?_eq_getElem hlt]
          simp
        have hm : oddB (l.getD k 0) = true → l.any oddB = true := fun h => by
          rw [← List.take_append_drop (k + 1) l, List.any_append, hs, h]; rfl
        have HS1 : Bx (nz (l.take (k + 1)) = nz (l.take k) + if decide (0 < l.getD k 0) then 1 else 0) := ⟨hs1⟩
        have HS2 : Bx (n1 (l.take (k + 1)) = n1 (l.take k) + if decide (l.getD k 0 = 1) then 1 else 0) := ⟨hs2⟩
        have HS := Bx.mk hs
        have HM := Bx.mk hm
        clear hd hs hm hs1 hs2
        generalize l.getD k 0 = x at *
        generalize nz (l.take k) = N at *
        generalize n1 (l.take k) = M at *
        by_cases hodd : x < 0 ∨ 15 < x
        · have ho : oddB x = true := by unfold oddB; simpa using hodd
          have hv : V = 100 := by rw [HV.out]; unfold checkV; rw [if_pos (.inr (.inl (HM.out ho)))]
          subst hv
          clear ho HS HM HS1 HS2
          by_cases h0 : x < 0
          · clear hodd
            go_wp2
            go_ret
            exact ⟨rfl, rfl⟩
          · have h1 : 15 < x := by omega
            clear hodd
            go_wp2
            go_ret
            exact ⟨rfl, rfl⟩
        · have ho : oddB x = false := by unfold oddB; simpa using hodd
          rw [ho] at HS
          have hx0 : ¬ x < 0 := by omega
          have hx15 : ¬ 15 < x := by omega
          clear ho HM hodd
          obtain rfl | rfl | hx2 : x = 0 ∨ x = 1 ∨ 1 < x := by omega
          · have HN : Bx (nz (l.take (k + 1)) = N) := ⟨by rw [HS1.out]; simp⟩
            have HN2 : Bx (n1 (l.take (k + 1)) = M) := ⟨by rw [HS2.out]; simp⟩
            clear HS1 HS2 hx0 hx15
            go_wp2
            go_round
            case rel => exact ⟨k + 1, by omega, by go_num, by rw [HN.out], by rw [HN2.out], by rw [HN.out]; omega, by rw [HN2.out]; omega, HS⟩
            case measure => simp [intOf]; omega
          · have HN : Bx (nz (l.take (k + 1)) = N + 1) := ⟨by rw [HS1.out]; simp⟩
            have HN2 : Bx (n1 (l.take (k + 1)) = M + 1) := ⟨by rw [HS2.out]; simp⟩
            clear HS1 HS2 hx0 hx15
            go_wp2
            go_round
            case rel => exact ⟨k + 1, by omega, by go_num, by rw [HN.out]; go_num, by rw [HN2.out]; go_num, by rw [HN.out]; omega, by rw [HN2.out]; omega, HS⟩
            case measure => simp [intOf]; omega
          · have HN : Bx (nz (l.take (k + 1)) = N + 1) := ⟨by rw [HS1.out]; simp; omega⟩
            have HN2 : Bx (n1 (l.take (k + 1)) = M) := ⟨by rw [HS2.out]; simp; omega⟩
            have hne : (x == 1) = false := beq_false_of_ne (by omega)
            clear HS1 HS2 hx0
            go_wp2
            go_round
            case rel => exact ⟨k + 1, by omega, by go_num, by rw [HN.out]; go_num, by rw [HN2.out], by rw [HN.out]; omega, by rw [HN2.out]; omega, HS⟩
            case measure => simp [intOf]; omega
      · have hall : l.take k = l := List.take_of_length_le (by omega)
        rw [hall] at hb1 hb2 HK ⊢
        have hv1 : (32768 < krI l ∨ (krI l < 32768 ∧ (1 < nz l ∨ nz l ≠ n1 l))) → V = 100 := fun hb => by
          rw [HV.out]; unfold checkV; rw [if_pos (.inr (.inr hb))]
        have hv2 : ¬ (32768 < krI l ∨ (krI l < 32768 ∧ (1 < nz l ∨ nz l ≠ n1 l))) → V = 0 := fun hb => by
          rw [HV.out]; unfold checkV; rw [if_neg (fun h => h.elim h288 (fun h => h.elim (fun h => by rw [HK.out] at h; cases h) hb))]
        have hkr := krI_le l
        have HV1 := Bx.mk hv1
        have HV2 := Bx.mk hv2
        clear hall hv1 hv2 HV HK
        generalize krI l = K at *
        generalize nz l = N at *
        generalize n1 l = M at *
        go_wp2_with fail
        refine RM.out.mono ?_
        rintro e w1 ⟨rfl, rfl⟩
        by_cases h1 : 32768 < K
        · have hv : V = 100 := HV1.out (.inl h1)
          subst hv
          clear HV1 HV2
          go_wp2
          go_ret
          exact ⟨rfl, rfl⟩
        · by_cases h2 : K < 32768
          · by_cases h3 : 1 < N
            · have hv : V = 100 := HV1.out (.inr ⟨h2, .inl h3⟩)
              subst hv
              clear HV1 HV2
              go_wp2
              go_ret
              exact ⟨rfl, rfl⟩
            · by_cases h4 : N = M
              · have hv : V = 0 := HV2.out (by omega)
                subst hv
                subst h4
                clear HV1 HV2
                go_wp2
                go_ret
                exact ⟨rfl, rfl⟩
              · have hv : V = 100 := HV1.out (.inr ⟨h2, .inr h4⟩)
                subst hv
                have hne : ((N : Int) != (M : Int)) = true := by rw [bne_iff_ne]; omega
                clear HV1 HV2 h4
                go_wp2
                go_ret
                exact ⟨rfl, rfl⟩
          · have hv : V = 0 := HV2.out (by omega)
            obtain rfl : K = 32768 := by omega
            subst hv
            clear HV1 HV2
            go_wp2
            go_ret
            exact ⟨rfl, rfl⟩
end Go.Proofs.Ytnncnjkpjlpodaa
