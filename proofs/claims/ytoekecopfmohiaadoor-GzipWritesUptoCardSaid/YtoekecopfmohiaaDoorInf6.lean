import Derived.Test.YtoekecopfmohiaaDoorInf5
/-
  The inflater: coded.
-/
namespace Go.Proofs.YtoekecopfmohiaaDoor
open Go.RowKit

theorem zl_inj' {L M : List Nat} (h : zl L = zl M) : L = M := by
  have := congrArg (List.map Int.toNat) h
  unfold zl at this
  simpa [List.map_map, Function.comp_def] using this
theorem okL_has {w : World} {g : Nat} {O Ln : Value} {L : List Nat} (h : okL L) (hc : Cd w g O Ln L) : HasC w (.pointer (some ⟨g, 0, none⟩)) L := ⟨h.1, h.2.2.1, g, O, Ln, rfl, hc⟩
set_option maxHeartbeats 1000000 in
theorem coded_calls (w0 : World) (x r : Nat) (A : Option Addr) (l : List Nat) (c m : Nat) (v : Value) (L : List Nat) (R : Except Nat SS) (w : World) (h : At w0 x r A l c m R w)
    (hv : okR R = true → ∃ A' c', v = .slice A' L.length c' ∧ IR w A' (zl L) ∧ L.length ≤ 1000) :
    Calls Tryd.prog 90 #[.pointer (some ⟨x, 0, none⟩), v] w fun e w' => ∃ p, e = .returned p ∧ At w0 x r A l c m (run (chk 110 (okL L)) () R).2 w' ∧ IStep w w' ∧
      (okR (run (chk 110 (okL L)) () R).2 = true → HasC w' p L) := by
  cases R with
  | error e =>
    obtain ⟨h3, hne, -, -⟩ := h.no
    have H := Bx.mk h
    have HR : Bx ((run (chk 110 (okL L)) () (.error e)).2 = .error e) := ⟨rfl⟩
    rw [HR.out]
    clear h hv
    go_enter Tryd.func90, Tryd.ntmps90
    go_wp2
    go_ret
    exact ⟨_, rfl, H.out, IStep.refl _, fun hc => by cases hc⟩
  | ok s =>
    obtain ⟨A', c', rfl, hi, hl⟩ := hv rfl
    have h3 : w.cell? ⟨x, 3, none⟩ = some (.int .i64 ((0 : Nat) : Int)) := by obtain ⟨O, I⟩ := h; exact I.xb.cell 3
    have H := Bx.mk h
    by_cases hok : okL L
    · have HR : Bx ((run (chk 110 (okL L)) () (.ok s)).2 = .ok s) := ⟨by unfold run chk; simp only; rw [if_pos hok]⟩
      rw [HR.out]
      have NC := Bx.mk (CNew_yes A' L c' w hi hok)
      have F1 := Bx.mk (fun W hW => fail_bool w0 x r A l c m 110 (by decide) false (chk 110 (okL L)) (.ok s) W hW (fun s' _ => by unfold chk; rw [if_pos hok]; simp))
      rw [HR.out] at F1
      have HOK := Bx.mk hok
      clear h hv hi hok
      go_enter Tryd.func90, Tryd.ntmps90
      go_wp2_with (go_at_call 52; fail)
      refine NC.out.mono ?_
      rintro e w1 ⟨g, O, Ln, rfl, -, hc, hb⟩
      have A1 := Bx.mk (H.out.below hb)
      have S1 := Bx.mk (IStep.below hb)
      have HC := Bx.mk hc
      clear hc hb H NC h3
      go_wp2_with (go_at_call 58; fail)
      refine (F1.out w1 A1.out).mono ?_
      rintro e w2 ⟨rfl, ha2, hs2⟩
      have A2 := Bx.mk ha2
      have S2 := Bx.mk (S1.out.trans hs2)
      have HC2 := Bx.mk (okL_has HOK.out (HC.out.istep hs2))
      clear ha2 hs2 F1
      go_wp2
      go_ret
      exact ⟨_, rfl, A2.out, S2.out, fun _ => HC2.out⟩
    · have HR : Bx ((run (chk 110 (okL L)) () (.ok s)).2 = .error 110) := ⟨by unfold run chk; simp only; rw [if_neg hok]⟩
      rw [HR.out]
      have NC := CNew_no A' (zl L) c' w hi (by rw [zl_length]; omega) (fun ⟨M, hM, hk⟩ => hok (by rw [zl_inj' hM]; exact hk))
      rw [zl_length] at NC
      have NC := Bx.mk NC
      have F1 := Bx.mk (fun W hW => fail_bool w0 x r A l c m 110 (by decide) true (chk 110 (okL L)) (.ok s) W hW (fun s' _ => by unfold chk; rw [if_neg hok]; simp))
      rw [HR.out] at F1
      clear h hv hi hok
      go_enter Tryd.func90, Tryd.ntmps90
      go_wp2_with (go_at_call 52; fail)
      refine NC.out.mono ?_
      rintro e w1 ⟨rfl, hb⟩
      have A1 := Bx.mk (H.out.below hb)
      have S1 := Bx.mk (IStep.below hb)
      clear hb H h3
      go_wp2_with (go_at_call 58; fail)
      refine (F1.out w1 A1.out).mono ?_
      rintro e w2 ⟨rfl, ha2, hs2⟩
      have A2 := Bx.mk ha2
      have S2 := Bx.mk (S1.out.trans hs2)
      clear ha2 hs2 F1
      go_wp2
      go_ret
      exact ⟨_, rfl, A2.out, S2.out, fun hc => by cases hc⟩
end Go.Proofs.YtoekecopfmohiaaDoor
