import Derived.Test.YtoekecopfmohiaaDoorInf1
/-
  The inflater: symbol, room.
-/
namespace Go.Proofs.YtoekecopfmohiaaDoor
open Go.RowKit

/-- a code that may be read -/
def HasC (w : World) (p : Value) (L : List Nat) : Prop := L.length ≤ 288 ∧ kr L ≤ 32768 ∧ ∃ g O Ln, p = .pointer (some ⟨g, 0, none⟩) ∧ Cd w g O Ln L
theorem HasC.istep {w w' : World} {p : Value} {L : List Nat} (h : HasC w p L) (hs : IStep w w') : HasC w' p L := by
  obtain ⟨h1, h2, g, O, Ln, rfl, hc⟩ := h
  exact ⟨h1, h2, g, O, Ln, rfl, hc.istep hs⟩
theorem rdS_none (L l : List Nat) : ∀ k n got a, (rdS L l k n got a).2.1 ≠ 0 → (rdS L l k n got a).1 = 0
  | 0, n, got, a, h => rfl
  | k + 1, n, got, a, h => by
    simp only [rdS] at h ⊢
    split at h
    · rename_i h1
      rw [if_pos h1]
      split at h
      · exact absurd rfl h
      · rename_i h2
        rw [if_neg h2]; exact rdS_none L l k _ _ _ h
    · rename_i h1
      rw [if_neg h1]
theorem sym_run (L l : List Nat) (a : Nat) (out : List Nat) : (run (symP l L) 0 (.ok (a, out))).1 = (rdC L l a).1 ∧ (run (symP l L) 0 (.ok (a, out))).2 = if (rdC L l a).2.1 = 0 then .ok ((rdC L l a).2.2, out) else .error (rdC L l a).2.1 := by
  by_cases h : (rdC L l a).2.1 = 0
  · unfold run symP; simp only; rw [if_pos h, if_pos h]; exact ⟨rfl, rfl⟩
  · unfold run symP; simp only; rw [if_neg h, if_neg h]; exact ⟨(rdS_none L l _ _ _ _ h).symm, rfl⟩
set_option maxHeartbeats 1000000 in
theorem symbol_calls (w0 : World) (x r : Nat) (A : Option Addr) (l : List Nat) (c m : Nat) (p : Value) (L : List Nat) (R : Except Nat SS) (w : World) (h : At w0 x r A l c m R w) (hp : okR R = true → HasC w p L) :
    Calls Tryd.prog 91 #[.pointer (some ⟨x, 0, none⟩), p] w fun e w' =>
      e = .returned (.int .i64 ((run (symP l L) 0 R).1 : Int)) ∧ At w0 x r A l c m (run (symP l L) 0 R).2 w' ∧ IStep w w' := by
  cases R with
  | error e =>
    obtain ⟨h3, hne, -, -⟩ := h.no
    have H := Bx.mk h
    clear h
    go_enter Tryd.func91, Tryd.ntmps91
    go_wp2
    go_ret
    exact ⟨rfl, H.out, IStep.refl _⟩
  | ok s =>
    obtain ⟨h1L, h2L, g, OC, Ln, rfl, hc⟩ := hp rfl
    obtain ⟨O, h⟩ := h
    obtain ⟨a, out⟩ := s
    simp only at h
    have h3 : w.cell? ⟨x, 3, none⟩ = some (.int .i64 ((0 : Nat) : Int)) := h.xb.cell 3
    have h1 : w.cell? ⟨x, 0, none⟩ = some (.pointer (some ⟨r, 0, none⟩)) := h.xb.cell 0
    have T := Read_calls g OC Ln L r A l c a w hc h1L h2L h.rb (fun w' ho => (h.src.below (h.be.trans (ho.below _ h.lr h.be.size)))) h.pos
    obtain ⟨e4, e5⟩ := sym_run L l a out
    rw [e4, e5]
    have hpos := (rdS_at L l (mostC L) 1 0 a h.pos).2.1
    change (rdC L l a).2.2 ≤ _ at hpos
    generalize rdC L l a = D at *
    obtain ⟨V, E, a'⟩ := D
    simp only at *
    obtain ⟨RR, hRR⟩ : ∃ RR : Except Nat SS, RR = if E = 0 then .ok (a', out) else .error E := ⟨_, rfl⟩
    rw [← hRR]
    have HRR := Bx.mk hRR
    have T1 := Bx.mk T
    have H := Bx.mk h
    clear h T e4 e5 hRR hp hc
    go_enter Tryd.func91, Tryd.ntmps91
    go_wp2_with (go_at_call 107; fail)
    refine T1.out.mono ?_
    rintro e w1 ⟨rfl, hb1, ho1⟩
    have HI := Bx.mk (H.out.read ho1 hb1 hpos)
    have HS := Bx.mk (IStep.only H.out.rb ho1)
    have f3 := HI.out.xb.frozen 3
    have c3 := HI.out.load_err
    have HN := Bx.mk (HI.out.err E)
    have HSS := Bx.mk (HS.out.trans (IStep.set (i := 3) (u := .int .i64 (E : Int)) HI.out.xb))
    clear hb1 ho1 hpos h1 h3 T1 H HS HI
    go_wp2
    go_ret
    exact ⟨rfl, by rw [HRR.out]; exact HN.out.at_, HSS.out⟩
/-- room for n bytes -/
def roomP (m n : Nat) : Px Unit := fun s => if n + s.2.length ≤ m then .ok ((), s) else .error 3
theorem fail_bool (w0 : World) (x r : Nat) (A : Option Addr) (l : List Nat) (c m e : Nat) (he : e ≠ 0) (b : Bool) (P : Px Unit) (R : Except Nat SS) (w : World) (h : At w0 x r A l c m R w)
    (hb : ∀ s, R = .ok s → P s = chk e (b = false) s) :
    Calls Tryd.prog 58 #[.pointer (some ⟨x, 0, none⟩), .int .i64 (e : Int), .bool b] w fun en w' =>
      en = .returned (.bool (okR (run P () R).2)) ∧ At w0 x r A l c m (run P () R).2 w' ∧ IStep w w' := by
  have : run P () R = run (chk e (b = false)) () R := by
    cases R with
    | error e => rfl
    | ok s => unfold run; simp only; rw [hb s rfl]
  rw [this]
  exact fail_calls w0 x r A l c m e he b R w h
theorem At.outs {w0 w : World} {x r : Nat} {A : Option Addr} {l : List Nat} {c m : Nat} {R : Except Nat SS} (h : At w0 x r A l c m R w) : ∃ B n d, w.cell? ⟨x, 1, none⟩ = some (.slice B n d) ∧ w.cell? ⟨x, 2, none⟩ = some (.int .i64 (m : Int)) ∧ n ≤ 262144 ∧ ∀ s, R = .ok s → n = s.2.length := by
  cases R with
  | error e =>
    obtain ⟨_, a, out, O, h⟩ := h
    obtain ⟨B, d, rfl⟩ := h.ow.form
    exact ⟨B, _, d, h.xb.cell 1, h.xb.cell 2, h.len, fun s hs => by cases hs⟩
  | ok s =>
    obtain ⟨O, h⟩ := h
    obtain ⟨B, d, rfl⟩ := h.ow.form
    exact ⟨B, _, d, h.xb.cell 1, h.xb.cell 2, h.len, fun s' hs => by cases hs; rfl⟩
theorem At.drew {w0 w : World} {x r : Nat} {A : Option Addr} {l : List Nat} {c m : Nat} {R : Except Nat SS} (h : At w0 x r A l c m R w) : At w0 x r A l c m R w.drew := h.below (Below.refl _ _).drew
set_option maxRecDepth 100000 in
set_option maxHeartbeats 1000000 in
theorem room_calls (w0 : World) (x r : Nat) (A : Option Addr) (l : List Nat) (c m n : Nat) (hm : m ≤ 262144) (R : Except Nat SS) (w : World) (h : At w0 x r A l c m R w) :
    Calls Tryd.prog 87 #[.pointer (some ⟨x, 0, none⟩), .int .i64 (n : Int)] w fun e w' =>
      e = .returned (.bool (okR (run (roomP m n) () R).2)) ∧ At w0 x r A l c m (run (roomP m n) () R).2 w' ∧ IStep w w' := by
  obtain ⟨B, N, d, h1, h2, hN, hs⟩ := h.outs
  have F := fail_bool w0 x r A l c m 3 (by decide) (decide ((m : Int) - (N : Int) < (n : Int))) (roomP m n) R w.drew h.drew (fun s hR => by
    have := hs s hR
    unfold roomP chk
    by_cases hh : n + s.2.length ≤ m
    · rw [if_pos hh, if_pos (by simp; omega)]
    · rw [if_neg hh, if_neg (by simp; omega)])
  have F1 := Bx.mk F
  have hw1 : IntKind.i64.wrap ((m : Int) - (N : Int)) = (m : Int) - (N : Int) := IntWalk.i64_in _ (by omega)
  clear F h hs
  generalize run (roomP m n) () R = RR at *
  go_enter Tryd.func87, Tryd.ntmps87
  go_wp2_with fail
  refine wp_region_still_tail 13 (by kernel_rfl) (by kernel_rfl) ?_
  simp only [List.take_succ_cons, List.take_zero, List.drop_succ_cons, List.drop_zero]
  change wpStill _ _ w.drew (fun a' => wpList _ _ _ _ a' w.drew) _ _
  repeat still_step
  refine wpStill_nil ?_
  go_wp2_with (go_at_call 58; fail)
  refine F1.out.mono ?_
  rintro e w1 ⟨rfl, ha, hs⟩
  have HA := Bx.mk ha
  have HS := Bx.mk ((IStep.drewN w 1).trans hs)
  clear ha hs
  go_wp2
  go_ret
  exact ⟨rfl, HA.out, HS.out⟩
end Go.Proofs.YtoekecopfmohiaaDoor
