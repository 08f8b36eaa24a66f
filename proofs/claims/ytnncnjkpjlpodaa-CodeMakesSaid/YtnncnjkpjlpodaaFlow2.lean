import Derived.Test.YtnncnjkpjlpodaaFlow1
/-
  The reader of bits: Skip, Take.
-/
namespace Go.Proofs.Ytnncnjkpjlpodaa
open Go.RowKit

/-- only block g may be another -/
structure Only (g : Nat) (w w' : World) : Prop where
  below : ∀ B, B ≤ g → B ≤ w.heap.size → Below B w w'
  size : w'.heap.size = w.heap.size
  keep : ∀ q, q ≠ g → w'.heap[q]? = w.heap[q]?
theorem Only.refl (g : Nat) (w : World) : Only g w w := ⟨fun B _ _ => Below.refl B w, rfl, fun _ _ => rfl⟩
theorem Only.drewN (g : Nat) (w : World) (k : Nat) : Only g w (w.drewN k) := ⟨fun B _ _ => below_drewN (Below.refl B w) k, rfl, fun _ _ => rfl⟩
theorem Only.trans {g : Nat} {w w1 w2 : World} (h : Only g w w1) (h' : Only g w1 w2) : Only g w w2 :=
  ⟨fun B h1 h2 => (h.below B h1 h2).trans (h'.below B h1 (by rw [h.size]; exact h2)), h'.size.trans h.size, fun q hq => (h'.keep q hq).trans (h.keep q hq)⟩
theorem Only.set (g i : Nat) (u : Value) (w : World) : Only g w (w.setCell ⟨g, i, none⟩ u) :=
  ⟨fun B h1 _ => (Below.refl B w).setCell (p := ⟨g, i, none⟩) h1 u, by simp [World.setCell], fun q hq => Below.heap_setCell w ⟨g, i, none⟩ u q hq⟩
theorem Blk.only {w w' : World} {g q : Nat} {t : TypeId} {cs : Array Value} (h : Blk w q t cs) (ho : Only g w w') (hq : q ≠ g) : Blk w' q t cs := (ho.keep q hq).trans h

def skipE (len a : Nat) (n : Int) : Nat := if n < 0 ∨ 24 < n then 2 else if (8 * len : Int) < a + n then 7 else 0
theorem skipE_arg {len a : Nat} {n : Int} (h : n < 0 ∨ 24 < n) : skipE len a n = 2 := if_pos h
theorem skipE_short {len a : Nat} {n : Int} (h : ¬ (n < 0 ∨ 24 < n)) (h2 : (8 * len : Int) < a + n) : skipE len a n = 7 := by unfold skipE; rw [if_neg h, if_pos h2]
theorem skipE_ok {len a : Nat} {n : Int} (h : ¬ (n < 0 ∨ 24 < n)) (h2 : ¬ (8 * len : Int) < a + n) : skipE len a n = 0 := by unfold skipE; rw [if_neg h, if_neg h2]

theorem rPeek_arg (g : Nat) (v u : Value) (n : Int) (w : World) (h : Blk w g 60 #[v, u, .bool true]) (hn : n < 0 ∨ 24 < n) :
    Calls Try.prog 25 #[.pointer (some ⟨g, 0, none⟩), .int .i64 n] w fun e w' => e = .returned (.int .i64 0) ∧ w = w' := by
  have H := Bx.mk (rIs_calls g _ _ true w h)
  clear h
  by_cases h0 : n < 0
  · clear hn
    go_enter Try.func25, Try.ntmps25
    go_wp2_with fail
    refine H.out.mono ?_
    rintro e w1 ⟨rfl, rfl⟩
    go_wp2
    go_ret
    exact ⟨rfl, rfl⟩
  · have h1 : 24 < n := by omega
    clear hn
    go_enter Try.func25, Try.ntmps25
    go_wp2_with fail
    refine H.out.mono ?_
    rintro e w1 ⟨rfl, rfl⟩
    go_wp2
    go_ret
    exact ⟨rfl, rfl⟩

theorem rSkip_calls (g : Nat) (A : Option Addr) (len c a : Nat) (n : Int) (w : World) (h : Blk w g 60 #[.slice A len c, .int .i64 a, .bool true]) (hlen : len ≤ 140737488351232) (ha : a ≤ 8 * len) :
    Calls Try.prog 24 #[.pointer (some ⟨g, 0, none⟩), .int .i64 n] w fun e w' =>
      e = .returned (.int .i64 (skipE len a n)) ∧ Blk w' g 60 #[.slice A len c, .int .i64 ((if skipE len a n = 0 then a + n.toNat else a : Nat) : Int), .bool true] ∧ Only g w w' := by
  have H := Bx.mk (rIs_calls g _ _ true w h)
  have L := Bx.mk (rLeft_calls g A len c a w h hlen ha)
  have HB := Bx.mk h
  by_cases hn : n < 0 ∨ 24 < n
  · have E := Bx.mk (skipE_arg (len := len) (a := a) hn)
    rw [E.out]
    clear h
    by_cases h0 : n < 0
    · clear hn
      go_enter Try.func24, Try.ntmps24
      go_wp2_with fail
      refine H.out.mono ?_
      rintro e w1 ⟨rfl, rfl⟩
      go_wp2
      go_ret
      exact ⟨rfl, HB.out, Only.refl _ _⟩
    · have h1 : 24 < n := by omega
      clear hn
      go_enter Try.func24, Try.ntmps24
      go_wp2_with fail
      refine H.out.mono ?_
      rintro e w1 ⟨rfl, rfl⟩
      go_wp2
      go_ret
      exact ⟨rfl, HB.out, Only.refl _ _⟩
  · obtain ⟨m, rfl⟩ := Int.eq_ofNat_of_zero_le (show 0 ≤ n by omega)
    have hm : m ≤ 24 := by omega
    by_cases hs : (8 * len : Int) < a + m
    · have E := Bx.mk (skipE_short hn hs)
      rw [E.out]
      have hs' : ((8 * len - a : Nat) : Int) < m := by omega
      generalize 8 * len - a = D at L hs'
      clear h hn hs
      go_enter Try.func24, Try.ntmps24
      go_wp2_with fail
      refine H.out.mono ?_
      rintro e w1 ⟨rfl, rfl⟩
      go_wp2_with fail
      refine L.out.mono ?_
      rintro e w1 ⟨rfl, k, hw⟩
      have HO : Bx (Only g w w1) := ⟨by rw [hw]; exact Only.drewN g w k⟩
      have HB1 : Bx (Blk w1 g 60 #[.slice A len c, .int .i64 a, .bool true]) := ⟨by rw [hw]; exact HB.out⟩
      clear hw
      go_wp2
      go_ret
      exact ⟨rfl, HB1.out, HO.out⟩
    · have E := Bx.mk (skipE_ok hn hs)
      rw [E.out]
      have hs' : ¬ (((8 * len - a : Nat) : Int) < m) := by omega
      have hsum : a + m ≤ 1125899906809856 := by omega
      generalize 8 * len - a = D at L hs'
      clear h hn hs
      go_enter Try.func24, Try.ntmps24
      go_wp2_with fail
      refine H.out.mono ?_
      rintro e w1 ⟨rfl, rfl⟩
      go_wp2_with fail
      refine L.out.mono ?_
      rintro e w1 ⟨rfl, k, hw⟩
      have HO : Bx (Only g w w1) := ⟨by rw [hw]; exact Only.drewN g w k⟩
      have hb1 : Blk w1 g 60 #[.slice A len c, .int .i64 a, .bool true] := by rw [hw]; exact HB.out
      have h1 : w1.cell? ⟨g, 1, none⟩ = some (.int .i64 a) := hb1.cell 1
      have hf := hb1.frozen 1
      have HP := Bx.mk (hb1.set_ 1 (.int .i64 ((a + m : Nat) : Int)))
      have HQ := Bx.mk (HO.out.trans (Only.set g 1 (.int .i64 ((a + m : Nat) : Int)) w1))
      clear hw hb1
      go_wp2
      go_ret
      exact ⟨rfl, HP.out, HQ.out⟩

theorem rTake_calls (g : Nat) (A : Option Addr) (l : List Nat) (c a : Nat) (n : Int) (w : World) (h : Blk w g 60 #[.slice A l.length c, .int .i64 a, .bool true]) (hl : RB w A l) (ha : a ≤ 8 * l.length) :
    Calls Try.prog 21 #[.pointer (some ⟨g, 0, none⟩), .int .i64 n] w fun e w' =>
      e = .returned (.tuple #[.int .i64 ((if skipE l.length a n = 0 then pkN l a n.toNat else 0 : Nat) : Int), .int .i64 (skipE l.length a n)]) ∧
      Blk w' g 60 #[.slice A l.length c, .int .i64 ((if skipE l.length a n = 0 then a + n.toNat else a : Nat) : Int), .bool true] ∧ Only g w w' := by
  have hlen := hl.2.1
  have HP : Bx (∃ V : Nat, (skipE l.length a n = 0 → V = pkN l a n.toNat) ∧ Calls Try.prog 25 #[.pointer (some ⟨g, 0, none⟩), .int .i64 n] w fun e w' => e = .returned (.int .i64 (V : Int)) ∧ ∃ k, w' = w.drewN k) := ⟨by
    by_cases hn : n < 0 ∨ 24 < n
    · exact ⟨0, fun h0 => (by rw [skipE_arg hn] at h0; cases h0), (rPeek_arg g _ _ n w h hn).mono fun e w' ⟨h1, h2⟩ => ⟨h1, 0, h2.symm⟩⟩
    · obtain ⟨m, rfl⟩ := Int.eq_ofNat_of_zero_le (show 0 ≤ n by omega)
      exact ⟨_, fun _ => rfl, rPeek_yes g A l c a m w h hl ha (by omega)⟩⟩
  obtain ⟨V, hV, hP⟩ := HP.out
  have P := Bx.mk hP
  have HV := Bx.mk hV
  have S := Bx.mk fun w1 h1 => rSkip_calls g A l.length c a n w1 h1 hlen ha
  have HB := Bx.mk h
  clear hP hV HP h hl
  generalize skipE l.length a n = E at HV S ⊢
  by_cases hE : E = 0
  · subst hE
    rw [if_pos rfl, if_pos rfl]
    have hv := HV.out rfl
    have S2 : Bx (∀ w1, Blk w1 g 60 #[.slice A l.length c, .int .i64 a, .bool true] → Calls Try.prog 24 #[.pointer (some ⟨g, 0, none⟩), .int .i64 n] w1 fun e w' => e = .returned (.int .i64 0) ∧ Blk w' g 60 #[.slice A l.length c, .int .i64 ((a + n.toNat : Nat) : Int), .bool true] ∧ Only g w1 w') := ⟨fun w1 h1 => S.out w1 h1⟩
    rw [← hv]
    clear hv HV S
    generalize a + n.toNat = T at S2 ⊢
    go_enter Try.func21, Try.ntmps21
    go_wp2_with fail
    refine P.out.mono ?_
    rintro e w1 ⟨rfl, k, hw⟩
    have HO : Bx (Only g w w1) := ⟨by rw [hw]; exact Only.drewN g w k⟩
    have HB1 : Bx (Blk w1 g 60 #[.slice A l.length c, .int .i64 a, .bool true]) := ⟨by rw [hw]; exact HB.out⟩
    clear hw
    go_wp2_with fail
    refine (S2.out w1 HB1.out).mono ?_
    rintro e w2 ⟨rfl, hb2, ho2⟩
    have HB2 := Bx.mk hb2
    have HO2 := Bx.mk (HO.out.trans ho2)
    clear hb2 ho2
    go_wp2
    go_ret2
    exact ⟨rfl, HB2.out, HO2.out⟩
  · rw [if_neg hE, if_neg hE]
    have S2 : Bx (∀ w1, Blk w1 g 60 #[.slice A l.length c, .int .i64 a, .bool true] → Calls Try.prog 24 #[.pointer (some ⟨g, 0, none⟩), .int .i64 n] w1 fun e w' => e = .returned (.int .i64 (E : Int)) ∧ Blk w' g 60 #[.slice A l.length c, .int .i64 (a : Int), .bool true] ∧ Only g w1 w') := ⟨fun w1 h1 => by have := S.out w1 h1; rw [if_neg hE] at this; exact this⟩
    have hne : ((E : Int) == 0) = false := beq_false_of_ne (by omega)
    clear HV S hE
    go_enter Try.func21, Try.ntmps21
    go_wp2_with fail
    refine P.out.mono ?_
    rintro e w1 ⟨rfl, k, hw⟩
    have HO : Bx (Only g w w1) := ⟨by rw [hw]; exact Only.drewN g w k⟩
    have HB1 : Bx (Blk w1 g 60 #[.slice A l.length c, .int .i64 a, .bool true]) := ⟨by rw [hw]; exact HB.out⟩
    clear hw
    go_wp2_with fail
    refine (S2.out w1 HB1.out).mono ?_
    rintro e w2 ⟨rfl, hb2, ho2⟩
    have HB2 := Bx.mk hb2
    have HO2 := Bx.mk (HO.out.trans ho2)
    clear hb2 ho2
    go_wp2
    go_ret2
    exact ⟨rfl, HB2.out, HO2.out⟩
end Go.Proofs.Ytnncnjkpjlpodaa
