import Derived.Test.YtnncnjkpjlpodaaFlowRef7
import Derived.Test.YtnncnjkpjlpodaaFlowLaws4
/-
  Two readers side by side: the program's and the reference's.
-/
namespace Go.Proofs.Ytnncnjkpjlpodaa
open Go.RowKit

theorem OB.form' {w : World} {base : Nat} {v : Value} {l : List Nat} (h : OB w base v l) : ∃ A c, v = .slice A l.length c ∧ l.length ≤ c := by
  rcases h.2 with ⟨rfl, h0⟩ | ⟨g, cap, cur, rfl, _, _, h1, _⟩
  · exact ⟨none, 0, by rw [h0], by omega⟩
  · exact ⟨_, cap, rfl, h1⟩
theorem OI.form' {w : World} {base : Nat} {v : Value} {l : List Int} (h : OI w base v l) : ∃ A c, v = .slice A l.length c ∧ l.length ≤ c := by
  rcases h.2 with ⟨rfl, h0⟩ | ⟨g, cap, cur, rfl, _, _, h1, _⟩
  · exact ⟨none, 0, by rw [h0], by omega⟩
  · exact ⟨_, cap, rfl, h1⟩
/-- the program's reader at r (bit a), the reference's at y (bit a'), their bytes and bits -/
structure RSt (w : World) (r y b1 b2 : Nat) (A1 A2 : Option Addr) (c1 c2 : Nat) (l : List Nat) (a a' : Nat) (wr : World) : Prop where
  rd : Blk wr r 60 #[.slice A1 l.length c1, .int .i64 (a : Int), .bool true]
  yd : Blk wr y 53 #[.slice A2 (8 * l.length) c2, .int .i64 (a' : Int)]
  ow : OB wr b1 (.slice A1 l.length c1) l
  bt : OI wr b2 (.slice A2 (8 * l.length) c2) (zl (bitsL l))
  be : Below w.heap.size w wr
section
variable {w : World} {r y b1 b2 : Nat} {A1 A2 : Option Addr} {c1 c2 : Nat} {l : List Nat} {a a' : Nat} {wr w1 : World}
theorem RSt.below (h : RSt w r y b1 b2 A1 A2 c1 c2 l a a' wr) (hb : Below wr.heap.size wr w1) : RSt w r y b1 b2 A1 A2 c1 c2 l a a' w1 :=
  ⟨h.rd.below hb h.rd.lt, h.yd.below hb h.yd.lt, h.ow.below hb, h.bt.below hb, below_then h.be h.be.size hb⟩
theorem RSt.ne (h : RSt w r y b1 b2 A1 A2 c1 c2 l a a' wr) : r ≠ y := h.rd.ne_ h.yd (by decide)
theorem RSt.onlyR (h : RSt w r y b1 b2 A1 A2 c1 c2 l a a' wr) (ho : Only r wr w1) (hr : w.heap.size ≤ r) {x : Nat} (hb : Blk w1 r 60 #[.slice A1 l.length c1, .int .i64 (x : Int), .bool true]) : RSt w r y b1 b2 A1 A2 c1 c2 l x a' w1 :=
  ⟨hb, h.yd.only ho h.ne.symm, own_keep h.ow fun q hq => ho.keep q (fun hc => own_blk_ne h.ow h.rd (by decide) (by rw [hq, hc])), own_keep h.bt fun q hq => ho.keep q (fun hc => own_blk_ne h.bt h.rd (by decide) (by rw [hq, hc])), h.be.trans (ho.below _ hr h.be.size)⟩
theorem RSt.onlyY (h : RSt w r y b1 b2 A1 A2 c1 c2 l a a' wr) (ho : Only y wr w1) (hr : w.heap.size ≤ y) {x : Nat} (hb : Blk w1 y 53 #[.slice A2 (8 * l.length) c2, .int .i64 (x : Int)]) : RSt w r y b1 b2 A1 A2 c1 c2 l a x w1 :=
  ⟨h.rd.only ho h.ne, hb, own_keep h.ow fun q hq => ho.keep q (fun hc => own_blk_ne h.ow h.yd (by decide) (by rw [hq, hc])), own_keep h.bt fun q hq => ho.keep q (fun hc => own_blk_ne h.bt h.yd (by decide) (by rw [hq, hc])), h.be.trans (ho.below _ hr h.be.size)⟩
theorem RSt.stepR (h : RSt w r y b1 b2 A1 A2 c1 c2 l a a' wr) (ho : WStep r (.slice none 0 0) wr (.slice none 0 0) w1) (hr : w.heap.size ≤ r) {x : Nat} (hb : Blk w1 r 60 #[.slice A1 l.length c1, .int .i64 (x : Int), .bool true]) : RSt w r y b1 b2 A1 A2 c1 c2 l x a' w1 :=
  ⟨hb, (ho.blk h.yd h.ne.symm (by simp [Value.ownBlock])).1, own_keep h.ow fun q hq => ho.keep q (own_block' h.ow q hq).2 (fun hc => own_blk_ne h.ow h.rd (by decide) (by rw [hq, hc])) (by simp [Value.ownBlock]),
   own_keep h.bt fun q hq => ho.keep q (own_block' h.bt q hq).2 (fun hc => own_blk_ne h.bt h.rd (by decide) (by rw [hq, hc])) (by simp [Value.ownBlock]), h.be.trans (ho.below _ hr h.be.size)⟩
theorem RSt.stepY (h : RSt w r y b1 b2 A1 A2 c1 c2 l a a' wr) (ho : WStep y (.slice none 0 0) wr (.slice none 0 0) w1) (hr : w.heap.size ≤ y) {x : Nat} (hb : Blk w1 y 53 #[.slice A2 (8 * l.length) c2, .int .i64 (x : Int)]) : RSt w r y b1 b2 A1 A2 c1 c2 l a x w1 :=
  ⟨(ho.blk h.rd h.ne (by simp [Value.ownBlock])).1, hb, own_keep h.ow fun q hq => ho.keep q (own_block' h.ow q hq).2 (fun hc => own_blk_ne h.ow h.yd (by decide) (by rw [hq, hc])) (by simp [Value.ownBlock]),
   own_keep h.bt fun q hq => ho.keep q (own_block' h.bt q hq).2 (fun hc => own_blk_ne h.bt h.yd (by decide) (by rw [hq, hc])) (by simp [Value.ownBlock]), h.be.trans (ho.below _ hr h.be.size)⟩
/-- blocks that lay there when h0 was may not be written -/
theorem RSt.belowB {a0 a0' : Nat} {w0 : World} (h0 : RSt w r y b1 b2 A1 A2 c1 c2 l a0 a0' w0) (h : RSt w r y b1 b2 A1 A2 c1 c2 l a a' wr) (hb : Below w0.heap.size wr w1) : RSt w r y b1 b2 A1 A2 c1 c2 l a a' w1 :=
  ⟨h.rd.below hb h0.rd.lt, h.yd.below hb h0.yd.lt, own_keep h.ow fun q hq => hb.block q (own_block' h0.ow q hq).2, own_keep h.bt fun q hq => hb.block q (own_block' h0.bt q hq).2, h.be.trans (hb.mono h0.be.size)⟩
theorem RSt.ir (h : RSt w r y b1 b2 A1 A2 c1 c2 l a a' wr) : ∀ w', Only y wr w' → IR w' A2 (zl (bitsL l)) := fun w' ho => by
  have h2 : OI w' b2 (.slice A2 (8 * l.length) c2) (zl (bitsL l)) := own_keep h.bt fun q hq => ho.keep q (fun hc => own_blk_ne h.bt h.yd (by decide) (by rw [hq, hc]))
  exact h2.ir
theorem RSt.far (h : RSt w r y b1 b2 A1 A2 c1 c2 l a a' wr) (hb : ∀ x ∈ l, x < 256) (hl : l.length ≤ 140737488351232) : ∀ w', Only r wr w' → RB w' A1 l := fun w' ho => by
  have h2 : OB w' b1 (.slice A1 l.length c1) l := own_keep h.ow fun q hq => ho.keep q (fun hc => own_blk_ne h.ow h.rd (by decide) (by rw [hq, hc]))
  exact h2.rb hb hl
end
/-- the reference's Take, in the program's words -/
theorem yTake_calls (g : Nat) (A : Option Addr) (l : List Nat) (c a : Nat) (n : Int) (w : World) (h : Blk w g 53 #[.slice A (8 * l.length) c, .int .i64 (a : Int)]) (hl : ∀ x ∈ l, x < 256) (hI : ∀ w', Only g w w' → IR w' A (zl (bitsL l))) (hlen : l.length ≤ 1048576) (ha : a ≤ 8 * l.length) (hc : 8 * l.length ≤ c) :
    Calls Try.prog 34 #[.pointer (some ⟨g, 0, none⟩), .int .i64 n] w fun e w' =>
      e = .returned (.tuple #[.int .i64 ((if skipE l.length a n = 0 then pkN l a n.toNat else 0 : Nat) : Int), .int .i64 (skipE l.length a n)]) ∧
      Blk w' g 53 #[.slice A (8 * l.length) c, .int .i64 ((if skipE l.length a n = 0 then a + n.toNat else a : Nat) : Int)] ∧ Only g w w' := by
  by_cases hn : n < 0 ∨ 24 < n
  · rw [skipE_arg hn]
    exact (yTake_arg g n w hn).mono fun e w' ⟨h1, h2⟩ => by subst h2; exact ⟨h1, h, Only.refl _ _⟩
  · obtain ⟨m, rfl⟩ := Int.eq_ofNat_of_zero_le (show 0 ≤ n by omega)
    by_cases hs : (8 * l.length : Int) < a + m
    · rw [skipE_short hn hs]
      exact (yTake_short g A (8 * l.length) c a m w h (by omega) ha (by omega) (by omega)).mono fun e w' ⟨h1, k, h2⟩ => by subst h2; exact ⟨h1, h, Only.drewN _ _ _⟩
    · rw [skipE_ok hn hs, if_pos rfl, if_pos rfl, Int.toNat_natCast, pk_bits l (bitsL l) (bitsL_bit l) (bN_bits l hl)]
      have hbl := bitsL_length l
      have := yTake_ok g A (bitsL l) c a m w (by rw [hbl]; exact h) (bitsL_bit l) hI (by omega) (by omega) (by omega) (by omega)
      rw [hbl] at this
      exact this
theorem yPeek_calls (g : Nat) (A : Option Addr) (l : List Nat) (c a : Nat) (n : Int) (w : World) (h : Blk w g 53 #[.slice A (8 * l.length) c, .int .i64 (a : Int)]) (hl : ∀ x ∈ l, x < 256) (hI : IR w A (zl (bitsL l))) (hlen : l.length ≤ 1048576) (ha : a ≤ 8 * l.length) (hc : 8 * l.length ≤ c) :
    Calls Try.prog 35 #[.pointer (some ⟨g, 0, none⟩), .int .i64 n] w fun e w' =>
      e = .returned (.int .i64 ((if n < 0 ∨ 24 < n then 0 else pkN l a n.toNat : Nat) : Int)) ∧ ∃ k, w' = w.drewN k := by
  by_cases hn : n < 0 ∨ 24 < n
  · rw [if_pos hn]
    exact (yPeek_arg g n w hn).mono fun e w' ⟨h1, h2⟩ => ⟨h1, 0, h2.symm⟩
  · obtain ⟨m, rfl⟩ := Int.eq_ofNat_of_zero_le (show 0 ≤ n by omega)
    rw [if_neg hn, Int.toNat_natCast, pk_bits l (bitsL l) (bitsL_bit l) (bN_bits l hl)]
    have hbl := bitsL_length l
    have := yPeek_ok g A (bitsL l) c a m w (by rw [hbl]; exact h) (bitsL_bit l) hI (by omega) (by omega) (by omega) (by omega)
    exact this
theorem rPeek_calls (g : Nat) (A : Option Addr) (l : List Nat) (c a : Nat) (n : Int) (w : World) (h : Blk w g 60 #[.slice A l.length c, .int .i64 (a : Int), .bool true]) (hl : RB w A l) (ha : a ≤ 8 * l.length) :
    Calls Try.prog 25 #[.pointer (some ⟨g, 0, none⟩), .int .i64 n] w fun e w' =>
      e = .returned (.int .i64 ((if n < 0 ∨ 24 < n then 0 else pkN l a n.toNat : Nat) : Int)) ∧ ∃ k, w' = w.drewN k := by
  by_cases hn : n < 0 ∨ 24 < n
  · rw [if_pos hn]
    exact (rPeek_arg g _ _ n w h hn).mono fun e w' ⟨h1, h2⟩ => ⟨h1, 0, h2.symm⟩
  · obtain ⟨m, rfl⟩ := Int.eq_ofNat_of_zero_le (show 0 ≤ n by omega)
    rw [if_neg hn, Int.toNat_natCast]
    exact rPeek_yes g A l c a m w h hl ha (by omega)
/-- where a reader may stand behind a call -/
theorem at_le {len a : Nat} {n : Int} (ha : a ≤ 8 * len) : (if skipE len a n = 0 then a + n.toNat else a : Nat) ≤ 8 * len := by
  split
  · next h =>
    by_cases hn : n < 0 ∨ 24 < n
    · rw [skipE_arg hn] at h; cases h
    · by_cases hs : (8 * len : Int) < a + n
      · rw [skipE_short hn hs] at h; cases h
      · omega
  · exact ha
theorem byE_ok {len a : Nat} {n : Int} (ha : a ≤ 8 * len) (h : byE len a n = 0) : ∃ p m : Nat, n = (m : Int) ∧ a = 8 * p ∧ p + m ≤ len := by
  unfold byE at h
  split at h
  · cases h
  · next h1 =>
    split at h
    · cases h
    · next h2 => exact ⟨a / 8, n.toNat, by omega, by omega, by omega⟩
end Go.Proofs.Ytnncnjkpjlpodaa
