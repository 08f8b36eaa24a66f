import Derived.Test.YtoekecopfmohiaaDoorGzipLaws1
/-
  GzipShort: its walk.
-/
namespace Go.Proofs.YtoekecopfmohiaaDoor
open Go.RowKit

set_option maxRecDepth 100000 in
set_option maxHeartbeats 4000000 in
theorem GzipShort_calls (A : Option Addr) (b : List Nat) (c : Nat) (nm : ByteArray) (sum : Bool) (a : Int) (y : Nat) (w : World) (hb : RB w A b) (hc : b.length ≤ c) (hnz : nm.size + 4096 ≤ 140737488355328) (hy : y < 256) (hg : Gz w) :
    Calls Tryd.prog 7 #[.slice A b.length c, .string nm, .bool sum, .int .i64 a, .int .u8 (y : Int)] w fun e w' => e = .returned (.bool true) ∧ Below w.heap.size w w' := by
  have HG := Bx.mk hg
  have HB := Bx.mk hb
  have hlen := hb.2.1
  have W1 := Bx.mk (gworks_calls w hg)
  clear hb hg
  go_enter Tryd.func7, Tryd.ntmps7
  go_wp2_with (go_at_call 20; fail)
  refine W1.out.mono ?_
  rintro e w1 ⟨rfl, hb1⟩
  have B1 := Bx.mk hb1
  clear hb1 W1
  by_cases h3 : 2000 < b.length
  case' pos =>
    obtain ⟨L, hL⟩ : ∃ L, L = b.take 2000 := ⟨_, rfl⟩
    have hLl : L.length = 2000 := by rw [hL, List.length_take]; omega
    have k1 : ∀ W, (Instr.slice 22 (.slice A b.length c) none (some (.int .i64 2000)) none).run Tryd.prog W = .ok (.slice A L.length c) W := fun W => by
      rw [hLl]; exact cut_to_bytes A b.length c 2000 (by omega) hc W
    have HL : Bx (RB w1 A L) := ⟨by rw [hL]; exact (HB.out.below B1.out).take 2000⟩
    have HLc : L.length ≤ c := by omega
    have h3i : (2000 : Int) < (b.length : Int) := by omega
    have hLn : L.length ≤ 2000 := by omega
    clear hL hLl
    go_wp2_with (go_at_call 21; fail)
  case' neg =>
    obtain ⟨L, rfl⟩ : ∃ L, L = b := ⟨_, rfl⟩
    have h3i : decide ((2000 : Int) < (L.length : Int)) = false := decide_eq_false (by omega)
    have HL : Bx (RB w1 A L) := ⟨HB.out.below B1.out⟩
    have HLc : L.length ≤ c := hc
    have hLn : L.length ≤ 2000 := by omega
    go_wp2_with (go_at_call 21; fail)
  all_goals
    clear h3i h3
    have HG1 := Bx.mk (HG.out.below B1.out)
    by_cases hok : DrsOk (sb nm) [] []
    · have D : Calls Tryd.prog 21 #[.slice A L.length c, .string nm, .string { data := #[] }, .slice none 0 0, .bool sum] w1 (fun e w' => ∃ l v, Bts l (fN (wholeF copF L)) (fA (wholeF copF L)) ∧ e = .returned (.tuple #[v, .int .i64 0]) ∧ OB w' w1.heap.size v (gzF [] (sb nm) [] sum l L) ∧ Below w1.heap.size w1 w') :=
        Dress_yes A L c nm { data := #[] } none [] 0 sum w1 HL.out HLc (RB.nil _ _) HG1.out (by show 0 + nm.size + 0 + _ + 60 ≤ _; omega) (by omega) hok
      refine D.mono ?_
      rintro e w2 ⟨l, v2, hbts, rfl, ho2, hb2⟩
      clear D
      have hnn := nulN_full hok.1
      have hll := gz_len L l HL.out.1 hbts
      have hzl := gzF_len [] (sb nm) [] sum l L
      have hzb := gzF_lt [] (sb nm) [] sum l L (by simp) (sb_byte nm) (by simp) hbts.byte
      have hi := inf_gz L l 2000 HL.out.1 hLn (by omega) hbts
      have F1 := Bx.mk (fun k hk => opn_cut (sum := sum) (ex := []) (nt := []) (by simp) hnn (by simp) hi HL.out.1 k hk)
      have F2 := Bx.mk (opn_more (sum := sum) (ex := []) (nt := []) (by simp) hnn (by simp) hi HL.out.1 (by omega) y hy)
      rw [sb_len] at hzl
      simp only [List.length_nil] at hzl
      have B2 := Bx.mk (below_then B1.out B1.out.size hb2)
      obtain ⟨A2, c2, rfl, hc2⟩ := ho2.form'
      generalize gzF [] (sb nm) [] sum l L = Z at *
      have hZl : Z.length + 1 ≤ 140737488355328 := by omega
      have Z2 := Bx.mk (ho2.rb' hzb (by omega))
      have AM := Bx.mk (Among_calls a Z.length w2 (by omega) (by omega))
      have hK : amg a Z.length < Z.length := amg_lt _ _ (by omega)
      generalize amg a Z.length = K at *
      have k2 : ∀ W, (Instr.slice 22 (.slice A2 Z.length c2) none (some (.int .i64 (K : Int))) none).run Tryd.prog W = .ok (.slice A2 (Z.take K).length c2) W := fun W => by
        rw [List.length_take, Nat.min_eq_left (by omega)]; exact cut_to_bytes A2 Z.length c2 K (by omega) hc2 W
      have F1' := Bx.mk (F1.out K hK)
      have HZB := Bx.mk hzb
      clear ho2 hb2 hbts hnn hi HB HL F1 hzb
      go_wp2_with (go_at_call 13; fail)
      refine AM.out.mono ?_
      rintro e w3 ⟨rfl, rfl⟩
      have hTl : (Z.take K).length ≤ c2 := by rw [List.length_take]; omega
      have TK : Bx (RB w2 A2 (Z.take K)) := ⟨Z2.out.take K⟩
      generalize Z.take K = ZK at *
      go_wp2_with (go_at_call 22; fail)
      refine (Open_no A2 ZK c2 2000 w2 TK.out hTl (by decide) (HG.out.below B2.out) F1'.out).mono ?_
      rintro e w4 ⟨rfl, hb4⟩
      have B4 := Bx.mk (below_then B2.out B2.out.size hb4)
      have Z4 := Bx.mk (Z2.out.below hb4)
      clear hb4 TK Z2 F1'
      go_wp2_with (go_at_call 15; fail)
      refine (Bytes_calls A2 Z c2 w4 Z4.out).mono ?_
      rintro e w5 ⟨v5, rfl, ho5, hb5⟩
      have B5 := Bx.mk (below_then B4.out B4.out.size hb5)
      obtain ⟨A5, c5, rfl⟩ := ho5.form
      have hba := below_alloc1 w5 (.cells #[.int .u8 (y : Int)] 5)
      have O5 := Bx.mk (ho5.kept hba)
      have R5 := Bx.mk (RB.lit w5 5 [y] #[.int .u8 (y : Int)] rfl (fun x hx => by rw [List.mem_singleton.1 hx]; exact hy) (by rw [List.length_singleton]; decide))
      have hZl1 : Z.length + [y].length ≤ 140737488355328 := by rw [List.length_singleton]; exact hZl
      have HZL : Bx ((Z ++ [y]).length ≤ 140737488355328) := ⟨by rw [List.length_append]; exact hZl1⟩
      have B6 := Bx.mk (below_then B5.out B5.out.size hba)
      have hz6 : w4.heap.size ≤ (w5.alloc (.cells #[.int .u8 (y : Int)] 5)).heap.size := Nat.le_trans hb5.size hba.size
      have hle5 := Bx.mk B4.out.size
      clear ho5 hb5 hba B5 Z4
      go_wp2_with (first | (at_builtin; refine wpList_append_bytes _ rfl (.tmp 48) (.tmp 50) rfl w4.heap.size (.slice A5 Z.length c5) Z [y] rfl O5.out (some ⟨w5.heap.size, 0, none⟩) 1 rfl R5.out hZl1 hz6 ?_; intro v7 w7 ho7 hg7 _; have O7 := Bx.mk ho7; have B7 := Bx.mk (bapp_end (O5.out.le hle5.out) B6.out (Nat.le_refl _) hg7); clear ho7 hg7 O5 B6 R5; have HYB : Bx (∀ x ∈ Z ++ [y], x < 256) := ⟨fun x hx => (List.mem_append.1 hx).elim (HZB.out x) (fun h => by rw [List.mem_singleton.1 h]; exact hy)⟩; generalize Z ++ [y] = ZY at *; obtain ⟨A7, c7, hv7, hc7⟩ := O7.out.form'; subst hv7) | (go_at_call 22; fail) | fail)
      have R7 := Bx.mk (O7.out.rb' HYB.out HZL.out)
      refine (Open_no A7 ZY c7 2000 w7 R7.out hc7 (by decide) (HG.out.below B7.out) F2.out).mono ?_
      rintro e w8 ⟨rfl, hb8⟩
      have B8 := Bx.mk (below_then B7.out B7.out.size hb8)
      clear hb8
      go_wp2
      go_ret
      exact ⟨rfl, B8.out⟩
    · have D : Calls Tryd.prog 21 #[.slice A L.length c, .string nm, .string { data := #[] }, .slice none 0 0, .bool sum] w1 (fun e w' => e = .returned (.tuple #[.slice none 0 0, .int .i64 2]) ∧ w1 = w') :=
        Dress_no (.slice A L.length c) nm { data := #[] } none [] 0 sum w1 hok
      refine D.mono ?_
      rintro e w2 ⟨rfl, rfl⟩
      clear D
      go_wp2
      go_ret
      exact ⟨rfl, B1.out⟩
end Go.Proofs.YtoekecopfmohiaaDoor
