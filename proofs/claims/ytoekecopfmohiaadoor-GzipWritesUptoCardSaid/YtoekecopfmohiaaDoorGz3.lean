import Derived.Test.YtoekecopfmohiaaDoorGz2
import Derived.Test.YtoekecopfmohiaaDoorFlateLaws1
/-
  gzip: Open: its walk.
-/
namespace Go.Proofs.YtoekecopfmohiaaDoor
open Go.RowKit

/-- what Open answers -/
def OpnPost (l : List Nat) (m : Nat) (w : World) (e : Ending) (w' : World) : Prop := match opnN l m with
  | .ok out => ∃ v, e = .returned (.tuple #[v, .int .i64 0]) ∧ OB w' w.heap.size v out ∧ (∀ y ∈ out, y < 256) ∧ Below w.heap.size w w'
  | .error x => x ≠ 0 ∧ e = .returned (.tuple #[.slice none 0 0, .int .i64 (x : Int)]) ∧ Below w.heap.size w w'
theorem OB.low' {w : World} {base base' : Nat} {v : Value} {l : List Nat} (h : OB w base v l) (hb : base' ≤ base) : OB w base' v l :=
  ⟨h.1, h.2.imp id fun ⟨g, cap, cur, a, b, r⟩ => ⟨g, cap, cur, a, Nat.le_trans hb b, r⟩⟩
theorem opn_err {l : List Nat} {m : Nat} {w w' : World} {RF : Except Nat (List Nat)} {x : Nat} (h : RF = opnN l m) (hx : RF = .error x) (h0 : x ≠ 0) (hb : Below w.heap.size w w') : OpnPost l m w (.returned (.tuple #[.slice none 0 0, .int .i64 (x : Int)])) w' := by
  unfold OpnPost
  rw [← h, hx]
  exact ⟨h0, rfl, hb⟩
theorem opn_good {l : List Nat} {m : Nat} {w w' : World} {RF : Except Nat (List Nat)} {out : List Nat} {v : Value} (h : RF = opnN l m) (hx : RF = .ok out) (ho : OB w' w.heap.size v out) (hy : ∀ y ∈ out, y < 256) (hb : Below w.heap.size w w') : OpnPost l m w (.returned (.tuple #[v, .int .i64 0])) w' := by
  unfold OpnPost
  rw [← h, hx]
  exact ⟨v, rfl, ho, hy, hb⟩
def wantN (out : List Nat) (k : Nat) : Nat := if k = 0 then moreS 0 out else out.length
/-- what is left of the tests behind the stream -/
def tlR (r out : List Nat) : Nat → Except Nat (List Nat)
  | 0 => tailN r out
  | 1 => if r.length < 8 then .error 7 else if numAt r 4 4 ≠ out.length then .error 121 else if 8 < r.length then .error 120 else .ok out
  | _ => if 8 < r.length then .error 120 else .ok out
theorem tlR_step (r out : List Nat) (k : Nat) (h : k < 2) : tlR r out k = if r.length < 4 * k + 4 then .error 7 else if numAt r (4 * k) 4 ≠ wantN out k then .error 121 else tlR r out (k + 1) := by
  obtain rfl | rfl : k = 0 ∨ k = 1 := by omega
  all_goals rfl
set_option maxRecDepth 100000 in
set_option maxHeartbeats 4000000 in
theorem Open_calls (A : Option Addr) (l : List Nat) (c m : Nat) (w : World) (hl : RB w A l) (hc : l.length ≤ c) (hm : m ≤ 262144) (hg : Gz w) :
    Calls Tryd.prog 22 #[.slice A l.length c, .int .i64 (m : Int)] w (OpnPost l m w) := by
  have HL := Bx.mk hl
  have HG := Bx.mk hg
  have hlen := hl.2.1
  have HC := Bx.mk (Header_calls A l c w hl hc hg)
  obtain ⟨RF, hRF⟩ : ∃ RF, RF = opnN l m := ⟨_, rfl⟩
  have HRF := Bx.mk hRF
  have hm0 : decide ((m : Int) < 0) = false := by simp
  have hm1 : decide ((262144 : Int) < (m : Int)) = false := decide_eq_false (by omega)
  clear hl hg hRF
  go_enter Tryd.func22, Tryd.ntmps22
  go_wp2_with (go_at_call 26; fail)
  refine HC.out.mono ?_
  rintro e w1 ⟨hb1, hp⟩
  have B1 := Bx.mk hb1
  clear hb1 HC
  cases hh : hdrN l with
  | error x =>
    rw [hh] at hp
    obtain ⟨hx0, rfl⟩ := hp
    have HE : Bx (RF = .error x) := ⟨by rw [HRF.out]; unfold opnN; rw [hh]; rfl⟩
    have hxn : ((x : Int) != 0) = true := by rw [bne_iff_ne]; omega
    have HX0 := Bx.mk hx0
    clear hh hx0
    go_wp2
    go_ret2
    exact opn_err HRF.out HE.out HX0.out B1.out
  | ok a =>
    rw [hh] at hp
    obtain rfl := hp
    have hab := hdrN_bounds hh
    have F1 : Bx (RF = eb (inflN (l.drop a) m) fun u => tailN (l.drop (a + u.2)) u.1) := ⟨by rw [HRF.out]; unfold opnN; rw [hh]; rfl⟩
    obtain ⟨A2, hA2⟩ : ∃ A2, A2 = if c = a then A else A.map (·.add a) := ⟨_, rfl⟩
    obtain ⟨M, hM⟩ : ∃ M, M = l.drop a := ⟨_, rfl⟩
    have hMl : M.length = l.length - a := by rw [hM, List.length_drop]
    have k1 : ∀ W, (Instr.slice 22 (.slice A l.length c) (some (.int .i64 (a : Int))) none none).run Tryd.prog W = .ok (.slice A2 M.length (c - a)) W := fun W => by
      rw [hA2, hMl]; exact cut_from_bytes A l.length c a hab.2 W
    have hRB : RB w1 A2 M := by rw [hA2, hM]; exact (HL.out.below B1.out).drop a c hc
    have IC := Bx.mk (Inflate_calls A2 M (c - a) m w1 hRB hm (HG.out.below B1.out).gf (by omega))
    rw [← hM] at F1
    have hMb : M.length ≤ l.length := by omega
    have HMl := Bx.mk hMl
    have HM := Bx.mk hM
    clear hh hRB hA2 hM hMl
    go_wp2_with (go_at_call 14; fail)
    refine IC.out.mono ?_
    intro e w2 hp
    unfold InfPost at hp
    cases hi : inflN M m with
    | error x =>
      rw [hi] at hp F1
      obtain ⟨hx0, rfl, hb2⟩ := hp
      have HE : Bx (RF = .error x) := ⟨F1.out⟩
      have B2 := Bx.mk (below_then B1.out B1.out.size hb2)
      have hxn : ((x : Int) != 0) = true := by rw [bne_iff_ne]; omega
      have HX0 := Bx.mk hx0
      clear hi hx0 hb2 F1 IC
      go_wp2
      go_ret2
      exact opn_err HRF.out HE.out HX0.out B2.out
    | ok u =>
      obtain ⟨out, n⟩ := u
      rw [hi] at hp F1
      obtain ⟨v2, rfl, ho2, hby2, hb2⟩ := hp
      have hbd := inflN_bounds hi
      have hMlo := HMl.out
      have han : a + n ≤ l.length := by omega
      clear hMlo
      have hsum0 : IntKind.i64.wrap ((a : Int) + (n : Int)) = ((a + n : Nat) : Int) := by rw [IntWalk.i64_in _ (by omega)]; omega
      obtain ⟨AN, hAN⟩ : ∃ AN, AN = a + n := ⟨_, rfl⟩
      have hsum : IntKind.i64.wrap ((a : Int) + (n : Int)) = (AN : Int) := by rw [hAN]; exact hsum0
      have F1' : Bx (RF = tailN (l.drop AN) out) := ⟨by rw [hAN]; exact F1.out⟩
      have hanl : AN ≤ l.length := by omega
      clear hsum0 hAN F1
      obtain ⟨R, hR⟩ : ∃ R, R = l.drop AN := ⟨_, rfl⟩
      have hRl : R.length = l.length - AN := by rw [hR, List.length_drop]
      obtain ⟨A3, hA3⟩ : ∃ A3, A3 = if c = AN then A else A.map (·.add AN) := ⟨_, rfl⟩
      have k2 : ∀ W, (Instr.slice 22 (.slice A l.length c) (some (.int .i64 (AN : Int))) none none).run Tryd.prog W = .ok (.slice A3 R.length (c - AN)) W := fun W => by
        rw [hA3, hRl]; exact cut_from_bytes A l.length c AN hanl W
      have F2 : Bx (RF = tlR R out 0) := ⟨by rw [hR]; exact F1'.out⟩
      have B2 := Bx.mk (below_then B1.out B1.out.size hb2)
      have RR := Bx.mk (show RB w2 A3 R by rw [hA3, hR]; exact (HL.out.below B2.out).drop AN c hc)
      have HBY := Bx.mk hby2
      have O2 := Bx.mk (OB.low' ho2 B1.out.size)
      obtain ⟨A4, c4, rfl⟩ := ho2.form
      have hol : out.length ≤ 262144 := by omega
      have SC := Bx.mk (Sum_calls A4 out c4 w2 (ho2.rb hby2 (by omega)) (HG.out.below B2.out).half)
      have hsb : moreS 0 out < 4294967296 := moreS_lt 0 out (by decide) hby2
      have hRb : R.length ≤ l.length := by omega
      have hW0 : wantN out 0 = moreS 0 out := rfl
      have hW1 : wantN out 1 = out.length := rfl
      clear hi hR hRl hA3 ho2 hby2 hb2 F1' IC hbd han
      go_wp2_with (go_at_call 23; fail)
      refine SC.out.mono ?_
      rintro e w3 ⟨rfl, rfl⟩
      have hu : IntKind.i64.wrap ((moreS 0 out : Nat) : Int) = ((moreS 0 out : Nat) : Int) := IntWalk.i64_in _ (by omega)
      generalize moreS 0 out = S at *
      go_wp2
      have hba := below_alloc1 w2 (.cells #[.int .i64 (S : Int), .int .i64 (out.length : Int)] 3)
      have B5 : Bx (Blk (w2.alloc (.cells #[.int .i64 (S : Int), .int .i64 (out.length : Int)] 3)) w2.heap.size 3 #[.int .i64 (S : Int), .int .i64 (out.length : Int)]) := ⟨Blk.new _ _ _⟩
      have B3 := Bx.mk (below_then B2.out B2.out.size hba)
      have R3 := Bx.mk (RR.out.below hba)
      have O3 := Bx.mk (O2.out.kept hba)
      clear hba B2 RR O2 SC
      generalize w2.alloc (.cells #[.int .i64 (S : Int), .int .i64 (out.length : Int)] 3) = w3 at *
      generalize w2.heap.size = q5 at *
      have x0 : w3.cell? ⟨q5, 0, none⟩ = some (.int .i64 (S : Int)) := B5.out.cell 0
      have x1 : w3.cell? ⟨q5, 1, none⟩ = some (.int .i64 (out.length : Int)) := B5.out.cell 1
      go_loop [53] (fun s53 => ∃ k : Nat, k ≤ 2 ∧ s53 = .int .i64 (k : Nat) ∧ Bx (RF = tlR R out k)) (fun s53 => 2 - (intOf s53).toNat)
      case atStart => exact ⟨0, by omega, rfl, F2⟩
      case round =>
        obtain ⟨k, hk2, rfl, FQ⟩ := hrel
        clear F2
        by_cases hk : k < 2
        · have F3 := Bx.mk (FQ.out.trans (tlR_step R out k hk))
          obtain ⟨W, hW⟩ : ∃ W, W = wantN out k := ⟨_, rfl⟩
          have xk : w3.cell? ⟨q5, k, none⟩ = some (.int .i64 (W : Int)) := by
            obtain rfl | rfl : k = 0 ∨ k = 1 := by omega
            · rw [hW, hW0]; exact x0
            · rw [hW, hW1]; exact x1
          rw [← hW] at F3
          have hki : (k : Int) < 2 := by omega
          have hmul : IntKind.i64.wrap (4 * (k : Int)) = ((4 * k : Nat) : Int) := by rw [IntWalk.i64_in _ (by omega)]; omega
          clear hW FQ
          by_cases hlt : R.length < 4 * k + 4
          · have HE : Bx (RF = .error 7) := ⟨by rw [F3.out, if_pos hlt]⟩
            have GC := Bx.mk (Get_no A3 R (c - AN) ((4 * k : Nat) : Int) 4 w3 (by unfold Fits; omega))
            clear F3
            generalize 4 * k = K4 at *
            go_wp2_with (go_at_call 41; fail)
            refine GC.out.mono ?_
            rintro e w4 ⟨rfl, rfl⟩
            go_wp2
            go_ret2
            exact opn_err HRF.out HE.out (by decide) B3.out
          · have GC := Bx.mk (Get_yes A3 R (c - AN) (4 * k) 4 w3 R3.out (by decide) (by decide) (by omega))
            have hnb := numAt_lt R (4 * k) 4 (by omega) R3.out.1
            by_cases hne : numAt R (4 * k) 4 = W
            · have HE : Bx (RF = tlR R out (k + 1)) := ⟨by rw [F3.out, if_neg hlt, if_neg (fun h => h hne)]⟩
              rw [hne] at GC
              clear F3 hlt
              generalize 4 * k = K4 at *
              go_wp2_with (go_at_call 41; fail)
              refine GC.out.mono ?_
              rintro e w4 ⟨rfl, rfl⟩
              go_wp2
              go_round
              case rel => exact ⟨k + 1, by omega, by go_num, HE⟩
              case measure => simp [intOf]; omega
            · have HE : Bx (RF = .error 121) := ⟨by rw [F3.out, if_neg hlt, if_pos hne]⟩
              have hnei : (((numAt R (4 * k) 4 : Nat) : Int) != (W : Int)) = true := by rw [bne_iff_ne]; omega
              clear F3 hlt hne
              generalize numAt R (4 * k) 4 = NA at *
              generalize 4 * k = K4 at *
              go_wp2_with (go_at_call 41; fail)
              refine GC.out.mono ?_
              rintro e w4 ⟨rfl, rfl⟩
              go_wp2
              go_ret2
              exact opn_err HRF.out HE.out (by decide) B3.out
        · obtain rfl : k = 2 := by omega
          have F4 : Bx (RF = if 8 < R.length then .error 120 else .ok out) := FQ
          clear FQ
          by_cases h8 : 8 < R.length
          · have HE : Bx (RF = .error 120) := ⟨by rw [F4.out, if_pos h8]⟩
            have h8i : (8 : Int) < (R.length : Int) := by omega
            go_wp2
            go_ret2
            exact opn_err HRF.out HE.out (by decide) B3.out
          · have HE : Bx (RF = .ok out) := ⟨by rw [F4.out, if_neg h8]⟩
            have h8i : decide ((8 : Int) < (R.length : Int)) = false := decide_eq_false (by omega)
            go_wp2
            go_ret2
            exact opn_good HRF.out HE.out O3.out HBY.out B3.out
end Go.Proofs.YtoekecopfmohiaaDoor
