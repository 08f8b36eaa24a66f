import Derived.Test.YtoekecopfmohiaaDoorGzWorks
/-
  GzipSums: its walk.
-/
namespace Go.Proofs.YtoekecopfmohiaaDoor
open Go.RowKit

/-- the number's bytes, as the law takes them -/
theorem leN_byte (r : List Nat) (hb : ∀ x ∈ r, x < 256) : ∀ (k i : Nat), i + k ≤ r.length → ∀ j, j < k → leN ((r.drop i).take k) / 256 ^ j % 256 = r.getD (i + j) 0
  | 0, _, _, j, h => by omega
  | k + 1, i, hi, j, hj => by
    have hlt : i < r.length := by omega
    have e : (r.drop i).take (k + 1) = r[i] :: (r.drop (i + 1)).take k := by rw [List.drop_eq_getElem_cons hlt, List.take_succ_cons]
    have hx : r[i] < 256 := hb _ (List.getElem_mem hlt)
    rw [e]
    show (r[i] + 256 * leN ((r.drop (i + 1)).take k)) / 256 ^ j % 256 = _
    cases j with
    | zero => simp [List.getElem?_eq_getElem hlt]; omega
    | succ j =>
      have := leN_byte r hb k (i + 1) (by omega) j (by omega)
      rw [Nat.pow_succ, Nat.mul_comm (256 ^ j) 256, ← Nat.div_div_eq_div_mul, show (r[i] + 256 * leN ((r.drop (i + 1)).take k)) / 256 = leN ((r.drop (i + 1)).take k) by omega, this]
      congr 1; omega
theorem Open_err (A : Option Addr) (l : List Nat) (c m : Nat) (w : World) {x : Nat} (hl : RB w A l) (hc : l.length ≤ c) (hm : m ≤ 262144) (hg : Gz w) (h : opnN l m = .error x) :
    Calls Tryd.prog 22 #[.slice A l.length c, .int .i64 (m : Int)] w fun e w' => x ≠ 0 ∧ e = .returned (.tuple #[.slice none 0 0, .int .i64 (x : Int)]) ∧ Below w.heap.size w w' :=
  (Open_calls A l c m w hl hc hm hg).mono fun e w' hp => by unfold OpnPost at hp; rw [h] at hp; exact hp
theorem tail_bytes {L x : List Nat} (hb : ∀ y ∈ L, y < 256) (h18 : 18 ≤ L.length) (h1 : leN ((L.drop (L.length - 8)).take 4) = moreS 0 x) (h2 : leN (L.drop (L.length - 4)) = x.length) :
    (∀ j, j < 4 → moreS 0 x / 256 ^ j % 256 = (L.drop (L.length - 8)).getD j 0) ∧ ∀ j, j < 4 → x.length / 256 ^ j % 256 = (L.drop (L.length - 8)).getD (4 + j) 0 := by
  have hT : (L.drop (L.length - 8)).length = 8 := by rw [List.length_drop]; omega
  have hTb : ∀ y ∈ L.drop (L.length - 8), y < 256 := fun y hy => hb y (List.mem_of_mem_drop hy)
  have e2 : L.drop (L.length - 4) = ((L.drop (L.length - 8)).drop 4).take 4 := by
    rw [List.drop_drop, show L.length - 8 + 4 = L.length - 4 by omega, List.take_of_length_le (by rw [List.length_drop]; omega)]
  rw [e2] at h2
  generalize L.drop (L.length - 8) = T at *
  refine ⟨fun j hj => ?_, fun j hj => ?_⟩
  · rw [← h1]
    have := leN_byte T hTb 4 0 (by omega) j hj
    rw [Nat.zero_add] at this
    exact this
  · rw [← h2]
    exact leN_byte T hTb 4 4 (by omega) j hj
set_option maxRecDepth 100000 in
set_option maxHeartbeats 4000000 in
theorem GzipSums_calls (A : Option Addr) (b : List Nat) (c : Nat) (w : World) (hb : RB w A b) (hc : b.length ≤ c) (hg : Gz w) :
    Calls Tryd.prog 8 #[.slice A b.length c] w fun e w' => e = .returned (.bool true) ∧ Below w.heap.size w w' := by
  have HG := Bx.mk hg
  have HB := Bx.mk hb
  have hlen := hb.2.1
  have W1 := Bx.mk (gworks_calls w hg)
  clear hb hg
  go_enter Tryd.func8, Tryd.ntmps8
  go_wp2_with (go_at_call 20; fail)
  refine W1.out.mono ?_
  rintro e w1 ⟨rfl, hb1⟩
  have B1 := Bx.mk hb1
  clear hb1 W1
  have HC : Bx (b.length ≤ c) := ⟨hc⟩
  by_cases h3 : 3000 < b.length
  case' pos =>
    obtain ⟨L, hL⟩ : ∃ L, L = b.take 3000 := ⟨_, rfl⟩
    have hLl : L.length = 3000 := by rw [hL, List.length_take]; omega
    have k1 : ∀ W, (Instr.slice 22 (.slice A b.length c) none (some (.int .i64 3000)) none).run Tryd.prog W = .ok (.slice A L.length c) W := fun W => by
      rw [hLl]; exact cut_to_bytes A b.length c 3000 (by omega) hc W
    have HL : Bx (RB w1 A L) := ⟨by rw [hL]; exact (HB.out.below B1.out).take 3000⟩
    have HLc : L.length ≤ c := by omega
    have h3i : (3000 : Int) < (b.length : Int) := by omega
    have hLn : L.length ≤ 3000 := by omega
    clear hL hLl
    go_wp2_with (go_at_call 22; fail)
  case' neg =>
    obtain ⟨L, rfl⟩ : ∃ L, L = b := ⟨_, rfl⟩
    have h3i : decide ((3000 : Int) < (L.length : Int)) = false := decide_eq_false (by omega)
    have HL : Bx (RB w1 A L) := ⟨HB.out.below B1.out⟩
    have HLc : L.length ≤ c := hc
    have hLn : L.length ≤ 3000 := by omega
    go_wp2_with (go_at_call 22; fail)
  all_goals
    clear h3i h3
    have HG1 := Bx.mk (HG.out.below B1.out)
    cases hR : opnN L 20000 with
    | error x =>
      refine (Open_err A L c 20000 w1 HL.out HLc (by decide) HG1.out hR).mono ?_
      rintro e w2 ⟨hx, rfl, hb2⟩
      have hx0 : ((x : Int) == 0) = false := beq_false_of_ne (by omega)
      have hx1 : ((x : Int) != 0) = true := by rw [bne_iff_ne]; omega
      clear hR
      have B2 := Bx.mk (below_then B1.out B1.out.size hb2)
      clear hb2
      go_wp2
      go_ret
      exact ⟨rfl, B2.out⟩
    | ok x =>
      have C1 := Bx.mk (Open_ok A L c 20000 w1 HL.out HLc (by decide) HG1.out hR)
      obtain ⟨h18, hcr, hln, hxl⟩ := opn_ok hR
      clear hR
      refine C1.out.mono ?_
      rintro e w2 ⟨v2, rfl, ho2, hlt2, hb2⟩
      have B2 := Bx.mk (below_then B1.out B1.out.size hb2)
      obtain ⟨A2, c2, rfl⟩ := ho2.form
      have X2 := Bx.mk (ho2.rb hlt2 (by omega))
      have HL2 := Bx.mk (HL.out.below hb2)
      clear ho2 hb2 C1 HL HB
      have h18i : decide ((L.length : Int) < 18) = false := decide_eq_false (by omega)
      go_wp2_with (go_at_call 23; fail)
      refine (Sum_calls A2 x c2 w2 X2.out (HG.out.below B2.out).half).mono ?_
      rintro e w3 ⟨rfl, rfl⟩
      have hS : moreS 0 x < 4294967296 := moreS_lt 0 x (by decide) hlt2
      have tb := tail_bytes HL2.out.1 h18 hcr hln
      have AT0 : ∃ a, a = if c = L.length - 8 then A else A.map (·.add (L.length - 8)) := ⟨_, rfl⟩
      obtain ⟨AT, hAT⟩ := AT0
      obtain ⟨T, hT⟩ : ∃ T, T = L.drop (L.length - 8) := ⟨_, rfl⟩
      have hTl : T.length = 8 := by rw [hT, List.length_drop]; omega
      have hsub : IntKind.i64.wrap ((L.length : Int) - 8) = ((L.length - 8 : Nat) : Int) := by rw [IntWalk.i64_in _ (by omega)]; omega
      have k2 : ∀ W, (Instr.slice 22 (.slice A L.length c) (some (.int .i64 ((L.length - 8 : Nat) : Int))) none none).run Tryd.prog W = .ok (.slice AT T.length (c - (L.length - 8))) W := fun W => by
        rw [hAT, hTl]
        have := cut_from_bytes A L.length c (L.length - 8) (by omega) W
        rw [show L.length - (L.length - 8) = 8 by omega] at this
        exact this
      have RT : Bx (RB w2 AT T) := ⟨by rw [hAT, hT]; exact HL2.out.drop (L.length - 8) c HLc⟩
      rw [← hT] at tb
      obtain ⟨tb1, tb2⟩ := tb
      have TB1 := Bx.mk tb1
      have TB2 := Bx.mk tb2
      have HXL : Bx (x.length ≤ 20000) := ⟨hxl⟩
      obtain ⟨ad, rfl, hcell⟩ := RT.out.2.2 (by omega)
      have HCC := Bx.mk hcell
      have HTb := Bx.mk RT.out.1
      clear hlt2 X2 hcr hln hT hAT tb1 tb2 RT HL2 hcell
      generalize moreS 0 x = S at *
      generalize L.length - 8 = L8 at *
      go_wp2
      go_loopw [5, 7] (fun s5 s7 wr => ∃ k : Nat, k ≤ 4 ∧ s7 = .int .i64 (k : Nat) ∧ s5 = .int .u32 ((S / 256 ^ k : Nat) : Int) ∧ wr = w2) (fun _ s7 _ => 4 - (intOf s7).toNat)
      case atStart => exact ⟨0, by decide, rfl, by simp, rfl⟩
      case round =>
        obtain ⟨k, hk, rfl, rfl, rfl⟩ := hrel
        by_cases hlt : k < 4
        · have hcell := HCC.out k (by omega)
          have hst := TB1.out k hlt
          have hk8 : (k : Int) < (T.length : Int) := by omega
          have hkn : k < T.length := by omega
          have hki : (k : Int) < 4 := by omega
          have hnx : S / 256 ^ (k + 1) = S / 256 ^ k / 256 := by rw [Nat.pow_succ, Nat.div_div_eq_div_mul]
          have hSk : S / 256 ^ k < 4294967296 := Nat.lt_of_le_of_lt (Nat.div_le_self _ _) hS
          generalize S / 256 ^ k = SK at *
          have d1 : (SK : Int).tmod 256 = ((SK % 256 : Nat) : Int) := by rw [Int.tmod_eq_emod_of_nonneg (by omega)]; omega
          have d2 : (SK : Int).tdiv 256 = ((SK / 256 : Nat) : Int) := by rw [Int.tdiv_eq_ediv_of_nonneg (by omega)]; omega
          have d3 : IntKind.u32.wrap ((SK % 256 : Nat) : Int) = ((SK % 256 : Nat) : Int) := by simp [IntKind.wrap, IntKind.bits, IntKind.signed]; omega
          have d4 : IntKind.u8.wrap ((SK % 256 : Nat) : Int) = ((SK % 256 : Nat) : Int) := by simp [IntKind.wrap, IntKind.bits, IntKind.signed]
          have d5 : IntKind.u32.wrap ((SK / 256 : Nat) : Int) = ((SK / 256 : Nat) : Int) := by simp [IntKind.wrap, IntKind.bits, IntKind.signed]; omega
          rw [hst] at d1 d3 d4
          generalize T.getD k 0 = X at *
          generalize SK / 256 = SN at *
          go_wp2
          exact ⟨⟨k + 1, by omega, by go_num, by rw [hnx], trivial⟩, by simp [intOf]; omega⟩
        · obtain rfl : k = 4 := by omega
          clear TB1 hS hlt hk
          generalize S / 256 ^ 4 = SE at *
          go_wp2
          go_loopw [8, 9] (fun s8 s9 wq => ∃ k : Nat, k ≤ 4 ∧ s9 = .int .i64 ((4 + k : Nat) : Int) ∧ s8 = .int .i64 ((x.length / 256 ^ k : Nat) : Int) ∧ wq = wr) (fun _ s9 _ => 8 - (intOf s9).toNat)
          case atStart => exact ⟨0, by decide, rfl, by simp, rfl⟩
          case round =>
            obtain ⟨k, hk, rfl, rfl, rfl⟩ := hrel
            by_cases hlt : k < 4
            · have hcell := HCC.out (4 + k) (by omega)
              have hst := TB2.out k hlt
              have hnx : x.length / 256 ^ (k + 1) = x.length / 256 ^ k / 256 := by rw [Nat.pow_succ, Nat.div_div_eq_div_mul]
              have hSk : x.length / 256 ^ k ≤ 20000 := Nat.le_trans (Nat.div_le_self _ _) HXL.out
              generalize x.length / 256 ^ k = SK at *
              have d1 : (SK : Int).tmod 256 = ((SK % 256 : Nat) : Int) := by rw [Int.tmod_eq_emod_of_nonneg (by omega)]; omega
              have d2 : (SK : Int).tdiv 256 = ((SK / 256 : Nat) : Int) := by rw [Int.tdiv_eq_ediv_of_nonneg (by omega)]; omega
              have d3 : IntKind.i64.wrap ((SK % 256 : Nat) : Int) = ((SK % 256 : Nat) : Int) := IntWalk.i64_in _ (by omega)
              have d4 : IntKind.u8.wrap ((SK % 256 : Nat) : Int) = ((SK % 256 : Nat) : Int) := by simp [IntKind.wrap, IntKind.bits, IntKind.signed]
              have d5 : IntKind.i64.wrap ((SK / 256 : Nat) : Int) = ((SK / 256 : Nat) : Int) := IntWalk.i64_in _ (by omega)
              rw [hst] at d1 d3 d4
              generalize T.getD (4 + k) 0 = X at *
              generalize SK / 256 = SN at *
              obtain ⟨K4, hK4⟩ : ∃ K4, K4 = 4 + k := ⟨_, rfl⟩
              rw [← hK4] at hcell
              rw [← hK4]
              have hk8 : (K4 : Int) < (T.length : Int) := by omega
              have hkn : K4 < T.length := by omega
              have hki : (K4 : Int) < 8 := by omega
              have HK4 := Bx.mk hK4
              clear hK4
              go_wp2
              have hK4 := HK4.out
              exact ⟨⟨k + 1, by omega, by go_num, by rw [hnx], trivial⟩, by simp [intOf]; omega⟩
            · obtain rfl : k = 4 := by omega
              have hz : x.length / 256 ^ 4 = 0 := by have := HXL.out; omega
              rw [hz]
              go_wp2
              go_ret
              exact ⟨rfl, B2.out⟩
end Go.Proofs.YtoekecopfmohiaaDoor
