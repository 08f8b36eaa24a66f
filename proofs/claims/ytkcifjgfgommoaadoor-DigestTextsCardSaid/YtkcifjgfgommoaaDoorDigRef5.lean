import Derived.Test.YtkcifjgfgommoaaDoorDigRef4
import Derived.Test.YtkcifjgfgommoaaDoorArrEq
/-
  The reference's Keyed, walked.
-/
namespace Go.Proofs.YtkcifjgfgommoaaDoor
open Go.RowKit

theorem OB.cap {w : World} {base : Nat} {A : Option Addr} {n c : Nat} {l : List Nat} (h : OB w base (.slice A n c) l) : l.length ≤ c := by
  rcases h.2 with ⟨_, h0⟩ | ⟨g, cap, cur, he, _, _, hnc, _⟩
  · omega
  · simp only [Value.slice.injEq] at he
    obtain ⟨_, _, rfl⟩ := he
    exact hnc
theorem z32_blk (w : World) (h : List Nat) : Blk (w.alloc (.cells #[.int .u8 0, .int .u8 0, .int .u8 0, .int .u8 0, .int .u8 0, .int .u8 0, .int .u8 0, .int .u8 0, .int .u8 0, .int .u8 0, .int .u8 0, .int .u8 0, .int .u8 0, .int .u8 0, .int .u8 0, .int .u8 0, .int .u8 0, .int .u8 0, .int .u8 0, .int .u8 0, .int .u8 0, .int .u8 0, .int .u8 0, .int .u8 0, .int .u8 0, .int .u8 0, .int .u8 0, .int .u8 0, .int .u8 0, .int .u8 0, .int .u8 0, .int .u8 0] 24)) w.heap.size 24 (u8s (outK h 0)) := by
  have : u8s (outK h 0) = #[.int .u8 0, .int .u8 0, .int .u8 0, .int .u8 0, .int .u8 0, .int .u8 0, .int .u8 0, .int .u8 0, .int .u8 0, .int .u8 0, .int .u8 0, .int .u8 0, .int .u8 0, .int .u8 0, .int .u8 0, .int .u8 0, .int .u8 0, .int .u8 0, .int .u8 0, .int .u8 0, .int .u8 0, .int .u8 0, .int .u8 0, .int .u8 0, .int .u8 0, .int .u8 0, .int .u8 0, .int .u8 0, .int .u8 0, .int .u8 0, .int .u8 0, .int .u8 0] := by rw [outK_zero]; rfl
  rw [this]
  exact Blk.new w _ _
set_option maxRecDepth 100000 in
set_option maxHeartbeats 8000000 in
theorem rKeyed_calls (A B : Option Addr) (key b : List Nat) (c d : Nat) (w : World) (hk : key.length ≤ 32) (hA : RB w A key) (hB : RB w B b) (hb5 : b.length ≤ 20000) :
    Calls Tryd.prog 18 #[.slice A key.length c, .slice B b.length d] w fun e w' =>
      e = .returned (.tuple #[.agg (u8s (keyedN key b)), .int .i64 0]) ∧ Below w.heap.size w w' := by
  have HA := Bx.mk hA; have HB := Bx.mk hB
  have HRUN := Bx.mk (ref_run key b hk)
  have HFI : Bx (ivL.set 0 ((1779033703 ^^^ 16842784) ^^^ (256 * key.length)) = firstH key.length) := ⟨by rw [xor_first _ hk]; rfl⟩
  have HFL : Bx ((firstH key.length).length = 8 ∧ W32 (firstH key.length)) := ⟨firstH_len _, firstH_w32 _ hk⟩
  have kint : (key.length : Int) ≤ 32 := by omega
  have hkg : decide ((32 : Int) < (key.length : Int)) = false := by simp; omega
  have x1 : bits .xor .u32 1779033703 16842784 = ((1779033703 ^^^ 16842784 : Nat) : Int) := u32_xor_nat 1779033703 16842784 (by omega) (by omega)
  have x2 := u32_xor_nat (1779033703 ^^^ 16842784) (256 * key.length) (by decide) (by omega)
  have hw1 : IntKind.u32.wrap ((256 * key.length : Nat) : Int) = ((256 * key.length : Nat) : Int) := by rw [IntKind.wrap_u32]; omega
  have hmul : 256 * (key.length : Int) = ((256 * key.length : Nat) : Int) := by omega
  generalize (1779033703 ^^^ 16842784) ^^^ (256 * key.length) = N2 at *
  generalize 1779033703 ^^^ 16842784 = N1 at *
  generalize 256 * key.length = n256 at *
  clear hA hB
  go_enter Tryd.func18, Tryd.ntmps18
  go_wp2_with fail
  have Z4 : Bx (Blk (w.alloc (.cells #[.int .u8 0, .int .u8 0, .int .u8 0, .int .u8 0, .int .u8 0, .int .u8 0, .int .u8 0, .int .u8 0, .int .u8 0, .int .u8 0, .int .u8 0, .int .u8 0, .int .u8 0, .int .u8 0, .int .u8 0, .int .u8 0, .int .u8 0, .int .u8 0, .int .u8 0, .int .u8 0, .int .u8 0, .int .u8 0, .int .u8 0, .int .u8 0, .int .u8 0, .int .u8 0, .int .u8 0, .int .u8 0, .int .u8 0, .int .u8 0, .int .u8 0, .int .u8 0] 24)) w.heap.size 24 (u8s Z32)) := ⟨Blk.new w _ _⟩
  have E1 := Bx.mk (below_alloc1 w (.cells #[.int .u8 0, .int .u8 0, .int .u8 0, .int .u8 0, .int .u8 0, .int .u8 0, .int .u8 0, .int .u8 0, .int .u8 0, .int .u8 0, .int .u8 0, .int .u8 0, .int .u8 0, .int .u8 0, .int .u8 0, .int .u8 0, .int .u8 0, .int .u8 0, .int .u8 0, .int .u8 0, .int .u8 0, .int .u8 0, .int .u8 0, .int .u8 0, .int .u8 0, .int .u8 0, .int .u8 0, .int .u8 0, .int .u8 0, .int .u8 0, .int .u8 0, .int .u8 0] 24))
  generalize w.alloc (.cells #[.int .u8 0, .int .u8 0, .int .u8 0, .int .u8 0, .int .u8 0, .int .u8 0, .int .u8 0, .int .u8 0, .int .u8 0, .int .u8 0, .int .u8 0, .int .u8 0, .int .u8 0, .int .u8 0, .int .u8 0, .int .u8 0, .int .u8 0, .int .u8 0, .int .u8 0, .int .u8 0, .int .u8 0, .int .u8 0, .int .u8 0, .int .u8 0, .int .u8 0, .int .u8 0, .int .u8 0, .int .u8 0, .int .u8 0, .int .u8 0, .int .u8 0, .int .u8 0] 24) = w1 at *
  refine (start_calls w1).mono ?_
  rintro e w2 ⟨v2, rfl, ho2, hb2⟩
  obtain ⟨A2, c2, rfl⟩ := ho2.form
  rw [show ivL.length = 8 from rfl] at ho2 ⊢
  obtain ⟨gh, rfl, -⟩ := ho2.opened (by decide)
  have hlt2 := ho2.lt (by decide)
  obtain ⟨ch0, fh0⟩ := ho2.at_ 0 (by decide)
  have O3 := ho2.put 0 N2
  rw [HFI.out] at O3
  have OH : Bx (OW (w2.setCell ⟨gh, 0, none⟩ (.int .u32 (N2 : Int))) w1.heap.size (.slice (some ⟨gh, 0, none⟩) 8 c2) (firstH key.length)) := ⟨O3⟩
  have Z42 : Bx (Blk (w2.setCell ⟨gh, 0, none⟩ (.int .u32 (N2 : Int))) w.heap.size 24 (u8s Z32)) := ⟨(Z4.out.below hb2 Z4.out.lt).far (by show w.heap.size ≠ gh; have := Z4.out.lt; omega) _⟩
  have E3 : Bx (Below w.heap.size w (w2.setCell ⟨gh, 0, none⟩ (.int .u32 (N2 : Int)))) := ⟨(below_then E1.out E1.out.size hb2).setCell (p := ⟨gh, 0, none⟩) (by show w.heap.size ≤ gh; have := E1.out.size; omega) _⟩
  have HG : Bx (w.heap.size < w1.heap.size) := ⟨Z4.out.lt⟩
  have ch1 : w2.cell? ⟨gh, 0, none⟩ = some (.int .u32 1779033703) := ch0
  clear ho2 hb2 O3 ch0 Z4 E1
  have hwi : IntKind.i64.wrap (n256 : Int) = n256 := by rw [IntKind.wrap_i64]; omega
  go_upto_region 5 with fail
  clear x1 x2 hw1 hmul hwi fh0 ch1
  generalize w2.setCell ⟨gh, 0, none⟩ (.int .u32 (N2 : Int)) = w3 at *
  have OM : Bx (OB (w3.alloc (.cells #[] 5)) w3.heap.size (.slice (some ⟨w3.heap.size, 0, none⟩) 0 0) []) := ⟨own_empty w3⟩
  have OH4 := Bx.mk (OH.out.kept (below_alloc1 w3 (.cells #[] 5)))
  have E4 := Bx.mk (E3.out.alloc E3.out.size (.cells #[] 5))
  have HSZ : Bx (w.heap.size ≤ w3.heap.size) := ⟨E3.out.size⟩
  have EE : Bx (Below w3.heap.size w3 (w3.alloc (.cells #[] 5))) := ⟨below_alloc1 w3 _⟩
  go_upto_if 33 with fail
  generalize hw4 : w3.alloc (.cells #[] 5) = w4 at *
  have HW4 := Bx.mk hw4
  clear hw4
  go_cut [7] (fun s7 wx => ∃ A7 c7, s7 = .slice A7 (if key.length = 0 then ([] : List Nat) else pad key).length c7 ∧ Bx (OB wx w3.heap.size (.slice A7 (if key.length = 0 then ([] : List Nat) else pad key).length c7) (if key.length = 0 then [] else pad key)) ∧ Bx (Below w3.heap.size w3 wx))
  case first => as_aux_lemma =>
    by_cases hk0 : key.length = 0
    · have h0 : ¬ 0 < key.length := by omega
      have HK0 := Bx.mk hk0
      clear hk0
      go_wp2
      go_meet
      case rel => exact ⟨_, _, by rw [if_pos HK0.out]; rfl, by rw [if_pos HK0.out]; exact OM, EE⟩
    · have h0 : 0 < key.length := by omega
      have HK0 := Bx.mk hk0
      have RA : Bx (RB w4 A key) := ⟨HA.out.below E4.out⟩
      have hln : Bx (([] : List Nat).length + key.length ≤ 140737488355328) := ⟨by simp; omega⟩
      have hz4 : Bx (w3.heap.size ≤ w4.heap.size) := ⟨EE.out.size⟩
      have hm0 : 0 < 64 - key.length := by omega
      have hmi : IntKind.i64.wrap (64 - (key.length : Int)) = ((64 - key.length : Nat) : Int) := by rw [IntKind.wrap_i64]; omega
      have hmj : (64 : Int) - (key.length : Int) = ((64 - key.length : Nat) : Int) := by omega
      have hbnd : Bx (key.length + (64 - key.length) ≤ 1000000) := ⟨by omega⟩
      have HPK : Bx (key ++ List.replicate (64 - key.length) 0 = pad key) := ⟨by unfold pad; rw [List.take_of_length_le (by omega)]⟩
      generalize 64 - key.length = m at *
      clear hk0
      go_wp2_with (first | (at_builtin; refine wpList_append_bytes (o := ⟨some 36, _, _, _, _, _⟩) w4 rfl (.tmp 34) (.tmp 35) rfl w3.heap.size _ [] key (by rfl) OM.out A c (by rfl) RA.out hln.out hz4.out ?_; intro v5 w5 ho5 hg5 _; have O5 : Bx (OB w5 w3.heap.size v5 key) := ⟨ho5⟩; have E5 : Bx (Below w3.heap.size w3 w5) := ⟨EE.out.grown hg5 hz4.out (fun k hk => own_block OM.out k hk)⟩; clear ho5 hg5 OM EE RA hln hz4) | (at_builtin; refine wpList_append_zeros (o := ⟨some 40, _, _, _, _, _⟩) _ rfl (.tmp 36) (.tmp 39) rfl w3.heap.size _ key m (by rfl) O5.out (by rfl) h0 hm0 hbnd.out E5.out.size ?_; intro v6 w6 ho6 hg6; have O6 : Bx (OB w6 w3.heap.size v6 (pad key)) := ⟨by rw [← HPK.out]; exact ho6⟩; have E6 : Bx (Below w3.heap.size w3 w6) := ⟨E5.out.grown hg6 E5.out.size (fun k hk => own_block O5.out k hk)⟩; clear ho6 hg6 O5 E5))
      obtain ⟨A6, c6, rfl⟩ := O6.out.form
      go_meet
      case rel => exact ⟨A6, c6, by rw [if_neg HK0.out], by rw [if_neg HK0.out]; exact O6, E6⟩
  case rest =>
    obtain ⟨A7, c7, rfl, OM7, E7⟩ := hcut
    clear OM EE HW4 OH4 E4
    have RBb : Bx (RB wc B b) := ⟨HB.out.below (below_then E3.out E3.out.size E7.out)⟩
    have HPM : Bx ((if key.length = 0 then ([] : List Nat) else pad key).length ≤ 64) := ⟨by split; simp; rw [pad_len]; exact Nat.le_refl _⟩
    have HML : Bx ((if key.length = 0 then ([] : List Nat) else pad key).length + b.length ≤ 140737488355328) := ⟨by have := HPM.out; omega⟩
    have HSZ7 : Bx (w3.heap.size ≤ wc.heap.size) := ⟨E7.out.size⟩
    have HRM : Bx ((if key.length = 0 then ([] : List Nat) else pad key) ++ b = refM key b) := ⟨rfl⟩
    have HRL : Bx ((refM key b).length ≤ 20064) := ⟨by rw [← HRM.out, List.length_append]; have := HPM.out; omega⟩
    have HBM : Bx (∀ x ∈ refM key b, x < 256) := ⟨fun x hx => by
      rw [← HRM.out] at hx
      rcases List.mem_append.1 hx with h | h
      · split at h
        · cases h
        · exact pad_mem HA.out.1 x h
      · exact HB.out.1 x h⟩
    generalize (if key.length = 0 then ([] : List Nat) else pad key) = PM at *
    go_upto_region 9 with (at_builtin; refine wpList_append_bytes _ rfl (.tmp 41) (.tmp 42) rfl w3.heap.size _ PM b (by rfl) OM7.out B d (by rfl) RBb.out HML.out HSZ7.out ?_; intro v8 w8 ho8 hg8 _; have O8 : Bx (OB w8 w3.heap.size v8 (refM key b)) := ⟨by rw [← HRM.out]; exact ho8⟩; have E8 : Bx (Below w3.heap.size w3 w8) := ⟨E7.out.grown hg8 HSZ7.out (fun k hk => own_block OM7.out k hk)⟩; clear ho8 hg8)
    obtain ⟨A8, c8, rfl⟩ := O8.out.form
    clear OM7 E7 RBb HML HSZ7 HPM HRM
    generalize refM key b = M at *
    have hu := upT_ge M.length
    have HU := Bx.mk hu
    have hML : M.length ≤ 20064 := HRL.out
    go_upto_block 0 with fail
    obtain ⟨SZ, hSZ⟩ : ∃ n, n = M.length := ⟨_, rfl⟩
    obtain ⟨T, hT⟩ : ∃ n, n = upT M.length := ⟨_, rfl⟩
    rw [← hT, ← hSZ] at hu
    have HSZ' := Bx.mk hSZ
    have HT := Bx.mk hT
    have hT2 : T ≤ 20128 := by split at hu <;> omega
    clear hu
    rw [← hSZ]
    clear hSZ hT
    have hszl : SZ ≤ 20064 := by rw [HSZ'.out]; exact HRL.out
    clear hML
    have O9 : Bx (OB w8 w3.heap.size (.slice A8 SZ c8) (M ++ List.replicate 0 0)) := ⟨by rw [HSZ'.out, List.replicate_zero, List.append_nil]; exact O8.out⟩
    clear O8
    go_cut [7] (fun s7 wx => ∃ (A9 : Option Addr) (c9 : Nat), s7 = .slice A9 T c9 ∧ Bx (OB wx w3.heap.size (.slice A9 T c9) (M ++ List.replicate (T - SZ) 0)) ∧ Bx (Below w3.heap.size w3 wx))
    case first => as_aux_lemma =>
      go_wp2_with fail
      go_loopw [7] (fun v w' => ∃ (A9 : Option Addr) (n c9 : Nat), v = .slice A9 (SZ + n) c9 ∧ SZ + n ≤ T ∧ Bx (OB w' w3.heap.size (.slice A9 (SZ + n) c9) (M ++ List.replicate n 0)) ∧ Bx (Below w3.heap.size w3 w')) (fun v _ => T - bsize v)
      case atStart => exact ⟨A8, 0, c8, rfl, by have := HU.out.1; rw [← HT.out, ← HSZ'.out] at this; exact this, O9, E8⟩
      case round =>
        obtain ⟨A9, n, c9, rfl, hnT, ON, EN⟩ := hrel
        have hTU : T % 64 = 0 ∧ 0 < T ∧ T < SZ + 64 + (if SZ = 0 then 1 else 0) ∧ SZ ≤ T := by have := HU.out; rw [← HT.out, ← HSZ'.out] at this; exact ⟨this.2.1, this.2.2.1, this.2.2.2, this.1⟩
        by_cases hlt : SZ + n < T
        · have hcond : (SZ = 0 ∧ SZ + n = 0) ∨ (¬ (SZ = 0 ∧ SZ + n = 0) ∧ (SZ + n) % 64 ≠ 0) := by
            by_cases h1 : SZ = 0 ∧ SZ + n = 0
            · exact .inl h1
            · refine .inr ⟨h1, ?_⟩
              obtain ⟨a1, a2, a3, a4⟩ := hTU
              split at a3 <;> omega
          have hTI : (SZ : Int) + (n : Int) < T := by omega
          have RL := Bx.mk (RB.lit wr 5 [0] #[.int .u8 0] rfl (by simp) (by decide))
          have OK2 := Bx.mk (ON.out.kept (below_alloc1 wr (.cells #[.int .u8 0] 5)))
          have HLN : Bx ((M ++ List.replicate n 0).length + [0].length ≤ 140737488355328) := ⟨by simp; rw [← HSZ'.out]; omega⟩
          have EN2 := Bx.mk (EN.out.alloc EN.out.size (.cells #[.int .u8 0] 5))
          have HEQ : Bx (M ++ List.replicate n 0 ++ [0] = M ++ List.replicate (n + 1) 0) := ⟨by rw [List.append_assoc, List.replicate_succ' (n := n)]⟩
          clear hTU
          obtain ⟨S2, hS2⟩ : ∃ S2 : Nat, S2 = SZ + n := ⟨_, rfl⟩
          rw [← hS2] at hcond OK2 ⊢
          have HS2 := Bx.mk hS2
          have hS2b : S2 < T := by omega
          clear ON EN hS2
          have hgoal : ∀ (b1 b2 b3 : Bool), ((SZ : Int) == 0) = b1 → ((S2 : Int) == 0) = b2 → (((S2 : Int) % 64) != 0) = b3 → (b1 = true ∧ b2 = true) ∨ (b1 = true ∧ b2 = false ∧ b3 = true) ∨ (b1 = false ∧ b3 = true) := fun b1 b2 b3 h1 h2 h3 => by
            rcases hcond with ⟨ha, hb⟩ | ⟨ha, hb⟩
            · left; rw [← h1, ← h2, ha, hb]; exact ⟨rfl, rfl⟩
            · have h4 : b3 = true := by rw [← h3, bne_iff_ne]; omega
              by_cases hz : SZ = 0
              · right; left
                refine ⟨by rw [← h1, hz]; rfl, ?_, h4⟩
                rw [← h2]; exact beq_false_of_ne (by omega)
              · right; right
                exact ⟨by rw [← h1]; exact beq_false_of_ne (by omega), h4⟩
          generalize hb1 : ((SZ : Int) == 0) = b1 at hgoal
          generalize hb2 : ((S2 : Int) == 0) = b2 at hgoal
          generalize hb3 : (((S2 : Int) % 64) != 0) = b3 at hgoal
          have hg := hgoal b1 b2 b3 rfl rfl rfl
          clear hgoal hcond
          rcases hg with ⟨rfl, rfl⟩ | ⟨rfl, rfl, rfl⟩ | ⟨rfl, rfl⟩
          all_goals
            go_wp2_with (at_builtin; refine wpList_append_bytes _ rfl (.tmp 59) (.tmp 60) rfl w3.heap.size _ (M ++ List.replicate n 0) [0] (by rfl) OK2.out (some ⟨wr.heap.size, 0, none⟩) 1 (by rfl) RL.out HLN.out EN2.out.size ?_; intro v' w' ho' hg _; have OZ : Bx (OB w' w3.heap.size v' (M ++ List.replicate (n + 1) 0)) := ⟨by rw [← HEQ.out]; exact ho'⟩; have EZ : Bx (Below w3.heap.size w3 w') := ⟨EN2.out.grown hg EN2.out.size (fun k hk => own_block OK2.out k hk)⟩; clear ho' hg)
            obtain ⟨A10, c10, hv10⟩ := OZ.out.form
            have hv11 : (M ++ List.replicate (n + 1) 0).length = SZ + (n + 1) := by rw [List.length_append, List.length_replicate, ← HSZ'.out]
            rw [hv11] at hv10
            subst hv10
            clear hv11
            go_roundw
            case rel => exact ⟨A10, n + 1, c10, rfl, by have := HS2.out; omega, OZ, EZ⟩
            case measure => simp [bsize]; have := HS2.out; omega
        · have hTe : SZ + n = T := by omega
          have hb2 : ((T : Int) == 0) = false := beq_false_of_ne (by omega)
          have hb3 : (((T : Int) % 64) != 0) = false := by
            have : (T : Int) % 64 = 0 := by omega
            rw [this]; rfl
          rw [hTe] at ON ⊢
          have HN : Bx (T - SZ = n) := ⟨by omega⟩
          clear hTe hlt hTU hnT
          generalize hb1 : ((SZ : Int) == 0) = b1
          cases b1
          all_goals
            go_wp2_with fail
            go_meet
            case rel => exact ⟨A9, c9, rfl, by rw [HN.out]; exact ON, EN⟩
    case rest =>
      obtain ⟨A9, c9, rfl, O10, E10⟩ := hcut
      clear O9 E8
      have hTU : T % 64 = 0 ∧ 0 < T ∧ SZ ≤ T := by have := HU.out; rw [← HT.out, ← HSZ'.out] at this; exact ⟨this.2.1, this.2.2.1, this.1⟩
      have HMPL : Bx ((M ++ List.replicate (T - SZ) 0).length = T) := ⟨by rw [List.length_append, List.length_replicate, ← HSZ'.out]; omega⟩
      have HMB : Bx (RB wc A9 (M ++ List.replicate (T - SZ) 0)) := ⟨by
        exact O10.out.rb' (fun x hx => by
          rcases List.mem_append.1 hx with h | h
          · exact HBM.out x h
          · rw [List.eq_of_mem_replicate h]; omega) (by rw [HMPL.out]; omega)⟩
      have HCAP : T ≤ c9 := by have := O10.out.cap; rw [HMPL.out] at this; exact this
      have RH : Bx (RW wc (some ⟨gh, 0, none⟩) (firstH key.length)) := ⟨(OH.out.kept E10.out).rw_⟩
      have HKH : Bx (restN (firstH key.length) M 0 = keyH key b) := ⟨by unfold restN; rw [← HT.out, if_pos hTU.2.1]; exact HRUN.out⟩
      have HREST : Bx (∀ (h : List Nat) (i : Nat), i < T → i % 64 = 0 → i ≤ SZ → restN h M i = restN (pressN h (((M ++ List.replicate (T - SZ) 0).drop i).take 64) (if T ≤ i + 64 then SZ else i + 64) (decide (T ≤ i + 64))) M (i + 64)) := ⟨fun h i h1 h2 h3 => by
        have := rest_step h M i (by rw [← HT.out]; exact h1) h2 (by rw [← HSZ'.out]; exact h3)
        rw [← HT.out, ← HSZ'.out] at this
        exact this⟩
      have HEND : Bx (∀ (h : List Nat), restN h M T = h) := ⟨fun h => by unfold restN; rw [← HT.out, if_neg (by omega)]⟩
      have HTS : Bx (T < SZ + 64 + (if SZ = 0 then 1 else 0)) := ⟨by have := HU.out.2.2.2; rw [← HT.out, ← HSZ'.out] at this; exact this⟩
      have HE10 : Bx (Below w.heap.size w wc) := ⟨below_then E3.out E3.out.size E10.out⟩
      have Z10 : Bx (Blk wc w.heap.size 24 (u8s Z32)) := ⟨Z42.out.below E10.out Z42.out.lt⟩
      clear O10 OH HRUN E10 E3 Z42
      generalize M ++ List.replicate (T - SZ) 0 = MP at *
      have HKD : Bx (keyedN key b = outK (keyH key b) 32) := ⟨rfl⟩
      generalize keyH key b = KH at *
      go_wp2_with fail
      go_loopw [6, 9] (fun s6 s9 w' => ∃ (Ah : Option Addr) (ch i : Nat) (h : List Nat), s6 = .slice Ah 8 ch ∧ s9 = .int .i64 i ∧ i % 64 = 0 ∧ i ≤ T ∧ Bx (RW w' Ah h) ∧ Bx (h.length = 8 ∧ W32 h) ∧ Bx (restN h M i = KH) ∧ Bx (Below wc.heap.size wc w')) (fun _ s9 _ => T - (intOf s9).toNat)
      case atStart => exact ⟨_, _, 0, _, rfl, rfl, rfl, by omega, RH, HFL, HKH, ⟨Below.refl _ _⟩⟩
      case round => as_aux_lemma =>
        obtain ⟨Ah, ch, i, h, rfl, rfl, hi64, hiT, RHh, HLh, HKh, EW⟩ := hrel
        by_cases hlt : i < T
        · have hiS : i ≤ SZ := by have := HTS.out; split at this <;> omega
          have hcut : i + 64 ≤ T := by omega
          have HST := Bx.mk (HREST.out h i hlt hi64 hiS)
          have hsl : ∀ W, (Instr.slice 22 (.slice A9 T c9) (some (.int .i64 (i : Int))) (some (.int .i64 ((i : Int) + 64))) none).run Tryd.prog W = .ok (.slice (if c9 = i then A9 else A9.map (·.add i)) 64 (c9 - i)) W := fun W => by
            have := cut_mid_bytes A9 T c9 i (i + 64) (by omega) hcut HCAP W
            rw [show i + 64 - i = 64 by omega, show ((i + 64 : Nat) : Int) = (i : Int) + 64 by omega] at this
            exact this
          have RB9 := Bx.mk ((((HMB.out.below EW.out).drop i c9 (by rw [HMPL.out]; exact HCAP)).take 64))
          have HB64 : Bx (((MP.drop i).take 64).length = 64) := ⟨by rw [List.length_take, List.length_drop, HMPL.out]; omega⟩
          have hint : (i : Int) < (T : Int) := by omega
          have BC := Bx.mk (fun (tk : Nat) (lst : Bool) (htk : tk < 9223372036854775808) => block_calls Ah (if c9 = i then A9 else A9.map (·.add i)) h ((MP.drop i).take 64) ch (c9 - i) tk lst wr RHh.out HLh.out.1 HLh.out.2 RB9.out HB64.out (by omega) htk)
          have HPL := Bx.mk (fun (tk : Nat) (lst : Bool) => pressN_len h ((MP.drop i).take 64) tk lst)
          have HPW := Bx.mk (fun (tk : Nat) (lst : Bool) (htk : tk < 18446744073709551616) => pressN_w32 HLh.out.2 HLh.out.1 ((MP.drop i).take 64) tk htk lst)
          generalize (if c9 = i then A9 else A9.map (·.add i)) = B2 at *
          generalize (MP.drop i).take 64 = BB at *
          by_cases hlast : T ≤ i + 64
          · as_aux_lemma =>
            have hl1 : (T : Int) ≤ (i : Int) + 64 := by omega
            rw [if_pos hlast, decide_eq_true hlast] at HST
            have BC1 := Bx.mk (BC.out SZ true (by omega))
            have HP1 : Bx ((pressN h BB SZ true).length = 8 ∧ W32 (pressN h BB SZ true)) := ⟨HPL.out _ _, HPW.out _ _ (by omega)⟩
            clear BC HPL HPW hlast RB9
            go_wp2_with fail
            refine BC1.out.mono ?_
            rintro e w6 ⟨v6, rfl, ho6, hb6⟩
            obtain ⟨A6, c6, rfl⟩ := ho6.form
            rw [HP1.out.1] at ho6 ⊢
            have RH6 := Bx.mk ho6.rw_
            have EW6 := Bx.mk (below_then EW.out EW.out.size hb6)
            clear ho6 hb6 BC1
            go_wp2_with fail
            go_roundw
            case rel => exact ⟨A6, c6, i + 64, _, rfl, by go_num, by omega, by omega, RH6, HP1, ⟨by rw [← HST.out]; exact HKh.out⟩, EW6⟩
            case measure => simp [intOf]; omega
          · as_aux_lemma =>
            have hl1 : ¬ (T : Int) ≤ (i : Int) + 64 := by omega
            rw [if_neg hlast, decide_eq_false hlast] at HST
            have BC1 := Bx.mk (BC.out (i + 64) false (by omega))
            have HP1 : Bx ((pressN h BB (i + 64) false).length = 8 ∧ W32 (pressN h BB (i + 64) false)) := ⟨HPL.out _ _, HPW.out _ _ (by omega)⟩
            simp only [Int.natCast_add] at BC1
            clear BC HPL HPW hlast RB9
            go_wp2_with fail
            refine BC1.out.mono ?_
            rintro e w6 ⟨v6, rfl, ho6, hb6⟩
            obtain ⟨A6, c6, rfl⟩ := ho6.form
            rw [HP1.out.1] at ho6 ⊢
            have RH6 := Bx.mk ho6.rw_
            have EW6 := Bx.mk (below_then EW.out EW.out.size hb6)
            clear ho6 hb6 BC1
            go_wp2_with fail
            go_roundw
            case rel => exact ⟨A6, c6, i + 64, _, rfl, by go_num, by omega, by omega, RH6, HP1, ⟨by rw [← HST.out]; exact HKh.out⟩, EW6⟩
            case measure => simp [intOf]; omega
        · as_aux_lemma =>
          obtain rfl : i = T := by omega
          have HKE : Bx (h = KH) := ⟨by rw [← HKh.out, HEND.out]⟩
          have hti : ¬ (i : Int) < (i : Int) := by omega
          have HZ : Bx (Z32.length = 32) := ⟨rfl⟩
          have Z11 : Bx (Blk wr w.heap.size 24 (u8s Z32)) := ⟨Z10.out.below EW.out Z10.out.lt⟩
          have HE11 : Bx (Below w.heap.size w wr) := ⟨below_then HE10.out HE10.out.size EW.out⟩
          clear hlt Z10 HE10 EW HMB HREST HEND HKH HKh
          go_upto_region 20 with fail
          refine wp_region_lit ?_
          refine wpList_plain rfl (fun K hK => ?_)
          go_simp
          refine hK _ _ ?_
          clear hK K
          refine wpList_plain rfl (fun K hK => ?_)
          go_simp
          refine hK _ _ ?_
          clear hK K
          refine wpList_store_new wr Z32 HZ.out rfl (.tmp 12) (.tmp 86) rfl rfl rfl ?_
          intro w7 k7 hb7
          have RH7 := Bx.mk (RHh.out.below hb7)
          have K7 : Bx (Blk w7 wr.heap.size 24 (u8s (outK h 0))) := ⟨by rw [outK_zero]; exact k7⟩
          clear k7
          have HQ : Bx (w.heap.size < wr.heap.size) := ⟨Z11.out.lt⟩
          have EE7 := Bx.mk hb7
          clear hb7
          generalize wr = wE at *
          obtain ⟨q12, hq12⟩ : ∃ q, q = wE.heap.size := ⟨_, rfl⟩
          rw [← hq12] at K7 ⊢
          have HQ12 := Bx.mk hq12
          clear hq12
          go_wp2_with fail
          go_loopw [13] (fun i w' => ∃ k : Nat, k ≤ 32 ∧ i = .int .i64 k ∧ Bx (Blk w' q12 24 (u8s (outK h k))) ∧ Bx (Below wE.heap.size wE w')) (fun i _ => 32 - (intOf i).toNat)
          case atStart => exact ⟨0, by omega, rfl, K7, EE7⟩
          case round => as_aux_lemma =>
            obtain ⟨k, hk, rfl, KK, EK⟩ := hrel
            by_cases hlt : k < 32
            · obtain ⟨ad, rfl, hcell⟩ := RHh.out (by rw [HLh.out.1]; decide)
              obtain ⟨a, r, ha, hr, rfl⟩ : ∃ a r, a < 8 ∧ r < 4 ∧ k = 4 * a + r := ⟨k / 4, k % 4, by omega, by omega, by omega⟩
              have c0 : wr.cell? (ad.add a) = some (.int .u32 ((h.getD a 0 : Nat) : Int)) := cell_below EK.out (hcell a (by rw [HLh.out.1]; exact ha))
              have hX := HLh.out.2.get a
              have f0 := KK.out.frozen (4 * a + r)
              have cr : wr.cell? ⟨q12, 4 * a + r, none⟩ = some (.int .u8 (((outK h (4 * a + r)).getD (4 * a + r) 0 : Nat) : Int)) := (KK.out.cell _).trans (u8s_get _ _ (by rw [outK_len]; exact hlt))
              have SN : Bx (Blk (wr.setCell ⟨q12, 4 * a + r, none⟩ (.int .u8 (((h.getD a 0 >>> (8 * r)) % 256 : Nat) : Int))) q12 24 (u8s (outK h (4 * a + r + 1)))) := ⟨by
                have h1 := KK.out.set_ (4 * a + r) (.int .u8 (((h.getD a 0 >>> (8 * r)) % 256 : Nat) : Int))
                have h2 := outK_set h (4 * a + r) hlt
                rw [show (4 * a + r) / 4 = a by omega, show (4 * a + r) % 4 = r by omega] at h2
                rw [← h2]
                unfold u8s at h1 ⊢
                rwa [List.setIfInBounds_toArray, ← List.map_set (f := fun (x : Nat) => Value.int .u8 (x : Int))] at h1⟩
              have EN : Bx (Below wE.heap.size wE (wr.setCell ⟨q12, 4 * a + r, none⟩ (.int .u8 (((h.getD a 0 >>> (8 * r)) % 256 : Nat) : Int)))) := ⟨EK.out.setCell (p := ⟨q12, 4 * a + r, none⟩) (by show _ ≤ q12; rw [HQ12.out]; exact Nat.le_refl _) _⟩
              generalize (outK h (4 * a + r)).getD (4 * a + r) 0 = OLD at *
              generalize h.getD a 0 = X at *
              have ik : (a : Int) < 8 := by omega
              have e1 : (4 * (a : Int)) / 4 = a := by omega
              have e2 : (4 * (a : Int)) % 4 = 0 := by omega
              have e3 : (4 * (a : Int) + 1) / 4 = a := by omega
              have e4 : (4 * (a : Int) + 1) % 4 = 1 := by omega
              have e5 : (4 * (a : Int) + 2) / 4 = a := by omega
              have e6 : (4 * (a : Int) + 2) % 4 = 2 := by omega
              have e7 : (4 * (a : Int) + 3) / 4 = a := by omega
              have e8 : (4 * (a : Int) + 3) % 4 = 3 := by omega
              obtain rfl | rfl | rfl | rfl : r = 0 ∨ r = 1 ∨ r = 2 ∨ r = 3 := by omega
              · rw [show ((X >>> (8 * 0) % 256 : Nat) : Int) = (X : Int) % 256 by rw [Nat.shiftRight_eq_div_pow]; omega] at SN EN
                rw [Nat.add_zero] at f0 cr SN EN
                go_wp2
                go_roundw
                case rel => exact ⟨4 * a + 1, by omega, by go_num, SN, EN⟩
                case measure => simp [intOf]; omega
              · rw [show ((X >>> (8 * 1) % 256 : Nat) : Int) = (X : Int) / 256 % 256 by rw [Nat.shiftRight_eq_div_pow]; omega] at SN EN
                go_wp2
                go_roundw
                case rel => exact ⟨4 * a + 2, by omega, by go_num, SN, EN⟩
                case measure => simp [intOf]; omega
              · rw [show ((X >>> (8 * 2) % 256 : Nat) : Int) = (X : Int) / 65536 % 256 by rw [Nat.shiftRight_eq_div_pow]; omega] at SN EN
                go_wp2
                go_roundw
                case rel => exact ⟨4 * a + 3, by omega, by go_num, SN, EN⟩
                case measure => simp [intOf]; omega
              · rw [show ((X >>> (8 * 3) % 256 : Nat) : Int) = (X : Int) / 16777216 by rw [Nat.shiftRight_eq_div_pow]; omega] at SN EN
                go_wp2
                go_roundw
                case rel => exact ⟨4 * a + 4, by omega, by go_num, SN, EN⟩
                case measure => simp [intOf]; omega
            · as_aux_lemma =>
              obtain rfl : k = 32 := by omega
              have HOUT : Bx (keyedN key b = outK h 32) := ⟨by rw [HKE.out, HKD.out]⟩
              have HO32 : Bx ((outK h 32).length = 32) := ⟨outK_len _ _⟩
              have KZ := Z11.out.below EK.out Z11.out.lt
              have HE : Bx (Below w.heap.size w wr) := ⟨below_then HE11.out HE11.out.size EK.out⟩
              have R12 : wr.rangeAt q12 0 (b8 (outK h 32)) := Blk.range KK.out
              have T4 := KZ.there (u8s (outK h 32)).size (by rw [u8s_size, u8s_size, HO32.out, HZ.out])
              have HI24 : Bx ((Tryd.prog.info? 24).map (·.size) = some (b8 (outK h 32)).length) := ⟨infoO _ HO32.out⟩
              have HI24' : Bx ((Tryd.prog.info? 24).map (·.size) = some (u8s (outK h 32)).size) := ⟨infoO' _ HO32.out⟩
              have BO : Blk (wr.setCells w.heap.size 0 (u8s (outK h 32)).toList) w.heap.size 24 (u8s (outK h 32)) := KZ.setAll (by rw [u8s_size, u8s_size, HO32.out, HZ.out])
              have BE : Bx (Below w.heap.size w (wr.setCells w.heap.size 0 (u8s (outK h 32)).toList)) := ⟨below_setCells _ (Nat.le_refl _) _ _ HE.out⟩
              generalize outK h 32 = OUT at *
              go_wp2_with (first | ((with_reducible refine wpList_load_mid ?_ 24 (.tmp 12) ?_ q12 0 ?_ (b8 OUT) (.array 32 5) R12 ?_ ?_ HI24.out ?_); rfl; rfl; rfl; kernel_rfl; rfl) | ((with_reducible refine wpList_store_mid ?_ 24 (.tmp 4) (.tmp 104) ?_ w.heap.size 0 (u8s OUT) ?_ ?_ T4 HI24'.out ?_ ?_); rfl; rfl; rfl; rfl; exact u8s_one _))
              have LV := run_loadVar_mid (P := Tryd.prog) _ w.heap.size 0 24 (b8 OUT) (.array 32 5) (Blk.range BO) (by kernel_rfl) rfl HI24.out
              generalize wr.setCells w.heap.size 0 (u8s OUT).toList = FW at *
              rw [HOUT.out]
              exact bodyPost_ret (v := .tuple #[.agg (u8s OUT), .int .i64 0]) (by simp [results, Tryd.results18, asAddr, LV]; rfl) rfl ⟨rfl, BE.out⟩
end Go.Proofs.YtkcifjgfgommoaaDoor
