import Derived.Test.YtkcifjgfgommoaaDoorStr
import Derived.Deep.RegionHeld3
/-
  Digests: Keyed with a long key, Sum, Hex.
-/
namespace Go.Proofs.YtkcifjgfgommoaaDoor
open Go.RowKit

theorem takeH {ops : Array Oper} {Q : Exit → Act → World → Prop} {md : Region.Mode} {S : World → Prop} {P : Program} {i s : Nat} {oi : Oper} {v : Value} {fuel : Nat} {listed : Array Bool} {tmps : Array Value} {dfs : List Deferred} {w : World} (hi : ops[i]? = some oi) (hd : oi.dst = some s)
    (hs : Region.noSelect ops = true) (hf : Region.free md ops listed i = true) (hr : (Region.ready md ops listed).contains i = true)
    (hQ : ∀ c a w, Q (.panic c) (a.put oi.dst v) w → Q (.panic c) a w) (hy : YieldsIf P ops S oi v ⟨tmps, dfs⟩) (hS : S w)
    (h : wpAnyH P md ops Q S fuel (listed.setIfInBounds i true) ⟨tmps.setIfInBounds s v, dfs⟩ w) : wpAnyH P md ops Q S (fuel + 1) listed ⟨tmps, dfs⟩ w :=
  wpAnyH_take hi hs hf hr hQ hy hS (by rw [hd]; exact h)
theorem OB.kept {w w' : World} {base : Nat} {v : Value} {l : List Nat} (h : OB w base v l) (hb : Below w.heap.size w w') : OB w' base v l := by
  obtain ⟨h0, h⟩ := h
  refine ⟨h0, ?_⟩
  rcases h with h | ⟨g, cap, cur, he, hbb, hh, r⟩
  · exact .inl h
  · exact .inr ⟨g, cap, cur, he, hbb, (hb.block g (Array.getElem?_eq_some_iff.1 hh).1).trans hh, r⟩
theorem step_append_bytes {ops : Array Oper} {o : Oper} {a : Act} {K : Act → World → Prop} {Q : Exit → Act → World → Prop} {E : Prop} (w : World) (hgd : o.guard = none) (s x : Operand)
    (ho : o.op = .call { callee := .builtin .append, args := #[s, x], argTypes := #[22, 22] })
    (base : Nat) (v : Value) (xs l : List Nat) (hs : a.eval s = v) (hown : OB w base v xs) (A : Option Addr) (c : Nat) (hx : a.eval x = .slice A l.length c) (hr : RB w A l)
    (hlen : xs.length + l.length ≤ 140737488355328) (hbase : base ≤ w.heap.size)
    (h : ∀ v' w', OB w' base v' (xs ++ l) → w.grownBy w' v.ownBlock → (v'.ownBlock = v.ownBlock ∨ v'.ownBlock = some w.heap.size) → K (a.put o.dst v') w') :
    if Region.wanted o (yielded ops a.tmps) = true then Oper.wp Tryd.prog o a w K Q else E := by
  have hw : Region.wanted o (yielded ops a.tmps) = true := by simp [Region.wanted, hgd]
  rw [if_pos hw]
  obtain ⟨i, hi, hzz⟩ := Option.map_eq_some_iff.1 info_byte
  simp only [Prod.mk.injEq] at hzz
  obtain ⟨hz, h1, hb⟩ := hzz
  refine wp_append_any w s x 22 ho base 5 i (.int .u8 0) 1 1 Tryd.underlying22 hi hz h1 hb rfl (by omega) v xs.length (bs xs) hs hown w.heap.size A l.length c (bs l) hx hr.reads (bs_one l)
    (by unfold maxLen; omega) (by omega) hbase ?_
  intro v' w' ho' hg hat
  exact h v' w' (by unfold OB; rw [bs_append, List.length_append]; exact ho') hg hat
def Z32 : List Nat := List.replicate 32 0
theorem infoO (l : List Nat) (h : l.length = 32) : (Tryd.prog.info? 24).map (·.size) = some (b8 l).length := by rw [b8_len, h]; kernel_rfl
theorem infoO' (l : List Nat) (h : l.length = 32) : (Tryd.prog.info? 24).map (·.size) = some (u8s l).size := by rw [u8s_size, h]; kernel_rfl
set_option maxRecDepth 100000 in
set_option maxHeartbeats 1000000 in
theorem Keyed_long (A B : Option Addr) (key b : List Nat) (c d : Nat) (w : World) (hk : 32 < key.length) :
    Calls Tryd.prog 17 #[.slice A key.length c, .slice B b.length d] w fun e w' =>
      e = .returned (.tuple #[.agg (u8s Z32), .int .i64 2]) ∧ Below w.heap.size w w' := by
  have hkg : (32 : Int) < (key.length : Int) := by omega
  go_enter Tryd.func17, Tryd.ntmps17
  go_upto_region 3 with fail
  change Code.wp _ _ _ _ ((w.alloc (Obj.cells (u8s Z32) 24)).alloc (Obj.cells (u8s Z32) 24))
  have B0 : Blk ((w.alloc (Obj.cells (u8s Z32) 24)).alloc (Obj.cells (u8s Z32) 24)) w.heap.size 24 (u8s Z32) := (Blk.new w _ _).alloc _
  have B1 : Blk ((w.alloc (Obj.cells (u8s Z32) 24)).alloc (Obj.cells (u8s Z32) 24)) (w.heap.size + 1) 24 (u8s Z32) := Blk.new_ (by simp) _ _
  have BE : Bx (Below w.heap.size w ((w.alloc (Obj.cells (u8s Z32) 24)).alloc (Obj.cells (u8s Z32) 24))) := ⟨((Below.refl _ _).alloc (Nat.le_refl _) _).alloc (by simp) _⟩
  generalize (w.alloc (Obj.cells (u8s Z32) 24)).alloc (Obj.cells (u8s Z32) 24) = W at *
  have R6 : W.rangeAt (w.heap.size + 1) 0 (b8 Z32) := Blk.range B1
  have T4 := B0.there (u8s Z32).size rfl
  have HI : Bx ((Tryd.prog.info? 24).map (·.size) = some (b8 Z32).length) := ⟨infoO Z32 rfl⟩
  have HI' : Bx ((Tryd.prog.info? 24).map (·.size) = some (u8s Z32).size) := ⟨infoO' Z32 rfl⟩
  have BO : Blk (W.setCells w.heap.size 0 (u8s Z32).toList) w.heap.size 24 (u8s Z32) := B0.setAll rfl
  have BF : Bx (Below w.heap.size w (W.setCells w.heap.size 0 (u8s Z32).toList)) := ⟨below_setCells _ (Nat.le_refl _) _ _ BE.out⟩
  have HO : Bx (∀ v ∈ (u8s Z32), v.oneCell' = true) := ⟨fun v hv => b8_one Z32 v (by simpa [u8s, b8] using hv)⟩
  have HO1 : Bx ((u8s Z32).all (·.oneCell') = true) := ⟨u8s_one Z32⟩
  clear B0 B1
  generalize hZ : Z32 = Z at *
  have HZ := Bx.mk hZ
  clear hZ
  go_wp2_with (first | ((with_reducible refine wpList_load_mid ?_ 24 (.tmp 6) ?_ (w.heap.size + 1) 0 ?_ (b8 Z) (.array 32 5) R6 ?_ ?_ HI.out ?_); rfl; rfl; rfl; kernel_rfl; rfl) | ((with_reducible refine wpList_store_mid ?_ 24 (.tmp 4) (.tmp 16) ?_ w.heap.size 0 (u8s Z) ?_ ?_ T4 HI'.out HO1.out ?_); rfl; rfl; rfl; rfl))
  have LV := run_loadVar_mid (P := Tryd.prog) _ w.heap.size 0 24 (b8 Z) (.array 32 5) (Blk.range BO) (by kernel_rfl) rfl HI.out
  generalize W.setCells w.heap.size 0 (u8s Z).toList = FW at *
  exact bodyPost_ret (v := .tuple #[.agg (u8s Z), .int .i64 2]) (by simp [results, Tryd.results17, asAddr, LV]; rfl) rfl ⟨by rw [HZ.out], BF.out⟩

set_option maxRecDepth 100000 in
set_option maxHeartbeats 1000000 in
theorem Sum_calls (B : Option Addr) (b : List Nat) (d : Nat) (w : World) (hg : Gl w) (hB : RB w B b) (hd : b.length ≤ d) :
    Calls Tryd.prog 9 #[.slice B b.length d] w fun e w' => e = .returned (.agg (u8s (keyedN [] b))) ∧ Below w.heap.size w w' := by
  have HK := Bx.mk (fun W (hb : Below w.heap.size w W) => Keyed_calls none B [] b 0 d W (hg.below hb) (by decide) (RB.nil _ _) (hB.below hb) hd)
  have HL : Bx ((keyedN [] b).length = 32) := ⟨outK_len _ _⟩
  clear hg hB hd
  go_enter Tryd.func9, Tryd.ntmps9
  go_wp2_with fail
  change Calls _ _ #[.slice none ([] : List Nat).length 0, _] (w.alloc (Obj.cells (u8s Z32) 24)) _
  have B0 : Blk (w.alloc (Obj.cells (u8s Z32) 24)) w.heap.size 24 (u8s Z32) := Blk.new w _ _
  have BE := (Below.refl _ _).alloc (Nat.le_refl w.heap.size) (Obj.cells (u8s Z32) 24)
  have HK2 := Bx.mk (HK.out _ BE)
  have hsz : (w.alloc (Obj.cells (u8s Z32) 24)).heap.size = w.heap.size + 1 := by simp
  generalize w.alloc (Obj.cells (u8s Z32) 24) = W1 at *
  refine HK2.out.mono ?_
  rintro e w2 ⟨rfl, hb2⟩
  have B2 : Blk w2 w.heap.size 24 (u8s Z32) := B0.below hb2 B0.lt
  have BE2 := BE.trans (hb2.mono (by omega))
  have hs2 : Bx (w.heap.size < w2.heap.size) := ⟨B2.lt⟩
  generalize hK : keyedN [] b = K at *
  have HKK := Bx.mk hK
  clear hK
  clear hb2 BE B0 HK HK2 hsz
  obtain ⟨W3, hW3⟩ : ∃ W, W = w2.alloc (.cells #[.int .u8 0, .int .u8 0, .int .u8 0, .int .u8 0, .int .u8 0, .int .u8 0, .int .u8 0, .int .u8 0, .int .u8 0, .int .u8 0, .int .u8 0, .int .u8 0, .int .u8 0, .int .u8 0, .int .u8 0, .int .u8 0, .int .u8 0, .int .u8 0, .int .u8 0, .int .u8 0, .int .u8 0, .int .u8 0, .int .u8 0, .int .u8 0, .int .u8 0, .int .u8 0, .int .u8 0, .int .u8 0, .int .u8 0, .int .u8 0, .int .u8 0, .int .u8 0] 24) := ⟨_, rfl⟩
  have C3 : Blk W3 w2.heap.size 24 (u8s Z32) := by rw [hW3]; exact Blk.new w2 _ _
  have C2 : Blk W3 w.heap.size 24 (u8s Z32) := by rw [hW3]; exact B2.alloc _
  have BE3 : Below w.heap.size w W3 := by rw [hW3]; exact BE2.alloc (by have := hs2.out; omega) _
  have T3 := C3.there (u8s K).size (by rw [u8s_size, u8s_size, HL.out]; rfl)
  have HI' : Bx ((Tryd.prog.info? 24).map (·.size) = some (u8s K).size) := ⟨infoO' K HL.out⟩
  have HI : Bx ((Tryd.prog.info? 24).map (·.size) = some (b8 K).length) := ⟨infoO K HL.out⟩
  have D3 : Blk (W3.setCells w2.heap.size 0 (u8s K).toList) w2.heap.size 24 (u8s K) := C3.setAll (by rw [u8s_size, u8s_size, HL.out]; rfl)
  have D2 : Blk (W3.setCells w2.heap.size 0 (u8s K).toList) w.heap.size 24 (u8s Z32) := C2.farAll (by have := hs2.out; omega) _ _
  have BE4 : Below w.heap.size w (W3.setCells w2.heap.size 0 (u8s K).toList) := below_setCells _ (by have := hs2.out; omega) _ _ BE3
  have R3 : (W3.setCells w2.heap.size 0 (u8s K).toList).rangeAt w2.heap.size 0 (b8 K) := Blk.range D3
  have T2 := D2.there (u8s K).size (by rw [u8s_size, u8s_size, HL.out]; rfl)
  have BO : Blk ((W3.setCells w2.heap.size 0 (u8s K).toList).setCells w.heap.size 0 (u8s K).toList) w.heap.size 24 (u8s K) := D2.setAll (by rw [u8s_size, u8s_size, HL.out]; rfl)
  have BF : Bx (Below w.heap.size w ((W3.setCells w2.heap.size 0 (u8s K).toList).setCells w.heap.size 0 (u8s K).toList)) := ⟨below_setCells _ (Nat.le_refl _) _ _ BE4⟩
  have LV := run_loadVar_mid (P := Tryd.prog) _ w.heap.size 0 24 (b8 K) (.array 32 5) (Blk.range BO) (by kernel_rfl) rfl HI.out
  have LV2 := Bx.mk LV
  have BO2 := Bx.mk BO
  clear LV BO C3 C2 BE3 D3 D2 BE4 BE2 B2
  rw [hW3] at T3
  have HW3 := Bx.mk hW3
  have T2' := Bx.mk T2
  have R3' := Bx.mk R3
  clear T2 R3
  rw [hW3] at T2' R3'
  clear hW3
  go_wp2_with (first | ((with_reducible refine wpList_store_mid ?_ 24 (.tmp 3) (.tmp 8) ?_ w2.heap.size 0 (u8s K) ?_ ?_ T3 HI'.out (u8s_one K) ?_); rfl; rfl; rfl; rfl) | ((with_reducible refine wpList_load_mid ?_ 24 (.tmp 3) ?_ w2.heap.size 0 ?_ (b8 K) (.array 32 5) R3'.out ?_ ?_ HI.out ?_); rfl; rfl; rfl; kernel_rfl; rfl) | ((with_reducible refine wpList_store_mid ?_ 24 (.tmp 2) (.tmp 10) ?_ w.heap.size 0 (u8s K) ?_ ?_ T2'.out HI'.out (u8s_one K) ?_); rfl; rfl; rfl; rfl))
  rw [← HW3.out]
  generalize (W3.setCells w2.heap.size 0 (u8s K).toList).setCells w.heap.size 0 (u8s K).toList = FW at *
  exact bodyPost_ret (v := .agg (u8s K)) (by simp [results, Tryd.results9, asAddr, Act.put, LV2.out]; rfl) rfl ⟨by rw [HKK.out], BF.out⟩

/-- a digest's text -/
def hexL : List Nat → List Nat
  | [] => []
  | x :: l => hexd (x / 16) :: hexd (x % 16) :: hexL l
theorem hexL_len : ∀ l, (hexL l).length = 2 * l.length
  | [] => rfl
  | x :: l => by simp [hexL, hexL_len l]; omega
theorem hexd_lt (n : Nat) (h : n < 16) : hexd n < 256 := by unfold hexd; split <;> omega
theorem hexL_app : ∀ l m, hexL (l ++ m) = hexL l ++ hexL m
  | [], m => rfl
  | x :: l, m => by simp [hexL, hexL_app l m]
theorem hexL_mem : ∀ l : List Nat, (∀ x ∈ l, x < 256) → ∀ x ∈ hexL l, x < 256
  | [], _, x, hx => by cases hx
  | y :: l, h, x, hx => by
    have hy := h y (by simp)
    rcases List.mem_cons.1 hx with rfl | hx
    · exact hexd_lt _ (by omega)
    · rcases List.mem_cons.1 hx with rfl | hx
      · exact hexd_lt _ (by omega)
      · exact hexL_mem l (fun z hz => h z (by simp [hz])) x hx
theorem hexL_snoc (l : List Nat) (k : Nat) (h : k < l.length) : hexL (l.take (k + 1)) = hexL (l.take k) ++ [hexd (l.getD k 0 / 16), hexd (l.getD k 0 % 16)] := by
  rw [List.take_succ_eq_append_getElem h, hexL_app, getD_getElem l k h]; rfl
theorem u8_and15 (x : Nat) (h : x < 256) : bits .and .u8 (x : Int) 15 = ((x % 16 : Nat) : Int) := by
  have := u8_and_nat x 15 h (by omega)
  rw [show x &&& 15 = x % 16 from Nat.and_two_pow_sub_one_eq_mod x 4] at this
  exact this
set_option maxRecDepth 100000 in
set_option maxHeartbeats 1000000 in
theorem Hex_calls (l : List Nat) (w : World) (hl : l.length = 32) (hb : ∀ x ∈ l, x < 256) :
    Calls Tryd.prog 11 #[.agg (u8s l)] w fun e w' => e = .returned (.string (st (hexL l))) ∧ Below w.heap.size w w' := by
  have HI : Bx ((Tryd.prog.info? 24).map (·.size) = some (b8 l).length) := ⟨infoO l hl⟩
  have HL := Bx.mk hl
  have HB := Bx.mk hb
  clear hl hb
  go_enter Tryd.func11, Tryd.ntmps11
  have B1 : Blk (w.alloc (Obj.cells (u8s l) 24)) w.heap.size 24 (u8s l) := Blk.new w _ _
  have R1 : (w.alloc (Obj.cells (u8s l) 24)).rangeAt w.heap.size 0 (b8 l) := Blk.range B1
  have BE : Bx (Below w.heap.size w (w.alloc (Obj.cells (u8s l) 24))) := ⟨(Below.refl _ _).alloc (Nat.le_refl _) _⟩
  have HS : Bx ((w.alloc (Obj.cells (u8s l) 24)).heap.size = w.heap.size + 1) := ⟨by simp⟩
  go_wp2_with ((with_reducible refine wpList_load_mid ?_ 24 (.tmp 1) ?_ w.heap.size 0 ?_ (b8 l) (.array 32 5) R1 ?_ ?_ HI.out ?_); rfl; rfl; rfl; kernel_rfl; rfl)
  clear R1 B1
  generalize w.alloc (Obj.cells (u8s l) 24) = W0 at *
  have IX : Bx (∀ (k : Nat) (W : World), k < 32 → (Instr.index 24 (.agg (b8 l).toArray) (.int .i64 (k : Int))).run Tryd.prog W = .ok (.int .u8 ((l.getD k 0 : Nat) : Int)) W) := ⟨fun k W hk => run_index_cell W _ 5 32 .u8 _ .i64 k _ (by kernel_rfl) Tryd.underlying5 (by kernel_rfl) hk (u8s_get l k (by rw [HL.out]; exact hk))⟩
  generalize (b8 l).toArray = LA at *
  go_loopw [3, 7] (fun v i w' => ∃ k : Nat, k ≤ 32 ∧ i = .int .i64 k ∧ Bx (OB w' W0.heap.size v (hexL (l.take k))) ∧ Bx (Below W0.heap.size W0 w')) (fun _ i _ => 32 - (intOf i).toNat)
  case atStart => exact ⟨0, by omega, rfl, ⟨⟨rfl, .inl ⟨rfl, rfl⟩⟩⟩, ⟨Below.refl _ _⟩⟩
  case round =>
    obtain ⟨k, hk, rfl, HO, HW⟩ := hrel
    by_cases hlt : k < 32
    · have ix : ∀ W, _ := fun W => IX.out k W hlt
      have hx : l.getD k 0 < 256 := mem_getD (by rw [HL.out]; exact hlt) HB.out
      have HN := Bx.mk (hexL_snoc l k (by rw [HL.out]; exact hlt))
      have hln : Bx ((hexL (l.take k)).length = 2 * k) := ⟨by rw [hexL_len, List.length_take, HL.out]; omega⟩
      generalize hexL (l.take k) = HK at *
      generalize l.getD k 0 = X at *
      have ha := u8_and15 X hx
      have hd : (X : Int) / 16 = ((X / 16 : Nat) : Int) := by omega
      have d1 := dig_index (X / 16) .u8 (by omega)
      have d2 := dig_index (X % 16) .u8 (by omega)
      have HD : Bx (∀ x ∈ [hexd (X / 16), hexd (X % 16)], x < 256) := ⟨fun x hx => by
        simp only [List.mem_cons, List.not_mem_nil, or_false] at hx
        rcases hx with rfl | rfl
        · exact hexd_lt _ (by omega)
        · exact hexd_lt _ (by omega)⟩
      unfold DIG at d1 d2
      generalize X / 16 = Xh at *
      generalize X % 16 = Xl at *
      have RL := Bx.mk (RB.lit wr.drew 5 [hexd Xh, hexd Xl] #[.int .u8 ((hexd Xh : Nat) : Int), .int .u8 ((hexd Xl : Nat) : Int)] rfl HD.out (by show 2 ≤ _; omega))
      have HO2 : Bx (OB (wr.drew.alloc (.cells #[.int .u8 ((hexd Xh : Nat) : Int), .int .u8 ((hexd Xl : Nat) : Int)] 5)) W0.heap.size u3 HK) := ⟨(HO.out.kept (below_drewN (Below.refl _ wr) 1)).kept (below_alloc1 wr.drew _)⟩
      have HBS : Bx (W0.heap.size ≤ wr.heap.size) := ⟨HW.out.size⟩
      have HLB : Bx (HK.length + [hexd Xh, hexd Xl].length ≤ 140737488355328) := ⟨by rw [hln.out]; show 2 * k + 2 ≤ _; omega⟩
      generalize hexd Xh = Y1 at *
      generalize hexd Xl = Y2 at *
      go_wp2
      have HBS2 : Bx (W0.heap.size ≤ (wr.drew.alloc (.cells #[.int .u8 (Y1 : Int), .int .u8 (Y2 : Int)] 5)).heap.size) := ⟨by have := HBS.out; simp; omega⟩
      go_region_held3 (fun _ => True) (trivial) ((refine step_append_bytes _ rfl (.tmp 10) (.tmp 17) rfl W0.heap.size _ HK [Y1, Y2] (by rfl) HO2.out (some ⟨wr.heap.size, 0, none⟩) 2 (by rfl) RL.out HLB.out HBS2.out ?_; intro v' w' ho' hg _))
      all_goals
        have HW2 : Bx (Below W0.heap.size W0 w') := ⟨((HW.out.drew).alloc (by have := HBS.out; simpa using this) _).grown hg (by have := HBS.out; simp; omega) (fun k hk => own_block HO2.out k hk)⟩
        have HO3 : Bx (OB w' W0.heap.size v' (HK ++ [Y1, Y2])) := ⟨ho'⟩
        clear ho' hg
        go_wp2
        go_roundw
        case rel => exact ⟨k + 1, by omega, by go_num, ⟨by rw [HN.out]; exact HO3.out⟩, HW2⟩
        case measure => simp [intOf]; omega
    · obtain rfl : k = 32 := by omega
      have HF : Bx (l.take 32 = l) := ⟨List.take_of_length_le (by rw [HL.out]; omega)⟩
      rw [HF.out] at HO
      obtain ⟨A, c, rfl⟩ := HO.out.form
      have hcv := conv_str wr A c (hexL l) (HO.out.rb (hexL_mem l HB.out) (by rw [hexL_len, HL.out]; omega))
      have HBF : Bx (Below w.heap.size w wr) := ⟨BE.out.trans (HW.out.mono (by rw [HS.out]; omega))⟩
      go_wp2
      go_ret
      exact ⟨rfl, HBF.out⟩
end Go.Proofs.YtkcifjgfgommoaaDoor
