import Derived.Test.YtoekecopfmohiaaDoorInf3
import Derived.Deep.RegionHeld3
import Derived.Deep.RegionLaw
/-
  The inflater: copied.
-/
namespace Go.Proofs.YtoekecopfmohiaaDoor
open Go.RowKit

theorem takeH {ops : Array Oper} {Q : Exit → Act → World → Prop} {md : Region.Mode} {S : World → Prop} {P : Program} {i s : Nat} {oi : Oper} {v : Value} {fuel : Nat} {listed : Array Bool} {tmps : Array Value} {dfs : List Deferred} {w : World} (hi : ops[i]? = some oi) (hd : oi.dst = some s)
    (hs : Region.noSelect ops = true) (hf : Region.free md ops listed i = true) (hr : (Region.ready md ops listed).contains i = true)
    (hQ : ∀ c a w, Q (.panic c) (a.put oi.dst v) w → Q (.panic c) a w) (hy : YieldsIf P ops S oi v ⟨tmps, dfs⟩) (hS : S w)
    (h : wpAnyH P md ops Q S fuel (listed.setIfInBounds i true) ⟨tmps.setIfInBounds s v, dfs⟩ w) : wpAnyH P md ops Q S (fuel + 1) listed ⟨tmps, dfs⟩ w :=
  wpAnyH_take hi hs hf hr hQ hy hS (by rw [hd]; exact h)
theorem step_append_bytes {ops : Array Oper} {o : Oper} {a : Act} {K : Act → World → Prop} {Q : Exit → Act → World → Prop} {E : Prop} (w : World) (hgd : o.guard = none) (s x : Operand)
    (ho : o.op = .call { callee := .builtin .append, args := #[s, x], argTypes := #[22, 22] })
    (base : Nat) (v : Value) (xs l : List Nat) (hs : a.eval s = v) (hown : OB w base v xs) (A : Option Addr) (c : Nat) (hx : a.eval x = .slice A l.length c) (hr : RB w A l)
    (hlen : xs.length + l.length ≤ 140737492549632) (hbase : base ≤ w.heap.size)
    (h : ∀ v' w', OB w' base v' (xs ++ l) → w.grownBy w' v.ownBlock → (v'.ownBlock = v.ownBlock ∨ v'.ownBlock = some w.heap.size) → K (a.put o.dst v') w') :
    if Region.wanted o (yielded ops a.tmps) = true then Oper.wp Tryd.prog o a w K Q else E := by
  have hw : Region.wanted o (yielded ops a.tmps) = true := by simp [Region.wanted, hgd]
  rw [if_pos hw]
  obtain ⟨i, hi, hzz⟩ := Option.map_eq_some_iff.1 info_byte
  simp only [Prod.mk.injEq] at hzz
  obtain ⟨hz, h1, hb⟩ := hzz
  refine wp_append_any w s x 22 ho base 5 i (.int .u8 0) 1 1 Tryd.underlying22 hi hz h1 hb rfl (by omega) v xs.length (bs xs) hs hown w.heap.size A l.length c (bs l) hx hr.reads (bs_one l)
    (by unfold maxLen; omega) (by omega) hbase ?_
  intro v' w' ho' hg hat
  exact h v' w' (by unfold OB; rw [bs_append, List.length_append]; exact ho') hg hat
/-- the package's tables -/
structure Gf (w : World) : Prop where
  len : ∀ i, i < 29 → w.cell? ⟨1, i * 2, none⟩ = some (.int .i64 ((LB.getD i 0 : Nat) : Int)) ∧ w.cell? ⟨1, i * 2 + 1, none⟩ = some (.int .i64 ((LX.getD i 0 : Nat) : Int))
  dst : ∀ i, i < 30 → w.cell? ⟨5, i * 2, none⟩ = some (.int .i64 ((DB.getD i 0 : Nat) : Int)) ∧ w.cell? ⟨5, i * 2 + 1, none⟩ = some (.int .i64 ((DX.getD i 0 : Nat) : Int))
  ord : ∀ i, i < 19 → w.cell? ⟨2, i, none⟩ = some (.int .i64 ((ORD.getD i 0 : Nat) : Int))
theorem Gf.below {w w1 : World} (h : Gf w) (hb : Below w.heap.size w w1) : Gf w1 :=
  ⟨fun i hi => ⟨cell_below hb (h.len i hi).1, cell_below hb (h.len i hi).2⟩, fun i hi => ⟨cell_below hb (h.dst i hi).1, cell_below hb (h.dst i hi).2⟩, fun i hi => cell_below hb (h.ord i hi)⟩
theorem LB_le : ∀ i, i < 29 → LB.getD i 0 ≤ 258 ∧ LX.getD i 0 ≤ 5 := by decide
theorem DB_le : ∀ i, i < 30 → DB.getD i 0 ≤ 24577 ∧ 1 ≤ DB.getD i 0 ∧ DX.getD i 0 ≤ 13 := by decide
theorem At.be {w0 w : World} {x r : Nat} {A : Option Addr} {l : List Nat} {c m : Nat} {R : Except Nat SS} (h : At w0 x r A l c m R w) : Below w0.heap.size w0 w := by
  cases R with
  | ok s => obtain ⟨O, h⟩ := h; exact h.be
  | error e => obtain ⟨_, a, out, O, h⟩ := h; exact h.be
/-- is it so far back? -/
def backP (b : Nat) : Px Unit := fun s => if b ≤ s.2.length then .ok ((), s) else .error 110
def growP (n b : Nat) : Px Unit := fun s => .ok ((), (s.1, cpN b n s.2))
theorem cpy_parts (m n b : Nat) : cpyP m n b = bd (backP b) fun _ => bd (roomP m n) fun _ => growP n b := by
  funext s
  unfold cpyP bd backP roomP growP
  by_cases h : b ≤ s.2.length
  · rw [if_pos h, if_pos h]
    simp only
    by_cases h2 : n + s.2.length ≤ m
    · rw [if_pos h2, if_pos h2]
    · rw [if_neg h2, if_neg h2]
  · rw [if_neg h, if_neg h]
theorem back_same (b : Nat) : ∀ s v t, backP b s = .ok (v, t) → t = s := fun s v t h => by
  unfold backP at h; split at h <;> cases h; rfl
theorem cpN_snoc (b : Nat) : ∀ n o, cpN b (n + 1) o = cpN b n o ++ [(cpN b n o).getD ((cpN b n o).length - b) 0]
  | 0, o => rfl
  | n + 1, o => by
    show cpN b (n + 1) (o ++ [o.getD (o.length - b) 0]) = _
    rw [cpN_snoc b n]; rfl
theorem cpN_mem (b : Nat) (hb : 1 ≤ b) : ∀ n o, b ≤ o.length → (∀ y ∈ o, y < 256) → ∀ y ∈ cpN b n o, y < 256
  | 0, o, _, h => h
  | n + 1, o, hl, h => by
    refine cpN_mem b hb n _ (by rw [List.length_append]; exact Nat.le_trans hl (Nat.le_add_right _ _)) ?_
    intro y hy
    rcases List.mem_append.1 hy with h1 | h1
    · exact h y h1
    · rw [List.mem_singleton] at h1
      subst h1
      exact mem_getD (by omega) h
theorem run_room {m n : Nat} {R : Except Nat SS} {s : SS} (h : (run (roomP m n) () R).2 = .ok s) : R = .ok s ∧ n + s.2.length ≤ m := by
  have h1 := unit_ok (room_same m n) h
  refine ⟨h1, ?_⟩
  rw [h1] at h
  unfold run roomP at h
  simp only at h
  by_cases hh : n + s.2.length ≤ m
  · exact hh
  · rw [if_neg hh] at h; cases h
theorem run_back {b : Nat} {R : Except Nat SS} {s : SS} (h : (run (backP b) () R).2 = .ok s) : R = .ok s ∧ b ≤ s.2.length := by
  have h1 := unit_ok (back_same b) h
  refine ⟨h1, ?_⟩
  rw [h1] at h
  unfold run backP at h
  simp only at h
  by_cases hh : b ≤ s.2.length
  · exact hh
  · rw [if_neg hh] at h; cases h
theorem run_chk {e : Nat} {q : Prop} [Decidable q] {R : Except Nat SS} {s : SS} (h : (run (chk e q) () R).2 = .ok s) : R = .ok s ∧ q := by
  have h1 := unit_ok (chk_same e q) h
  refine ⟨h1, ?_⟩
  rw [h1] at h
  unfold run chk at h
  simp only at h
  by_cases hh : q
  · exact hh
  · rw [if_neg hh] at h; cases h
theorem copy_bad (m : Nat) (l D : List Nat) (sym : Nat) (s : SS) (h : ¬ sym < 29) : (run (copyP m l D sym) () (.ok s)).2 = .error 110 := by
  have : (run (chk 110 (sym < 29)) () (.ok s)).2 = .error 110 := by unfold run chk; simp only; rw [if_neg h]
  unfold copyP
  rw [run_bd (chk 110 (sym < 29)) _ () (), this]; rfl
set_option maxRecDepth 100000 in
set_option maxHeartbeats 4000000 in
theorem copied_calls (w0 : World) (x r : Nat) (A : Option Addr) (l : List Nat) (c m : Nat) (hm : m ≤ 262144) (hg : Gf w0) (p : Value) (D : List Nat) (sym : Nat) (hsym : sym ≤ 31) (s : SS) (w : World) (h : At w0 x r A l c m (.ok s) w) (hp : HasC w p D) :
    Calls Tryd.prog 92 #[.pointer (some ⟨x, 0, none⟩), .int .i64 (sym : Int), p] w fun e w' =>
      e = .returned (.tuple #[]) ∧ At w0 x r A l c m (run (copyP m l D sym) () (.ok s)).2 w' ∧ IStep w w' := by
  have HP := Bx.mk hp
  have HG := Bx.mk hg
  by_cases h29 : sym < 29
  · have HRUN : (run (copyP m l D sym) () (.ok s)).2 = (run (cpyP m (LB.getD sym 0 + (run (numP l (LX.getD sym 0)) 0 (.ok s)).1) (DB.getD (run (symP l D) 0 (run (numP l (LX.getD sym 0)) 0 (.ok s)).2).1 0 +
        (run (numP l (DX.getD (run (symP l D) 0 (run (numP l (LX.getD sym 0)) 0 (.ok s)).2).1 0)) 0 (run (chk 110 ((run (symP l D) 0 (run (numP l (LX.getD sym 0)) 0 (.ok s)).2).1 < 30)) () (run (symP l D) 0 (run (numP l (LX.getD sym 0)) 0 (.ok s)).2).2).2).1)) ()
        (run (numP l (DX.getD (run (symP l D) 0 (run (numP l (LX.getD sym 0)) 0 (.ok s)).2).1 0)) 0 (run (chk 110 ((run (symP l D) 0 (run (numP l (LX.getD sym 0)) 0 (.ok s)).2).1 < 30)) () (run (symP l D) 0 (run (numP l (LX.getD sym 0)) 0 (.ok s)).2).2).2).2).2 := by
      unfold copyP
      rw [run_bd (chk 110 (sym < 29)) _ () (), run_bd (numP l _) _ 0 (), run_bd (symP l D) _ 0 (), run_bd (chk 110 _) _ () (), run_bd (numP l _) _ 0 ()]
      have : (run (chk 110 (sym < 29)) () (.ok s)).2 = .ok s := by unfold run chk; simp only; rw [if_pos h29]
      rw [this]
    obtain ⟨RF, hRF⟩ : ∃ RF, RF = (run (copyP m l D sym) () (.ok s)).2 := ⟨_, rfl⟩
    rw [← hRF]
    rw [HRUN] at hRF
    have HRF := Bx.mk hRF
    clear HRUN hRF
    have F1 := Bx.mk (fun W hW => fail_bool w0 x r A l c m 110 (by decide) false (chk 110 (sym < 29)) (.ok s) W hW (fun s' _ => by unfold chk; rw [if_pos h29]; simp))
    have HR1 : (run (chk 110 (sym < 29)) () (.ok s)).2 = .ok s := by unfold run chk; simp only; rw [if_pos h29]
    rw [HR1] at F1
    clear HR1
    have hdec : decide ((29 : Int) ≤ (sym : Int)) = false := by simp; omega
    have hi29 : (sym : Int) < 29 := by omega
    obtain ⟨hl1, hl2⟩ := LB_le sym h29
    have NC := Bx.mk (fun W hW => number_calls w0 x r A l c m (LX.getD sym 0) (by omega) (.ok s) W hW)
    have hnv := num_val l (LX.getD sym 0) (.ok s)
    have hpw : 2 ^ LX.getD sym 0 ≤ 32 := Nat.le_trans (Nat.pow_le_pow_right (by decide) hl2) (by decide)
    have HT := Bx.mk (hg.len sym h29)
    generalize LX.getD sym 0 = X1 at *
    generalize LB.getD sym 0 = B1 at *
    generalize run (numP l X1) 0 (.ok s) = P1 at *
    obtain ⟨V1, R1⟩ := P1
    simp only at hnv NC HRF
    have hV1 : V1 < 32 := by omega
    have hw1 : IntKind.i64.wrap ((B1 : Int) + (V1 : Int)) = ((B1 + V1 : Nat) : Int) := by rw [IntWalk.i64_in _ (by omega)]; omega
    have hn290 : B1 + V1 ≤ 290 := by omega
    generalize B1 + V1 = NL at *
    clear hnv hpw
    go_enter Tryd.func92, Tryd.ntmps92
    go_wp2_with (go_at_call 58; fail)
    refine (F1.out w h).mono ?_
    rintro e w1 ⟨rfl, ha1, hs1⟩
    rw [show okR (.ok s) = true from rfl]
    have c0 : w1.cell? ⟨1, sym * 2, none⟩ = some (.int .i64 (B1 : Int)) := cell_below ha1.be HT.out.1
    have c1 : w1.cell? ⟨1, sym * 2 + 1, none⟩ = some (.int .i64 (X1 : Int)) := cell_below ha1.be HT.out.2
    have A1 := Bx.mk ha1
    have S1 := Bx.mk hs1
    clear ha1 hs1 F1 h hp
    go_upto_region 2 with fail
    have A2 := Bx.mk (A1.out.below (below_alloc1 w1 (Obj.cells #[.int .i64 (B1 : Int), .int .i64 (X1 : Int)] 91)))
    have S2 := Bx.mk (S1.out.trans (IStep.below (below_alloc1 w1 (Obj.cells #[.int .i64 (B1 : Int), .int .i64 (X1 : Int)] 91))))
    have B2 : Blk (w1.alloc (Obj.cells #[.int .i64 (B1 : Int), .int .i64 (X1 : Int)] 91)) w1.heap.size 91 #[.int .i64 (B1 : Int), .int .i64 (X1 : Int)] := Blk.new w1 _ _
    generalize w1.alloc (Obj.cells #[.int .i64 (B1 : Int), .int .i64 (X1 : Int)] 91) = w2 at *
    generalize w1.heap.size = q6 at *
    have B2d := B2.drew
    clear A1 S1 c0 c1 HT
    refine wp_region_noPanic ?_
    refine wp_region_held_drew (S := fun W => Blk W q6 91 #[.int .i64 (B1 : Int), .int .i64 (X1 : Int)]) (by kernel_rfl) B2d (fun _ => ?_)
    refine takeH (i := 0) (v := ?_) rfl rfl (by kernel_rfl) (by kernel_rfl) (by kernel_rfl) (fun _ _ _ h => h) (Or.inl ⟨by rfl, ?_⟩) (by assumption) ?_
    rotate_left
    · (intro w hSw; have d0 : w.cell? ⟨q6, 0, none⟩ = some (.int .i64 (B1 : Int)) := hSw.cell 0; have d1 : w.cell? ⟨q6, 1, none⟩ = some (.int .i64 (X1 : Int)) := hSw.cell 1; go_simp; first | done | with_reducible rfl)
    simp only [List.setIfInBounds_toArray, List.set_cons_zero, List.set_cons_succ]
    refine takeH (i := 1) (v := ?_) rfl rfl (by kernel_rfl) (by kernel_rfl) (by kernel_rfl) (fun _ _ _ h => h) (Or.inl ⟨by rfl, ?_⟩) (by assumption) ?_
    rotate_left
    · (intro w hSw; have d0 : w.cell? ⟨q6, 0, none⟩ = some (.int .i64 (B1 : Int)) := hSw.cell 0; have d1 : w.cell? ⟨q6, 1, none⟩ = some (.int .i64 (X1 : Int)) := hSw.cell 1; go_simp; first | done | with_reducible rfl)
    simp only [List.setIfInBounds_toArray, List.set_cons_zero, List.set_cons_succ]
    refine takeH (i := 2) (v := ?_) rfl rfl (by kernel_rfl) (by kernel_rfl) (by kernel_rfl) (fun _ _ _ h => h) (Or.inl ⟨by rfl, ?_⟩) (by assumption) ?_
    rotate_left
    · (intro w hSw; have d0 : w.cell? ⟨q6, 0, none⟩ = some (.int .i64 (B1 : Int)) := hSw.cell 0; have d1 : w.cell? ⟨q6, 1, none⟩ = some (.int .i64 (X1 : Int)) := hSw.cell 1; go_simp; first | done | with_reducible rfl)
    simp only [List.setIfInBounds_toArray, List.set_cons_zero, List.set_cons_succ]
    refine takeH (i := 3) (v := ?_) rfl rfl (by kernel_rfl) (by kernel_rfl) (by kernel_rfl) (fun _ _ _ h => h) (Or.inl ⟨by rfl, ?_⟩) (by assumption) ?_
    rotate_left
    · (intro w hSw; have d0 : w.cell? ⟨q6, 0, none⟩ = some (.int .i64 (B1 : Int)) := hSw.cell 0; have d1 : w.cell? ⟨q6, 1, none⟩ = some (.int .i64 (X1 : Int)) := hSw.cell 1; go_simp; first | done | with_reducible rfl)
    simp only [List.setIfInBounds_toArray, List.set_cons_zero, List.set_cons_succ]
    refine takeH (i := 4) (v := ?_) rfl rfl (by kernel_rfl) (by kernel_rfl) (by kernel_rfl) (fun _ _ _ h => h) (Or.inl ⟨by rfl, ?_⟩) (by assumption) ?_
    rotate_left
    · (intro w hSw; have d0 : w.cell? ⟨q6, 0, none⟩ = some (.int .i64 (B1 : Int)) := hSw.cell 0; have d1 : w.cell? ⟨q6, 1, none⟩ = some (.int .i64 (X1 : Int)) := hSw.cell 1; go_simp; first | done | with_reducible rfl)
    simp only [List.setIfInBounds_toArray, List.set_cons_zero, List.set_cons_succ]
    refine wpAnyH_ready (rs := [5]) (by kernel_rfl) (by simp) ?_
    refine AllReadyH.cons rfl (fun K hK => ?_) AllReadyH.nil
    go_simp
    refine (NC.out _ A2.out.drew).mono ?_
    rintro e wN ⟨rfl, ha3, hs3⟩
    have B3 := B2.istep ((IStep.drewN w2 1).trans hs3) (by decide) (by decide) (by decide)
    have A3 := Bx.mk ha3
    have S3 := Bx.mk (S2.out.trans ((IStep.drewN w2 1).trans hs3))
    clear ha3 hs3 B2 B2d A2 S2
    go_wp2_with fail
    refine hK.out _ _ B3 (fun _ => ?_)
    clear hK K
    refine takeH (i := 6) (v := ?_) rfl rfl (by kernel_rfl) (by kernel_rfl) (by kernel_rfl) (fun _ _ _ h => h) (Or.inl ⟨by rfl, ?_⟩) (by assumption) ?_
    rotate_left
    · (intro w hSw; have d0 : w.cell? ⟨q6, 0, none⟩ = some (.int .i64 (B1 : Int)) := hSw.cell 0; have d1 : w.cell? ⟨q6, 1, none⟩ = some (.int .i64 (X1 : Int)) := hSw.cell 1; go_simp; first | done | with_reducible rfl)
    simp only [List.setIfInBounds_toArray, List.set_cons_zero, List.set_cons_succ]
    refine takeH (i := 7) (v := ?_) rfl rfl (by kernel_rfl) (by kernel_rfl) (by kernel_rfl) (fun _ _ _ h => h) (Or.inl ⟨by rfl, ?_⟩) (by assumption) ?_
    rotate_left
    · (intro w hSw; have d0 : w.cell? ⟨q6, 0, none⟩ = some (.int .i64 (B1 : Int)) := hSw.cell 0; have d1 : w.cell? ⟨q6, 1, none⟩ = some (.int .i64 (X1 : Int)) := hSw.cell 1; go_simp; first | done | with_reducible rfl)
    simp only [List.setIfInBounds_toArray, List.set_cons_zero, List.set_cons_succ]
    refine wpAnyH_done (by kernel_rfl) ?_ _
    refine NoPanic.normal ?_
    have SC := Bx.mk (fun W hW hp => symbol_calls w0 x r A l c m p D R1 W hW (fun _ => hp))
    have HPC := Bx.mk (HP.out.istep S3.out)
    generalize run (symP l D) 0 R1 = P2 at *
    obtain ⟨V2, R2⟩ := P2
    simp only at SC HRF
    clear B3 NC HP
    go_wp2_with (go_at_call 91; fail)
    refine (SC.out wN A3.out HPC.out).mono ?_
    rintro e w4 ⟨rfl, ha4, hs4⟩
    have A4 := Bx.mk ha4
    have S4 := Bx.mk (S3.out.trans hs4)
    clear ha4 hs4 A3 S3 SC HPC
    have F2 := Bx.mk (fun W hW => fail_bool w0 x r A l c m 110 (by decide) (decide ((30 : Int) ≤ (V2 : Int))) (chk 110 (V2 < 30)) R2 W hW (fun s' _ => by
      unfold chk
      by_cases hh : V2 < 30
      · rw [if_pos hh, if_pos (by simp; omega)]
      · rw [if_neg hh, if_neg (by simp; omega)]))
    have HK3 := Bx.mk (@run_chk 110 (V2 < 30) _ R2)
    generalize (run (chk 110 (V2 < 30)) () R2).2 = R3 at *
    go_wp2_with (go_at_call 58; fail)
    refine (F2.out w4 A4.out).mono ?_
    rintro e w5 ⟨rfl, ha5, hs5⟩
    have S5 := Bx.mk (S4.out.trans hs5)
    clear hs5 A4 S4 F2
    cases R3 with
    | error e3 =>
      have A5 := Bx.mk ha5
      have HF : Bx (RF = .error e3) := ⟨HRF.out⟩
      rw [show okR (.error e3) = false from rfl]
      clear ha5 HK3
      go_wp2
      (try simp only [Exit.inBlock, Exit.then]); refine bodyPost_ret (results_none rfl _ _ _) rfl ?_
      exact ⟨rfl, by rw [HF.out]; exact A5.out, S5.out⟩
    | ok s3 =>
      rw [show okR (.ok s3) = true from rfl]
      have h30 := (HK3.out rfl).2
      have A5 := Bx.mk ha5
      clear ha5 HK3
      obtain ⟨hd1, hd2, hd3⟩ := DB_le V2 h30
      have hdec2 : decide ((30 : Int) ≤ (V2 : Int)) = false := by simp; omega
      have hi30 : (V2 : Int) < 30 := by omega
      have HT2 := Bx.mk (HG.out.dst V2 h30)
      have NC2 := Bx.mk (fun W hW => number_calls w0 x r A l c m (DX.getD V2 0) (by omega) (.ok s3) W hW)
      have hnv2 := num_val l (DX.getD V2 0) (.ok s3)
      have hpw2 : 2 ^ DX.getD V2 0 ≤ 8192 := Nat.le_trans (Nat.pow_le_pow_right (by decide) hd3) (by decide)
      generalize DX.getD V2 0 = X2 at *
      generalize DB.getD V2 0 = D2 at *
      generalize run (numP l X2) 0 (.ok s3) = P3 at *
      obtain ⟨V3, R4⟩ := P3
      simp only at hnv2 NC2 HRF
      have hV3 : V3 < 8192 := by omega
      clear hnv2 hpw2
      have hw2 : IntKind.i64.wrap ((D2 : Int) + (V3 : Int)) = ((D2 + V3 : Nat) : Int) := by rw [IntWalk.i64_in _ (by omega)]; omega
      have hbk : D2 + V3 ≤ 40000 := by omega
      have hbk1 : 1 ≤ D2 + V3 := by omega
      generalize D2 + V3 = BK at *
      have e0 : w5.cell? ⟨5, V2 * 2, none⟩ = some (.int .i64 (D2 : Int)) := cell_below A5.out.be HT2.out.1
      have e1 : w5.cell? ⟨5, V2 * 2 + 1, none⟩ = some (.int .i64 (X2 : Int)) := cell_below A5.out.be HT2.out.2
      go_upto_region 6 with fail
      have A6 := Bx.mk (A5.out.below (below_alloc1 w5 (Obj.cells #[.int .i64 (D2 : Int), .int .i64 (X2 : Int)] 91)))
      have S6 := Bx.mk (S5.out.trans (IStep.below (below_alloc1 w5 (Obj.cells #[.int .i64 (D2 : Int), .int .i64 (X2 : Int)] 91))))
      have B6 : Blk (w5.alloc (Obj.cells #[.int .i64 (D2 : Int), .int .i64 (X2 : Int)] 91)) w5.heap.size 91 #[.int .i64 (D2 : Int), .int .i64 (X2 : Int)] := Blk.new w5 _ _
      generalize w5.alloc (Obj.cells #[.int .i64 (D2 : Int), .int .i64 (X2 : Int)] 91) = w6 at *
      generalize w5.heap.size = q9 at *
      have B6d := B6.drew
      clear A5 S5 e0 e1 HT2
      refine wp_region_noPanic ?_
      refine wp_region_held_drew (S := fun W => Blk W q9 91 #[.int .i64 (D2 : Int), .int .i64 (X2 : Int)]) (by kernel_rfl) B6d (fun _ => ?_)
      refine takeH (i := 0) (v := ?_) rfl rfl (by kernel_rfl) (by kernel_rfl) (by kernel_rfl) (fun _ _ _ h => h) (Or.inl ⟨by rfl, ?_⟩) (by assumption) ?_
      rotate_left
      · (intro w hSw; have d0 : w.cell? ⟨q9, 0, none⟩ = some (.int .i64 (D2 : Int)) := hSw.cell 0; have d1 : w.cell? ⟨q9, 1, none⟩ = some (.int .i64 (X2 : Int)) := hSw.cell 1; go_simp; first | done | with_reducible rfl)
      simp only [List.setIfInBounds_toArray, List.set_cons_zero, List.set_cons_succ]
      refine takeH (i := 1) (v := ?_) rfl rfl (by kernel_rfl) (by kernel_rfl) (by kernel_rfl) (fun _ _ _ h => h) (Or.inl ⟨by rfl, ?_⟩) (by assumption) ?_
      rotate_left
      · (intro w hSw; have d0 : w.cell? ⟨q9, 0, none⟩ = some (.int .i64 (D2 : Int)) := hSw.cell 0; have d1 : w.cell? ⟨q9, 1, none⟩ = some (.int .i64 (X2 : Int)) := hSw.cell 1; go_simp; first | done | with_reducible rfl)
      simp only [List.setIfInBounds_toArray, List.set_cons_zero, List.set_cons_succ]
      refine takeH (i := 2) (v := ?_) rfl rfl (by kernel_rfl) (by kernel_rfl) (by kernel_rfl) (fun _ _ _ h => h) (Or.inl ⟨by rfl, ?_⟩) (by assumption) ?_
      rotate_left
      · (intro w hSw; have d0 : w.cell? ⟨q9, 0, none⟩ = some (.int .i64 (D2 : Int)) := hSw.cell 0; have d1 : w.cell? ⟨q9, 1, none⟩ = some (.int .i64 (X2 : Int)) := hSw.cell 1; go_simp; first | done | with_reducible rfl)
      simp only [List.setIfInBounds_toArray, List.set_cons_zero, List.set_cons_succ]
      refine takeH (i := 3) (v := ?_) rfl rfl (by kernel_rfl) (by kernel_rfl) (by kernel_rfl) (fun _ _ _ h => h) (Or.inl ⟨by rfl, ?_⟩) (by assumption) ?_
      rotate_left
      · (intro w hSw; have d0 : w.cell? ⟨q9, 0, none⟩ = some (.int .i64 (D2 : Int)) := hSw.cell 0; have d1 : w.cell? ⟨q9, 1, none⟩ = some (.int .i64 (X2 : Int)) := hSw.cell 1; go_simp; first | done | with_reducible rfl)
      simp only [List.setIfInBounds_toArray, List.set_cons_zero, List.set_cons_succ]
      refine takeH (i := 4) (v := ?_) rfl rfl (by kernel_rfl) (by kernel_rfl) (by kernel_rfl) (fun _ _ _ h => h) (Or.inl ⟨by rfl, ?_⟩) (by assumption) ?_
      rotate_left
      · (intro w hSw; have d0 : w.cell? ⟨q9, 0, none⟩ = some (.int .i64 (D2 : Int)) := hSw.cell 0; have d1 : w.cell? ⟨q9, 1, none⟩ = some (.int .i64 (X2 : Int)) := hSw.cell 1; go_simp; first | done | with_reducible rfl)
      simp only [List.setIfInBounds_toArray, List.set_cons_zero, List.set_cons_succ]
      refine wpAnyH_ready (rs := [5]) (by kernel_rfl) (by simp) ?_
      refine AllReadyH.cons rfl (fun K hK => ?_) AllReadyH.nil
      go_simp
      refine (NC2.out _ A6.out.drew).mono ?_
      rintro e wN ⟨rfl, ha7, hs7⟩
      have B7 := B6.istep ((IStep.drewN w6 1).trans hs7) (by decide) (by decide) (by decide)
      have A7 := Bx.mk ha7
      have S7 := Bx.mk (S6.out.trans ((IStep.drewN w6 1).trans hs7))
      clear ha7 hs7 B6 B6d A6 S6
      go_wp2_with fail
      refine hK.out _ _ B7 (fun _ => ?_)
      clear hK K
      refine takeH (i := 6) (v := ?_) rfl rfl (by kernel_rfl) (by kernel_rfl) (by kernel_rfl) (fun _ _ _ h => h) (Or.inl ⟨by rfl, ?_⟩) (by assumption) ?_
      rotate_left
      · (intro w hSw; have d0 : w.cell? ⟨q9, 0, none⟩ = some (.int .i64 (D2 : Int)) := hSw.cell 0; have d1 : w.cell? ⟨q9, 1, none⟩ = some (.int .i64 (X2 : Int)) := hSw.cell 1; go_simp; first | done | with_reducible rfl)
      simp only [List.setIfInBounds_toArray, List.set_cons_zero, List.set_cons_succ]
      refine takeH (i := 7) (v := ?_) rfl rfl (by kernel_rfl) (by kernel_rfl) (by kernel_rfl) (fun _ _ _ h => h) (Or.inl ⟨by rfl, ?_⟩) (by assumption) ?_
      rotate_left
      · (intro w hSw; have d0 : w.cell? ⟨q9, 0, none⟩ = some (.int .i64 (D2 : Int)) := hSw.cell 0; have d1 : w.cell? ⟨q9, 1, none⟩ = some (.int .i64 (X2 : Int)) := hSw.cell 1; go_simp; first | done | with_reducible rfl)
      simp only [List.setIfInBounds_toArray, List.set_cons_zero, List.set_cons_succ]
      refine wpAnyH_done (by kernel_rfl) ?_ _
      refine NoPanic.normal ?_
      clear B7
      have HRF2 : Bx (RF = (run (growP NL BK) () (run (roomP m NL) () (run (backP BK) () R4).2).2).2) := ⟨by rw [HRF.out, cpy_parts, run_bd (backP BK) _ () (), run_bd (roomP m NL) _ () ()]⟩
      obtain ⟨OA, N, OD, c1, -, hN, hNs⟩ := A7.out.outs
      have F3 := Bx.mk (fun W hW => fail_bool w0 x r A l c m 110 (by decide) (decide (N < BK)) (backP BK) R4 W hW (fun s' hs' => by
        have := hNs s' hs'
        unfold backP chk
        by_cases hh : BK ≤ s'.2.length
        · rw [if_pos hh, if_pos (by simp; omega)]
        · rw [if_neg hh, if_neg (by simp; omega)]))
      have HK5 := Bx.mk (@run_back BK R4)
      have HE5 : Bx (∀ e, (run (backP BK) () R4).2 = .error e → RF = .error e) := ⟨fun e he => by rw [HRF2.out, he]; rfl⟩
      clear HRF hNs NC2
      generalize (run (backP BK) () R4).2 = R5 at *
      go_wp2_with (go_at_call 58; fail)
      refine (F3.out wN A7.out).mono ?_
      rintro e w8 ⟨rfl, ha8, hs8⟩
      have S8 := Bx.mk (S7.out.trans hs8)
      clear hs8 A7 S7 F3
      cases R5 with
      | error e5 =>
        have A8 := Bx.mk ha8
        have HF : Bx (RF = .error e5) := ⟨HE5.out e5 rfl⟩
        rw [show okR (.error e5) = false from rfl]
        clear ha8 HE5 HK5 c1
        go_wp2
        (try simp only [Exit.inBlock, Exit.then]); first | refine bodyPost_end (results_none rfl _ _ _) rfl ?_ | refine bodyPost_ret (results_none rfl _ _ _) rfl ?_
        exact ⟨rfl, by rw [HF.out]; exact A8.out, S8.out⟩
      | ok s5 =>
        rw [show okR (.ok s5) = true from rfl]
        have hbk5 := (HK5.out rfl).2
        have hR4 := (HK5.out rfl).1
        subst hR4
        have RC := Bx.mk (fun W hW => room_calls w0 x r A l c m NL hm (.ok s5) W hW)
        have HRF3 : Bx (RF = (run (growP NL BK) () (run (roomP m NL) () (.ok s5)).2).2) := ⟨HRF2.out⟩
        have HK6 := Bx.mk (@run_room m NL (.ok s5))
        have A8 := Bx.mk ha8
        clear ha8 HE5 HK5 c1 HRF2
        generalize (run (roomP m NL) () (.ok s5)).2 = R6 at *
        go_wp2_with (go_at_call 87; fail)
        refine (RC.out w8 A8.out).mono ?_
        rintro e w9 ⟨rfl, ha9, hs9⟩
        have S9 := Bx.mk (S8.out.trans hs9)
        clear hs9 A8 S8 RC
        cases R6 with
        | error e6 =>
          have A9 := Bx.mk ha9
          have HF : Bx (RF = .error e6) := ⟨HRF3.out⟩
          rw [show okR (.error e6) = false from rfl]
          clear ha9 HK6 HRF3
          go_wp2
          (try simp only [Exit.inBlock, Exit.then]); first | refine bodyPost_end (results_none rfl _ _ _) rfl ?_ | refine bodyPost_ret (results_none rfl _ _ _) rfl ?_
          exact ⟨rfl, by rw [HF.out]; exact A9.out, S9.out⟩
        | ok s6 =>
          rw [show okR (.ok s6) = true from rfl]
          obtain ⟨h56, hroom⟩ := HK6.out rfl
          injection h56 with h56
          subst h56
          obtain ⟨a5, o5⟩ := s5
          have HF : Bx (RF = .ok (a5, cpN BK NL o5)) := ⟨HRF3.out⟩
          obtain ⟨O9, I9⟩ := ha9
          simp only at I9 hbk5 hroom
          have I9' := Bx.mk I9
          have HB5 := Bx.mk I9.byt
          have HL5 := Bx.mk I9.len
          clear I9 HK6 HRF3
          go_wp2
          go_loopw [59] (fun i wr => ∃ (k : Nat) (O : Value), k ≤ NL ∧ i = .int .i64 (k : Nat) ∧ Bx (IS w0 x r A l c m a5 (cpN BK k o5) O 0 wr) ∧ Bx (IStep w wr)) (fun i _ => NL - (intOf i).toNat)
          case atStart => exact ⟨0, O9, Nat.zero_le _, rfl, I9', S9⟩
          case round =>
            obtain ⟨k, O, hk, rfl, IK, SK⟩ := hrel
            by_cases hlt : k < NL
            · have I := IK.out
              obtain ⟨OA, OD, rfl⟩ := I.ow.form
              have hlenK := cpN_len BK k o5
              have hsnoc := cpN_snoc BK k o5
              have hmemK := cpN_mem BK hbk1 (k + 1) o5 hbk5 (fun y hy => HB5.out y hy)
              obtain ⟨g, hOA, -, hbg, hlt2, hcell, hfz⟩ := I.ow.opened (by omega)
              subst hOA
              have c1 : wr.cell? ⟨x, 1, none⟩ = some (.slice (some ⟨g, 0, none⟩) (cpN BK k o5).length OD) := I.xb.cell 1
              have hcJ := hcell ((cpN BK k o5).length - BK) (by omega)
              have hy := mem_getD (k := (cpN BK k o5).length - BK) (show (cpN BK k o5).length - BK < (cpN BK k o5).length by omega) I.byt
              have hsub : IntKind.i64.wrap (((cpN BK k o5).length : Int) - (BK : Int)) = (((cpN BK k o5).length - BK : Nat) : Int) := by rw [IntWalk.i64_in _ (by have := I.len; omega)]; omega
              have hJN : (((cpN BK k o5).length - BK : Nat) : Int) < ((cpN BK k o5).length : Int) := by omega
              have HI := Bx.mk I
              have HN := Bx.mk hsnoc
              have HM := Bx.mk hmemK
              have HLK := Bx.mk hlenK
              clear hcell hfz I IK hsnoc hmemK hlenK
              rw [HN.out] at HM
              generalize (cpN BK k o5).getD ((cpN BK k o5).length - BK) 0 = Y at *
              generalize (cpN BK k o5).length - BK = J at *
              generalize hKK : cpN BK k o5 = KK at *
              have HKK := Bx.mk hKK
              clear hKK
              have HOA : Bx (OB (wr.drew.alloc (.cells #[.int .u8 (Y : Int)] 5)) w0.heap.size (.slice (some ⟨g, 0, none⟩) KK.length OD) KK) := ⟨(HI.out.ow.below (below_drewN (Below.refl _ wr) 1)).below (below_alloc1 wr.drew _)⟩
              have RL := Bx.mk (RB.lit wr.drew 5 [Y] #[.int .u8 (Y : Int)] rfl (by simpa using hy) (by show 1 ≤ _; omega))
              have HLA : Bx (KK.length + [Y].length ≤ 140737492549632) := ⟨by have := HI.out.len; show KK.length + 1 ≤ _; omega⟩
              have HSA : Bx (w0.heap.size ≤ (wr.drew.alloc (.cells #[.int .u8 (Y : Int)] 5)).heap.size) := ⟨by have := HI.out.be.size; simp; omega⟩
              have c1a : (wr.drew.alloc (.cells #[.int .u8 (Y : Int)] 5)).cell? ⟨x, 1, none⟩ = some (.slice (some ⟨g, 0, none⟩) KK.length OD) := (World.cell?_alloc_lt wr.drew _ ⟨x, 1, none⟩ HI.out.xb.lt).trans c1
              have c1b : (wr.alloc (.cells #[.int .u8 (Y : Int)] 5)).cell? ⟨x, 1, none⟩ = some (.slice (some ⟨g, 0, none⟩) KK.length OD) := (World.cell?_alloc_lt wr _ ⟨x, 1, none⟩ HI.out.xb.lt).trans c1
              have HBA : Bx (Below wr.heap.size wr (wr.drew.alloc (.cells #[.int .u8 (Y : Int)] 5))) := ⟨(Below.refl _ _).drew.alloc (Nat.le_refl _) _⟩
              have HIA := Bx.mk (HI.out.below HBA.out)
              go_wp2_with fail
              go_region_law ((refine step_append_bytes _ rfl (.tmp 65) (.tmp 79) rfl w0.heap.size _ KK [Y] (by rfl) HOA.out (some ⟨wr.heap.size, 0, none⟩) 1 (by rfl) RL.out HLA.out HSA.out ?_; intro v' w' ho' hg _; obtain ⟨A7, c7, hv7⟩ := OB.form ho'; rw [List.length_append, List.length_singleton] at hv7; subst hv7; have X7 := HIA.out.xb.grown hg (fun hc => HIA.out.ox hc.symm); have c17 : w'.cell? ⟨x, 1, none⟩ = some (.slice (some ⟨g, 0, none⟩) KK.length OD) := X7.cell 1; have f17 := X7.frozen 1; clear X7))
              all_goals
                have HIN := Bx.mk (HIA.out.app ho' hg (by have := HLK.out; rw [List.length_append, List.length_singleton]; omega) (fun y hy => HM.out y hy))
                have HSN := Bx.mk ((SK.out.trans (IStep.below HBA.out)).trans (IStep.app (i := 1) (u := .slice A7 (KK.length + 1) c7) HIA.out.xb HIA.out.ow hg))
                clear ho' hg
                go_wp2
                go_roundw
                case rel => exact ⟨k + 1, _, by omega, by go_num, ⟨by rw [HN.out]; exact HIN.out⟩, HSN⟩
                case measure => simp [intOf]; omega
            · obtain rfl : k = NL := by omega
              go_wp2
              (try simp only [Exit.inBlock, Exit.then]); first | refine bodyPost_end (results_none rfl _ _ _) rfl ?_ | refine bodyPost_ret (results_none rfl _ _ _) rfl ?_
              exact ⟨rfl, by rw [HF.out]; exact ⟨O, IK.out⟩, SK.out⟩
  · have HF := Bx.mk (copy_bad m l D sym s h29)
    rw [HF.out]
    have F1 := Bx.mk (fun W hW => fail_bool w0 x r A l c m 110 (by decide) true (chk 110 (sym < 29)) (.ok s) W hW (fun s' _ => by unfold chk; rw [if_neg h29]; simp))
    have HR1 : (run (chk 110 (sym < 29)) () (.ok s)).2 = .error 110 := by unfold run chk; simp only; rw [if_neg h29]
    rw [HR1] at F1
    have hdec : (29 : Int) ≤ (sym : Int) := by omega
    clear HR1 HF
    go_enter Tryd.func92, Tryd.ntmps92
    go_wp2_with (go_at_call 58; fail)
    refine (F1.out w h).mono ?_
    rintro e w1 ⟨rfl, ha1, hs1⟩
    have A1 := Bx.mk ha1
    have S1 := Bx.mk hs1
    clear ha1 hs1 F1 h hp
    rw [show okR (.error 110) = false from rfl]
    go_wp2
    (try simp only [Exit.inBlock, Exit.then]); first | refine bodyPost_end (results_none rfl _ _ _) rfl ?_ | refine bodyPost_ret (results_none rfl _ _ _) rfl ?_
    exact ⟨rfl, A1.out, S1.out⟩
end Go.Proofs.YtoekecopfmohiaaDoor
