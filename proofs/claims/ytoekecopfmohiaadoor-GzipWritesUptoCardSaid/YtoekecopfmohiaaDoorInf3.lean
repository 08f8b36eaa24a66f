import Derived.Test.YtoekecopfmohiaaDoorInf2
/-
  The inflater: plain.
-/
namespace Go.Proofs.YtoekecopfmohiaaDoor
open Go.RowKit

theorem i64_xor_nat (a b : Nat) (ha : a < 4611686018427387904) (hb : b < 4611686018427387904) : bits .xor .i64 (a : Int) (b : Int) = ((a ^^^ b : Nat) : Int) := by
  have h : (BitVec.ofInt 64 (a : Int) ^^^ BitVec.ofInt 64 (b : Int)).toNat = a ^^^ b := by
    rw [BitVec.toNat_xor, BitVec.toNat_ofInt, BitVec.toNat_ofInt]
    congr 1 <;> omega
  have h2 : a ^^^ b < 4611686018427387904 := Nat.xor_lt_two_pow (n := 62) ha hb
  show IntKind.i64.wrap ((BitVec.ofInt 64 (a : Int) ^^^ BitVec.ofInt 64 (b : Int)).toNat : Nat) = _
  rw [h, IntKind.wrap_i64]; omega
theorem num_val (l : List Nat) (n : Nat) (R : Except Nat SS) : (run (numP l n) 0 R).1 < 2 ^ n := by
  have h0 : 0 < 2 ^ n := Nat.pow_pos (by decide)
  cases R with
  | error e => exact h0
  | ok s =>
    unfold run numP
    simp only
    by_cases h : s.1 + n ≤ 8 * l.length
    · rw [if_pos h]; exact pkN_lt _ _ _
    · rw [if_neg h]; exact h0
theorem num_ok {l : List Nat} {n : Nat} {R : Except Nat SS} {s' : SS} (h : (run (numP l n) 0 R).2 = .ok s') : ∃ s, R = .ok s ∧ s' = (s.1 + n, s.2) := by
  cases R with
  | error e => cases h
  | ok s =>
    refine ⟨s, rfl, ?_⟩
    unfold run numP at h
    simp only at h
    by_cases h1 : s.1 + n ≤ 8 * l.length
    · rw [if_pos h1] at h; cases h; rfl
    · rw [if_neg h1] at h; cases h
theorem unit_ok {P : Px Unit} {R : Except Nat SS} {s' : SS} (hP : ∀ s v t, P s = .ok (v, t) → t = s) (h : (run P () R).2 = .ok s') : R = .ok s' := by
  cases R with
  | error e => cases h
  | ok s =>
    unfold run at h
    simp only at h
    cases hp : P s with
    | error e => rw [hp] at h; cases h
    | ok u =>
      rw [hp] at h
      obtain ⟨v, t⟩ := u
      cases h
      rw [hP s v _ hp]
theorem chk_same (e : Nat) (q : Prop) [Decidable q] : ∀ s v t, chk e q s = .ok (v, t) → t = s := fun s v t h => by
  unfold chk at h; split at h <;> cases h; rfl
theorem room_same (m n : Nat) : ∀ s v t, roomP m n s = .ok (v, t) → t = s := fun s v t h => by
  unfold roomP at h; split at h <;> cases h; rfl
/-- the bytes, where there is room -/
def bytesQ (l : List Nat) (n : Nat) : Px Unit := fun s => if n ≤ (8 * l.length - s.1) / 8 then .ok ((), (s.1 + 8 * n, s.2 ++ (l.drop (s.1 / 8)).take n)) else .error 7
theorem bytes_room (m : Nat) (l : List Nat) (n : Nat) : bytesP m l n = bd (roomP m n) fun _ => bytesQ l n := by
  funext s
  unfold bytesP bd roomP bytesQ
  by_cases h : n + s.2.length ≤ m
  · rw [if_pos h, if_pos h]
  · rw [if_neg h, if_neg h]
theorem IS.app {w0 w w1 : World} {x r : Nat} {A : Option Addr} {l : List Nat} {c m a e : Nat} {out : List Nat} {O : Value} (h : IS w0 x r A l c m a out O e w) {O' : Value} {out' : List Nat} (ho : OB w1 w0.heap.size O' out') (hg : w.grownBy w1 O.ownBlock)
    (hl : out'.length ≤ 262144) (hb : ∀ y ∈ out', y < 256) : IS w0 x r A l c m a out' O' e (w1.setCell ⟨x, 1, none⟩ O') := by
  have hx1 : Blk w1 x 50 _ := h.xb.grown hg (fun hc => h.ox hc.symm)
  have hr1 : Blk w1 r 75 _ := h.rb.grown hg (fun hc => h.or hc.symm)
  have hox : O'.ownBlock ≠ some x := own_blk_ne ho hx1 (by decide)
  exact {
    xb := hx1.set_ 1 _
    rb := hr1.far (fun hc => h.xr hc.symm) _
    ow := ho.keep fun q hq => Below.heap_setCell w1 ⟨x, 1, none⟩ _ q (fun hc => hox (by rw [hq, hc]))
    pos := h.pos
    lx := h.lx
    lr := h.lr
    src := h.src
    len := hl
    byt := hb
    be := (h.be.trans ((Below.refl _ _).grown hg h.be.size (fun k hk => own_block h.ow k hk))).setCell (p := ⟨x, 1, none⟩) h.lx _ }
theorem IStep.app {w w1 : World} {x i : Nat} {cs : Array Value} {base : Nat} {O u : Value} {out : List Nat} (hx : Blk w x 50 cs) (ho : OB w base O out) (hg : w.grownBy w1 O.ownBlock) : IStep w (w1.setCell ⟨x, i, none⟩ u) :=
  (IStep.grown ho hg).trans (IStep.set (hx.grown hg (fun hc => own_blk_ne ho hx (by decide) hc.symm)))
theorem IStep.wstep {w w' : World} {r : Nat} {cs : Array Value} (hb : Blk w r 75 cs) (h : WStep r (.slice none 0 0) w (.slice none 0 0) w') : IStep w w' :=
  ⟨fun q cs' t fr hq _ h2 _ => (h.keep q (Array.getElem?_eq_some_iff.1 hq).1 (fun hc => by subst hc; unfold Blk at hb; rw [hb] at hq; injection hq with hq; injection hq with _ ht; exact h2 ht.symm) (by simp [Value.ownBlock])).trans hq, h.size⟩
theorem IS.wstep {w0 w w' : World} {x r : Nat} {A : Option Addr} {l : List Nat} {c m a e : Nat} {out : List Nat} {O : Value} (h : IS w0 x r A l c m a out O e w) (hs : WStep r (.slice none 0 0) w (.slice none 0 0) w') {a' : Nat}
    (hb : Blk w' r 75 #[.slice A l.length c, .int .i64 (a' : Int), .bool true]) (ha : a' ≤ 8 * l.length) : IS w0 x r A l c m a' out O e w' where
  xb := (hs.keep x h.xb.lt h.xr (by simp [Value.ownBlock])).trans h.xb
  rb := hb
  ow := h.ow.keep fun q hq => hs.keep q (by
    rcases h.ow.2 with ⟨rfl, _⟩ | ⟨g', cap, cur, rfl, _, hh, _⟩
    · simp [Value.ownBlock] at hq
    · have : g' = q := by simpa [Value.ownBlock] using hq
      subst this
      exact (Array.getElem?_eq_some_iff.1 hh).1) (fun hc => h.or (by rw [hq, hc])) (by simp [Value.ownBlock])
  pos := ha
  lx := h.lx
  lr := h.lr
  src := h.src
  len := h.len
  byt := h.byt
  be := h.be.trans (hs.below _ h.lr h.be.size)
theorem bytes_step (w0 : World) (x r : Nat) (A : Option Addr) (l : List Nat) (c m n a : Nat) (out : List Nat) (O : Value) (w : World) (h : IS w0 x r A l c m a out O 0 w) (h8 : a % 8 = 0) (hlc : l.length ≤ c) :
    Calls Tryd.prog 88 #[.pointer (some ⟨r, 0, none⟩), .int .i64 (n : Int)] w fun e w' => ∃ (A6 : Option Addr) (bts : List Nat) (c6 E a' : Nat), e = .returned (.tuple #[.slice A6 bts.length c6, .int .i64 (E : Int)]) ∧ RB w' A6 bts ∧
      IS w0 x r A l c m a' out O 0 w' ∧ IStep w w' ∧ bts.length ≤ n ∧ (run (bytesQ l n) () (.ok (a, out))).2 = if E = 0 then .ok (a', out ++ bts) else .error E := by
  have hpos := h.pos
  have hlen := h.src.2.1
  by_cases hf : n ≤ (8 * l.length - a) / 8
  · obtain ⟨p, rfl⟩ : ∃ p, a = 8 * p := ⟨a / 8, by omega⟩
    refine (rBytes_yes r A l c p n w h.rb h.rbs hlc (by omega) (fun w' ho => h.src.below (h.be.trans (ho.below _ h.lr h.be.size)))).mono ?_
    rintro e w' ⟨v, rfl, ho, hb, hs⟩
    obtain ⟨A6, c6, rfl⟩ := ho.form
    have hbb : ∀ y ∈ (l.drop p).take n, y < 256 := fun y hy => h.src.1 y (List.mem_of_mem_drop (List.mem_of_mem_take hy))
    refine ⟨A6, _, c6, 0, 8 * (p + n), rfl, ho.rb hbb (by rw [List.length_take, List.length_drop]; omega), h.wstep hs hb (by omega), IStep.wstep h.rb hs, by rw [List.length_take]; omega, ?_⟩
    unfold run bytesQ
    simp only
    rw [if_pos hf, if_pos trivial, show 8 * p / 8 = p by omega, show 8 * p + 8 * n = 8 * (p + n) by omega]
  · have hE : byE l.length a n = 7 := by unfold byE; rw [if_neg (by omega), if_pos (by omega)]
    have := rBytes_no r A l.length c a n w h.rb hlen hpos (by rw [hE]; decide)
    rw [hE] at this
    refine this.mono ?_
    rintro e w' ⟨rfl, k, rfl⟩
    refine ⟨none, [], 0, 7, a, rfl, RB.nil _ _, h.below (below_drewN (Below.refl _ _) k), IStep.drewN w k, Nat.zero_le _, ?_⟩
    unfold run bytesQ
    simp only
    rw [if_neg hf]; rfl
set_option maxRecDepth 100000 in
set_option maxHeartbeats 4000000 in
theorem plain_calls (w0 : World) (x r : Nat) (A : Option Addr) (l : List Nat) (c m : Nat) (hm : m ≤ 262144) (hlc : l.length ≤ c) (s : SS) (w : World) (h : At w0 x r A l c m (.ok s) w) :
    Calls Tryd.prog 55 #[.pointer (some ⟨x, 0, none⟩)] w fun e w' =>
      e = .returned (.tuple #[]) ∧ At w0 x r A l c m (run (plainP m l) () (.ok s)).2 w' ∧ IStep w w' := by
  obtain ⟨a, out⟩ := s
  have HRUN : (run (plainP m l) () (.ok (a, out))).2 = (run (bytesQ l (run (numP l 16) 0 (.ok ((a + 7) / 8 * 8, out))).1) () (run (roomP m (run (numP l 16) 0 (.ok ((a + 7) / 8 * 8, out))).1) ()
      (run (chk 110 ((run (numP l 16) 0 (.ok ((a + 7) / 8 * 8, out))).1 ^^^ (run (numP l 16) 0 (run (numP l 16) 0 (.ok ((a + 7) / 8 * 8, out))).2).1 = 65535)) () (run (numP l 16) 0 (run (numP l 16) 0 (.ok ((a + 7) / 8 * 8, out))).2).2).2).2).2 := by
    unfold plainP
    rw [run_bd alignP _ () (), run_bd (numP l 16) _ 0 (), run_bd (numP l 16) _ 0 (), run_bd (chk 110 _) _ () (), bytes_room, run_bd (roomP m _) _ () ()]
    rfl
  rw [HRUN]
  clear HRUN
  have h8 : (a + 7) / 8 * 8 % 8 = 0 := by omega
  obtain ⟨O, h⟩ := h
  simp only at h
  have h0 : w.cell? ⟨x, 0, none⟩ = some (.pointer (some ⟨r, 0, none⟩)) := h.xb.cell 0
  have hlen := h.src.2.1
  have T0 := Bx.mk (rAlign_calls r _ a w h.rb (by have := h.pos; omega))
  have HA := Bx.mk h
  have hp8 : (a + 7) / 8 * 8 ≤ 8 * l.length := by have := h.pos; omega
  generalize (a + 7) / 8 * 8 = a8 at *
  have HV1 := num_val l 16 (.ok (a8, out))
  have HK1 := Bx.mk (@num_ok l 16 (.ok (a8, out)))
  have C1 := Bx.mk (fun W hW => number_calls w0 x r A l c m 16 (by decide) (.ok (a8, out)) W hW)
  generalize run (numP l 16) 0 (.ok (a8, out)) = P1 at *
  obtain ⟨V1, R1⟩ := P1
  simp only at HV1 HK1 C1 ⊢
  have HV2 := num_val l 16 R1
  have HK2 := Bx.mk (@num_ok l 16 R1)
  have C2 := Bx.mk (fun W hW => number_calls w0 x r A l c m 16 (by decide) R1 W hW)
  generalize run (numP l 16) 0 R1 = P2 at *
  obtain ⟨V2, R2⟩ := P2
  simp only at HV2 HK2 C2 ⊢
  have C3 := Bx.mk (fun W hW => fail_bool w0 x r A l c m 110 (by decide) (((V1 ^^^ V2 : Nat) : Int) != 65535) (chk 110 (V1 ^^^ V2 = 65535)) R2 W hW (fun s _ => by
    unfold chk
    by_cases hh : V1 ^^^ V2 = 65535
    · rw [if_pos hh, if_pos (by rw [hh]; rfl)]
    · rw [if_neg hh, if_neg (by rw [bne_eq_false_iff_eq]; omega)]))
  have HK3 := Bx.mk (@unit_ok (chk 110 (V1 ^^^ V2 = 65535)) R2 · (chk_same _ _))
  have hxor := i64_xor_nat V1 V2 (by omega) (by omega)
  generalize (run (chk 110 (V1 ^^^ V2 = 65535)) () R2).2 = R3 at *
  have C4 := Bx.mk (fun W hW => room_calls w0 x r A l c m V1 hm R3 W hW)
  have HK4 := Bx.mk (@unit_ok (roomP m V1) R3 · (room_same _ _))
  have HM : Bx (∀ s, (run (roomP m V1) () R3).2 = .ok s → V1 + s.2.length ≤ m) := ⟨fun s hs => by
    have hR3 := HK4.out s hs
    rw [hR3] at hs
    unfold run roomP at hs
    simp only at hs
    by_cases hh : V1 + s.2.length ≤ m
    · exact hh
    · rw [if_neg hh] at hs; cases hs⟩
  have HE4 : Bx (∀ e, R3 = .error e → (run (roomP m V1) () R3).2 = .error e) := ⟨fun e he => by rw [he]; rfl⟩
  generalize (run (roomP m V1) () R3).2 = R4 at *
  clear h
  go_enter Tryd.func55, Tryd.ntmps55
  go_wp2_with (go_at_call 86; fail)
  refine T0.out.mono ?_
  rintro e w1 ⟨rfl, hb1, ho1⟩
  have A1 : Bx (At w0 x r A l c m (.ok (a8, out)) w1) := ⟨O, HA.out.read ho1 hb1 hp8⟩
  have S1 := Bx.mk (IStep.only HA.out.rb ho1)
  clear hb1 ho1 T0 h0
  go_wp2_with (go_at_call 51; fail)
  refine (C1.out w1 A1.out).mono ?_
  rintro e w2 ⟨rfl, ha2, hs2⟩
  have A2 := Bx.mk ha2
  have S2 := Bx.mk (S1.out.trans hs2)
  clear ha2 hs2 S1 A1 C1
  go_wp2_with (go_at_call 51; fail)
  refine (C2.out w2 A2.out).mono ?_
  rintro e w3 ⟨rfl, ha3, hs3⟩
  have A3 := Bx.mk ha3
  have S3 := Bx.mk (S2.out.trans hs3)
  clear ha3 hs3 S2 A2 C2
  go_wp2_with (go_at_call 58; fail)
  refine (C3.out w3 A3.out).mono ?_
  rintro e w4 ⟨rfl, ha4, hs4⟩
  have S4 := Bx.mk (S3.out.trans hs4)
  clear hs4 S3 A3 C3
  cases R3 with
  | error e3 =>
    have A4 := Bx.mk ha4
    have HR4 := Bx.mk (HE4.out e3 rfl)
    clear ha4 HE4 C4 HK4 HM HK3
    rw [show okR (.error e3) = false from rfl]
    go_wp2
    (try simp only [Exit.inBlock, Exit.then]); refine bodyPost_ret (results_none rfl _ _ _) rfl ?_
    exact ⟨rfl, by rw [HR4.out]; exact A4.out, S4.out⟩
  | ok s3 =>
    rw [show okR (.ok s3) = true from rfl]
    have A4 := Bx.mk ha4
    clear ha4 HE4
    go_wp2_with (go_at_call 87; fail)
    refine (C4.out w4 A4.out).mono ?_
    rintro e w5 ⟨rfl, ha5, hs5⟩
    have S5 := Bx.mk (S4.out.trans hs5)
    clear hs5 C4 S4 A4
    cases R4 with
    | error e4 =>
      have A5 := Bx.mk ha5
      clear ha5
      rw [show okR (.error e4) = false from rfl]
      go_wp2
      (try simp only [Exit.inBlock, Exit.then]); refine bodyPost_ret (results_none rfl _ _ _) rfl ?_
      exact ⟨rfl, A5.out, S5.out⟩
    | ok s4 =>
      rw [show okR (.ok s4) = true from rfl]
      have hs4 : s4 = (a8 + 16 + 16, out) := by
        have e3 := HK4.out s4 rfl
        have e2 := HK3.out _ e3
        obtain ⟨t2, e1, rfl⟩ := HK2.out e2
        obtain ⟨t1, e0, rfl⟩ := HK1.out e1
        cases e0
        rfl
      have hroom := HM.out s4 rfl
      obtain ⟨a5, o5⟩ := s4
      injection hs4 with h5 h6
      subst h6
      have h58 : a5 % 8 = 0 := by omega
      clear h5
      obtain ⟨O5, I5⟩ := ha5
      simp only at I5 hroom
      have BS := Bx.mk (bytes_step w0 x r A l c m V1 _ o5 O5 w5 I5 h58 hlc)
      have c0 : w5.cell? ⟨x, 0, none⟩ = some (.pointer (some ⟨r, 0, none⟩)) := I5.xb.cell 0
      clear I5 HM HK4 HK3 HK2 HK1 hp8 h8 h58
      go_wp2_with (go_at_call 88; fail)
      refine BS.out.mono ?_
      rintro e w6 ⟨A6, bts, c6, E, a6, rfl, hr6, hi6, hs6, hl6, hRF⟩
      have HRF := Bx.mk hRF
      have R6 := Bx.mk hr6
      have I6 := Bx.mk hi6
      have S6 := Bx.mk (S5.out.trans hs6)
      have c1 : w6.cell? ⟨x, 1, none⟩ = some O5 := hi6.xb.cell 1
      have HLL : Bx (o5.length + bts.length ≤ 262144) := ⟨by omega⟩
      have HB6 : Bx (w0.heap.size ≤ w6.heap.size) := ⟨hi6.be.size⟩
      clear hr6 hi6 hs6 hRF BS S5 c0
      go_wp2_with (first | (at_builtin; refine wpList_append_bytes w6 rfl _ _ rfl w0.heap.size O5 o5 bts rfl I6.out.ow A6 c6 rfl R6.out ?hl HB6.out ?_; (case hl => have := HLL.out; omega); intro v7 w7 ho7 hg7 _; obtain ⟨A7, c7, hv7⟩ := ho7.form; rw [List.length_append] at hv7; subst hv7; have G7 := Bx.mk hg7; have O7 := Bx.mk ho7; have X7 := I6.out.xb.grown hg7 (fun hc => I6.out.ox hc.symm); have c17 : w7.cell? ⟨x, 1, none⟩ = some O5 := X7.cell 1; have f1 := X7.frozen 1; have c3 : w7.cell? ⟨x, 3, none⟩ = some (.int .i64 ((0 : Nat) : Int)) := X7.cell 3; have f3 := X7.frozen 3; clear X7 ho7 hg7 c1) | fail)
      have IF := Bx.mk ((I6.out.app O7.out G7.out (by rw [List.length_append]; exact HLL.out) (fun y hy => by
        rcases List.mem_append.1 hy with h | h
        · exact I6.out.byt y h
        · exact R6.out.1 y h)).err E)
      have SF := Bx.mk ((S6.out.trans (IStep.app (i := 1) (u := .slice A7 (o5.length + bts.length) c7) I6.out.xb I6.out.ow G7.out)).trans (IStep.set (i := 3) (u := .int .i64 (E : Int)) (I6.out.app O7.out G7.out (by rw [List.length_append]; exact HLL.out) (fun y hy => by
        rcases List.mem_append.1 hy with h | h
        · exact I6.out.byt y h
        · exact R6.out.1 y h)).xb))
      go_end0
      exact ⟨rfl, by rw [HRF.out]; exact IF.out.at_, SF.out⟩
end Go.Proofs.YtoekecopfmohiaaDoor
