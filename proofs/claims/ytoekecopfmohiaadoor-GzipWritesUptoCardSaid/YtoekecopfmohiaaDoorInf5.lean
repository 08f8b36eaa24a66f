import Derived.Test.YtoekecopfmohiaaDoorInf4
import Derived.Deep.LoopGhost
/-
  The inflater: symbols, coded.
-/
namespace Go.Proofs.YtoekecopfmohiaaDoor
open Go.RowKit

theorem ord_lt (L : List Nat) (hL : L.length ≤ 288) : ∀ s ∈ ordN L 15, s < 288 := fun s hs => by
  have := (ord_mem L 15 s hs).1; omega
theorem rdS_lt (L l : List Nat) (hL : L.length ≤ 288) : ∀ k n got a, (rdS L l k n got a).1 < 288
  | 0, n, got, a => by simp [rdS]
  | k + 1, n, got, a => by
    simp only [rdS]
    split
    · split
      · simp only
        rcases Nat.lt_or_ge (frm L n + (2 * got + pkN l a 1 - fc L n)) (ordN L 15).length with h | h
        · rw [List.getD_eq_getElem?_getD, List.getElem?_eq_getElem h]
          exact ord_lt L hL _ (List.getElem_mem h)
        · rw [List.getD_eq_getElem?_getD, List.getElem?_eq_none h]; decide
      · exact rdS_lt L l hL k _ _ _
    · exact Nat.zero_lt_succ _
theorem sym_lt (L l : List Nat) (hL : L.length ≤ 288) (R : Except Nat SS) : (run (symP l L) 0 R).1 < 288 := by
  cases R with
  | error e => exact Nat.zero_lt_succ _
  | ok s =>
    obtain ⟨a, out⟩ := s
    rw [(sym_run L l a out).1]
    exact rdS_lt L l hL _ _ _ _
theorem sym_fwd {L l : List Nat} {s s' : SS} (h : (run (symP l L) 0 (.ok s)).2 = .ok s') : s.1 < s'.1 := by
  obtain ⟨a, out⟩ := s
  rw [(sym_run L l a out).2] at h
  by_cases h0 : (rdC L l a).2.1 = 0
  · rw [if_pos h0] at h
    cases h
    exact rdS_fwd L l _ _ _ _ h0
  · rw [if_neg h0] at h; cases h
theorem copy_fwd {m : Nat} {l D : List Nat} {sym : Nat} {s s' : SS} (h : (run (copyP m l D sym) () (.ok s)).2 = .ok s') (hs : s.1 ≤ 8 * l.length) : s.1 ≤ s'.1 := by
  unfold run at h
  simp only at h
  cases hp : copyP m l D sym s with
  | error e => rw [hp] at h; cases h
  | ok u =>
    rw [hp] at h
    obtain ⟨v, t⟩ := u
    cases h
    exact ((copy_good D sym).mono m l s v _ hp hs).1
/-- pushing a byte where there is room -/
def pushQ (x : Nat) : Px Unit := fun s => .ok ((), (s.1, s.2 ++ [x]))
theorem push_room (m x : Nat) : pushP m x = bd (roomP m 1) fun _ => pushQ x := by
  funext s
  unfold pushP bd roomP pushQ
  by_cases h : 1 + s.2.length ≤ m
  · rw [if_pos h, if_pos h]
  · rw [if_neg h, if_neg h]
theorem syms_step (m : Nat) (l N D : List Nat) (k : Nat) (R : Except Nat SS) : run (symsP m l N D (k + 1)) () R = run (if (run (symP l N) 0 R).1 = 256 then ret () else if 256 < (run (symP l N) 0 R).1 then bd (copyP m l D ((run (symP l N) 0 R).1 - 257)) fun _ => symsP m l N D k else bd (pushP m (run (symP l N) 0 R).1) fun _ => symsP m l N D k) () (run (symP l N) 0 R).2 := by
  simp only [symsP]
  rw [run_bd (symP l N) _ 0 ()]
set_option maxRecDepth 100000 in
set_option maxHeartbeats 4000000 in
theorem symbols_calls (w0 : World) (x r : Nat) (A : Option Addr) (l : List Nat) (c m : Nat) (hm : m ≤ 262144) (hg : Gf w0) (p q : Value) (N D : List Nat) (R : Except Nat SS) (w : World) (h : At w0 x r A l c m R w) (hp : okR R = true → HasC w p N ∧ HasC w q D) :
    Calls Tryd.prog 57 #[.pointer (some ⟨x, 0, none⟩), p, q] w fun e w' =>
      e = .returned (.tuple #[]) ∧ At w0 x r A l c m (run (symsP m l N D K0) () R).2 w' ∧ IStep w w' := by
  have HA := Bx.mk h
  have HP := Bx.mk hp
  have HG := Bx.mk hg
  obtain ⟨RF, hRF⟩ : ∃ RF, RF = (run (symsP m l N D K0) () R).2 := ⟨_, rfl⟩
  rw [← hRF]
  have HRF := Bx.mk hRF
  clear hRF h hp hg
  go_enter Tryd.func57, Tryd.ntmps57
  go_wp2
  go_loopg [6] K0 (fun k s6 wr => ∃ (R' : Except Nat SS), Bx (At w0 x r A l c m R' wr) ∧ Bx (IStep w wr) ∧ Bx (okR R' = true → HasC wr p N ∧ HasC wr q D) ∧ Bx (RF = (run (symsP m l N D k) () R').2) ∧ Bx (∀ s, R' = .ok s → 8 * l.length < k + s.1))
  case atStart =>
    refine ⟨R, HA, ⟨IStep.refl _⟩, HP, HRF, ⟨fun s hs => ?_⟩⟩
    subst hs
    obtain ⟨O, I⟩ := HA.out
    have := I.src.2.1
    unfold K0; omega
  case round =>
    obtain ⟨R', A1, S1, P1, F1, M1⟩ := hrel
    clear HA HP HRF
    cases R' with
    | error e =>
      obtain ⟨h3, hne, hne2, -⟩ := A1.out.no
      have HF : Bx (RF = .error e) := ⟨F1.out⟩
      clear F1 M1 P1
      go_wp2
      (try simp only [Exit.inBlock, Exit.then]); first | refine bodyPost_end (results_none rfl _ _ _) rfl ?_ | refine bodyPost_ret (results_none rfl _ _ _) rfl ?_
      exact ⟨rfl, by rw [HF.out]; exact A1.out, S1.out⟩
    | ok s =>
      have h3 : wr.cell? ⟨x, 3, none⟩ = some (.int .i64 ((0 : Nat) : Int)) := by obtain ⟨O, I⟩ := A1.out; exact I.xb.cell 3
      have hpos : s.1 ≤ 8 * l.length := by obtain ⟨O, I⟩ := A1.out; exact I.pos
      have hfuel := M1.out s rfl
      obtain ⟨k', rfl⟩ : ∃ k', gk = k' + 1 := ⟨gk - 1, by omega⟩
      obtain ⟨HN, HD⟩ := P1.out rfl
      have SC := Bx.mk (symbol_calls w0 x r A l c m p N (.ok s) wr A1.out (fun _ => HN))
      have HN1 := Bx.mk HN; have HD1 := Bx.mk HD
      have HV := sym_lt N l HN.1 (.ok s)
      have HFW := Bx.mk (@sym_fwd N l s)
      have F2 : Bx (RF = _) := ⟨F1.out.trans (by rw [syms_step])⟩
      clear F1 M1 P1 HN HD
      generalize run (symP l N) 0 (.ok s) = PS at *
      obtain ⟨V, RS⟩ := PS
      simp only at SC HV HFW F2
      go_wp2_with (go_at_call 91; fail)
      refine SC.out.mono ?_
      rintro e w2 ⟨rfl, ha2, hs2⟩
      have A2 := Bx.mk ha2
      have S2 := Bx.mk (S1.out.trans hs2)
      have HN2 := Bx.mk (HN1.out.istep hs2)
      have HD2 := Bx.mk (HD1.out.istep hs2)
      clear ha2 hs2 SC A1 S1 HN1 HD1 h3
      cases RS with
      | error e =>
        obtain ⟨h3, hne, hne2, -⟩ := A2.out.no
        have HF : Bx (RF = .error e) := ⟨F2.out⟩
        clear F2 HFW
        go_wp2
        (try simp only [Exit.inBlock, Exit.then]); first | refine bodyPost_end (results_none rfl _ _ _) rfl ?_ | refine bodyPost_ret (results_none rfl _ _ _) rfl ?_
        exact ⟨rfl, by rw [HF.out]; exact A2.out, S2.out⟩
      | ok s2 =>
        have h3 : w2.cell? ⟨x, 3, none⟩ = some (.int .i64 ((0 : Nat) : Int)) := by obtain ⟨O, I⟩ := A2.out; exact I.xb.cell 3
        have hpos2 : s2.1 ≤ 8 * l.length := by obtain ⟨O, I⟩ := A2.out; exact I.pos
        have hfw := HFW.out rfl
        clear HFW
        by_cases h256 : V = 256
        · have HF : Bx (RF = .ok s2) := ⟨F2.out.trans (by rw [if_pos h256]; rfl)⟩
          have hv : ((V : Int) == 256) = true := by rw [h256]; rfl
          clear F2
          subst h256
          go_wp2
          (try simp only [Exit.inBlock, Exit.then]); first | refine bodyPost_end (results_none rfl _ _ _) rfl ?_ | refine bodyPost_ret (results_none rfl _ _ _) rfl ?_
          exact ⟨rfl, by rw [HF.out]; exact A2.out, S2.out⟩
        · have hv : ((V : Int) == 256) = false := beq_false_of_ne (by omega)
          by_cases hgt : 256 < V
          · have hgi : (256 : Int) < (V : Int) := by omega
            have F3 : Bx (RF = (run (symsP m l N D k') () (run (copyP m l D (V - 257)) () (.ok s2)).2).2) := ⟨F2.out.trans (by rw [if_neg h256, if_pos hgt, run_bd (copyP m l D _) _ () ()])⟩
            have CC := Bx.mk (copied_calls w0 x r A l c m hm HG.out q D (V - 257) (by omega) s2 w2 A2.out HD2.out)
            have HFC := Bx.mk (fun s' h => @copy_fwd m l D (V - 257) s2 s' h hpos2)
            have hwa : IntKind.i64.wrap ((V : Int) - 256) = (V : Int) - 256 := IntWalk.i64_in _ (by omega)
            have hwb : IntKind.i64.wrap ((V : Int) - 256 - 1) = ((V - 257 : Nat) : Int) := by rw [IntWalk.i64_in _ (by omega)]; omega
            clear F2
            generalize (run (copyP m l D (V - 257)) () (.ok s2)).2 = R3 at *
            generalize V - 257 = SY at *
            go_wp2_with (go_at_call 92; fail)
            refine CC.out.mono ?_
            rintro e w3 ⟨rfl, ha3, hs3⟩
            have A3 := Bx.mk ha3
            have S3 := Bx.mk (S2.out.trans hs3)
            have P3 : Bx (okR R3 = true → HasC w3 p N ∧ HasC w3 q D) := ⟨fun _ => ⟨HN2.out.istep hs3, HD2.out.istep hs3⟩⟩
            have M3 : Bx (∀ s, R3 = .ok s → 8 * l.length < k' + s.1) := ⟨fun s' hs' => by have := HFC.out s' hs'; omega⟩
            clear ha3 hs3 CC A2 S2
            go_wp2
            go_roundg k'
            case measure => omega
            case rel => exact ⟨R3, A3, S3, P3, F3, M3⟩
          · have hgi : decide ((256 : Int) < (V : Int)) = false := by simp; omega
            have F3 : Bx (RF = (run (symsP m l N D k') () (run (pushQ V) () (run (roomP m 1) () (.ok s2)).2).2).2) := ⟨F2.out.trans (by rw [if_neg h256, if_neg hgt, push_room, run_bd _ _ () (), run_bd (roomP m 1) _ () ()])⟩
            have CC := Bx.mk (room_calls w0 x r A l c m 1 hm (.ok s2) w2 A2.out)
            have HKR := Bx.mk (@run_room m 1 (.ok s2))
            clear F2
            generalize (run (roomP m 1) () (.ok s2)).2 = R3 at *
            go_wp2_with (go_at_call 87; fail)
            refine CC.out.mono ?_
            rintro e w3 ⟨rfl, ha3, hs3⟩
            have A3 := Bx.mk ha3
            have S3 := Bx.mk (S2.out.trans hs3)
            have P3 : Bx (HasC w3 p N ∧ HasC w3 q D) := ⟨⟨HN2.out.istep hs3, HD2.out.istep hs3⟩⟩
            clear ha3 hs3 CC A2 S2 HN2 HD2
            cases R3 with
            | error e3 =>
              rw [show okR (.error e3) = false from rfl]
              have F4 : Bx (RF = (run (symsP m l N D k') () (.error e3)).2) := F3
              clear HKR F3
              go_wp2
              go_roundg k'
              case measure => omega
              case rel => exact ⟨.error e3, A3, S3, ⟨fun _ => P3.out⟩, F4, ⟨fun s hs => by cases hs⟩⟩
            | ok s3 =>
              rw [show okR (.ok s3) = true from rfl]
              obtain ⟨h23, hroom⟩ := HKR.out rfl
              injection h23 with h23
              subst h23
              obtain ⟨a2, o2⟩ := s2
              have F4 : Bx (RF = (run (symsP m l N D k') () (.ok (a2, o2 ++ [V]))).2) := F3
              obtain ⟨O, I⟩ := A3.out
              simp only at I hroom
              have HI := Bx.mk I
              have HV256 : V < 256 := by omega
              have hwv : IntKind.u8.wrap (V : Int) = (V : Int) := by rw [IntKind.wrap_u8']; omega
              have M4 : Bx (8 * l.length < k' + a2) := ⟨by simp only at hfw; omega⟩
              have c1 : w3.cell? ⟨x, 1, none⟩ = some O := I.xb.cell 1
              have HBA : Bx (Below w3.heap.size w3 (w3.alloc (.cells #[.int .u8 (V : Int)] 5))) := ⟨below_alloc1 _ _⟩
              have HIA := Bx.mk (HI.out.below HBA.out)
              have RL := Bx.mk (RB.lit w3 5 [V] #[.int .u8 (V : Int)] rfl (by simpa using HV256) (by show 1 ≤ _; omega))
              have HLA : Bx (o2.length + [V].length ≤ 140737492549632) := ⟨by have := HI.out.len; show o2.length + 1 ≤ _; omega⟩
              have HSA : Bx (w0.heap.size ≤ (w3.alloc (.cells #[.int .u8 (V : Int)] 5)).heap.size) := ⟨by have := HI.out.be.size; simp; omega⟩
              clear I HKR F3 A3 h3
              go_wp2_with (at_builtin; refine wpList_append_bytes _ rfl _ _ rfl w0.heap.size O o2 [V] rfl HIA.out.ow (some ⟨w3.heap.size, 0, none⟩) 1 rfl RL.out HLA.out HSA.out ?_; intro v7 w7 ho7 hg7 _; obtain ⟨A7, c7, hv7⟩ := OB.form ho7; rw [List.length_append, List.length_singleton] at hv7; subst hv7; have G7 := Bx.mk hg7; have O7 := Bx.mk ho7; have X7 := HIA.out.xb.grown hg7 (fun hc => HIA.out.ox hc.symm); have c17 : w7.cell? ⟨x, 1, none⟩ = some O := X7.cell 1; have f1 := X7.frozen 1; clear X7 ho7 hg7)
              have HIN := Bx.mk (HIA.out.app O7.out G7.out (by rw [List.length_append, List.length_singleton]; omega) (fun y hy => by
                rcases List.mem_append.1 hy with h | h
                · exact HI.out.byt y h
                · rw [List.mem_singleton] at h; omega))
              have HSN := Bx.mk ((S3.out.trans (IStep.below HBA.out)).trans (IStep.app (i := 1) (u := .slice A7 (o2.length + 1) c7) HIA.out.xb HIA.out.ow G7.out))
              have P4 : Bx (HasC (w7.setCell ⟨x, 1, none⟩ (.slice A7 (o2.length + 1) c7)) p N ∧ HasC (w7.setCell ⟨x, 1, none⟩ (.slice A7 (o2.length + 1) c7)) q D) := ⟨by
                have hst := (IStep.below HBA.out).trans (IStep.app (i := 1) (u := .slice A7 (o2.length + 1) c7) HIA.out.xb HIA.out.ow G7.out)
                exact ⟨P3.out.1.istep hst, P3.out.2.istep hst⟩⟩
              clear G7 O7
              go_wp2
              go_roundg k'
              case measure => omega
              case rel => exact ⟨.ok (a2, o2 ++ [V]), ⟨_, HIN.out⟩, HSN, ⟨fun _ => P4.out⟩, F4, ⟨fun s hs => by cases hs; exact M4.out⟩⟩
end Go.Proofs.YtoekecopfmohiaaDoor
