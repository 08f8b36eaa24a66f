import Derived.Test.YtoekecopfmohiaaDoorInfPure
/-
  Inflate's laws, plainly: what stands behind changes nothing; a beginning is short; bounds.
-/
namespace Go.Proofs.YtoekecopfmohiaaDoor

theorem inflN_ok {l : List Nat} {m : Nat} {out : List Nat} {n : Nat} (h : inflN l m = .ok (out, n)) : ∃ s : SS, infP m l K0 (0, []) = .ok ((), s) ∧ out = s.2 ∧ n = (s.1 + 7) / 8 := by
  unfold inflN at h
  cases hp : infP m l K0 (0, []) with
  | error e => rw [hp] at h; cases h
  | ok u =>
    rw [hp] at h
    obtain ⟨v, s⟩ := u
    cases h
    exact ⟨s, rfl, rfl, rfl⟩
theorem inflN_of {l : List Nat} {m : Nat} {s : SS} (h : infP m l K0 (0, []) = .ok ((), s)) : inflN l m = .ok (s.2, (s.1 + 7) / 8) := by
  unfold inflN; rw [h]
theorem inflN_err {l : List Nat} {m e : Nat} : inflN l m = .error e ↔ infP m l K0 (0, []) = .error e := by
  unfold inflN
  cases hp : infP m l K0 (0, []) with
  | error e' => simp
  | ok u => obtain ⟨v, s⟩ := u; simp
theorem inflN_bounds {l : List Nat} {m : Nat} {out : List Nat} {n : Nat} (h : inflN l m = .ok (out, n)) : out.length ≤ m ∧ n ≤ l.length ∧ 0 < n := by
  obtain ⟨s, h1, rfl, rfl⟩ := inflN_ok h
  have a := (inf_good K0).mono m l _ _ _ h1 (Nat.zero_le _)
  have b := (inf_good K0).bnd m l _ _ _ h1 (Nat.zero_le _)
  refine ⟨b, by simp only at a; omega, ?_⟩
  have h2 : infP m l K0 = bd (blockP m l) fun last => if last = 1 then ret () else infP m l (K0 - 1) := rfl
  rw [h2] at h1
  obtain ⟨u, t, h3, h4⟩ := bd_ok h1
  have c : 1 ≤ t.1 := by
    unfold blockP at h3
    obtain ⟨v, t1, h5, h6⟩ := bd_ok h3
    unfold numP at h5
    split at h5 <;> cases h5
    have := (Good.bd (Good.num 2) fun kind => Good.bd (kind_good kind) fun _ => Good.ret (pkN l 0 1)).mono m l _ _ _ h6 (by assumption)
    simp only at this
    omega
  have d : t.1 ≤ 8 * l.length := (block_good.mono m l _ _ _ h3 (Nat.zero_le _)).2
  have e := (Good.ite (u = 1) (Good.ret ()) (inf_good (K0 - 1))).mono m l _ _ _ h4 d
  omega
theorem agr_app (l m : List Nat) (n : Nat) (h : n ≤ l.length) : Agr l (l.take n ++ m) n where
  eq := by rw [List.take_append_of_le_length (by rw [List.length_take]; omega), List.take_take, Nat.min_self]
  h1 := h
  h2 := by rw [List.length_append, List.length_take]; omega
theorem inflN_same {l : List Nat} {m : Nat} {out : List Nat} {n : Nat} (h : inflN l m = .ok (out, n)) (k : List Nat) : inflN (l.take n ++ k) m = .ok (out, n) := by
  have hb := inflN_bounds h
  obtain ⟨s, h1, rfl, rfl⟩ := inflN_ok h
  exact inflN_of ((inf_good K0).same m l _ _ _ _ _ (agr_app l k _ hb.2.1) (Nat.zero_le _) h1 (by omega))
theorem inflN_cut {l : List Nat} {m : Nat} {out : List Nat} {n : Nat} (h : inflN l m = .ok (out, n)) (k : Nat) (hk : k < n) : inflN (l.take k) m = .error 7 := by
  have hb := inflN_bounds h
  obtain ⟨s, h1, rfl, rfl⟩ := inflN_ok h
  have hl : (l.take k).length = k := by rw [List.length_take]; omega
  have := agr_app l [] k (by omega)
  rw [List.append_nil] at this
  exact inflN_err.2 ((inf_good K0).cut m l _ _ _ _ (by rw [hl]; exact this) (Nat.zero_le _) h1 (by rw [hl]; omega))
theorem inflN_more {l : List Nat} {m m' : Nat} {out : List Nat} {n : Nat} (h : inflN l m = .ok (out, n)) (hm : m ≤ m') : inflN l m' = .ok (out, n) := by
  obtain ⟨s, h1, rfl, rfl⟩ := inflN_ok h
  exact inflN_of ((inf_good K0).more m m' l _ _ _ hm h1)
theorem inflN_more2 {l : List Nat} {m m' e : Nat} (h : inflN l m = .error e) (hm : m ≤ m') (he : e ≠ 3) : inflN l m' = .error e :=
  inflN_err.2 ((inf_good K0).mor2 m m' l _ _ hm (inflN_err.1 h) he)
theorem infl_w1 : inflN [75, 4, 0] 9 = .ok ([97], 3) := by kernel_rfl
theorem infl_w2 : inflN [1, 0, 0, 255, 255] 0 = .ok ([], 5) := by kernel_rfl
theorem infl_w3 : inflN [6] 9 = .error 110 := by kernel_rfl
end Go.Proofs.YtoekecopfmohiaaDoor
