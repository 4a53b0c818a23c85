/- Plain law: tokens, one step at a time; a quoted text is one token. -/
import Derived.Test.YtenbcmlacmepgaaDoorI
namespace Go.Proofs.YtenbcmlacmepgaaDoor

theorem step_skip_pos {c : UInt8} {l : List UInt8} {n : Nat} (h : step c l = .skip n) : 1 ≤ n := by
  unfold step at h
  split at h
  · injection h with h; omega
  split at h
  · rename_i h2
    injection h with h
    have hc : c = 35 := by simpa using h2
    subst hc h
    simp [lineN]
  split at h
  · cases h
  split at h
  · cases h
  split at h
  · unfold stepQ at h
    split at h <;> cases h
  · unfold stepS at h
    split at h <;> cases h
theorem step_tok_pos {c : UInt8} {l : List UInt8} {k n : Nat} {t : List UInt8} (h : step c l = .tok k t n) : 1 ≤ n := by
  unfold step at h
  split at h
  · cases h
  split at h
  · cases h
  split at h
  · rename_i h3
    injection h with _ _ h
    rw [← h]
    exact runN_pos (by simp [lodR, h3])
  split at h
  · rename_i h4
    injection h with _ _ h
    rw [← h]
    exact runN_pos h4
  split at h
  · unfold stepQ at h
    split at h
    · injection h with _ _ h; omega
    · cases h
  · unfold stepS at h
    split at h
    · rename_i x hx
      injection h with _ _ h
      have := signs_len x (signOf_some hx).1
      omega
    · cases h
theorem toksF_fuel : ∀ (n f f' : Nat) (r : List UInt8) (a : Nat) (out : List Tk), r.length ≤ n → r.length < f → r.length < f' → toksF f r a out = toksF f' r a out := by
  intro n
  induction n with
  | zero =>
    intro f f' r a out hn hf hf'
    obtain ⟨f, rfl⟩ : ∃ g, f = g + 1 := ⟨f - 1, by omega⟩
    obtain ⟨f', rfl⟩ : ∃ g, f' = g + 1 := ⟨f' - 1, by omega⟩
    obtain rfl : r = [] := List.eq_nil_of_length_eq_zero (by omega)
    rfl
  | succ n ih =>
    intro f f' r a out hn hf hf'
    obtain ⟨f, rfl⟩ : ∃ g, f = g + 1 := ⟨f - 1, by omega⟩
    obtain ⟨f', rfl⟩ : ∃ g, f' = g + 1 := ⟨f' - 1, by omega⟩
    cases r with
    | nil => rfl
    | cons c l =>
      simp only [List.length_cons] at hn hf hf'
      simp only [toksF]
      cases hs : step c l with
      | skip m =>
        have := step_skip_pos hs
        exact ih _ _ _ _ _ (by rw [List.length_drop]; simp; omega) (by rw [List.length_drop]; simp; omega) (by rw [List.length_drop]; simp; omega)
      | tok k t m =>
        have := step_tok_pos hs
        exact ih _ _ _ _ _ (by rw [List.length_drop]; simp; omega) (by rw [List.length_drop]; simp; omega) (by rw [List.length_drop]; simp; omega)
      | bad e => rfl
/-- The tokens from a place on. -/
def tk (r : List UInt8) (a : Nat) (out : List Tk) : Except (Nat × Nat) (List Tk) := toksF (r.length + 1) r a out
theorem toks_tk {s : List UInt8} (h : s.length ≤ 4096) : toks s = tk s 0 [] := by
  unfold toks tk
  rw [if_neg (by omega)]
theorem tk_nil (a : Nat) (out : List Tk) : tk [] a out = .ok (out ++ [⟨0, [], a⟩]) := rfl
theorem tk_skip {c : UInt8} {l : List UInt8} {n : Nat} (h : step c l = .skip n) (a : Nat) (out : List Tk) : tk (c :: l) a out = tk ((c :: l).drop n) (a + n) out := by
  have := step_skip_pos h
  unfold tk
  simp only [toksF, h, List.length_cons]
  have hl : ((c :: l).drop n).length ≤ l.length := by rw [List.length_drop]; simp; omega
  exact toksF_fuel l.length (l.length + 1) (((c :: l).drop n).length + 1) _ _ _ hl (by omega) (by omega)
theorem tk_tok {c : UInt8} {l t : List UInt8} {n k : Nat} (h : step c l = .tok k t n) (a : Nat) (out : List Tk) : tk (c :: l) a out = tk ((c :: l).drop n) (a + n) (out ++ [⟨k, t, a⟩]) := by
  have := step_tok_pos h
  unfold tk
  simp only [toksF, h, List.length_cons]
  have hl : ((c :: l).drop n).length ≤ l.length := by rw [List.length_drop]; simp; omega
  exact toksF_fuel l.length (l.length + 1) (((c :: l).drop n).length + 1) _ _ _ hl (by omega) (by omega)
theorem tk_bad {c : UInt8} {l : List UInt8} {e : Nat} (h : step c l = .bad e) (a : Nat) (out : List Tk) : tk (c :: l) a out = .error (a, e) := by
  unfold tk
  simp only [toksF, h]
theorem tk_spaces (n : Nat) (r : List UInt8) (a : Nat) (out : List Tk) : tk (List.replicate n 32 ++ r) a out = tk r (a + n) out := by
  induction n generalizing a with
  | zero => rfl
  | succ n ih =>
    rw [List.replicate_succ, List.cons_append, tk_skip (n := 1) (by rfl)]
    rw [show (32 :: (List.replicate n (32 : UInt8) ++ r)).drop 1 = List.replicate n 32 ++ r from rfl, ih]
    congr 1
    omega
theorem quo_dbl (s r : List UInt8) (h : r[0]? ≠ some 34) : quo (dbl s ++ 34 :: r) = some (s, (dbl s).length + 1) := by
  induction s with
  | nil =>
    rw [show dbl [] ++ 34 :: r = 34 :: r from rfl, quo.eq_def]
    simp only [if_true]
    cases r with
    | nil => rfl
    | cons d r =>
      have hd : d ≠ 34 := fun e => h (by simp [e])
      simp [hd, dbl]
  | cons c s ih =>
    by_cases hc : c = 34
    · subst hc
      rw [show dbl (34 :: s) = 34 :: 34 :: dbl s by simp [dbl], List.cons_append, List.cons_append, quo.eq_def]
      simp only [if_true, ih, Option.map_some, List.length_cons]
    · rw [show dbl (c :: s) = c :: dbl s by simp [dbl, hc], List.cons_append, quo.eq_def]
      simp only [hc, if_false, ih, Option.map_some, List.length_cons]
theorem quo_dbl_none (s : List UInt8) : quo (dbl s ++ [34, 34]) = none := by
  induction s with
  | nil => decide
  | cons c s ih =>
    by_cases hc : c = 34
    · subst hc
      rw [show dbl (34 :: s) = 34 :: 34 :: dbl s by simp [dbl], List.cons_append, List.cons_append, quo.eq_def]
      simp only [if_true, ih, Option.map_none]
    · rw [show dbl (c :: s) = c :: dbl s by simp [dbl, hc], List.cons_append, quo.eq_def]
      simp only [hc, if_false, ih, Option.map_none]
theorem step_quote (l : List UInt8) : step 34 l = stepQ l := by
  unfold step
  rfl
theorem quotes_one (s : List UInt8) (n : Nat) (h : n + (quoteL s).length + 2 ≤ 4096) :
    toks (List.replicate n 32 ++ quoteL s ++ [32, 120]) = .ok [⟨4, s, n⟩, ⟨1, [120], n + (quoteL s).length + 1⟩, ⟨0, [], n + (quoteL s).length + 2⟩] := by
  rw [toks_tk (by simp; omega), List.append_assoc, tk_spaces]
  have e : quoteL s ++ [32, 120] = 34 :: (dbl s ++ 34 :: [32, 120]) := by simp [quoteL]
  have hs : step 34 (dbl s ++ 34 :: [32, 120]) = .tok 4 s ((dbl s).length + 1 + 1) := by
    rw [step_quote]
    unfold stepQ
    rw [quo_dbl s _ (by simp)]
  have hl : (quoteL s).length = (dbl s).length + 2 := by simp [quoteL]
  rw [e, tk_tok hs, hl]
  have hd : (34 :: (dbl s ++ 34 :: [32, 120])).drop ((dbl s).length + 1 + 1) = [32, 120] := by
    simp [List.drop_append]
  rw [hd]
  rw [tk_skip (n := 1) (by rfl), show ([32, 120] : List UInt8).drop 1 = [120] from rfl, tk_tok (k := 1) (t := [120]) (n := 1) (by rfl), show ([120] : List UInt8).drop 1 = [] from rfl, tk_nil]
  simp
theorem quotes_two (s : List UInt8) (n : Nat) (h : n + (quoteL s).length + 2 ≤ 4096) : toks (List.replicate n 32 ++ quoteL s ++ [34]) = .error (n, 52) := by
  rw [toks_tk (by simp; omega), List.append_assoc, tk_spaces]
  have e : quoteL s ++ [34] = 34 :: (dbl s ++ [34, 34]) := by simp [quoteL]
  rw [e, tk_bad (e := 52)]
  · simp
  · rw [step_quote]
    unfold stepQ
    rw [quo_dbl_none]
end Go.Proofs.YtenbcmlacmepgaaDoor
