/- Plain law: tokens that are written with blanks between are told again. -/
import Derived.Test.YtenbcmlacmepgaaDoorN
import Derived.Test.YtenbcmlacmepgaaDoorL
namespace Go.Proofs.YtenbcmlacmepgaaDoor

/-- A token as it is written. -/
def rend (k : Nat) (t : List UInt8) : List UInt8 := (if k = 4 then quoteL t else t) ++ [32]
def Again (k : Nat) (t : List UInt8) : Prop := ∀ (r : List UInt8) (a : Nat) (out : List Tk), tk (rend k t ++ r) a out = tk r (a + (rend k t).length) (out ++ [⟨k, t, a⟩])
theorem again_of {k : Nat} {c : UInt8} {w t : List UInt8} (h : ∀ r, step c (w ++ 32 :: r) = .tok k t (w.length + 1)) (hr : rend k t = (c :: w) ++ [32]) : Again k t := by
  intro r a out
  rw [hr]
  have e : (c :: w) ++ [32] ++ r = c :: (w ++ 32 :: r) := by simp
  rw [e, tk_tok (h r)]
  have hd : (c :: (w ++ 32 :: r)).drop (w.length + 1) = 32 :: r := by simp
  rw [hd, sp_skip 32 (by decide)]
  simp only [List.length_append, List.length_cons, List.length_nil]
  rw [show a + (w.length + 1) + 1 = a + (w.length + 1 + (0 + 1)) by omega]
theorem runN_all {p : Int → Bool} {x : List UInt8} (h : ∀ c ∈ x, p c.toNat = true) (hb : p 32 = false) (r : List UInt8) : runN p (x ++ 32 :: r) = x.length := by
  induction x with
  | nil =>
    have : p ((32 : UInt8).toNat : Int) = false := hb
    unfold runN
    rw [List.nil_append, List.takeWhile_cons_of_neg (by rw [this]; simp)]
  | cons c x ih =>
    have hc := h c (by simp)
    have := ih (fun d hd => h d (by simp [hd]))
    unfold runN at this ⊢
    simp [hc, this]
theorem take_run (p : Int → Bool) (l : List UInt8) : l.take (runN p l) = l.takeWhile fun b => p b.toNat := by
  unfold runN
  conv => lhs; arg 2; rw [← List.takeWhile_append_dropWhile (p := fun b : UInt8 => p b.toNat) (l := l)]
  rw [List.take_left']
  rfl
theorem again_name {c : UInt8} {w : List UInt8} (h0 : spaU c = false) (h1 : (c == 35) = false) (h2 : letR c.toNat = true) (hw : ∀ d ∈ w, lodR d.toNat = true) : Again (wordK (c :: w)) (c :: w) := by
  have hn : ∀ r, runN lodR (c :: (w ++ 32 :: r)) = w.length + 1 := by
    intro r
    have := runN_all (p := lodR) (x := c :: w) (by
      intro d hd
      rcases List.mem_cons.1 hd with rfl | hd
      · simp [lodR, h2]
      · exact hw d hd) (by decide) r
    exact this
  have ht : ∀ r, (c :: (w ++ 32 :: r)).take (w.length + 1) = c :: w := by intro r; simp
  have hk : wordK (c :: w) = 1 ∨ wordK (c :: w) = 2 := by unfold wordK; split <;> simp
  refine again_of (c := c) (w := w) (fun r => ?_) ?_
  · unfold step
    rw [h0, h1, h2, hn r, ht r]
    rfl
  · unfold rend
    rw [if_neg (by omega)]
theorem again_int {c : UInt8} {w : List UInt8} (h0 : spaU c = false) (h1 : (c == 35) = false) (h2 : letR c.toNat = false) (h3 : digR c.toNat = true) (hw : ∀ d ∈ w, digR d.toNat = true) (hz : w = [] ∨ c ≠ 48) : Again 3 (c :: w) := by
  have hn : ∀ r, runN digR (c :: (w ++ 32 :: r)) = w.length + 1 := by
    intro r
    exact runN_all (p := digR) (x := c :: w) (by
      intro d hd
      rcases List.mem_cons.1 hd with rfl | hd
      · exact h3
      · exact hw d hd) (by decide) r
  refine again_of (c := c) (w := w) (fun r => ?_) ?_
  · unfold step
    rw [h0, h1, h2, h3, hn r]
    have : numT (c :: (w ++ 32 :: r)) (w.length + 1) = c :: w := by
      unfold numT
      rcases hz with rfl | hz
      · simp
      · have e1 : (c :: (w ++ 32 :: r)).take (w.length + 1 - 1) = (c :: w).take w.length := by
          rw [Nat.add_sub_cancel, ← List.cons_append, List.take_append_of_le_length (by simp)]
        have e2 : (c :: (w ++ 32 :: r)).take (w.length + 1) = c :: w := by simp
        rw [e1, e2, Nat.add_sub_cancel]
        cases w with
        | nil => simp
        | cons d w =>
          have e3 : (c :: d :: w).take (d :: w).length = c :: (d :: w).take w.length := by simp
          rw [e3]
          have e4 : (c :: (d :: w).take w.length).dropWhile (· == 48) = c :: (d :: w).take w.length := by
            rw [List.dropWhile_cons_of_neg (by simpa using hz)]
          rw [e4, ← e3, List.take_append_drop]
    rw [this]
    rfl
  · rfl
theorem again_text (t : List UInt8) : Again 4 t := by
  refine again_of (c := 34) (w := dbl t ++ [34]) (fun r => ?_) rfl
  have e : dbl t ++ [34] ++ 32 :: r = dbl t ++ 34 :: (32 :: r) := by simp
  rw [step_quote, e]
  unfold stepQ
  rw [quo_dbl t _ (by simp)]
  simp
def sgAgain (x : List UInt8) : Bool := match x with
  | [c] => c ∈ sgB && signOf [c, 32] == some [c]
  | [c, d] => c ∈ sgB && signOf [c, d] == some [c, d]
  | _ => false
theorem sg_again : (signsL.all sgAgain) = true := by decide +kernel
theorem again_sign {x : List UInt8} (h : x ∈ signsL) : Again 5 x := by
  have h1 := List.all_eq_true.1 sg_again x h
  match x, h1 with
  | [c], h1 =>
    simp only [sgAgain, Bool.and_eq_true, decide_eq_true_eq, beq_iff_eq] at h1
    refine again_of (c := c) (w := []) (fun r => ?_) rfl
    rw [step_sg h1.1]
    unfold stepS
    rw [List.nil_append, sign_two, h1.2]
    rfl
  | [c, d], h1 =>
    simp only [sgAgain, Bool.and_eq_true, decide_eq_true_eq, beq_iff_eq] at h1
    refine again_of (c := c) (w := [d]) (fun r => ?_) rfl
    rw [step_sg h1.1]
    unfold stepS
    rw [List.cons_append, List.nil_append, sign_two, h1.2]
    rfl
theorem dropW_head {x : List UInt8} {q : UInt8 → Bool} : x.dropWhile q = [] ∨ ∃ d y, x.dropWhile q = d :: y ∧ q d = false := by
  induction x with
  | nil => exact .inl rfl
  | cons c x ih =>
    by_cases hc : q c = true
    · rw [List.dropWhile_cons_of_pos hc]; exact ih
    · rw [List.dropWhile_cons_of_neg hc]; exact .inr ⟨c, x, rfl, by simpa using hc⟩
theorem digit_plain : ∀ c : UInt8, digR c.toNat = true → spaU c = false ∧ (c == 35) = false ∧ letR c.toNat = false := by
  have : (List.range 256).all (fun n => !digR (n : Nat) || (!spaU (UInt8.ofNat n) && !(UInt8.ofNat n == 35) && !letR (n : Nat))) = true := by decide +kernel
  intro c hc
  have h := List.all_eq_true.1 this c.toNat (List.mem_range.2 (by have := c.toNat_lt; omega))
  rw [hc] at h
  simpa [and_assoc] using h
theorem again_step {c : UInt8} {l : List UInt8} {k n : Nat} {t : List UInt8} (h : step c l = .tok k t n) : Again k t := by
  unfold step at h
  split at h
  · cases h
  rename_i h0
  split at h
  · cases h
  rename_i h1
  split at h
  · rename_i h2
    injection h with hk ht _
    rw [take_run] at hk ht
    have hlod : lodR c.toNat = true := by simp [lodR, h2]
    rw [List.takeWhile_cons_of_pos (p := fun b : UInt8 => lodR b.toNat) hlod] at hk ht
    subst ht hk
    exact again_name (by simpa using h0) (by simpa using h1) h2 (fun d hd => List.all_eq_true.1 List.all_takeWhile d hd)
  rename_i h2
  split at h
  · rename_i h3
    injection h with hk ht _
    subst hk
    have hD : (c :: l).take (runN digR (c :: l)) = (c :: l).takeWhile fun b => digR b.toNat := take_run _ _
    have hall : ∀ d ∈ (c :: l).takeWhile (fun b => digR b.toNat), digR d.toNat = true := fun d hd => List.all_eq_true.1 List.all_takeWhile d hd
    have hpos := runN_pos (p := digR) (l := l) h3
    have hle := runN_le digR (c :: l)
    obtain ⟨D, hDD⟩ : ∃ D, (c :: l).takeWhile (fun b => digR b.toNat) = D := ⟨_, rfl⟩
    have hDl : D.length = runN digR (c :: l) := by rw [← hDD]; rfl
    rw [hDD] at hD hall
    have e1 : (c :: l).take (runN digR (c :: l) - 1) = D.take (D.length - 1) := by rw [← hD, List.take_take, List.length_take, Nat.min_eq_left hle, Nat.min_eq_left (by omega)]
    have e2 : numT (c :: l) (runN digR (c :: l)) = (D.take (D.length - 1)).dropWhile (· == 48) ++ D.drop (D.length - 1) := by
      unfold numT
      rw [e1, hD, ← hDl]
    rw [e2] at ht
    obtain ⟨z, hz⟩ : ∃ z, D.drop (D.length - 1) = [z] := by
      have hl1 : (D.drop (D.length - 1)).length = 1 := by rw [List.length_drop]; omega
      match D.drop (D.length - 1), hl1 with
      | [z], _ => exact ⟨z, rfl⟩
    have hzd : digR z.toNat = true := hall z (List.mem_of_mem_drop (by rw [hz]; simp))
    rw [hz] at ht
    rcases dropW_head (x := D.take (D.length - 1)) (q := (· == 48)) with h5 | ⟨d, y, h5, h6⟩
    · rw [h5] at ht
      rw [← ht]
      obtain ⟨p1, p2, p3⟩ := digit_plain z hzd
      exact again_int p1 p2 p3 hzd (by simp) (.inl rfl)
    · have hsub : ∀ u ∈ d :: y, digR u.toNat = true := fun u hu => hall u (List.mem_of_mem_take ((List.dropWhile_suffix _).subset (by rw [h5]; exact hu)))
      rw [h5] at ht
      rw [← ht, List.cons_append]
      obtain ⟨p1, p2, p3⟩ := digit_plain d (hsub d (by simp))
      refine again_int p1 p2 p3 (hsub d (by simp)) ?_ (.inr (by simpa using h6))
      intro u hu
      rcases List.mem_append.1 hu with hu | hu
      · exact hsub u (by simp [hu])
      · obtain rfl : u = z := by simpa using hu
        exact hzd
  split at h
  · unfold stepQ at h
    split at h
    · injection h with hk ht _
      subst hk ht
      exact again_text _
    · cases h
  · unfold stepS at h
    split at h
    · rename_i x hx
      injection h with hk ht _
      subst hk ht
      exact again_sign (signOf_some hx).1
    · cases h
/-- All tokens written, one behind the other. -/
def rendS (l : List Tk) : List UInt8 := l.flatMap fun t => rend t.kind t.text
/-- Tokens that are told, but for the last one, are told again. -/
theorem tk_again : ∀ (n : Nat) (r : List UInt8) (a : Nat) (out l : List Tk), r.length ≤ n → tk r a out = .ok l → ∃ m b, l = out ++ m ++ [⟨0, [], b⟩] ∧ m.length ≤ r.length ∧ ∀ t ∈ m, Again t.kind t.text := by
  intro n
  induction n with
  | zero =>
    intro r a out l hn h
    obtain rfl : r = [] := List.eq_nil_of_length_eq_zero (by omega)
    rw [tk_nil] at h
    injection h with h
    exact ⟨[], a, by rw [← h]; simp, by simp, by simp⟩
  | succ n ih =>
    intro r a out l hn h
    cases r with
    | nil =>
      rw [tk_nil] at h
      injection h with h
      exact ⟨[], a, by rw [← h]; simp, by simp, by simp⟩
    | cons c r =>
      simp only [List.length_cons] at hn
      cases hs : step c r with
      | skip m =>
        have := step_skip_pos hs
        rw [tk_skip hs] at h
        obtain ⟨m', b, h1, h2, h3⟩ := ih _ _ _ _ (by rw [List.length_drop]; simp; omega) h
        rw [List.length_drop] at h2
        exact ⟨m', b, h1, by omega, h3⟩
      | tok k t m =>
        have := step_tok_pos hs
        rw [tk_tok hs] at h
        obtain ⟨m', b, h1, h2, h3⟩ := ih _ _ _ _ (by rw [List.length_drop]; simp; omega) h
        rw [List.length_drop] at h2
        simp only [List.length_cons] at h2
        refine ⟨⟨k, t, a⟩ :: m', b, by rw [h1]; simp, by simp only [List.length_cons]; omega, fun u hu => ?_⟩
        rcases List.mem_cons.1 hu with rfl | hu
        · exact again_step hs
        · exact h3 u hu
      | bad e =>
        rw [tk_bad hs] at h
        cases h
theorem again_all : ∀ (m : List Tk) (r : List UInt8) (a : Nat) (out : List Tk), (∀ t ∈ m, Again t.kind t.text) → ∃ (m' : List Tk) (b : Nat), tk (rendS m ++ r) a out = tk r b (out ++ m') ∧ m'.length = m.length ∧ ∀ (i : Nat) (t : Tk), m[i]? = some t → ∃ p, m'[i]? = some ⟨t.kind, t.text, p⟩ := by
  intro m
  induction m with
  | nil => intro r a out _; exact ⟨[], a, by simp [rendS], rfl, fun i t h => by simp at h⟩
  | cons t m ih =>
    intro r a out h
    obtain ⟨m', b, h1, h2, h3⟩ := ih r (a + (rend t.kind t.text).length) (out ++ [⟨t.kind, t.text, a⟩]) (fun u hu => h u (by simp [hu]))
    refine ⟨⟨t.kind, t.text, a⟩ :: m', b, ?_, by simp [h2], fun i u hu => ?_⟩
    · have e : rendS (t :: m) ++ r = rend t.kind t.text ++ (rendS m ++ r) := by simp [rendS]
      rw [e, h t (by simp), h1]
      simp
    · cases i with
      | zero =>
        obtain rfl : t = u := by simpa using hu
        exact ⟨a, rfl⟩
      | succ i => exact h3 i u (by simpa using hu)
theorem back_law (s : List UInt8) (l : List Tk) (hs : s.length ≤ 1500) (h : toks s = .ok l) (hl : (rendS l).length ≤ 4096) : ∃ m : List Tk, toks (rendS l) = .ok m ∧ m.length = l.length ∧ ∀ (i : Nat) (t : Tk), l[i]? = some t → ∃ p, m[i]? = some ⟨t.kind, t.text, p⟩ := by
  rw [toks_tk (by omega)] at h
  obtain ⟨m, b, rfl, _, hm⟩ := tk_again s.length s 0 [] l (Nat.le_refl _) h
  rw [List.nil_append] at hl ⊢
  obtain ⟨m', b', h1, h2, h3⟩ := again_all m [32] 0 [] hm
  have e : rendS (m ++ [⟨0, [], b⟩]) = rendS m ++ [32] := by simp [rendS, rend]
  rw [toks_tk hl, e, h1]
  refine ⟨m' ++ [⟨0, [], b' + 1⟩], ?_, by simp [h2], fun i t ht => ?_⟩
  · rw [sp_skip 32 (by decide), tk_nil]
    simp
  · by_cases hi : i < m.length
    · rw [List.getElem?_append_left hi] at ht
      obtain ⟨p, hp⟩ := h3 i t ht
      exact ⟨p, by rw [List.getElem?_append_left (by omega)]; exact hp⟩
    · have hi2 : i = m.length := by
        have := (List.getElem?_eq_some_iff.1 ht).1
        simp at this; omega
      subst hi2
      have : t = ⟨0, [], b⟩ := by simpa using ht.symm
      subst this
      exact ⟨b' + 1, by rw [← h2]; simp⟩
theorem step_tok_len {c : UInt8} {l : List UInt8} {k n : Nat} {t : List UInt8} (h : step c l = .tok k t n) : t.length ≤ (c :: l).length ∧ k ≤ 5 := by
  unfold step at h
  split at h
  · cases h
  split at h
  · cases h
  split at h
  · injection h with hk ht _
    rw [← ht, ← hk]
    refine ⟨by rw [List.length_take]; omega, ?_⟩
    unfold wordK; split <;> omega
  split at h
  · injection h with hk ht _
    rw [← ht, ← hk]
    refine ⟨?_, by omega⟩
    unfold numT
    have h1 := (List.dropWhile_suffix (l := (c :: l).take (runN digR (c :: l) - 1)) (· == 48)).length_le
    rw [List.length_append, List.length_drop, List.length_take]
    rw [List.length_take] at h1
    omega
  split at h
  · unfold stepQ at h
    split at h
    · rename_i t' n' hq
      injection h with hk ht _
      rw [← ht, ← hk]
      have := quo_le hq
      exact ⟨by simp only [List.length_cons]; omega, by omega⟩
    · cases h
  · unfold stepS at h
    split at h
    · rename_i x hx
      injection h with hk ht _
      rw [← ht, ← hk]
      exact ⟨(signOf_some hx).2.length_le, by omega⟩
    · cases h
/-- How long the tokens' texts are; how many tokens there are. -/
theorem tk_small : ∀ (n : Nat) (r : List UInt8) (a : Nat) (out l : List Tk), r.length ≤ n → tk r a out = .ok l → l.length ≤ out.length + r.length + 1 ∧ ∀ t ∈ l, t ∈ out ∨ (t.text.length ≤ n ∧ t.kind ≤ 5) := by
  intro n
  induction n with
  | zero =>
    intro r a out l hn h
    obtain rfl : r = [] := List.eq_nil_of_length_eq_zero (by omega)
    rw [tk_nil] at h
    injection h with h
    subst h
    exact ⟨by simp, fun t ht => by
      rcases List.mem_append.1 ht with ht | ht
      · exact .inl ht
      · obtain rfl : t = ⟨0, [], a⟩ := by simpa using ht
        exact .inr ⟨by simp, by simp⟩⟩
  | succ n ih =>
    intro r a out l hn h
    cases r with
    | nil =>
      rw [tk_nil] at h
      injection h with h
      subst h
      exact ⟨by simp, fun t ht => by
        rcases List.mem_append.1 ht with ht | ht
        · exact .inl ht
        · obtain rfl : t = ⟨0, [], a⟩ := by simpa using ht
          exact .inr ⟨by simp, by simp⟩⟩
    | cons c r =>
      simp only [List.length_cons] at hn
      cases hs : step c r with
      | skip m =>
        have := step_skip_pos hs
        rw [tk_skip hs] at h
        obtain ⟨h1, h2⟩ := ih _ _ _ _ (by rw [List.length_drop]; simp; omega) h
        rw [List.length_drop] at h1
        simp only [List.length_cons] at h1 ⊢
        exact ⟨by omega, fun t ht => (h2 t ht).imp id (fun ⟨x, y⟩ => ⟨by omega, y⟩)⟩
      | tok k t m =>
        have := step_tok_pos hs
        have htl := step_tok_len hs
        rw [tk_tok hs] at h
        obtain ⟨h1, h2⟩ := ih _ _ _ _ (by rw [List.length_drop]; simp; omega) h
        rw [List.length_drop] at h1
        simp only [List.length_cons, List.length_append, List.length_nil] at h1 htl ⊢
        refine ⟨by omega, fun u hu => ?_⟩
        rcases h2 u hu with hu | ⟨x, y⟩
        · rcases List.mem_append.1 hu with hu | hu
          · exact .inl hu
          · obtain rfl : u = ⟨k, t, a⟩ := by simpa using hu
            exact .inr ⟨by simp; omega, by simp; omega⟩
        · exact .inr ⟨by omega, y⟩
      | bad e =>
        rw [tk_bad hs] at h
        cases h
theorem toks_small {s : List UInt8} {l : List Tk} (hs : s.length ≤ 1500) (h : toks s = .ok l) : l ≠ [] ∧ l.length ≤ 1501 ∧ ∀ t ∈ l, t.text.length ≤ 1500 ∧ t.kind ≤ 5 := by
  rw [toks_tk (by omega)] at h
  obtain ⟨h1, h2⟩ := tk_small s.length s 0 [] l (Nat.le_refl _) h
  obtain ⟨m, b, e, _⟩ := tk_again s.length s 0 [] l (Nat.le_refl _) h
  refine ⟨by rw [e]; simp, by simp at h1; omega, fun t ht => ?_⟩
  rcases h2 t ht with h | h
  · simp at h
  · exact ⟨by omega, h.2⟩
end Go.Proofs.YtenbcmlacmepgaaDoor
