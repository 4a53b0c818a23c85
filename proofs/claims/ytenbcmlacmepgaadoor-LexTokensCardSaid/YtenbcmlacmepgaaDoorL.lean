/- Plain law: a row of signs is told whole, each as long as may be. -/
import Derived.Test.YtenbcmlacmepgaaDoorJ
namespace Go.Proofs.YtenbcmlacmepgaaDoor

/-- The bytes that signs are of; signs of two bytes. -/
def sgB : List UInt8 := [123, 125, 40, 41, 91, 93, 44, 59, 58, 46, 61, 60, 62, 43, 45, 42, 47, 37, 38, 33]
def twoL : List (List UInt8) := [[61, 61], [33, 61], [60, 61], [62, 61], [43, 37], [45, 37], [42, 37], [45, 62]]
theorem sign_two (c d : UInt8) (r : List UInt8) : signOf (c :: d :: r) = signOf [c, d] := by
  simp only [signOf, signsL, List.find?_cons, List.isPrefixOf_cons_cons, List.isPrefixOf_nil_left, List.find?_nil]
def sgOk (c d : UInt8) : Bool := match signOf [c, d] with
  | none => c == 33 && d != 61
  | some x => x.isPrefixOf [c, d] && decide (1 ≤ x.length) && decide (x.length ≤ 2) && (x.length == 2 || !twoL.contains [c, d])
theorem sg_all : (sgB.all fun c => sgB.all fun d => sgOk c d) = true := by decide +kernel
def sgOne (c : UInt8) : Bool := match signOf [c] with
  | none => c == 33
  | some x => x == [c]
theorem sg_one : (sgB.all fun c => sgOne c) = true := by decide +kernel
theorem sg_plain : (sgB.all fun c => !spaU c && !(c == 35) && !letR c.toNat && !digR c.toNat && !(c == 34)) = true := by decide +kernel
theorem step_sg {c : UInt8} {l : List UInt8} (h : c ∈ sgB) : step c l = stepS (c :: l) := by
  have := List.all_eq_true.1 sg_plain c h
  simp only [Bool.and_eq_true, Bool.not_eq_true', beq_eq_false_iff_ne] at this
  obtain ⟨⟨⟨⟨h1, h2⟩, h3⟩, h4⟩, h5⟩ := this
  unfold step
  simp [h1, h2, h3, h4, h5]
/-- Signs one behind the other from a place on. -/
def Row : Nat → List UInt8 → List Tk → Prop
  | _, r, [] => r = []
  | a, r, t :: l => t.kind = 5 ∧ t.at_ = a ∧ t.text ≠ [] ∧ ∃ r', r = t.text ++ r' ∧ (t.text.length = 1 → ∀ d, r'[0]? = some d → t.text ++ [d] ∉ twoL) ∧ Row (a + t.text.length) r' l
theorem longest_tk : ∀ (n : Nat) (r : List UInt8) (a : Nat) (out : List Tk), r.length ≤ n → (∀ c ∈ r, c ∈ sgB) →
    (∃ b, tk r a out = .error (a + b, 51) ∧ r[b]? = some 33 ∧ r[b + 1]? ≠ some 61) ∨ (∃ l, tk r a out = .ok (out ++ l ++ [⟨0, [], a + r.length⟩]) ∧ Row a r l) := by
  intro n
  induction n with
  | zero =>
    intro r a out hn _
    obtain rfl : r = [] := List.eq_nil_of_length_eq_zero (by omega)
    exact .inr ⟨[], by rw [tk_nil]; simp, rfl⟩
  | succ n ih =>
    intro r a out hn hs
    cases r with
    | nil => exact .inr ⟨[], by rw [tk_nil]; simp, rfl⟩
    | cons c l =>
      have hc := hs c (by simp)
      have hst := step_sg (l := l) hc
      have key : ∀ x, signOf (c :: l) = some x → (∃ r', c :: l = x ++ r' ∧ (x.length = 1 → ∀ d, r'[0]? = some d → x ++ [d] ∉ twoL) ∧ x ≠ []) → (∃ b, tk (c :: l) a out = .error (a + b, 51) ∧ (c :: l)[b]? = some 33 ∧ (c :: l)[b + 1]? ≠ some 61) ∨ (∃ m, tk (c :: l) a out = .ok (out ++ m ++ [⟨0, [], a + (c :: l).length⟩]) ∧ Row a (c :: l) m) := by
        intro x hx ⟨r', hr, htwo, hne⟩
        have hst2 : step c l = .tok 5 x x.length := by rw [hst]; unfold stepS; rw [hx]
        rw [tk_tok hst2]
        have hd : (c :: l).drop x.length = r' := by rw [hr]; simp
        rw [hd]
        have hl : (c :: l).length = x.length + r'.length := by rw [hr]; simp
        have hx1 : 1 ≤ x.length := by cases x with
          | nil => exact absurd rfl hne
          | cons _ _ => simp
        rcases ih r' (a + x.length) (out ++ [⟨5, x, a⟩]) (by omega) (fun d hd' => hs d (by rw [hr]; simp [hd'])) with ⟨b, h1, h2, h3⟩ | ⟨m, h1, h2⟩
        · refine .inl ⟨x.length + b, by rw [h1, Nat.add_assoc], ?_, ?_⟩
          · rw [hr, List.getElem?_append_right (by omega), show x.length + b - x.length = b by omega]; exact h2
          · rw [hr, List.getElem?_append_right (by omega), show x.length + b + 1 - x.length = b + 1 by omega]; exact h3
        · refine .inr ⟨⟨5, x, a⟩ :: m, ?_, rfl, rfl, hne, r', hr, htwo, h2⟩
          rw [h1, hl, Nat.add_assoc]
          simp
      cases l with
      | nil =>
        have h1 := List.all_eq_true.1 sg_one c hc
        unfold sgOne at h1
        cases hso : signOf [c] with
        | none =>
          rw [hso] at h1
          have hc33 : c = 33 := by simpa using h1
          refine .inl ⟨0, ?_, by simp [hc33], by simp⟩
          rw [tk_bad (e := 51)]
          · rfl
          · rw [hst]; unfold stepS; rw [hso]
        | some x =>
          rw [hso] at h1
          have hxc : x = [c] := by simpa using h1
          exact key x hso ⟨[], by simp [hxc], fun _ d hd => by simp at hd, by simp [hxc]⟩
      | cons d l =>
        have h1 := List.all_eq_true.1 (List.all_eq_true.1 sg_all c hc) d (hs d (by simp))
        unfold sgOk at h1
        have h2 := sign_two c d l
        cases hso : signOf [c, d] with
        | none =>
          rw [hso] at h1 h2
          simp only [Bool.and_eq_true, beq_iff_eq, bne_iff_ne] at h1
          refine .inl ⟨0, ?_, by simp [h1.1], by simp [h1.2]⟩
          rw [tk_bad (e := 51)]
          · rfl
          · rw [hst]; unfold stepS; rw [h2]
        | some x =>
          rw [hso] at h1 h2
          simp only [Bool.and_eq_true, Bool.or_eq_true, decide_eq_true_eq, beq_iff_eq, Bool.not_eq_true', List.isPrefixOf_iff_prefix] at h1
          obtain ⟨⟨⟨h3, h4⟩, h5⟩, h6⟩ := h1
          obtain ⟨r1, hr1⟩ := h3
          refine key x h2 ⟨r1 ++ l, ?_, ?_, ?_⟩
          · have : c :: d :: l = [c, d] ++ l := rfl
            rw [this, ← hr1, List.append_assoc]
          · intro hx1 e he
            have hr1l : r1.length = 1 := by have := congrArg List.length hr1; simp at this; omega
            obtain ⟨q, rfl⟩ : ∃ q, r1 = [q] := by match r1, hr1l with
              | [q], _ => exact ⟨q, rfl⟩
            have hqe : q = e := by simpa using he
            rw [← hqe, hr1]
            rcases h6 with h6 | h6
            · omega
            · intro hm; rw [List.contains_iff_mem.2 hm] at h6; cases h6
          · rintro rfl; simp at h4
/-- What a token of such a row is. -/
theorem row_at : ∀ (l : List Tk) (a : Nat) (r : List UInt8), Row a r l → r = l.flatMap Tk.text ∧ ∀ k t, l[k]? = some t → t.kind = 5 ∧ t.at_ = a + ((l.take k).flatMap Tk.text).length ∧ t.text ≠ [] ∧ (t.text.length = 1 → ∀ t', l[k + 1]? = some t' → ∃ d, t'.text[0]? = some d ∧ t.text ++ [d] ∉ twoL) := by
  intro l
  induction l with
  | nil => intro a r h; exact ⟨h, fun k t h => by simp at h⟩
  | cons t l ih =>
    intro a r ⟨h1, h2, h3, r', h4, h5, h6⟩
    obtain ⟨i1, i2⟩ := ih _ _ h6
    refine ⟨by rw [h4, i1]; simp, fun k u hu => ?_⟩
    cases k with
    | zero =>
      obtain rfl : t = u := by simpa using hu
      refine ⟨h1, by simp [h2], h3, fun hl t' ht' => ?_⟩
      have ht'' : l[0]? = some t' := by simpa using ht'
      obtain ⟨_, _, hne, _⟩ := i2 0 t' ht''
      obtain ⟨d, ts, hd⟩ : ∃ d ts, t'.text = d :: ts := by
        cases ht : t'.text with
        | nil => exact absurd ht hne
        | cons d ts => exact ⟨d, ts, rfl⟩
      refine ⟨d, by rw [hd]; rfl, h5 hl d ?_⟩
      obtain ⟨l', rfl⟩ : ∃ l', l = t' :: l' := by
        cases l with
        | nil => simp at ht''
        | cons y l' => exact ⟨l', by simpa using ht''⟩
      rw [i1]
      simp [hd]
    | succ k =>
      obtain ⟨j1, j2, j3, j4⟩ := i2 k u (by simpa using hu)
      refine ⟨j1, ?_, j3, fun hl t' ht' => j4 hl t' (by simpa using ht')⟩
      rw [j2]
      simp
      omega
theorem longest_law (s : List UInt8) (h : s.length ≤ 80) (hs : ∀ c ∈ s, c ∈ sgB) :
    (∃ b, toks s = .error (b, 51) ∧ s[b]? = some 33 ∧ s[b + 1]? ≠ some 61) ∨ (∃ l, toks s = .ok (l ++ [⟨0, [], s.length⟩]) ∧ Row 0 s l) := by
  rw [toks_tk (by omega)]
  rcases longest_tk s.length s 0 [] (Nat.le_refl _) hs with ⟨b, h1, h2⟩ | ⟨l, h1, h2⟩
  · exact .inl ⟨b, by rw [h1, Nat.zero_add], h2⟩
  · exact .inr ⟨l, by rw [h1, Nat.zero_add]; simp, h2⟩
end Go.Proofs.YtenbcmlacmepgaaDoor
