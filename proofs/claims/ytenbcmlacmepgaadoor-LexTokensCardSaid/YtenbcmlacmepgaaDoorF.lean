/- Plain law: the tokens of a row of bytes, step by step. -/
import Derived.Test.YtenbcmlacmepgaaDoorE
namespace Go.Proofs.YtenbcmlacmepgaaDoor
open Go.RowKit

inductive Did
  | skip (n : Nat)
  | tok (kind : Nat) (text : List UInt8) (n : Nat)
  | bad (e : Nat)
/-- How many bytes stand ahead of the next line. -/
def lineN (l : List UInt8) : Nat := (l.takeWhile fun b => b != 10).length
def signOf (r : List UInt8) : Option (List UInt8) := signsL.find? fun x => x.isPrefixOf r
def wordK (t : List UInt8) : Nat := if wordsL.contains t then 2 else 1
def numT (r : List UInt8) (n : Nat) : List UInt8 := (r.take (n - 1)).dropWhile (· == 48) ++ (r.take n).drop (n - 1)
def stepQ (l : List UInt8) : Did := match quo l with
  | some (t, n) => .tok 4 t (n + 1)
  | none => .bad 52
def stepS (r : List UInt8) : Did := match signOf r with
  | some x => .tok 5 x x.length
  | none => .bad 51
/-- What is done at a byte, and those behind it. -/
def step (c : UInt8) (l : List UInt8) : Did :=
  if spaU c then .skip 1
  else if c == 35 then .skip (lineN (c :: l))
  else if letR c.toNat then .tok (wordK ((c :: l).take (runN lodR (c :: l)))) ((c :: l).take (runN lodR (c :: l))) (runN lodR (c :: l))
  else if digR c.toNat then .tok 3 (numT (c :: l) (runN digR (c :: l))) (runN digR (c :: l))
  else if c == 34 then stepQ l
  else stepS (c :: l)
def toksF : Nat → List UInt8 → Nat → List Tk → Except (Nat × Nat) (List Tk)
  | 0, _, _, _ => .error (0, 0)
  | f + 1, r, a, out => match r with
    | [] => .ok (out ++ [⟨0, [], a⟩])
    | c :: l => match step c l with
      | .skip n => toksF f ((c :: l).drop n) (a + n) out
      | .tok k t n => toksF f ((c :: l).drop n) (a + n) (out ++ [⟨k, t, a⟩])
      | .bad e => .error (a, e)
/-- The tokens of a row of bytes. -/
def toks (s : List UInt8) : Except (Nat × Nat) (List Tk) := if 4096 < s.length then .error (0, 50) else toksF (s.length + 1) s 0 []

theorem quo_le {l : List UInt8} {t : List UInt8} {n : Nat} (h : quo l = some (t, n)) : 1 ≤ n ∧ n ≤ l.length ∧ t.length ≤ n := by
  suffices H : ∀ (k : Nat) (l t : List UInt8) (n : Nat), l.length ≤ k → quo l = some (t, n) → 1 ≤ n ∧ n ≤ l.length ∧ t.length ≤ n from H l.length l t n (Nat.le_refl _) h
  intro k
  induction k with
  | zero =>
    intro l t n hk h
    obtain rfl : l = [] := List.eq_nil_of_length_eq_zero (by omega)
    simp [quo] at h
  | succ k ih =>
    intro l t n hk h
    match l, hk, h with
    | [], _, h => simp [quo] at h
    | c :: l, hk, h =>
      rw [quo.eq_def] at h
      by_cases hc : c = 34
      · simp only [hc, if_true] at h
        match l, hk, h with
        | [], _, h =>
          simp only [Option.some.injEq, Prod.mk.injEq] at h
          obtain ⟨rfl, rfl⟩ := h
          simp
        | d :: r, hk, h =>
          by_cases hd : d = 34
          · simp only [hd, if_true, Option.map_eq_some_iff] at h
            obtain ⟨⟨t', n'⟩, hq, he⟩ := h
            injection he with e1 e2
            have := ih r t' n' (by simp at hk; omega) hq
            subst e1 e2
            simp
            omega
          · simp only [hd, if_false, Option.some.injEq, Prod.mk.injEq] at h
            obtain ⟨rfl, rfl⟩ := h
            simp
      · simp only [hc, if_false, Option.map_eq_some_iff] at h
        obtain ⟨⟨t', n'⟩, hq, he⟩ := h
        injection he with e1 e2
        have := ih l t' n' (by simp at hk; omega) hq
        subst e1 e2
        simp
        omega
theorem runN_pos {p : Int → Bool} {c : UInt8} {l : List UInt8} (h : p c.toNat = true) : 1 ≤ runN p (c :: l) := by simp [runN, h]
theorem lineN_le (l : List UInt8) : lineN l ≤ l.length := (List.takeWhile_prefix _).length_le
theorem signOf_some {r x : List UInt8} (h : signOf r = some x) : x ∈ signsL ∧ x <+: r := by
  have h1 := List.mem_of_find?_eq_some h
  have h2 := List.find?_some h
  exact ⟨h1, by simpa using h2⟩
theorem signs_len : ∀ x ∈ signsL, 1 ≤ x.length ∧ x.length ≤ 2 := by decide
end Go.Proofs.YtenbcmlacmepgaaDoor
