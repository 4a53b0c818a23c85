/- Plain law: blanks, tabs, lines and notes between tokens count for nothing. -/
import Derived.Test.YtenbcmlacmepgaaDoorJ
namespace Go.Proofs.YtenbcmlacmepgaaDoor

theorem getD_in {α : Type} (l : List α) (i : Nat) (d : α) (h : i < l.length) : l.getD i d = l[i] := by simp [List.getD, List.getElem?_eq_getElem h]
theorem getD_out {α : Type} (l : List α) (i : Nat) (d : α) (h : l.length ≤ i) : l.getD i d = d := by simp [List.getD, List.getElem?_eq_none h]
def lexW : List (List UInt8) := [[119, 104, 105, 108, 101], [97, 98, 99], [65, 98, 99], [120, 95, 49], [52, 50], [60, 61], [40], [34, 65, 32, 98, 34], [42, 37], [45], [45, 62], [119, 104, 105, 108, 101, 49]]
def lexT : List (List UInt8) := [[119, 104, 105, 108, 101], [97, 98, 99], [65, 98, 99], [120, 95, 49], [52, 50], [60, 61], [40], [65, 32, 98], [42, 37], [45], [45, 62], [119, 104, 105, 108, 101, 49]]
def lexG : List (List UInt8) := [[32], [9, 32], [10], [32, 35, 110, 111, 116, 101, 10], [13, 10, 35, 10, 32], [32, 32, 32]]
def lexK : List Nat := [2, 1, 1, 1, 3, 5, 5, 4, 5, 5, 5, 1]
def spaL : List UInt8 := [32, 9, 10, 13]
theorem sp_skip (c : UInt8) (hc : c ∈ spaL) (l : List UInt8) (a : Nat) (out : List Tk) : tk (c :: l) a out = tk l (a + 1) out := by
  have : step c l = .skip 1 := by
    simp only [spaL, List.mem_cons, List.not_mem_nil, or_false] at hc
    rcases hc with rfl | rfl | rfl | rfl <;> rfl
  rw [tk_skip this]
  rfl
theorem note_skip (x l : List UInt8) (hx : ∀ c ∈ x, c ≠ 10) (a : Nat) (out : List Tk) : tk (35 :: (x ++ 10 :: l)) a out = tk l (a + x.length + 2) out := by
  have hn : ∀ x : List UInt8, (∀ c ∈ x, c ≠ 10) → lineN (x ++ 10 :: l) = x.length := by
    intro x hx
    induction x with
    | nil => rfl
    | cons c x ih =>
      have hc : c ≠ 10 := hx c (by simp)
      have := ih (fun d hd => hx d (by simp [hd]))
      unfold lineN at this ⊢
      simp [hc, this]
  have hs : step 35 (x ++ 10 :: l) = .skip (x.length + 1) := by
    have h1 : step 35 (x ++ 10 :: l) = .skip (lineN (35 :: (x ++ 10 :: l))) := rfl
    rw [h1]
    have := hn (35 :: x) (fun c hc => by
      rcases List.mem_cons.1 hc with rfl | hc
      · decide
      · exact hx c hc)
    rw [← List.cons_append, this]
    rfl
  rw [tk_skip hs]
  have hd : (35 :: (x ++ 10 :: l)).drop (x.length + 1) = 10 :: l := by simp
  rw [hd, sp_skip 10 (by decide)]
  rfl
theorem gap_skip (g : List UInt8) (hg : g ∈ lexG) (l : List UInt8) (a : Nat) (out : List Tk) : tk (g ++ l) a out = tk l (a + g.length) out := by
  simp only [lexG, List.mem_cons, List.not_mem_nil, or_false] at hg
  rcases hg with rfl | rfl | rfl | rfl | rfl | rfl
  · exact sp_skip 32 (by decide) l a out
  · show tk (9 :: 32 :: l) a out = _
    rw [sp_skip 9 (by decide), sp_skip 32 (by decide)]; rfl
  · exact sp_skip 10 (by decide) l a out
  · show tk (32 :: 35 :: ([110, 111, 116, 101] ++ 10 :: l)) a out = _
    rw [sp_skip 32 (by decide), note_skip _ _ (by decide)]; rfl
  · show tk (13 :: 10 :: 35 :: ([] ++ 10 :: 32 :: l)) a out = _
    rw [sp_skip 13 (by decide), sp_skip 10 (by decide), note_skip _ _ (by decide), sp_skip 32 (by decide)]; rfl
  · show tk (32 :: 32 :: 32 :: l) a out = _
    rw [sp_skip 32 (by decide), sp_skip 32 (by decide), sp_skip 32 (by decide)]; rfl
theorem gap_head (g : List UInt8) (hg : g ∈ lexG) : ∃ d r, g = d :: r ∧ d ∈ spaL := by
  simp only [lexG, List.mem_cons, List.not_mem_nil, or_false] at hg
  rcases hg with rfl | rfl | rfl | rfl | rfl | rfl
  all_goals exact ⟨_, _, rfl, by decide⟩
theorem word_tk (i : Nat) (hi : i < 12) (d : UInt8) (hd : d ∈ spaL) (l : List UInt8) (a : Nat) (out : List Tk) :
    tk (lexW.getD i [] ++ d :: l) a out = tk (d :: l) (a + (lexW.getD i []).length) (out ++ [⟨lexK.getD i 0, lexT.getD i [], a⟩]) := by
  have key : ∀ (c : UInt8) (w : List UInt8) (k : Nat) (t : List UInt8), step c (w ++ d :: l) = .tok k t (w.length + 1) → tk ((c :: w) ++ d :: l) a out = tk (d :: l) (a + (c :: w).length) (out ++ [⟨k, t, a⟩]) := by
    intro c w k t h
    rw [List.cons_append, tk_tok h]
    have : (c :: (w ++ d :: l)).drop (w.length + 1) = d :: l := by simp
    rw [this]
    rfl
  have h7 : step 34 ([65, 32, 98, 34] ++ d :: l) = .tok 4 [65, 32, 98] 5 := by
    rw [step_quote]
    unfold stepQ
    have : quo ([65, 32, 98, 34] ++ d :: l) = some ([65, 32, 98], 4) := quo_dbl [65, 32, 98] (d :: l) (by
      simp only [spaL, List.mem_cons, List.not_mem_nil, or_false] at hd
      rcases hd with rfl | rfl | rfl | rfl <;> simp)
    rw [this]
  have hi' : i = 0 ∨ i = 1 ∨ i = 2 ∨ i = 3 ∨ i = 4 ∨ i = 5 ∨ i = 6 ∨ i = 7 ∨ i = 8 ∨ i = 9 ∨ i = 10 ∨ i = 11 := by omega
  rcases hi' with rfl | rfl | rfl | rfl | rfl | rfl | rfl | rfl | rfl | rfl | rfl | rfl
  case inr.inr.inr.inr.inr.inr.inr.inl => exact key 34 [65, 32, 98, 34] 4 [65, 32, 98] h7
  all_goals
    refine key _ _ _ _ ?_
    simp only [spaL, List.mem_cons, List.not_mem_nil, or_false] at hd
    rcases hd with rfl | rfl | rfl | rfl <;> rfl
/-- The text that is made; its tokens. -/
def mixS (l : List (Nat × Nat)) : List UInt8 := l.flatMap fun p => lexW.getD p.1 [] ++ lexG.getD p.2 []
def mixT : Nat → List (Nat × Nat) → List Tk
  | _, [] => []
  | a, p :: l => ⟨lexK.getD p.1 0, lexT.getD p.1 [], a⟩ :: mixT (a + (lexW.getD p.1 []).length + (lexG.getD p.2 []).length) l
theorem mix_tk : ∀ (l : List (Nat × Nat)) (a : Nat) (out : List Tk), (∀ p ∈ l, p.1 < 12 ∧ p.2 < 6) → tk (mixS l) a out = .ok (out ++ mixT a l ++ [⟨0, [], a + (mixS l).length⟩]) := by
  intro l
  induction l with
  | nil => intro a out _; simp [mixS, mixT, tk_nil]
  | cons p l ih =>
    intro a out h
    obtain ⟨h1, h2⟩ := h p (by simp)
    have hg : lexG.getD p.2 [] ∈ lexG := by
      rw [getD_in _ _ _ h2]
      exact List.getElem_mem _
    obtain ⟨d, r, hgd, hd⟩ := gap_head _ hg
    have e : mixS (p :: l) = lexW.getD p.1 [] ++ (lexG.getD p.2 [] ++ mixS l) := by simp [mixS]
    have w := word_tk p.1 h1 d hd (r ++ mixS l) a out
    rw [← List.cons_append, ← hgd] at w
    rw [e, w, gap_skip _ hg, ih _ _ (fun q hq => h q (by simp [hq]))]
    simp only [mixT, List.append_assoc, List.cons_append, List.nil_append, List.length_append]
    rw [show a + (lexW.getD p.1 []).length + (lexG.getD p.2 []).length + (mixS l).length = a + ((lexW.getD p.1 []).length + ((lexG.getD p.2 []).length + (mixS l).length)) by omega]
theorem mix_len : ∀ (l : List (Nat × Nat)), (mixS l).length ≤ 13 * l.length := by
  intro l
  induction l with
  | nil => simp [mixS]
  | cons p l ih =>
    have e : mixS (p :: l) = (lexW.getD p.1 [] ++ lexG.getD p.2 []) ++ mixS l := by simp [mixS]
    have h1 : ∀ i, (lexW.getD i []).length ≤ 6 := by
      intro i
      by_cases hi : i < 12
      · have : ∀ j : Fin 12, (lexW.getD j.1 []).length ≤ 6 := by decide
        exact this ⟨i, hi⟩
      · rw [getD_out _ _ _ (by simp [lexW]; omega)]; simp
    have h2 : ∀ i, (lexG.getD i []).length ≤ 7 := by
      intro i
      by_cases hi : i < 6
      · have : ∀ j : Fin 6, (lexG.getD j.1 []).length ≤ 7 := by decide
        exact this ⟨i, hi⟩
      · rw [getD_out _ _ _ (by simp [lexG]; omega)]; simp
    have := h1 p.1
    have := h2 p.2
    rw [e]
    simp only [List.length_append, List.length_cons]
    omega
theorem mixT_at : ∀ (l : List (Nat × Nat)) (a i : Nat) (p : Nat × Nat), l[i]? = some p → ∃ b, (mixT a l)[i]? = some ⟨lexK.getD p.1 0, lexT.getD p.1 [], b⟩ := by
  intro l
  induction l with
  | nil => intro a i p h; simp at h
  | cons q l ih =>
    intro a i p h
    cases i with
    | zero =>
      obtain rfl : q = p := by simpa using h
      exact ⟨a, rfl⟩
    | succ i => exact ih _ i p (by simpa using h)
theorem mixT_len : ∀ (l : List (Nat × Nat)) (a : Nat), (mixT a l).length = l.length := by
  intro l
  induction l with
  | nil => intro a; rfl
  | cons q l ih => intro a; simp [mixT, ih]
theorem blanks_law (l : List (Nat × Nat)) (hl : l.length ≤ 60) (h : ∀ p ∈ l, p.1 < 12 ∧ p.2 < 6) : toks (mixS l) = .ok (mixT 0 l ++ [⟨0, [], (mixS l).length⟩]) := by
  have := mix_len l
  rw [toks_tk (by omega), mix_tk l 0 [] h]
  simp
end Go.Proofs.YtenbcmlacmepgaaDoor
