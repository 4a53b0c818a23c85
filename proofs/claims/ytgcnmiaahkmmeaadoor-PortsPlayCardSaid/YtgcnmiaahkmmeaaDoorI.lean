/- Plain law: of a row of calls that is asked one by one, each id is done once, and each call gets its id's one answer. -/
import Derived.Test.YtgcnmiaahkmmeaaDoorH
namespace Go.Proofs.YtgcnmiaahkmmeaaDoor

theorem lookA_none (ds : List Cl) (e n : Int) : lookA ds e n = none ↔ ∀ d ∈ ds, ¬ sameId d e n := by
  induction ds using snoc_ind with
  | h0 => simp [lookA_nil]
  | h1 ds c ih =>
    rw [lookA_snoc]
    by_cases h : sameId c e n
    · rw [if_pos h]
      constructor
      · intro h'; cases h'
      · intro h'; exact absurd h (h' c (by simp))
    · rw [if_neg h, ih]
      constructor
      · intro h' d hd
        rcases List.mem_append.1 hd with hd | hd
        · exact h' d hd
        · simp only [List.mem_singleton] at hd
          rw [hd]; exact h
      · intro h' d hd
        exact h' d (by simp [hd])
theorem lookA_size (ds : List Cl) (e n : Int) (a : ByteArray) (h : lookA ds e n = some a) : a.size ≤ 64 := by
  induction ds using snoc_ind with
  | h0 => simp [lookA_nil] at h
  | h1 ds c ih =>
    rw [lookA_snoc] at h
    by_cases hs : sameId c e n
    · rw [if_pos hs] at h
      injection h with h
      rw [← h]; exact ans_size _ _
    · rw [if_neg hs] at h
      exact ih h
theorem look_more (ds : List Cl) (c : Cl) (e n : Int) (a : ByteArray) (h : lookA ds e n = some a) : lookA (askS ds c).2 e n = some a := by
  unfold askS
  cases hl : lookA ds c.ev c.n with
  | some _ => exact h
  | none =>
    show lookA (ds ++ [c]) e n = some a
    rw [lookA_snoc]
    by_cases hs : sameId c e n
    · rw [← hs.1, ← hs.2, hl] at h; cases h
    · rw [if_neg hs]; exact h
theorem look_self (ds : List Cl) (c : Cl) : lookA (askS ds c).2 c.ev c.n = some (askS ds c).1 := by
  unfold askS
  cases hl : lookA ds c.ev c.n with
  | some _ => exact hl
  | none =>
    show lookA (ds ++ [c]) c.ev c.n = some (ans c ds.length)
    rw [lookA_snoc, if_pos ⟨rfl, rfl⟩]
theorem ask_again (ds : List Cl) (c : Cl) (a : ByteArray) (h : lookA ds c.ev c.n = some a) : askS ds c = (a, ds) := by simp [askS, h]
def Uniq (ds : List Cl) : Prop := ds.Pairwise fun c d => ¬ sameId c d.ev d.n
theorem ask_uniq (ds : List Cl) (c : Cl) (h : Uniq ds) : Uniq (askS ds c).2 := by
  unfold askS
  cases hl : lookA ds c.ev c.n with
  | some _ => exact h
  | none =>
    show Uniq (ds ++ [c])
    refine List.pairwise_append.2 ⟨h, List.pairwise_singleton _ _, fun d hd e he => ?_⟩
    simp only [List.mem_singleton] at he
    subst he
    exact (lookA_none ds _ _).1 hl d hd
theorem ask_mem (ds : List Cl) (c : Cl) : ∀ d ∈ (askS ds c).2, d ∈ ds ∨ d = c := by
  unfold askS
  cases hl : lookA ds c.ev c.n with
  | some _ => exact fun d hd => .inl hd
  | none =>
    intro d hd
    simpa using hd
theorem ask_len (ds : List Cl) (c : Cl) : (askS ds c).2.length ≤ ds.length + 1 := by
  unfold askS
  cases hl : lookA ds c.ev c.n <;> simp

/-- What was done, and the answers, behind a row of calls. -/
def stepC (s : List Cl × List ByteArray) (c : Cl) : List Cl × List ByteArray := ((askS s.1 c).2, s.2 ++ [(askS s.1 c).1])
def st (l : List Cl) : List Cl × List ByteArray := l.foldl stepC ([], [])
theorem st_snoc (l : List Cl) (c : Cl) : st (l ++ [c]) = ((askS (st l).1 c).2, (st l).2 ++ [(askS (st l).1 c).1]) := by simp [st, List.foldl_append, stepC]
theorem st_len (l : List Cl) : (st l).2.length = l.length := by
  induction l using snoc_ind with
  | h0 => rfl
  | h1 l c ih => rw [st_snoc]; simp [ih]
theorem st_done (l : List Cl) : (st l).1.length ≤ l.length := by
  induction l using snoc_ind with
  | h0 => exact Nat.le_refl _
  | h1 l c ih => rw [st_snoc]; have := ask_len (st l).1 c; simp; omega
theorem st_mem (l : List Cl) : ∀ d ∈ (st l).1, d ∈ l := by
  induction l using snoc_ind with
  | h0 => intro d hd; exact hd
  | h1 l c ih =>
    rw [st_snoc]
    intro d hd
    rcases ask_mem _ _ d hd with h | h
    · exact List.mem_append_left _ (ih d h)
    · simp [h]
theorem st_uniq (l : List Cl) : Uniq (st l).1 := by
  induction l using snoc_ind with
  | h0 => exact List.Pairwise.nil
  | h1 l c ih => rw [st_snoc]; exact ask_uniq _ _ ih
theorem st_look (l : List Cl) : ∀ (i : Nat) (c : Cl), l[i]? = some c → ∃ a, (st l).2[i]? = some a ∧ lookA (st l).1 c.ev c.n = some a := by
  induction l using snoc_ind with
  | h0 => intro i c h; simp at h
  | h1 l x ih =>
    intro i c h
    rw [st_snoc]
    by_cases hi : i < l.length
    · rw [List.getElem?_append_left hi] at h
      obtain ⟨a, h1, h2⟩ := ih i c h
      refine ⟨a, ?_, look_more _ _ _ _ _ h2⟩
      show ((st l).2 ++ [_])[i]? = some a
      rw [List.getElem?_append_left (by rw [st_len]; exact hi)]
      exact h1
    · have hi' : i = l.length := by
        have := (List.getElem?_eq_some_iff.1 h).1
        simp at this; omega
      subst hi'
      have hx : x = c := by simpa using h
      subst hx
      refine ⟨_, ?_, look_self _ _⟩
      show ((st l).2 ++ [_])[l.length]? = _
      rw [← st_len l]
      simp

def sameB (c : Cl) (d : Cl) : Bool := decide (d.ev = c.ev) && decide (d.n = c.n)
theorem count_one (ds : List Cl) (hu : Uniq ds) (c : Cl) (a : ByteArray) (h : lookA ds c.ev c.n = some a) : (ds.filter (sameB c)).length = 1 := by
  have hsome : ∃ d ∈ ds, sameId d c.ev c.n := by
    rcases Classical.em (∃ d ∈ ds, sameId d c.ev c.n) with h' | h'
    · exact h'
    · rw [(lookA_none ds c.ev c.n).2 (fun d hd hs => h' ⟨d, hd, hs⟩)] at h; cases h
  clear h
  induction ds with
  | nil => obtain ⟨d, hd, _⟩ := hsome; simp at hd
  | cons x ds ih =>
    have hu' := List.pairwise_cons.1 hu
    by_cases hx : sameId x c.ev c.n
    · have hb : sameB c x = true := by simp [sameB, hx.1, hx.2]
      have hno : ds.filter (sameB c) = [] := by
        rw [List.filter_eq_nil_iff]
        intro d hd hs
        simp only [sameB, Bool.and_eq_true, decide_eq_true_eq] at hs
        exact hu'.1 d hd ⟨hx.1.trans hs.1.symm, hx.2.trans hs.2.symm⟩
      rw [List.filter_cons_of_pos hb, hno]
      rfl
    · have hb : sameB c x = false := by
        rw [Bool.eq_false_iff]
        intro hs
        simp only [sameB, Bool.and_eq_true, decide_eq_true_eq] at hs
        exact hx hs
      rw [List.filter_cons_of_neg (by simp [hb])]
      refine ih hu'.2 ?_
      obtain ⟨d, hd, hs⟩ := hsome
      rcases List.mem_cons.1 hd with rfl | hd
      · exact absurd hs hx
      · exact ⟨d, hd, hs⟩
end Go.Proofs.YtgcnmiaahkmmeaaDoor
