/- Plain law: what the service's map holds, told by the list of the calls that were done; calls' numbers are ints. -/
import Derived.Test.YtgcnmiaahkmmeaaDoorB
namespace Go.Proofs.YtgcnmiaahkmmeaaDoor
open Go.RowKit Go.Maps

theorem snoc_ind {α : Type} {Q : List α → Prop} (h0 : Q []) (h1 : ∀ l a, Q l → Q (l ++ [a])) (l : List α) : Q l := by
  have h : ∀ l : List α, Q l.reverse := by
    intro l
    induction l with
    | nil => exact h0
    | cons a l ih => rw [List.reverse_cons]; exact h1 _ _ ih
  have := h l.reverse
  rwa [List.reverse_reverse] at this

/-! ### a service's map, as what was done tells it -/
def putC (m : DataW Unit) (p : Cl × Nat) : DataW Unit := m.put (kl p.1.ev p.1.n) (.lit (.string (ans p.1 p.2).data.toList))
def mapOf (ds : List Cl) : DataW Unit := ds.zipIdx.foldl putC (.map [])
theorem mapOf_nil : mapOf [] = .map [] := rfl
theorem mapOf_snoc (ds : List Cl) (c : Cl) : mapOf (ds ++ [c]) = (mapOf ds).put (kl c.ev c.n) (.lit (.string (ans c ds.length).data.toList)) := by
  simp [mapOf, List.zipIdx_append, List.foldl_append, putC]

def sameId (c : Cl) (e n : Int) : Prop := c.ev = e ∧ c.n = n
instance (c : Cl) (e n : Int) : Decidable (sameId c e n) := inferInstanceAs (Decidable (_ ∧ _))
def lookC (e n : Int) (r : Option ByteArray) (p : Cl × Nat) : Option ByteArray := if sameId p.1 e n then some (ans p.1 p.2) else r
/-- The answer that a call of this id got. -/
def lookA (ds : List Cl) (e n : Int) : Option ByteArray := ds.zipIdx.foldl (lookC e n) none
theorem lookA_nil (e n : Int) : lookA [] e n = none := rfl
theorem lookA_snoc (ds : List Cl) (c : Cl) (e n : Int) : lookA (ds ++ [c]) e n = if sameId c e n then some (ans c ds.length) else lookA ds e n := by
  simp [lookA, List.zipIdx_append, List.foldl_append, lookC]

def Cl.ok (c : Cl) : Prop := -9223372036854775808 ≤ c.ev ∧ c.ev ≤ 9223372036854775807 ∧ -9223372036854775808 ≤ c.n ∧ c.n ≤ 9223372036854775807
theorem wf64 {x : Int} (h0 : -9223372036854775808 ≤ x) (h1 : x ≤ 9223372036854775807) : (Lit.int .i64 x).wf = true := WalkArith.wf_i64 ⟨h0, h1⟩

theorem kl_inj {e n e' n' : Int} (he : (Lit.int .i64 e).wf = true) (hn : (Lit.int .i64 n).wf = true) (he' : (Lit.int .i64 e').wf = true) (hn' : (Lit.int .i64 n').wf = true) (h : kl e n = kl e' n') : e = e' ∧ n = n' := by
  have h1 := key46 he hn
  have h2 := key46 he' hn'
  rw [← h] at h2
  have h3 := law46.inj h1 h2
  simpa using h3
theorem kl_key (e n : Int) : WideAt.IsKeyLit (kl e n) := by
  unfold kl
  simp [WideAt.IsKeyLit]

theorem mapOf_isMap (ds : List Cl) : Maps.IsMap (mapOf ds) := by
  induction ds using snoc_ind with
  | h0 => exact Maps.isMap_empty
  | h1 ds c ih => rw [mapOf_snoc]; exact ih.put _ _
theorem mapOf_at (ds : List Cl) (hok : ∀ c ∈ ds, c.ok) (e n : Int) (he : (Lit.int .i64 e).wf = true) (hn : (Lit.int .i64 n).wf = true) (z : DataW Unit) :
    (mapOf ds).atKey (kl e n) z = match lookA ds e n with | some a => .lit (.string a.data.toList) | none => z := by
  induction ds using snoc_ind with
  | h0 => rfl
  | h1 ds c ih =>
    have hc := hok c (by simp)
    rw [mapOf_snoc, lookA_snoc]
    by_cases h : sameId c e n
    · rw [if_pos h, ← h.1, ← h.2, Maps.atKey_put_same (mapOf_isMap ds) (kl_key _ _)]
    · rw [if_neg h, Maps.atKey_put_other (fun hh => h ?_), ih (fun d hd => hok d (by simp [hd]))]
      obtain ⟨a, b⟩ := kl_inj he hn (wf64 hc.1 hc.2.1) (wf64 hc.2.2.1 hc.2.2.2) hh
      exact ⟨a.symm, b.symm⟩
theorem mapOf_has (ds : List Cl) (hok : ∀ c ∈ ds, c.ok) (e n : Int) (he : (Lit.int .i64 e).wf = true) (hn : (Lit.int .i64 n).wf = true) :
    Maps.has (mapOf ds) (kl e n) = (lookA ds e n).isSome := by
  cases h : lookA ds e n with
  | none => exact Maps.has_false_of_atKey (fun z => by rw [mapOf_at ds hok e n he hn, h])
  | some a => exact Maps.has_true_of_atKey (y := .lit (.string a.data.toList)) (fun z => by rw [mapOf_at ds hok e n he hn, h])

/-- What Ask does. -/
def askS (ds : List Cl) (c : Cl) : ByteArray × List Cl := match lookA ds c.ev c.n with
  | some a => (a, ds)
  | none => (ans c ds.length, ds ++ [c])
end Go.Proofs.YtgcnmiaahkmmeaaDoor
