/- lex.Quote: a text in quotes, its own quotes doubled; of texts of at most 2^20 bytes, where internal/bytealg's limit is an int in memory. -/
import Derived.Test.YtenbcmlacmepgaaDoorG
import Derived.Lib.CountLaws
import Derived.Lib.Replace
namespace Go.Proofs.YtenbcmlacmepgaaDoor
open Go.RowKit

/-- Quotes doubled; the text as a literal. -/
def dbl (l : List UInt8) : List UInt8 := l.flatMap fun b => if b = 34 then [34, 34] else [b]
def quoteL (l : List UInt8) : List UInt8 := 34 :: (dbl l ++ [34])
theorem dbl_plain {l : List UInt8} (h : ∀ k : Nat, l[k]? ≠ some 34) : dbl l = l := by
  induction l with
  | nil => rfl
  | cons c l ih =>
    have hc : c ≠ 34 := fun e => h 0 (by simp [e])
    have := ih (fun k => by have := h (k + 1); simpa using this)
    unfold dbl at this ⊢
    simp [hc, this]
theorem dbl_append (a b : List UInt8) : dbl (a ++ b) = dbl a ++ dbl b := by simp [dbl]
theorem split_at {l : List UInt8} {i : Nat} (h : l[i]? = some 34) : l = l.take i ++ 34 :: l.drop (i + 1) := by
  obtain ⟨hi, hx⟩ := List.getElem?_eq_some_iff.1 h
  rw [← hx, ← List.drop_eq_getElem_cons hi, List.take_append_drop]
theorem repl_dbl : ∀ (n : Nat) (l : List UInt8), l.length ≤ n → Lib.replaceK [34] [34, 34] (Lib.count l [34]) l = dbl l := by
  intro n
  induction n with
  | zero =>
    intro l hl
    obtain rfl : l = [] := List.eq_nil_of_length_eq_zero (by omega)
    decide
  | succ n ih =>
    intro l hl
    by_cases hm : Lib.index l [34] = -1
    · rw [Lib.count_miss hm]
      rw [Lib.index_one] at hm
      rw [dbl_plain (Lib.indexByte_none hm)]
      rfl
    · have hge := Lib.index_ge l [34]
      obtain ⟨i, hi⟩ : ∃ i : Nat, Lib.index l [34] = i := ⟨(Lib.index l [34]).toNat, by omega⟩
      rw [Lib.count_hit (by simp) hi, Nat.add_comm, Lib.replaceK_hit _ _ _ _ i hi]
      have hi' := hi
      rw [Lib.index_one] at hi'
      obtain ⟨h1, h2⟩ := Lib.indexByte_some hi'
      have hil : i < l.length := (List.getElem?_eq_some_iff.1 h1).1
      simp only [List.length_singleton]
      rw [ih (l.drop (i + 1)) (by rw [List.length_drop]; omega)]
      conv => rhs; rw [split_at h1]
      have e : dbl (34 :: l.drop (i + 1)) = [34, 34] ++ dbl (l.drop (i + 1)) := by simp [dbl]
      have e2 : dbl (l.take i) = l.take i := dbl_plain fun k hk => by
        rw [List.getElem?_take] at hk
        by_cases hki : k < i
        · rw [if_pos hki] at hk; exact h2 k hki hk
        · rw [if_neg hki] at hk; cases hk
      rw [dbl_append, e, e2, List.append_assoc]
theorem replace_dbl (l : List UInt8) : Lib.replaceAll l [34] [34, 34] = dbl l := by
  unfold Lib.replaceAll Lib.replace Lib.replaceNum
  rw [if_neg (by decide), if_pos (Or.inl (by decide))]
  exact repl_dbl _ l (Nat.le_refl _)
theorem dbl_len (l : List UInt8) : (dbl l).length ≤ 2 * l.length := by
  induction l with
  | nil => simp [dbl]
  | cons c l ih =>
    have e : dbl (c :: l) = dbl [c] ++ dbl l := dbl_append [c] l
    rw [e, List.length_append, List.length_cons]
    have : (dbl [c]).length ≤ 2 := by simp only [dbl, List.flatMap_cons, List.flatMap_nil, List.append_nil]; split <;> simp
    omega
theorem count_len : ∀ (n : Nat) (l : List UInt8), l.length ≤ n → Lib.count l [34] ≤ l.length := by
  intro n
  induction n with
  | zero =>
    intro l hl
    obtain rfl : l = [] := List.eq_nil_of_length_eq_zero (by omega)
    decide
  | succ n ih =>
    intro l hl
    by_cases hm : Lib.index l [34] = -1
    · rw [Lib.count_miss hm]; omega
    · have hge := Lib.index_ge l [34]
      obtain ⟨i, hi⟩ : ∃ i : Nat, Lib.index l [34] = i := ⟨(Lib.index l [34]).toNat, by omega⟩
      rw [Lib.count_hit (by simp) hi]
      have hi' := hi
      rw [Lib.index_one] at hi'
      have hil : i < l.length := (List.getElem?_eq_some_iff.1 (Lib.indexByte_some hi').1).1
      have := ih (l.drop (i + [34].length)) (by rw [List.length_drop]; simp; omega)
      rw [List.length_drop] at this
      simp only [List.length_singleton] at this ⊢
      omega
/-- internal/bytealg's limit, in memory. -/
def MaxL (w : World) : Prop := ∃ m : Int, w.cell? ⟨0, 0, none⟩ = some (.int .i64 m)
theorem MaxL.below {w w' : World} (h : MaxL w) (hb : Below w.heap.size w w') : MaxL w' := by
  obtain ⟨m, hm⟩ := h
  exact ⟨m, (hb.cell (World.block_lt_of_cell? w _ hm)).trans hm⟩
theorem quote_any (l : List UInt8) (hl : l.length ≤ 1048576) (w : World) (hm : MaxL w) : Calls Tryd.prog 10 #[.string (bs l)] w fun e w' => e = .returned (.string (bs (quoteL l))) ∧ Below w.heap.size w w' := by
  obtain ⟨m, hm⟩ := hm
  have hd := dbl_len l
  have hsz := bs_size l
  have hc : Lib.countB (bs l) (bs [34]) ≤ l.length := by
    show Lib.count (bs l).data.toList (bs [34]).data.toList ≤ _
    rw [bs_list, bs_list]
    exact count_len _ l (Nat.le_refl _)
  have h2 : (bs [34, 34]).size = 2 := rfl
  have hR := Lib.hid (Tryd.strings_ReplaceAll (bs l) (bs [34]) (bs [34, 34]) m w (by omega) hm (by decide) (by rw [h2]; omega))
  have a1 := add_run (bs [34]) (bs (dbl l)) (by rw [bs_size, bs_size]; simp; omega)
  have a2 := add_run (bs (34 :: dbl l)) (bs [34]) (by rw [bs_size, bs_size]; simp; omega)
  rw [bs_add] at a1 a2
  have A1 := Lib.hid a1
  have A2 := Lib.hid a2
  clear hm hc h2 a1 a2 hsz
  go_enter Tryd.func10, Tryd.ntmps10
  go_wp2_with fail
  refine hR.out.mono ?_
  rintro e w1 ⟨rfl, hb⟩
  have HB := Lib.hid hb
  clear hb
  rw [bs_list, bs_list, bs_list, replace_dbl]
  have a1 : ∀ w : World, (Op.stringOp .add ⟨#[34]⟩ (bs (dbl l))).run Tryd.prog w = .ok (.string (bs (34 :: dbl l))) w := A1.out
  have a2 : ∀ w : World, (Op.stringOp .add (bs (34 :: dbl l)) ⟨#[34]⟩).run Tryd.prog w = .ok (.string (bs (34 :: (dbl l ++ [34])))) w := A2.out
  rw [show (⟨(dbl l).toArray⟩ : ByteArray) = bs (dbl l) from rfl]
  go_wp2_with fail
  go_ret
  exact ⟨rfl, HB.out⟩
end Go.Proofs.YtenbcmlacmepgaaDoor
