/- lex.Name: whether a text is a name; of texts of at most 2^40 bytes. -/
import Derived.Test.YtenbcmlacmepgaaDoorX
namespace Go.Proofs.YtenbcmlacmepgaaDoor
open Go.RowKit

open PLexTokens in
theorem run_all {c : UInt8} {r : List UInt8} (h : letR c.toNat = true) : (runN lodR (c :: r) = (c :: r).length) ↔ (r.all fun c => lodR c.toNat) = true := by
  have hc : lodR c.toNat = true := by simp [lodR, h]
  have e : runN lodR (c :: r) = runN lodR r + 1 := by simp [runN, hc]
  rw [e, List.length_cons, Nat.add_right_cancel_iff]
  unfold runN
  constructor
  · intro h
    have hp := List.takeWhile_prefix (l := r) fun b => lodR b.toNat
    have := hp.eq_of_length h
    rw [← this]
    exact List.all_takeWhile
  · intro h
    congr 1
    induction r with
    | nil => rfl
    | cons d r ih =>
      simp only [List.all_cons, Bool.and_eq_true] at h
      rw [List.takeWhile_cons_of_pos (p := fun b : UInt8 => lodR b.toNat) h.1, ih (by simp [runN, hc] ) h.2]
set_option maxHeartbeats 4000000 in
set_option maxRecDepth 100000 in
open PLexTokens in
theorem name_any (s : List UInt8) (hs : s.length ≤ 1099511627776) (w : World) : Calls Tryd.prog 16 #[.string (bs s)] w fun e w' => e = .returned (.bool (nameB s)) ∧ Below w.heap.size w w' := by
  have hsz := bs_size s
  cases s with
  | nil =>
    have he : (bs []).toList = [] := bs_tl []
    go_enter Tryd.func16, Tryd.ntmps16
    go_wp2_with fail
    go_ret
    exact ⟨rfl, Below.refl _ _⟩
  | cons c r =>
    have hg : ∀ h : 0 < (bs (c :: r)).size, (bs (c :: r))[0]'h = c := fun h => bs_at rfl h
    have hne : (bs (c :: r)).toList.isEmpty = false := by rw [bs_tl]; rfl
    have hc255 : (c.toNat : Int) < 256 := by have := c.toNat_lt; omega
    by_cases hl : r.length < 20
    · cases hlet : letR c.toNat with
      | false =>
        have hB : nameB (c :: r) = false := by
          show (decide (r.length < 20) && letR c.toNat && (r.all fun c => lodR c.toNat) && !wordsL.contains (c :: r)) = false
          rw [hlet]; simp
        have HL := Lib.hid hlet
        rw [hB]
        clear hB hlet
        go_enter Tryd.func16, Tryd.ntmps16
        go_wp2_with fail
        refine (letter_any _ w).mono ?_
        rintro e w1 ⟨rfl, rfl⟩
        rw [HL.out]
        go_wp2_with fail
        go_ret
        exact ⟨rfl, Below.refl _ _⟩
      | true =>
        have hrun := run_all (r := r) hlet
        have hB : nameB (c :: r) = ((r.all fun c => lodR c.toNat) && !wordsL.contains (c :: r)) := by
          show (decide (r.length < 20) && letR c.toNat && (r.all fun c => lodR c.toNat) && !wordsL.contains (c :: r)) = _
          rw [hlet, decide_eq_true hl]; simp
        have HL := Lib.hid hlet
        rw [hB]
        clear hB hlet
        cases hall : (r.all fun c => lodR c.toNat) with
        | false =>
          have hne3 : runN lodR (c :: r) ≠ (c :: r).length := fun h => by rw [hrun.1 h] at hall; cases hall
          have hq : ((runN lodR (c :: r) : Int) == (r.length : Int) + 1) = false := by
            simp only [beq_eq_false_iff_ne, ne_eq]
            intro h
            apply hne3
            rw [List.length_cons]
            omega
          have HQ := Lib.hid hq
          clear hrun hall hne3 hq
          go_enter Tryd.func16, Tryd.ntmps16
          go_wp2_with fail
          refine (letter_any _ w).mono ?_
          rintro e w1 ⟨rfl, rfl⟩
          rw [HL.out]
          go_wp2_with fail
          refine (run_lodn (bs (c :: r)) _).mono ?_
          rintro e w2 ⟨rfl, hb2⟩
          rw [bs_list]
          have HB2 := Lib.hid hb2
          have hq := HQ.out
          clear hb2
          go_wp2_with fail
          go_ret
          exact ⟨rfl, HB2.out⟩
        | true =>
          have heq : (runN lodR (c :: r) : Int) = (r.length : Int) + 1 := by
            have := hrun.2 hall
            rw [List.length_cons] at this
            omega
          have HQ := Lib.hid heq
          clear hrun hall heq
          rw [Bool.true_and]
          go_enter Tryd.func16, Tryd.ntmps16
          go_wp2_with fail
          refine (letter_any _ w).mono ?_
          rintro e w1 ⟨rfl, rfl⟩
          rw [HL.out]
          go_wp2_with fail
          refine (run_lodn (bs (c :: r)) _).mono ?_
          rintro e w2 ⟨rfl, hb2⟩
          rw [bs_list, HQ.out]
          have HB2 := Lib.hid hb2
          clear hb2
          go_wp2_with fail
          refine (words_any w2).mono ?_
          rintro e w3 ⟨rfl, rfl⟩
          have hrow : RowAt (w2.alloc (rowC wordsL)) w2.heap.size wordsL := heap_alloc_new w2 _
          have HB3 := Lib.hid (HB2.out.alloc (HB2.out.size) (rowC wordsL))
          have HR3 := Lib.hid hrow
          clear hrow
          go_wp2_with fail
          refine (Tryd.slices_Contains_string _ 0 29 29 (wordsL.map bs) (bs (c :: r)) _ (by decide) (by omega) (words_cells HR3.out)).mono ?_
          rintro e w4 ⟨rfl, rfl⟩
          rw [words_has]
          go_wp2_with fail
          go_ret
          exact ⟨ret_bool (by simp), HB3.out⟩
    · have hB : nameB (c :: r) = false := by
        show (decide (r.length < 20) && letR c.toNat && (r.all fun c => lodR c.toNat) && !wordsL.contains (c :: r)) = false
        rw [decide_eq_false hl]; simp
      rw [hB]
      clear hB
      go_enter Tryd.func16, Tryd.ntmps16
      go_wp2_with fail
      go_ret
      exact ⟨rfl, Below.refl _ _⟩
end Go.Proofs.YtenbcmlacmepgaaDoor
