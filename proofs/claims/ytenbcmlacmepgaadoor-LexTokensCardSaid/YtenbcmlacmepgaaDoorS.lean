/- windlassref5.sign: the sign that stands at a place; of texts of at most 2^40 bytes. -/
import Derived.Test.YtenbcmlacmepgaaDoorR
namespace Go.Proofs.YtenbcmlacmepgaaDoor
open Go.RowKit
def oneL : List UInt8 := [123, 125, 40, 41, 91, 93, 44, 59, 58, 46, 61, 60, 62, 43, 45, 42, 47, 37, 38]
/-- The sign that a row of bytes begins with; nothing: none. -/
def sgn : List UInt8 → List UInt8
  | [] => []
  | [c] => if oneL.contains c then [c] else []
  | c :: d :: _ => if twoL.contains [c, d] then [c, d] else if oneL.contains c then [c] else []
def oneS (c : UInt8) : List UInt8 := if oneL.contains c then [c] else []
theorem not_one {c : UInt8} (h : oneL.contains c = false) : ∀ x ∈ oneL, ((c.toNat : Int) == (x.toNat : Int)) = false := by
  intro x hx
  simp only [beq_eq_false_iff_ne, ne_eq]
  intro e
  have : c = x := UInt8.toNat_inj.1 (by omega)
  subst this
  rw [List.contains_iff_mem.2 hx] at h
  cases h
theorem str_ne {x y : List UInt8} (h : x ≠ y) : ((bs x).toList == (bs y).toList) = false := by rw [bs_tl, bs_tl]; simpa using h
def twoRow : Obj := .cells (twoL.map fun x => Value.string (bs x)).toArray 69 (0, 0)
theorem twoRow_cell {w : World} {b : Nat} (h : w.heap[b]? = some twoRow) (i : Nat) (hi : i < 8) : w.cell? ⟨b, i, none⟩ = some (.string (bs (twoL.getD i []))) := by
  refine (cell_of_row _ b i _ 69 (0, 0) h).trans ?_
  have : i < twoL.length := hi
  simp [List.getD, List.getElem?_eq_getElem this]
theorem two_idx : ∀ (c d : UInt8), twoL.contains [c, d] = true → ∃ j, j < 8 ∧ twoL.getD j [] = [c, d] ∧ ∀ i, i < j → twoL.getD i [] ≠ [c, d] := by
  intro c d h
  have hm : [c, d] ∈ twoL := List.contains_iff_mem.1 h
  simp only [twoL, List.mem_cons, List.not_mem_nil, or_false] at hm
  rcases hm with e | e | e | e | e | e | e | e
  all_goals rw [e]
  · exact ⟨0, by omega, rfl, by decide⟩
  · exact ⟨1, by omega, rfl, by decide⟩
  · exact ⟨2, by omega, rfl, by decide⟩
  · exact ⟨3, by omega, rfl, by decide⟩
  · exact ⟨4, by omega, rfl, by decide⟩
  · exact ⟨5, by omega, rfl, by decide⟩
  · exact ⟨6, by omega, rfl, by decide⟩
  · exact ⟨7, by omega, rfl, by decide⟩
theorem two_none (c d : UInt8) (h : twoL.contains [c, d] = false) : ∀ i, i < 8 → twoL.getD i [] ≠ [c, d] := by
  intro i hi e
  have hi' : i < twoL.length := hi
  rw [getD_in _ _ _ hi'] at e
  rw [List.contains_iff_mem.2 (e ▸ List.getElem_mem hi')] at h
  cases h
set_option maxHeartbeats 4000000 in
set_option maxRecDepth 100000 in
theorem sign_any (l : List UInt8) (a : Nat) (c : UInt8) (r : List UInt8) (hl : l.length ≤ 1099511627776) (hd : l.drop a = c :: r) (w : World) :
    Calls Tryd.prog 36 #[.string (bs l), .int .i64 a] w fun e w' => e = .returned (.string (bs (sgn (c :: r)))) ∧ Below w.heap.size w w' := by
  have ha : a < l.length := by
    by_cases h : a < l.length
    · exact h
    · rw [List.drop_eq_nil_of_le (by omega)] at hd; cases hd
  have hsz := bs_size l
  have hlen : l.length = a + (r.length + 1) := by
    have := congrArg List.length hd
    simp at this; omega
  have hat : ∀ h : a < (bs l).size, (bs l)[a]'h = c := fun h => bs_at (by
    have : (l.drop a)[0]? = some c := by rw [hd]; rfl
    simpa using this) h
  have hc1 : (bs l).extract a (a + 1) = bs [c] := by rw [bs_extract, hd]; simp
  have HD := Lib.hid hd
  clear hd
  cases r with
  | nil =>
    have hN : ¬ ((a : Int) + 1 < (l.length : Int)) := by simp at hlen; omega
    have HL := Lib.hid hlen
    clear hlen
    cases hone : oneL.contains c with
    | true =>
      have hm : c ∈ oneL := List.contains_iff_mem.1 hone
      have hs : sgn [c] = [c] := by
        show (if oneL.contains c then [c] else []) = _
        rw [hone]; rfl
      rw [hs]
      clear hone hs HD
      simp only [oneL, List.mem_cons, List.not_mem_nil, or_false] at hm
      rcases hm with rfl | rfl | rfl | rfl | rfl | rfl | rfl | rfl | rfl | rfl | rfl | rfl | rfl | rfl | rfl | rfl | rfl | rfl | rfl
      all_goals
        go_enter Tryd.func36, Tryd.ntmps36
        go_wp2_with fail
        go_ret
        exact ⟨rfl, Below.refl _ _⟩
    | false =>
      have HN1 := Lib.hid (not_one hone)
      have hs : sgn [c] = [] := by
        show (if oneL.contains c then [c] else []) = _
        rw [hone]; rfl
      rw [hs]
      clear hone hs HD
      have n123 : ((c.toNat : Int) == 123) = false := HN1.out 123 (by decide)
      have n125 : ((c.toNat : Int) == 125) = false := HN1.out 125 (by decide)
      have n40 : ((c.toNat : Int) == 40) = false := HN1.out 40 (by decide)
      have n41 : ((c.toNat : Int) == 41) = false := HN1.out 41 (by decide)
      have n91 : ((c.toNat : Int) == 91) = false := HN1.out 91 (by decide)
      have n93 : ((c.toNat : Int) == 93) = false := HN1.out 93 (by decide)
      have n44 : ((c.toNat : Int) == 44) = false := HN1.out 44 (by decide)
      have n59 : ((c.toNat : Int) == 59) = false := HN1.out 59 (by decide)
      have n58 : ((c.toNat : Int) == 58) = false := HN1.out 58 (by decide)
      have n46 : ((c.toNat : Int) == 46) = false := HN1.out 46 (by decide)
      have n61 : ((c.toNat : Int) == 61) = false := HN1.out 61 (by decide)
      have n60 : ((c.toNat : Int) == 60) = false := HN1.out 60 (by decide)
      have n62 : ((c.toNat : Int) == 62) = false := HN1.out 62 (by decide)
      have n43 : ((c.toNat : Int) == 43) = false := HN1.out 43 (by decide)
      have n45 : ((c.toNat : Int) == 45) = false := HN1.out 45 (by decide)
      have n42 : ((c.toNat : Int) == 42) = false := HN1.out 42 (by decide)
      have n47 : ((c.toNat : Int) == 47) = false := HN1.out 47 (by decide)
      have n37 : ((c.toNat : Int) == 37) = false := HN1.out 37 (by decide)
      have n38 : ((c.toNat : Int) == 38) = false := HN1.out 38 (by decide)
      go_enter Tryd.func36, Tryd.ntmps36
      go_wp2_with fail
      go_ret
      exact ⟨rfl, Below.refl _ _⟩
  | cons d r =>
    have hN : ((a : Int) + 1 < (l.length : Int)) := by simp at hlen; omega
    have hN2 : ((a : Int) + 2 ≤ (l.length : Int)) := by simp at hlen; omega
    have hc2 : (bs l).extract a (a + 2) = bs [c, d] := by rw [bs_extract, HD.out]; simp
    have HL := Lib.hid hlen
    clear hlen HD
    cases htwo : twoL.contains [c, d] with
    | true =>
      obtain ⟨j, hj, hjt, hjn⟩ := two_idx c d htwo
      have hs : sgn (c :: d :: r) = [c, d] := by
        show (if twoL.contains [c, d] then [c, d] else if oneL.contains c then [c] else []) = _
        rw [htwo]; rfl
      rw [hs]
      have HJ := Lib.hid hjt
      have HJn := Lib.hid hjn
      clear htwo hs hjt hjn
      go_enter Tryd.func36, Tryd.ntmps36
      go_wp2_with fail
      change Code.wp _ _ _ _ (w.alloc twoRow)
      obtain ⟨w1, hw1⟩ : ∃ w1, w.alloc twoRow = w1 := ⟨_, rfl⟩
      have hb : w1.heap[w.heap.size]? = some twoRow := by rw [← hw1]; exact heap_alloc_new w _
      have hB : Below w.heap.size w w1 := by rw [← hw1]; exact (Below.refl _ w).alloc (Nat.le_refl _) _
      rw [hw1]
      have HW := Lib.hid hb
      have HB := Lib.hid hB
      clear hw1 hb hB
      go_loopw [7] (fun i wr => ∃ k : Nat, k ≤ j ∧ i = .int .i64 k ∧ Hid (wr = w1)) (fun i _ => 8 - (intOf i).toNat)
      case atStart => exact ⟨0, Nat.zero_le _, rfl, Lib.hid rfl⟩
      case round =>
        obtain ⟨k, hk, rfl, hw⟩ := hrel
        obtain rfl := hw.out
        have hc := twoRow_cell HW.out k (by omega)
        by_cases hkj : k = j
        · obtain rfl := hkj
          rw [HJ.out] at hc
          go_wp2_with fail
          go_ret
          exact ⟨rfl, HB.out⟩
        · have hne := HJn.out k (by omega)
          obtain ⟨x, hx⟩ : ∃ x, twoL.getD k [] = x := ⟨_, rfl⟩
          rw [hx] at hc hne
          have hq := str_ne hne
          clear hx hne
          go_wp2_with fail
          go_roundw
          case rel => exact ⟨k + 1, by omega, by go_num, by first | exact Lib.hid rfl | exact Lib.hid trivial⟩
          case measure => simp [intOf]; omega
    | false =>
      have hnone := Lib.hid (two_none c d htwo)
      have hs : sgn (c :: d :: r) = if oneL.contains c then [c] else [] := by
        show (if twoL.contains [c, d] then [c, d] else if oneL.contains c then [c] else []) = _
        rw [htwo]; rfl
      rw [hs]
      clear htwo hs
      cases hone : oneL.contains c with
      | true =>
        rw [if_pos rfl]
        have hm : c ∈ oneL := List.contains_iff_mem.1 hone
        clear hone
        simp only [oneL, List.mem_cons, List.not_mem_nil, or_false] at hm
        rcases hm with rfl | rfl | rfl | rfl | rfl | rfl | rfl | rfl | rfl | rfl | rfl | rfl | rfl | rfl | rfl | rfl | rfl | rfl | rfl
        all_goals
          go_enter Tryd.func36, Tryd.ntmps36
          go_wp2_with fail
          change Code.wp _ _ _ _ (w.alloc twoRow)
          obtain ⟨w1, hw1⟩ : ∃ w1, w.alloc twoRow = w1 := ⟨_, rfl⟩
          have hb : w1.heap[w.heap.size]? = some twoRow := by rw [← hw1]; exact heap_alloc_new w _
          have hB : Below w.heap.size w w1 := by rw [← hw1]; exact (Below.refl _ w).alloc (Nat.le_refl _) _
          rw [hw1]
          have HW := Lib.hid hb
          have HB := Lib.hid hB
          clear hw1 hb hB
          go_loopw [7] (fun i wr => ∃ k : Nat, k ≤ 8 ∧ i = .int .i64 k ∧ Hid (wr = w1)) (fun i _ => 8 - (intOf i).toNat)
          case atStart => exact ⟨0, Nat.zero_le _, rfl, Lib.hid rfl⟩
          case round =>
            obtain ⟨k, hk, rfl, hw⟩ := hrel
            obtain rfl := hw.out
            by_cases hk8 : k < 8
            · have hc := twoRow_cell HW.out k hk8
              have hne := hnone.out k hk8
              obtain ⟨x, hx⟩ : ∃ x, twoL.getD k [] = x := ⟨_, rfl⟩
              rw [hx] at hc hne
              have hq := str_ne hne
              clear hx hne
              go_wp2_with fail
              go_roundw
              case rel => exact ⟨k + 1, by omega, by go_num, by first | exact Lib.hid rfl | exact Lib.hid trivial⟩
              case measure => simp [intOf]; omega
            · obtain rfl : k = 8 := by omega
              clear hnone
              go_wp2_with fail
              go_ret
              exact ⟨rfl, HB.out⟩
      | false =>
        rw [if_neg (by simp)]
        have HN1 := Lib.hid (not_one hone)
        clear hone
        have n123 : ((c.toNat : Int) == 123) = false := HN1.out 123 (by decide)
        have n125 : ((c.toNat : Int) == 125) = false := HN1.out 125 (by decide)
        have n40 : ((c.toNat : Int) == 40) = false := HN1.out 40 (by decide)
        have n41 : ((c.toNat : Int) == 41) = false := HN1.out 41 (by decide)
        have n91 : ((c.toNat : Int) == 91) = false := HN1.out 91 (by decide)
        have n93 : ((c.toNat : Int) == 93) = false := HN1.out 93 (by decide)
        have n44 : ((c.toNat : Int) == 44) = false := HN1.out 44 (by decide)
        have n59 : ((c.toNat : Int) == 59) = false := HN1.out 59 (by decide)
        have n58 : ((c.toNat : Int) == 58) = false := HN1.out 58 (by decide)
        have n46 : ((c.toNat : Int) == 46) = false := HN1.out 46 (by decide)
        have n61 : ((c.toNat : Int) == 61) = false := HN1.out 61 (by decide)
        have n60 : ((c.toNat : Int) == 60) = false := HN1.out 60 (by decide)
        have n62 : ((c.toNat : Int) == 62) = false := HN1.out 62 (by decide)
        have n43 : ((c.toNat : Int) == 43) = false := HN1.out 43 (by decide)
        have n45 : ((c.toNat : Int) == 45) = false := HN1.out 45 (by decide)
        have n42 : ((c.toNat : Int) == 42) = false := HN1.out 42 (by decide)
        have n47 : ((c.toNat : Int) == 47) = false := HN1.out 47 (by decide)
        have n37 : ((c.toNat : Int) == 37) = false := HN1.out 37 (by decide)
        have n38 : ((c.toNat : Int) == 38) = false := HN1.out 38 (by decide)
        go_enter Tryd.func36, Tryd.ntmps36
        go_wp2_with fail
        change Code.wp _ _ _ _ (w.alloc twoRow)
        obtain ⟨w1, hw1⟩ : ∃ w1, w.alloc twoRow = w1 := ⟨_, rfl⟩
        have hb : w1.heap[w.heap.size]? = some twoRow := by rw [← hw1]; exact heap_alloc_new w _
        have hB : Below w.heap.size w w1 := by rw [← hw1]; exact (Below.refl _ w).alloc (Nat.le_refl _) _
        rw [hw1]
        have HW := Lib.hid hb
        have HB := Lib.hid hB
        clear hw1 hb hB
        go_loopw [7] (fun i wr => ∃ k : Nat, k ≤ 8 ∧ i = .int .i64 k ∧ Hid (wr = w1)) (fun i _ => 8 - (intOf i).toNat)
        case atStart => exact ⟨0, Nat.zero_le _, rfl, Lib.hid rfl⟩
        case round =>
          obtain ⟨k, hk, rfl, hw⟩ := hrel
          obtain rfl := hw.out
          by_cases hk8 : k < 8
          · have hc := twoRow_cell HW.out k hk8
            have hne := hnone.out k hk8
            obtain ⟨x, hx⟩ : ∃ x, twoL.getD k [] = x := ⟨_, rfl⟩
            rw [hx] at hc hne
            have hq := str_ne hne
            clear hx hne
            go_wp2_with fail
            go_roundw
            case rel => exact ⟨k + 1, by omega, by go_num, by first | exact Lib.hid rfl | exact Lib.hid trivial⟩
            case measure => simp [intOf]; omega
          · obtain rfl : k = 8 := by omega
            clear hnone
            go_wp2_with fail
            go_ret
            exact ⟨rfl, HB.out⟩
end Go.Proofs.YtenbcmlacmepgaaDoor
