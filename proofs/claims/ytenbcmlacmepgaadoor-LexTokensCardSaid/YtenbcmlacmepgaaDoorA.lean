/- lex.letter, lex.digit and lex.run: what they tell, at every rune and every string; no condition. -/
import Derived.Test.YtenbcmlacmepgaaDoorShelf
import Derived.WalkKit
import Derived.BigCall
import Derived.Below
import Derived.Laws.RangeAny
import Derived.Lib.IndexBytes
import Derived.Lib.Hide
import Derived.Deep.RegionHeld3
import Derived.StillTailTactics
import Derived.WalkSpells
import Derived.Outline
import Derived.KernelRfl
namespace Go.Proofs.YtenbcmlacmepgaaDoor
open Go.RowKit

/-- A letter or _; a digit. -/
def letR (r : Int) : Bool := (decide (97 ≤ r) && decide (r ≤ 122)) || (decide (65 ≤ r) && decide (r ≤ 90)) || decide (r = 95)
def digR (r : Int) : Bool := decide (48 ≤ r) && decide (r ≤ 57)
def lodR (r : Int) : Bool := letR r || digR r
theorem ret_bool {a b : Bool} (h : a = b) : Ending.returned (.bool a) = Ending.returned (.bool b) := by rw [h]
theorem ret_int {a b : Int} (h : a = b) : Ending.returned (.int .i64 a) = Ending.returned (.int .i64 b) := by rw [h]
theorem letter_any (r : Int) (w : World) : Calls Tryd.prog 22 #[.int .i32 r] w fun e w' => e = .returned (.bool (letR r)) ∧ w' = w := by
  have h : (r < 65) ∨ (65 ≤ r ∧ r ≤ 90) ∨ (91 ≤ r ∧ r < 95) ∨ r = 95 ∨ r = 96 ∨ (97 ≤ r ∧ r ≤ 122) ∨ 122 < r := by omega
  rcases h with h | h | h | h | h | h | h
  all_goals
    go_enter Tryd.func22, Tryd.ntmps22
    go_wp2_with fail
    go_ret
    refine ⟨ret_bool ?_, rfl⟩
    rw [Bool.eq_iff_iff]
    simp [letR]
    try omega
theorem digit_any (r : Int) (w : World) : Calls Tryd.prog 25 #[.int .i32 r] w fun e w' => e = .returned (.bool (digR r)) ∧ w' = w := by
  have h : (r < 48) ∨ (48 ≤ r ∧ r ≤ 57) ∨ 57 < r := by omega
  rcases h with h | h | h
  all_goals
    go_enter Tryd.func25, Tryd.ntmps25
    go_wp2_with fail
    go_ret
    refine ⟨ret_bool ?_, rfl⟩
    rw [Bool.eq_iff_iff]
    simp [digR]
    try omega
theorem lod_any (r : Int) (w : World) : Calls Tryd.prog 24 #[.int .i32 r] w fun e w' => e = .returned (.bool (lodR r)) ∧ w' = w := by
  go_enter Tryd.func24, Tryd.ntmps24
  go_wp2_with fail
  refine (letter_any r w).mono ?_
  rintro e w1 ⟨rfl, rfl⟩
  cases h : letR r with
  | true =>
    go_wp2_with fail
    go_ret
    exact ⟨ret_bool (by simp [lodR, h]), rfl⟩
  | false =>
    go_wp2_with fail
    refine (digit_any r w1).mono ?_
    rintro e w2 ⟨rfl, rfl⟩
    go_wp2_with fail
    go_ret
    exact ⟨ret_bool (by simp [lodR, h]), rfl⟩
theorem lodn_any (r : Int) (w : World) : Calls Tryd.prog 37 #[.int .i32 r] w fun e w' => e = .returned (.bool (lodR r)) ∧ w' = w := by
  go_enter Tryd.func37, Tryd.ntmps37
  go_wp2_with fail
  refine (letter_any r w).mono ?_
  rintro e w1 ⟨rfl, rfl⟩
  cases h : letR r with
  | true =>
    go_wp2_with fail
    go_ret
    exact ⟨ret_bool (by simp [lodR, h]), rfl⟩
  | false =>
    go_wp2_with fail
    refine (digit_any r w1).mono ?_
    rintro e w2 ⟨rfl, rfl⟩
    go_wp2_with fail
    go_ret
    exact ⟨ret_bool (by simp [lodR, h]), rfl⟩

/-- How many of the first are such. -/
def runN (p : Int → Bool) (l : List UInt8) : Nat := (l.takeWhile fun b => p b.toNat).length
theorem runN_le (p : Int → Bool) (l : List UInt8) : runN p l ≤ l.length := (List.takeWhile_prefix _).length_le
theorem runN_in (p : Int → Bool) (l : List UInt8) (i : Nat) (b : UInt8) (hi : i < runN p l) (hb : l[i]? = some b) : p b.toNat = true := by
  have hpre := List.takeWhile_prefix (l := l) fun b => p b.toNat
  have h1 : (l.takeWhile fun b => p b.toNat)[i]? = some b := by
    obtain ⟨t, ht⟩ := hpre
    rw [← ht] at hb
    rw [List.getElem?_append_left hi] at hb
    exact hb
  exact List.all_eq_true.1 List.all_takeWhile b (List.mem_of_getElem? h1)
theorem runN_out (p : Int → Bool) (l : List UInt8) (b : UInt8) (hb : l[runN p l]? = some b) : p b.toNat = false := by
  induction l with
  | nil => simp at hb
  | cons c l ih =>
    by_cases hc : p c.toNat = true
    · have e : runN p (c :: l) = runN p l + 1 := by simp [runN, hc]
      rw [e] at hb
      exact ih (by simpa using hb)
    · have e : runN p (c :: l) = 0 := by simp [runN, hc]
      rw [e] at hb
      simp at hb
      subst hb
      simpa using hc
theorem iter_below (w : World) (s : ByteArray) (pos : Nat) : Below w.heap.size w (w.iter s pos) := (Below.refl _ _).alloc (Nat.le_refl _) _

set_option maxHeartbeats 2000000 in
theorem run_lod (s : ByteArray) (w : World) : Calls Tryd.prog 23 #[.string s, .func (.func 24) #[] #[]] w fun e w' => e = .returned (.int .i64 (runN lodR s.data.toList)) ∧ Below w.heap.size w w' := by
  have hle := runN_le lodR s.data.toList
  have hsl : s.data.toList.length = s.size := by simp
  have hin : Hid (∀ i (hi : i < s.size), i < runN lodR s.data.toList → lodR (s[i]'hi).toNat = true) := Lib.hid (fun i hi h => runN_in lodR _ i _ h (Lib.data_getElem? s i hi))
  have hout : Hid (∀ (h : runN lodR s.data.toList < s.size), lodR (s[runN lodR s.data.toList]'h).toNat = false) := Lib.hid (fun h => runN_out lodR _ _ (Lib.data_getElem? s _ h))
  obtain ⟨N, hN⟩ : ∃ N, runN lodR s.data.toList = N := ⟨_, rfl⟩
  rw [hN] at hle hin hout ⊢
  clear hN
  go_enter Tryd.func23, Tryd.ntmps23
  go_wp2_with fail
  go_loopw [] (fun w' => ∃ pos : Nat, w' = w.iter s pos ∧ pos ≤ N) (fun w' => s.size - w'.iterPos w.heap.size)
  case atStart => exact ⟨0, rfl, Nat.zero_le _⟩
  case round =>
    obtain ⟨pos, rfl, hpos⟩ := hrel
    by_cases hp : pos < s.size
    · by_cases hpN : pos < N
      · have hq := hin.out pos hp hpN
        have ha : (s[pos]'hp).toNat < 128 := by
          by_cases h : (s[pos]'hp).toNat < 128
          · exact h
          · exfalso
            simp [lodR, letR, digR] at hq
            omega
        have hnx : ∀ ty, (Instr.next (.pointer (some ⟨w.heap.size, 0, none⟩)) true ty).run Tryd.prog (w.iter s pos) = _ := fun ty => run_next_ascii w s pos ty hp ha
        have HQ := Lib.hid hq
        clear hq
        go_wp2_with fail
        refine (lod_any _ _).mono ?_
        rintro e w2 ⟨rfl, rfl⟩
        rw [HQ.out]
        go_wp2_with fail
        go_roundw
        case rel => exact ⟨pos + 1, rfl, hpN⟩
        case measure => simp; omega
      · obtain rfl : pos = N := by omega
        have hq := hout.out hp
        have hq2 : lodR (Utf8.decode s pos).1 = false := by
          by_cases ha : (s[pos]'hp).toNat < 128
          · rw [decode_ascii s pos hp ha]; exact hq
          · have := (decode_high s pos hp (by omega)).1
            rw [Bool.eq_false_iff]
            intro h
            simp [lodR, letR, digR] at h
            omega
        have hnx : ∀ ty, (Instr.next (.pointer (some ⟨w.heap.size, 0, none⟩)) true ty).run Tryd.prog (w.iter s pos) = _ := fun ty => run_next_any w s pos ty hp
        have HQ := Lib.hid hq2
        clear hq hq2
        go_wp2_with fail
        refine (lod_any _ _).mono ?_
        rintro e w2 ⟨rfl, rfl⟩
        rw [HQ.out]
        go_wp2_with fail
        go_ret
        exact ⟨rfl, iter_below _ _ _⟩
    · have hnx : ∀ ty, (Instr.next (.pointer (some ⟨w.heap.size, 0, none⟩)) true ty).run Tryd.prog (w.iter s pos) = _ := fun ty => run_next_end w s pos ty hp
      have e : (s.size : Int) = N := by omega
      go_wp2_with fail
      go_ret
      exact ⟨rfl, iter_below _ _ _⟩

set_option maxHeartbeats 2000000 in
theorem run_dig (s : ByteArray) (w : World) : Calls Tryd.prog 23 #[.string s, .func (.func 25) #[] #[]] w fun e w' => e = .returned (.int .i64 (runN digR s.data.toList)) ∧ Below w.heap.size w w' := by
  have hle := runN_le digR s.data.toList
  have hsl : s.data.toList.length = s.size := by simp
  have hin : Hid (∀ i (hi : i < s.size), i < runN digR s.data.toList → digR (s[i]'hi).toNat = true) := Lib.hid (fun i hi h => runN_in digR _ i _ h (Lib.data_getElem? s i hi))
  have hout : Hid (∀ (h : runN digR s.data.toList < s.size), digR (s[runN digR s.data.toList]'h).toNat = false) := Lib.hid (fun h => runN_out digR _ _ (Lib.data_getElem? s _ h))
  obtain ⟨N, hN⟩ : ∃ N, runN digR s.data.toList = N := ⟨_, rfl⟩
  rw [hN] at hle hin hout ⊢
  clear hN
  go_enter Tryd.func23, Tryd.ntmps23
  go_wp2_with fail
  go_loopw [] (fun w' => ∃ pos : Nat, w' = w.iter s pos ∧ pos ≤ N) (fun w' => s.size - w'.iterPos w.heap.size)
  case atStart => exact ⟨0, rfl, Nat.zero_le _⟩
  case round =>
    obtain ⟨pos, rfl, hpos⟩ := hrel
    by_cases hp : pos < s.size
    · by_cases hpN : pos < N
      · have hq := hin.out pos hp hpN
        have ha : (s[pos]'hp).toNat < 128 := by
          by_cases h : (s[pos]'hp).toNat < 128
          · exact h
          · exfalso
            simp [digR] at hq
            omega
        have hnx : ∀ ty, (Instr.next (.pointer (some ⟨w.heap.size, 0, none⟩)) true ty).run Tryd.prog (w.iter s pos) = _ := fun ty => run_next_ascii w s pos ty hp ha
        have HQ := Lib.hid hq
        clear hq
        go_wp2_with fail
        refine (digit_any _ _).mono ?_
        rintro e w2 ⟨rfl, rfl⟩
        rw [HQ.out]
        go_wp2_with fail
        go_roundw
        case rel => exact ⟨pos + 1, rfl, hpN⟩
        case measure => simp; omega
      · obtain rfl : pos = N := by omega
        have hq := hout.out hp
        have hq2 : digR (Utf8.decode s pos).1 = false := by
          by_cases ha : (s[pos]'hp).toNat < 128
          · rw [decode_ascii s pos hp ha]; exact hq
          · have := (decode_high s pos hp (by omega)).1
            rw [Bool.eq_false_iff]
            intro h
            simp [digR] at h
            omega
        have hnx : ∀ ty, (Instr.next (.pointer (some ⟨w.heap.size, 0, none⟩)) true ty).run Tryd.prog (w.iter s pos) = _ := fun ty => run_next_any w s pos ty hp
        have HQ := Lib.hid hq2
        clear hq hq2
        go_wp2_with fail
        refine (digit_any _ _).mono ?_
        rintro e w2 ⟨rfl, rfl⟩
        rw [HQ.out]
        go_wp2_with fail
        go_ret
        exact ⟨rfl, iter_below _ _ _⟩
    · have hnx : ∀ ty, (Instr.next (.pointer (some ⟨w.heap.size, 0, none⟩)) true ty).run Tryd.prog (w.iter s pos) = _ := fun ty => run_next_end w s pos ty hp
      have e : (s.size : Int) = N := by omega
      go_wp2_with fail
      go_ret
      exact ⟨rfl, iter_below _ _ _⟩

set_option maxHeartbeats 2000000 in
theorem run_lodn (s : ByteArray) (w : World) : Calls Tryd.prog 23 #[.string s, .func (.func 37) #[] #[]] w fun e w' => e = .returned (.int .i64 (runN lodR s.data.toList)) ∧ Below w.heap.size w w' := by
  have hle := runN_le lodR s.data.toList
  have hsl : s.data.toList.length = s.size := by simp
  have hin : Hid (∀ i (hi : i < s.size), i < runN lodR s.data.toList → lodR (s[i]'hi).toNat = true) := Lib.hid (fun i hi h => runN_in lodR _ i _ h (Lib.data_getElem? s i hi))
  have hout : Hid (∀ (h : runN lodR s.data.toList < s.size), lodR (s[runN lodR s.data.toList]'h).toNat = false) := Lib.hid (fun h => runN_out lodR _ _ (Lib.data_getElem? s _ h))
  obtain ⟨N, hN⟩ : ∃ N, runN lodR s.data.toList = N := ⟨_, rfl⟩
  rw [hN] at hle hin hout ⊢
  clear hN
  go_enter Tryd.func23, Tryd.ntmps23
  go_wp2_with fail
  go_loopw [] (fun w' => ∃ pos : Nat, w' = w.iter s pos ∧ pos ≤ N) (fun w' => s.size - w'.iterPos w.heap.size)
  case atStart => exact ⟨0, rfl, Nat.zero_le _⟩
  case round =>
    obtain ⟨pos, rfl, hpos⟩ := hrel
    by_cases hp : pos < s.size
    · by_cases hpN : pos < N
      · have hq := hin.out pos hp hpN
        have ha : (s[pos]'hp).toNat < 128 := by
          by_cases h : (s[pos]'hp).toNat < 128
          · exact h
          · exfalso
            simp [lodR, letR, digR] at hq
            omega
        have hnx : ∀ ty, (Instr.next (.pointer (some ⟨w.heap.size, 0, none⟩)) true ty).run Tryd.prog (w.iter s pos) = _ := fun ty => run_next_ascii w s pos ty hp ha
        have HQ := Lib.hid hq
        clear hq
        go_wp2_with fail
        refine (lodn_any _ _).mono ?_
        rintro e w2 ⟨rfl, rfl⟩
        rw [HQ.out]
        go_wp2_with fail
        go_roundw
        case rel => exact ⟨pos + 1, rfl, hpN⟩
        case measure => simp; omega
      · obtain rfl : pos = N := by omega
        have hq := hout.out hp
        have hq2 : lodR (Utf8.decode s pos).1 = false := by
          by_cases ha : (s[pos]'hp).toNat < 128
          · rw [decode_ascii s pos hp ha]; exact hq
          · have := (decode_high s pos hp (by omega)).1
            rw [Bool.eq_false_iff]
            intro h
            simp [lodR, letR, digR] at h
            omega
        have hnx : ∀ ty, (Instr.next (.pointer (some ⟨w.heap.size, 0, none⟩)) true ty).run Tryd.prog (w.iter s pos) = _ := fun ty => run_next_any w s pos ty hp
        have HQ := Lib.hid hq2
        clear hq hq2
        go_wp2_with fail
        refine (lodn_any _ _).mono ?_
        rintro e w2 ⟨rfl, rfl⟩
        rw [HQ.out]
        go_wp2_with fail
        go_ret
        exact ⟨rfl, iter_below _ _ _⟩
    · have hnx : ∀ ty, (Instr.next (.pointer (some ⟨w.heap.size, 0, none⟩)) true ty).run Tryd.prog (w.iter s pos) = _ := fun ty => run_next_end w s pos ty hp
      have e : (s.size : Int) = N := by omega
      go_wp2_with fail
      go_ret
      exact ⟨rfl, iter_below _ _ _⟩
end Go.Proofs.YtenbcmlacmepgaaDoor
