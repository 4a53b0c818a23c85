/- windlassref3.Digits is the decimal text of every int64; windlassref20.Answer is ports.Answer's text: port and text of at most 300 bytes. -/
import Derived.Test.YtgcnmiaahkmmeaaDoorK
namespace Go.Proofs.YtgcnmiaahkmmeaaDoor
open Go.RowKit

theorem dec_len (n : Nat) (hn : n ≤ 9223372036854775808) : (Lib.decDigits n).length ≤ 21 := by
  rcases Nat.eq_zero_or_pos n with rfl | h0
  · simp [Lib.decDigits_one]
  · have h := Lib.itoa_length_le (-(n : Int)) (by omega) (by omega)
    simp only [Lib.itoa] at h
    rw [if_pos (by omega), show (-(n : Int)).natAbs = n by omega] at h
    simp at h
    omega
theorem itoaB_pos (n : Nat) : itoaB (n : Int) = ⟨(Lib.decDigits n).toArray⟩ := by
  unfold itoaB Lib.itoa
  rw [if_neg (by omega), Int.toNat_natCast]
theorem itoaB_neg (n : Nat) (h : 0 < n) : itoaB (-(n : Int)) = ⟨(45 :: Lib.decDigits n).toArray⟩ := by
  unfold itoaB Lib.itoa
  rw [if_pos (by omega), show (-(n : Int)).natAbs = n by omega]
theorem str_last (m : Nat) (l : List UInt8) (n : Nat) (hm : m < 10) (h : Lib.decDigits n = Lib.decDigits m ++ l) : (⟨#[48 + UInt8.ofNat (m % 10)]⟩ : ByteArray) ++ ⟨l.toArray⟩ = ⟨(Lib.decDigits n).toArray⟩ := by
  rw [h, digit_last m l hm]
  simpa [bstr] using digit_str m l
theorem bcons (x : UInt8) (l : List UInt8) : (⟨#[x]⟩ : ByteArray) ++ ⟨l.toArray⟩ = ⟨(x :: l).toArray⟩ := by
  apply ByteArray.ext
  simp [ByteArray.data_append]

set_option maxHeartbeats 4000000 in
theorem digits_pos (n : Nat) (hn : n ≤ 9223372036854775807) (w : World) :
    Calls Tryd.prog 16 #[.int .i64 n] w fun e w' => e = .returned (.string (itoaB n)) ∧ Below w.heap.size w w' := by
  have hlen := dec_len n (by omega)
  go_enter Tryd.func16, Tryd.ntmps16
  go_wp2_with fail
  go_loopw [3, 4] (fun u s wr => ∃ (m : Nat) (l : List UInt8), u = .int .u64 m ∧ s = bstr l ∧ m ≤ n ∧ Hid (Lib.decDigits n = Lib.decDigits m ++ l) ∧ Below w.heap.size w wr)
    (fun u _ _ => (intOf u).toNat)
  case atStart => exact ⟨n, [], rfl, rfl, Nat.le_refl _, Lib.hid (by simp), Below.refl _ _⟩
  case round =>
    obtain ⟨m, l, rfl, rfl, hm, hd, hB⟩ := hrel
    have hl : l.length ≤ 21 := by have h1 := congrArg List.length hd.out; rw [List.length_append] at h1; omega
    unfold bstr
    have hconv := conv_digit wr m
    have HBa := Lib.hid (show Below w.heap.size w (wr.alloc (.cells #[.int .u8 (48 + (m : Int) % 10)] 5)) from hB.alloc hB.size _)
    clear hB
    by_cases hlt : m < 10
    · have hq : ((m : Int) / 10 == 0) = true := by rw [beq_iff_eq]; omega
      go_wp2_with fail
      go_ret
      exact ⟨ret_str (by rw [itoaB_pos]; exact str_last m l n hlt hd.out), HBa.out⟩
    · have hq : ((m : Int) / 10 == 0) = false := by rw [beq_eq_false_iff_ne]; omega
      go_wp2_with fail
      go_roundw
      case rel => exact ⟨m / 10, _, by go_num, digit_str m l, by omega, Lib.hid (by rw [hd.out]; exact digit_step m l hlt), HBa.out⟩
      case measure => simp [intOf]; omega
theorem wrap_neg (n : Nat) (h0 : 0 < n) (hn : n ≤ 9223372036854775808) : IntKind.u64.wrap (-IntKind.u64.wrap (-(n : Int))) = n := by
  simp [IntKind.wrap, IntKind.bits, IntKind.signed]
  omega
set_option maxHeartbeats 4000000 in
theorem digits_neg (n : Nat) (h0 : 0 < n) (hn : n ≤ 9223372036854775808) (w : World) :
    Calls Tryd.prog 16 #[.int .i64 (-(n : Int))] w fun e w' => e = .returned (.string (itoaB (-(n : Int)))) ∧ Below w.heap.size w w' := by
  have hlen := dec_len n (by omega)
  have hwrap := wrap_neg n h0 hn
  go_enter Tryd.func16, Tryd.ntmps16
  go_wp2_with fail
  go_loopw [3, 4] (fun u s wr => ∃ (m : Nat) (l : List UInt8), u = .int .u64 m ∧ s = bstr l ∧ m ≤ n ∧ Hid (Lib.decDigits n = Lib.decDigits m ++ l) ∧ Below w.heap.size w wr)
    (fun u _ _ => (intOf u).toNat)
  case atStart => exact ⟨n, [], by first | rfl | rw [hwrap], rfl, Nat.le_refl _, Lib.hid (by simp), Below.refl _ _⟩
  case round =>
    obtain ⟨m, l, rfl, rfl, hm, hd, hB⟩ := hrel
    have hl : l.length ≤ 21 := by have h1 := congrArg List.length hd.out; rw [List.length_append] at h1; omega
    unfold bstr
    have hconv := conv_digit wr m
    have HBa := Lib.hid (show Below w.heap.size w (wr.alloc (.cells #[.int .u8 (48 + (m : Int) % 10)] 5)) from hB.alloc hB.size _)
    clear hB
    by_cases hlt : m < 10
    · have hq : ((m : Int) / 10 == 0) = true := by rw [beq_iff_eq]; omega
      go_wp2_with fail
      go_ret
      exact ⟨ret_str (by rw [itoaB_neg n h0, str_last m l n hlt hd.out, bcons]), HBa.out⟩
    · have hq : ((m : Int) / 10 == 0) = false := by rw [beq_eq_false_iff_ne]; omega
      go_wp2_with fail
      go_roundw
      case rel => exact ⟨m / 10, _, by go_num, digit_str m l, by omega, Lib.hid (by rw [hd.out]; exact digit_step m l hlt), HBa.out⟩
      case measure => simp [intOf]; omega
theorem digits_any (n : Int) (h0 : -9223372036854775808 ≤ n) (h1 : n ≤ 9223372036854775807) (w : World) :
    Calls Tryd.prog 16 #[.int .i64 n] w fun e w' => e = .returned (.string (itoaB n)) ∧ Below w.heap.size w w' := by
  by_cases h : n < 0
  · obtain ⟨m, rfl⟩ : ∃ m : Nat, n = -(m : Int) := ⟨n.natAbs, by omega⟩
    exact digits_neg m (by omega) (by omega) w
  · obtain ⟨m, rfl⟩ : ∃ m : Nat, n = m := ⟨n.toNat, by omega⟩
    exact digits_pos m (by omega) w

theorem ans_cut (c : Cl) (k : Int) (h : (64 : Int) < ((itoaB k).size : Int) + 1 + (c.port.size : Int) + 1 + (c.text.size : Int)) : (itoaB k ++ ⟨#[58]⟩ ++ c.port ++ ⟨#[58]⟩ ++ c.text).extract 0 64 = ans c k := by
  rw [ans_walk]
  congr 1
  omega
theorem ans_whole (c : Cl) (k : Int) (h : ((itoaB k).size : Int) + 1 + (c.port.size : Int) + 1 + (c.text.size : Int) ≤ 64) : itoaB k ++ ⟨#[58]⟩ ++ c.port ++ ⟨#[58]⟩ ++ c.text = ans c k := by
  have hs : (longA c k).size = (itoaB k).size + 1 + c.port.size + 1 + c.text.size := by
    have h1 : (⟨#[58]⟩ : ByteArray).size = 1 := rfl
    simp only [longA, ByteArray.size_append, h1]
  unfold ans
  rw [Nat.min_eq_left (by omega), extract_all]
  rfl
set_option maxHeartbeats 1000000 in
theorem refAnswer_any (c : Cl) (k : Int) (h0 : -9223372036854775808 ≤ k) (h1 : k ≤ 9223372036854775807) (hp : c.port.size ≤ 300) (hx : c.text.size ≤ 300) (w : World) (ht : Tab w) :
    Calls Tryd.prog 12 #[c.val, .int .i64 k] w fun e w' => e = .returned (.string (ans c k)) ∧ Below w.heap.size w w' := by
  have hlen := itoaB_size k h0 h1
  have hs1 : (⟨#[58]⟩ : ByteArray).size = 1 := rfl
  have r1 := add_run (itoaB k) ⟨#[58]⟩ (by omega)
  have r2 := add_run (itoaB k ++ ⟨#[58]⟩) c.port (by simp [ByteArray.size_append]; omega)
  have r3 := add_run (itoaB k ++ ⟨#[58]⟩ ++ c.port) ⟨#[58]⟩ (by simp [ByteArray.size_append]; omega)
  have r4 := add_run (itoaB k ++ ⟨#[58]⟩ ++ c.port ++ ⟨#[58]⟩) c.text (by simp [ByteArray.size_append]; omega)
  have hst := Lib.hid (startA w c ht)
  clear hs1
  unfold Cl.val
  go_enter Tryd.func12, Tryd.ntmps12
  go_wp2_with fail
  go_region_held3 (fun w' => w'.cell? ⟨w.heap.size, 2, none⟩ = some (.string c.port) ∧ w'.cell? ⟨w.heap.size, 3, none⟩ = some (.string c.text) ∧ Tab w' ∧ Below w.heap.size w w' ∧ w.heap.size + 1 ≤ w'.heap.size)
    (first | exact hst.out | exact keepA (by assumption) (by assumption))
    (first | (go_at_call 16; refine (digits_any k h0 h1 _).mono ?_; rintro e w' ⟨rfl, hb⟩))
  have hB : Below w.heap.size w w' := by
    have hh : w'.cell? ⟨w.heap.size, 2, none⟩ = some (.string c.port) ∧ w'.cell? ⟨w.heap.size, 3, none⟩ = some (.string c.text) ∧ Tab w' ∧ Below w.heap.size w w' ∧ w.heap.size + 1 ≤ w'.heap.size := by assumption
    exact hh.2.2.2.1
  clear hst r1 r2 r3 r4
  go_wp2
  all_goals go_ret
  · exact ⟨ret_str (ans_cut c k (by assumption)), hB⟩
  · exact ⟨ret_str (ans_whole c k (by assumption)), hB⟩
end Go.Proofs.YtgcnmiaahkmmeaaDoor
