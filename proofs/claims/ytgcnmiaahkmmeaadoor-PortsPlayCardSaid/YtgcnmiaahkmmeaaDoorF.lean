/- The walk of PortsAnswers: it returns true, at every uint16, port and text, in every memory that holds strconv's table of powers of ten. -/
import Derived.Test.YtgcnmiaahkmmeaaDoorE
import Derived.LoopTactic
import Derived.Laws.BytesString
import Derived.Laws.BytesArg
namespace Go.Proofs.YtgcnmiaahkmmeaaDoor
open Go.RowKit Go.Maps

def bstr (l : List UInt8) : Value := .string ⟨l.toArray⟩

/-- One digit as a text. -/
theorem conv_digit (wr : World) (m : Nat) : (convert 38 9 (.slice (some ⟨wr.heap.size, 0, none⟩) 1 1)).run Tryd.prog (wr.alloc (.cells #[.int .u8 (48 + (m : Int) % 10)] 5)) =
    .ok (.string ⟨#[UInt8.ofNat (48 + m % 10)]⟩) (wr.alloc (.cells #[.int .u8 (48 + (m : Int) % 10)] 5)) := by
  have h := run_convert_bytes_arg (P := Tryd.prog) (wr.alloc (.cells #[.int .u8 (48 + (m : Int) % 10)] 5)) 38 5 Tryd.underlying38 Tryd.underlying5 wr.heap.size 0 1 1 [48 + (m : Int) % 10] rfl
    (fun i hi => by
      obtain rfl : i = 0 := by omega
      exact cell_of_row _ _ 0 _ 5 (0, 0) (heap_alloc_new wr _)) 9 Tryd.underlying9
  rw [h]
  have e : (48 + (m : Int) % 10).toNat = 48 + m % 10 := by omega
  simp [strOfNums, e]
theorem digit_str (m : Nat) (l : List UInt8) : Value.string (⟨#[48 + UInt8.ofNat (m % 10)]⟩ ++ ⟨l.toArray⟩) = bstr (UInt8.ofNat (48 + m % 10) :: l) := by
  unfold bstr
  congr 1
  apply ByteArray.ext
  simp [ByteArray.data_append]
theorem digit_step (m : Nat) (l : List UInt8) (h : ¬ m < 10) : Lib.decDigits m ++ l = Lib.decDigits (m / 10) ++ (UInt8.ofNat (48 + m % 10) :: l) := by
  conv => lhs; rw [Lib.decDigits, dif_neg h]
  simp
theorem digit_last (m : Nat) (l : List UInt8) (h : m < 10) : Lib.decDigits m ++ l = UInt8.ofNat (48 + m % 10) :: l := by
  rw [Lib.decDigits_one h, show m % 10 = m by omega]
  rfl

theorem str_is (m : Nat) (l : List UInt8) (n : Nat) (hm : m < 10) (h : Lib.decDigits n = Lib.decDigits m ++ l) : (⟨#[48 + UInt8.ofNat (m % 10)]⟩ : ByteArray) ++ ⟨l.toArray⟩ = itoaB n := by
  have h1 : itoaB n = ⟨(UInt8.ofNat (48 + m % 10) :: l).toArray⟩ := by
    unfold itoaB Lib.itoa
    rw [if_neg (by omega), Int.toNat_natCast, h, digit_last m l hm]
  rw [h1]
  have := digit_str m l
  simpa [bstr] using this
theorem long_size (m : Nat) (l : List UInt8) (n : Nat) (port text : ByteArray) (hm : m < 10) (h : Lib.decDigits n = Lib.decDigits m ++ l) :
    (longA ⟨3, 4, port, text⟩ n).size = 1 + l.length + 1 + port.size + 1 + text.size := by
  unfold longA
  rw [← str_is m l n hm h]
  simp only [ByteArray.size_append]
  have h1 : (⟨l.toArray⟩ : ByteArray).size = l.length := by simp [ByteArray.size]
  have h2 : ∀ x : UInt8, (⟨#[x]⟩ : ByteArray).size = 1 := fun _ => rfl
  rw [h1, h2, h2]
theorem fin_cut (m : Nat) (l : List UInt8) (n : Nat) (port text : ByteArray) (hm : m < 10) (h : Lib.decDigits n = Lib.decDigits m ++ l) (h64 : (64 : Int) < 1 + (l.length : Int) + 1 + (port.size : Int) + 1 + (text.size : Int)) :
    ((ans ⟨3, 4, port, text⟩ n).toList == ((⟨#[48 + UInt8.ofNat (m % 10)]⟩ ++ ⟨l.toArray⟩ ++ ⟨#[58]⟩ ++ port ++ ⟨#[58]⟩ ++ text : ByteArray).extract 0 64).toList) = true := by
  have hs := long_size m l n port text hm h
  unfold ans
  rw [hs, Nat.min_eq_right (by omega), str_is m l n hm h]
  simp [longA]
theorem extract_all (b : ByteArray) : b.extract 0 b.size = b := by
  apply ByteArray.ext
  rw [ByteArray.data_extract]
  exact Array.extract_size
theorem fin_all (m : Nat) (l : List UInt8) (n : Nat) (port text : ByteArray) (hm : m < 10) (h : Lib.decDigits n = Lib.decDigits m ++ l) (h64 : 1 + (l.length : Int) + 1 + (port.size : Int) + 1 + (text.size : Int) ≤ 64) :
    ((ans ⟨3, 4, port, text⟩ n).toList == (⟨#[48 + UInt8.ofNat (m % 10)]⟩ ++ ⟨l.toArray⟩ ++ ⟨#[58]⟩ ++ port ++ ⟨#[58]⟩ ++ text : ByteArray).toList) = true := by
  have hs := long_size m l n port text hm h
  unfold ans
  rw [Nat.min_eq_left (by omega), extract_all, str_is m l n hm h]
  simp [longA]

set_option maxHeartbeats 4000000 in
theorem answers_walk (n : Nat) (hn : n < 65536) (port text : ByteArray) (hp : port.size ≤ 100) (hx : text.size ≤ 100) (w : World) (ht : Tab w) :
    Calls Tryd.prog 5 #[.int .u16 n, .string port, .string text] w fun e w' => e = .returned (.bool true) ∧ Below w.heap.size w w' := by
  have d1 : decide ((100 : Int) < port.size) = false := by simp; omega
  have d2 : decide ((100 : Int) < text.size) = false := by simp; omega
  go_enter Tryd.func5, Tryd.ntmps5
  go_wp2_with (go_at_call 6; refine (known_any _ ht).mono ?_; rintro e w1 ⟨rfl, hb1⟩)
  have HB1 := Lib.hid hb1
  clear hb1
  go_loopw [7, 8] (fun s k wr => ∃ (m : Nat) (l : List UInt8), k = .int .i64 m ∧ s = bstr l ∧ m ≤ n ∧ Hid (Lib.decDigits n = Lib.decDigits m ++ l) ∧ Below w.heap.size w wr)
    (fun _ k _ => (intOf k).toNat)
  case atStart => exact ⟨n, [], rfl, rfl, Nat.le_refl _, Lib.hid (by simp), HB1.out⟩
  case round =>
    obtain ⟨m, l, rfl, rfl, hm, hd, hB⟩ := hrel
    have hl : l.length ≤ 21 := by
      have h1 := congrArg List.length hd.out
      have h2 := Lib.itoa_length_le n (by omega) (by omega)
      rw [List.length_append] at h1
      simp only [Lib.itoa] at h2
      rw [if_neg (by omega)] at h2
      simp only [Int.toNat_natCast] at h2
      omega
    unfold bstr
    have hconv := conv_digit wr m
    by_cases hlt : m < 10
    · have hBa : Below w.heap.size w (wr.alloc (.cells #[.int .u8 (48 + (m : Int) % 10)] 5)) := hB.alloc hB.size _
      have hta := ht.below hBa
      have HBa := Lib.hid hBa
      clear hBa hB
      go_wp2_with fail
      all_goals
        refine (answer_any ⟨3, 4, port, text⟩ n (by omega) (by omega) (by simp; omega) (by simp; omega) _ hta).mono ?_
        rintro e w2 ⟨rfl, hb2⟩
        go_wp2_with fail
        go_ret
        refine ⟨?_, HBa.out.trans (hb2.mono HBa.out.size)⟩
        refine ret_bool ?_
        first
          | exact fin_cut m l n port text hlt hd.out (by assumption)
          | exact fin_all m l n port text hlt hd.out (by assumption)
    · go_wp2_with fail
      go_roundw
      case rel => exact ⟨m / 10, _, by go_num, digit_str m l, by omega, Lib.hid (by rw [hd.out]; exact digit_step m l hlt), hB.alloc hB.size _⟩
      case measure => simp [intOf]; omega

set_option maxHeartbeats 1000000 in
theorem answers_port (n : Int) (port text : ByteArray) (hp : 100 < port.size) (w : World) (ht : Tab w) :
    Calls Tryd.prog 5 #[.int .u16 n, .string port, .string text] w fun e w' => e = .returned (.bool true) ∧ Below w.heap.size w w' := by
  have d1 : decide ((100 : Int) < port.size) = true := by simp; omega
  go_enter Tryd.func5, Tryd.ntmps5
  go_wp2_with (go_at_call 6; refine (known_any _ ht).mono ?_; rintro e w1 ⟨rfl, hb1⟩)
  go_ret
  exact ⟨rfl, hb1⟩
set_option maxHeartbeats 1000000 in
theorem answers_text (n : Int) (port text : ByteArray) (hp : port.size ≤ 100) (hx : 100 < text.size) (w : World) (ht : Tab w) :
    Calls Tryd.prog 5 #[.int .u16 n, .string port, .string text] w fun e w' => e = .returned (.bool true) ∧ Below w.heap.size w w' := by
  have d1 : decide ((100 : Int) < port.size) = false := by simp; omega
  have d2 : decide ((100 : Int) < text.size) = true := by simp; omega
  go_enter Tryd.func5, Tryd.ntmps5
  go_wp2_with (go_at_call 6; refine (known_any _ ht).mono ?_; rintro e w1 ⟨rfl, hb1⟩)
  go_ret
  exact ⟨rfl, hb1⟩
theorem answers_any (n : Int) (h0 : 0 ≤ n) (h1 : n ≤ 65535) (port text : ByteArray) (w : World) (ht : Tab w) :
    Calls Tryd.prog 5 #[.int .u16 n, .string port, .string text] w fun e w' => e = .returned (.bool true) ∧ Below w.heap.size w w' := by
  by_cases hp : 100 < port.size
  · exact answers_port n port text hp w ht
  · by_cases hx : 100 < text.size
    · exact answers_text n port text (by omega) hx w ht
    · obtain ⟨m, rfl⟩ : ∃ m : Nat, n = m := ⟨n.toNat, by omega⟩
      exact answers_walk m (by omega) port text (by omega) (by omega) w ht
end Go.Proofs.YtgcnmiaahkmmeaaDoor
