/- strings.ContainsRune at the four blanks and every byte's rune. -/
import Derived.Test.YtenbcmlacmepgaaDoorB
import Derived.Deep.QuietTactic
import Derived.BigQuiet
import Derived.WalkMore
import Derived.ScopeJumps
namespace Go.Proofs.YtenbcmlacmepgaaDoor
open Go.RowKit

theorem below_drewN {B : Nat} {a w : World} (h : Below B a w) (n : Nat) : Below B a (w.drewN n) := h.trans ⟨rfl, rfl, rfl, Nat.le_refl _, fun _ _ => rfl⟩
set_option maxHeartbeats 2000000 in
set_option maxRecDepth 100000 in
theorem indexRune_high (r : Int) (h0 : 128 ≤ r) (h1 : r < 256) (w : World) : Calls Tryd.prog 40 #[.string (⟨#[32, 9, 10, 13]⟩ : ByteArray), .int .i32 r] w fun e w' => e = .returned (.int .i64 (-1)) ∧ Below w.heap.size w w' := by
  have hv : Lib.validRune r = true := by simp [Lib.validRune]; omega
  have HV := Lib.hid hv
  clear hv
  have e1 : (r == 65533) = false := by simp; omega
  clear e1
  have e1 := Lib.hid (show (r == 65533) = false by simp; omega)
  obtain ⟨y, hy, henc⟩ : ∃ y : UInt8, 128 ≤ y.toNat ∧ Utf8.encode r = bs [UInt8.ofNat (192 + r.toNat / 64), y] := by
    refine ⟨UInt8.ofNat (128 + r.toNat % 64), by simp; omega, ?_⟩
    have hv : Utf8.valid r = true := by simp [Utf8.valid]; omega
    unfold Utf8.encode
    simp only [hv, if_true]
    rw [if_neg (by omega), if_pos (by omega)]
    rfl
  obtain ⟨x, hx⟩ : ∃ x, UInt8.ofNat (192 + r.toNat / 64) = x := ⟨_, rfl⟩
  rw [hx] at henc
  clear hx
  have hsz : (bs [x, y]).size = 2 := rfl
  have hg : ∀ h, (bs [x, y])[1]'h = y := fun h => rfl
  go_enter Tryd.func40, Tryd.ntmps40
  go_wp2_with fail
  refine (Tryd.utf8_ValidRune r w).mono ?_
  rintro e w1 ⟨rfl, rfl⟩
  rw [HV.out]
  go_wp2_with fail
  go_step3
  go_wp2_with fail
  go_loopw [9] (fun i wr => i = .int .i64 1 ∧ Hid (wr = w1)) (fun _ _ => 0)
  case atStart => exact ⟨rfl, Lib.hid rfl⟩
  case round =>
    obtain ⟨rfl, hw⟩ := hrel
    obtain rfl := hw.out
    have g1 : ∀ h, (((⟨#[32, 9, 10, 13]⟩ : ByteArray)[1]'h).toNat : Int) = 9 := fun h => rfl
    have e2 : (⟨#[32, 9, 10, 13]⟩ : ByteArray).extract 2 4 = ⟨#[10, 13]⟩ := rfl
    have e3 : (⟨#[32, 9, 10, 13]⟩ : ByteArray).size = 4 := rfl
    have e4 : ((9 : Int) != (y.toNat : Int)) = true := by simp; omega
    have hy2 : Lib.indexByte [10, 13] y = -1 := by
      have h1 : (10 : UInt8) ≠ y := by rintro rfl; revert hy; decide
      have h2 : (13 : UInt8) ≠ y := by rintro rfl; revert hy; decide
      simp [Lib.indexByte, h1, h2]
    have HY := Lib.hid hy2
    have hw2 : IntKind.i64.wrap 2 = 2 := by decide
    clear hy2
    go_wp2_with fail
    go_step3
    go_wp2_with fail
    go_quiet (fail)
    go_wp2_with fail
    go_region_held3 (fun _ => True) (exact trivial)
      (first | (go_at_call 21; refine (Tryd.strings_IndexByte _ _ _).mono ?_; (rintro e w3 ⟨rfl, rfl⟩); rw [show (⟨#[10, 13]⟩ : ByteArray).data.toList = [10, 13] from rfl, show ((y.toNat : Int)).toNat.toUInt8 = y by simp, HY.out]))
    all_goals
      go_wp2_with fail
      show bodyPost Tryd.prog Tryd.f40 (fun e w' => e = .returned (.int .i64 (-1)) ∧ Below wr.heap.size wr w') .ret _ _
      go_ret
      exact ⟨rfl, below_drewN (Below.refl _ _) _⟩

/-- A blank. -/
def spaU (b : UInt8) : Bool := b == 32 || b == 9 || b == 10 || b == 13
theorem space_any (b : UInt8) (w : World) : Calls Tryd.prog 20 #[.string (⟨#[32, 9, 10, 13]⟩ : ByteArray), .int .i32 b.toNat] w fun e w' => e = .returned (.bool (spaU b)) ∧ Below w.heap.size w w' := by
  have hlt := b.toNat_lt
  by_cases h : b.toNat < 128
  · refine (Tryd.strings_ContainsRune_ascii (⟨#[32, 9, 10, 13]⟩ : ByteArray) b.toNat w (by omega) (by omega)).mono ?_
    rintro e w' ⟨rfl, rfl⟩
    refine ⟨ret_bool ?_, Below.refl _ _⟩
    show decide (0 ≤ Lib.indexByte [32, 9, 10, 13] _) = _
    have e : ((b.toNat : Int)).toNat.toUInt8 = b := by simp
    rw [e]
    have : ∀ b : UInt8, decide (0 ≤ Lib.indexByte [32, 9, 10, 13] b) = spaU b := by
      intro b
      simp only [Lib.indexByte, spaU]
      by_cases h1 : b = 32
      · subst h1; rfl
      by_cases h2 : b = 9
      · subst h2; rfl
      by_cases h3 : b = 10
      · subst h3; rfl
      by_cases h4 : b = 13
      · subst h4; rfl
      simp [h1, h2, h3, h4, Ne.symm h1, Ne.symm h2, Ne.symm h3, Ne.symm h4]
    exact this b
  · go_enter Tryd.func20, Tryd.ntmps20
    go_wp2_with fail
    refine (indexRune_high b.toNat (by omega) (by omega) w).mono ?_
    rintro e w1 ⟨rfl, hb⟩
    have HB := Lib.hid hb
    clear hb
    go_wp2_with fail
    go_ret
    refine ⟨ret_bool ?_, HB.out⟩
    have k1 : b ≠ 32 := by rintro rfl; exact h (by decide)
    have k2 : b ≠ 9 := by rintro rfl; exact h (by decide)
    have k3 : b ≠ 10 := by rintro rfl; exact h (by decide)
    have k4 : b ≠ 13 := by rintro rfl; exact h (by decide)
    simp [spaU, k1, k2, k3, k4]
end Go.Proofs.YtenbcmlacmepgaaDoor
