/- ports.Answer returns the first 64 bytes of the number, the port and the text, parted by colons: where the number is an int, port and text have at most 300 bytes, and strconv's table of powers of ten is in memory. -/
import Derived.Test.YtgcnmiaahkmmeaaDoorA
import Derived.Lib.AppendIntMem
import Derived.WalkSmall
import Derived.Lib.ItoaLen
import Derived.WalkLawsBesides
namespace Go.Proofs.YtgcnmiaahkmmeaaDoor
open Go.RowKit Go.Maps

/-- The table that strconv.Itoa reads. -/
def Tab (w : World) : Prop := Lib.TabIs Tryd.prog w "internal/strconv.uint64pow10" .u64 Lib.pow10Tab
theorem globalPow : ∃ g, Tryd.prog.globalNamed "internal/strconv.uint64pow10" = some g := ⟨_, (by kernel_rfl : Tryd.prog.globalNamed "internal/strconv.uint64pow10" = some 0)⟩
theorem Tab.below {w w' : World} (h : Tab w) (hb : Below w.heap.size w w') : Tab w' := by
  unfold Tab Lib.TabIs at *
  have hg : Tryd.prog.globalNamed "internal/strconv.uint64pow10" = some 0 := by kernel_rfl
  refine var?_below hb hg ?_ h
  rcases Nat.lt_or_ge 0 w.heap.size with hlt | hge
  · exact hlt
  · exfalso
    have h0 : w.heap[0]? = none := Array.getElem?_eq_none hge
    simp [World.var?, hg, h0] at h

/-- A number's decimal text. -/
def itoaB (k : Int) : ByteArray := ⟨(Lib.itoa k).toArray⟩
theorem itoaB_size (k : Int) (h0 : -9223372036854775808 ≤ k) (h1 : k ≤ 9223372036854775807) : (itoaB k).size ≤ 21 := by
  have := Lib.itoa_length_le k h0 h1
  simpa [itoaB, ByteArray.size] using this
theorem itoa_c (k : Int) (h0 : -9223372036854775808 ≤ k) (h1 : k ≤ 9223372036854775807) (w : World) (ht : Tab w) :
    Calls Tryd.prog 15 #[.int .i64 k] w fun e w' => e = .returned (.string (itoaB k)) ∧ Below w.heap.size w w' :=
  (Tryd.strconv_Itoa k h0 h1 w ht).mono fun e w' ⟨he, n, os, hw⟩ => ⟨he, by rw [hw]; exact Lib.below_grow _ w (Nat.le_refl _) n os⟩

/-- n, the port and the text, parted by colons. -/
def longA (c : Cl) (k : Int) : ByteArray := itoaB k ++ ⟨#[58]⟩ ++ c.port ++ ⟨#[58]⟩ ++ c.text
/-- What a service answers to the k-th call. -/
def ans (c : Cl) (k : Int) : ByteArray := (longA c k).extract 0 (min (longA c k).size 64)

theorem ans_walk (c : Cl) (k : Int) : ans c k = (itoaB k ++ ⟨#[58]⟩ ++ c.port ++ ⟨#[58]⟩ ++ c.text).extract 0
    (min (((itoaB k).size : Int) + 1 + (c.port.size : Int) + 1 + (c.text.size : Int)) 64).toNat := by
  have hs : (longA c k).size = (itoaB k).size + 1 + c.port.size + 1 + c.text.size := by
    have h1 : (⟨#[58]⟩ : ByteArray).size = 1 := rfl
    simp only [longA, ByteArray.size_append, h1]
  unfold ans
  rw [hs]
  unfold longA
  congr 1
  omega
theorem ret_str {a b : ByteArray} (h : a = b) : Ending.returned (.string a) = .returned (.string b) := by rw [h]
theorem ret_bool {a b : Bool} (h : a = b) : Ending.returned (.bool a) = .returned (.bool b) := by rw [h]
theorem keepA {w w1 w2 : World} {c : Cl} (hS : w1.cell? ⟨w.heap.size, 2, none⟩ = some (.string c.port) ∧ w1.cell? ⟨w.heap.size, 3, none⟩ = some (.string c.text) ∧ Tab w1 ∧ Below w.heap.size w w1 ∧ w.heap.size + 1 ≤ w1.heap.size)
    (hb : Below w1.heap.size w1 w2) : w2.cell? ⟨w.heap.size, 2, none⟩ = some (.string c.port) ∧ w2.cell? ⟨w.heap.size, 3, none⟩ = some (.string c.text) ∧ Tab w2 ∧ Below w.heap.size w w2 ∧ w.heap.size + 1 ≤ w2.heap.size := by
  obtain ⟨a, b, ht, hB, hs⟩ := hS
  exact ⟨(hb.cell (p := ⟨w.heap.size, 2, none⟩) (by simp; omega)).trans a, (hb.cell (p := ⟨w.heap.size, 3, none⟩) (by simp; omega)).trans b, ht.below hb, hB.trans (hb.mono (by omega)), Nat.le_trans hs hb.size⟩
theorem startA (w : World) (c : Cl) (ht : Tab w) : let w1 := (w.alloc (.cells #[.int .i64 c.ev, .int .i64 c.n, .string c.port, .string c.text] 33)).drew
    w1.cell? ⟨w.heap.size, 2, none⟩ = some (.string c.port) ∧ w1.cell? ⟨w.heap.size, 3, none⟩ = some (.string c.text) ∧ Tab w1 ∧ Below w.heap.size w w1 ∧ w.heap.size + 1 ≤ w1.heap.size := by
  have hB : Below w.heap.size w (w.alloc (.cells #[.int .i64 c.ev, .int .i64 c.n, .string c.port, .string c.text] 33)) := (Below.refl _ _).alloc (Nat.le_refl _) _
  have hh := heap_alloc_new w (.cells #[.int .i64 c.ev, .int .i64 c.n, .string c.port, .string c.text] 33)
  exact ⟨cell_of_row _ _ 2 _ 33 (0, 0) hh, cell_of_row _ _ 3 _ 33 (0, 0) hh, ht.below (Below.mono hB.drew (Nat.le_refl _)), hB.drew, by show _ ≤ (w.alloc _).heap.size; simp⟩
theorem add_run (a b : ByteArray) (h : a.size + b.size ≤ 1000000) : ∀ w : World, (Op.stringOp .add a b).run Tryd.prog w = .ok (.string (a ++ b)) w := fun w => run_string_add_sum w a b (by omega)

set_option maxHeartbeats 1000000 in
theorem answer_any (c : Cl) (k : Int) (h0 : -9223372036854775808 ≤ k) (h1 : k ≤ 9223372036854775807) (hp : c.port.size ≤ 300) (hx : c.text.size ≤ 300) (w : World) (ht : Tab w) :
    Calls Tryd.prog 11 #[c.val, .int .i64 k] w fun e w' => e = .returned (.string (ans c k)) ∧ Below w.heap.size w w' := by
  have hlen := itoaB_size k h0 h1
  have hs1 : (⟨#[58]⟩ : ByteArray).size = 1 := rfl
  have r1 := add_run (itoaB k) ⟨#[58]⟩ (by omega)
  have r2 := add_run (itoaB k ++ ⟨#[58]⟩) c.port (by simp [ByteArray.size_append]; omega)
  have r3 := add_run (itoaB k ++ ⟨#[58]⟩ ++ c.port) ⟨#[58]⟩ (by simp [ByteArray.size_append]; omega)
  have r4 := add_run (itoaB k ++ ⟨#[58]⟩ ++ c.port ++ ⟨#[58]⟩) c.text (by simp [ByteArray.size_append]; omega)
  have hst := Lib.hid (startA w c ht)
  clear hs1
  unfold Cl.val
  go_enter Tryd.func11, Tryd.ntmps11
  go_wp2_with fail
  go_region_held3 (fun w' => w'.cell? ⟨w.heap.size, 2, none⟩ = some (.string c.port) ∧ w'.cell? ⟨w.heap.size, 3, none⟩ = some (.string c.text) ∧ Tab w' ∧ Below w.heap.size w w' ∧ w.heap.size + 1 ≤ w'.heap.size)
    (first | exact hst.out | exact keepA (by assumption) (by assumption))
    (first | (go_at_call 15; refine (itoa_c k h0 h1 _ hst.out.2.2.1).mono ?_; rintro e w' ⟨rfl, hb⟩))
  have hB : Below w.heap.size w w' := by
    have hh : w'.cell? ⟨w.heap.size, 2, none⟩ = some (.string c.port) ∧ w'.cell? ⟨w.heap.size, 3, none⟩ = some (.string c.text) ∧ Tab w' ∧ Below w.heap.size w w' ∧ w.heap.size + 1 ≤ w'.heap.size := by assumption
    exact hh.2.2.2.1
  clear hst r1 r2 r3 r4
  go_wp2
  go_ret
  exact ⟨ret_str (ans_walk c k).symm, hB⟩
end Go.Proofs.YtgcnmiaahkmmeaaDoor
