/- A slice of calls as it is read; few() tells whether all ports and texts have at most 200 bytes, and there are at most 80 calls: in every memory. -/
import Derived.Test.YtgcnmiaahkmmeaaDoorE
import Derived.LoopTactic
namespace Go.Proofs.YtgcnmiaahkmmeaaDoor
open Go.RowKit

/-- Memory holds the calls l from address A on. -/
def RdC (w : World) (A : Option Addr) (l : List Cl) : Prop := ∀ i c, l[i]? = some c → ∃ ad, A = some ad ∧ w.cell? (ad.add (i * 4)) = some (.int .i64 c.ev) ∧
  w.cell? ⟨(ad.add (i * 4)).block, (ad.add (i * 4)).off + 1, none⟩ = some (.int .i64 c.n) ∧ w.cell? ⟨(ad.add (i * 4)).block, (ad.add (i * 4)).off + 2, none⟩ = some (.string c.port) ∧
  w.cell? ⟨(ad.add (i * 4)).block, (ad.add (i * 4)).off + 3, none⟩ = some (.string c.text)
theorem cell_keep {w w' : World} (hb : Below w.heap.size w w') {p : Addr} {x : Value} (hx : w.cell? p = some x) : w'.cell? p = some x := (hb.cell (World.block_lt_of_cell? w p hx)).trans hx
theorem RdC.below {w w' : World} {A : Option Addr} {l : List Cl} (h : RdC w A l) (hb : Below w.heap.size w w') : RdC w' A l := fun i c hc => by
  obtain ⟨ad, e, h0, h1, h2, h3⟩ := h i c hc
  exact ⟨ad, e, cell_keep hb h0, cell_keep hb h1, cell_keep hb h2, cell_keep hb h3⟩
/-- Of calls below B, where memory below B stays as it is. -/
theorem RdC.belowB {w w' : World} {B : Nat} {A : Option Addr} {l : List Cl} (h : RdC w A l) (hA : ∀ ad, A = some ad → ad.block < B) (hb : Below B w w') : RdC w' A l := fun i c hc => by
  obtain ⟨ad, e, h0, h1, h2, h3⟩ := h i c hc
  have hk : (ad.add (i * 4)).block < B := by rw [show (ad.add (i * 4)).block = ad.block by unfold Addr.add; split <;> rfl]; exact hA ad e
  exact ⟨ad, e, (hb.cell hk).trans h0, (hb.cell (p := ⟨(ad.add (i * 4)).block, (ad.add (i * 4)).off + 1, none⟩) hk).trans h1, (hb.cell (p := ⟨(ad.add (i * 4)).block, (ad.add (i * 4)).off + 2, none⟩) hk).trans h2, (hb.cell (p := ⟨(ad.add (i * 4)).block, (ad.add (i * 4)).off + 3, none⟩) hk).trans h3⟩

def okC (c : Cl) : Bool := decide (c.port.size ≤ 200) && decide (c.text.size ≤ 200)
def fewB (l : List Cl) : Bool := l.all okC && decide (l.length ≤ 80)

theorem fewB_false {l : List Cl} {k : Nat} {c : Cl} (hc : l[k]? = some c) (h : okC c = false) : fewB l = false := by
  have : l.all okC = false := List.all_eq_false.2 ⟨c, List.mem_of_getElem? hc, by simp [h]⟩
  simp [fewB, this]

theorem few_end {l : List Cl} {k : Nat} (hall : ∀ c ∈ l.take k, okC c = true) (hk : l.length ≤ k) : decide ((l.length : Int) ≤ 80) = fewB l := by
  rw [List.take_of_length_le hk] at hall
  have ha : l.all okC = true := List.all_eq_true.2 hall
  simp only [fewB, ha, Bool.true_and]
  exact decide_eq_decide.2 (by omega)

set_option maxHeartbeats 2000000 in
theorem few_any (A : Option Addr) (cap : Nat) (l : List Cl) (hreach : l.length ≤ 9223372036854775807) (w : World) (h : RdC w A l) :
    Calls Tryd.prog 7 #[.slice A l.length cap] w fun e w' => e = .returned (.bool (fewB l)) ∧ w = w' := by
  go_enter Tryd.func7, Tryd.ntmps7
  go_wp2_with fail
  go_loop [3] (fun i => ∃ k : Nat, k ≤ l.length ∧ i = .int .i64 k ∧ Hid (∀ c ∈ l.take k, okC c = true)) (fun i => l.length - (intOf i).toNat)
  case atStart => exact ⟨0, Nat.zero_le _, rfl, Lib.hid (by simp)⟩
  case round =>
    obtain ⟨k, hk, rfl, hall⟩ := hrel
    by_cases hlt : k < l.length
    · obtain ⟨c, hc⟩ : ∃ c, l[k]? = some c := ⟨l[k], List.getElem?_eq_getElem hlt⟩
      obtain ⟨ad, rfl, h0, h1, h2, h3⟩ := h k c hc
      have HC := Lib.hid hc
      clear hc h0 h1 h
      by_cases hp : 200 < c.port.size
      · go_wp2_with fail
        go_ret
        exact ⟨ret_bool (fewB_false HC.out (by simp [okC]; omega)).symm, rfl⟩
      · by_cases ht : 200 < c.text.size
        · go_wp2_with fail
          go_ret
          exact ⟨ret_bool (fewB_false HC.out (by simp [okC]; omega)).symm, rfl⟩
        · go_wp2_with fail
          go_round
          case rel => exact ⟨k + 1, by omega, by go_num, Lib.hid (by
            intro d hd
            rw [List.take_succ_eq_append_getElem (by omega)] at hd
            have hcl := HC.out
            rw [List.getElem?_eq_getElem hlt] at hcl
            rcases List.mem_append.1 hd with hd | hd
            · exact hall.out d hd
            · simp only [List.mem_singleton] at hd
              injection hcl with hcl
              subst hd
              rw [hcl]
              simp [okC]; omega)⟩
          case measure => simp [intOf]; omega
    · go_wp2_with fail
      go_ret
      exact ⟨ret_bool (few_end (hall.out) (by omega)), rfl⟩
end Go.Proofs.YtgcnmiaahkmmeaaDoor
