/- PortsOnce's walk at every input; and arguments of the type []api.Call, []uint8 as they are read. -/
import Derived.Test.YtgcnmiaahkmmeaaDoorJ
import Derived.Test.YtgcnmiaahkmmeaaDoorG
import Derived.Deep.Slices
import Derived.Deep.Fields
import Derived.ChangeSame
namespace Go.Proofs.YtgcnmiaahkmmeaaDoor
open Go.RowKit Go.ChangeShapes Go.WideShapes Go.Deep

section
variable {H : Type} {enc : TypeId × Value → H} {w : World} {base : Nat} {spare : Nat → Bool} {held : Bool}
theorem cells3 : Tryd.prog.cellsOf 3 = 1 := by kernel_rfl
theorem cells9 : Tryd.prog.cellsOf 9 = 1 := by kernel_rfl
theorem cells33 : Tryd.prog.cellsOf 33 = 4 := by kernel_rfl
theorem open_call {fuel : Nat} {cs : List Value} {x : DataW H × List MemPlace} (h : DataW.trod enc Tryd.prog w base spare held fuel 33 cs = some x) : ∃ c : Cl, cs = c.cells ∧ c.ok := by
  obtain ⟨xs, n, _, _, hlen, hxl, hf⟩ := DataW.trod_struct Tryd.underlying33 h
  rw [cells33] at hlen
  have hxl' : xs.length = 4 := hxl
  obtain ⟨c0, c1, c2, c3, rfl⟩ : ∃ a b c d, cs = [a, b, c, d] := by
    match cs, hlen with
    | [a, b, c, d], _ => exact ⟨a, b, c, d, rfl⟩
  obtain ⟨y0, y1, y2, y3, rfl⟩ : ∃ a b c d, xs = [a, b, c, d] := by
    match xs, hxl' with
    | [a, b, c, d], _ => exact ⟨a, b, c, d, rfl⟩
  have h0 : DataW.trod enc Tryd.prog w base spare held n 3 (([c0, c1, c2, c3].drop 0).take (Tryd.prog.cellsOf 3)) = some y0 := hf 0 _ rfl
  have h1 : DataW.trod enc Tryd.prog w base spare held n 3 (([c0, c1, c2, c3].drop 1).take (Tryd.prog.cellsOf 3)) = some y1 := hf 1 _ rfl
  have h2 : DataW.trod enc Tryd.prog w base spare held n 9 (([c0, c1, c2, c3].drop 2).take (Tryd.prog.cellsOf 9)) = some y2 := hf 2 _ rfl
  have h3 : DataW.trod enc Tryd.prog w base spare held n 9 (([c0, c1, c2, c3].drop 3).take (Tryd.prog.cellsOf 9)) = some y3 := hf 3 _ rfl
  rw [cells3] at h0 h1
  rw [cells9] at h2 h3
  obtain ⟨a0, e0, _, w0⟩ := DataW.trod_int Tryd.underlying3 h0
  obtain ⟨a1, e1, _, w1⟩ := DataW.trod_int Tryd.underlying3 h1
  obtain ⟨a2, e2, _, _⟩ := DataW.trod_string Tryd.underlying9 h2
  obtain ⟨a3, e3, _, _⟩ := DataW.trod_string Tryd.underlying9 h3
  simp at e0 e1 e2 e3
  subst e0 e1 e2 e3
  simp [Lit.wf, IntKind.min, IntKind.max, IntKind.bits, IntKind.signed] at w0 w1
  exact ⟨⟨a0, a1, a2, a3⟩, rfl, by simp only [Cl.ok]; omega⟩
theorem open_calls {fuel : Nat} {cs : List Value} {x : DataW H × List MemPlace} (h : DataW.trod enc Tryd.prog w base spare held fuel 22 cs = some x) :
    ∃ (A : Option Addr) (cap : Nat) (l : List Cl), cs = [.slice A l.length cap] ∧ l.length ≤ 9223372036854775807 ∧ RdC w A l ∧ ∀ c ∈ l, c.ok := by
  rcases open_slice Tryd.underlying22 h with ⟨rfl, _⟩ | ⟨a, len, cap, m, n, D, Pl, rfl, hb, hl, hm, hmm, hx, hi⟩
  · exact ⟨none, 0, [], rfl, by simp, fun i c hc => by simp at hc, by simp⟩
  · have hlm : len ≤ m := by rw [hmm]; split <;> omega
    have hall : ∀ i, i < len → ∃ c : Cl, c.ok ∧ ∀ j, j < 4 → w.cell? (a.add (i * 4 + j)) = c.cells[j]? := by
      intro i hil
      obtain ⟨cs', hc, ht⟩ := hi i (by omega)
      rw [cells33] at hc
      obtain ⟨c, rfl, hok⟩ := open_call ht
      obtain ⟨_, _, hcell⟩ := World.cells?_some hc
      refine ⟨c, hok, fun j hj => ?_⟩
      have := hcell j hj
      rw [← this, Go.Deep.add_add]
    have hlist : ∀ k, k ≤ len → ∃ l : List Cl, l.length = k ∧ (∀ i c, l[i]? = some c → c.ok ∧ ∀ j, j < 4 → w.cell? (a.add (i * 4 + j)) = c.cells[j]?) := by
      intro k
      induction k with
      | zero => intro _; exact ⟨[], rfl, fun i c hc => by simp at hc⟩
      | succ k ih =>
        intro hk
        obtain ⟨l, hll, hl'⟩ := ih (by omega)
        obtain ⟨c, hok, hc⟩ := hall k (by omega)
        refine ⟨l ++ [c], by simp [hll], fun i d hd => ?_⟩
        by_cases hik : i < l.length
        · rw [List.getElem?_append_left hik] at hd
          exact hl' i d hd
        · have hik' : i = l.length := by
            have := (List.getElem?_eq_some_iff.1 hd).1
            simp at this; omega
          subst hik'
          have hdc : c = d := by simpa using hd
          subst hdc
          rw [hll]
          exact ⟨hok, hc⟩
    obtain ⟨l, hll, hl'⟩ := hlist len (Nat.le_refl _)
    refine ⟨some a, cap, l, by rw [hll], by simp only [maxLen] at hm; omega, fun i c hc => ?_, fun c hc => ?_⟩
    · have hf := (hl' i c hc).2
      have hadd : ∀ j, 0 < j → a.add (i * 4 + j) = ⟨(a.add (i * 4)).block, (a.add (i * 4)).off + j, none⟩ := by
        intro j hj
        rw [← Go.Deep.add_add]
        conv => lhs; unfold Addr.add
        rw [if_neg (by omega)]
        rfl
      refine ⟨a, rfl, hf 0 (by omega), ?_, ?_, ?_⟩
      · rw [← hadd 1 (by omega)]; exact hf 1 (by omega)
      · rw [← hadd 2 (by omega)]; exact hf 2 (by omega)
      · rw [← hadd 3 (by omega)]; exact hf 3 (by omega)
    · obtain ⟨i, hi'⟩ := List.getElem?_of_mem hc
      exact (hl' i c hi').1
theorem open_bytes {fuel : Nat} {cs : List Value} {x : DataW H × List MemPlace} (h : DataW.trod enc Tryd.prog w base spare held fuel 38 cs = some x) :
    ∃ (A : Option Addr) (cap : Nat) (l : List Int), cs = [.slice A l.length cap] ∧ l.length ≤ 9223372036854775807 ∧ RdB w A l := by
  rcases open_ints Tryd.underlying38 Tryd.underlying5 (by kernel_rfl) h with ⟨rfl, _⟩ | ⟨a, len, cap, zs, rfl, hb, hl, hm, hz, hx, hcell, hwz⟩
  · exact ⟨none, 0, [], rfl, by simp, fun i c hc => by simp at hc⟩
  · have hz' : len ≤ zs.length := by rw [hz]; split <;> omega
    refine ⟨some a, cap, zs.take len, by rw [List.length_take, Nat.min_eq_left (by omega)], by rw [List.length_take]; simp only [maxLen] at hm; omega, fun i x hx' => ?_⟩
    have hil : i < len := by
      have := (List.getElem?_eq_some_iff.1 hx').1
      rw [List.length_take] at this; omega
    have hxi : zs[i]? = some x := by
      rw [List.getElem?_take, if_pos hil] at hx'; exact hx'
    have hw := hwz x (List.mem_of_getElem? hxi)
    have hc := hcell i (by omega)
    have e : zs.getD i 0 = x := by simp [List.getD, hxi]
    rw [e] at hc
    simp [Lit.wf, IntKind.min, IntKind.max, IntKind.bits, IntKind.signed] at hw
    exact ⟨by omega, by omega, a, rfl, hc⟩
end

set_option maxHeartbeats 1000000 in
theorem once_any (A0 : Option Addr) (cap0 : Nat) (l : List Cl) (A1 : Option Addr) (cap1 : Nat) (xs : List Int) (w : World) (ht : Tab w) (hR : RdC w A0 l) (hX : RdB w A1 xs) (hok : ∀ c ∈ l, c.ok) (hl : l.length ≤ 9223372036854775807) :
    Calls Tryd.prog 4 #[.slice A0 l.length cap0, .slice A1 xs.length cap1] w fun e w' => e = .returned (.bool true) ∧ Below w.heap.size w w' := by
  cases hf : fewB l with
  | true =>
    by_cases hx : xs.length ≤ 100
    · exact once_walk A0 cap0 l A1 cap1 xs w ht hR hX hok hf hx
    · have d1 : decide ((100 : Int) < xs.length) = true := by simp; omega
      have HF := Lib.hid hf
      have HR := Lib.hid hR
      clear hf hR hX
      go_enter Tryd.func4, Tryd.ntmps4
      go_wp2_with fail
      refine (known_any _ ht).mono ?_
      rintro e w1 ⟨rfl, hb1⟩
      go_wp2_with fail
      refine (few_any A0 cap0 l hl w1 (HR.out.below hb1)).mono ?_
      rintro e w1' ⟨rfl, rfl⟩
      rw [HF.out]
      go_wp2_with fail
      go_ret
      exact ⟨rfl, hb1⟩
  | false =>
    have HF := Lib.hid hf
    have HR := Lib.hid hR
    clear hf hR hX
    go_enter Tryd.func4, Tryd.ntmps4
    go_wp2_with fail
    refine (known_any _ ht).mono ?_
    rintro e w1 ⟨rfl, hb1⟩
    go_wp2_with fail
    refine (few_any A0 cap0 l hl w1 (HR.out.below hb1)).mono ?_
    rintro e w1' ⟨rfl, rfl⟩
    rw [HF.out]
    go_wp2_with fail
    go_ret
    exact ⟨rfl, hb1⟩
end Go.Proofs.YtgcnmiaahkmmeaaDoor
