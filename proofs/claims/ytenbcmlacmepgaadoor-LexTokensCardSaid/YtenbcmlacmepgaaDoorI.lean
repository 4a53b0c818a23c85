/- windlasslaw5.known: true, where internal/bytealg's limit is an int in memory. -/
import Derived.Test.YtenbcmlacmepgaaDoorH
namespace Go.Proofs.YtenbcmlacmepgaaDoor
open Go.RowKit

/-- Tokens that are read. -/
def RdT (w : World) (A : Option Addr) (l : List Tk) : Prop := ∀ i t, l[i]? = some t → ∃ ad, A = some ad ∧ w.cell? (ad.add (i * 3)) = some (.int .i64 t.kind) ∧ w.cell? ⟨(ad.add (i * 3)).block, (ad.add (i * 3)).off + 1, none⟩ = some (.string (bs t.text)) ∧ w.cell? ⟨(ad.add (i * 3)).block, (ad.add (i * 3)).off + 2, none⟩ = some (.int .i64 t.at_)
theorem cell_keep {w w' : World} (hb : Below w.heap.size w w') {p : Addr} {x : Value} (hx : w.cell? p = some x) : w'.cell? p = some x := (hb.cell (World.block_lt_of_cell? w p hx)).trans hx
theorem RdT.below {w w' : World} {A : Option Addr} {l : List Tk} (h : RdT w A l) (hb : Below w.heap.size w w') : RdT w' A l := fun i t ht => by
  obtain ⟨ad, e, h0, h1, h2⟩ := h i t ht
  exact ⟨ad, e, cell_keep hb h0, cell_keep hb h1, cell_keep hb h2⟩
theorem tkCells_at : ∀ (l : List Tk) (i : Nat) (t : Tk), l[i]? = some t → ∀ j, j < 3 → (tkCells l)[i * 3 + j]? = t.cells[j]? := by
  intro l
  induction l with
  | nil => intro i t h; simp at h
  | cons y l ih =>
    intro i t h j hj
    have e : tkCells (y :: l) = y.cells ++ tkCells l := by simp [tkCells]
    rw [e]
    cases i with
    | zero =>
      simp only [List.getElem?_cons_zero, Option.some.injEq] at h
      subst h
      rw [List.getElem?_append_left (by simp [Tk.cells]; omega)]
      simp
    | succ i =>
      rw [List.getElem?_append_right (by simp [Tk.cells]; omega)]
      have e2 : (i + 1) * 3 + j - y.cells.length = i * 3 + j := by simp [Tk.cells]; omega
      rw [e2]
      exact ih i t (by simpa using h) j hj
theorem rdT_of_own {w : World} {B n c : Nat} {A : Option Addr} {l : List Tk} (h : w.ownsRow B 28 3 (.slice A n c) n (tkCells l)) : RdT w A l := by
  intro i t ht
  have key := tkCells_at l i t ht
  have hlen : n ≠ 0 := by
    rintro rfl
    have h1 := h.1
    have h2 := (List.getElem?_eq_some_iff.1 (key 0 (by omega))).1
    omega
  rcases h.2 with ⟨_, h0⟩ | ⟨g', cap, cur, hv, _⟩
  · exact absurd h0 hlen
  · have e : A = some ⟨g', 0, none⟩ := by injection hv
    subst e
    have hc := h.cells (g := g') rfl
    have hadd : ∀ m, (⟨g', 0, none⟩ : Addr).add m = ⟨g', m, none⟩ := fun m => by unfold Addr.add; split <;> simp_all
    refine ⟨_, rfl, ?_, ?_, ?_⟩
    · exact hc (i * 3 + 0) _ (key 0 (by omega))
    · have := hc (i * 3 + 1) _ (key 1 (by omega))
      rw [hadd] at this ⊢
      exact this
    · have := hc (i * 3 + 2) _ (key 2 (by omega))
      rw [hadd] at this ⊢
      exact this
/-- At the head of a block of its own. -/
theorem rd0_of_own {w : World} {B n c : Nat} {A : Option Addr} {l : List Tk} (h : w.ownsRow B 28 3 (.slice A n c) n (tkCells l)) (hl : l ≠ []) :
    ∃ g, A = some ⟨g, 0, none⟩ ∧ ∀ i t, l[i]? = some t → w.cell? ⟨g, i * 3, none⟩ = some (.int .i64 t.kind) ∧ w.cell? ⟨g, i * 3 + 1, none⟩ = some (.string (bs t.text)) ∧ w.cell? ⟨g, i * 3 + 2, none⟩ = some (.int .i64 t.at_) := by
  have hlen : n ≠ 0 := by
    rintro rfl
    have h1 := h.1
    cases l with
    | nil => exact hl rfl
    | cons t l => simp [tkCells, Tk.cells] at h1
  rcases h.2 with ⟨_, h0⟩ | ⟨g', cap, cur, hv, _⟩
  · exact absurd h0 hlen
  · have e : A = some ⟨g', 0, none⟩ := by injection hv
    subst e
    have hc := h.cells (g := g') rfl
    have hadd : ∀ m, (⟨g', 0, none⟩ : Addr).add m = ⟨g', m, none⟩ := fun m => by unfold Addr.add; split <;> simp_all
    refine ⟨g', rfl, fun i t ht => ?_⟩
    have key := tkCells_at l i t ht
    have c0 := hc (i * 3 + 0) _ (key 0 (by omega))
    have c1 := hc (i * 3 + 1) _ (key 1 (by omega))
    have c2 := hc (i * 3 + 2) _ (key 2 (by omega))
    rw [hadd] at c0 c1 c2
    exact ⟨c0, c1, c2⟩
theorem tk1 : toks [97, 43, 37, 98] = .ok [⟨1, [97], 0⟩, ⟨5, [43, 37], 1⟩, ⟨1, [98], 3⟩, ⟨0, [], 4⟩] := by kernel_rfl
theorem tk2 : toks [33] = .error (0, 51) := by kernel_rfl
theorem known_any (w : World) (hm : MaxL w) : Calls Tryd.prog 8 #[] w fun e w' => e = .returned (.bool true) ∧ Below w.heap.size w w' := by
  have HM := Lib.hid hm
  clear hm
  go_enter Tryd.func8, Tryd.ntmps8
  go_wp2_with fail
  refine (tokens_any [97, 43, 37, 98] w).mono ?_
  intro e w1 hp
  rw [tk1] at hp
  obtain ⟨hb1, A, cap, rfl, ho⟩ := hp
  obtain ⟨g, rfl, hrd⟩ := rd0_of_own ho (by simp)
  have HR := Lib.hid hrd
  have HB1 := Lib.hid hb1
  clear ho hb1 hrd
  go_wp2_with fail
  refine (tokens_any [33] w1).mono ?_
  intro e w2 hp
  rw [tk2] at hp
  obtain ⟨hb2, rfl⟩ := hp
  have HB2 := Lib.hid hb2
  have hq := Lib.hid (quote_any [97, 34] (by decide) w2 ((HM.out.below HB1.out).below hb2))
  have k1 : w2.cell? ⟨g, 4, none⟩ = some (.string (bs [43, 37])) := cell_keep hb2 (HR.out 1 _ rfl).2.1
  have k3 : w2.cell? ⟨g, 9, none⟩ = some (.int .i64 0) := cell_keep hb2 (HR.out 3 _ rfl).1
  have q1 : ((bs [43, 37]).toList == [43, 37]) = true := by kernel_rfl
  have q2 : ((bs [34, 97, 34, 34, 34]).toList == [34, 97, 34, 34, 34]) = true := by kernel_rfl
  clear hb2
  go_wp2_with fail
  refine hq.out.mono ?_
  rintro e w3 ⟨rfl, hb3⟩
  have HB3 := Lib.hid hb3
  clear hb3
  rw [show quoteL [97, 34] = [34, 97, 34, 34, 34] by decide]
  go_wp2_with fail
  go_ret
  exact ⟨rfl, HB1.out.trans ((HB2.out.trans (HB3.out.mono HB2.out.size)).mono HB1.out.size)⟩
end Go.Proofs.YtenbcmlacmepgaaDoor
