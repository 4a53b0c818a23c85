/- lex.Tokens' own add: a token more in the row, and the place moved on; of a row of at most 5000 tokens, places and lengths of at most 2^40. -/
import Derived.Test.YtenbcmlacmepgaaDoorD
import Derived.OwnWalk
import Derived.OneCell
import Derived.Deep.AppendLies
namespace Go.Proofs.YtenbcmlacmepgaaDoor
open Go.RowKit

structure Tk where
  kind : Nat
  text : List UInt8
  at_ : Nat
def Tk.cells (t : Tk) : List Value := [.int .i64 t.kind, .string (bs t.text), .int .i64 t.at_]
def Tk.val (t : Tk) : Value := .agg #[.int .i64 t.kind, .string (bs t.text), .int .i64 t.at_]
def tkCells (l : List Tk) : List Value := l.flatMap Tk.cells
theorem tkCells_snoc (l : List Tk) (t : Tk) : tkCells (l ++ [t]) = tkCells l ++ t.cells := by simp [tkCells]
theorem info28 : (Tryd.prog.info? 28).map (fun i => (i.zero, i.size, i.bytes)) = some (some (.agg #[.int .i64 0, .string ⟨#[]⟩, .int .i64 0]), 3, 32) := by kernel_rfl
theorem own_form {w : World} {B : Nat} {e : TypeId} {size n : Nat} {v : Value} {xs : List Value} (h : w.ownsRow B e size v n xs) : ∃ A cap, v = .slice A n cap := by
  rcases h.2 with ⟨rfl, rfl⟩ | ⟨g', cap, cur, rfl, _⟩
  · exact ⟨none, 0, rfl⟩
  · exact ⟨_, cap, rfl⟩
theorem own_blocks {w : World} {B : Nat} {e t : TypeId} {size n g : Nat} {v : Value} {xs : List Value} {cs : Array Value} (h : w.ownsRow B e size v n xs) (hg : w.heap[g]? = some (.cells cs t (0, 0))) (hne : e ≠ t) : some g ≠ v.ownBlock := by
  rcases h.2 with ⟨rfl, _⟩ | ⟨g', cap, cur, rfl, _, hh, _⟩
  · simp [Value.ownBlock]
  · intro e'
    simp only [Value.ownBlock] at e'
    injection e' with e'
    subst e'
    rw [hh] at hg
    injection hg with hg
    injection hg with _ ht
    exact hne ht
/-- The row and the place in memory. -/
def TokSt (B : Nat) (w : World) (o p : Nat) (v : Value) (l : List Tk) (a : Nat) : Prop :=
  B ≤ o ∧ B ≤ p ∧ w.heap[o]? = some (.cells #[v] 23 (0, 0)) ∧ w.heap[p]? = some (.cells #[.int .i64 a] 3 (0, 0)) ∧ w.ownsRow B 28 3 v l.length (tkCells l)
def KeepTok (w w' : World) (o p : Nat) (v : Value) : Prop := w.heap.size ≤ w'.heap.size ∧ ∀ i, i < w.heap.size → i ≠ o → i ≠ p → some i ≠ v.ownBlock → w'.heap[i]? = w.heap[i]?
def AddPost (B : Nat) (w : World) (o p : Nat) (v : Value) (l : List Tk) (a : Nat) (e : Ending) (w' : World) : Prop :=
  e = .returned (.tuple #[]) ∧ Below B w w' ∧ KeepTok w w' o p v ∧ ∃ v', TokSt B w' o p v' l a
theorem set_here {w : World} {p : Nat} {x : Value} {t : TypeId} {fr : Nat × Nat} (h : w.heap[p]? = some (.cells #[x] t fr)) (y : Value) : (w.setCell ⟨p, 0, none⟩ y).heap[p]? = some (.cells #[y] t fr) := by
  simp [World.setCell, Array.getElem?_modify, h]
theorem add_end {B o p : Nat} {w w5 : World} {v v' : Value} {l : List Tk} {a n : Nat} {t : Tk} {ob : Obj} (h : TokSt B w o p v l a) (ho : w5.ownsRow B 28 3 v' (l.length + 1) (tkCells l ++ t.cells)) (hg : (w.alloc ob).grownBy w5 v.ownBlock) :
    w5.cell? ⟨o, 0, none⟩ = some v ∧ w5.frozen? ⟨o, 0, none⟩ = false ∧ (w5.setCell ⟨o, 0, none⟩ v').cell? ⟨p, 0, none⟩ = some (.int .i64 a) ∧ (w5.setCell ⟨o, 0, none⟩ v').frozen? ⟨p, 0, none⟩ = false ∧
    Below B w ((w5.setCell ⟨o, 0, none⟩ v').setCell ⟨p, 0, none⟩ (.int .i64 (a + n : Nat))) ∧ KeepTok w ((w5.setCell ⟨o, 0, none⟩ v').setCell ⟨p, 0, none⟩ (.int .i64 (a + n : Nat))) o p v ∧ TokSt B ((w5.setCell ⟨o, 0, none⟩ v').setCell ⟨p, 0, none⟩ (.int .i64 (a + n : Nat))) o p v' (l ++ [t]) (a + n) := by
  obtain ⟨h1, h2, h3, h4, h5⟩ := h
  have lo := lt_of_block h3
  have lp := lt_of_block h4
  have hop : o ≠ p := by
    rintro rfl
    rw [h3] at h4
    injection h4 with h4
    injection h4 with _ e
    exact absurd e (by decide)
  have s1 : (w.alloc ob).heap.size = w.heap.size + 1 := World.size_alloc w ob
  have s2 : (w.alloc ob).heap.size ≤ w5.heap.size := hg.size
  have b3 : w5.heap[o]? = some (.cells #[v] 23 (0, 0)) := (hg.block o (by omega) (own_blocks h5 h3 (by decide))).trans ((Below.heap_alloc w ob o lo).trans h3)
  have b4 : w5.heap[p]? = some (.cells #[.int .i64 a] 3 (0, 0)) := (hg.block p (by omega) (own_blocks h5 h4 (by decide))).trans ((Below.heap_alloc w ob p lp).trans h4)
  have c4 : (w5.setCell ⟨o, 0, none⟩ v').heap[p]? = some (.cells #[.int .i64 a] 3 (0, 0)) := (Below.heap_setCell _ _ _ _ (by exact fun e => hop e.symm)).trans b4
  have hr : ∀ k, v.ownBlock = some k → B ≤ k := fun k hk => (h5.lt k hk).1
  refine ⟨cell_of_row _ o 0 _ 23 (0, 0) b3, by simp [World.frozen?, b3], ?_, by simp [World.frozen?, c4], ?_, ⟨?_, ?_⟩, h1, h2, ?_, ?_, ?_⟩
  · exact cell_of_row _ p 0 _ 3 (0, 0) c4
  · exact Below.setCell (Below.setCell (Below.grown ((Below.refl B w).alloc (by omega) ob) hg (by omega) hr) (by exact h1) _) (by exact h2) _
  · simp only [World.setCell, Array.size_modify]; omega
  · intro i hi e1 e2 e3
    rw [Below.heap_setCell _ _ _ _ (by exact e2), Below.heap_setCell _ _ _ _ (by exact e1), hg.block i (by omega) e3, Below.heap_alloc w ob i hi]
  · rw [Below.heap_setCell _ _ _ _ (by exact hop)]
    simp [World.setCell, Array.getElem?_modify, b3]
  · exact set_here c4 _
  · have k1 := ownsRow_setCell_other ho (a := ⟨o, 0, none⟩) (fun e => own_blocks ho b3 (by decide) e.symm) v'
    have k2 := ownsRow_setCell_other k1 (a := ⟨p, 0, none⟩) (fun e => own_blocks k1 c4 (by decide) e.symm) (.int .i64 (a + n : Nat))
    rw [tkCells_snoc, List.length_append]
    exact k2
theorem tk_one (t : Tk) : ∀ u ∈ t.cells, u.oneCell' = true := by
  intro u hu
  simp only [Tk.cells, List.mem_cons, List.not_mem_nil, or_false] at hu
  rcases hu with rfl | rfl | rfl <;> rfl
set_option maxHeartbeats 2000000 in
theorem add_any (B : Nat) (w : World) (o p : Nat) (v : Value) (l : List Tk) (a : Nat) (h : TokSt B w o p v l a) (hl : l.length ≤ 5000) (ha : a ≤ 1099511627776) (k n : Nat) (hn : n ≤ 1099511627776) (t : List UInt8) :
    Calls Tryd.prog 19 #[.int .i64 k, .string (bs t), .int .i64 n, .pointer (some ⟨o, 0, none⟩), .pointer (some ⟨p, 0, none⟩)] w (AddPost B w o p v (l ++ [⟨k, t, a⟩]) (a + n)) := by
  obtain ⟨i0, hi, hz0, hz1, hz2⟩ := info_parts info28
  have ko := cell_of_row _ o 0 _ 23 (0, 0) h.2.2.1
  have kp := cell_of_row _ p 0 _ 3 (0, 0) h.2.2.2.1
  have hB : B ≤ w.heap.size := Nat.le_trans h.1 (Nat.le_of_lt (lt_of_block h.2.2.1))
  have HO := Lib.hid h.2.2.2.2
  have H := Lib.hid h
  obtain ⟨A, cap, rfl⟩ := own_form h.2.2.2.2
  clear h
  go_enter Tryd.func19, Tryd.ntmps19
  go_wp2_with (at_builtin; refine wpList_append_own _ rfl (.tmp 8) (.tmp 13) 23 rfl B 28 i0 (.agg #[.int .i64 0, .string ⟨#[]⟩, .int .i64 0]) 3 32 Tryd.underlying23 hi hz0 hz1 hz2 rfl (by decide) _ l.length (tkCells l) rfl (HO.out.alloc _) ⟨w.heap.size, 0, none⟩ 1 1 (Tk.cells ⟨k, t, a⟩) rfl rfl ?c1 ?c2 ?c3 ?c4 ?c5 ?_)
  case c1 => exact World.news_of_block (cs := #[.int .i64 k, .string (bs t), .int .i64 a]) (heap_alloc_new w _)
  case c2 => exact tk_one _
  case c3 => simp only [maxLen]; omega
  case c4 => omega
  case c5 => rw [World.size_alloc]; omega
  intro v' w5 hown hgr _
  obtain ⟨A', cap', rfl⟩ := own_form hown
  obtain ⟨k6, f6, k7, f7, hb, hk, hs⟩ := add_end (n := n) H.out hown hgr
  have HB := Lib.hid hb
  have HK := Lib.hid hk
  have HS := Lib.hid hs
  clear hown hgr hb hk hs ko kp
  go_wp2_with fail
  go_end0
  exact ⟨rfl, HB.out, HK.out, _, HS.out⟩
end Go.Proofs.YtenbcmlacmepgaaDoor
