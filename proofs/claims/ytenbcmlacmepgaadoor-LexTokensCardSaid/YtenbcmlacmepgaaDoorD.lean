/- lex.Words, lex.signs: the rows of words and signs that they make; lex.Tokens' own add; no condition but a table of at most 5000 tokens. -/
import Derived.Test.YtenbcmlacmepgaaDoorC
namespace Go.Proofs.YtenbcmlacmepgaaDoor
open Go.RowKit

/-- The words; the signs. -/
def wordsL : List (List UInt8) := [[97, 102, 116, 101, 114], [97, 110, 100], [97, 115, 107], [98, 111, 111, 108], [98, 114, 101, 97, 107], [99, 111, 110, 116, 105, 110, 117, 101], [100, 101, 108], [100, 111], [101, 97, 99, 104], [101, 108, 115, 101], [101, 109, 105, 116], [102, 97, 108, 115, 101], [102, 110], [104, 97, 115], [105, 102], [105, 110], [105, 110, 116], [108, 101, 110], [108, 101, 116], [109, 97, 112], [110, 111, 116], [111, 110], [111, 114], [114, 101, 99, 111, 114, 100], [114, 101, 116, 117, 114, 110], [115, 116, 114], [116, 101, 120, 116], [116, 114, 117, 101], [119, 104, 105, 108, 101]]
def signsL : List (List UInt8) := [[61, 61], [33, 61], [60, 61], [62, 61], [43, 37], [45, 37], [42, 37], [45, 62], [123], [125], [40], [41], [91], [93], [44], [59], [58], [46], [61], [60], [62], [43], [45], [42], [47], [37], [38]]
/-- A row of texts in a block. -/
def rowC (l : List (List UInt8)) : Obj := .cells (l.map fun x => Value.string (bs x)).toArray 9 (0, 0)
def RowAt (w : World) (b : Nat) (l : List (List UInt8)) : Prop := w.heap[b]? = some (rowC l)
theorem RowAt.cell {w : World} {b : Nat} {l : List (List UInt8)} (h : RowAt w b l) {i : Nat} {x : List UInt8} (hx : l[i]? = some x) : w.cell? ⟨b, i, none⟩ = some (.string (bs x)) := by
  refine cell_of_row _ b i _ 9 (0, 0) h |>.trans ?_
  simp [hx]
theorem RowAt.below {w w' : World} {b : Nat} {l : List (List UInt8)} (h : RowAt w b l) (hb : Below w.heap.size w w') : RowAt w' b l := (hb.block b (Array.getElem?_eq_some_iff.1 h).1).trans h
theorem words_any (w : World) : Calls Tryd.prog 14 #[] w fun e w' => e = .returned (.slice (some ⟨w.heap.size, 0, none⟩) 29 29) ∧ w' = w.alloc (rowC wordsL) := by
  go_enter Tryd.func14, Tryd.ntmps14
  go_wp2_with fail
  go_ret
  exact ⟨rfl, rfl⟩
theorem signs_any (w : World) : Calls Tryd.prog 29 #[] w fun e w' => e = .returned (.slice (some ⟨w.heap.size, 0, none⟩) 27 27) ∧ w' = w.alloc (rowC signsL) := by
  go_enter Tryd.func29, Tryd.ntmps29
  go_wp2_with fail
  go_ret
  exact ⟨rfl, rfl⟩
end Go.Proofs.YtenbcmlacmepgaaDoor
