/- The key type of the service's map, a call as four cells, and what ports.New makes: in every memory. -/
import Derived.Test.YtgcnmiaahkmmeaaDoorShelf
import Derived.WalkKit
import Derived.Maps.OwnSet
import Derived.Maps.StringElems
import Derived.Maps.AppendAt
import Derived.DeepKeys4
import Derived.Deep.QuietTactic
import Derived.BigQuiet
import Derived.Deep.RegionHeld3
import Derived.StillTailTactics
import Derived.WalkSpells
import Derived.Outline
import Derived.KernelRfl
namespace Go.Proofs.YtgcnmiaahkmmeaaDoor
open Go.RowKit Go.Maps

theorem laidOut : laidOutB Tryd.prog = true := by kernel_rfl
theorem row46 : (46 : TypeId) < Tryd.prog.types.size := of_decide_eq_true (by kernel_rfl)
theorem wide46 : (match Tryd.prog.underlying 46 with | some (.array _ _) | some (.struct _) => true | _ => false) = true := by kernel_rfl
theorem law46 : Keyed Tryd.prog 46 := Keyed.of_law (deep_law_laid laidOut (m := 2) (by omega) row46 (by kernel_rfl) wide46)
theorem zero9 (w : World) : (zeroValue 9).run Tryd.prog w = .ok (.string ⟨#[]⟩) w := by kernel_rfl
/-- What a key reads as. -/
def kl (e n : Int) : Lit := .string (keyBytes [.int .i64 e, .int .i64 n])
theorem ktype46 : Tryd.prog.keyType 46 = true := by kernel_rfl
theorem cells46 : Tryd.prog.cellsOf 46 = 2 := by kernel_rfl
theorem size46 : ∃ k, Tryd.prog.types.size + 1 = k + 3 := ⟨Tryd.prog.types.size - 2, by have h : (46 : Nat) < Tryd.prog.types.size := row46; omega⟩
theorem key46 {e n : Int} (he : (Lit.int .i64 e).wf = true) (hn : (Lit.int .i64 n).wf = true) : keyOf Tryd.prog 46 (.agg #[.int .i64 e, .int .i64 n]) = some (kl e n) := by
  obtain ⟨k, hk⟩ := size46
  unfold keyOf
  rw [Tryd.underlying46]
  simp only [ktype46, hk]
  have hc : Tryd.prog.cellsOf 3 = 1 := by kernel_rfl
  simp [Value.formed, Tryd.underlying46, cells46, Value.cells, Program.keyLits, Tryd.underlying3, hc, he, hn, kl]

/-- A call: its event, its number, its port, what is asked. -/
structure Cl where
  ev : Int
  n : Int
  port : ByteArray
  text : ByteArray
def Cl.cells (c : Cl) : List Value := [.int .i64 c.ev, .int .i64 c.n, .string c.port, .string c.text]
def Cl.val (c : Cl) : Value := .agg #[.int .i64 c.ev, .int .i64 c.n, .string c.port, .string c.text]
def clsCells (l : List Cl) : List Value := l.flatMap Cl.cells

theorem new_any (w : World) :
    Calls Tryd.prog 8 #[] w fun e w' => e = .returned (.pointer (some ⟨w.heap.size + 1, 0, none⟩)) ∧
      w' = (w.alloc (.map #[] 0)).alloc (.cells #[.map (some w.heap.size), .slice none 0 0] 44) := by
  have hmm := @run_makeMap Tryd.prog
  go_enter Tryd.func8, Tryd.ntmps8
  go_wp2
  go_ret
  exact ⟨rfl, rfl⟩
end Go.Proofs.YtgcnmiaahkmmeaaDoor
