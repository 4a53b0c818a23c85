/- A world for the witnesses: utf8's two tables hold what their initialisers lay; arguments of the type []uint8, string as they are read. -/
import Derived.Test.YtenbcmlacmepgaaDoorM
import Derived.Test.YtenbcmlacmepgaaDoorCards
import Derived.Test.YtenbcmlacmepgaaDoorTie
import Derived.WalkKit
import Derived.ProofKit
import Derived.OpenShut
import Derived.ShutString
import Derived.Deep.DeepHandedRow
import Derived.Lib.LaidTab
import Derived.Deep.Slices
import Derived.Deep.Fields
import Derived.ChangeSame
namespace Go.Proofs.YtenbcmlacmepgaaDoor
open Go.ChangeShapes Go.WideShapes Go.ChangeAt Go.RowKit Go.Deep

theorem laidOut : laidOutB Tryd.prog = true := by kernel_rfl
theorem own : ownKnob Tryd.prog.godebug = none := by kernel_rfl
def cellsFirst : Array Value := (Pinned.utf8FirstZ.map fun (n : Nat) => Value.int .u8 n).toArray
def cellsAccept : Array Value := #[128, 191, 160, 191, 128, 159, 144, 191, 128, 143, 0, 0, 0, 0, 0, 0, 0, 0, 0, 0, 0, 0, 0, 0, 0, 0, 0, 0, 0, 0, 0, 0].map (Value.int .u8)
def lay (cs : Array Value) : Obj → Obj
  | .cells _ t frozen => .cells cs t frozen
  | o => o
noncomputable def laidWorld (os : Os) : World :=
  { World.holding Tryd.prog os ⟨#[], #[], []⟩ with heap := (((World.holding Tryd.prog os ⟨#[], #[], []⟩).heap.modify 1 (lay cellsFirst)).modify 2 (lay cellsAccept)) }
theorem maxL_of {w : World} (h : w.ShapedOpen Tryd.prog) : MaxL w := Tryd.laysM154.s1_3 w h
section
variable {H : Type} {enc : TypeId × Value → H} {w : World} {base : Nat} {spare : Nat → Bool} {held : Bool}
theorem open_bytes {fuel : Nat} {cs : List Value} {x : DataW H × List MemPlace} (h : DataW.trod enc Tryd.prog w base spare held fuel 31 cs = some x) :
    ∃ (A : Option Addr) (cap : Nat) (l : List UInt8), cs = [.slice A l.length cap] ∧ l.length ≤ 9223372036854775807 ∧ RdU w A l := by
  rcases open_ints Tryd.underlying31 Tryd.underlying5 (by kernel_rfl) h with ⟨rfl, _⟩ | ⟨a, len, cap, zs, rfl, hb, hl, hm, hz, hx, hcell, hwz⟩
  · exact ⟨none, 0, [], rfl, by simp, fun i c hc => by simp at hc⟩
  · have hz' : len ≤ zs.length := by rw [hz]; split <;> omega
    refine ⟨some a, cap, (zs.take len).map fun z => UInt8.ofNat z.toNat, by rw [List.length_map, List.length_take, Nat.min_eq_left (by omega)], by rw [List.length_map, List.length_take]; simp only [maxLen] at hm; omega, fun i x hx' => ?_⟩
    have hil : i < len := by
      have := (List.getElem?_eq_some_iff.1 hx').1
      rw [List.length_map, List.length_take] at this; omega
    have hiz : i < zs.length := by omega
    have hxe : x = UInt8.ofNat (zs[i]).toNat := by
      have e : ((zs.take len).map fun z => UInt8.ofNat z.toNat)[i]? = some (UInt8.ofNat (zs[i]).toNat) := by
        rw [List.getElem?_map, List.getElem?_take, if_pos hil, List.getElem?_eq_getElem hiz]; rfl
      rw [e] at hx'
      exact (Option.some.inj hx').symm
    have hw := hwz _ (List.getElem_mem hiz)
    have hc := hcell i (by omega)
    have e : zs.getD i 0 = zs[i] := getD_in _ _ _ hiz
    rw [e] at hc
    simp [Lit.wf, IntKind.min, IntKind.max, IntKind.bits, IntKind.signed] at hw
    refine ⟨a, rfl, ?_⟩
    rw [hc, hxe]
    congr 2
    rw [UInt8.toNat_ofNat_of_lt' (by show (zs[i]).toNat < 256; omega)]
    omega
end
end Go.Proofs.YtenbcmlacmepgaaDoor
