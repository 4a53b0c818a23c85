/- The document's service: Ask at an id that was asked returns what it got and changes nothing; at a new one it answers, and the call is done: in every memory that holds such a service of at most 1000 calls whose ids differ, their numbers ints; port and text of at most 300 bytes, strconv's table in memory. -/
import Derived.Test.YtgcnmiaahkmmeaaDoorL
namespace Go.Proofs.YtgcnmiaahkmmeaaDoor
open Go.RowKit Go.Maps

def ansOf (ds : List Cl) : List ByteArray := ds.zipIdx.map fun p => ans p.1 p.2
theorem ansOf_snoc (ds : List Cl) (c : Cl) : ansOf (ds ++ [c]) = ansOf ds ++ [ans c ds.length] := by simp [ansOf, List.zipIdx_append]
theorem ansOf_len (ds : List Cl) : (ansOf ds).length = ds.length := by simp [ansOf]
theorem ansOf_at {ds : List Cl} {k : Nat} {c : Cl} (h : ds[k]? = some c) : (ansOf ds)[k]? = some (ans c k) := by
  simp [ansOf, List.getElem?_zipIdx, h]
theorem look_at {ds : List Cl} (hu : Uniq ds) {k : Nat} {d : Cl} {e n : Int} (hk : ds[k]? = some d) (hs : sameId d e n) : lookA ds e n = some (ans d k) := by
  induction ds using snoc_ind with
  | h0 => simp at hk
  | h1 ds c ih =>
    rw [lookA_snoc]
    obtain ⟨hu1, _, hu2⟩ := List.pairwise_append.1 hu
    by_cases hkl : k < ds.length
    · rw [List.getElem?_append_left hkl] at hk
      rw [if_neg (fun hc => hu2 d (List.mem_of_getElem? hk) c (by simp) ⟨hs.1.trans hc.1.symm, hs.2.trans hc.2.symm⟩)]
      exact ih hu1 hk
    · have hk' : k = ds.length := by
        have := (List.getElem?_eq_some_iff.1 hk).1
        simp at this; omega
      subst hk'
      have hcd : c = d := by simpa using hk
      subst hcd
      rw [if_pos hs]

/-- The document's service in memory. -/
def RSvc (B : Nat) (w : World) (g : Nat) (dv av : Value) (ds : List Cl) : Prop :=
  B ≤ g ∧ w.heap[g]? = some (.cells #[dv, av] 30 (0, 0)) ∧ w.ownsRow B 33 4 dv ds.length (clsCells ds) ∧ w.ownsRow B 9 1 av ds.length (strs (ansOf ds))
theorem own_below {w w' : World} {B : Nat} {e : TypeId} {size n : Nat} {v : Value} {xs : List Value} (h : w.ownsRow B e size v n xs) (hb : Below w.heap.size w w') : w'.ownsRow B e size v n xs := by
  refine ⟨h.1, ?_⟩
  rcases h.2 with h0 | ⟨g, cap, cur, hv, hg, hh, r⟩
  · exact .inl h0
  · exact .inr ⟨g, cap, cur, hv, hg, (hb.block g (lt_of_block hh)).trans hh, r⟩
theorem RSvc.below {B : Nat} {w w' : World} {g : Nat} {dv av : Value} {ds : List Cl} (h : RSvc B w g dv av ds) (hb : Below w.heap.size w w') : RSvc B w' g dv av ds :=
  ⟨h.1, (hb.block g (lt_of_block h.2.1)).trans h.2.1, own_below h.2.2.1 hb, own_below h.2.2.2 hb⟩
def KeepR (w w' : World) (g : Nat) (dv av : Value) : Prop := w.heap.size ≤ w'.heap.size ∧ ∀ i, i < w.heap.size → i ≠ g → some i ≠ dv.ownBlock → some i ≠ av.ownBlock → w'.heap[i]? = w.heap[i]?
theorem KeepR.of_below {w w' : World} {g : Nat} {dv av : Value} (h : Below w.heap.size w w') : KeepR w w' g dv av := ⟨h.size, fun i hi _ _ _ => h.block i hi⟩

/-- The call in a block of its own. -/
def WB (w : World) (c : Cl) : World := w.alloc (.cells #[.int .i64 c.ev, .int .i64 c.n, .string c.port, .string c.text] 33)
theorem WB_below (w : World) (c : Cl) : Below w.heap.size w (WB w c) := (Below.refl _ _).alloc (Nat.le_refl _) _
theorem WB_c (w : World) (c : Cl) : (WB w c).heap[w.heap.size]? = some (.cells #[.int .i64 c.ev, .int .i64 c.n, .string c.port, .string c.text] 33 (0, 0)) := heap_alloc_new w _
theorem WB_size (w : World) (c : Cl) : (WB w c).heap.size = w.heap.size + 1 := World.size_alloc _ _

theorem no_step {ds : List Cl} {k : Nat} {d : Cl} {e n : Int} (hno : ∀ x ∈ ds.take k, ¬ sameId x e n) (hd : ds[k]? = some d) (hns : ¬ sameId d e n) : ∀ x ∈ ds.take (k + 1), ¬ sameId x e n := by
  rw [take_snoc ds k d hd]
  intro x hx
  rcases List.mem_append.1 hx with hx | hx
  · exact hno x hx
  · simp only [List.mem_singleton] at hx
    rw [hx]; exact hns
def RPost (B : Nat) (w : World) (g : Nat) (dv av : Value) (a : ByteArray) (ds : List Cl) (e : Ending) (w' : World) : Prop :=
  e = .returned (.string a) ∧ Below B w w' ∧ KeepR w w' g dv av ∧ ∃ dv' av', RSvc B w' g dv' av' ds ∧ NewRow w dv dv' ∧ NewRow w av av'
theorem own_rowless {w : World} {B B' : Nat} {e e' : TypeId} {s s' n n' : Nat} {v v' : Value} {xs xs' : List Value} (h : w.ownsRow B e s v n xs) (h' : w.ownsRow B' e' s' v' n' xs') (hne : e ≠ e') : ∀ k, v.ownBlock = some k → some k ≠ v'.ownBlock := by
  intro k hk
  rcases h.2 with ⟨rfl, _⟩ | ⟨g, cap, cur, rfl, _, hh, _⟩
  · simp [Value.ownBlock] at hk
  · simp only [Value.ownBlock] at hk
    injection hk with hk
    subst hk
    exact (own_blocks h' hh (fun e => hne e.symm)).1
/-- Behind the first append and store. -/
theorem r_first {B g g6 cap6 : Nat} {w w3 w6 : World} {dv av : Value} {ds : List Cl} {c : Cl} {o : Obj} (hg0 : g < w.heap.size) (h3 : RSvc B w3 g dv av ds) (hBB : Below w.heap.size w w3) (hdw : ∀ k, dv.ownBlock = some k → B ≤ k ∧ k < w.heap.size)
    (hown6 : w6.ownsRow B 33 4 (.slice (some ⟨g6, 0, none⟩) (ds.length + 1) cap6) (ds.length + 1) (clsCells ds ++ c.cells)) (hgr6 : (w3.alloc o).drew.grownBy w6 dv.ownBlock) (hat : dv.ownBlock = some g6 ∨ g6 = (w3.alloc o).drew.heap.size) :
    let v6 : Value := .slice (some ⟨g6, 0, none⟩) (ds.length + 1) cap6
    let w7 := w6.setCell ⟨g, 0, none⟩ v6
    w7.heap[g]? = some (.cells #[v6, av] 30 (0, 0)) ∧ w7.ownsRow B 33 4 v6 (ds.length + 1) (clsCells (ds ++ [c])) ∧ w7.ownsRow B 9 1 av ds.length (strs (ansOf ds)) ∧ Below B w w7 ∧ KeepR w w7 g dv av ∧ NewRow w dv v6 := by
  intro v6 w7
  obtain ⟨h1, h2, hd, ha⟩ := h3
  have s1 := hBB.size
  have s2 : (w3.alloc o).drew.heap.size = w3.heap.size + 1 := World.size_alloc w3 o
  have s3 : (w3.alloc o).drew.heap.size ≤ w6.heap.size := hgr6.size
  have hgw : g < w3.heap.size := lt_of_block h2
  have hgne : some g ≠ dv.ownBlock := (own_blocks hd h2 (by decide)).1
  have hA : (w3.alloc o).drew.heap[g]? = some (.cells #[dv, av] 30 (0, 0)) := (Below.heap_alloc w3 o g hgw).trans h2
  have h6 : w6.heap[g]? = some (.cells #[dv, av] 30 (0, 0)) := (hgr6.block g (by omega) hgne).trans hA
  have ha6 : w6.ownsRow B 9 1 av ds.length (strs (ansOf ds)) := by
    refine (ha.alloc o).drew.kept hgr6 ?_
    rcases hv : av.ownBlock with _ | k
    · exact .inl rfl
    · exact .inr (own_rowless ha hd (by decide) k hv)
  refine ⟨?_, ?_, ?_, ?_, ⟨?_, ?_⟩, ?_⟩
  · simp [w7, World.setCell, Array.getElem?_modify, h6]
  · rw [clsCells_snoc]
    exact ownsRow_setCell_other hown6 (fun e => (own_blocks hown6 h6 (by decide)).1 e.symm) _
  · exact ownsRow_setCell_other ha6 (fun e => (own_blocks ha6 h6 (by decide)).1 e.symm) _
  · refine Below.setCell (Below.grown (Below.drew (Below.alloc (hBB.mono (by omega)) (by omega) o)) hgr6 (by omega) (fun k hk => (hdw k hk).1)) (by exact h1) _
  · show w.heap.size ≤ w7.heap.size
    have : w7.heap.size = w6.heap.size := by simp [w7, World.setCell]
    omega
  · intro i hi e1 e2 e3
    show w7.heap[i]? = _
    rw [Below.heap_setCell _ _ _ _ (by exact e1), hgr6.block i (by omega) e2]
    have e4 : (w3.alloc o).drew.heap[i]? = w3.heap[i]? := Below.heap_alloc w3 o i (by omega)
    rw [e4, hBB.block i hi]
  · exact ask_row (w4 := w3) (o := o) s1 hat
/-- Behind the second append and store. -/
theorem r_second {B g g8 cap8 : Nat} {w w7 w8 : World} {dv av v6 : Value} {ds : List Cl} {c : Cl} {o : Obj} (hg1 : B ≤ g) (hg0 : g < w.heap.size) (hav : ∀ k, av.ownBlock = some k → B ≤ k ∧ k < w.heap.size)
    (h : w7.heap[g]? = some (.cells #[v6, av] 30 (0, 0)) ∧ w7.ownsRow B 33 4 v6 (ds.length + 1) (clsCells (ds ++ [c])) ∧ w7.ownsRow B 9 1 av ds.length (strs (ansOf ds)) ∧ Below B w w7 ∧ KeepR w w7 g dv av ∧ NewRow w dv v6)
    (hown8 : w8.ownsRow B 9 1 (.slice (some ⟨g8, 0, none⟩) (ds.length + 1) cap8) (ds.length + 1) (strs (ansOf ds) ++ [.string (ans c ds.length)])) (hgr8 : (w7.alloc o).drew.grownBy w8 av.ownBlock) (hat : av.ownBlock = some g8 ∨ g8 = (w7.alloc o).drew.heap.size) :
    let v8 : Value := .slice (some ⟨g8, 0, none⟩) (ds.length + 1) cap8
    let w9 := w8.setCell ⟨g, 1, none⟩ v8
    Below B w w9 ∧ KeepR w w9 g dv av ∧ RSvc B w9 g v6 v8 (ds ++ [c]) ∧ NewRow w dv v6 ∧ NewRow w av v8 := by
  intro v8 w9
  obtain ⟨h2, hd, ha, hB, hK, hN⟩ := h
  have s1 := hK.1
  have s2 : (w7.alloc o).drew.heap.size = w7.heap.size + 1 := World.size_alloc w7 o
  have s3 : (w7.alloc o).drew.heap.size ≤ w8.heap.size := hgr8.size
  have hgne : some g ≠ av.ownBlock := (own_blocks ha h2 (by decide)).1
  have hA : (w7.alloc o).drew.heap[g]? = some (.cells #[v6, av] 30 (0, 0)) := (Below.heap_alloc w7 o g (by omega)).trans h2
  have h6 : w8.heap[g]? = some (.cells #[v6, av] 30 (0, 0)) := (hgr8.block g (by omega) hgne).trans hA
  have hd8 : w8.ownsRow B 33 4 v6 (ds.length + 1) (clsCells (ds ++ [c])) := by
    refine (hd.alloc o).drew.kept hgr8 ?_
    rcases hv : v6.ownBlock with _ | k
    · exact .inl rfl
    · exact .inr (own_rowless hd ha (by decide) k hv)
  have el : (ds ++ [c]).length = ds.length + 1 := by simp
  refine ⟨?_, ⟨?_, ?_⟩, ⟨hg1, ?_, ?_, ?_⟩, hN, ask_row (w4 := w7) (o := o) s1 hat⟩
  · refine Below.setCell (Below.grown (Below.drew (Below.alloc hB (by omega) o)) hgr8 (by omega) (fun k hk => (hav k hk).1)) (by exact hg1) _
  · show w.heap.size ≤ w9.heap.size
    have : w9.heap.size = w8.heap.size := by simp [w9, World.setCell]
    omega
  · intro i hi e1 e2 e3
    show w9.heap[i]? = _
    rw [Below.heap_setCell _ _ _ _ (by exact e1), hgr8.block i (by omega) e3]
    have e4 : (w7.alloc o).drew.heap[i]? = w7.heap[i]? := Below.heap_alloc w7 o i (by omega)
    rw [e4, hK.2 i hi e1 e2 e3]
  · simp [w9, v8, World.setCell, Array.getElem?_modify, h6]
  · rw [el]
    exact ownsRow_setCell_other hd8 (fun e => (own_blocks hd8 h6 (by decide)).1 e.symm) _
  · rw [el, ansOf_snoc]
    have e5 : strs (ansOf ds ++ [ans c ds.length]) = strs (ansOf ds) ++ [.string (ans c ds.length)] := by simp [strs]
    rw [e5]
    exact ownsRow_setCell_other hown8 (fun e => (own_blocks hown8 h6 (by decide)).1 e.symm) _

theorem one_str (a : ByteArray) : ∀ u ∈ [Value.string a], u.oneCell' = true := by
  intro u hu
  simp only [List.mem_singleton] at hu
  subst hu
  rfl
theorem own_some {w : World} {B n : Nat} {e : TypeId} {size : Nat} {v : Value} {xs : List Value} (h : w.ownsRow B e size v (n + 1) xs) : ∃ g cap, v = .slice (some ⟨g, 0, none⟩) (n + 1) cap := by
  rcases h.2 with ⟨_, h0⟩ | ⟨g, cap, cur, rfl, _⟩
  · omega
  · exact ⟨g, cap, rfl⟩
theorem r_end {B g g8 cap8 : Nat} {w w7 w8 : World} {dv av v6 : Value} {ds : List Cl} {c : Cl} {o : Obj} (hg0 : g < w.heap.size) (h0 : RSvc B w g dv av ds) (hav : ∀ k, av.ownBlock = some k → k < w.heap.size ∧ B ≤ k)
    (h : w7.heap[g]? = some (.cells #[v6, av] 30 (0, 0)) ∧ w7.ownsRow B 33 4 v6 (ds.length + 1) (clsCells (ds ++ [c])) ∧ w7.ownsRow B 9 1 av ds.length (strs (ansOf ds)) ∧ Below B w w7 ∧ KeepR w w7 g dv av ∧ NewRow w dv v6)
    (hown8 : w8.ownsRow B 9 1 (.slice (some ⟨g8, 0, none⟩) (ds.length + 1) cap8) (ds.length + 1) (strs (ansOf ds) ++ [.string (ans c ds.length)])) (hgr8 : (w7.alloc o).grownBy w8 av.ownBlock)
    (hat : (Value.slice (some ⟨g8, 0, none⟩) (ds.length + 1) cap8).ownBlock = av.ownBlock ∨ (Value.slice (some ⟨g8, 0, none⟩) (ds.length + 1) cap8).ownBlock = some (w7.alloc o).heap.size) :
    let w9 := w8.setCell ⟨g, 1, none⟩ (.slice (some ⟨g8, 0, none⟩) (ds.length + 1) cap8)
    Below B w w9 ∧ KeepR w w9 g dv av ∧ ∃ dv' av', RSvc B w9 g dv' av' (ds ++ [c]) ∧ NewRow w dv dv' ∧ NewRow w av av' := by
  intro w9
  have hat' : av.ownBlock = some g8 ∨ g8 = (w7.alloc o).drew.heap.size := by
    simp only [Value.ownBlock] at hat
    rcases hat with hat | hat
    · exact .inl hat.symm
    · right; injection hat
  have hs := r_second h0.1 hg0 (fun k hk => ⟨(hav k hk).2, (hav k hk).1⟩) h hown8 ⟨hgr8.os, hgr8.tape, hgr8.output, hgr8.size, hgr8.block⟩ hat'
  exact ⟨hs.1, hs.2.1, _, _, hs.2.2.1, hs.2.2.2.1, hs.2.2.2.2⟩

set_option maxHeartbeats 8000000 in
theorem rask_any (B : Nat) (w : World) (g : Nat) (dv av : Value) (ds : List Cl) (h : RSvc B w g dv av ds) (hu : Uniq ds) (c : Cl) (hp : c.port.size ≤ 300) (hx : c.text.size ≤ 300) (hn : ds.length ≤ 1000) (ht : Tab w) :
    Calls Tryd.prog 10 #[.pointer (some ⟨g, 0, none⟩), c.val] w (RPost B w g dv av (askS ds c).1 (askS ds c).2) := by
  have hB := WB_below w c
  have hg0 : g < w.heap.size := lt_of_block h.2.1
  have hBw : B ≤ w.heap.size := Nat.le_trans h.1 (Nat.le_of_lt hg0)
  obtain ⟨A, cap, rfl⟩ := own_form h.2.2.1
  obtain ⟨A2, cap2, rfl⟩ := own_form h.2.2.2
  have HR := Lib.hid (rdC_of_own h.2.2.1)
  have HS := Lib.hid (rdS_of_own h.2.2.2)
  have HH := Lib.hid h
  clear h
  unfold Cl.val
  go_enter Tryd.func10, Tryd.ntmps10
  go_wp2_with fail
  go_loopw [5] (fun i wr => ∃ k : Nat, k ≤ ds.length ∧ i = .int .i64 k ∧ Hid (∀ d ∈ ds.take k, ¬ sameId d c.ev c.n) ∧ Below (WB w c).heap.size (WB w c) wr) (fun i _ => ds.length - (intOf i).toNat)
  case atStart => exact ⟨0, Nat.zero_le _, rfl, Lib.hid (by simp), Below.refl _ _⟩
  case round =>
    obtain ⟨k, hk, rfl, hno, hBr⟩ := hrel
    have hBw' : Below w.heap.size w wr := hB.trans (hBr.mono (by rw [WB_size]; omega))
    have hR := HH.out.below hBw'
    have kg0 := cell_of_row _ g 0 _ 30 (0, 0) hR.2.1
    have kg1 := cell_of_row _ g 1 _ 30 (0, 0) hR.2.1
    have hcc : wr.heap[w.heap.size]? = some (.cells #[.int .i64 c.ev, .int .i64 c.n, .string c.port, .string c.text] 33 (0, 0)) := (hBr.block _ (by rw [WB_size]; omega)).trans (WB_c w c)
    by_cases hlt : k < ds.length
    · obtain ⟨d, hd⟩ : ∃ d, ds[k]? = some d := ⟨ds[k], List.getElem?_eq_getElem hlt⟩
      obtain ⟨ad, hA, i0, i1, _, _⟩ := (HR.out.below hBw') k d hd
      obtain ⟨asl, hAs, sa⟩ := (HS.out.below hBw') k _ (ansOf_at hd)
      have b0 := cell_of_row _ _ 0 _ 33 (0, 0) hcc
      have b1 := cell_of_row _ _ 1 _ 33 (0, 0) hcc
      have HD := Lib.hid hd
      have HBr := Lib.hid hBr
      have HBw := Lib.hid hBw'
      clear hd hBr hBw' hR hcc
      subst hA hAs
      by_cases hev : d.ev = c.ev
      · by_cases hnn : d.n = c.n
        · have e1 : (d.ev == c.ev) = true := by simp [hev]
          have e2 : (d.n == c.n) = true := by simp [hnn]
          have hl : Hid (lookA ds c.ev c.n = some (ans d k)) := Lib.hid (look_at hu HD.out ⟨hev, hnn⟩)
          clear hev hnn
          go_wp2_with fail
          go_quiet (fail)
          go_wp2_with fail
          go_ret
          have hS := ask_again ds c _ hl.out
          rw [hS]
          exact ⟨rfl, below_drewN (HBw.out.mono hBw) _, KeepR.of_below (below_drewN HBw.out _), _, _, HH.out.below (below_drewN HBw.out _), fun _ h => .inl h, fun _ h => .inl h⟩
        · have e1 : (d.ev == c.ev) = true := by simp [hev]
          have e2 : (d.n == c.n) = false := by simp [hnn]
          have hns : Hid (¬ sameId d c.ev c.n) := Lib.hid (fun hh => hnn hh.2)
          clear hev hnn
          go_wp2_with fail
          go_quiet (fail)
          go_wp2_with fail
          go_roundw
          case rel => exact ⟨k + 1, by omega, by go_num, Lib.hid (no_step hno.out HD.out hns.out), below_drewN HBr.out _⟩
          case measure => simp [intOf]; omega
      · have e1 : (d.ev == c.ev) = false := by simp [hev]
        have hns : Hid (¬ sameId d c.ev c.n) := Lib.hid (fun hh => hev hh.1)
        clear hev
        go_wp2_with fail
        go_quiet (fail)
        go_wp2_with fail
        go_roundw
        case rel => exact ⟨k + 1, by omega, by go_num, Lib.hid (no_step hno.out HD.out hns.out), below_drewN HBr.out _⟩
        case measure => simp [intOf]; omega
    · obtain rfl : k = ds.length := by omega
      rw [List.take_length] at hno
      have hl : lookA ds c.ev c.n = none := (lookA_none ds _ _).2 hno.out
      have hS : askS ds c = (ans c ds.length, ds ++ [c]) := by simp [askS, hl]
      have HSS := Lib.hid hS
      have ht6 : Tab wr.drew := (ht.below hBw').below (Below.refl _ _).drew
      have hs6 : S5 w g (.slice A ds.length cap) c wr.drew ∨ True := .inr trivial
      have b0 := cell_of_row _ _ 0 _ 33 (0, 0) hcc
      have b1 := cell_of_row _ _ 1 _ 33 (0, 0) hcc
      have b2 := cell_of_row _ _ 2 _ 33 (0, 0) hcc
      have b3 := cell_of_row _ _ 3 _ 33 (0, 0) hcc
      have hst6 := Lib.hid (And.intro (show wr.drew.cell? ⟨g, 0, none⟩ = some (.slice A ds.length cap) from kg0) (And.intro (show wr.drew.cell? ⟨w.heap.size, 0, none⟩ = some (.int .i64 c.ev) from b0) (And.intro (show wr.drew.cell? ⟨w.heap.size, 1, none⟩ = some (.int .i64 c.n) from b1) (And.intro (show wr.drew.cell? ⟨w.heap.size, 2, none⟩ = some (.string c.port) from b2) (show wr.drew.cell? ⟨w.heap.size, 3, none⟩ = some (.string c.text) from b3)))))
      have HBw := Lib.hid hBw'
      have HCC := Lib.hid hcc
      have HRR := Lib.hid hR
      clear hno hl hS hs6 hBr hBw' hR kg1 hcc b0 b1 b2 b3 hlt hk
      obtain ⟨wx, rfl⟩ : ∃ wx : World, wx = wr := ⟨_, rfl⟩
      go_wp2_with fail
      clear kg0
      go_region_held3 (fun w' => w'.cell? ⟨g, 0, none⟩ = some (.slice A ds.length cap) ∧ w'.cell? ⟨w.heap.size, 0, none⟩ = some (.int .i64 c.ev) ∧ w'.cell? ⟨w.heap.size, 1, none⟩ = some (.int .i64 c.n) ∧ w'.cell? ⟨w.heap.size, 2, none⟩ = some (.string c.port) ∧ w'.cell? ⟨w.heap.size, 3, none⟩ = some (.string c.text))
        (first | exact hst6.out | exact keep5 hst6.out (by assumption))
        (first | (go_at_call 12; refine (refAnswer_any c ds.length (by omega) (by omega) hp hx _ ht6).mono ?_; rintro e w3 ⟨rfl, hb3⟩))
      go_wp2_with fail
      obtain ⟨i0, hi, hz0, hz1, hz2⟩ := info_parts info33
      obtain ⟨j0, ji, jz0, jz1, jz2⟩ := info_parts info9
      have hb3' : Below wx.heap.size wx w3 := Below.trans (Below.refl wx.heap.size wx).drew hb3
      have h3 := HRR.out.below hb3'
      have hBB : Below w.heap.size w w3 := HBw.out.trans (hb3'.mono HBw.out.size)
      have hcc3 : w3.heap[w.heap.size]? = some (.cells #[.int .i64 c.ev, .int .i64 c.n, .string c.port, .string c.text] 33 (0, 0)) := (hb3'.block _ (lt_of_block HCC.out)).trans HCC.out
      have hg3 : g < w3.heap.size := lt_of_block h3.2.1
      have kg := cell_of_row _ g 0 _ 30 (0, 0) h3.2.1
      have fg : w3.frozen? ⟨g, 0, none⟩ = false := by simp [World.frozen?, h3.2.1]
      have k0 := cell_of_row _ _ 0 _ 33 (0, 0) hcc3
      have k1 := cell_of_row _ _ 1 _ 33 (0, 0) hcc3
      have k2 := cell_of_row _ _ 2 _ 33 (0, 0) hcc3
      have k3 := cell_of_row _ _ 3 _ 33 (0, 0) hcc3
      have hrow := Lib.hid (h3.2.2.1.alloc (.cells #[.int .i64 c.ev, .int .i64 c.n, .string c.port, .string c.text] 33)).drew
      have hsA : (w3.alloc (.cells #[.int .i64 c.ev, .int .i64 c.n, .string c.port, .string c.text] 33)).drew.heap.size = w3.heap.size + 1 := World.size_alloc _ _
      have hgA := Lib.hid (show g < (w3.alloc (.cells #[.int .i64 c.ev, .int .i64 c.n, .string c.port, .string c.text] 33)).drew.heap.size by rw [hsA]; omega)
      have hbase := Lib.hid (show B ≤ (w3.alloc (.cells #[.int .i64 c.ev, .int .i64 c.n, .string c.port, .string c.text] 33)).drew.heap.size by have := h3.1; rw [hsA]; omega)
      have hnews : Hid (∀ (j : Nat) (u : Value), c.cells[j]? = some u → (w3.alloc (.cells #[.int .i64 c.ev, .int .i64 c.n, .string c.port, .string c.text] 33)).drew.cell? ((⟨w3.heap.size, 0, none⟩ : Addr).add j) = some u) :=
        Lib.hid (World.news_of_block (heap_alloc_new w3 (.cells #[.int .i64 c.ev, .int .i64 c.n, .string c.port, .string c.text] 33)))
      have hone := Lib.hid (cells_one c)
      have hmax := Lib.hid (show ds.length + 1 ≤ maxLen by simp only [maxLen]; omega)
      have hby : (ds.length + 1) * 48 ≤ 140737488355328 := by omega
      have hby2 : (ds.length + 1) * 16 ≤ 140737488355328 := by omega
      have hob := Lib.hid (own_blocks HH.out.2.2.1 HH.out.2.1 (by decide))
      have hob2 := Lib.hid (own_blocks HH.out.2.2.2 HH.out.2.1 (by decide))
      have kgA : Hid ((w3.alloc (.cells #[.int .i64 c.ev, .int .i64 c.n, .string c.port, .string c.text] 33)).drew.cell? ⟨g, 0, none⟩ = some (.slice A ds.length cap)) := Lib.hid ((World.cell?_alloc_past _ _ _ hg3).trans kg)
      have fgA : Hid ((w3.alloc (.cells #[.int .i64 c.ev, .int .i64 c.n, .string c.port, .string c.text] 33)).drew.frozen? ⟨g, 0, none⟩ = false) := Lib.hid ((World.frozen?_alloc_past _ _ _ hg3).trans fg)
      have H3 := Lib.hid h3
      have HBB := Lib.hid hBB
      clear hsA h3 hBB hcc3 hb3 hb3' hst6
      go_region_law ((refine step_append_lies _ rfl (.tmp 58) (.tmp 60) 22 rfl B 33 i0 (.agg #[.int .i64 0, .int .i64 0, .string ⟨#[]⟩, .string ⟨#[]⟩]) 4 48 Tryd.underlying22 hi hz0 hz1 hz2 rfl (by decide) (.slice A ds.length cap) ds.length (clsCells ds) ?_ hrow.out ⟨w3.heap.size, 0, none⟩ 1 1 c.cells ?_ rfl hnews.out hone.out Nat.one_pos hmax.out hby hbase.out _ rfl ?_); (next => simp [Act.eval]); (next => simp [Act.eval]); intro g6 cap6 w6 hown6 hgr6 hat6 hlt6; have k6 := (hgr6.cell_far ⟨g, 0, none⟩ hgA.out hob.out.1).trans kgA.out; have f6 := (hgr6.frozen_far ⟨g, 0, none⟩ hgA.out hob.out.1).trans fgA.out)
      all_goals
        have hr1 := r_first hg0 H3.out HBB.out (fun k hk => ⟨(hob.out.2 k hk).2, (hob.out.2 k hk).1⟩) hown6 hgr6 hat6
        clear hown6 hgr6 hat6 hlt6 k6 f6
        obtain ⟨w7, hw7⟩ : ∃ w7 : World, w6.setCell ⟨g, 0, none⟩ (.slice (some ⟨g6, 0, none⟩) (ds.length + 1) cap6) = w7 := ⟨_, rfl⟩
        obtain ⟨v6, hv6⟩ : ∃ v6 : Value, (Value.slice (some ⟨g6, 0, none⟩) (ds.length + 1) cap6) = v6 := ⟨_, rfl⟩
        simp only at hr1
        rw [hw7] at hr1 ⊢
        rw [hv6] at hr1
        have kg7 := cell_of_row _ g 1 _ 30 (0, 0) hr1.1
        have fg7 : w7.frozen? ⟨g, 1, none⟩ = false := by simp [World.frozen?, hr1.1]
        have hg7 : g < w7.heap.size := lt_of_block hr1.1
        have hrow7 := Lib.hid (hr1.2.2.1.alloc (.cells #[.string (ans c ds.length)] 9))
        have hbase7 : B ≤ (w7.alloc (.cells #[.string (ans c ds.length)] 9)).heap.size := by have := H3.out.1; rw [World.size_alloc]; omega
        have kgB : Hid ((w7.alloc (.cells #[.string (ans c ds.length)] 9)).cell? ⟨g, 1, none⟩ = some (.slice A2 ds.length cap2)) := Lib.hid ((World.cell?_alloc_past _ _ _ hg7).trans kg7)
        have fgB : Hid ((w7.alloc (.cells #[.string (ans c ds.length)] 9)).frozen? ⟨g, 1, none⟩ = false) := Lib.hid ((World.frozen?_alloc_past _ _ _ hg7).trans fg7)
        have hgB := Lib.hid (show g < (w7.alloc (.cells #[.string (ans c ds.length)] 9)).heap.size by rw [World.size_alloc]; omega)
        have HR1 := Lib.hid hr1
        clear hr1 hw7 hv6
        go_wp2_with (at_builtin; refine wpList_append_own_at _ rfl (.tmp 68) (.tmp 70) 28 rfl B 9 j0 (.string ⟨#[]⟩) 1 16 Tryd.underlying28 ji jz0 jz1 jz2 rfl (by decide) (.slice A2 ds.length cap2) ds.length (strs (ansOf ds)) rfl hrow7.out ⟨w7.heap.size, 0, none⟩ 1 1 [.string (ans c ds.length)] rfl rfl (World.news_of_block (heap_alloc_new w7 _)) (one_str _) hmax.out hby2 hbase7 ?_; intro v8 w8 hown8 hgr8 _ hat8; obtain ⟨g8, cap8, rfl⟩ := own_some hown8; have k8 := (hgr8.cell_far ⟨g, 1, none⟩ hgB.out hob2.out.1).trans kgB.out; have f8 := (hgr8.frozen_far ⟨g, 1, none⟩ hgB.out hob2.out.1).trans fgB.out)
        go_ret
        rw [HSS.out]
        exact ⟨rfl, r_end hg0 HH.out (hob2.out.2) HR1.out hown8 hgr8 hat8⟩
end Go.Proofs.YtgcnmiaahkmmeaaDoor
