/- (*Service).Ask at an id that was asked returns what that id got and changes nothing; at a new one it answers, and the call is done: in every memory that holds a service whose calls' numbers are ints, at most 1000 of them, port and text of at most 300 bytes, strconv's table in memory. -/
import Derived.Test.YtgcnmiaahkmmeaaDoorC
import Derived.Deep.RegionLaw
import Derived.Deep.AppendLies
import Derived.Deep.DeepMust
namespace Go.Proofs.YtgcnmiaahkmmeaaDoor
open Go.RowKit Go.Maps

/-- A service in memory: its struct in block g, its map in block b, its row v; what it did: ds. -/
def Svc (B : Nat) (w : World) (g b : Nat) (v : Value) (ds : List Cl) : Prop :=
  B ≤ g ∧ B ≤ b ∧ w.heap[g]? = some (.cells #[.map (some b), v] 44 (0, 0)) ∧ w.ownsMap Tryd.prog 46 (plainElem Tryd.prog 9) b ds.length (mapOf ds) ∧
    w.ownsRow B 33 4 v ds.length (clsCells ds)

theorem Svc.glt {B : Nat} {w : World} {g b : Nat} {v : Value} {ds : List Cl} (h : Svc B w g b v ds) : g < w.heap.size := lt_of_block h.2.2.1
/-- What is read of the service survives whatever leaves what was there as it was. -/
theorem Svc.below {B : Nat} {w w' : World} {g b : Nat} {v : Value} {ds : List Cl} (h : Svc B w g b v ds) (hb : Below w.heap.size w w') : Svc B w' g b v ds := by
  obtain ⟨h1, h2, h3, h4, h5⟩ := h
  have hg : w.grownBy w' none := ⟨hb.os, hb.tape, hb.output, hb.size, fun i hi _ => hb.block i hi⟩
  refine ⟨h1, h2, (hb.block g (lt_of_block h3)).trans h3, h4.kept hg (by simp), h5.kept hg ?_⟩
  cases v.ownBlock <;> simp

/-- The look-up of a call's id. -/
theorem look_c {B : Nat} {w : World} {g b : Nat} {v : Value} {ds : List Cl} (h : Svc B w g b v ds) (hok : ∀ c ∈ ds, c.ok) {c : Cl} (hc : c.ok) :
    ∃ s, (Instr.lookup 42 (.map (some b)) (.agg #[.int .i64 c.ev, .int .i64 c.n]) true).run Tryd.prog w = .ok (.tuple #[.string s, .bool (lookA ds c.ev c.n).isSome]) w ∧
      ∀ a, lookA ds c.ev c.n = some a → s = a := by
  have he := wf64 hc.1 hc.2.1
  have hn := wf64 hc.2.2.1 hc.2.2.2
  obtain ⟨x, ps, hrun, hx⟩ := h.2.2.2.1.look_ok law46 Tryd.underlying42 (zero9 w) (plainElem_string Tryd.underlying9 (s := ⟨#[]⟩) (by decide)) (key46 he hn)
  obtain ⟨s, rfl, hs, _⟩ := plainElem_string_inv Tryd.underlying9 hx
  refine ⟨s, by rw [hrun, mapOf_has ds hok _ _ he hn], fun a ha => ?_⟩
  rw [mapOf_at ds hok _ _ he hn, ha] at hs
  have h1 : (DataW.lit (.string a.data.toList) : DataW Unit) = .lit (.string s.data.toList) := congrArg Prod.fst hs
  injection h1 with h1
  injection h1 with h1
  cases s; cases a
  simp only [ByteArray.mk.injEq]
  exact (Array.toList_inj.1 h1).symm

/-- Behind Ask's first lines: the call in a block, its id in another. -/
def W2 (w : World) (c : Cl) : World := (w.alloc (.cells #[.int .i64 c.ev, .int .i64 c.n, .string c.port, .string c.text] 33)).alloc (.cells #[.int .i64 c.ev, .int .i64 c.n] 46)
theorem W2_size (w : World) (c : Cl) : (W2 w c).heap.size = w.heap.size + 2 := by simp [W2]
theorem W2_below (w : World) (c : Cl) : Below w.heap.size w (W2 w c) := ((Below.refl _ _).alloc (Nat.le_refl _) _).alloc (by simp) _
theorem W2_c (w : World) (c : Cl) : (W2 w c).heap[w.heap.size]? = some (.cells #[.int .i64 c.ev, .int .i64 c.n, .string c.port, .string c.text] 33 (0, 0)) :=
  (Below.heap_alloc _ _ _ (by simp)).trans (heap_alloc_new w _)
theorem W2_id (w : World) (c : Cl) : (W2 w c).heap[w.heap.size + 1]? = some (.cells #[.int .i64 c.ev, .int .i64 c.n] 46 (0, 0)) := by
  have := heap_alloc_new (w.alloc (.cells #[.int .i64 c.ev, .int .i64 c.n, .string c.port, .string c.text] 33)) (.cells #[.int .i64 c.ev, .int .i64 c.n] 46)
  rwa [World.size_alloc] at this
/-- What the look-up's line reads. -/
theorem look2 {B : Nat} {w : World} {g b : Nat} {v : Value} {ds : List Cl} (h : Svc B w g b v ds) (hok : ∀ c ∈ ds, c.ok) {c : Cl} (hc : c.ok) :
    ∃ s, ((W2 w c).drew.cell? ⟨g, 0, none⟩ = some (.map (some b)) ∧ (W2 w c).drew.cell? ⟨w.heap.size + 1, 0, none⟩ = some (.int .i64 c.ev) ∧ (W2 w c).drew.cell? ⟨w.heap.size + 1, 1, none⟩ = some (.int .i64 c.n) ∧
      (Instr.lookup 42 (.map (some b)) (.agg #[.int .i64 c.ev, .int .i64 c.n]) true).run Tryd.prog (W2 w c).drew = .ok (.tuple #[.string s, .bool (lookA ds c.ev c.n).isSome]) (W2 w c).drew) ∧
      ∀ a, lookA ds c.ev c.n = some a → s = a := by
  have h2 : Svc B (W2 w c).drew g b v ds := h.below (Below.mono (W2_below w c).drew (Nat.le_refl _))
  obtain ⟨s, hs, ha⟩ := look_c h2 hok hc
  exact ⟨s, ⟨cell_of_row _ g 0 _ 44 (0, 0) h2.2.2.1, cell_of_row _ _ 0 _ 46 (0, 0) (W2_id w c), cell_of_row _ _ 1 _ 46 (0, 0) (W2_id w c), hs⟩, ha⟩

set_option maxHeartbeats 2000000 in
theorem ask_found (B : Nat) (w : World) (g b : Nat) (v : Value) (ds : List Cl) (h : Svc B w g b v ds) (hok : ∀ c ∈ ds, c.ok) (c : Cl) (hc : c.ok) (a : ByteArray) (hl : lookA ds c.ev c.n = some a) :
    Calls Tryd.prog 9 #[.pointer (some ⟨g, 0, none⟩), c.val] w fun e w' => e = .returned (.string a) ∧ Below w.heap.size w w' := by
  have hB := W2_below w c
  obtain ⟨s, hs, ha⟩ := look2 h hok hc
  obtain rfl := ha a hl
  rw [hl] at hs
  have hst := Lib.hid hs
  clear hs ha hl h
  unfold Cl.val
  go_enter Tryd.func9, Tryd.ntmps9
  go_wp2_with fail
  go_region_held3 (fun w' => w'.cell? ⟨g, 0, none⟩ = some (.map (some b)) ∧ w'.cell? ⟨w.heap.size + 1, 0, none⟩ = some (.int .i64 c.ev) ∧ w'.cell? ⟨w.heap.size + 1, 1, none⟩ = some (.int .i64 c.n) ∧
      (Instr.lookup 42 (.map (some b)) (.agg #[.int .i64 c.ev, .int .i64 c.n]) true).run Tryd.prog w' = .ok (.tuple #[.string s, .bool true]) w')
    (first | exact hst.out | assumption) (fail)
  go_wp2_with fail
  go_ret
  exact ⟨rfl, Below.mono hB.drew (Nat.le_refl _)⟩

theorem info33 : (Tryd.prog.info? 33).map (fun i => (i.zero, i.size, i.bytes)) = some (some (.agg #[.int .i64 0, .int .i64 0, .string ⟨#[]⟩, .string ⟨#[]⟩]), 4, 48) := by kernel_rfl
theorem own_form {w : World} {B : Nat} {e : TypeId} {size n : Nat} {v : Value} {xs : List Value} (h : w.ownsRow B e size v n xs) : ∃ A cap, v = .slice A n cap := by
  rcases h.2 with ⟨rfl, rfl⟩ | ⟨g, cap, cur, rfl, _⟩
  · exact ⟨none, 0, rfl⟩
  · exact ⟨_, _, rfl⟩
theorem clsCells_snoc (ds : List Cl) (c : Cl) : clsCells (ds ++ [c]) = clsCells ds ++ c.cells := by simp [clsCells]

theorem cells_one (c : Cl) : ∀ u ∈ c.cells, u.oneCell' = true := by
  intro u hu
  simp only [Cl.cells, List.mem_cons, List.not_mem_nil, or_false] at hu
  rcases hu with rfl | rfl | rfl | rfl <;> rfl
/-- A row of other elements is none of the blocks; it lies below the heap's end. -/
theorem own_blocks {w : World} {B : Nat} {e t : TypeId} {size n g : Nat} {v : Value} {xs : List Value} {cs : Array Value} (h : w.ownsRow B e size v n xs) (hg : w.heap[g]? = some (.cells cs t (0, 0))) (hne : e ≠ t) :
    some g ≠ v.ownBlock ∧ ∀ k, v.ownBlock = some k → k < w.heap.size ∧ B ≤ k := by
  rcases h.2 with ⟨rfl, _⟩ | ⟨g', cap, cur, rfl, hb, hh, _⟩
  · simp [Value.ownBlock]
  · refine ⟨fun e' => ?_, fun k hk => ?_⟩
    · simp only [Value.ownBlock] at e'
      injection e' with e'
      subst e'
      rw [hh] at hg
      injection hg with hg
      injection hg with _ ht
      exact hne ht
    · simp only [Value.ownBlock] at hk
      injection hk with hk
      subst hk
      exact ⟨lt_of_block hh, hb⟩

/-- What the line of the answer reads. -/
def S5 (w0 : World) (g : Nat) (v : Value) (c : Cl) (w' : World) : Prop :=
  w'.cell? ⟨g, 1, none⟩ = some v ∧ w'.cell? ⟨w0.heap.size, 0, none⟩ = some (.int .i64 c.ev) ∧ w'.cell? ⟨w0.heap.size, 1, none⟩ = some (.int .i64 c.n) ∧
    w'.cell? ⟨w0.heap.size, 2, none⟩ = some (.string c.port) ∧ w'.cell? ⟨w0.heap.size, 3, none⟩ = some (.string c.text)
theorem S5.below {w0 w1 w2 : World} {g : Nat} {v : Value} {c : Cl} (h : S5 w0 g v c w1) (hb : Below w1.heap.size w1 w2) : S5 w0 g v c w2 := by
  obtain ⟨a, b, d, e, f⟩ := h
  have k : ∀ {p : Addr} {x : Value}, w1.cell? p = some x → w2.cell? p = some x := fun {p x} hx => (hb.cell (World.block_lt_of_cell? w1 p hx)).trans hx
  exact ⟨k a, k b, k d, k e, k f⟩

theorem ans_size (c : Cl) (k : Int) : (ans c k).size ≤ 64 := by
  unfold ans
  simp
  omega
/-- What the map's store reads, and what it leaves. -/
def S6 (w0 : World) (g b : Nat) (c : Cl) (w' : World) : Prop :=
  w'.cell? ⟨g, 0, none⟩ = some (.map (some b)) ∧ w'.cell? ⟨w0.heap.size + 1, 0, none⟩ = some (.int .i64 c.ev) ∧ w'.cell? ⟨w0.heap.size + 1, 1, none⟩ = some (.int .i64 c.n)
/-- The service behind the map's store: its row is to grow yet. -/
def Mid (B : Nat) (w : World) (g b : Nat) (v : Value) (ds : List Cl) (c : Cl) : Prop :=
  B ≤ g ∧ B ≤ b ∧ w.heap[g]? = some (.cells #[.map (some b), v] 44 (0, 0)) ∧ w.ownsMap Tryd.prog 46 (plainElem Tryd.prog 9) b (ds.length + 1) (mapOf (ds ++ [c])) ∧
    w.ownsRow B 33 4 v ds.length (clsCells ds)
theorem store_c {B : Nat} {w : World} {g b : Nat} {v : Value} {ds : List Cl} (h : Svc B w g b v ds) {c : Cl} (hc : c.ok) (hn : ds.length ≤ 1000) :
    ∃ w', (Instr.mapUpdate 42 (.map (some b)) (.agg #[.int .i64 c.ev, .int .i64 c.n]) (.string (ans c ds.length))).run Tryd.prog w = .ok () w' ∧ Mid B w' g b v ds c ∧ w.grownBy w' (some b) ∧
      (∀ (i : Nat) (t : TypeId) (cs : Array Value), w.heap[i]? = some (.cells cs t (0, 0)) → w'.heap[i]? = some (.cells cs t (0, 0))) ∧ w'.heap.size = w.heap.size := by
  obtain ⟨h1, h2, h3, h4, h5⟩ := h
  have hsz := ans_size c ds.length
  obtain ⟨w', hrun, hm, ht⟩ := h4.store law46 Tryd.underlying42 (by simp only [maxLen]; omega) (key46 (wf64 hc.1 hc.2.1) (wf64 hc.2.2.1 hc.2.2.2)) (plainElem_string Tryd.underlying9 (s := ans c ds.length) (by simp only [maxLen]; omega))
  have hg := ht.grown
  have hne : ∀ (i : Nat) (t : TypeId) (cs : Array Value), w.heap[i]? = some (.cells cs t (0, 0)) → i ≠ b := by
    rintro i t cs hi rfl
    obtain ⟨es, clock, hb, _⟩ := h4
    rw [hb] at hi
    cases hi
  have hcell : ∀ (i : Nat) (t : TypeId) (cs : Array Value), w.heap[i]? = some (.cells cs t (0, 0)) → w'.heap[i]? = some (.cells cs t (0, 0)) := fun i t cs hi => (hg.block i (lt_of_block hi) (fun e => hne i t cs hi (by injection e))).trans hi
  refine ⟨w', hrun, ⟨h1, h2, hcell g _ _ h3, by rw [mapOf_snoc]; exact hm, h5.kept hg ?_⟩, hg, hcell, ?_⟩
  · rcases h5.2 with ⟨rfl, _⟩ | ⟨g', cap, cur, rfl, _, hh, _⟩
    · simp [Value.ownBlock]
    · right
      intro e
      simp only [Value.ownBlock] at e
      injection e with e
      exact hne g' _ _ hh e
  · obtain ⟨es, clock, es', clock', _, rfl⟩ := ht
    simp [ChangeMaps.setBlock]

theorem ask_end {B g b cap6 g6 : Nat} {w w3 w4 w6 : World} {v : Value} {ds : List Cl} {c : Cl} {o : Obj} (hg0 : g < w.heap.size) (hmid : Mid B w4 g b v ds c) (hBB : Below w.heap.size w w3) (hg4 : w3.drew.grownBy w4 (some b))
    (hob : ∀ k, v.ownBlock = some k → k < w.heap.size ∧ B ≤ k)
    (hown6 : w6.ownsRow B 33 4 (.slice (some ⟨g6, 0, none⟩) (ds.length + 1) cap6) (ds.length + 1) (clsCells ds ++ c.cells)) (hgr6 : (w4.alloc o).drew.grownBy w6 v.ownBlock) :
    Below B w (w6.setCell ⟨g, 1, none⟩ (.slice (some ⟨g6, 0, none⟩) (ds.length + 1) cap6)) ∧ Svc B (w6.setCell ⟨g, 1, none⟩ (.slice (some ⟨g6, 0, none⟩) (ds.length + 1) cap6)) g b (.slice (some ⟨g6, 0, none⟩) (ds.length + 1) cap6) (ds ++ [c]) := by
  obtain ⟨h1, h2, h3, h4, h5⟩ := hmid
  have hsz : w.heap.size ≤ w3.heap.size := hBB.size
  have hsz4 : w3.heap.size ≤ w4.heap.size := hg4.size
  have hsA : (w4.alloc o).drew.heap.size = w4.heap.size + 1 := World.size_alloc w4 o
  have hg4' : g < w4.heap.size := lt_of_block h3
  have hgne : some g ≠ v.ownBlock := (own_blocks h5 h3 (by decide)).1
  have hbne : some b ≠ v.ownBlock := by
    obtain ⟨es, clock, hb, _⟩ := h4
    rcases h5.2 with ⟨rfl, _⟩ | ⟨g', cap, cur, rfl, _, hh, _⟩
    · simp [Value.ownBlock]
    · intro e
      simp only [Value.ownBlock] at e
      injection e with e
      subst e
      rw [hh] at hb
      cases hb
  have hgb : b ≠ g := by
    obtain ⟨es, clock, hb, _⟩ := h4
    rintro rfl
    rw [h3] at hb
    cases hb
  have hA3 : (w4.alloc o).drew.heap[g]? = some (.cells #[.map (some b), v] 44 (0, 0)) := (Below.heap_alloc w4 o g hg4').trans h3
  have h63 : w6.heap[g]? = some (.cells #[.map (some b), v] 44 (0, 0)) := (hgr6.block g (by rw [hsA]; omega) hgne).trans hA3
  have h64 : w6.ownsMap Tryd.prog 46 (plainElem Tryd.prog 9) b (ds.length + 1) (mapOf (ds ++ [c])) := (h4.alloc o).drew.kept hgr6 hbne
  refine ⟨?_, h1, h2, ?_, ?_, ?_⟩
  · refine Below.setCell (Below.grown (Below.drew (Below.alloc (Below.grown (Below.drew (hBB.mono (by omega))) hg4 (by show B ≤ w3.heap.size; omega) (fun k hk => by cases hk; exact h2)) (by omega) o)) hgr6 (by rw [hsA]; omega) (fun k hk => (hob k hk).2)) (by exact h1) _
  · simp [World.setCell, Array.getElem?_modify, h63]
  · simpa using h64.setCell (a := ⟨g, 1, none⟩) hgb _
  · have e : (ds ++ [c]).length = ds.length + 1 := by simp
    rw [e, clsCells_snoc]
    exact ownsRow_setCell_other hown6 (fun e => (own_blocks hown6 h63 (by decide)).1 e.symm) _

/-- All that lay there is as it was, but for the service's own three blocks. -/
def KeepSvc (w w' : World) (g b : Nat) (v : Value) : Prop := w.heap.size ≤ w'.heap.size ∧ ∀ i, i < w.heap.size → i ≠ g → i ≠ b → some i ≠ v.ownBlock → w'.heap[i]? = w.heap[i]?
theorem KeepSvc.of_below {w w' : World} {g b : Nat} {v : Value} (h : Below w.heap.size w w') : KeepSvc w w' g b v := ⟨h.size, fun i hi _ _ _ => h.block i hi⟩
theorem ask_keep {g b : Nat} {w w3 w4 w6 : World} {v u : Value} {o : Obj} (hBB : Below w.heap.size w w3) (hg4 : w3.drew.grownBy w4 (some b)) (hgr6 : (w4.alloc o).drew.grownBy w6 v.ownBlock) :
    KeepSvc w (w6.setCell ⟨g, 1, none⟩ u) g b v := by
  have s1 := hBB.size
  have s2 : w3.heap.size ≤ w4.heap.size := hg4.size
  have s3 : (w4.alloc o).drew.heap.size ≤ w6.heap.size := hgr6.size
  have s4 : (w4.alloc o).drew.heap.size = w4.heap.size + 1 := World.size_alloc w4 o
  have s5 : (w6.setCell ⟨g, 1, none⟩ u).heap.size = w6.heap.size := by simp [World.setCell]
  refine ⟨by omega, fun i hi h1 h2 h3 => ?_⟩
  rw [Below.heap_setCell _ _ _ _ (by exact h1), hgr6.block i (by omega) h3]
  have e1 : (w4.alloc o).drew.heap[i]? = w4.heap[i]? := Below.heap_alloc w4 o i (by omega)
  have e2 : w4.heap[i]? = w3.heap[i]? := hg4.block i (by show i < w3.heap.size; omega) (fun e => h2 (by injection e))
  rw [e1, e2, hBB.block i hi]

/-- A row is in its old block, or in a new one. -/
def NewRow (w : World) (v v' : Value) : Prop := ∀ k, v'.ownBlock = some k → v.ownBlock = some k ∨ w.heap.size ≤ k
theorem ask_row {w w4 : World} {v : Value} {o : Obj} {g6 n cap6 : Nat} (h : w.heap.size ≤ w4.heap.size) (hat : v.ownBlock = some g6 ∨ g6 = (w4.alloc o).drew.heap.size) : NewRow w v (.slice (some ⟨g6, 0, none⟩) n cap6) := by
  intro k hk
  simp only [Value.ownBlock] at hk
  injection hk with hk
  subst hk
  rcases hat with h1 | h1
  · exact .inl h1
  · right
    have : (w4.alloc o).drew.heap.size = w4.heap.size + 1 := World.size_alloc w4 o
    omega

set_option maxHeartbeats 4000000 in
theorem ask_new2 (B : Nat) (w : World) (g b : Nat) (v : Value) (ds : List Cl) (h : Svc B w g b v ds) (hok : ∀ c ∈ ds, c.ok) (c : Cl) (hc : c.ok) (hp : c.port.size ≤ 300) (hx : c.text.size ≤ 300) (hn : ds.length ≤ 1000) (ht : Tab w)
    (hl : lookA ds c.ev c.n = none) :
    Calls Tryd.prog 9 #[.pointer (some ⟨g, 0, none⟩), c.val] w fun e w' => e = .returned (.string (ans c ds.length)) ∧ Below B w w' ∧ KeepSvc w w' g b v ∧ ∃ v', Svc B w' g b v' (ds ++ [c]) ∧ NewRow w v v' := by
  have hB := W2_below w c
  obtain ⟨A, cap, rfl⟩ := own_form h.2.2.2.2
  obtain ⟨s, hs, ha⟩ := look2 h hok hc
  rw [hl] at hs
  have hst := Lib.hid hs
  have h2 : Svc B (W2 w c).drew.drew g b (.slice A ds.length cap) ds := h.below (Below.mono hB.drew.drew (Nat.le_refl _))
  have hs5 : S5 w g (.slice A ds.length cap) c (W2 w c).drew.drew := ⟨cell_of_row _ g 1 _ 44 (0, 0) h2.2.2.1, cell_of_row _ _ 0 _ 33 (0, 0) (W2_c w c), cell_of_row _ _ 1 _ 33 (0, 0) (W2_c w c), cell_of_row _ _ 2 _ 33 (0, 0) (W2_c w c), cell_of_row _ _ 3 _ 33 (0, 0) (W2_c w c)⟩
  have hst5 := Lib.hid hs5
  have ht5 : Tab (W2 w c).drew.drew := ht.below (Below.mono hB.drew.drew (Nat.le_refl _))
  clear hs ha hl hs5
  unfold Cl.val
  go_enter Tryd.func9, Tryd.ntmps9
  go_wp2_with fail
  go_region_held3 (fun w' => w'.cell? ⟨g, 0, none⟩ = some (.map (some b)) ∧ w'.cell? ⟨w.heap.size + 1, 0, none⟩ = some (.int .i64 c.ev) ∧ w'.cell? ⟨w.heap.size + 1, 1, none⟩ = some (.int .i64 c.n) ∧
      (Instr.lookup 42 (.map (some b)) (.agg #[.int .i64 c.ev, .int .i64 c.n]) true).run Tryd.prog w' = .ok (.tuple #[.string s, .bool false]) w')
    (first | exact hst.out | assumption) (fail)
  clear hst
  go_wp2_with fail
  go_region_held3 (fun w' => w'.cell? ⟨g, 1, none⟩ = some (.slice A ds.length cap) ∧ w'.cell? ⟨w.heap.size, 0, none⟩ = some (.int .i64 c.ev) ∧ w'.cell? ⟨w.heap.size, 1, none⟩ = some (.int .i64 c.n) ∧
    w'.cell? ⟨w.heap.size, 2, none⟩ = some (.string c.port) ∧ w'.cell? ⟨w.heap.size, 3, none⟩ = some (.string c.text))
    (first | exact hst5.out | exact hst5.out.below (by assumption))
    (first | (go_at_call 11; refine (answer_any c ds.length (by omega) (by omega) hp hx _ ht5).mono ?_; rintro e w3 ⟨rfl, hb3⟩))
  go_wp2_with fail
  have hb3' : Below (W2 w c).drew.drew.heap.size (W2 w c).drew.drew w3 := hb3
  have h3 : Svc B w3.drew g b (.slice A ds.length cap) ds := (h2.below hb3').below (Below.refl _ _).drew
  have hBB : Below w.heap.size w w3 := (Below.mono hB.drew.drew (Nat.le_refl _)).trans (hb3'.mono (by show _ ≤ (W2 w c).heap.size; rw [W2_size]; omega))
  have hcc : w3.drew.heap[w.heap.size]? = some (.cells #[.int .i64 c.ev, .int .i64 c.n, .string c.port, .string c.text] 33 (0, 0)) := (hb3'.block _ (by show _ < (W2 w c).heap.size; rw [W2_size]; omega)).trans (W2_c w c)
  have hid : w3.drew.heap[w.heap.size + 1]? = some (.cells #[.int .i64 c.ev, .int .i64 c.n] 46 (0, 0)) := (hb3'.block _ (by show _ < (W2 w c).heap.size; rw [W2_size]; omega)).trans (W2_id w c)
  obtain ⟨w4, hupd, hmid, hg4, hcells4, hsz4⟩ := store_c h3 hc hn
  have hs6 : S6 w g b c w3.drew := ⟨cell_of_row _ g 0 _ 44 (0, 0) h3.2.2.1, cell_of_row _ _ 0 _ 46 (0, 0) hid, cell_of_row _ _ 1 _ 46 (0, 0) hid⟩
  have hs6' : S6 w g b c w4 := ⟨cell_of_row _ g 0 _ 44 (0, 0) hmid.2.2.1, cell_of_row _ _ 0 _ 46 (0, 0) (hcells4 _ _ _ hid), cell_of_row _ _ 1 _ 46 (0, 0) (hcells4 _ _ _ hid)⟩
  have hst6 := Lib.hid hs6
  have hst6' := Lib.hid hs6'
  clear hs6 hs6' hst5 hb3
  go_region_held3 (fun w' => w'.cell? ⟨g, 0, none⟩ = some (.map (some b)) ∧ w'.cell? ⟨w.heap.size + 1, 0, none⟩ = some (.int .i64 c.ev) ∧ w'.cell? ⟨w.heap.size + 1, 1, none⟩ = some (.int .i64 c.n))
    (first | exact hst6.out | exact hst6'.out) (fail)
  have HZ4 := Lib.hid hsz4
  clear hst6 hst6' hupd hsz4
  go_wp2_with fail
  obtain ⟨i0, hi, hz0, hz1, hz2⟩ := info_parts info33
  have hg3 : g < w4.heap.size := lt_of_block hmid.2.2.1
  have hN4 : w.heap.size < w4.heap.size := lt_of_block (hcells4 _ _ _ hcc)
  have hrow := Lib.hid (hmid.2.2.2.2.alloc (.cells #[.int .i64 c.ev, .int .i64 c.n, .string c.port, .string c.text] 33)).drew
  have hgA := Lib.hid (show g < (w4.alloc (.cells #[.int .i64 c.ev, .int .i64 c.n, .string c.port, .string c.text] 33)).drew.heap.size by
    show g < (w4.alloc _).heap.size; rw [World.size_alloc]; omega)
  have kg := cell_of_row _ g 1 _ 44 (0, 0) hmid.2.2.1
  have fg : w4.frozen? ⟨g, 1, none⟩ = false := by simp [World.frozen?, hmid.2.2.1]
  have k0 := cell_of_row _ _ 0 _ 33 (0, 0) (hcells4 _ _ _ hcc)
  have k1 := cell_of_row _ _ 1 _ 33 (0, 0) (hcells4 _ _ _ hcc)
  have k2 := cell_of_row _ _ 2 _ 33 (0, 0) (hcells4 _ _ _ hcc)
  have k3 := cell_of_row _ _ 3 _ 33 (0, 0) (hcells4 _ _ _ hcc)
  have hnews : Hid (∀ (j : Nat) (u : Value), c.cells[j]? = some u → (w4.alloc (.cells #[.int .i64 c.ev, .int .i64 c.n, .string c.port, .string c.text] 33)).drew.cell? ((⟨w4.heap.size, 0, none⟩ : Addr).add j) = some u) :=
    Lib.hid (World.news_of_block (heap_alloc_new w4 (.cells #[.int .i64 c.ev, .int .i64 c.n, .string c.port, .string c.text] 33)))
  have hone := Lib.hid (cells_one c)
  have hmax := Lib.hid (show ds.length + 1 ≤ maxLen by simp only [maxLen]; omega)
  have hbase := Lib.hid (show B ≤ (w4.alloc (.cells #[.int .i64 c.ev, .int .i64 c.n, .string c.port, .string c.text] 33)).drew.heap.size by
    have := hmid.1; show B ≤ (w4.alloc _).heap.size; rw [World.size_alloc]; omega)
  have hob := Lib.hid (own_blocks h.2.2.2.2 h.2.2.1 (by decide))
  have hby : (ds.length + 1) * 48 ≤ 140737488355328 := by omega
  have kgA : Hid ((w4.alloc (.cells #[.int .i64 c.ev, .int .i64 c.n, .string c.port, .string c.text] 33)).drew.cell? ⟨g, 1, none⟩ = some (.slice A ds.length cap)) := Lib.hid ((World.cell?_alloc_past _ _ _ hg3).trans kg)
  have fgA : Hid ((w4.alloc (.cells #[.int .i64 c.ev, .int .i64 c.n, .string c.port, .string c.text] 33)).drew.frozen? ⟨g, 1, none⟩ = false) := Lib.hid ((World.frozen?_alloc_past _ _ _ hg3).trans fg)
  go_region_law ((refine step_append_lies _ rfl (.tmp 42) (.tmp 44) 22 rfl B 33 i0 (.agg #[.int .i64 0, .int .i64 0, .string ⟨#[]⟩, .string ⟨#[]⟩]) 4 48 Tryd.underlying22 hi hz0 hz1 hz2 rfl (by decide) (.slice A ds.length cap) ds.length (clsCells ds) ?_ hrow.out ⟨w4.heap.size, 0, none⟩ 1 1 c.cells ?_ rfl hnews.out hone.out Nat.one_pos hmax.out hby hbase.out _ rfl ?_); (next => simp [Act.eval]); (next => simp [Act.eval]); intro g6 cap6 w6 hown6 hgr6 hat6 hlt6; have k6 := (hgr6.cell_far ⟨g, 1, none⟩ hgA.out hob.out.1).trans kgA.out; have f6 := (hgr6.frozen_far ⟨g, 1, none⟩ hgA.out hob.out.1).trans fgA.out)
  all_goals
    go_wp2_with fail
    go_ret
    have hend := ask_end (h.2.2.1 |> lt_of_block) hmid hBB hg4 hob.out.2 hown6 hgr6
    exact ⟨rfl, hend.1, ask_keep hBB hg4 hgr6, _, hend.2, ask_row (Nat.le_trans hBB.size hg4.size) hat6⟩
theorem ask_new (B : Nat) (w : World) (g b : Nat) (v : Value) (ds : List Cl) (h : Svc B w g b v ds) (hok : ∀ c ∈ ds, c.ok) (c : Cl) (hc : c.ok) (hp : c.port.size ≤ 300) (hx : c.text.size ≤ 300) (hn : ds.length ≤ 1000) (ht : Tab w)
    (hl : lookA ds c.ev c.n = none) :
    Calls Tryd.prog 9 #[.pointer (some ⟨g, 0, none⟩), c.val] w fun e w' => e = .returned (.string (ans c ds.length)) ∧ Below B w w' ∧ KeepSvc w w' g b v ∧ ∃ v', Svc B w' g b v' (ds ++ [c]) :=
  (ask_new2 B w g b v ds h hok c hc hp hx hn ht hl).mono fun _ _ ⟨h1, h2, h3, v', h4, _⟩ => ⟨h1, h2, h3, v', h4⟩
end Go.Proofs.YtgcnmiaahkmmeaaDoor
