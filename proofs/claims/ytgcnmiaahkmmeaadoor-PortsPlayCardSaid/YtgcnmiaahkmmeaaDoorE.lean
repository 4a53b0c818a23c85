/- Ask in one contract, Done, and that the law's known() returns true: in every memory that holds strconv's table of powers of ten. -/
import Derived.Test.YtgcnmiaahkmmeaaDoorD
import Derived.Laws.AppendOwnNone
namespace Go.Proofs.YtgcnmiaahkmmeaaDoor
open Go.RowKit Go.Maps

theorem ask_any (B : Nat) (w : World) (g b : Nat) (v : Value) (ds : List Cl) (h : Svc B w g b v ds) (hok : ∀ c ∈ ds, c.ok) (c : Cl) (hc : c.ok) (hp : c.port.size ≤ 300) (hx : c.text.size ≤ 300) (hn : ds.length ≤ 1000) (ht : Tab w) :
    Calls Tryd.prog 9 #[.pointer (some ⟨g, 0, none⟩), c.val] w fun e w' => e = .returned (.string (askS ds c).1) ∧ Below B w w' ∧ KeepSvc w w' g b v ∧ ∃ v', Svc B w' g b v' (askS ds c).2 := by
  have hB : B ≤ w.heap.size := Nat.le_trans h.1 (Nat.le_of_lt h.glt)
  cases hl : lookA ds c.ev c.n with
  | some a =>
    have e1 : askS ds c = (a, ds) := by simp [askS, hl]
    rw [e1]
    exact (ask_found B w g b v ds h hok c hc a hl).mono fun e w' ⟨he, hb⟩ => ⟨he, hb.mono hB, .of_below hb, v, h.below hb⟩
  | none =>
    have e1 : askS ds c = (ans c ds.length, ds ++ [c]) := by simp [askS, hl]
    rw [e1]
    exact ask_new B w g b v ds h hok c hc hp hx hn ht hl

theorem ask_any2 (B : Nat) (w : World) (g b : Nat) (v : Value) (ds : List Cl) (h : Svc B w g b v ds) (hok : ∀ c ∈ ds, c.ok) (c : Cl) (hc : c.ok) (hp : c.port.size ≤ 300) (hx : c.text.size ≤ 300) (hn : ds.length ≤ 1000) (ht : Tab w) :
    Calls Tryd.prog 9 #[.pointer (some ⟨g, 0, none⟩), c.val] w fun e w' => e = .returned (.string (askS ds c).1) ∧ Below B w w' ∧ KeepSvc w w' g b v ∧ ∃ v', Svc B w' g b v' (askS ds c).2 ∧ NewRow w v v' := by
  have hB : B ≤ w.heap.size := Nat.le_trans h.1 (Nat.le_of_lt h.glt)
  cases hl : lookA ds c.ev c.n with
  | some a =>
    have e1 : askS ds c = (a, ds) := by simp [askS, hl]
    rw [e1]
    exact (ask_found B w g b v ds h hok c hc a hl).mono fun e w' ⟨he, hb⟩ => ⟨he, hb.mono hB, .of_below hb, v, h.below hb, fun _ hk => .inl hk⟩
  | none =>
    have e1 : askS ds c = (ans c ds.length, ds ++ [c]) := by simp [askS, hl]
    rw [e1]
    exact ask_new2 B w g b v ds h hok c hc hp hx hn ht hl

theorem Tab.belowB {w w' : World} {B : Nat} (h : Tab w) (hB : 0 < B) (hb : Below B w w') : Tab w' := by
  unfold Tab Lib.TabIs at *
  have hg : Tryd.prog.globalNamed "internal/strconv.uint64pow10" = some 0 := by kernel_rfl
  exact var?_below hb hg hB h
theorem Tab.pos {w : World} (h : Tab w) : 0 < w.heap.size := by
  unfold Tab Lib.TabIs at h
  have hg : Tryd.prog.globalNamed "internal/strconv.uint64pow10" = some 0 := by kernel_rfl
  rcases Nat.lt_or_ge 0 w.heap.size with hlt | hge
  · exact hlt
  · exfalso
    have h0 : w.heap[0]? = none := Array.getElem?_eq_none hge
    simp [World.var?, hg, h0] at h

/-- What Done tells: a row of its own. -/
def DonePost (w : World) (ds : List Cl) (e : Ending) (w' : World) : Prop :=
  ∃ A cap, e = .returned (.slice A ds.length cap) ∧ Below w.heap.size w w' ∧ w'.ownsRow w.heap.size 33 4 (.slice A ds.length cap) ds.length (clsCells ds)
theorem cls_one (ds : List Cl) : ∀ u ∈ clsCells ds, u.oneCell' = true := by
  intro u hu
  simp only [clsCells, List.mem_flatMap] at hu
  obtain ⟨c, _, hc⟩ := hu
  exact cells_one c u hc
set_option maxHeartbeats 1000000 in
theorem done_any (B : Nat) (w : World) (g b : Nat) (v : Value) (ds : List Cl) (h : Svc B w g b v ds) (hn : ds.length ≤ 1001) :
    Calls Tryd.prog 14 #[.pointer (some ⟨g, 0, none⟩)] w (DonePost w ds) := by
  obtain ⟨i0, hi, hz0, hz1, hz2⟩ := info_parts info33
  have kg := cell_of_row _ g 1 _ 44 (0, 0) h.2.2.1
  have hrow := h.2.2.2.2
  rcases hrow.2 with ⟨rfl, h0⟩ | ⟨g', cap, cur, rfl, hb, hh, hnc, hcm, hcs, hct⟩
  · have hds : ds = [] := List.eq_nil_of_length_eq_zero h0
    subst hds
    clear hrow h0
    go_enter Tryd.func14, Tryd.ntmps14
    go_wp2
    go_ret
    exact ⟨none, 0, rfl, Below.refl _ _, by simp [World.ownsRow, clsCells]⟩
  · have hcells := Lib.hid (hrow.cells (g := g') rfl)
    have hone := Lib.hid (cls_one ds)
    have hl := hrow.1
    clear h hrow hct
    go_enter Tryd.func14, Tryd.ntmps14
    go_wp2_with (at_builtin; refine wpList_append_own _ rfl (.const (.slice none 0 0)) (.tmp 6) 22 rfl w.heap.size 33 i0 (.agg #[.int .i64 0, .int .i64 0, .string ⟨#[]⟩, .string ⟨#[]⟩]) 4 48 Tryd.underlying22 hi hz0 hz1 hz2 rfl (by decide) (.slice none 0 0) 0 [] rfl (World.ownsRow_nil _ _ _ _) ⟨g', 0, none⟩ ds.length cap (clsCells ds) rfl ?c0 ?c1 ?c2 ?c3 ?c4 ?c5 ?_)
    case c0 => exact hl
    case c1 => exact hcells.out
    case c2 => exact hone.out
    case c3 => simp only [maxLen]; omega
    case c4 => omega
    case c5 => exact Nat.le_refl _
    intro v' w' hown' hgr' _
    obtain ⟨A, cp, rfl⟩ := own_form hown'
    have hbel : Below w.heap.size w w' := (Below.refl _ _).grown hgr' (Nat.le_refl _) (fun k hk => by simp [Value.ownBlock] at hk)
    go_wp2
    go_ret
    exact ⟨A, cp, rfl, hbel, hown'⟩

def c1 : Cl := ⟨1, 1, ⟨#[112]⟩, ⟨#[120]⟩⟩
def c2 : Cl := ⟨1, 1, ⟨#[112]⟩, ⟨#[121]⟩⟩
theorem ok1 : c1.ok := by simp [Cl.ok, c1]
theorem ok2 : c2.ok := by simp [Cl.ok, c2]
theorem ans1 : ans c1 0 = ⟨#[48, 58, 112, 58, 120]⟩ := by decide +kernel
theorem ask1 : askS [] c1 = (⟨#[48, 58, 112, 58, 120]⟩, [c1]) := by
  simp only [askS, lookA_nil, List.length_nil, List.nil_append]
  exact congrArg (fun x => (x, [c1])) ans1
theorem ask2 : askS [c1] c2 = (⟨#[48, 58, 112, 58, 120]⟩, [c1]) := by
  have h : lookA [c1] c2.ev c2.n = some (ans c1 0) := by
    have := lookA_snoc [] c1 c2.ev c2.n
    rw [List.nil_append] at this
    rw [this, if_pos ⟨rfl, rfl⟩]
    rfl
  simp only [askS, h, ans1]

def AskPost (B : Nat) (w : World) (g b : Nat) (a : ByteArray) (ds : List Cl) (e : Ending) (w' : World) : Prop := e = .returned (.string a) ∧ Below B w w' ∧ ∃ v', Svc B w' g b v' ds
theorem k1 (B : Nat) (w : World) (g b : Nat) (v : Value) (h : Svc B w g b v []) (ht : Tab w) :
    Calls Tryd.prog 9 #[.pointer (some ⟨g, 0, none⟩), .agg #[.int .i64 1, .int .i64 1, .string ⟨#[112]⟩, .string ⟨#[120]⟩]] w (AskPost B w g b ⟨#[48, 58, 112, 58, 120]⟩ [c1]) :=
  (ask_any B w g b v [] h (by simp) c1 ok1 (by decide) (by decide) (by simp) ht).mono fun e w' hh => by rw [ask1] at hh; exact ⟨hh.1, hh.2.1, hh.2.2.2⟩
theorem k2 (B : Nat) (w : World) (g b : Nat) (v : Value) (h : Svc B w g b v [c1]) (ht : Tab w) :
    Calls Tryd.prog 9 #[.pointer (some ⟨g, 0, none⟩), .agg #[.int .i64 1, .int .i64 1, .string ⟨#[112]⟩, .string ⟨#[121]⟩]] w (AskPost B w g b ⟨#[48, 58, 112, 58, 120]⟩ [c1]) :=
  (ask_any B w g b v [c1] h (by simp [ok1]) c2 ok2 (by decide) (by decide) (by simp) ht).mono fun e w' hh => by rw [ask2] at hh; exact ⟨hh.1, hh.2.1, hh.2.2.2⟩
theorem k3 (B : Nat) (w : World) (g b : Nat) (v : Value) (h : Svc B w g b v [c1]) : Calls Tryd.prog 14 #[.pointer (some ⟨g, 0, none⟩)] w (DonePost w [c1]) := done_any B w g b v [c1] h (by simp)

/-- A new service. -/
theorem svc_new (w : World) : Svc w.heap.size ((w.alloc (.map #[] 0)).alloc (.cells #[.map (some w.heap.size), .slice none 0 0] 44)) (w.heap.size + 1) w.heap.size (.slice none 0 0) [] := by
  refine ⟨by omega, Nat.le_refl _, ?_, ?_, World.ownsRow_nil _ _ _ _⟩
  · have := heap_alloc_new (w.alloc (.map #[] 0)) (.cells #[.map (some w.heap.size), .slice none 0 0] 44)
    rwa [World.size_alloc] at this
  · exact (World.ownsMap_made w Tryd.prog 46 _).alloc _
def NewPost (w : World) (e : Ending) (w' : World) : Prop := e = .returned (.pointer (some ⟨w.heap.size + 1, 0, none⟩)) ∧ Below w.heap.size w w' ∧ Svc w.heap.size w' (w.heap.size + 1) w.heap.size (.slice none 0 0) []
theorem new_c (w : World) : Calls Tryd.prog 8 #[] w (NewPost w) :=
  (new_any w).mono fun e w' ⟨he, hw⟩ => ⟨he, by rw [hw]; exact ((Below.refl _ _).alloc (Nat.le_refl _) _).alloc (by simp) _, by rw [hw]; exact svc_new w⟩

set_option maxHeartbeats 2000000 in
theorem known_any (w : World) (ht : Tab w) : Calls Tryd.prog 6 #[] w fun e w' => e = .returned (.bool true) ∧ Below w.heap.size w w' := by
  have hp := Lib.hid ht.pos
  go_enter Tryd.func6, Tryd.ntmps6
  go_wp2_with fail
  refine (new_c w).mono ?_
  rintro e w1 ⟨rfl, hb1, hs1⟩
  have ht1 := ht.below hb1
  go_wp2_with fail
  refine (k1 w.heap.size _ _ _ _ hs1 ht1).mono ?_
  rintro e w2 ⟨rfl, hb2, v2, hs2⟩
  have ht2 := ht1.belowB hp.out hb2
  go_wp2_with fail
  refine (k2 w.heap.size _ _ _ _ hs2 ht2).mono ?_
  rintro e w3 ⟨rfl, hb3, v3, hs3⟩
  go_wp2_with fail
  refine (k3 w.heap.size _ _ _ _ hs3).mono ?_
  rintro e w4 ⟨A, cp, rfl, hb4, _⟩
  go_wp2_with fail
  go_ret
  have hB := (hb1.trans hb2).trans hb3
  exact ⟨rfl, hB.trans (hb4.mono hB.size)⟩
end Go.Proofs.YtgcnmiaahkmmeaaDoor
