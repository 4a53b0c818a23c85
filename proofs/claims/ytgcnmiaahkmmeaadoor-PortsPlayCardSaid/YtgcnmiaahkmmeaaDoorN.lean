/- PortsPlay: windlasshelp.Calls tells that two equal rows of calls are the same; the walk of the law. -/
import Derived.Test.YtgcnmiaahkmmeaaDoorM
import Derived.Laws.StructEq
namespace Go.Proofs.YtgcnmiaahkmmeaaDoor
open Go.RowKit Go.Maps

theorem guard33 : Tryd.prog.eqGuardType Tryd.prog.depth 33 = false := by kernel_rfl
theorem stood33 : Tryd.prog.stoodInHeld 33 = false := by kernel_rfl
theorem fields33 : Tryd.prog.underlying 33 = some (.struct (Tryd.prog.fieldsOf 33)) := by kernel_rfl
theorem eq33 (c : Cl) (w : World) : (Op.equalIn 10000 33 (.agg #[.int .i64 c.ev, .int .i64 c.n, .string c.port, .string c.text]) (.agg #[.int .i64 c.ev, .int .i64 c.n, .string c.port, .string c.text])).run Tryd.prog w = .ok true w := by
  rw [run_equalIn_struct (P := Tryd.prog) w 9999 33 _ _ fields33 stood33]
  simp only [Program.fieldsOf, Tryd.underlying33]
  simp [Op.eqFields, part, go_sem, Tryd.underlying3, Tryd.underlying9]
theorem neq33 (c : Cl) : ∀ w : World, (binOp .neq 33 (.agg #[.int .i64 c.ev, .int .i64 c.n, .string c.port, .string c.text]) (.agg #[.int .i64 c.ev, .int .i64 c.n, .string c.port, .string c.text])).run Tryd.prog w = .ok (.bool false) w := by
  intro w
  rw [run_neq_struct, eq33]
  rfl

set_option maxHeartbeats 2000000 in
theorem calls_same (A1 A2 : Option Addr) (cap1 cap2 : Nat) (l : List Cl) (hl : l.length ≤ 1000) (w : World) (h1 : RdC w A1 l) (h2 : RdC w A2 l) :
    Calls Tryd.prog 13 #[.slice A1 l.length cap1, .slice A2 l.length cap2] w fun e w' => e = .returned (.bool true) ∧ Below w.heap.size w w' := by
  have H1 := Lib.hid h1
  have H2 := Lib.hid h2
  clear h1 h2
  go_enter Tryd.func13, Tryd.ntmps13
  go_wp2_with fail
  go_loopw [5] (fun i wr => ∃ k : Nat, k ≤ l.length ∧ i = .int .i64 k ∧ Below w.heap.size w wr) (fun i _ => l.length - (intOf i).toNat)
  case atStart => exact ⟨0, Nat.zero_le _, rfl, Below.refl _ _⟩
  case round =>
    obtain ⟨k, hk, rfl, hB⟩ := hrel
    by_cases hlt : k < l.length
    · obtain ⟨c, hc⟩ : ∃ c, l[k]? = some c := ⟨l[k], List.getElem?_eq_getElem hlt⟩
      obtain ⟨ad, hA, a0, a1, a2, a3⟩ := (H1.out.below hB) k c hc
      obtain ⟨ae, hE, b0, b1, b2, b3⟩ := (H2.out.below hB) k c hc
      have hneq := neq33 c
      have HB := Lib.hid hB
      clear hc hB
      subst hA hE
      go_wp2_with fail
      go_quiet (fail)
      go_wp2_with fail
      go_roundw
      case rel => exact ⟨k + 1, by omega, by go_num, below_drewN HB.out _⟩
      case measure => simp [intOf]; omega
    · have HB := Lib.hid hB
      clear hB
      go_wp2_with fail
      go_ret
      exact ⟨rfl, HB.out⟩

def Dis (v dv : Value) : Prop := ∀ j, v.ownBlock = some j → dv.ownBlock ≠ some j
theorem dis_next {B n n' : Nat} {w w4 : World} {v v4 dv dv5 : Value} {xs ys : List Value} (hd : Dis v dv) (hdv : w.ownsRow B 33 4 dv n xs) (hv4 : w4.ownsRow B 33 4 v4 n' ys) (h1 : NewRow w v v4) (h2 : NewRow w4 dv dv5) : Dis v4 dv5 := by
  intro j hj hj'
  have hlt := (hv4.lt j hj).2
  have hdj : dv.ownBlock = some j := by
    rcases h2 j hj' with h | h
    · exact h
    · omega
  rcases h1 j hj with h | h
  · exact hd j h hdj
  · have := (hdv.lt j hdj).2
    omega
theorem dis1 {B gr : Nat} {w : World} {v v4 dv av : Value} {ds : List Cl} (hd : Dis v dv) (h1 : NewRow w v v4) (hR : RSvc B w gr dv av ds) : Dis v4 dv := by
  intro j hj hj'
  rcases h1 j hj with h | h
  · exact hd j h hj'
  · have := (hR.2.2.1.lt j hj').2
    omega
theorem rsvc_keep {B g b gr : Nat} {w w' : World} {v dv av : Value} {ds : List Cl} (hR : RSvc B w gr dv av ds) (hS : Svc B w g b v ds) (hd : Dis v dv) (hk : KeepSvc w w' g b v) : RSvc B w' gr dv av ds := by
  have key : ∀ (i : Nat) (t : TypeId) (cs : Array Value), w.heap[i]? = some (.cells cs t (0, 0)) → t ≠ 44 → (t = 33 → some i ≠ v.ownBlock) → w'.heap[i]? = some (.cells cs t (0, 0)) := by
    intro i t cs hi ht hv
    refine (hk.2 i (lt_of_block hi) ?_ ?_ ?_).trans hi
    · rintro rfl
      have := hS.2.2.1
      rw [hi] at this
      injection this with this
      injection this with _ e
      exact ht e
    · rintro rfl
      obtain ⟨es, clock, hb, _⟩ := hS.2.2.2.1
      rw [hi] at hb
      cases hb
    · by_cases h33 : t = 33
      · exact hv h33
      · exact (own_blocks hS.2.2.2.2 hi (fun e => h33 e.symm)).1
  have row : ∀ (e : TypeId) (size n : Nat) (x : Value) (xs : List Value), w.ownsRow B e size x n xs → e ≠ 44 → (e = 33 → Dis v x) → w'.ownsRow B e size x n xs := by
    intro e size n x xs h he hx
    refine ⟨h.1, ?_⟩
    rcases h.2 with h0 | ⟨g', cap, cur, rfl, hb, hh, r⟩
    · exact .inl h0
    · exact .inr ⟨g', cap, cur, rfl, hb, key g' e cur hh he (fun h33 e' => hx h33 g' e'.symm rfl), r⟩
  exact ⟨hR.1, key gr 30 _ hR.2.1 (by decide) (fun h => absurd h (by decide)), row 33 4 _ _ _ hR.2.2.1 (by decide) (fun _ => hd), row 9 1 _ _ _ hR.2.2.2 (by decide) (fun h => absurd h (by decide))⟩
theorem svc_keepR {B g b gr : Nat} {w w' : World} {v dv av : Value} {ds ds' : List Cl} (hS : Svc B w g b v ds') (hR : RSvc B w gr dv av ds) (hd : Dis v dv) (hk : KeepR w w' gr dv av) : Svc B w' g b v ds' := by
  obtain ⟨h1, h2, h3, h4, h5⟩ := hS
  have hgr : ∀ (i : Nat) (t : TypeId) (cs : Array Value), w.heap[i]? = some (.cells cs t (0, 0)) → t ≠ 30 → i ≠ gr := by
    rintro i t cs hi ht rfl
    have := hR.2.1
    rw [hi] at this
    injection this with this
    injection this with _ e
    exact ht e
  refine ⟨h1, h2, ?_, ?_, h5.1, ?_⟩
  · exact (hk.2 g (lt_of_block h3) (hgr g 44 _ h3 (by decide)) (own_blocks hR.2.2.1 h3 (by decide)).1 (own_blocks hR.2.2.2 h3 (by decide)).1).trans h3
  · obtain ⟨es, clock, hb, r⟩ := h4
    refine ⟨es, clock, ?_, r⟩
    have hne : ∀ (e : TypeId) (size n : Nat) (x : Value) (xs : List Value), w.ownsRow B e size x n xs → some b ≠ x.ownBlock := by
      intro e size n x xs h
      rcases h.2 with ⟨rfl, _⟩ | ⟨g', cap, cur, rfl, _, hh, _⟩
      · simp [Value.ownBlock]
      · intro e'
        simp only [Value.ownBlock] at e'
        injection e' with e'
        subst e'
        rw [hh] at hb
        cases hb
    refine (hk.2 b (Array.getElem?_eq_some_iff.1 hb).1 ?_ (hne _ _ _ _ _ hR.2.2.1) (hne _ _ _ _ _ hR.2.2.2)).trans hb
    rintro rfl
    have := hR.2.1
    rw [hb] at this
    cases this
  · rcases h5.2 with h0 | ⟨g', cap, cur, rfl, hb, hh, r⟩
    · exact .inl h0
    · refine .inr ⟨g', cap, cur, rfl, hb, ?_, r⟩
      exact (hk.2 g' (lt_of_block hh) (hgr g' 33 _ hh (by decide)) (fun e => hd g' rfl e.symm) (own_blocks hR.2.2.2 hh (by decide)).1).trans hh
/-- A new document's service. -/
theorem rsvc_new {B : Nat} (w : World) (hB : B ≤ w.heap.size) : RSvc B (w.alloc (.cells #[.slice none 0 0, .slice none 0 0] 30)) w.heap.size (.slice none 0 0) (.slice none 0 0) [] :=
  ⟨hB, heap_alloc_new w _, World.ownsRow_nil _ _ _ _, World.ownsRow_nil _ _ _ _⟩
theorem keep4 {w w' : World} {B : Nat} {p : Addr} {k : Nat} {x0 x1 x2 x3 : Value} (h : w.cell? (p.add k) = some x0 ∧ w.cell? ⟨(p.add k).block, (p.add k).off + 1, none⟩ = some x1 ∧ w.cell? ⟨(p.add k).block, (p.add k).off + 2, none⟩ = some x2 ∧ w.cell? ⟨(p.add k).block, (p.add k).off + 3, none⟩ = some x3)
    (hp : p.block < B) (hb : Below B w w') : w'.cell? (p.add k) = some x0 ∧ w'.cell? ⟨(p.add k).block, (p.add k).off + 1, none⟩ = some x1 ∧ w'.cell? ⟨(p.add k).block, (p.add k).off + 2, none⟩ = some x2 ∧ w'.cell? ⟨(p.add k).block, (p.add k).off + 3, none⟩ = some x3 := by
  have hk : (p.add k).block < B := by rw [show (p.add k).block = p.block by unfold Addr.add; split <;> rfl]; exact hp
  exact ⟨(hb.cell hk).trans h.1, (hb.cell (p := ⟨(p.add k).block, (p.add k).off + 1, none⟩) hk).trans h.2.1, (hb.cell (p := ⟨(p.add k).block, (p.add k).off + 2, none⟩) hk).trans h.2.2.1, (hb.cell (p := ⟨(p.add k).block, (p.add k).off + 3, none⟩) hk).trans h.2.2.2⟩

set_option maxHeartbeats 8000000 in
set_option maxRecDepth 100000 in
theorem play_walk (A0 : Option Addr) (cap0 : Nat) (l : List Cl) (n : Int) (n0 : -9223372036854775808 ≤ n) (n1 : n ≤ 9223372036854775807) (w : World) (ht : Tab w) (hR : RdC w A0 l) (hok : ∀ c ∈ l, c.ok) (hf : fewB l = true) :
    Calls Tryd.prog 3 #[.slice A0 l.length cap0, .int .i64 n] w fun e w' => e = .returned (.bool true) ∧ Below w.heap.size w w' := by
  obtain ⟨hall, hl80⟩ := fewB_all hf
  have HA0 := Lib.hid hR
  have HF := Lib.hid hf
  clear hR
  go_enter Tryd.func3, Tryd.ntmps3
  go_wp2_with fail
  refine (known_any _ ht).mono ?_
  rintro e w1 ⟨rfl, hb1⟩
  go_wp2_with fail
  refine (few_any A0 cap0 l (by omega) w1 (HA0.out.below hb1)).mono ?_
  rintro e w1' ⟨rfl, rfl⟩
  rw [HF.out]
  go_wp2_with fail
  refine (new_c _).mono ?_
  rintro e w2 ⟨rfl, hb2, hs2⟩
  have ht1 := ht.below hb1
  have hpos := Lib.hid ht1.pos
  have HB1 := Lib.hid hb1
  have HB2 := Lib.hid (hb2.alloc hb2.size (.cells #[.slice none 0 0, .slice none 0 0] 30))
  have HS2 := Lib.hid (hs2.below ((Below.refl _ _).alloc (Nat.le_refl _) (.cells #[.slice none 0 0, .slice none 0 0] 30)))
  have HR2 := Lib.hid (rsvc_new w2 hb2.size)
  clear hb1 hb2 hs2
  obtain ⟨gr, hgr⟩ : ∃ gr : Nat, w2.heap.size = gr := ⟨_, rfl⟩
  go_wp2_with fail
  rw [hgr] at HR2
  clear hgr
  go_loopw [7] (fun i wr => ∃ (k : Nat) (v dv av : Value), k ≤ l.length ∧ i = .int .i64 k ∧ Svc w1.heap.size wr (w1.heap.size + 1) w1.heap.size v (st (l.take k)).1 ∧ RSvc w1.heap.size wr gr dv av (st (l.take k)).1 ∧ Dis v dv ∧ Below w1.heap.size w1 wr)
    (fun i _ => l.length - (intOf i).toNat)
  case atStart => exact ⟨0, _, _, _, Nat.zero_le _, rfl, HS2.out, HR2.out, (fun j h => by cases h), HB2.out⟩
  case round =>
    obtain ⟨k, v, dv, av, hk, rfl, hs, hr, hdis, hB⟩ := hrel
    by_cases hlt : k < l.length
    · obtain ⟨c, hc⟩ : ∃ c, l[k]? = some c := ⟨l[k], List.getElem?_eq_getElem hlt⟩
      obtain ⟨ad, hA, c0, c1, c2, c3⟩ := (HA0.out.below HB1.out) k c hc
      have hmem := List.mem_of_getElem? hc
      have hsz := okC_le (hall c hmem)
      have hdone := st_done (l.take k)
      rw [List.length_take] at hdone
      have hblk : ad.block < w1.heap.size := by
        have := World.block_lt_of_cell? w1 _ c0
        rwa [show (ad.add (k*4)).block = ad.block by unfold Addr.add; split <;> rfl] at this
      have hS9 := Lib.hid (And.intro c0 (And.intro c1 (And.intro c2 c3)))
      have hask := Lib.hid (ask_any2 w1.heap.size wr.drew _ _ v _ (hs.below (Below.refl _ _).drew) (fun d hd => hok d (List.mem_of_mem_take (st_mem _ d hd))) c (hok c hmem) hsz.1 hsz.2 (by omega) (ht1.belowB hpos.out (hB.drew)))
      have hrask : Hid (∀ (w : World) (dv av : Value), RSvc w1.heap.size w gr dv av (st (l.take k)).1 → Tab w → Calls Tryd.prog 10 #[.pointer (some ⟨gr, 0, none⟩), c.val] w (RPost w1.heap.size w gr dv av (askS (st (l.take k)).1 c).1 (askS (st (l.take k)).1 c).2)) :=
        Lib.hid (fun w dv av h ht => rask_any w1.heap.size w gr dv av _ h (st_uniq _) c hsz.1 hsz.2 (by omega) ht)
      have hans : Hid (∀ w : World, Tab w → Calls Tryd.prog 11 #[c.val, .int .i64 n] w fun e w' => e = .returned (.string (ans c n)) ∧ Below w.heap.size w w') := Lib.hid (fun w ht => answer_any c n n0 n1 hsz.1 hsz.2 w ht)
      have hrans : Hid (∀ w : World, Tab w → Calls Tryd.prog 12 #[c.val, .int .i64 n] w fun e w' => e = .returned (.string (ans c n)) ∧ Below w.heap.size w w') := Lib.hid (fun w ht => refAnswer_any c n n0 n1 hsz.1 hsz.2 w ht)
      obtain ⟨pr, hpr⟩ : ∃ pr, askS (st (l.take k)).1 c = pr := ⟨_, rfl⟩
      obtain ⟨an, D'⟩ := pr
      rw [hpr] at hask hrask
      have HC := Lib.hid hc
      have HS := Lib.hid hs
      have HR := Lib.hid hr
      have HD := Lib.hid hdis
      have HB := Lib.hid hB
      have HP := Lib.hid hpr
      have hT : Hid (∀ w, Below w1.heap.size w1 w → Tab w) := Lib.hid (fun w h => ht1.belowB hpos.out h)
      clear hc hs hr hdis hB hsz hdone hpr c0 c1 c2 c3
      subst hA
      go_wp2_with fail
      go_region_held3 (fun w' => w'.cell? (ad.add (k * 4)) = some (.int .i64 c.ev) ∧ w'.cell? ⟨(ad.add (k * 4)).block, (ad.add (k * 4)).off + 1, none⟩ = some (.int .i64 c.n) ∧ w'.cell? ⟨(ad.add (k * 4)).block, (ad.add (k * 4)).off + 2, none⟩ = some (.string c.port) ∧
              w'.cell? ⟨(ad.add (k * 4)).block, (ad.add (k * 4)).off + 3, none⟩ = some (.string c.text))
            (first | exact keep4 hS9.out hblk HB.out.drew | exact keep4 hS9.out hblk (by assumption))
            (first | (go_at_call 9; refine hask.out.mono ?_; (rintro e w4 ⟨rfl, hb4, hk4, v4, hs4, hn4⟩); have hb4 := HB.out.drew.trans hb4; have hr4 := rsvc_keep (HR.out.below (Below.refl _ _).drew) (HS.out.below (Below.refl _ _).drew) HD.out hk4)
                   | (go_at_call 10; refine (hrask.out _ _ _ hr4 (hT.out _ hb4)).mono ?_; (rintro e w5 ⟨rfl, hb5, hk5, dv5, av5, hr5, hn5, _⟩); have hb5 := hb4.trans hb5)
                   | (go_at_call 11; refine (hans.out _ (hT.out _ hb5)).mono ?_; (rintro e w6 ⟨rfl, hb6a⟩); have hb6 := hb5.trans (hb6a.mono hb5.size))
                   | (go_at_call 12; refine (hrans.out _ (hT.out _ hb6)).mono ?_; (rintro e w7 ⟨rfl, hb7a⟩); have hb7 := hb6.trans (hb7a.mono hb6.size)))
      go_wp2_with fail
      go_roundw
      case rel =>
        have e1 : D' = (st (l.take (k + 1))).1 := by rw [take_snoc l k c HC.out, st_snoc, HP.out]
        rw [e1] at hs4 hr5
        have hs6 := ((svc_keepR hs4 hr4 (dis1 HD.out hn4 (HR.out.below (Below.refl _ _).drew)) hk5).below hb6a).below hb7a
        exact ⟨k + 1, v4, dv5, av5, by omega, by go_num, hs6, (hr5.below hb6a).below hb7a, dis_next HD.out (HR.out.below (Below.refl _ _).drew).2.2.1 hs4.2.2.2.2 hn4 hn5, hb7⟩
      case measure => simp [intOf]; omega
    · obtain rfl : k = l.length := by omega
      rw [List.take_length] at hs hr
      have hdn := st_done l
      obtain ⟨A2, cap2, rfl⟩ := own_form hr.2.2.1
      have hdone := Lib.hid (done_any w1.heap.size wr.drew _ _ v _ (hs.below (Below.refl _ _).drew) (by omega))
      have kg := cell_of_row _ gr 0 _ 30 (0, 0) hr.2.1
      have kg' := Lib.hid (show wr.drew.cell? ⟨gr, 0, none⟩ = some (.slice A2 (st l).1.length cap2) from kg)
      have HR := Lib.hid (rdC_of_own hr.2.2.1)
      have HB := Lib.hid hB
      have hlen := Lib.hid hdn
      clear hs hr hdis hB hlt hk kg hdn
      go_wp2_with fail
      go_region_held3 (fun w' => w'.cell? ⟨gr, 0, none⟩ = some (.slice A2 (st l).1.length cap2))
        (first | exact kg'.out | exact cell_keep (by assumption) kg'.out)
        (first | (go_at_call 14; refine hdone.out.mono ?_; (rintro e w4 ⟨A3, cap3, rfl, hb4, ho4⟩))
               | (go_at_call 13; refine (calls_same A3 A2 cap3 cap2 (st l).1 (by have := hlen.out; omega) _ (rdC_of_own ho4) (HR.out.below ((Below.refl _ _).drew.trans hb4))).mono ?_; (rintro e w5 ⟨rfl, hb5⟩); have hb5 := hb4.trans (hb5.mono hb4.size)))
      go_wp2_with fail
      go_ret
      exact ⟨rfl, (HB1.out.trans (HB.out.mono HB1.out.size)).trans ((Below.trans (Below.refl _ _).drew hb5).mono (Nat.le_trans HB1.out.size HB.out.size))⟩

set_option maxHeartbeats 1000000 in
theorem play_any (A0 : Option Addr) (cap0 : Nat) (l : List Cl) (n : Int) (n0 : -9223372036854775808 ≤ n) (n1 : n ≤ 9223372036854775807) (w : World) (ht : Tab w) (hR : RdC w A0 l) (hok : ∀ c ∈ l, c.ok) (hl : l.length ≤ 9223372036854775807) :
    Calls Tryd.prog 3 #[.slice A0 l.length cap0, .int .i64 n] w fun e w' => e = .returned (.bool true) ∧ Below w.heap.size w w' := by
  cases hf : fewB l with
  | true => exact play_walk A0 cap0 l n n0 n1 w ht hR hok hf
  | false =>
    have HF := Lib.hid hf
    have HR := Lib.hid hR
    clear hf hR
    go_enter Tryd.func3, Tryd.ntmps3
    go_wp2_with fail
    refine (known_any _ ht).mono ?_
    rintro e w1 ⟨rfl, hb1⟩
    go_wp2_with fail
    refine (few_any A0 cap0 l hl w1 (HR.out.below hb1)).mono ?_
    rintro e w1' ⟨rfl, rfl⟩
    rw [HF.out]
    go_wp2_with fail
    go_ret
    exact ⟨rfl, hb1⟩
end Go.Proofs.YtgcnmiaahkmmeaaDoor
