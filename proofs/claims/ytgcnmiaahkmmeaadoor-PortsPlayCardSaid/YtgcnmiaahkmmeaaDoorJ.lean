/- The walk of PortsOnce where the calls are few and at most 100 are asked again: it returns true, in every memory that holds the arguments and strconv's table of powers of ten; calls' numbers are ints. -/
import Derived.Test.YtgcnmiaahkmmeaaDoorI
namespace Go.Proofs.YtgcnmiaahkmmeaaDoor
open Go.RowKit Go.Maps

def strs (l : List ByteArray) : List Value := l.map Value.string
theorem strs_one (l : List ByteArray) : ∀ u ∈ strs l, u.oneCell' = true := by
  intro u hu
  simp only [strs, List.mem_map] at hu
  obtain ⟨a, _, rfl⟩ := hu
  rfl
theorem info9 : (Tryd.prog.info? 9).map (fun i => (i.zero, i.size, i.bytes)) = some (some (.string ⟨#[]⟩), 1, 16) := by kernel_rfl
/-- A row of strings is none of the service's blocks. -/
theorem own_keep {B n g b : Nat} {w w' : World} {v x : Value} {ds : List Cl} {xs : List Value} (h : w.ownsRow B 9 1 x n xs) (hs : Svc B w g b v ds) (hk : KeepSvc w w' g b v) : w'.ownsRow B 9 1 x n xs := by
  refine ⟨h.1, ?_⟩
  rcases h.2 with h0 | ⟨g', cap, cur, rfl, hb, hh, r⟩
  · exact .inl h0
  · refine .inr ⟨g', cap, cur, rfl, hb, ?_, r⟩
    have h1 : g' ≠ g := by
      rintro rfl
      have := hs.2.2.1
      rw [hh] at this
      injection this with this
      injection this with _ ht
      exact absurd ht (by decide)
    have h2 : g' ≠ b := by
      rintro rfl
      obtain ⟨es, clock, hm, _⟩ := hs.2.2.2.1
      rw [hh] at hm
      cases hm
    have h3 : some g' ≠ v.ownBlock := (own_blocks hs.2.2.2.2 hh (by decide)).1
    exact (hk.2 g' (lt_of_block hh) h1 h2 h3).trans hh

def RdB (w : World) (A : Option Addr) (xs : List Int) : Prop := ∀ i x, xs[i]? = some x → 0 ≤ x ∧ x ≤ 255 ∧ ∃ ad, A = some ad ∧ w.cell? (ad.add i) = some (.int .u8 x)

/-- What asking call k in a row leaves. -/
theorem take_snoc (l : List Cl) (k : Nat) (c : Cl) (h : l[k]? = some c) : l.take (k + 1) = l.take k ++ [c] := by
  have hk : k < l.length := (List.getElem?_eq_some_iff.1 h).1
  rw [List.take_succ_eq_append_getElem hk]
  rw [List.getElem?_eq_getElem hk] at h
  injection h with h
  rw [h]
theorem okC_le {c : Cl} (h : okC c = true) : c.port.size ≤ 300 ∧ c.text.size ≤ 300 := by
  simp only [okC, Bool.and_eq_true, decide_eq_true_eq] at h
  omega
theorem fewB_all {l : List Cl} (h : fewB l = true) : (∀ c ∈ l, okC c = true) ∧ l.length ≤ 80 := by
  simp only [fewB, Bool.and_eq_true, List.all_eq_true, decide_eq_true_eq] at h
  exact h

theorem svc_grown {B n g b : Nat} {w w' : World} {v x : Value} {ds : List Cl} {xs : List Value} (hs : Svc B w g b v ds) (h : w.ownsRow B 9 1 x n xs) (hg : w.grownBy w' x.ownBlock) : Svc B w' g b v ds := by
  obtain ⟨h1, h2, h3, h4, h5⟩ := hs
  have hgne : some g ≠ x.ownBlock := (own_blocks h h3 (by decide)).1
  have hbne : some b ≠ x.ownBlock := by
    obtain ⟨es, clock, hb, _⟩ := h4
    rcases h.2 with ⟨rfl, _⟩ | ⟨g', cap, cur, rfl, _, hh, _⟩
    · simp [Value.ownBlock]
    · intro e
      simp only [Value.ownBlock] at e
      injection e with e
      subst e
      rw [hh] at hb
      cases hb
  refine ⟨h1, h2, (hg.block g (lt_of_block h3) hgne).trans h3, h4.kept hg hbne, h5.kept hg ?_⟩
  rcases h5.2 with ⟨rfl, _⟩ | ⟨g', cap, cur, rfl, _, hh, _⟩
  · simp [Value.ownBlock]
  · right
    exact (own_blocks h hh (by decide)).1
theorem l1_step {B g b k : Nat} {l : List Cl} {c : Cl} {a : ByteArray} {w1 w4 w5 : World} {v4 fv v' : Value} {o : Obj} (hc : l[k]? = some c) (ha : (askS (st (l.take k)).1 c).1 = a) (hS4 : Svc B w4 g b v4 (askS (st (l.take k)).1 c).2)
    (hO4 : w4.ownsRow B 9 1 fv k (strs (st (l.take k)).2)) (hB4 : Below B w1 w4) (hBs : B ≤ w1.heap.size)
    (hO5 : w5.ownsRow B 9 1 v' (k + 1) (strs (st (l.take k)).2 ++ [.string a])) (hG5 : (w4.alloc o).grownBy w5 fv.ownBlock) :
    Svc B w5 g b v4 (st (l.take (k + 1))).1 ∧ w5.ownsRow B 9 1 v' (k + 1) (strs (st (l.take (k + 1))).2) ∧ Below B w1 w5 := by
  rw [take_snoc l k c hc, st_snoc]
  have hs4 : B ≤ w4.heap.size := Nat.le_trans hBs hB4.size
  refine ⟨svc_grown (hS4.below ((Below.refl _ _).alloc (Nat.le_refl _) o)) (hO4.alloc o) hG5, ?_, (hB4.alloc hs4 o).grown hG5 (by rw [World.size_alloc]; omega) (fun j hj => (hO4.lt j hj).1)⟩
  simpa [strs, ha] using hO5
def RdS (w : World) (A : Option Addr) (l : List ByteArray) : Prop := ∀ i a, l[i]? = some a → ∃ ad, A = some ad ∧ w.cell? (ad.add i) = some (.string a)
theorem RdS.below {w w' : World} {A : Option Addr} {l : List ByteArray} (h : RdS w A l) (hb : Below w.heap.size w w') : RdS w' A l := fun i a ha => by
  obtain ⟨ad, e, hc⟩ := h i a ha
  exact ⟨ad, e, cell_keep hb hc⟩
theorem RdB.below {w w' : World} {A : Option Addr} {l : List Int} (h : RdB w A l) (hb : Below w.heap.size w w') : RdB w' A l := fun i x hx => by
  obtain ⟨h0, h1, ad, e, hc⟩ := h i x hx
  exact ⟨h0, h1, ad, e, cell_keep hb hc⟩
theorem rdS_of_own {w : World} {B n c : Nat} {A : Option Addr} {l : List ByteArray} (h : w.ownsRow B 9 1 (.slice A n c) n (strs l)) : RdS w A l := by
  intro i a ha
  have hx : (strs l)[i]? = some (.string a) := by simp [strs, ha]
  have hlen : n ≠ 0 := by
    rintro rfl
    have h1 := h.1
    have := (List.getElem?_eq_some_iff.1 hx).1
    omega
  rcases h.2 with ⟨_, h0⟩ | ⟨g', cap, cur, hv, _⟩
  · exact absurd h0 hlen
  · have e : A = some ⟨g', 0, none⟩ := by injection hv
    subst e
    exact ⟨_, rfl, h.cells (g := g') rfl i _ hx⟩
theorem rdC_of_own {w : World} {B n c : Nat} {A : Option Addr} {l : List Cl} (h : w.ownsRow B 33 4 (.slice A n c) n (clsCells l)) : RdC w A l := by
  intro i x hx
  have hi := (List.getElem?_eq_some_iff.1 hx).1
  have key : ∀ (l : List Cl) (i : Nat) (x : Cl), l[i]? = some x → ∀ j, j < 4 → (clsCells l)[i * 4 + j]? = x.cells[j]? := by
    intro l
    induction l with
    | nil => intro i x h; simp at h
    | cons y l ih =>
      intro i x h j hj
      have e : clsCells (y :: l) = y.cells ++ clsCells l := by simp [clsCells]
      rw [e]
      cases i with
      | zero =>
        simp only [List.getElem?_cons_zero, Option.some.injEq] at h
        subst h
        rw [List.getElem?_append_left (by simp [Cl.cells]; omega)]
        simp
      | succ i =>
        rw [List.getElem?_append_right (by simp [Cl.cells]; omega)]
        have e2 : (i + 1) * 4 + j - y.cells.length = i * 4 + j := by simp [Cl.cells]; omega
        rw [e2]
        exact ih i x (by simpa using h) j hj
  have hlen : n ≠ 0 := by
    rintro rfl
    have h1 := h.1
    have h2 := (List.getElem?_eq_some_iff.1 (key l i x hx 0 (by omega))).1
    omega
  rcases h.2 with ⟨_, h0⟩ | ⟨g', cap, cur, hv, _⟩
  · exact absurd h0 hlen
  · have e : A = some ⟨g', 0, none⟩ := by injection hv
    subst e
    have hc := h.cells (g := g') rfl
    have hadd : ∀ m, (⟨g', 0, none⟩ : Addr).add m = ⟨g', m, none⟩ := fun m => by unfold Addr.add; split <;> simp_all
    refine ⟨_, rfl, ?_, ?_, ?_, ?_⟩
    · have := hc (i * 4 + 0) _ (key l i x hx 0 (by omega))
      exact this
    · have := hc (i * 4 + 1) _ (key l i x hx 1 (by omega))
      rw [hadd] at this ⊢
      exact this
    · have := hc (i * 4 + 2) _ (key l i x hx 2 (by omega))
      rw [hadd] at this ⊢
      exact this
    · have := hc (i * 4 + 3) _ (key l i x hx 3 (by omega))
      rw [hadd] at this ⊢
      exact this

theorem keep5 {w w' : World} {p0 p1 p2 p3 p4 : Addr} {x0 x1 x2 x3 x4 : Value} (h : w.cell? p0 = some x0 ∧ w.cell? p1 = some x1 ∧ w.cell? p2 = some x2 ∧ w.cell? p3 = some x3 ∧ w.cell? p4 = some x4) (hb : Below w.heap.size w w') :
    w'.cell? p0 = some x0 ∧ w'.cell? p1 = some x1 ∧ w'.cell? p2 = some x2 ∧ w'.cell? p3 = some x3 ∧ w'.cell? p4 = some x4 :=
  ⟨cell_keep hb h.1, cell_keep hb h.2.1, cell_keep hb h.2.2.1, cell_keep hb h.2.2.2.1, cell_keep hb h.2.2.2.2⟩

theorem uniq_at {ds : List Cl} (h : Uniq ds) {i j : Nat} {c d : Cl} (hc : ds[i]? = some c) (hd : ds[j]? = some d) (hij : i < j) : ¬ sameId c d.ev d.n := by
  obtain ⟨hi, rfl⟩ := List.getElem?_eq_some_iff.1 hc
  obtain ⟨hj, rfl⟩ := List.getElem?_eq_some_iff.1 hd
  exact List.pairwise_iff_getElem.1 h i j hi hj hij

theorem count_step {ds : List Cl} {c d : Cl} {q N : Nat} (hd : ds[q]? = some d) (hN : N = ((ds.take q).filter (sameB c)).length) : ((ds.take (q + 1)).filter (sameB c)).length = N + if sameB c d = true then 1 else 0 := by
  rw [take_snoc ds q d hd, List.filter_append, List.length_append, hN]
  congr 1
  cases h : sameB c d <;> simp [h]

set_option maxHeartbeats 8000000 in
set_option maxRecDepth 100000 in
theorem once_walk (A0 : Option Addr) (cap0 : Nat) (l : List Cl) (A1 : Option Addr) (cap1 : Nat) (xs : List Int) (w : World) (ht : Tab w) (hR : RdC w A0 l) (hX : RdB w A1 xs) (hok : ∀ c ∈ l, c.ok) (hf : fewB l = true) (hx : xs.length ≤ 100) :
    Calls Tryd.prog 4 #[.slice A0 l.length cap0, .slice A1 xs.length cap1] w fun e w' => e = .returned (.bool true) ∧ Below w.heap.size w w' := by
  obtain ⟨hall, hl80⟩ := fewB_all hf
  obtain ⟨i0, hi, hz0, hz1, hz2⟩ := info_parts info9
  have d1 : decide ((100 : Int) < xs.length) = false := by simp; omega
  have HA0 := Lib.hid hR
  have HA1 := Lib.hid hX
  have HF := Lib.hid hf
  clear hR hX
  go_enter Tryd.func4, Tryd.ntmps4
  go_wp2_with fail
  refine (known_any _ ht).mono ?_
  rintro e w1 ⟨rfl, hb1⟩
  go_wp2_with fail
  refine (few_any A0 cap0 l (by omega) w1 (HA0.out.below hb1)).mono ?_
  rintro e w1' ⟨rfl, rfl⟩
  rw [HF.out]
  go_wp2_with fail
  refine (new_c _).mono ?_
  rintro e w2 ⟨rfl, hb2, hs2⟩
  have ht1 := ht.below hb1
  have hpos := Lib.hid ht1.pos
  have HB1 := Lib.hid hb1
  have HB2 := Lib.hid hb2
  have HS2 := Lib.hid hs2
  clear hb1 hb2 hs2
  go_wp2_with fail
  go_loopw [6, 7] (fun fv i wr => ∃ (k : Nat) (v : Value), k ≤ l.length ∧ i = .int .i64 k ∧ Svc w1.heap.size wr (w1.heap.size + 1) w1.heap.size v (st (l.take k)).1 ∧ wr.ownsRow w1.heap.size 9 1 fv k (strs (st (l.take k)).2) ∧ Below w1.heap.size w1 wr)
    (fun _ i _ => l.length - (intOf i).toNat)
  case atStart => exact ⟨0, _, Nat.zero_le _, rfl, HS2.out, World.ownsRow_nil _ _ _ _, HB2.out⟩
  case round =>
    obtain ⟨k, v, hk, rfl, hs, hown, hB⟩ := hrel
    by_cases hlt : k < l.length
    · obtain ⟨c, hc⟩ : ∃ c, l[k]? = some c := ⟨l[k], List.getElem?_eq_getElem hlt⟩
      have hRw : RdC wr A0 l := (HA0.out.below HB1.out).below hB
      obtain ⟨ad, hA, c0, c1, c2, c3⟩ := hRw k c hc
      have hmem := List.mem_of_getElem? hc
      have hsz := okC_le (hall c hmem)
      have hdone := st_done (l.take k)
      rw [List.length_take] at hdone
      have hask := Lib.hid (ask_any w1.heap.size wr _ _ v _ hs (fun d hd => hok d (List.mem_of_mem_take (st_mem _ d hd))) c (hok c hmem) hsz.1 hsz.2 (by omega) (ht1.belowB hpos.out hB))
      have HC := Lib.hid hc
      have HS := Lib.hid hs
      have HO := Lib.hid hown
      have HB := Lib.hid hB
      clear hc hs hown hB hRw hsz hdone
      subst hA
      go_wp2_with fail
      refine hask.out.mono ?_
      rintro e w4 ⟨rfl, hb4, hk4, v4, hs4⟩
      have HO4 := Lib.hid (own_keep HO.out HS.out hk4)
      have HB4 := Lib.hid (HB.out.trans hb4)
      have HS4 := Lib.hid hs4
      have hbase : w1.heap.size ≤ (w4.alloc (.cells #[.string (askS (st (l.take k)).1 c).1] 9)).heap.size := by
        have := (HB.out.trans hb4).size
        rw [World.size_alloc]; omega
      clear hb4 hk4 hs4 hask
      obtain ⟨a, ha⟩ : ∃ a, (askS (st (l.take k)).1 c).1 = a := ⟨_, rfl⟩
      have HA := Lib.hid ha
      rw [ha] at hbase ⊢
      clear ha
      go_wp2_with (at_builtin; refine wpList_append_own _ rfl (.tmp 33) (.tmp 40) 28 rfl w1.heap.size 9 i0 (.string ⟨#[]⟩) 1 16 Tryd.underlying28 hi hz0 hz1 hz2 rfl (by decide) _ k (strs (st (l.take k)).2) rfl (HO4.out.alloc _) ⟨w4.heap.size, 0, none⟩ 1 1 [.string a] rfl rfl ?c1 ?c2 ?c3 ?c4 hbase ?_)
      case c1 => exact World.news_of_block (cs := #[.string a]) (heap_alloc_new w4 _)
      case c2 => intro u hu; simp at hu; subst hu; rfl
      case c3 => simp only [maxLen]; omega
      case c4 => omega
      intro v' w5 hown5 hgr5 _
      have HO5 := Lib.hid hown5
      have HG5 := Lib.hid hgr5
      clear hown5 hgr5
      go_wp2_with fail
      go_roundw
      case rel =>
        have hst := l1_step HC.out HA.out HS4.out HO4.out HB4.out (Nat.le_refl _) HO5.out HG5.out
        exact ⟨k + 1, v4, by omega, by go_num, hst.1, hst.2.1, hst.2.2⟩
      case measure => simp [intOf]; omega
    · obtain rfl : k = l.length := by omega
      rw [List.take_length] at hs hown
      obtain ⟨A2, cap2, rfl⟩ := own_form hown
      have HS := Lib.hid hs
      have HO := Lib.hid (rdS_of_own hown)
      have HB := Lib.hid hB
      have hBpos : Hid (Tab wr) := Lib.hid (ht1.belowB hpos.out hB)
      have hlen2 := Lib.hid (st_len l)
      clear hs hown hB hlt hk
      obtain ⟨wx, rfl⟩ : ∃ wx : World, wx = wr := ⟨_, rfl⟩
      go_wp2_with fail
      go_loopw [8] (fun i wr => ∃ k : Nat, k ≤ xs.length ∧ i = .int .i64 k ∧ Below wx.heap.size wx wr) (fun i _ => xs.length - (intOf i).toNat)
      case atStart => exact ⟨0, Nat.zero_le _, rfl, Below.refl _ _⟩
      case round =>
        obtain ⟨k, hk, rfl, hB2⟩ := hrel
        by_cases hlt : k < xs.length ∧ 0 < l.length
        · obtain ⟨hlt, h0⟩ := hlt
          obtain ⟨x, hx⟩ : ∃ x, xs[k]? = some x := ⟨xs[k], List.getElem?_eq_getElem hlt⟩
          obtain ⟨x0, x1, ad1, hA1, hxc⟩ := (((HA1.out.below HB1.out).below HB.out).below hB2) k x hx
          subst hA1
          obtain ⟨m, rfl⟩ : ∃ m : Nat, x = m := ⟨x.toNat, by omega⟩
          have j0 : (0 : Int) ≤ (m : Int) % (l.length : Int) := Int.emod_nonneg _ (by omega)
          have j1 : (m : Int) % (l.length : Int) < (l.length : Int) := Int.emod_lt_of_pos _ (by omega)
          go_wp2_with fail
          obtain ⟨j, hj⟩ : ∃ j : Nat, (m : Int) % (l.length : Int) = j := ⟨((m : Int) % (l.length : Int)).toNat, by omega⟩
          rw [hj] at j0 j1 ⊢
          have hjl : j < l.length := by omega
          clear hj hxc
          obtain ⟨c, hc⟩ : ∃ c, l[j]? = some c := ⟨l[j], List.getElem?_eq_getElem hjl⟩
          obtain ⟨a, ha, hla⟩ := st_look l j c hc
          have hmem := List.mem_of_getElem? hc
          obtain ⟨ad, hA, c0, c1, c2, c3⟩ := ((((HA0.out.below HB1.out).below HB.out).below hB2).below (Below.refl wr.heap.size wr).drew) j c hc
          obtain ⟨af, hAf, cf⟩ := ((HO.out.below hB2).below (Below.refl wr.heap.size wr).drew) j a ha
          have hS15 := Lib.hid (And.intro c0 (And.intro c1 (And.intro c2 (And.intro c3 cf))))
          have hsw := HS.out.below hB2
          have hfound := Lib.hid (ask_found w1.heap.size wr.drew _ _ v _ (hsw.below (Below.refl wr.heap.size wr).drew) (fun d hd => hok d (st_mem l d hd)) c (hok c hmem) a hla)
          have HB2 := Lib.hid hB2
          clear hc ha hla hmem c0 c1 c2 c3 cf hsw hB2
          subst hA hAf
          go_region_held3 (fun w' => w'.cell? (ad.add (j * 4)) = some (.int .i64 c.ev) ∧ w'.cell? ⟨(ad.add (j * 4)).block, (ad.add (j * 4)).off + 1, none⟩ = some (.int .i64 c.n) ∧ w'.cell? ⟨(ad.add (j * 4)).block, (ad.add (j * 4)).off + 2, none⟩ = some (.string c.port) ∧
              w'.cell? ⟨(ad.add (j * 4)).block, (ad.add (j * 4)).off + 3, none⟩ = some (.string c.text) ∧ w'.cell? (af.add j) = some (.string a))
            (first | exact hS15.out | exact keep5 hS15.out (by assumption))
            (first | (go_at_call 9; refine hfound.out.mono ?_; rintro e w7 ⟨rfl, hb7⟩))
          go_wp2_with fail
          go_roundw
          case rel => exact ⟨k + 1, by omega, by go_num, HB2.out.trans (Below.mono (Below.trans (Below.refl wr.heap.size wr).drew hb7) HB2.out.size)⟩
          case measure => simp [intOf]; omega
        · have HD := Lib.hid (HS.out.below hB2)
          have HB2 := Lib.hid hB2
          have hdn := Lib.hid (st_done l)
          have hdone := Lib.hid (done_any w1.heap.size wr _ _ v _ HD.out (by have := hdn.out; omega))
          clear hB2
          have hcases : ¬ k < xs.length ∨ (k < xs.length ∧ l.length = 0) := by omega
          clear hlt
          rcases hcases with hlt | ⟨hlt, h0⟩
          all_goals
            go_wp2_with fail
            refine hdone.out.mono ?_
            rintro e w8 ⟨A3, cap3, rfl, hb8, ho8⟩
            have HR3 := Lib.hid (rdC_of_own ho8)
            have HB8 := Lib.hid hb8
            clear hdone hb8 ho8
            try clear h0
            clear hlt
            go_wp2_with fail
            go_loopw [11] (fun i wr => ∃ n : Nat, n ≤ (st l).1.length ∧ i = .int .i64 n ∧ Below w8.heap.size w8 wr) (fun i _ => (st l).1.length - (intOf i).toNat)
            case atStart => exact ⟨0, Nat.zero_le _, rfl, Below.refl _ _⟩
            case round =>
              obtain ⟨n, hn, rfl, hB9⟩ := hrel
              have hn80 : n ≤ 80 := by have := hdn.out; omega
              by_cases hln : n < (st l).1.length
              · obtain ⟨ci, hci⟩ : ∃ c, (st l).1[n]? = some c := ⟨(st l).1[n], List.getElem?_eq_getElem hln⟩
                have HCI := Lib.hid hci
                have HB9 := Lib.hid hB9
                clear hci hB9
                obtain ⟨wo, rfl⟩ : ∃ wo : World, wo = wr := ⟨_, rfl⟩
                go_wp2_with fail
                go_loopw [12] (fun i wr => ∃ q : Nat, q ≤ n ∧ i = .int .i64 q ∧ Below w8.heap.size w8 wr) (fun i _ => n - (intOf i).toNat)
                case atStart => exact ⟨0, Nat.zero_le _, rfl, HB9.out⟩
                case round =>
                  obtain ⟨q, hq, rfl, hB10⟩ := hrel
                  by_cases hlq : q < n
                  · obtain ⟨ck, hck⟩ : ∃ c, (st l).1[q]? = some c := ⟨(st l).1[q], List.getElem?_eq_getElem (by omega)⟩
                    obtain ⟨ad3, hA3, i0, i1, _, _⟩ := (HR3.out.below hB10) n ci HCI.out
                    obtain ⟨ad4, hA4, k0, k1, _, _⟩ := (HR3.out.below hB10) q ck hck
                    have hne := uniq_at (st_uniq l) hck HCI.out hlq
                    obtain rfl : ad3 = ad4 := Option.some.inj (hA3.symm.trans hA4)
                    have HB10 := Lib.hid hB10
                    clear hA4 hck hB10
                    subst hA3
                    by_cases hev : ci.ev = ck.ev
                    · have e1 : (ci.ev == ck.ev) = true := by simp [hev]
                      have e2 : (ci.n == ck.n) = false := by simp; exact fun e => hne ⟨hev.symm, e.symm⟩
                      clear hev hne
                      go_wp2_with fail
                      go_quiet (fail)
                      go_wp2_with fail
                      go_roundw
                      case rel => exact ⟨q + 1, by omega, by go_num, below_drewN HB10.out _⟩
                      case measure => simp [intOf]; omega
                    · have e1 : (ci.ev == ck.ev) = false := by simp [hev]
                      clear hev hne
                      go_wp2_with fail
                      go_quiet (fail)
                      go_wp2_with fail
                      go_roundw
                      case rel => exact ⟨q + 1, by omega, by go_num, below_drewN HB10.out _⟩
                      case measure => simp [intOf]; omega
                  · have HB10 := Lib.hid hB10
                    clear hB10
                    go_wp2_with fail
                    go_roundw
                    case rel => exact ⟨n + 1, by omega, by go_num, HB10.out⟩
                    case measure => simp [intOf]; omega
              · have HB9 := Lib.hid hB9
                clear hB9
                obtain ⟨w9, rfl⟩ : ∃ wo : World, wo = wr := ⟨_, rfl⟩
                go_wp2_with fail
                go_loopw [13] (fun i wr => ∃ n : Nat, n ≤ l.length ∧ i = .int .i64 n ∧ Below w8.heap.size w8 wr) (fun i _ => l.length - (intOf i).toNat)
                case atStart => exact ⟨0, Nat.zero_le _, rfl, HB9.out⟩
                case round =>
                  obtain ⟨n, hn, rfl, hB11⟩ := hrel
                  by_cases hln : n < l.length
                  · obtain ⟨c, hc⟩ : ∃ c, l[n]? = some c := ⟨l[n], List.getElem?_eq_getElem hln⟩
                    obtain ⟨a, ha, hla⟩ := st_look l n c hc
                    have HC := Lib.hid hc
                    have HA := Lib.hid ha
                    have HB11 := Lib.hid hB11
                    have H64 := Lib.hid (lookA_size _ _ _ _ hla)
                    have H1 := Lib.hid (count_one _ (st_uniq l) c a hla)
                    clear hc ha hla hB11
                    obtain ⟨wo, rfl⟩ : ∃ wo : World, wo = wr := ⟨_, rfl⟩
                    go_wp2_with fail
                    go_loopw [14, 15] (fun t i wr => ∃ q N : Nat, q ≤ (st l).1.length ∧ i = .int .i64 q ∧ t = .int .i64 N ∧ Hid (N = (((st l).1.take q).filter (sameB c)).length) ∧ Below w8.heap.size w8 wr) (fun _ i _ => (st l).1.length - (intOf i).toNat)
                    case atStart => exact ⟨0, 0, Nat.zero_le _, rfl, rfl, Lib.hid (by simp), HB11.out⟩
                    case round =>
                      obtain ⟨q, N, hq, rfl, rfl, HN, hB12⟩ := hrel
                      have hq80 : q ≤ 80 := by have := hdn.out; omega
                      by_cases hlq : q < (st l).1.length
                      · obtain ⟨d, hd⟩ : ∃ d, (st l).1[q]? = some d := ⟨(st l).1[q], List.getElem?_eq_getElem hlq⟩
                        obtain ⟨ad3, hA3, i0, i1, _, _⟩ := (HR3.out.below hB12) q d hd
                        obtain ⟨ad4, hA4, k0, k1, _, _⟩ := ((((HA0.out.below HB1.out).below HB.out).below HB2.out).below (HB8.out.trans (hB12.mono HB8.out.size))) n c HC.out
                        have hN : N ≤ q := by have := HN.out; rw [this]; exact Nat.le_trans (List.length_filter_le _ _) (List.length_take_le _ _)
                        have hcnt := Lib.hid (count_step (c := c) hd HN.out)
                        have HB12 := Lib.hid hB12
                        clear hd hB12 HN
                        subst hA3 hA4
                        by_cases hev : d.ev = c.ev
                        · by_cases hnn : d.n = c.n
                          · have e1 : (d.ev == c.ev) = true := by simp [hev]
                            have e2 : (d.n == c.n) = true := by simp [hnn]
                            have hs : Hid (sameB c d = true) := Lib.hid (by simp [sameB, hev, hnn])
                            clear hev hnn
                            go_wp2_with fail
                            go_quiet (fail)
                            go_wp2_with fail
                            go_roundw
                            case rel => exact ⟨q + 1, N + 1, by omega, by go_num, by go_num, Lib.hid (by rw [hcnt.out, hs.out]; rfl), below_drewN HB12.out _⟩
                            case measure => simp [intOf]; omega
                          · have e1 : (d.ev == c.ev) = true := by simp [hev]
                            have e2 : (d.n == c.n) = false := by simp [hnn]
                            have hs : Hid (sameB c d = false) := Lib.hid (by simp [sameB, hnn])
                            clear hev hnn
                            go_wp2_with fail
                            go_quiet (fail)
                            go_wp2_with fail
                            go_roundw
                            case rel => exact ⟨q + 1, N, by omega, by go_num, rfl, Lib.hid (by rw [hcnt.out, hs.out]; rfl), below_drewN HB12.out _⟩
                            case measure => simp [intOf]; omega
                        · have e1 : (d.ev == c.ev) = false := by simp [hev]
                          have hs : Hid (sameB c d = false) := Lib.hid (by simp [sameB, hev])
                          clear hev
                          go_wp2_with fail
                          go_quiet (fail)
                          go_wp2_with fail
                          go_roundw
                          case rel => exact ⟨q + 1, N, by omega, by go_num, rfl, Lib.hid (by rw [hcnt.out, hs.out]; rfl), below_drewN HB12.out _⟩
                          case measure => simp [intOf]; omega
                      · obtain rfl : N = 1 := by
                          have := HN.out
                          rw [List.take_of_length_le (by omega), H1.out] at this
                          exact this
                        obtain ⟨af, hAf, cf⟩ := (((HO.out.below HB2.out).below HB8.out).below hB12) n a HA.out
                        have h64 : ¬ ((64 : Int) < a.size) := by have := H64.out; omega
                        have HB12 := Lib.hid hB12
                        clear HN hB12
                        subst hAf
                        go_wp2_with fail
                        go_roundw
                        case rel => exact ⟨n + 1, by omega, by go_num, HB12.out⟩
                        case measure => simp [intOf]; omega
                  · have HB11 := Lib.hid hB11
                    clear hB11
                    go_wp2_with fail
                    go_ret
                    exact ⟨rfl, ((HB1.out.trans (HB.out.mono HB1.out.size)).trans (HB2.out.mono (Nat.le_trans HB1.out.size HB.out.size))).trans ((HB8.out.trans (HB11.out.mono HB8.out.size)).mono (Nat.le_trans (Nat.le_trans HB1.out.size HB.out.size) HB2.out.size))⟩
end Go.Proofs.YtgcnmiaahkmmeaaDoor
