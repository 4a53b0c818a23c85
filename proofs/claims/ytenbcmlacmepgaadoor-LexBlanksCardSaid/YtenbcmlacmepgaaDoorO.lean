/- LexBlanks' walk. -/
import Derived.Test.YtenbcmlacmepgaaDoorM
namespace Go.Proofs.YtenbcmlacmepgaaDoor
open Go.RowKit

def pAt (l m : List UInt8) (i : Nat) : Nat × Nat := ((l.getD i 0).toNat % 12, if i < m.length then (m.getD i 0).toNat % 6 else 0)
def mixP (l m : List UInt8) (k : Nat) : List (Nat × Nat) := (List.range k).map (pAt l m)
theorem mixP_succ (l m : List UInt8) (k : Nat) : mixP l m (k + 1) = mixP l m k ++ [pAt l m k] := by simp [mixP, List.range_succ]
theorem mixP_len (l m : List UInt8) (k : Nat) : (mixP l m k).length = k := by simp [mixP]
theorem mixP_lt (l m : List UInt8) (k : Nat) : ∀ p ∈ mixP l m k, p.1 < 12 ∧ p.2 < 6 := by
  intro p hp
  obtain ⟨i, _, rfl⟩ := List.mem_map.1 hp
  unfold pAt
  refine ⟨Nat.mod_lt _ (by omega), ?_⟩
  show (if _ then _ else _) < 6
  split
  · exact Nat.mod_lt _ (by omega)
  · omega
theorem mixP_at (l m : List UInt8) (k i : Nat) (h : i < k) : (mixP l m k)[i]? = some (pAt l m i) := by
  simp [mixP, h]
def mixB (l m : List UInt8) (k : Nat) : List UInt8 := mixS (mixP l m k)
theorem mixB_succ (l m : List UInt8) (k : Nat) : mixB l m (k + 1) = mixB l m k ++ (lexW.getD (pAt l m k).1 [] ++ lexG.getD (pAt l m k).2 []) := by
  unfold mixB
  rw [mixP_succ]
  simp [mixS]
theorem mixB_len (l m : List UInt8) (k : Nat) : (mixB l m k).length ≤ 13 * k := by
  have := mix_len (mixP l m k)
  rw [mixP_len] at this
  exact this
/-- The three tables. -/
def Tabs (w : World) (b : Nat) : Prop := (∀ i, i < 12 → w.cell? ⟨b, i, none⟩ = some (.string (bs (lexW.getD i [])))) ∧ (∀ i, i < 12 → w.cell? ⟨b + 1, i, none⟩ = some (.string (bs (lexT.getD i [])))) ∧ (∀ i, i < 6 → w.cell? ⟨b + 1 + 1, i, none⟩ = some (.string (bs (lexG.getD i []))))
theorem Tabs.below {w w' : World} {b : Nat} (h : Tabs w b) (hb : Below w.heap.size w w') : Tabs w' b :=
  ⟨fun i hi => cell_keep hb (h.1 i hi), fun i hi => cell_keep hb (h.2.1 i hi), fun i hi => cell_keep hb (h.2.2 i hi)⟩
def tabW (l : List (List UInt8)) (t : TypeId) : Obj := .cells (l.map fun x => Value.string (bs x)).toArray t (0, 0)
theorem tabs_mk (w : World) : Tabs (((w.alloc (tabW lexW 32)).alloc (tabW lexT 32)).alloc (tabW lexG 33)) w.heap.size := by
  have key : ∀ (w : World) (b : Nat) (l : List (List UInt8)) (t : TypeId), w.heap[b]? = some (tabW l t) → ∀ i, i < l.length → w.cell? ⟨b, i, none⟩ = some (.string (bs (l.getD i []))) := by
    intro w b l t h i hi
    refine (cell_of_row _ b i _ t (0, 0) h).trans ?_
    simp [List.getD, List.getElem?_eq_getElem hi]
  refine ⟨fun i hi => key _ _ lexW 32 ?_ i (by exact hi), fun i hi => key _ _ lexT 32 ?_ i (by exact hi), fun i hi => key _ _ lexG 33 ?_ i (by exact hi)⟩
  · rw [Below.heap_alloc _ _ _ (by simp only [World.size_alloc]; omega), Below.heap_alloc _ _ _ (by simp only [World.size_alloc]; omega)]
    exact heap_alloc_new w _
  · have := heap_alloc_new (w.alloc (tabW lexW 32)) (tabW lexT 32)
    rw [World.size_alloc] at this
    rw [Below.heap_alloc _ _ _ (by simp only [World.size_alloc]; omega)]
    exact this
  · have := heap_alloc_new ((w.alloc (tabW lexW 32)).alloc (tabW lexT 32)) (tabW lexG 33)
    rw [World.size_alloc, World.size_alloc] at this
    exact this
theorem kind_two (i : Nat) (hi : i < 12) : lexK.getD i 0 = 2 ↔ i = 0 := by
  have : ∀ j : Fin 12, lexK.getD j.1 0 = 2 ↔ j.1 = 0 := by decide
  exact this ⟨i, hi⟩
set_option maxHeartbeats 4000000 in
set_option maxRecDepth 100000 in
theorem blanks_any (A B : Option Addr) (ca cb : Nat) (l m : List UInt8) (hl : l.length ≤ 9223372036854775807) (hml : m.length ≤ 9223372036854775807) (w : World) (hm : MaxL w) (hr : RdU w A l) (hrb : RdU w B m) : Calls Tryd.prog 4 #[.slice A l.length ca, .slice B m.length cb] w fun e w' => e = .returned (.bool true) ∧ Below w.heap.size w w' := by
  have HM := Lib.hid hm
  have HR := Lib.hid hr
  have HS := Lib.hid hrb
  clear hm hr hrb
  by_cases hbig : 60 < l.length
  · go_enter Tryd.func4, Tryd.ntmps4
    go_wp2_with fail
    refine (known_any _ HM.out).mono ?_
    rintro e w1 ⟨rfl, hb1⟩
    have HB1 := Lib.hid hb1
    clear hb1
    go_wp2_with fail
    go_ret
    exact ⟨rfl, HB1.out⟩
  · have hl60 : l.length ≤ 60 := by omega
    clear hbig hl
    go_enter Tryd.func4, Tryd.ntmps4
    go_wp2_with fail
    refine (known_any _ HM.out).mono ?_
    rintro e w1 ⟨rfl, hb1⟩
    have HB1 := Lib.hid hb1
    clear hb1
    go_wp2_with fail
    have ht := tabs_mk w1
    have hb2 : Below w.heap.size w (((w1.alloc (tabW lexW 32)).alloc (tabW lexT 32)).alloc (tabW lexG 33)) := (((HB1.out).alloc (by have := HB1.out.size; omega) _).alloc (by have := HB1.out.size; simp only [World.size_alloc]; omega) _).alloc (by have := HB1.out.size; simp only [World.size_alloc]; omega) _
    change Code.wp _ _ _ _ (((w1.alloc (tabW lexW 32)).alloc (tabW lexT 32)).alloc (tabW lexG 33))
    obtain ⟨b, hbb⟩ : ∃ b, w1.heap.size = b := ⟨_, rfl⟩
    rw [hbb] at ht ⊢
    generalize (((w1.alloc (tabW lexW 32)).alloc (tabW lexT 32)).alloc (tabW lexG 33)) = w2 at ht hb2 ⊢
    have HT := Lib.hid ht
    have HB2 := Lib.hid hb2
    have hmx : Below w1.heap.size w1 w2 → True := fun _ => trivial
    clear ht hb2 hbb hmx
    go_loopw [8, 9] (fun t i wr => ∃ k : Nat, k ≤ l.length ∧ i = .int .i64 k ∧ t = .string (bs (mixB l m k)) ∧ Below w2.heap.size w2 wr) (fun _ i _ => l.length - (intOf i).toNat)
    case atStart => exact ⟨0, Nat.zero_le _, rfl, rfl, Below.refl _ _⟩
    case round =>
      obtain ⟨k, hk, rfl, rfl, hb3⟩ := hrel
      have hwb : Below w.heap.size w wr := HB2.out.trans (hb3.mono HB2.out.size)
      have HWB := Lib.hid hwb
      have HB3 := Lib.hid hb3
      have HT3 := Lib.hid (HT.out.below hb3)
      have HR3 := Lib.hid (HR.out.below hwb)
      have HS3 := Lib.hid (HS.out.below hwb)
      clear hb3 hwb
      by_cases hlt : k < l.length
      · obtain ⟨x, hx⟩ : ∃ x, l[k]? = some x := ⟨l[k], List.getElem?_eq_getElem hlt⟩
        obtain ⟨ad, rfl, hc⟩ := HR3.out k x hx
        have hx255 : (x.toNat : Int) < 256 := by have := x.toNat_lt; omega
        have e1 : (pAt l m k).1 = x.toNat % 12 := by simp [pAt, List.getD, hx]
        have hcw := HT3.out.1 (x.toNat % 12) (Nat.mod_lt _ (by omega))
        have hS := mixB_len l m k
        have hsucc := Lib.hid (mixB_succ l m k)
        have hW : (lexW.getD (x.toNat % 12) []).length ≤ 6 := by
          have : ∀ j : Fin 12, (lexW.getD j.1 []).length ≤ 6 := by decide
          exact this ⟨x.toNat % 12, Nat.mod_lt _ (by omega)⟩
        by_cases hlm : k < m.length
        · obtain ⟨y, hy⟩ : ∃ y, m[k]? = some y := ⟨m[k], List.getElem?_eq_getElem hlm⟩
          obtain ⟨ae, rfl, hd⟩ := HS3.out k y hy
          have hy255 : (y.toNat : Int) < 256 := by have := y.toNat_lt; omega
          have e2 : (pAt l m k).2 = y.toNat % 6 := by
            show (if k < m.length then (m.getD k 0).toNat % 6 else 0) = _
            rw [if_pos hlm, show m.getD k 0 = y by rw [List.getD, hy]; rfl]
          have hcg := HT3.out.2.2 (y.toNat % 6) (Nat.mod_lt _ (by omega))
          have hG : (lexG.getD (y.toNat % 6) []).length ≤ 7 := by
            have : ∀ j : Fin 6, (lexG.getD j.1 []).length ≤ 7 := by decide
            exact this ⟨y.toNat % 6, Nat.mod_lt _ (by omega)⟩
          rw [e1, e2] at hsucc
          generalize lexG.getD (y.toNat % 6) [] = G at hcg hsucc hG
          generalize lexW.getD (x.toNat % 12) [] = W at hcw hsucc hW
          have a1 := add_run (bs (mixB l m k)) (bs W) (by rw [bs_size, bs_size]; omega)
          rw [bs_add] at a1
          have a2 := add_run (bs (mixB l m k ++ W)) (bs G) (by rw [bs_size, bs_size, List.length_append]; omega)
          rw [bs_add, List.append_assoc, ← hsucc.out] at a2
          clear hx hy e1 e2 hS hsucc hW hG
          go_wp2_with fail
          have b0 : (0 : Int) ≤ (x.toNat : Int) := by omega
          have b1 : (x.toNat : Int).tmod 12 = (x.toNat : Int) % 12 := Int.tmod_eq_emod_of_nonneg (by omega)
          have b2 : ((x.toNat : Int) % 12).toNat = x.toNat % 12 := by omega
          have b3 : ((y.toNat : Int) % 6).toNat = y.toNat % 6 := by omega
          have b4 : (0 : Int) ≤ (x.toNat : Int) % 12 := by omega
          have b5 : (x.toNat : Int) % 12 < 12 := by omega
          have b6 : (0 : Int) ≤ (y.toNat : Int) % 6 := by omega
          have b7 : (y.toNat : Int) % 6 < 6 := by omega
          go_quiet (fail)
          go_wp2_with fail
          go_roundw
          case rel => exact ⟨k + 1, by omega, by go_num, rfl, below_drewN HB3.out _⟩
          case measure => simp [intOf]; omega
        · have e2 : (pAt l m k).2 = 0 := by
            show (if k < m.length then (m.getD k 0).toNat % 6 else 0) = _
            rw [if_neg hlm]
          have hcg := HT3.out.2.2 0 (by omega)
          rw [e1, e2] at hsucc
          have hG : (lexG.getD 0 []).length ≤ 7 := by decide
          generalize lexG.getD 0 [] = G at hcg hsucc hG
          generalize lexW.getD (x.toNat % 12) [] = W at hcw hsucc hW
          have a1 := add_run (bs (mixB l m k)) (bs W) (by rw [bs_size, bs_size]; omega)
          rw [bs_add] at a1
          have a2 := add_run (bs (mixB l m k ++ W)) (bs G) (by rw [bs_size, bs_size, List.length_append]; omega)
          rw [bs_add, List.append_assoc, ← hsucc.out] at a2
          clear hx e1 e2 hS hsucc hW hG
          go_wp2_with fail
          have b0 : (0 : Int) ≤ (x.toNat : Int) := by omega
          have b1 : (x.toNat : Int).tmod 12 = (x.toNat : Int) % 12 := Int.tmod_eq_emod_of_nonneg (by omega)
          have b2 : ((x.toNat : Int) % 12).toNat = x.toNat % 12 := by omega
          have b4 : (0 : Int) ≤ (x.toNat : Int) % 12 := by omega
          have b5 : (x.toNat : Int) % 12 < 12 := by omega
          go_quiet (fail)
          go_wp2_with fail
          go_roundw
          case rel => exact ⟨k + 1, by omega, by go_num, rfl, below_drewN HB3.out _⟩
          case measure => simp [intOf]; omega
      · obtain rfl : k = l.length := by omega
        have hlaw := Lib.hid (blanks_law (mixP l m l.length) (by rw [mixP_len]; exact hl60) (mixP_lt l m _))
        have hT := Lib.hid (mixT_at (mixP l m l.length) 0)
        have hTl := Lib.hid (mixT_len (mixP l m l.length) 0)
        have hPl := Lib.hid (mixP_len l m l.length)
        obtain ⟨T, hTT⟩ : ∃ T, mixT 0 (mixP l m l.length) = T := ⟨_, rfl⟩
        have hBB : Hid (mixS (mixP l m l.length) = mixB l m l.length) := Lib.hid rfl
        rw [hTT] at hlaw hT hTl
        rw [hBB.out] at hlaw
        have hTlen : Hid (T.length = l.length) := Lib.hid (by rw [hTl.out, hPl.out])
        have hBL := mixB_len l m l.length
        obtain ⟨S, hS⟩ : ∃ S, mixB l m l.length = S := ⟨_, rfl⟩
        rw [hS] at hlaw hBL ⊢
        clear hTT hS
        go_wp2_with fail
        ((with_reducible refine (tokens_ok hlaw.out (by simp) wr).mono ?_); rintro e w4 ⟨g, cap4, rfl, hb4, hrd⟩)
        rw [List.length_append, hTlen.out]
        have HB4 := Lib.hid hb4
        have HR4 := Lib.hid hrd
        have HT4 := Lib.hid (HT3.out.below hb4)
        have HX4 := Lib.hid (HR3.out.below hb4)
        have hszS := bs_size S
        obtain ⟨z0, _, z2⟩ := hrd T.length ⟨0, [], S.length⟩ (by simp)
        rw [hTlen.out] at z0 z2
        clear hb4 hrd
        go_wp2_with fail
        go_loopw [14] (fun i wr' => ∃ k : Nat, k ≤ l.length ∧ i = .int .i64 k ∧ Below w4.heap.size w4 wr') (fun i _ => l.length - (intOf i).toNat)
        case atStart => exact ⟨0, Nat.zero_le _, rfl, Below.refl _ _⟩
        case round =>
          obtain ⟨k, hk', rfl, hb5⟩ := hrel
          have HB5 := Lib.hid hb5
          have z0 := cell_keep hb5 z0
          have z2 := cell_keep hb5 z2
          clear hk
          by_cases hlt' : k < l.length
          · obtain ⟨x, hx⟩ : ∃ x, l[k]? = some x := ⟨l[k], List.getElem?_eq_getElem hlt'⟩
            obtain ⟨ad, rfl, hc⟩ := HX4.out k x hx
            obtain ⟨q, hq⟩ := hT.out k _ (mixP_at l m l.length k hlt')
            have e1 : (pAt l m k).1 = x.toNat % 12 := by simp [pAt, List.getD, hx]
            rw [e1] at hq
            obtain ⟨c0, c1, _⟩ := HR4.out k _ (by rw [List.getElem?_append_left (by rw [hTlen.out]; exact hlt')]; exact hq)
            have c0 := cell_keep hb5 c0
            have c1 := cell_keep hb5 c1
            have hc := cell_keep hb5 hc
            have hct := cell_keep hb5 (HT4.out.2.1 (x.toNat % 12) (Nat.mod_lt _ (by omega)))
            have hk2 := kind_two (x.toNat % 12) (Nat.mod_lt _ (by omega))
            have hx255 : (x.toNat : Int) < 256 := by have := x.toNat_lt; omega
            have b2 : ((x.toNat : Int) % 12).toNat = x.toNat % 12 := by omega
            generalize lexT.getD (x.toNat % 12) [] = W at c1 hct
            by_cases h0 : x.toNat % 12 = 0
            · have c0' : wr.cell? ⟨g, k * 3, none⟩ = some (.int .i64 2) := by rw [hk2.2 h0] at c0; exact c0
              have e0 : ((x.toNat : Int) % 12 == 0) = true := by simp; omega
              clear hx hq e1 hk2 h0 c0 hb5
              go_wp2_with fail
              have b0 : (0 : Int) ≤ (x.toNat : Int) := by omega
              have b1 : (x.toNat : Int).tmod 12 = (x.toNat : Int) % 12 := Int.tmod_eq_emod_of_nonneg (by omega)
              have b4 : (0 : Int) ≤ (x.toNat : Int) % 12 := by omega
              have b5 : (x.toNat : Int) % 12 < 12 := by omega
              go_quiet (fail)
              go_wp2_with fail
              go_roundw
              case rel => exact ⟨k + 1, by omega, by go_num, below_drewN HB5.out _⟩
              case measure => simp [intOf]; omega
            · have e2 : ((lexK.getD (x.toNat % 12) 0 : Int) == 2) = false := by
                simp only [beq_eq_false_iff_ne, ne_eq]
                intro h
                exact h0 (hk2.1 (by omega))
              have e0 : ((x.toNat : Int) % 12 == 0) = false := by simp; omega
              clear hk2
              generalize lexK.getD (x.toNat % 12) 0 = KK at c0 e2
              clear hx hq e1 h0 hb5
              go_wp2_with fail
              have b0 : (0 : Int) ≤ (x.toNat : Int) := by omega
              have b1 : (x.toNat : Int).tmod 12 = (x.toNat : Int) % 12 := Int.tmod_eq_emod_of_nonneg (by omega)
              have b4 : (0 : Int) ≤ (x.toNat : Int) % 12 := by omega
              have b5 : (x.toNat : Int) % 12 < 12 := by omega
              go_quiet (fail)
              go_wp2_with fail
              go_roundw
              case rel => exact ⟨k + 1, by omega, by go_num, below_drewN HB5.out _⟩
              case measure => simp [intOf]; omega
          · obtain rfl : k = l.length := by omega
            clear hb5
            go_wp2_with fail
            go_ret
            exact ⟨rfl, HWB.out.trans ((HB4.out.trans (HB5.out.mono HB4.out.size)).mono HWB.out.size)⟩
end Go.Proofs.YtenbcmlacmepgaaDoor
