/- LexLongest's walk. -/
import Derived.Test.YtenbcmlacmepgaaDoorP
import Derived.Test.YtenbcmlacmepgaaDoorK
import Derived.Deep.QuietTactic
import Derived.BigQuiet
namespace Go.Proofs.YtenbcmlacmepgaaDoor
open Go.RowKit

/-- Small numbers that are read. -/
def RdU (w : World) (A : Option Addr) (l : List UInt8) : Prop := ∀ i (x : UInt8), l[i]? = some x → ∃ ad, A = some ad ∧ w.cell? (ad.add i) = some (.int .u8 x.toNat)
theorem RdU.below {w w' : World} {A : Option Addr} {l : List UInt8} (h : RdU w A l) (hb : Below w.heap.size w w') : RdU w' A l := fun i x hx => by
  obtain ⟨ad, e, h0⟩ := h i x hx
  exact ⟨ad, e, cell_keep hb h0⟩
def sgOf (x : UInt8) : UInt8 := sgB.getD (x.toNat % 20) 0
theorem sgOf_mem (x : UInt8) : sgOf x ∈ sgB := by
  unfold sgOf
  rw [getD_in _ _ _ (by simp [sgB]; omega)]
  exact List.getElem_mem _
theorem sg_cut (x : UInt8) : (bs sgB).extract (x.toNat % 20) (x.toNat % 20 + 1) = bs [sgOf x] := by
  rw [bs_extract]
  have : x.toNat % 20 < sgB.length := by simp [sgB]; omega
  congr 1
  rw [show x.toNat % 20 + 1 - x.toNat % 20 = 1 by omega, sgOf, getD_in _ _ _ this, List.drop_eq_getElem_cons this]
  rfl
def sgS (l : List UInt8) (k : Nat) : List UInt8 := (l.take k).map sgOf
theorem sgS_succ {l : List UInt8} {k : Nat} {x : UInt8} (h : l[k]? = some x) : sgS l (k + 1) = sgS l k ++ [sgOf x] := by
  unfold sgS
  rw [List.take_add_one, h]
  simp
theorem sgS_len (l : List UInt8) (k : Nat) : (sgS l k).length ≤ l.length := by simp [sgS]; omega
theorem sgS_mem (l : List UInt8) (k : Nat) : ∀ c ∈ sgS l k, c ∈ sgB := by
  intro c hc
  obtain ⟨x, _, rfl⟩ := List.mem_map.1 hc
  exact sgOf_mem x
def catS (l : List Tk) (k : Nat) : List UInt8 := (l.take k).flatMap Tk.text
theorem catS_succ {l : List Tk} {k : Nat} {t : Tk} (h : l[k]? = some t) : catS l (k + 1) = catS l k ++ t.text := by
  unfold catS
  rw [List.take_add_one, h]
  simp
theorem catS_all (l : List Tk) : catS l l.length = l.flatMap Tk.text := by simp [catS]
theorem catS_le (l : List Tk) (k : Nat) : (catS l k).length ≤ (l.flatMap Tk.text).length := by
  have : l.flatMap Tk.text = catS l k ++ (l.drop k).flatMap Tk.text := by
    unfold catS
    rw [← List.flatMap_append, List.take_append_drop]
  rw [this, List.length_append]
  omega
theorem catS_at {l : List Tk} {k : Nat} {t : Tk} (h : l[k]? = some t) : (catS l k).length + t.text.length ≤ (l.flatMap Tk.text).length := by
  have := catS_le l (k + 1)
  rw [catS_succ h, List.length_append] at this
  exact this
theorem bs_tl (l : List UInt8) : (bs l).toList = l := by rw [ByteArray.toList_eq, bs_list]
theorem row_len : ∀ (l : List Tk) (a : Nat) (r : List UInt8), Row a r l → l.length ≤ r.length := by
  intro l
  induction l with
  | nil => intro a r _; simp
  | cons t l ih =>
    intro a r ⟨_, _, h3, r', h4, _, h6⟩
    have := ih _ _ h6
    have : 1 ≤ t.text.length := by cases h : t.text with
      | nil => exact absurd h h3
      | cons _ _ => simp
    rw [h4, List.length_append, List.length_cons]
    omega
theorem two_no {c d : UInt8} (h : [c, d] ∉ twoL) : ∀ x ∈ twoL, ((bs [c, d]).toList == x) = false := by
  intro x hx
  rw [beq_eq_false_iff_ne]
  rintro rfl
  apply h
  rwa [bs_tl] at hx
set_option maxHeartbeats 4000000 in
set_option maxRecDepth 100000 in
theorem longest_any (A : Option Addr) (cap : Nat) (l : List UInt8) (hl : l.length ≤ 9223372036854775807) (w : World) (hm : MaxL w) (hr : RdU w A l) : Calls Tryd.prog 6 #[.slice A l.length cap] w fun e w' => e = .returned (.bool true) ∧ Below w.heap.size w w' := by
  have HM := Lib.hid hm
  have HR := Lib.hid hr
  clear hm hr
  by_cases hbig : 80 < l.length
  · go_enter Tryd.func6, Tryd.ntmps6
    go_wp2_with fail
    refine (known_any _ HM.out).mono ?_
    rintro e w1 ⟨rfl, hb1⟩
    have HB1 := Lib.hid hb1
    clear hb1
    go_wp2_with fail
    go_ret
    exact ⟨rfl, HB1.out⟩
  · go_enter Tryd.func6, Tryd.ntmps6
    go_wp2_with fail
    refine (known_any _ HM.out).mono ?_
    rintro e w1 ⟨rfl, hb1⟩
    have HB1 := Lib.hid hb1
    have HR1 := Lib.hid (HR.out.below hb1)
    clear hb1
    go_wp2_with fail
    have hl80 : l.length ≤ 80 := by omega
    clear hbig hl
    go_loopw [4, 5] (fun t i wr => ∃ k : Nat, k ≤ l.length ∧ i = .int .i64 k ∧ t = .string (bs (sgS l k)) ∧ Hid (wr = w1)) (fun _ i _ => l.length - (intOf i).toNat)
    case atStart => exact ⟨0, Nat.zero_le _, rfl, rfl, Lib.hid rfl⟩
    case round =>
      obtain ⟨k, hk, rfl, rfl, hw⟩ := hrel
      obtain rfl := hw.out
      by_cases hlt : k < l.length
      · obtain ⟨x, hx⟩ : ∃ x, l[k]? = some x := ⟨l[k], List.getElem?_eq_getElem hlt⟩
        obtain ⟨ad, rfl, hc⟩ := HR1.out k x hx
        have hx255 : (x.toNat : Int) < 256 := by have := x.toNat_lt; omega
        have hcut : ByteArray.extract ⟨#[123, 125, 40, 41, 91, 93, 44, 59, 58, 46, 61, 60, 62, 43, 45, 42, 47, 37, 38, 33]⟩ (x.toNat % 20) (x.toNat % 20 + 1) = bs [sgOf x] := sg_cut x
        have hadd := add_run (bs (sgS l k)) (bs [sgOf x]) (by rw [bs_size, bs_size]; have := sgS_len l k; simp; omega)
        rw [bs_add, ← sgS_succ hx] at hadd
        have HX := Lib.hid hx
        clear hx
        go_wp2_with fail
        go_roundw
        case rel => exact ⟨k + 1, hlt, by go_num, rfl, by first | exact Lib.hid rfl | exact Lib.hid trivial⟩
        case measure => simp [intOf]; omega
      · obtain rfl : k = l.length := by omega
        obtain ⟨S, hS⟩ : ∃ S, sgS l l.length = S := ⟨_, rfl⟩
        have hSm := sgS_mem l l.length
        have hSl := sgS_len l l.length
        rw [hS] at hSm hSl ⊢
        have hlaw := longest_law S (by omega) hSm
        clear hS hSm hk hlt
        rcases hlaw with ⟨b, h1, h2, h3⟩ | ⟨ts, h1, h2⟩
        · have H1 := Lib.hid h1
          have hbS : b < S.length := (List.getElem?_eq_some_iff.1 h2).1
          have hg2 : ∀ h : b < (bs S).size, (bs S)[b]'h = 33 := fun h => bs_at h2 h
          clear h1 h2
          have hsz := bs_size S
          by_cases hlast : b + 1 = S.length
          · have e1 : ((b : Int) + 1 == (S.length : Int)) = true := by simp; omega
            clear hlast h3
            go_wp2_with fail
            ((with_reducible refine (tokens_err H1.out wr).mono ?_); rintro e w2 ⟨rfl, hb2⟩)
            have HB2 := Lib.hid hb2
            clear hb2
            go_wp2_with fail
            go_ret
            exact ⟨rfl, HB1.out.trans (HB2.out.mono HB1.out.size)⟩
          · have e1 : ((b : Int) + 1 == (S.length : Int)) = false := by simp; omega
            have hb1 : b + 1 < S.length := by omega
            have e2 : ∀ h, ((((bs S)[b + 1]'h).toNat : Int) != 61) = true := fun h => by
              rw [bs_get]
              simp only [bne_iff_ne, ne_eq]
              intro hh
              apply h3
              rw [List.getElem?_eq_getElem hb1]
              congr 1
              exact UInt8.toNat_inj.1 (by have : (61 : UInt8).toNat = 61 := rfl; omega)
            clear hlast h3
            go_wp2_with fail
            ((with_reducible refine (tokens_err H1.out wr).mono ?_); rintro e w2 ⟨rfl, hb2⟩)
            have HB2 := Lib.hid hb2
            clear hb2
            go_wp2_with fail
            go_ret
            exact ⟨rfl, HB1.out.trans (HB2.out.mono HB1.out.size)⟩
        · have htl := row_len _ _ _ h2
          obtain ⟨hcat, hrow⟩ := row_at _ _ _ h2
          have H1 := Lib.hid h1
          have HC := Lib.hid hcat
          have HW := Lib.hid hrow
          clear h1 h2 hcat hrow
          go_wp2_with fail
          ((with_reducible refine (tokens_ok H1.out (by simp) wr).mono ?_); rintro e w2 ⟨g, cap2, rfl, hb2, hrd⟩)
          rw [List.length_append]
          have HB2 := Lib.hid hb2
          have HR2 := Lib.hid hrd
          clear hb2 hrd
          go_wp2_with fail
          go_loopw [10, 11] (fun t i wr => ∃ k : Nat, k ≤ ts.length ∧ i = .int .i64 k ∧ t = .string (bs (catS ts k)) ∧ Below w2.heap.size w2 wr) (fun _ i _ => ts.length - (intOf i).toNat)
          case atStart => exact ⟨0, Nat.zero_le _, rfl, rfl, Below.refl _ _⟩
          case round =>
            obtain ⟨k, hk, rfl, rfl, hb3⟩ := hrel
            have HB3 := Lib.hid hb3
            clear hb3
            have hszS := bs_size S
            have hszC := bs_size (catS ts k)
            by_cases hlt : k < ts.length
            · obtain ⟨t, ht⟩ : ∃ t, ts[k]? = some t := ⟨ts[k], List.getElem?_eq_getElem hlt⟩
              obtain ⟨r1, r2, r3, r4⟩ := HW.out k t ht
              obtain ⟨c0, c1, c2⟩ := HR2.out k t (by rw [List.getElem?_append_left hlt]; exact ht)
              rw [r1] at c0
              rw [show t.at_ = (catS ts k).length by rw [r2]; simp [catS]] at c2
              have c0 := cell_keep HB3.out c0
              have c1 := cell_keep HB3.out c1
              have c2 := cell_keep HB3.out c2
              have hcl := catS_at ht
              rw [← HC.out] at hcl
              have hszT := bs_size t.text
              have hadd := add_run (bs (catS ts k)) (bs t.text) (by rw [bs_size, bs_size]; omega)
              rw [bs_add, ← catS_succ ht] at hadd
              by_cases h1 : k + 1 < ts.length ∧ t.text.length = 1
              · obtain ⟨h1, h5⟩ := h1
                obtain ⟨t', ht'⟩ : ∃ t', ts[k + 1]? = some t' := ⟨ts[k + 1], List.getElem?_eq_getElem h1⟩
                obtain ⟨d, hd, htwo⟩ := r4 h5 t' ht'
                obtain ⟨d0, d1, d2⟩ := HR2.out (k + 1) t' (by rw [List.getElem?_append_left h1]; exact ht')
                have d0 := cell_keep HB3.out d0
                have d1 := cell_keep HB3.out d1
                have d2 := cell_keep HB3.out d2
                clear ht ht' r2 r3 r4
                obtain ⟨tx, htx⟩ : ∃ tx, t.text = tx := ⟨_, rfl⟩
                rw [htx] at c1 hcl hszT hadd h5 htwo
                obtain ⟨c, rfl⟩ : ∃ c, tx = [c] := by match tx, h5 with
                  | [c], _ => exact ⟨c, rfl⟩
                obtain ⟨ux, hux⟩ : ∃ ux, t'.text = ux := ⟨_, rfl⟩
                rw [hux] at hd d1
                obtain ⟨ux, rfl⟩ : ∃ y, ux = d :: y := by match ux, hd with
                  | e :: y, hd => exact ⟨y, by simp at hd; rw [hd]⟩
                have hcutu : (bs (d :: ux)).extract 0 1 = bs [d] := by rw [bs_extract]; rfl
                have hszU := bs_size (d :: ux)
                have hadd2 := add_run (bs [c]) (bs [d]) (by rw [bs_size, bs_size]; simp)
                rw [bs_add] at hadd2
                have hadd2 : ∀ w : World, (Op.stringOp .add (bs [c]) (bs [d])).run Tryd.prog w = .ok (.string (bs [c, d])) w := hadd2
                have h2n := two_no htwo
                have n0 := h2n [61, 61] (by decide)
                have n1 := h2n [33, 61] (by decide)
                have n2 := h2n [60, 61] (by decide)
                have n3 := h2n [62, 61] (by decide)
                have n4 := h2n [43, 37] (by decide)
                have n5 := h2n [45, 37] (by decide)
                have n6 := h2n [42, 37] (by decide)
                have n7 := h2n [45, 62] (by decide)
                clear h2n htwo hd h5 htx hux
                go_wp2_with fail
                go_quiet (fail)
                go_wp2_with fail
                go_roundw
                case rel => exact ⟨k + 1, by omega, by go_num, rfl, below_drewN HB3.out _⟩
                case measure => simp [intOf]; omega
              · by_cases h6 : k + 1 < ts.length
                · have h7 : ((t.text.length : Int) == 1) = false := by simp; omega
                  clear r4 h1 r2 r3 ht
                  go_wp2_with fail
                  go_roundw
                  case rel => exact ⟨k + 1, by omega, by go_num, rfl, HB3.out⟩
                  case measure => simp [intOf]; omega
                · clear r4 h1 r2 r3 ht
                  go_wp2_with fail
                  go_roundw
                  case rel => exact ⟨k + 1, by omega, by go_num, rfl, HB3.out⟩
                  case measure => simp [intOf]; omega
            · obtain rfl : k = ts.length := by omega
              have hall : ((bs (catS ts ts.length)).toList == (bs S).toList) = true := by rw [bs_tl, bs_tl, catS_all, ← HC.out]; simp
              go_wp2_with fail
              go_ret
              exact ⟨rfl, HB1.out.trans ((HB2.out.trans (HB3.out.mono HB2.out.size)).mono HB1.out.size)⟩
end Go.Proofs.YtenbcmlacmepgaaDoor
