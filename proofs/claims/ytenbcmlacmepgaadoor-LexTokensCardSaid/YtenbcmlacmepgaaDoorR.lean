/- LexBack's walk. -/
import Derived.Test.YtenbcmlacmepgaaDoorM
namespace Go.Proofs.YtenbcmlacmepgaaDoor
open Go.RowKit

theorem step_bad {c : UInt8} {l : List UInt8} {e : Nat} (h : step c l = .bad e) : e = 51 ∨ e = 52 := by
  unfold step at h
  split at h
  · cases h
  split at h
  · cases h
  split at h
  · cases h
  split at h
  · cases h
  split at h
  · unfold stepQ at h
    split at h
    · cases h
    · injection h with h; omega
  · unfold stepS at h
    split at h
    · cases h
    · injection h with h; omega
theorem tk_err : ∀ (n : Nat) (r : List UInt8) (a : Nat) (out : List Tk) (b x : Nat), r.length ≤ n → tk r a out = .error (b, x) → x = 51 ∨ x = 52 := by
  intro n
  induction n with
  | zero =>
    intro r a out b x hn h
    obtain rfl : r = [] := List.eq_nil_of_length_eq_zero (by omega)
    rw [tk_nil] at h
    cases h
  | succ n ih =>
    intro r a out b x hn h
    cases r with
    | nil => rw [tk_nil] at h; cases h
    | cons c r =>
      simp only [List.length_cons] at hn
      cases hs : step c r with
      | skip m =>
        have := step_skip_pos hs
        rw [tk_skip hs] at h
        exact ih _ _ _ _ _ (by rw [List.length_drop]; simp; omega) h
      | tok k t m =>
        have := step_tok_pos hs
        rw [tk_tok hs] at h
        exact ih _ _ _ _ _ (by rw [List.length_drop]; simp; omega) h
      | bad e =>
        rw [tk_bad hs] at h
        injection h with h
        injection h with _ h
        rw [← h]
        exact step_bad hs
theorem toks_err_pos {s : List UInt8} {a x : Nat} (h : toks s = .error (a, x)) : x ≠ 0 := by
  by_cases hl : 4096 < s.length
  · unfold toks at h
    rw [if_pos hl] at h
    injection h with h
    injection h with _ h
    omega
  · rw [toks_tk (by omega)] at h
    have := tk_err _ _ _ _ _ _ (Nat.le_refl _) h
    omega
def rendN (l : List Tk) (k : Nat) : List UInt8 := rendS (l.take k)
theorem rendN_succ {l : List Tk} {k : Nat} {t : Tk} (h : l[k]? = some t) : rendN l (k + 1) = rendN l k ++ rend t.kind t.text := by
  unfold rendN
  rw [List.take_add_one, h]
  simp [rendS]
theorem rendN_all (l : List Tk) : rendN l l.length = rendS l := by simp [rendN]
theorem rend_len (k : Nat) (t : List UInt8) : (rend k t).length ≤ 2 * t.length + 3 := by
  have := dbl_len t
  unfold rend
  split
  · simp [quoteL]; omega
  · simp; omega
theorem rendN_len {l : List Tk} (h : ∀ t ∈ l, t.text.length ≤ 1500 ∧ t.kind ≤ 5) (k : Nat) (hk : k ≤ l.length) : (rendN l k).length ≤ 3003 * k := by
  induction k with
  | zero => simp [rendN, rendS]
  | succ k ih =>
    have ht : l[k]? = some l[k] := List.getElem?_eq_getElem (by omega)
    have := h _ (List.getElem_mem (by omega : k < l.length))
    have h2 := rend_len (l[k]).kind (l[k]).text
    rw [rendN_succ ht, List.length_append]
    have := ih (by omega)
    omega
set_option maxHeartbeats 4000000 in
set_option maxRecDepth 100000 in
theorem back_any (s : List UInt8) (hs : s.length ≤ 9223372036854775807) (w : World) (hm : MaxL w) : Calls Tryd.prog 3 #[.string (bs s)] w fun e w' => e = .returned (.bool true) ∧ Below w.heap.size w w' := by
  have hsz := bs_size s
  have HM := Lib.hid hm
  clear hm
  by_cases hbig : 1500 < s.length
  · go_enter Tryd.func3, Tryd.ntmps3
    go_wp2_with fail
    refine (known_any _ HM.out).mono ?_
    rintro e w1 ⟨rfl, hb1⟩
    have HB1 := Lib.hid hb1
    clear hb1
    go_wp2_with fail
    go_ret
    exact ⟨rfl, HB1.out⟩
  · have hl : s.length ≤ 1500 := by omega
    clear hbig hs
    cases htk : toks s with
    | error p =>
      obtain ⟨a, x⟩ := p
      have hx : x ≠ 0 := toks_err_pos htk
      have hx1 : ((x : Int) != 0) = true := by simp; omega
      have HT := Lib.hid htk
      clear htk
      go_enter Tryd.func3, Tryd.ntmps3
      go_wp2_with fail
      refine (known_any _ HM.out).mono ?_
      rintro e w1 ⟨rfl, hb1⟩
      have HB1 := Lib.hid hb1
      clear hb1
      go_wp2_with fail
      ((with_reducible refine (tokens_err HT.out w1).mono ?_); rintro e w2 ⟨rfl, hb2⟩)
      have HB2 := Lib.hid hb2
      clear hb2
      go_wp2_with fail
      go_ret
      exact ⟨rfl, HB1.out.trans (HB2.out.mono HB1.out.size)⟩
    | ok ts =>
      obtain ⟨hne, htl, hsm⟩ := toks_small hl htk
      have HLaw := Lib.hid (back_law s ts hl htk)
      have HT := Lib.hid htk
      have HSm := Lib.hid hsm
      have HNe := Lib.hid hne
      clear htk hsm hne
      go_enter Tryd.func3, Tryd.ntmps3
      go_wp2_with fail
      refine (known_any _ HM.out).mono ?_
      rintro e w1 ⟨rfl, hb1⟩
      have HB1 := Lib.hid hb1
      have HM1 := Lib.hid (HM.out.below hb1)
      clear hb1
      go_wp2_with fail
      ((with_reducible refine (tokens_ok HT.out HNe.out w1).mono ?_); rintro e w2 ⟨g, cap, rfl, hb2, hrd⟩)
      have HB2 := Lib.hid (HB1.out.trans (hb2.mono HB1.out.size))
      have HM2 := Lib.hid (HM1.out.below hb2)
      have HR2 := Lib.hid hrd
      clear hb2 hrd
      go_wp2_with fail
      go_loopw [6, 7] (fun t i wr => ∃ k : Nat, k ≤ ts.length ∧ i = .int .i64 k ∧ t = .string (bs (rendN ts k)) ∧ Below w2.heap.size w2 wr) (fun _ i _ => ts.length - (intOf i).toNat)
      case atStart => exact ⟨0, Nat.zero_le _, rfl, rfl, Below.refl _ _⟩
      case round =>
        obtain ⟨k, hk, rfl, rfl, hb3⟩ := hrel
        by_cases hlt : k < ts.length
        · obtain ⟨t, ht⟩ : ∃ t, ts[k]? = some t := ⟨ts[k], List.getElem?_eq_getElem hlt⟩
          obtain ⟨c0, c1, _⟩ := HR2.out k t ht
          have c0 := cell_keep hb3 c0
          have c1 := cell_keep hb3 c1
          obtain ⟨q1, q2⟩ := HSm.out t (List.mem_of_getElem? ht)
          have hN := rendN_len HSm.out k hk
          have hN1 := rendN_len HSm.out (k + 1) hlt
          have hS := Lib.hid (rendN_succ ht)
          have HB3 := Lib.hid hb3
          have hq := Lib.hid (quote_any t.text (by omega) wr (HM2.out.below hb3))
          have hql := rend_len t.kind t.text
          have hql4 := rend_len 4 t.text
          clear hb3 ht
          by_cases h4 : t.kind = 4
          · rw [h4] at c0 hS hql
            have e4 : (((4 : Nat) : Int) == 4) = true := rfl
            have hr : rend 4 t.text = quoteL t.text ++ [32] := rfl
            rw [hr] at hS hql
            have hQl : (quoteL t.text).length ≤ 3003 := by rw [List.length_append] at hql; simp at hql; omega
            obtain ⟨Q, hQ⟩ : ∃ Q, quoteL t.text = Q := ⟨_, rfl⟩
            rw [hQ] at hS hql hq hQl
            have a1 := add_run (bs (rendN ts k)) (bs Q) (by rw [bs_size, bs_size]; omega)
            rw [bs_add] at a1
            have a2 := add_run (bs (rendN ts k ++ Q)) (bs [32]) (by rw [bs_size, bs_size, List.length_append]; simp; omega)
            rw [bs_add, List.append_assoc, ← hS.out] at a2
            have a2' : ∀ w : World, (Op.stringOp .add (bs (rendN ts k ++ Q)) ⟨#[32]⟩).run Tryd.prog w = _ := a2
            clear hr hS hql hQ hql4 a2 h4 hN1 hQl
            go_wp2_with fail
            refine hq.out.mono ?_
            rintro e w3 ⟨rfl, hb4⟩
            have HB4 := Lib.hid (HB3.out.trans (hb4.mono HB3.out.size))
            clear hb4
            go_wp2_with fail
            go_roundw
            case rel => exact ⟨k + 1, by omega, by go_num, rfl, HB4.out⟩
            case measure => simp [intOf]; omega
          · have e4 : ((t.kind : Int) == 4) = false := by simp; omega
            have hr : rend t.kind t.text = t.text ++ [32] := by unfold rend; rw [if_neg h4]
            rw [hr] at hS
            have a1 := add_run (bs (rendN ts k)) (bs t.text) (by rw [bs_size, bs_size]; omega)
            rw [bs_add] at a1
            have a2 := add_run (bs (rendN ts k ++ t.text)) (bs [32]) (by rw [bs_size, bs_size, List.length_append]; simp; omega)
            rw [bs_add, List.append_assoc, ← hS.out] at a2
            have a2' : ∀ w : World, (Op.stringOp .add (bs (rendN ts k ++ t.text)) ⟨#[32]⟩).run Tryd.prog w = _ := a2
            clear hr hS hql hql4 a2 h4 hN1
            go_wp2_with fail
            go_roundw
            case rel => exact ⟨k + 1, by omega, by go_num, rfl, HB3.out⟩
            case measure => simp [intOf]; omega
        · obtain rfl : k = ts.length := by omega
          have hall := rendN_all ts
          obtain ⟨R, hR⟩ : ∃ R, rendS ts = R := ⟨_, rfl⟩
          rw [hall, hR]
          rw [hR] at HLaw
          have hszR := bs_size R
          have HB3 := Lib.hid hb3
          have HM3 := Lib.hid (HM2.out.below hb3)
          have HR3 : Hid (∀ (i : Nat) (t : Tk), ts[i]? = some t → wr.cell? ⟨g, i * 3, none⟩ = some (.int .i64 t.kind) ∧ wr.cell? ⟨g, i * 3 + 1, none⟩ = some (.string (bs t.text))) := Lib.hid (fun i t ht => ⟨cell_keep hb3 (HR2.out i t ht).1, cell_keep hb3 (HR2.out i t ht).2.1⟩)
          clear hb3 hall hR
          by_cases hbig : 4096 < R.length
          · go_wp2_with fail
            go_ret
            exact ⟨rfl, HB2.out.trans (HB3.out.mono HB2.out.size)⟩
          · obtain ⟨m, hm, hml, hma⟩ := HLaw.out (by omega)
            have HMk := Lib.hid hm
            have HMl := Lib.hid hml
            have HMa := Lib.hid hma
            have hne : m ≠ [] := by
              rintro rfl
              exact HNe.out (List.eq_nil_of_length_eq_zero (by rw [← hml]; rfl))
            have HNe2 := Lib.hid hne
            clear hm hml hma hne
            go_wp2_with fail
            ((with_reducible refine (tokens_ok HMk.out HNe2.out wr).mono ?_); rintro e w4 ⟨g2, cap2, rfl, hb4, hrd2⟩)
            rw [HMl.out]
            have HB4 := Lib.hid (HB3.out.trans (hb4.mono HB3.out.size))
            have HR4 : Hid (∀ (i : Nat) (t : Tk), ts[i]? = some t → (w4.cell? ⟨g, i * 3, none⟩ = some (.int .i64 t.kind) ∧ w4.cell? ⟨g, i * 3 + 1, none⟩ = some (.string (bs t.text))) ∧ (w4.cell? ⟨g2, i * 3, none⟩ = some (.int .i64 t.kind) ∧ w4.cell? ⟨g2, i * 3 + 1, none⟩ = some (.string (bs t.text)))) := Lib.hid (fun i t ht => by
              obtain ⟨p, hp⟩ := HMa.out i t ht
              obtain ⟨d0, d1, _⟩ := hrd2 i _ hp
              exact ⟨⟨cell_keep hb4 (HR3.out i t ht).1, cell_keep hb4 (HR3.out i t ht).2⟩, d0, d1⟩)
            clear hb4 hrd2
            go_wp2_with fail
            go_loopw [10] (fun i wr' => ∃ k : Nat, k ≤ ts.length ∧ i = .int .i64 k ∧ Below w4.heap.size w4 wr') (fun i _ => ts.length - (intOf i).toNat)
            case atStart => exact ⟨0, Nat.zero_le _, rfl, Below.refl _ _⟩
            case round =>
              obtain ⟨k, hk', rfl, hb5⟩ := hrel
              have HB5 := Lib.hid hb5
              clear hk
              by_cases hlt' : k < ts.length
              · obtain ⟨t, ht⟩ : ∃ t, ts[k]? = some t := ⟨ts[k], List.getElem?_eq_getElem hlt'⟩
                obtain ⟨⟨c0, c1⟩, d0, d1⟩ := HR4.out k t ht
                have c0 := cell_keep hb5 c0
                have c1 := cell_keep hb5 c1
                have d0 := cell_keep hb5 d0
                have d1 := cell_keep hb5 d1
                have e1 : ((t.kind : Int) != (t.kind : Int)) = false := by simp
                clear ht hb5
                go_wp2_with fail
                go_quiet (fail)
                go_wp2_with fail
                go_roundw
                case rel => exact ⟨k + 1, by omega, by go_num, below_drewN HB5.out _⟩
                case measure => simp [intOf]; omega
              · obtain rfl : k = ts.length := by omega
                clear hb5
                go_wp2_with fail
                go_ret
                exact ⟨rfl, HB2.out.trans ((HB4.out.trans (HB5.out.mono (by have := HB4.out.size; omega))).mono HB2.out.size)⟩
end Go.Proofs.YtenbcmlacmepgaaDoor
