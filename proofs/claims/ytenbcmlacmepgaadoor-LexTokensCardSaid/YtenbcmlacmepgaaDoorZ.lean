/- LexTokens' walk. -/
import Derived.Test.YtenbcmlacmepgaaDoorY
namespace Go.Proofs.YtenbcmlacmepgaaDoor
open Go.RowKit PLexTokens Go.Proofs.YtenbcmlacmepgaaDoorW.PrintWords Go.Proofs.YtenbcmlacmepgaaDoorW.PrintLast

theorem c_of_own {w : World} {B n c : Nat} {A : Option Addr} {l : List Tk} (h : w.ownsRow B 28 3 (.slice A n c) n (tkCells l)) (hn : l.length = n) (hs : n ≤ 9223372036854775807) : Kd.C k28 w A n (l.map toS) ∧ n ≤ c := by
  refine ⟨⟨by simp [hn], hs, fun hpos => ?_⟩, ?_⟩
  · rcases h.2 with ⟨_, h0⟩ | ⟨g', cap, cur, hv, _⟩
    · omega
    · have e : A = some ⟨g', 0, none⟩ := by injection hv
      subst e
      have hc := h.cells (g := g') rfl
      refine ⟨_, rfl, fun j p hp => ?_⟩
      obtain ⟨t, ht, rfl⟩ : ∃ t, l[j]? = some t ∧ toS t = p := by
        rw [List.getElem?_map] at hp
        cases ht : l[j]? with
        | none => rw [ht] at hp; cases hp
        | some t => rw [ht] at hp; exact ⟨t, rfl, Option.some.inj hp⟩
      refine ⟨t.cells, rfl, k28_mk _ _, fun i u hu => ?_⟩
      have hi : i < 3 := by
        have := (List.getElem?_eq_some_iff.1 hu).1
        simpa [Tk.cells] using this
      exact hc (j * 3 + i) u ((tkCells_at l j t ht i hi).trans hu)
  · rcases h.2 with ⟨hv, h0⟩ | ⟨g', cap, cur, hv, _, _, _, hle, _⟩
    · omega
    · have e : c = cap := by injection hv
      omega
theorem c_nil (w : World) : Kd.C k28 w none 0 [] := ⟨rfl, by omega, fun h => by omega⟩
theorem toks_len {s : List UInt8} {l : List Tk} (h : toks s = .ok l) : l.length ≤ 4097 := by
  by_cases hl : 4096 < s.length
  · unfold toks at h
    rw [if_pos hl] at h
    cases h
  · rw [toks_tk (by omega)] at h
    have := (tk_small s.length s 0 [] l (Nat.le_refl _) h).1
    simp at this
    omega
theorem res_len (s : List UInt8) : (res (toks s)).1.length ≤ 4097 := by
  cases h : toks s with
  | ok l =>
    show (l.map toS).length ≤ _
    rw [List.length_map]
    exact toks_len h
  | error p => simp [res]
theorem tokens_res (s : List UInt8) (w : World) : Calls Tryd.prog 9 #[.string (bs s)] w fun e w' => ∃ A c, e = .returned (.tuple #[.slice A (res (toks s)).1.length c, .int .i64 (res (toks s)).2.1, .int .i64 (res (toks s)).2.2]) ∧ Below w.heap.size w w' ∧ Kd.C k28 w' A (res (toks s)).1.length (res (toks s)).1 ∧ (res (toks s)).1.length ≤ c := by
  refine (tokens_any s w).mono ?_
  intro e w' hp
  cases h : toks s with
  | ok l =>
    have hlen := toks_len h
    rw [h] at hp
    obtain ⟨hb, A, cap, rfl, ho⟩ := hp
    obtain ⟨h1, h2⟩ := c_of_own ho rfl (by omega)
    refine ⟨A, cap, ?_, hb, ?_, ?_⟩
    · simp [res]
    · show Kd.C k28 w' A (l.map toS).length (l.map toS)
      rw [List.length_map]; exact h1
    · show (l.map toS).length ≤ cap
      rw [List.length_map]; exact h2
  | error p =>
    rw [h] at hp
    obtain ⟨hb, rfl⟩ := hp
    exact ⟨none, 0, rfl, hb, c_nil _, Nat.le_refl _⟩
theorem tokens_ref (s : List UInt8) (w : World) : Calls Tryd.prog 11 #[.string (bs s)] w fun e w' => ∃ A c, e = .returned (.tuple #[.slice A (res (toks s)).1.length c, .int .i64 (res (toks s)).2.1, .int .i64 (res (toks s)).2.2]) ∧ Below w.heap.size w w' ∧ Kd.C k28 w' A (res (toks s)).1.length (res (toks s)).1 ∧ (res (toks s)).1.length ≤ c := by
  obtain ⟨k, hk⟩ := (tokens_ev s).rounds
  refine (windlassref5_Tokens.calls k (bs s) _ _ _ w hk).mono ?_
  rintro e w' ⟨v0, rfl, hR, hb⟩
  obtain ⟨A, c, rfl, hc, hC⟩ := Kd.R_reads hR
  exact ⟨A, c, rfl, hb, hC, hc⟩
theorem c_of_row {w : World} {b : Nat} {L : List (List UInt8)} (h : RowAt w b L) (hl : L.length ≤ 9223372036854775807) : Kd.C Kd.string w (some ⟨b, 0, none⟩) L.length (L.map bs) := by
  refine ⟨by simp, hl, fun _ => ⟨_, rfl, fun j p hp => ⟨[.string p], rfl, rfl, fun i u hu => ?_⟩⟩⟩
  obtain ⟨x, hx, rfl⟩ : ∃ x, L[j]? = some x ∧ bs x = p := by
    rw [List.getElem?_map] at hp
    cases hx : L[j]? with
    | none => rw [hx] at hp; cases hp
    | some x => rw [hx] at hp; exact ⟨x, rfl, Option.some.inj hp⟩
  have hi : i = 0 := by
    have := (List.getElem?_eq_some_iff.1 hu).1
    simp at this; omega
  subst hi
  obtain rfl : Value.string (bs x) = u := by simpa using hu
  have e : (⟨b, 0, none⟩ : Addr).add (j * Kd.string.sz + 0) = ⟨b, j, none⟩ := by
    show (⟨b, 0, none⟩ : Addr).add (j * 1 + 0) = _
    unfold Addr.add
    split <;> simp_all
  rw [e]
  exact h.cell hx
set_option maxHeartbeats 4000000 in
set_option maxRecDepth 100000 in
theorem lexTokens_any (s : List UInt8) (hs : s.length ≤ 9223372036854775807) (w : World) (hm : MaxL w) : Calls Tryd.prog 7 #[.string (bs s)] w fun e w' => e = .returned (.bool true) ∧ Below w.heap.size w w' := by
  have hsz := bs_size s
  have HM := Lib.hid hm
  clear hm
  by_cases hbig : 5000 < s.length
  · go_enter Tryd.func7, Tryd.ntmps7
    go_wp2_with fail
    refine (known_any _ HM.out).mono ?_
    rintro e w1 ⟨rfl, hb1⟩
    have HB1 := Lib.hid hb1
    clear hb1
    go_wp2_with fail
    go_ret
    exact ⟨rfl, HB1.out⟩
  · have hl : s.length ≤ 5000 := by omega
    have T1 := Lib.hid (tokens_res s)
    have T2 := Lib.hid (tokens_ref s)
    have hLl := res_len s
    obtain ⟨L, x, y, hR⟩ : ∃ L x y, res (toks s) = (L, x, y) := ⟨_, _, _, rfl⟩
    rw [hR] at T1 T2 hLl
    simp only at T1 T2 hLl
    obtain ⟨k1, hk1⟩ := (sameTokens_ev L (by omega)).rounds
    obtain ⟨k2, hk2⟩ := (name_ev hl).rounds
    obtain ⟨k3, hk3⟩ := (quote_ev hl).rounds
    obtain ⟨k4, hk4⟩ := (texts_ev wordsL (by decide)).rounds
    have K1 := Lib.hid hk1
    have K2 := Lib.hid hk2
    have K3 := Lib.hid hk3
    have K4 := Lib.hid hk4
    clear hbig hs hR hk1 hk2 hk3 hk4
    go_enter Tryd.func7, Tryd.ntmps7
    go_wp2_with fail
    refine (known_any _ HM.out).mono ?_
    rintro e w1 ⟨rfl, hb1⟩
    have HB1 := Lib.hid hb1
    have HM1 := Lib.hid (HM.out.below hb1)
    clear hb1
    go_wp2_with fail
    refine (T1.out w1).mono ?_
    rintro e w2 ⟨A1, c1, rfl, hb2, hC1, hc1⟩
    have HB2 := Lib.hid (HB1.out.trans (hb2.mono HB1.out.size))
    have HM2 := Lib.hid (HM1.out.below hb2)
    have HC1 := Lib.hid hC1
    have Hc1 := Lib.hid hc1
    clear hb2 hC1 hc1
    go_wp2_with fail
    refine (T2.out w2).mono ?_
    rintro e w3 ⟨A2, c2, rfl, hb3, hC2, hc2⟩
    have HB3 := Lib.hid (HB2.out.trans (hb3.mono HB2.out.size))
    have HM3 := Lib.hid (HM2.out.below hb3)
    have HC1' := Lib.hid (Kd.C_below HC1.out hb3)
    have HC2 := Lib.hid hC2
    have Hc2 := Lib.hid hc2
    clear hb3 hC2 hc2
    go_wp2_with fail
    refine (windlasshelp_Tokens.calls k1 A1 c1 L A2 c2 L true w3 HC1'.out Hc1.out HC2.out Hc2.out K1.out).mono ?_
    rintro e w4 ⟨rfl, hd4⟩
    have HB4 := Lib.hid (HB3.out.trans (hd4.below.mono HB3.out.size))
    have HM4 := Lib.hid (HM3.out.below hd4.below)
    have e1 : (x == x) = true := by simp
    have e2 : (y == y) = true := by simp
    clear hd4
    go_wp2_with fail
    refine (words_any w4).mono ?_
    rintro e w5 ⟨rfl, rfl⟩
    have hrow : RowAt (w4.alloc (rowC wordsL)) w4.heap.size wordsL := heap_alloc_new w4 _
    have HW5 := Lib.hid (c_of_row hrow (by decide))
    have HB5 := Lib.hid (HB4.out.alloc HB4.out.size (rowC wordsL))
    have HM5 := Lib.hid (HM4.out.below ((Below.refl w4.heap.size w4).alloc (Nat.le_refl _) (rowC wordsL)))
    clear hrow
    obtain ⟨w5, hw5⟩ : ∃ w5, w4.alloc (rowC wordsL) = w5 := ⟨_, rfl⟩
    rw [hw5] at HW5 HB5 HM5 ⊢
    clear hw5
    go_wp2_with fail
    refine (windlassref5_Words.calls _ w5 words_f).mono ?_
    rintro e w6 ⟨v6, rfl, hR6, hb6⟩
    obtain ⟨A6, c6, rfl, hc6, hC6⟩ := Kd.R_reads hR6
    have HB6 := Lib.hid (HB5.out.trans (hb6.mono HB5.out.size))
    have HM6 := Lib.hid (HM5.out.below hb6)
    have HW6 := Lib.hid (Kd.C_below HW5.out hb6)
    have HC6 := Lib.hid hC6
    have Hc6 := Lib.hid hc6
    clear hR6 hb6 hC6 hc6
    go_wp2_with fail
    refine (windlasshelp_Texts.calls k4 (some ⟨w4.heap.size, 0, none⟩) 29 (wordsL.map bs) A6 c6 (wordsL.map bs) true w6 HW6.out (by decide) HC6.out Hc6.out K4.out).mono ?_
    rintro e w7 ⟨rfl, hd7⟩
    have HB7 := Lib.hid (HB6.out.trans (hd7.below.mono HB6.out.size))
    have HM7 := Lib.hid (HM6.out.below hd7.below)
    clear hd7
    go_wp2_with fail
    refine (name_any s (by omega) w7).mono ?_
    rintro e w8 ⟨rfl, hb8⟩
    have HB8 := Lib.hid (HB7.out.trans (hb8.mono HB7.out.size))
    have HM8 := Lib.hid (HM7.out.below hb8)
    clear hb8
    go_wp2_with fail
    refine (windlassref5_Name.calls k2 (bs s) (nameB s) w8 K2.out).mono ?_
    rintro e w9 ⟨rfl, hb9⟩
    have HB9 := Lib.hid (HB8.out.trans (hb9.mono HB8.out.size))
    have HM9 := Lib.hid (HM8.out.below hb9)
    have e3 : (nameB s == nameB s) = true := by simp
    clear hb9
    go_wp2_with fail
    refine (quote_any s (by omega) w9 HM9.out).mono ?_
    rintro e w10 ⟨rfl, hb10⟩
    have HB10 := Lib.hid (HB9.out.trans (hb10.mono HB9.out.size))
    clear hb10
    go_wp2_with fail
    refine (windlassref5_Quote.calls k3 (bs s) (bs (quoteL s)) w10 K3.out).mono ?_
    rintro e w11 ⟨rfl, hb11⟩
    have HB11 := Lib.hid (HB10.out.trans (hb11.mono HB10.out.size))
    clear hb11
    go_wp2_with fail
    go_ret
    exact ⟨by simp, HB11.out⟩
end Go.Proofs.YtenbcmlacmepgaaDoor
