/- Plain law: the reference's tokens are the program's. -/
import Derived.Test.YtenbcmlacmepgaaDoorPLexTokensx3
import Derived.Test.YtenbcmlacmepgaaDoorPLexTokensx4
import Derived.Test.YtenbcmlacmepgaaDoorPLexTokensx5
import Derived.Test.YtenbcmlacmepgaaDoorPLexTokensx6
namespace Go.Proofs.YtenbcmlacmepgaaDoor.PLexTokens
open Go.RowKit Go.Proofs.YtenbcmlacmepgaaDoorW.PrintWords Go.Proofs.YtenbcmlacmepgaaDoorW.PrintLast Go.Proofs.YtenbcmlacmepgaaDoorW.PrintMore

theorem wr1 (a : Nat) (h : a ≤ 1099511627776) : wrap64 ((a : Int) + 1) = ((a + 1 : Nat) : Int) := by unfold wrap64; omega
theorem wrn (a : Nat) (h : a ≤ 1099511627776) : wrap64 (a : Int) = (a : Int) := by unfold wrap64; omega
theorem bt_bs {l : List UInt8} {a : Nat} {c : UInt8} (h : l[a]? = some c) : bt (bs l) (a : Int) = (c.toNat : Int) := by
  obtain ⟨ha, hc⟩ := List.getElem?_eq_some_iff.1 h
  unfold bt
  rw [dif_pos (by rw [Int.toNat_natCast, bs_size]; exact ha)]
  rw [bs_get]
  simp only [Int.toNat_natCast, hc]
theorem drop_at0 {l : List UInt8} {a : Nat} {c : UInt8} {r : List UInt8} (h : l.drop a = c :: r) : l[a]? = some c ∧ a < l.length ∧ l.drop (a + 1) = r ∧ l.length = a + (r.length + 1) := by
  have h0 : (l.drop a)[0]? = some c := by rw [h]; rfl
  have h1 := congrArg List.length h
  simp at h1
  refine ⟨by simpa using h0, by omega, ?_, by omega⟩
  rw [← List.drop_drop, h]
  rfl
/-- Bytes as numbers. -/
def nb (l : List UInt8) : List Int := l.map fun b => (b.toNat : Int)
theorem nb_snoc (l : List UInt8) (c : UInt8) : nb l ++ [(c.toNat : Int)] = nb (l ++ [c]) := by simp [nb]
theorem nb_len (l : List UInt8) : (nb l).length = l.length := by simp [nb]
theorem str_nb (l : List UInt8) : strOfNums (nb l) = bs l := by
  unfold strOfNums nb bs
  rw [List.map_map]
  congr 2
  conv => rhs; rw [← List.map_id l]
  apply List.map_congr_left
  intro b _
  simp

/-! isWord -/
theorem words_f : windlassref5_Words.f = some (wordsL.map bs) := rfl
theorem isWord_loop (t : List UInt8) : ∀ (n i : Nat), 29 - i ≤ n → i ≤ 29 → Ev (fun k => windlassref5_isWord.l0 k (bs t) (wordsL.map bs) i) ((wordsL.drop i).contains t) := by
  intro n
  induction n with
  | zero =>
    intro i h1 h2
    obtain rfl : i = 29 := by omega
    refine Ev.step (f := fun _ => some false) (fun k => ?_) (Ev.now _)
    simp only [windlassref5_isWord.l0]
    rw [if_neg (by decide)]
  | succ n ih =>
    intro i h1 h2
    by_cases hi : i = 29
    · subst hi
      refine Ev.step (f := fun _ => some false) (fun k => ?_) (Ev.now _)
      simp only [windlassref5_isWord.l0]
      rw [if_neg (by decide)]
    · have hlt : i < wordsL.length := by show i < 29; omega
      have hrd : rdOf ByteArray.empty (wordsL.map bs) (i : Int) = bs wordsL[i] := by
        unfold rdOf
        rw [Int.toNat_natCast, getD_in _ _ _ (by simpa using hlt)]
        simp
      have hd : wordsL.drop i = wordsL[i] :: wordsL.drop (i + 1) := List.drop_eq_getElem_cons hlt
      rw [hd]
      have hl : ((wordsL.map bs).length : Int) = 29 := rfl
      by_cases he : wordsL[i] = t
      · refine Ev.step (f := fun _ => some true) (fun k => ?_) (by rw [he]; simp; exact Ev.now _)
        simp only [windlassref5_isWord.l0]
        rw [if_pos (by rw [hl]; omega), if_pos (by omega), hrd, bs_tl, bs_tl, if_pos he]
      · have hc : (wordsL[i] :: wordsL.drop (i + 1)).contains t = (wordsL.drop (i + 1)).contains t := by
          simp only [List.contains_cons]
          rw [show (t == wordsL[i]) = false by simpa using fun h => he h.symm]
          rfl
        rw [hc]
        refine Ev.step (fun k => ?_) (ih (i + 1) (by omega) (by omega))
        simp only [windlassref5_isWord.l0]
        rw [if_pos (by rw [hl]; omega), if_pos (by omega), hrd, bs_tl, bs_tl, if_neg he, wr1 i (by omega)]
theorem isWord_ev (t : List UInt8) : Ev (fun k => windlassref5_isWord.f k (bs t)) (wordsL.contains t) := by
  refine Ev.congr (fun k => ?_) (isWord_loop t 29 0 (by omega) (by omega))
  unfold windlassref5_isWord.f
  rw [words_f]
  rfl

/-! letters and digits -/
theorem letter_f (c : UInt8) : windlassref5_letter.f (c.toNat : Int) = some (letR c.toNat) := by
  unfold windlassref5_letter.f letR
  have h0 : (0 : Int) ≤ c.toNat := by omega
  repeat' split
  all_goals
    congr 1
    rw [Bool.eq_iff_iff]
    simp
    try omega
theorem digit_f (c : UInt8) : windlassref5_digit.f (c.toNat : Int) = some (digR c.toNat) := by
  unfold windlassref5_digit.f digR
  repeat' split
  all_goals
    congr 1
    rw [Bool.eq_iff_iff]
    simp
    try omega

/-! text -/
def textR : Option (List UInt8 × Nat) → Nat → List UInt8 → ByteArray × Int × Bool
  | some (t, n), i, acc => (bs (acc ++ t), ((i + n : Nat) : Int), true)
  | none, _, _ => (⟨#[]⟩, 0, false)
theorem nb_small (l : List UInt8) (h : l.length ≤ 4096) : (nb l).length < 140737488355328 := by rw [nb_len]; exact Nat.lt_of_le_of_lt h (by decide)
set_option maxHeartbeats 1000000 in
theorem text_loop (s : List UInt8) (hs : s.length ≤ 4096) : ∀ (n : Nat) (r : List UInt8) (i : Nat) (acc : List UInt8), r.length ≤ n → s.drop i = r → i ≤ s.length → acc.length ≤ i → Ev (fun k => windlassref5_text.l0 k (bs s) (nb acc) i) (textR (quo r) i acc) := by
  intro n
  induction n with
  | zero =>
    intro r i acc h1 h2 h3 h4
    obtain rfl : r = [] := List.eq_nil_of_length_eq_zero (by omega)
    have hi : i = s.length := by have := congrArg List.length h2; simp at this; omega
    refine Ev.step (f := fun _ => some ((⟨#[]⟩ : ByteArray), 0, false)) (fun k => ?_) (Ev.now _)
    simp only [windlassref5_text.l0]
    rw [if_neg (by rw [bs_size]; omega)]
  | succ n ih =>
    intro r i acc h1 h2 h3 h4
    cases r with
    | nil =>
      have hi : i = s.length := by have := congrArg List.length h2; simp at this; omega
      refine Ev.step (f := fun _ => some ((⟨#[]⟩ : ByteArray), 0, false)) (fun k => ?_) (Ev.now _)
      simp only [windlassref5_text.l0]
      rw [if_neg (by rw [bs_size]; omega)]
    | cons c r =>
      obtain ⟨g1, g2, g3, g4⟩ := drop_at0 h2
      have hlen : ∀ x : List UInt8, x.length ≤ i → (nb x).length < 140737488355328 := fun x hx => nb_small x (by omega)
      have hb := bt_bs g1
      simp only [List.length_cons] at h1
      by_cases hc : c = 34
      · subst hc
        have hb34 : bt (bs s) (i : Int) = 34 := hb
        cases r with
        | nil =>
          refine Ev.step (f := fun _ => some (strOfNums (nb acc), wrap64 ((i : Int) + 1), true)) (fun k => ?_) ?_
          · simp only [windlassref5_text.l0]
            rw [if_pos (by rw [bs_size]; omega), if_pos (by omega), if_pos hb34, if_pos (by rw [wr1 i (by omega), bs_size, g4]; simp)]
          · rw [str_nb, wr1 i (by omega)]
            have : textR (quo [34]) i acc = (bs acc, ((i + 1 : Nat) : Int), true) := by
              have : quo [34] = some ([], 1) := rfl
              rw [this]
              simp [textR]
            rw [this]
            exact Ev.now _
        | cons d r =>
          obtain ⟨f1, f2, f3, f4⟩ := drop_at0 g3
          have hA : (i : Int) < ((bs s).size : Int) := by rw [bs_size]; omega
          have hB : (0 : Int) ≤ (i : Int) := by omega
          have hne : ¬ (((i + 1 : Nat) : Int) = ((bs s).size : Int)) := by rw [bs_size]; omega
          have h01 : (0 : Int) ≤ ((i + 1 : Nat) : Int) := by omega
          have h02 : ((i + 1 : Nat) : Int) < ((bs s).size : Int) := by rw [bs_size]; omega
          have hl2 : r.length ≤ n := by simp at h1; omega
          have hi2 : i + 2 ≤ s.length := by omega
          have ha2 : (acc ++ [34]).length ≤ i + 2 := by simp; omega
          have hla := hlen acc h4
          have hd34 : d ≠ 34 → ¬ ((d.toNat : Int) = 34) := fun hd h => hd (UInt8.toNat_inj.1 (by have : (34 : UInt8).toNat = 34 := rfl; omega))
          have hb2 := bt_bs f1
          have hle1 : i ≤ 1099511627776 := by omega
          have hle2 : i + 1 ≤ 1099511627776 := by omega
          clear hlen g4 f4 hs
          have hw1 := wr1 i hle1
          have hw2 : wrap64 (((i + 1 : Nat) : Int) + 1) = ((i + 2 : Nat) : Int) := wr1 (i + 1) hle2
          by_cases hd : d = 34
          · subst hd
            have hq : quo (34 :: 34 :: r) = (quo r).map (fun p => (34 :: p.1, p.2 + 2)) := by rw [quo.eq_def]; simp
            have hr : textR (quo (34 :: 34 :: r)) i acc = textR (quo r) (i + 2) (acc ++ [34]) := by
              rw [hq]
              cases quo r with
              | none => rfl
              | some p =>
                simp only [Option.map_some, textR, List.append_assoc, List.cons_append, List.nil_append]
                rw [Nat.add_comm p.2 2, ← Nat.add_assoc]
            rw [hr]
            have hb234 : bt (bs s) ((i + 1 : Nat) : Int) = 34 := hb2
            have hacc : nb acc ++ [bt (bs s) ((i + 1 : Nat) : Int)] = nb (acc ++ [34]) := by rw [hb2]; exact nb_snoc acc 34
            refine Ev.step (fun k => ?_) (ih r (i + 2) (acc ++ [34]) hl2 f3 hi2 ha2)
            simp only [windlassref5_text.l0]
            rw [if_pos hA, if_pos hB, if_pos hb34, hw1, if_neg hne, if_pos h01, if_pos h02, if_pos hb234, if_pos hla, hacc, hw2]
          · have hq : quo (34 :: d :: r) = some ([], 1) := by rw [quo.eq_def]; simp [hd]
            have hr : textR (quo (34 :: d :: r)) i acc = (bs acc, ((i + 1 : Nat) : Int), true) := by rw [hq]; simp [textR]
            rw [hr]
            have hb2n : ¬ (bt (bs s) ((i + 1 : Nat) : Int) = 34) := by rw [hb2]; exact hd34 hd
            refine Ev.step (f := fun _ => some (strOfNums (nb acc), ((i + 1 : Nat) : Int), true)) (fun k => ?_) (by rw [str_nb]; exact Ev.now _)
            simp only [windlassref5_text.l0]
            rw [if_pos hA, if_pos hB, if_pos hb34, hw1, if_neg hne, if_pos h01, if_pos h02, if_neg hb2n]
      · have hc34 : ¬ (bt (bs s) (i : Int) = 34) := by
          rw [hb]
          exact fun h => hc (UInt8.toNat_inj.1 (by have : (34 : UInt8).toNat = 34 := rfl; omega))
        have hq : quo (c :: r) = (quo r).map (fun p => (c :: p.1, p.2 + 1)) := by rw [quo.eq_def]; simp [hc]
        have hr : textR (quo (c :: r)) i acc = textR (quo r) (i + 1) (acc ++ [c]) := by
          rw [hq]
          cases quo r with
          | none => rfl
          | some p => simp [textR]; omega
        rw [hr]
        refine Ev.step (fun k => ?_) (ih r (i + 1) (acc ++ [c]) (by omega) g3 (by omega) (by simp; omega))
        simp only [windlassref5_text.l0]
        rw [if_pos (by rw [bs_size]; omega), if_pos (by omega), if_neg hc34, if_pos (hlen acc h4), hb, nb_snoc, wr1 i (by omega)]
theorem text_ev (s : List UInt8) (hs : s.length ≤ 4096) (a : Nat) (l : List UInt8) (h : s.drop (a + 1) = l) (ha : a < s.length) : Ev (fun k => windlassref5_text.f k (bs s) a) (textR (quo l) (a + 1) []) := by
  refine Ev.congr (fun k => ?_) (text_loop s hs l.length l (a + 1) [] (Nat.le_refl _) h (by omega) (by simp))
  unfold windlassref5_text.f
  rw [wr1 a (by omega)]
  rfl
end Go.Proofs.YtenbcmlacmepgaaDoor.PLexTokens
