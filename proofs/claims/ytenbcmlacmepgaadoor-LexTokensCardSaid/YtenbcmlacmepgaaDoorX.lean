/- Plain law: the reference's names and quotes. -/
import Derived.Test.YtenbcmlacmepgaaDoorV
namespace Go.Proofs.YtenbcmlacmepgaaDoor.PLexTokens
open Go.RowKit Go.Proofs.YtenbcmlacmepgaaDoorW.PrintWords Go.Proofs.YtenbcmlacmepgaaDoorW.PrintLast Go.Proofs.YtenbcmlacmepgaaDoorW.PrintMore

/-! names -/
def smallR (b : Int) : Bool := (decide (97 ≤ b) && decide (b ≤ 122)) || decide (b = 95)
def bigR (b : Int) : Bool := decide (65 ≤ b) && decide (b ≤ 90)
def headR (great : Bool) (b : Int) : Bool := if great then bigR b else smallR b
def nOk (great first : Bool) (b : Int) : Bool := (smallR b || bigR b || digR b) && (!first || headR great b)
theorem named_round (k : Nat) (x0 : ByteArray) (x1 : Bool) (i : Int) (h0 : 0 ≤ i) (h1 : i < (x0.size : Int)) :
    windlassref3_Named.l0 (k + 1) x0 x1 i = if nOk x1 (decide (i = 0)) (bt x0 i) = true then windlassref3_Named.l0 k x0 x1 (wrap64 (i + 1)) else some false := by
  simp only [windlassref3_Named.l0]
  rw [if_pos h1, if_pos h0]
  generalize bt x0 i = b
  generalize windlassref3_Named.l0 k x0 x1 (wrap64 (i + 1)) = X
  by_cases hi : i = 0
  · simp only [hi, if_true, decide_true]
    cases x1
    all_goals
      simp only [nOk, headR, smallR, bigR, digR, Bool.and_eq_true, Bool.or_eq_true, Bool.not_true, Bool.false_or, decide_eq_true_eq, if_true, Bool.false_eq_true, if_false]
      repeat' split
      all_goals first | rfl | (exfalso; omega)
  · simp only [hi, if_false, decide_false]
    simp only [nOk, headR, smallR, bigR, digR, Bool.and_eq_true, Bool.or_eq_true, Bool.not_false, Bool.true_or, decide_eq_true_eq, and_true]
    repeat' split
    all_goals first | rfl | (exfalso; omega)
theorem named_loop {s : List UInt8} (hs : s.length ≤ 4096) (g : Bool) : ∀ (n : Nat) (r : List UInt8) (i : Nat), r.length ≤ n → s.drop i = r → i ≤ s.length → 1 ≤ i →
    Ev (fun k => windlassref3_Named.l0 k (bs s) g i) (r.all fun c => lodR c.toNat) := by
  intro n
  induction n with
  | zero =>
    intro r i h1 h2 h3 h4
    obtain rfl : r = [] := List.eq_nil_of_length_eq_zero (by omega)
    have hi : i = s.length := by have := congrArg List.length h2; simp at this; omega
    refine Ev.step (f := fun _ => some true) (fun k => ?_) (Ev.now _)
    simp only [windlassref3_Named.l0]
    rw [if_neg (by rw [bs_size]; omega)]
  | succ n ih =>
    intro r i h1 h2 h3 h4
    cases r with
    | nil =>
      have hi : i = s.length := by have := congrArg List.length h2; simp at this; omega
      refine Ev.step (f := fun _ => some true) (fun k => ?_) (Ev.now _)
      simp only [windlassref3_Named.l0]
      rw [if_neg (by rw [bs_size]; omega)]
    | cons c r =>
      obtain ⟨g1, g2, g3, g4⟩ := drop_at0 h2
      have hb := bt_bs g1
      have hA : (i : Int) < ((bs s).size : Int) := by rw [bs_size]; omega
      have hB : (0 : Int) ≤ (i : Int) := by omega
      have hl : r.length ≤ n := by simp at h1; omega
      have hle : i ≤ 1099511627776 := by omega
      have hi1 : i + 1 ≤ s.length := by omega
      have hi0 : decide ((i : Int) = 0) = false := by simp; omega
      have hok : nOk g false (c.toNat : Int) = lodR c.toNat := by
        rw [Bool.eq_iff_iff]
        simp [nOk, smallR, bigR, digR, lodR, letR]
        omega
      have R : ∀ k, windlassref3_Named.l0 (k + 1) (bs s) g i = if lodR c.toNat = true then windlassref3_Named.l0 k (bs s) g ((i + 1 : Nat) : Int) else some false := by
        intro k
        rw [named_round k (bs s) g i hB hA, hb, hi0, hok, wr1 i hle]
      cases hlod : lodR c.toNat with
      | true =>
        have : ((c :: r).all fun c => lodR c.toNat) = r.all fun c => lodR c.toNat := by simp [hlod]
        rw [this]
        refine Ev.step (fun k => ?_) (ih r (i + 1) hl g3 hi1 (by omega))
        rw [R, hlod]; rfl
      | false =>
        have : ((c :: r).all fun c => lodR c.toNat) = false := by simp [hlod]
        rw [this]
        refine Ev.step (f := fun _ => some false) (fun k => ?_) (Ev.now _)
        rw [R, hlod]; rfl
def namedB (s : List UInt8) (g : Bool) : Bool := match s with
  | [] => false
  | c :: r => decide (r.length < 20) && headR g c.toNat && r.all fun c => lodR c.toNat
theorem named_ev {s : List UInt8} (hs : s.length ≤ 5000) (g : Bool) : Ev (fun k => windlassref3_Named.f k (bs s) g) (namedB s g) := by
  have no : Ev (fun k => windlassref3_Named.j0 k (bs s) g true) false := by
    refine Ev.step (f := fun _ => some false) (fun k => ?_) (Ev.now _)
    simp only [windlassref3_Named.j0]
    rw [if_pos trivial]
  cases s with
  | nil =>
    refine Ev.congr (fun k => ?_) no
    unfold windlassref3_Named.f
    rw [if_pos (by rw [bs_size]; simp)]
  | cons c r =>
    by_cases hl : r.length < 20
    · have N := named_loop (s := c :: r) (by simp; omega) g r.length r 1 (Nat.le_refl _) rfl (by simp) (Nat.le_refl _)
      have hb := bt_bs (l := c :: r) (a := 0) (c := c) rfl
      have hA : ((0 : Nat) : Int) < ((bs (c :: r)).size : Int) := by rw [bs_size, List.length_cons]; omega
      have R : ∀ k, windlassref3_Named.l0 (k + 1) (bs (c :: r)) g ((0 : Nat) : Int) = if headR g c.toNat = true then windlassref3_Named.l0 k (bs (c :: r)) g ((1 : Nat) : Int) else some false := by
        intro k
        have hok : nOk g true (c.toNat : Int) = headR g c.toNat := by
          rw [Bool.eq_iff_iff]
          cases g
          all_goals
            simp [nOk, headR, smallR, bigR, digR]
            omega
        rw [named_round k (bs (c :: r)) g _ (by omega) hA, hb, show decide (((0 : Nat) : Int) = 0) = true from rfl, hok, wr1 0 (by omega)]
      have H : Ev (fun k => windlassref3_Named.l0 k (bs (c :: r)) g ((0 : Nat) : Int)) (namedB (c :: r) g) := by
        show Ev _ (decide (r.length < 20) && headR g c.toNat && r.all fun c => lodR c.toNat)
        rw [decide_eq_true hl, Bool.true_and]
        cases hh : headR g c.toNat with
        | true =>
          rw [Bool.true_and]
          refine Ev.step (fun k => ?_) N
          rw [R, hh]; rfl
        | false =>
          refine Ev.step (f := fun _ => some false) (fun k => ?_) (Ev.now _)
          rw [R, hh]; rfl
      have J : Ev (fun k => windlassref3_Named.j0 k (bs (c :: r)) g false) (namedB (c :: r) g) := by
        refine Ev.step (fun k => ?_) H
        simp only [windlassref3_Named.j0]
        rw [if_neg (by simp)]
        rfl
      refine Ev.congr (fun k => ?_) J
      unfold windlassref3_Named.f
      rw [if_neg (by rw [bs_size]; simp; omega), decide_eq_false (by rw [bs_size]; simp; omega)]
    · have : namedB (c :: r) g = false := by
        show (decide (r.length < 20) && headR g c.toNat && r.all fun c => lodR c.toNat) = false
        rw [decide_eq_false hl]; rfl
      rw [this]
      refine Ev.congr (fun k => ?_) no
      unfold windlassref3_Named.f
      rw [if_neg (by rw [bs_size]; simp; omega), decide_eq_true (by rw [bs_size]; simp; omega)]
/-- A name. -/
def nameB (s : List UInt8) : Bool := match s with
  | [] => false
  | c :: r => decide (r.length < 20) && letR c.toNat && (r.all fun c => lodR c.toNat) && !wordsL.contains (c :: r)
theorem name_ev {s : List UInt8} (hs : s.length ≤ 5000) : Ev (fun k => windlassref5_Name.f k (bs s)) (nameB s) := by
  have key : nameB s = ((namedB s false || namedB s true) && !wordsL.contains s) := by
    cases s with
    | nil => rfl
    | cons c r =>
      have : letR c.toNat = (headR false c.toNat || headR true c.toNat) := by
        rw [Bool.eq_iff_iff]
        simp [letR, headR, smallR, bigR]
        omega
      simp only [nameB, namedB]
      rw [this]
      cases decide (r.length < 20) <;> cases headR false c.toNat <;> cases headR true c.toNat <;> cases (r.all fun c => lodR c.toNat) <;> cases wordsL.contains (c :: r) <;> rfl
  rw [key]
  have W := isWord_ev s
  refine Ev.congr (fun k => ?_) (Ev.bind (f := fun k (t : Bool) => (if t = true then ((windlassref5_isWord.f k (bs s)).bind fun t157 => (some (!t157))) else ((windlassref3_Named.f k (bs s) true).bind fun t158 => (if t158 = true then ((windlassref5_isWord.f k (bs s)).bind fun t159 => (some (!t159))) else (some false))))) (named_ev hs false) ?_)
  · unfold windlassref5_Name.f; rfl
  · cases namedB s false with
    | true =>
      refine Ev.congr (fun k => ?_) (Ev.bind (f := fun _ (t : Bool) => some (!t)) W (Ev.now _))
      rfl
    | false =>
      refine Ev.congr (fun k => ?_) (Ev.bind (f := fun k (t : Bool) => (if t = true then ((windlassref5_isWord.f k (bs s)).bind fun t159 => (some (!t159))) else (some false))) (named_ev hs true) ?_)
      · rfl
      · cases namedB s true with
        | true =>
          refine Ev.congr (fun k => ?_) (Ev.bind (f := fun _ (t : Bool) => some (!t)) W (Ev.now _))
          rfl
        | false =>
          refine Ev.congr (f := fun _ => some false) (fun k => ?_) (Ev.now _)
          rfl

/-! quotes -/
theorem nb_small2 (l : List UInt8) (h : l.length ≤ 20000) : (nb l).length < 140737488355328 := by rw [nb_len]; exact Nat.lt_of_le_of_lt h (by decide)
theorem quote_loop {s : List UInt8} (hs : s.length ≤ 5000) : ∀ (n : Nat) (r acc : List UInt8) (i : Nat), r.length ≤ n → s.drop i = r → i ≤ s.length → acc.length ≤ 1 + 2 * i →
    Ev (fun k => windlassref3_Quote.l0 k (bs s) (nb acc) i) (bs (acc ++ (dbl r ++ [34]))) := by
  intro n
  induction n with
  | zero =>
    intro r acc i h1 h2 h3 h4
    obtain rfl : r = [] := List.eq_nil_of_length_eq_zero (by omega)
    have hi : i = s.length := by have := congrArg List.length h2; simp at this; omega
    have hl := nb_small2 acc (by omega)
    refine Ev.step (f := fun _ => some (strOfNums (nb acc ++ [34]))) (fun k => ?_) ?_
    · simp only [windlassref3_Quote.l0]
      rw [if_neg (by rw [bs_size]; omega), if_pos hl]
    · rw [show nb acc ++ [34] = nb (acc ++ [34]) from nb_snoc acc 34, str_nb]
      exact Ev.now _
  | succ n ih =>
    intro r acc i h1 h2 h3 h4
    cases r with
    | nil =>
      have hi : i = s.length := by have := congrArg List.length h2; simp at this; omega
      have hl := nb_small2 acc (by omega)
      refine Ev.step (f := fun _ => some (strOfNums (nb acc ++ [34]))) (fun k => ?_) ?_
      · simp only [windlassref3_Quote.l0]
        rw [if_neg (by rw [bs_size]; omega), if_pos hl]
      · rw [show nb acc ++ [34] = nb (acc ++ [34]) from nb_snoc acc 34, str_nb]
        exact Ev.now _
    | cons c r =>
      obtain ⟨g1, g2, g3, g4⟩ := drop_at0 h2
      have hb := bt_bs g1
      have hA : (i : Int) < ((bs s).size : Int) := by rw [bs_size]; omega
      have hB : (0 : Int) ≤ (i : Int) := by omega
      have hln : r.length ≤ n := by simp at h1; omega
      have hle : i ≤ 1099511627776 := by omega
      have hi1 : i + 1 ≤ s.length := by omega
      have hl := nb_small2 acc (by omega)
      have hl2 := nb_small2 (acc ++ [c]) (by simp; omega)
      by_cases hc : c = 34
      · subst hc
        have hb34 : bt (bs s) (i : Int) = 34 := hb
        have e : acc ++ (dbl (34 :: r) ++ [34]) = acc ++ [34] ++ [34] ++ (dbl r ++ [34]) := by simp [dbl]
        rw [e]
        refine Ev.step (fun k => ?_) (ih r (acc ++ [34] ++ [34]) (i + 1) hln g3 hi1 (by simp; omega))
        simp only [windlassref3_Quote.l0]
        rw [if_pos hA, if_pos hB, if_pos hl, hb34]
        simp only [Option.bind_some, if_true]
        rw [show nb acc ++ [34] = nb (acc ++ [34]) from nb_snoc acc 34, if_pos hl2, show nb (acc ++ [34]) ++ [34] = nb (acc ++ [34] ++ [34]) from nb_snoc _ 34, wr1 i hle]
      · have e : acc ++ (dbl (c :: r) ++ [34]) = acc ++ [c] ++ (dbl r ++ [34]) := by simp [dbl, hc]
        rw [e]
        have hb34 : ¬ ((c.toNat : Int) = 34) := fun h => hc ((u8_is 34).1 h)
        refine Ev.step (fun k => ?_) (ih r (acc ++ [c]) (i + 1) hln g3 hi1 (by simp; omega))
        simp only [windlassref3_Quote.l0]
        rw [if_pos hA, if_pos hB, if_pos hl, hb]
        simp only [Option.bind_some]
        rw [if_neg hb34, nb_snoc, wr1 i hle]
theorem quote_ev {s : List UInt8} (hs : s.length ≤ 5000) : Ev (fun k => windlassref5_Quote.f k (bs s)) (bs (quoteL s)) := by
  have Q := quote_loop hs s.length s [34] 0 (Nat.le_refl _) rfl (by omega) (by simp)
  refine Ev.congr (fun k => ?_) (Ev.bind (f := fun _ (t : ByteArray) => some t) Q (Ev.now _))
  unfold windlassref5_Quote.f windlassref3_Quote.f
  rfl

/-! the words' rows -/
theorem texts_loop (l : List (List UInt8)) (hl : l.length ≤ 4096) : ∀ (n i : Nat), l.length - i ≤ n → i ≤ l.length → Ev (fun k => windlasshelp_Texts.l0 k (l.map bs) (l.map bs) i) true := by
  intro n
  induction n with
  | zero =>
    intro i h1 h2
    refine Ev.step (f := fun _ => some true) (fun k => ?_) (Ev.now _)
    simp only [windlasshelp_Texts.l0]
    rw [if_neg (by rw [List.length_map]; omega)]
  | succ n ih =>
    intro i h1 h2
    by_cases hi : i < l.length
    · have hA : (i : Int) < ((l.map bs).length : Int) := by rw [List.length_map]; omega
      have IH := ih (i + 1) (by omega) (by omega)
      have hle : i ≤ 1099511627776 := by omega
      refine Ev.step (fun k => ?_) IH
      simp only [windlasshelp_Texts.l0]
      rw [if_pos hA, if_pos (by omega), if_pos hA, if_pos trivial, wr1 i hle]
    · refine Ev.step (f := fun _ => some true) (fun k => ?_) (Ev.now _)
      simp only [windlasshelp_Texts.l0]
      rw [if_neg (by rw [List.length_map]; omega)]
theorem texts_ev (l : List (List UInt8)) (hl : l.length ≤ 4096) : Ev (fun k => windlasshelp_Texts.f k (l.map bs) (l.map bs)) true := by
  refine Ev.congr (fun k => ?_) (texts_loop l hl l.length 0 (by omega) (by omega))
  unfold windlasshelp_Texts.f
  rw [if_pos rfl]
  rfl
theorem tokens_loop (l : List S28) (hl : l.length ≤ 5000) : ∀ (n i : Nat), l.length - i ≤ n → i ≤ l.length → Ev (fun k => windlasshelp_Tokens.l0 k l l i) true := by
  intro n
  induction n with
  | zero =>
    intro i h1 h2
    refine Ev.step (f := fun _ => some true) (fun k => ?_) (Ev.now _)
    simp only [windlasshelp_Tokens.l0]
    rw [if_neg (by omega)]
  | succ n ih =>
    intro i h1 h2
    by_cases hi : i < l.length
    · have hA : (i : Int) < (l.length : Int) := by omega
      have IH := ih (i + 1) (by omega) (by omega)
      have hle : i ≤ 1099511627776 := by omega
      refine Ev.step (fun k => ?_) IH
      simp only [windlasshelp_Tokens.l0]
      rw [if_pos hA, if_pos (by omega), if_pos hA, if_neg (by simp), wr1 i hle]
    · refine Ev.step (f := fun _ => some true) (fun k => ?_) (Ev.now _)
      simp only [windlasshelp_Tokens.l0]
      rw [if_neg (by omega)]
theorem sameTokens_ev (l : List S28) (hl : l.length ≤ 5000) : Ev (fun k => windlasshelp_Tokens.f k l l) true := by
  refine Ev.congr (fun k => ?_) (tokens_loop l hl l.length 0 (by omega) (by omega))
  unfold windlasshelp_Tokens.f
  rw [if_pos rfl]
  rfl
end Go.Proofs.YtenbcmlacmepgaaDoor.PLexTokens
