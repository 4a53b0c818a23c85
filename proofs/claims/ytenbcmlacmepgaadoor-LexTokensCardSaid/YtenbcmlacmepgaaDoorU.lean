/- Plain law: the reference's tokens are the program's. -/
import Derived.Test.YtenbcmlacmepgaaDoorT
namespace Go.Proofs.YtenbcmlacmepgaaDoor.PLexTokens
open Go.RowKit Go.Proofs.YtenbcmlacmepgaaDoorW.PrintWords Go.Proofs.YtenbcmlacmepgaaDoorW.PrintLast Go.Proofs.YtenbcmlacmepgaaDoorW.PrintMore

/-! sign -/
def headOk : (List UInt8 → Bool) := fun x => match x with
  | c :: _ => sgB.contains c
  | [] => false
theorem sign_heads : ∀ x ∈ signsL, headOk x = true := by decide
theorem sign_out {c : UInt8} (h : sgB.contains c = false) (r : List UInt8) : signOf (c :: r) = none := by
  unfold signOf
  rw [List.find?_eq_none]
  intro x hx
  have := sign_heads x hx
  cases x with
  | nil => simp [headOk] at this
  | cons d x =>
    have hd : sgB.contains d = true := this
    intro hp
    simp only [List.isPrefixOf_cons_cons, Bool.and_eq_true, beq_iff_eq] at hp
    rw [hp.1, h] at hd
    cases hd
theorem one_in : ∀ c ∈ oneL, sgB.contains c = true := by decide
theorem two_in : ∀ x ∈ twoL, headOk x = true := by decide
def sgnIs (c d : UInt8) : Bool := sgn [c, d] == (signOf [c, d]).getD []
theorem sgn_all : (sgB.all fun c => (List.range 256).all fun m => sgnIs c (UInt8.ofNat m)) = true := by decide +kernel
def sgnOne (c : UInt8) : Bool := sgn [c] == (signOf [c]).getD []
theorem sgn_one_all : (sgB.all sgnOne) = true := by decide +kernel
theorem sgn_sign (c : UInt8) (r : List UInt8) : sgn (c :: r) = (signOf (c :: r)).getD [] := by
  cases hc : sgB.contains c with
  | false =>
    rw [sign_out hc]
    have h1 : oneL.contains c = false := by
      rw [Bool.eq_false_iff]
      intro h
      rw [one_in c (List.contains_iff_mem.1 h)] at hc
      cases hc
    cases r with
    | nil =>
      show (if oneL.contains c then [c] else []) = _
      rw [h1]; rfl
    | cons d r =>
      have h2 : twoL.contains [c, d] = false := by
        rw [Bool.eq_false_iff]
        intro h
        have := two_in _ (List.contains_iff_mem.1 h)
        have this : sgB.contains c = true := this
        rw [this] at hc
        cases hc
      show (if twoL.contains [c, d] then [c, d] else if oneL.contains c then [c] else []) = _
      rw [h1, h2]; rfl
  | true =>
    have hm := List.contains_iff_mem.1 hc
    cases r with
    | nil => simpa [sgnOne] using List.all_eq_true.1 sgn_one_all c hm
    | cons d r =>
      have h1 := List.all_eq_true.1 (List.all_eq_true.1 sgn_all c hm) d.toNat (List.mem_range.2 d.toNat_lt)
      rw [UInt8.ofNat_toNat] at h1
      have h2 : sgn [c, d] = (signOf [c, d]).getD [] := by simpa [sgnIs] using h1
      rw [sign_two]
      exact h2
theorem sign_f {s : List UInt8} {a : Nat} {c : UInt8} {r : List UInt8} (hs : s.length ≤ 4096) (h : s.drop a = c :: r) : windlassref5_sign.f (bs s) (a : Int) = some (bs ((signOf (c :: r)).getD [])) := by
  obtain ⟨_, g2, _, _⟩ := drop_at0 h
  unfold windlassref5_sign.f
  rw [if_pos ⟨by omega, by rw [bs_size]; omega, by rw [bs_size]; omega⟩, bs_list, Int.toNat_natCast, h, sgn_sign]

/-! the tokens -/
def toS (t : Tk) : S28 := ⟨(t.kind : Int), bs t.text, (t.at_ : Int)⟩
def res : Except (Nat × Nat) (List Tk) → List S28 × Int × Int
  | .ok l => (l.map toS, 0, 0)
  | .error (a, e) => ([], (a : Int), (e : Int))
def outS (l : List Tk) : List S28 := l.map toS
theorem outS_snoc (l : List Tk) (t : Tk) : outS l ++ [toS t] = outS (l ++ [t]) := by simp [outS]
theorem outS_len (l : List Tk) (h : l.length ≤ 4096) : (outS l).length < 4398046511104 := by
  unfold outS
  rw [List.length_map]
  exact Nat.lt_of_le_of_lt h (by decide)
theorem at_end {s : List UInt8} (hs : s.length ≤ 4096) (out : List Tk) (ho : out.length ≤ 4096) : Ev (fun k => windlassref5_Tokens.l0 k (bs s) (outS out) ((s.length : Nat) : Int)) (res (.ok (out ++ [⟨0, [], s.length⟩]))) := by
  refine Ev.step (f := fun _ => some (outS out ++ [(⟨0, (⟨#[]⟩ : ByteArray), ((bs s).size : Int)⟩ : S28)], 0, 0)) (fun k => ?_) ?_
  · simp only [windlassref5_Tokens.l0]
    rw [if_neg (by rw [bs_size]; omega), if_pos (outS_len out ho)]
  · have : outS out ++ [(⟨0, (⟨#[]⟩ : ByteArray), ((bs s).size : Int)⟩ : S28)] = (out ++ [(⟨0, [], s.length⟩ : Tk)]).map toS := by
      rw [bs_size]
      simp [outS, toS, bs]
    rw [this]
    exact Ev.now _
/-- Behind a note. -/
theorem note_loop {s : List UInt8} (hs : s.length ≤ 4096) (out : List Tk) (R : List S28 × Int × Int) : ∀ (n : Nat) (r : List UInt8) (i : Nat), r.length ≤ n → s.drop i = r → i ≤ s.length →
    Ev (fun k => windlassref5_Tokens.l0 k (bs s) (outS out) ((i + lineN r : Nat) : Int)) R → Ev (fun k => windlassref5_Tokens.l1 k (bs s) (outS out) i) R := by
  intro n
  induction n with
  | zero =>
    intro r i h1 h2 h3 H
    obtain rfl : r = [] := List.eq_nil_of_length_eq_zero (by omega)
    have hi : i = s.length := by have := congrArg List.length h2; simp at this; omega
    refine Ev.step (fun k => ?_) H
    simp only [windlassref5_Tokens.l1]
    rw [if_neg (by rw [bs_size]; omega)]
    rfl
  | succ n ih =>
    intro r i h1 h2 h3 H
    cases r with
    | nil =>
      have hi : i = s.length := by have := congrArg List.length h2; simp at this; omega
      refine Ev.step (fun k => ?_) H
      simp only [windlassref5_Tokens.l1]
      rw [if_neg (by rw [bs_size]; omega)]
      rfl
    | cons c r =>
      obtain ⟨g1, g2, g3, g4⟩ := drop_at0 h2
      have hb := bt_bs g1
      have hA : (i : Int) < ((bs s).size : Int) := by rw [bs_size]; omega
      have hB : (0 : Int) ≤ (i : Int) := by omega
      have hl : r.length ≤ n := by simp at h1; omega
      have hle : i ≤ 1099511627776 := by omega
      have hi1 : i + 1 ≤ s.length := by omega
      by_cases hc : c = 10
      · subst hc
        have hb10 : bt (bs s) (i : Int) = 10 := hb
        refine Ev.step (fun k => ?_) H
        simp only [windlassref5_Tokens.l1]
        rw [if_pos hA, if_pos hB, if_pos hb10]
        rfl
      · have hb10 : ¬ (bt (bs s) (i : Int) = 10) := by
          rw [hb]
          exact fun h => hc (UInt8.toNat_inj.1 (by have : (10 : UInt8).toNat = 10 := rfl; omega))
        have hn : lineN (c :: r) = lineN r + 1 := by simp [lineN, hc]
        rw [hn] at H
        refine Ev.step (fun k => ?_) (ih r (i + 1) hl g3 hi1 (by rw [show i + 1 + lineN r = i + (lineN r + 1) by omega]; exact H))
        simp only [windlassref5_Tokens.l1]
        rw [if_pos hA, if_pos hB, if_neg hb10, wr1 i hle]
/-- A word's, a name's end. -/
theorem word_loop {s : List UInt8} (hs : s.length ≤ 4096) (out : List Tk) (ho : out.length ≤ 4096) (a : Nat) (R : List S28 × Int × Int) : ∀ (n : Nat) (r : List UInt8) (i : Nat), r.length ≤ n → s.drop i = r → i ≤ s.length → a ≤ i →
    Ev (fun k => windlassref5_Tokens.l0 k (bs s) (outS (out ++ [⟨wordK ((s.drop a).take (i + runN lodR r - a)), (s.drop a).take (i + runN lodR r - a), a⟩])) ((i + runN lodR r : Nat) : Int)) R → Ev (fun k => windlassref5_Tokens.l2 k (bs s) (outS out) i a) R := by
  have stop : ∀ (i : Nat), a ≤ i → i ≤ s.length → Ev (fun k => windlassref5_Tokens.l0 k (bs s) (outS (out ++ [⟨wordK ((s.drop a).take (i - a)), (s.drop a).take (i - a), a⟩])) (i : Int)) R →
      Ev (fun k => if 0 ≤ (a : Int) then (if (a : Int) ≤ (i : Int) then (if (i : Int) ≤ ((bs s).size : Int) then ((windlassref5_isWord.f k ((bs s).extract (a : Int).toNat (i : Int).toNat)).bind fun t132 => (if t132 = true then (if (outS out).length < 4398046511104 then (windlassref5_Tokens.l0 k (bs s) (outS out ++ [(⟨2, (bs s).extract (a : Int).toNat (i : Int).toNat, (a : Int)⟩ : S28)]) (i : Int)) else (none)) else (if (outS out).length < 4398046511104 then (windlassref5_Tokens.l0 k (bs s) (outS out ++ [(⟨1, (bs s).extract (a : Int).toNat (i : Int).toNat, (a : Int)⟩ : S28)]) (i : Int)) else (none)))) else (none)) else (none)) else (none)) R := by
    intro i h1 h2 H
    have he : (bs s).extract (a : Int).toNat (i : Int).toNat = bs ((s.drop a).take (i - a)) := by rw [Int.toNat_natCast, Int.toNat_natCast, bs_extract]
    refine Ev.congr (fun k => ?_) (Ev.bind (f := fun k (t : Bool) => (if t = true then (if (outS out).length < 4398046511104 then (windlassref5_Tokens.l0 k (bs s) (outS out ++ [(⟨2, bs ((s.drop a).take (i - a)), (a : Int)⟩ : S28)]) (i : Int)) else (none)) else (if (outS out).length < 4398046511104 then (windlassref5_Tokens.l0 k (bs s) (outS out ++ [(⟨1, bs ((s.drop a).take (i - a)), (a : Int)⟩ : S28)]) (i : Int)) else (none)))) (isWord_ev ((s.drop a).take (i - a))) ?_)
    · rw [if_pos (by omega), if_pos (by omega), if_pos (by rw [bs_size]; omega), he]
    · refine Ev.congr (fun k => ?_) H
      rw [if_pos (outS_len out ho), if_pos (outS_len out ho), ← outS_snoc]
      unfold wordK toS
      cases wordsL.contains ((s.drop a).take (i - a)) <;> rfl
  intro n
  induction n with
  | zero =>
    intro r i h1 h2 h3 h4 H
    obtain rfl : r = [] := List.eq_nil_of_length_eq_zero (by omega)
    have hi : i = s.length := by have := congrArg List.length h2; simp at this; omega
    refine Ev.step (fun k => ?_) (stop i h4 h3 H)
    simp only [windlassref5_Tokens.l2]
    rw [if_neg (by rw [bs_size]; omega)]
  | succ n ih =>
    intro r i h1 h2 h3 h4 H
    cases r with
    | nil =>
      have hi : i = s.length := by have := congrArg List.length h2; simp at this; omega
      refine Ev.step (fun k => ?_) (stop i h4 h3 H)
      simp only [windlassref5_Tokens.l2]
      rw [if_neg (by rw [bs_size]; omega)]
    | cons c r =>
      obtain ⟨g1, g2, g3, g4⟩ := drop_at0 h2
      have hb := bt_bs g1
      have hA : (i : Int) < ((bs s).size : Int) := by rw [bs_size]; omega
      have hB : (0 : Int) ≤ (i : Int) := by omega
      have hl : r.length ≤ n := by simp at h1; omega
      have hle : i ≤ 1099511627776 := by omega
      have hi1 : i + 1 ≤ s.length := by omega
      cases hlod : lodR c.toNat with
      | true =>
        have hn : runN lodR (c :: r) = runN lodR r + 1 := by simp [runN, hlod]
        rw [hn, show i + (runN lodR r + 1) = i + 1 + runN lodR r by omega] at H
        have IH := ih r (i + 1) hl g3 hi1 (by omega) H
        refine Ev.step (fun k => ?_) IH
        simp only [windlassref5_Tokens.l2]
        rw [if_pos hA, if_pos hB, hb, letter_f, digit_f, wr1 i hle]
        simp only [Option.bind_some]
        cases h5 : letR c.toNat with
        | true => rfl
        | false =>
          have h6 : digR c.toNat = true := by simpa [lodR, h5] using hlod
          rw [h6]; rfl
      | false =>
        have hn : runN lodR (c :: r) = 0 := by simp [runN, hlod]
        rw [hn] at H
        have h5 : letR c.toNat = false := by
          rw [Bool.eq_false_iff]; intro h; simp [lodR, h] at hlod
        have h6 : digR c.toNat = false := by
          rw [Bool.eq_false_iff]; intro h; simp [lodR, h] at hlod
        refine Ev.step (fun k => ?_) (stop i h4 h3 H)
        simp only [windlassref5_Tokens.l2]
        rw [if_pos hA, if_pos hB, hb, letter_f, digit_f, h5, h6]
        rfl
/-- Zeros ahead struck, but for the last sign. -/
def stripZ : List UInt8 → List UInt8
  | [] => []
  | [c] => [c]
  | c :: d :: r => if c = 48 then stripZ (d :: r) else c :: d :: r
theorem strip_num : ∀ (D : List UInt8), D ≠ [] → (D.take (D.length - 1)).dropWhile (· == 48) ++ D.drop (D.length - 1) = stripZ D := by
  intro D
  induction D with
  | nil => intro h; exact absurd rfl h
  | cons c D ih =>
    intro _
    cases D with
    | nil => simp [stripZ]
    | cons d r =>
      have := ih (by simp)
      simp only [List.length_cons, Nat.add_sub_cancel] at this ⊢
      rw [List.take_succ_cons, List.drop_succ_cons]
      by_cases hc : c = 48
      · subst hc
        rw [List.dropWhile_cons_of_pos (by rfl), this]
        simp [stripZ]
      · rw [List.dropWhile_cons_of_neg (by simpa using hc), stripZ, if_neg hc, List.cons_append, List.take_append_drop]
theorem numT_strip {r : List UInt8} {n : Nat} (h1 : 1 ≤ n) (h2 : n ≤ r.length) : numT r n = stripZ (r.take n) := by
  have hl : (r.take n).length = n := by rw [List.length_take]; omega
  rw [← strip_num (r.take n) (by intro h; rw [h] at hl; simp at hl; omega), hl, List.take_take, Nat.min_eq_left (by omega)]
  rfl
theorem zero_loop {s : List UInt8} (hs : s.length ≤ 4096) (out : List Tk) (ho : out.length ≤ 4096) (a e : Nat) (he : e ≤ s.length) (R : List S28 × Int × Int) : ∀ (n p : Nat), e - p ≤ n → p < e →
    Ev (fun k => windlassref5_Tokens.l0 k (bs s) (outS (out ++ [⟨3, stripZ ((s.drop p).take (e - p)), a⟩])) (e : Int)) R → Ev (fun k => windlassref5_Tokens.l4 k (bs s) (outS out) (e : Int) a p) R := by
  have stop : ∀ (p : Nat), p < e → (stripZ ((s.drop p).take (e - p)) = (s.drop p).take (e - p)) → Ev (fun k => windlassref5_Tokens.l0 k (bs s) (outS (out ++ [⟨3, stripZ ((s.drop p).take (e - p)), a⟩])) (e : Int)) R →
      Ev (fun k => if (p : Int) ≤ (e : Int) then (if (e : Int) ≤ ((bs s).size : Int) then (if (outS out).length < 4398046511104 then (windlassref5_Tokens.l0 k (bs s) (outS out ++ [(⟨3, (bs s).extract (p : Int).toNat (e : Int).toNat, (a : Int)⟩ : S28)]) (e : Int)) else (none)) else (none)) else (none)) R := by
    intro p h1 h2 H
    have hx : (bs s).extract (p : Int).toNat (e : Int).toNat = bs ((s.drop p).take (e - p)) := by rw [Int.toNat_natCast, Int.toNat_natCast, bs_extract]
    refine Ev.congr (fun k => ?_) H
    rw [if_pos (by omega), if_pos (by rw [bs_size]; omega), if_pos (outS_len out ho), hx, ← outS_snoc, h2]
    rfl
  intro n
  induction n with
  | zero => intro p h1 h2; omega
  | succ n ih =>
    intro p h1 h2 H
    have hp : p ≤ 1099511627776 := by omega
    have hB : (0 : Int) ≤ (p : Int) := by omega
    by_cases hlast : p + 1 < e
    · have hps : p < s.length := by omega
      have hA : (p : Int) < ((bs s).size : Int) := by rw [bs_size]; omega
      have hT : ((p + 1 : Nat) : Int) < (e : Int) := by omega
      have hsplit : (s.drop p).take (e - p) = s[p] :: s[p + 1] :: (s.drop (p + 2)).take (e - (p + 2)) := by
        rw [List.drop_eq_getElem_cons hps, List.drop_eq_getElem_cons (by omega : p + 1 < s.length), show e - p = (e - (p + 2)) + 1 + 1 by omega, List.take_succ_cons, List.take_succ_cons]
      have hsplit2 : (s.drop (p + 1)).take (e - (p + 1)) = s[p + 1] :: (s.drop (p + 2)).take (e - (p + 2)) := by
        rw [List.drop_eq_getElem_cons (by omega : p + 1 < s.length), show e - (p + 1) = (e - (p + 2)) + 1 by omega, List.take_succ_cons]
      have hb := bt_bs (List.getElem?_eq_getElem hps)
      by_cases hz : s[p] = 48
      · have hst : stripZ ((s.drop p).take (e - p)) = stripZ ((s.drop (p + 1)).take (e - (p + 1))) := by rw [hsplit, hsplit2, stripZ, if_pos hz]
        rw [hst] at H
        have hb48 : bt (bs s) (p : Int) = 48 := by rw [hb, hz]; rfl
        have IH := ih (p + 1) (by omega) hlast H
        refine Ev.step (fun k => ?_) IH
        simp only [windlassref5_Tokens.l4]
        rw [wr1 p hp, if_pos hT, if_pos hB, if_pos hA, if_pos hb48]
      · have hst : stripZ ((s.drop p).take (e - p)) = (s.drop p).take (e - p) := by rw [hsplit, stripZ, if_neg hz]
        have hb48 : ¬ (bt (bs s) (p : Int) = 48) := by
          rw [hb]
          exact fun h => hz (UInt8.toNat_inj.1 (by have : (48 : UInt8).toNat = 48 := rfl; omega))
        have S := stop p h2 hst H
        refine Ev.step (fun k => ?_) S
        simp only [windlassref5_Tokens.l4]
        rw [wr1 p hp, if_pos hT, if_pos hB, if_pos hA, if_neg hb48]
    · have hT : ¬ (((p + 1 : Nat) : Int) < (e : Int)) := by omega
      have hst : stripZ ((s.drop p).take (e - p)) = (s.drop p).take (e - p) := by
        rw [show e - p = 1 by omega, List.drop_eq_getElem_cons (by omega : p < s.length)]
        rfl
      have S := stop p h2 hst H
      refine Ev.step (fun k => ?_) S
      simp only [windlassref5_Tokens.l4]
      rw [wr1 p hp, if_neg hT, if_pos hB]
theorem int_loop {s : List UInt8} (hs : s.length ≤ 4096) (out : List Tk) (ho : out.length ≤ 4096) (a : Nat) (R : List S28 × Int × Int) : ∀ (n : Nat) (r : List UInt8) (i : Nat), r.length ≤ n → s.drop i = r → i ≤ s.length → a < i + runN digR r → a ≤ i →
    Ev (fun k => windlassref5_Tokens.l0 k (bs s) (outS (out ++ [⟨3, stripZ ((s.drop a).take (i + runN digR r - a)), a⟩])) ((i + runN digR r : Nat) : Int)) R → Ev (fun k => windlassref5_Tokens.l3 k (bs s) (outS out) i a) R := by
  have stop : ∀ (i : Nat), a < i → i ≤ s.length → Ev (fun k => windlassref5_Tokens.l0 k (bs s) (outS (out ++ [⟨3, stripZ ((s.drop a).take (i - a)), a⟩])) (i : Int)) R → Ev (fun k => windlassref5_Tokens.j5 k (bs s) (outS out) i a) R := by
    intro i h1 h2 H
    refine Ev.step (fun k => ?_) (zero_loop hs out ho a i h2 R (i - a) a (Nat.le_refl _) h1 H)
    simp only [windlassref5_Tokens.j5]
  intro n
  induction n with
  | zero =>
    intro r i h1 h2 h3 h4 h5 H
    obtain rfl : r = [] := List.eq_nil_of_length_eq_zero (by omega)
    have hi : i = s.length := by have := congrArg List.length h2; simp at this; omega
    refine Ev.step (fun k => ?_) (stop i h4 h3 H)
    simp only [windlassref5_Tokens.l3]
    rw [if_neg (by rw [bs_size]; omega)]
  | succ n ih =>
    intro r i h1 h2 h3 h4 h5 H
    cases r with
    | nil =>
      have hi : i = s.length := by have := congrArg List.length h2; simp at this; omega
      refine Ev.step (fun k => ?_) (stop i h4 h3 H)
      simp only [windlassref5_Tokens.l3]
      rw [if_neg (by rw [bs_size]; omega)]
    | cons c r =>
      obtain ⟨g1, g2, g3, g4⟩ := drop_at0 h2
      have hb := bt_bs g1
      have hA : (i : Int) < ((bs s).size : Int) := by rw [bs_size]; omega
      have hB : (0 : Int) ≤ (i : Int) := by omega
      have hl : r.length ≤ n := by simp at h1; omega
      have hle : i ≤ 1099511627776 := by omega
      have hi1 : i + 1 ≤ s.length := by omega
      cases hd : digR c.toNat with
      | true =>
        have hn : runN digR (c :: r) = runN digR r + 1 := by simp [runN, hd]
        rw [hn, show i + (runN digR r + 1) = i + 1 + runN digR r by omega] at H
        have IH := ih r (i + 1) hl g3 hi1 (by omega) (by omega) H
        refine Ev.step (fun k => ?_) IH
        simp only [windlassref5_Tokens.l3]
        rw [if_pos hA, if_pos hB, hb, digit_f, hd, wr1 i hle]
        rfl
      | false =>
        have hn : runN digR (c :: r) = 0 := by simp [runN, hd]
        rw [hn] at H h4
        refine Ev.step (fun k => ?_) (stop i h4 h3 H)
        simp only [windlassref5_Tokens.l3]
        rw [if_pos hA, if_pos hB, hb, digit_f, hd]
        rfl
end Go.Proofs.YtenbcmlacmepgaaDoor.PLexTokens
